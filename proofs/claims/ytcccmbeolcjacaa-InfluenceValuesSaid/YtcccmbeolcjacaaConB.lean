/- Own work: contracts. -/
import Derived.Test.YtcccmbeolcjacaaConA
set_option linter.all false
set_option maxRecDepth 100000
namespace Go.Proofs
open Go.Hx
theorem uY {ns:List NodeP}{x:NodeP}{vals:List Int}(hin:fT x.parents ns.length)(hf:cr (aq ns) vals):cr (aQ ns x) (aL vals x.parents):=by
 refine⟨by unfold aQ;rw[fU,fU],fun k c v h1 h2=>?_⟩;obtain⟨q,hq⟩:=ay (l:=x.parents) (i:=k) (by have:=aG h2;rw[fU]at this;exact this);obtain⟨j,rfl,y,hy⟩:=kS (l:=ns) (hin q (List.mem_of_getElem? hq)).1 (hin q (List.mem_of_getElem? hq)).2;obtain⟨b,hb⟩:=ay (l:=vals) (i:=j) (by rw[hf.1,cP];exact aG hy);have e1:(aQ ns x)[k]?=some y.card:=by rw[show (aQ ns x)[k]?=_ from lg hq,Int.toNat_natCast,bU (cV hy)]
 have e2:(aL vals x.parents)[k]?=some b:=by rw[lg hq,Int.toNat_natCast,bU hb]
 rw[h1]at e1;rw[h2]at e2;cases e1;cases e2;exact hf.2 j y.card _ (cV hy) hb
structure RowAtW (g:Int)(ns:List NodeP)(x:NodeP)(vals:List Int)(v:Nat)(i:Nat)(r:List Int)(a w:Int):Prop where
 idx:bE (aQ ns x) (aL vals x.parents)=i
 row:x.rows[i]?=some r
 val:vals[v]?=some a
 a0:0<=a
 hw:r[a.toNat]?=some w
 wb:0<=w/\w<=g
 eq:rm ns vals v=w
 rv:rj ns x vals=r
 len:(r.length:Int)=x.card
 al:a<r.length
theorem rJ {g:Int}{ns:List NodeP}(h:NetOk g ns){v:Nat}{x:NodeP}(hx:ns[v]?=some x){vals:List Int}(hf:cr (aq ns) vals):∃ i r a w,RowAtW g ns x vals v i r a w:=by
 have hxm:=List.mem_of_getElem? hx;have hin:fT x.parents ns.length:=fun q hq=>by have:=(h.node x hxm).2.2 q hq;omega
 have hr:=kT (uY hin hf);obtain⟨r1,r2⟩:=h.rows x hxm;obtain⟨i,hi⟩:=Int.eq_ofNat_of_zero_le hr.1;obtain⟨r,hrr⟩:=ay (l:=x.rows) (i:=i) (by rw[<- r1,hi]at hr;omega);obtain⟨s1,s2,s3⟩:=r2 r (List.mem_of_getElem? hrr);obtain⟨a,ha⟩:=ay (l:=vals) (i:=v) (by rw[hf.1,cP];exact aG hx);have hb:=hf.2 v x.card a (cV hx) ha;obtain⟨w,hw⟩:=ay (l:=r) (i:=a.toNat) (by omega);have rv:rj ns x vals=r:=by unfold rj;rw[hi,Int.toNat_natCast,bU hrr]
 exact⟨i,r,a,w,hi,hrr,ha,hb.1,hw,s2 w (List.mem_of_getElem? hw),by unfold rm;rw[hx];simp only;rw[rv,bU ha,bU hw],rv,s1,by omega⟩
theorem yU (k:Nat)(h:k<=8):(60:Int) ^ k<=167961600000000:=by
 have h1:(60:Nat) ^ k<=60 ^ 8:=Nat.pow_le_pow_right (by decide) h;have h2:(60:Nat) ^ 8=167961600000000:=by decide
 rw[h2]at h1;have h3:=Int.ofNat_le.2 h1;rw[Int.natCast_pow]at h3;exact h3
theorem yV {g:Int}{ns:List NodeP}(h:NetOk g ns){vals:List Int}(hf:cr (aq ns) vals)(k:Nat):0<=au ((eE ns vals).take k)/\au ((eE ns vals).take k)<=167961600000000:=by
 have hb:∀ w∈eE ns vals,0<=w/\w<=60:=fun w hw=>by
  obtain⟨v,hv,rfl⟩:=List.mem_map.1 hw;obtain⟨x,hx⟩:=ay (List.mem_range.1 hv);obtain⟨i,r,a,w,hR⟩:=rJ h hx hf;rw[hR.eq];have:=hR.wb;have:=h.g1;omega
 have h1:=q6 (b:=60) (by omega) (l:=(eE ns vals).take k) fun x hx=>hb x (List.mem_of_mem_take hx);have h2:=yU ((eE ns vals).take k).length (by have:=h.n1;rw[List.length_take,rp];omega);omega
theorem Q8 (ns:List NodeP)(v:Nat)(x:NodeP)(vals:List Int)(hx:ns[v]?=some x)(hin:fT x.parents ns.length)(hs:da (aQ ns x))(hf:cr (aq ns) vals)(H:AHeap)(N n:Nat)(hN:N<H.next)
  (hg:H.get N=some (.arr 0 3 (ints vals))) (hn:n=vals.length):bD Try.prog G0 (.clo 105 [] []) [.vec ns.length (aD ns),.lit (.int .i64 v),.own N 0 0 n 1] H (.lit (.int .i64 (bE (aQ ns x) (aL vals x.parents)))) [N]:=by
 subst hn;refine bD.mk (fun i hi=>by obtain rfl:=List.mem_singleton.1 hi;exact hN) fun H2 h2 _=>?_;refine(ae.frame (H:=H2) (args:=[.vec ns.length (aD ns),.lit (.int .i64 v),.own N 0 0 vals.length 1]) (args':=[bO ns,.lit (.int .i64 v),ab vals]) (v':=.lit (.int .i64 (bE (aQ ns x) (aL vals x.parents)))) aF rfl (fun i hi _=>?_) (Rf ns v x vals hx hin hs hf bX _ ⟨_,rfl,.lit _⟩))
 match i,hi with
 | 0,_=>exact nE _
 | 1,_=>exact .lit _
 | 2,_=>exact Fz.pE ((h2 N (by simp)).trans hg) (by rw[aT]) fun c hc=>by obtain⟨z,_,rfl⟩:=List.mem_map.1 hc;exact⟨_,rfl⟩
set_option maxHeartbeats 2000000 in
theorem Ra (g:Int)(ns:List NodeP)(h:NetOk g ns)(H:AHeap)(K:ARes->AHeap->Prop)(hK:K (.ret (ab (dZ ns))) H):ae Try.prog G0 91 [bj g ns] H K:=by
 refine ae.clo ⟨_,Try.func91,rfl,rfl⟩ fun hcl=>?_;have n8:=h.n1;have hcards:∀ c∈aq ns,1<=c/\c<=4:=fun c hc=>by
  obtain⟨x,hx,rfl⟩:=List.mem_map.1 hc;exact(h.node x hx).1
 have sm:da (aq ns):=lj (by rw[cP];omega) hcards;have hp:=fg fun c hc=>(hcards c hc).1;have hsz:=h.size;have hw:((cS ns:Nat):Int)=au (aq ns):=by unfold cS;omega
 refine ae.aS (n:=51) (rs:=[.tmp 2]) Try.func91 rfl rfl rfl (by decide) (by kernel_rfl) (by simp) ?_;simp only[go_sem,bj,bO];refine aA.clo (DW ns (by omega) _ _ ⟨trivial,?_⟩);simp only[go_sem];refine aA.clo (Re (aq ns) sm _ _ ⟨trivial,?_⟩);rw[<- hw];simp only[go_sem];refine⟨by omega,?_⟩;refine aA.clo (DP (aq ns) _ _ ⟨trivial,?_⟩);simp only[go_sem];obtain⟨H2,hH2⟩:∃ H2,H2=ext (ext H [.arr 0 64 [.lit (.int .i64 g),.vec ns.length (aD ns)],.arr 0 3 (List.replicate 0 (.lit (.int .i64 0))),.arr 0 59 [.own (H.next+1) 0 0 0 1]]) [.arr 0 59 [ab (aq ns)]]:=⟨_,rfl⟩
 have n2:H2.next=H.next+4:=by rw[hH2];rfl
 have o2:Over H H2:=by rw[hH2];exact(Over.ext _ _).trans (.ext _ _)
 have g0:H2.get H.next=some (.arr 0 64 [.lit (.int .i64 g),.vec ns.length (aD ns)]):=by rw[hH2,fa];exact bu H _ 0 (by simp)
 have g1:H2.get (H.next+1)=some (.arr 0 3 []):=by rw[hH2,fa];exact bu H _ 1 (by simp)
 have g2:H2.get (H.next+2)=some (.arr 0 59 [.own (H.next+1) 0 0 0 1]):=by rw[hH2,fa];exact bu H _ 2 (by simp)
 have g3:H2.get (H.next+3)=some (.arr 0 59 [ab (aq ns)]):=by rw[hH2,fa];exact bu H _ 3 (by simp)
 refine W.env fun E hE=>?_;have e1:E 1=.ptr H.next 0 0:=by rw[hE];simp only[go_sem]
 have e4:E 4=.ptr (H.next+2) 0 0:=by rw[hE];simp only[go_sem]
 have e17:E 17=.clo 106 [] [.ptr (H.next+3) 0 0]:=by rw[hE];rfl
 clear hE;show W _ _ _ _ _ _ ⟨E,ext (ext H [.arr 0 64 [.lit (.int .i64 g),.vec ns.length (aD ns)],.arr 0 3 (List.replicate 0 (.lit (.int .i64 0))),.arr 0 59 [.own (H.next+1) 0 0 0 1]]) [.arr 0 59 [ab (aq ns)]]⟩;rw[<- hH2];have hit:=DO (aq ns) (fun c hc=>(hcards c hc).1) sm (H.next+3) (H2.next+1) (by omega);refine W.Ec (f:=106) (first:=[]) (cap:=[.ptr (H.next+3) 0 0]) (by show E 17=_;exact e17) hit
  (fun k Hx=>H2.next<Hx.next/\(∀ id,id<H2.next->id≠H.next+1->id≠H.next+2->Hx.get id=H2.get id)/\∃ gn,Hx.get (H.next+2)=some (.arr 0 59 [.own (H.next+1) gn 0 k 1])/\Hx.get (H.next+1)=some (.arr gn 3 (ints ((dZ ns).take k))))
  (fun _ _=>False)
  (fun k Hx h=>(h.2.1 _ (by omega) (by omega) (by omega)).trans g3)
  (fun k H1 H3 h hw=>⟨by have:=hw.1;omega,fun id h1 h2 h3=>(hw.2 _ (by omega) (by have:=h.1;omega)).trans (h.2.1 id h1 h2 h3),by
   obtain⟨gn,a1,a2⟩:=h.2.2;exact⟨gn,(hw.2 _ (by omega) (by have:=h.1;omega)).trans a1,(hw.2 _ (by omega) (by have:=h.1;omega)).trans a2⟩⟩)
  (fun k Hx h=>h.1)
  (fun k H1 b h=>⟨h.1,fun id h1 h2 h3=>by rw[af,if_neg (by omega)];exact h.2.1 id h1 h2 h3,by
   obtain⟨gn,a1,a2⟩:=h.2.2;exact⟨gn,by rw[af,if_neg (by omega)];exact a1,by rw[af,if_neg (by omega)];exact a2⟩⟩)
  (fun _ _ _ h=>h) (fun k H1 b h=>by unfold rI at h ⊢;rw[af,if_neg (by omega)];exact h)
  (fun b=>⟨by rw[bn];simp,fun id h1 h2 h3=>dz h1,0,by rw[dz (by omega)];exact g2,by rw[dz (by omega)];exact g1⟩) (by decide)
  (fun x hx=>by
   obtain⟨k,hk⟩:=List.mem_iff_getElem?.1 hx;obtain⟨_,rfl⟩:=uX hk;rfl) (fun _ _ _=>trivial) (fun _ _ _=>trivial) (fun k y Hx B Bb hy hj hcs hn hB hBb=>?_) (fun Hx hj hn=>?_) (fun _ hs _=>hs.elim) (fun _ _ hs _=>hs.elim)
 ·obtain⟨hk,rfl⟩:=uX hy;refine ag _ _ _ (by rfl) ?_;simp only[go_sem,iV,bR,mz,List.foldl_cons,List.foldl_nil,List.zip_cons_cons,List.zip_nil_right,hB];obtain⟨H3,hH3⟩:∃ H3,H3=Hx.upd H2.next Bb:=⟨_,rfl⟩
  rw[<- hH3];obtain⟨st,pd,n',en,ps',as',bo,hBe⟩:=hBb;have n3:H3.next=Hx.next:=by rw[hH3];rfl
  have o3:∀ id,id≠H2.next->H3.get id=Hx.get id:=fun id h=>by rw[hH3,af,if_neg h]
  have jB:H3.get H2.next=some Bb:=by rw[hH3,af,if_pos rfl]
  obtain⟨gn,a1,a2⟩:=hj.2.2;have k0:=(o3 _ (by omega)).trans ((hj.2.1 H.next (by omega) (by omega) (by omega)).trans g0);have k1:=(o3 _ (by omega)).trans a2;have k2:=(o3 _ (by omega)).trans a1;have kN:H3.get (H2.next+1)=some (.arr 0 3 (ints (bp (aq ns) k))):=(o3 _ (by omega)).trans hcs;obtain⟨vals,hvals⟩:∃ vals,vals=bp (aq ns) k:=⟨_,rfl⟩
  have hfit:cr (aq ns) vals:=by rw[hvals];exact o7 (fun c hc=>(hcards c hc).1) _
  rw[<- hvals]at kN;have hvl:vals.length=ns.length:=by rw[hfit.1,cP]
  refine W.env fun E1 hE1=>?_;have m1:E1 1=.ptr H.next 0 0:=by rw[hE1];simp only[go_sem,bR,e1]
  have m4:E1 4=.ptr (H.next+2) 0 0:=by rw[hE1];simp only[go_sem,bR,e4]
  have m6:E1 6=.own (H2.next+1) 0 0 ns.length 1:=by rw[hE1];simp only[go_sem,bR,cP]
  clear hE1;have l0:=ah k0;refine ag _ _ _ (by rfl) ?_;simp only[go_sem,m1,l0];refine W.aK 70368735789952 (by rfl) (fun ρ2 H4=>∃ v:Nat,ρ2 23=aa v/\v<=ns.length/\Over H3 H4/\ρ2 7=aa (au ((eE ns vals).take v))) (fun ρ2 H=>ns.length - (iv (ρ2 23)).toNat) ?_ ?_
  ·simp only[go_sem];exact⟨0,rfl,by omega,.refl _,by simp [fQ]⟩
  rintro ρ2 H4 ⟨v,h23,hv,o4,h7⟩;refine W.env fun E2 hE2=>?_;have p1:E2 1=.ptr H.next 0 0:=by rw[hE2];simp only[go_sem,m1]
  have p4:E2 4=.ptr (H.next+2) 0 0:=by rw[hE2];simp only[go_sem,m4]
  have p6:E2 6=.own (H2.next+1) 0 0 ns.length 1:=by rw[hE2];simp only[go_sem,m6]
  have p7:E2 7=aa (au ((eE ns vals).take v)):=by rw[hE2];simp only[go_sem,h7]
  have p21:E2 21=.vec ns.length (aD ns):=by rw[hE2];simp only[go_sem]
  have p22:E2 22=aa ns.length:=by rw[hE2];simp only[go_sem]
  have p23:E2 23=aa v:=by rw[hE2];simp only[go_sem,h23]
  clear hE2;have o4n:=o4.next;have q0:=ah ((o4.old _ (by omega)).trans k0);have q1:=ah ((o4.old _ (by omega)).trans k1);have q2:=ah ((o4.old _ (by omega)).trans k2);have gN4:=(o4.old _ (by omega)).trans kN;refine ag _ _ _ (by rfl) ?_;by_cases hb:(v:Int)<ns.length
  ·obtain⟨x,hx⟩:=ay (l:=ns) (i:=v) (by omega);have hxm:=List.mem_of_getElem? hx;obtain⟨i,r,a,w,hR⟩:=rJ h hx hfit;obtain⟨a',rfl⟩:=Int.eq_ofNat_of_zero_le hR.a0;have hin:fT x.parents ns.length:=fun q hq=>by have:=(h.node x hxm).2.2 q hq;omega
   have hne:=dH hx;have c0:=kR hx;have c1:v*3+3<=(aD ns).length:=(by rw[gv];omega);obtain⟨H5,hH5⟩:∃ H5,H5=ext H4 [.arr 0 83 [.lit (.int .i64 x.card),.vec x.parents.length (ints x.parents),ao x.rows]]:=⟨_,rfl⟩
   have hpc:bD Try.prog G0 (.clo 105 [] []) [.vec ns.length (aD ns),.lit (.int .i64 v),.own (H2.next+1) 0 0 ns.length 1] H5 (.lit (.int .i64 i)) [H2.next+1]:=by
    have:=Q8 ns v x vals hx hin (km n8.2 (h.node x hxm).2 fun y hy=>(h.node y hy).1) hfit H5 (H2.next+1) ns.length (by rw[hH5,bn];omega) (by rw[hH5,c9 _ _ _ (by omega)];exact gN4) hvl.symm;rw[hR.idx]at this;exact this
   have f0:=ah (show H5.get H.next=some (.arr 0 64 [.lit (.int .i64 g),.vec ns.length (aD ns)]) by rw[hH5,c9 _ _ _ (by omega)];exact(o4.old _ (by omega)).trans k0);have f4:=ah (show H5.get H4.next=some (.arr 0 83 [.lit (.int .i64 x.card),.vec x.parents.length (ints x.parents),ao x.rows]) by rw[hH5];exact bY);have fN:=ah (show H5.get (H2.next+1)=some (.arr 0 3 (ints vals)) by rw[hH5,c9 _ _ _ (by omega)];exact gN4);have hri:=hR.row;have hrne:=aR hri;have hrl:(i:Int)<x.rows.length:=(by have:=aG hri;omega);have hva:=hR.val;have hvne:=aR hva;have hra:r[a']?=some w:=(by have:=hR.hw;rw[Int.toNat_natCast]at this;exact this);have hrane:=aR hra;have hal:=hR.al;have wt:=yV h hfit (v+1);rw[aP (uD (vals:=vals) (v:=v) (by omega)),eC,hR.eq]at wt;have w1:=IntWalk.i64_in ((v:Int)+1) (by omega);have w2:=IntWalk.i64_in (au ((eE ns vals).take v)*w) (by omega);simp only[go_sem,p21,p22,p23,hb,hne,c0,c1];rw[<- hH5];refine W.draw 16 [0,0,2,0,8,0,0,120,254,510,0,0,3072,7168,16382,32766] Try.mixed (by kernel_rfl) (by kernel_rfl) ?_;simp only[go_sem,p1,p6,p7,f0,f4,ao];refine⟨.lit (.int .i64 i),[H2.next+1],hpc,?_⟩;have hvn:(v:Int)<ns.length:=hb;simp only[go_sem,p1,p6,p7,p23,fN,hri,hrne,hrl,hra,hrane,hva,hal,hvn,w1,w2];have n5:H5.next=H4.next+1:=(by rw[hH5];rfl);exact⟨by omega,⟨_,_,_,_,_,_,_,by rw[hH5,c9 _ _ _ (by omega),o4.old _ (by omega),jB,hBe]⟩,⟨v+1,by simp,by omega,by rw[hH5];exact o4.trans (.ext _ _),by rw[aP (uD (vals:=vals) (v:=v) (by omega)),eC,hR.eq]⟩,by rw[h23];simp only[aa,aU];omega⟩
  ·rw[List.take_of_length_le (by rw[rp];omega)]at p7;have hwk:(dZ ns)[k]?=some (weight ns vals):=by
    unfold dZ;rw[List.getElem?_map,List.getElem?_range (show k<cS ns from hk),hvals];rfl
   have hkl:((dZ ns).take k).length=k:=by
    have:(dZ ns).length=cS ns:=(by simp [dZ]);have:k<cS ns:=hk;simp;omega
   have hkw:k<cS ns:=hk;have nn:¬ H.next+1=H4.next:=(by omega);have nn2:¬ H.next+2=H4.next:=(by omega);have hbd:(k+1)*8<=2 ^ 46/\k+1<=2 ^ 46:=(by omega);have q1e:∀ L,(ext H4 L).live (H.next+1) gn=some (3,ints ((dZ ns).take k)):=fun L=>(dS (by omega)).trans q1;have q2e:∀ L b,((ext H4 L).upd (H.next+1) b).live (H.next+2) 0=some (59,[.own (H.next+1) gn 0 k 1]):=fun L b=>(my (by omega)).trans ((dS (by omega)).trans q2);simp only[go_sem,p4,p7,p22,p23,hb,q2,q1e,q2e,hkl,hbd,gU,bK];obtain⟨Hf,hHf⟩:∃ Hf,Hf=((ext H4 [.arr 0 3 [.lit (.int .i64 (au (eE ns vals)))]]).upd (H.next+1) (.arr (gn+1) 3 (ints ((dZ ns).take k)++[.lit (.int .i64 (au (eE ns vals)))]))).upd (H.next+2) (.arr 0 59 [.own (H.next+1) (gn+1) 0 (k+1) 1]):=⟨_,rfl⟩
   rw[<- hHf];have hget:∀ id,id<H4.next->id≠H.next+1->id≠H.next+2->Hf.get id=H4.get id:=fun id h1 h2 h3=>by rw[hHf,af,if_neg h3,af,if_neg h2,dz h1]
   have nf:Hf.next=H4.next+1:=(by rw[hHf];rfl);have eint:ints ((dZ ns).take (k+1))=ints ((dZ ns).take k)++[.lit (.int .i64 (au (eE ns vals)))]:=(by rw[aP hwk];simp [ints,aa,weight]);refine⟨by rw[hget _ (by omega) (by omega) (by omega),o4.old _ (by omega)];exact jB,by omega,⟨by omega,fun id h1 h2 h3=>by rw[hget _ (by omega) h2 h3,o4.old _ (by omega),o3 _ (by omega)];exact hj.2.1 id h1 h2 h3,gn+1,by rw[hHf,af,if_pos rfl],by rw[hHf,af,if_neg (by omega),af,if_pos rfl,eint]⟩,?_⟩;show Hf.get (H2.next+1)=_;rw[hget _ (by omega) (by omega) (by omega),gN4,hvals]
 ·rw[yT]at hj;obtain⟨gn,a1,a2⟩:=hj.2.2;have l2:=ah a1;simp only[go_sem,e4,l2];have ovx:Over H Hx:=⟨by omega,fun id hi=>(hj.2.1 id (by omega) (by omega) (by omega)).trans (o2.old id hi)⟩
  have hlen:(dZ ns).length=(au (aq ns)).toNat:=by simp [dZ,cS]
  rw[List.take_of_length_le (by omega)]at a2;refine aw.bk aF hcl ovx ?_ hK;show Fz (fun id=>H.next<=id) Hx H.next (.own (H.next+1) gn 0 (au (aq ns)).toNat 1) (ab (dZ ns));exact .ints (S:=fun id=>H.next<=id) (o:=0) (by show H.next<=_;omega) a2 hlen.symm fun i hi=>by simp [g9,hi]
end Go.Proofs
namespace Go.Proofs
open Go.Hx
def rK (g:Int)(ns:List NodeP)(us:List UtilP):AVal:=.agg [.lit (.int .i64 g),.vec ns.length (aD ns),.vec us.length (aO us)]
theorem pC {ns:List NodeP}{us:List UtilP}(hu:∀ u∈us,UtilOk ns u)(h4:us.length<=4)(vals:List Int)(k:Nat):-400<=cz ns (us.take k) vals/\cz ns (us.take k) vals<=400:=by
 have key:∀ l:List UtilP,(∀ u∈l,UtilOk ns u)->-(100*l.length:Int)<=cz ns l vals/\cz ns l vals<=100*l.length:=by
  intro l
  induction l with
  | nil=>intro _;simp [cz]
  | cons u l ih =>
   intro h;have h1:=ih fun u hu=>h u (by simp [hu]);have h2:-100<=nj ns vals u/\nj ns vals u<=100:=by
    unfold nj;rw[List.getD_eq_getElem?_getD];cases hg:u.w[(bE (aL (aq ns) u.vars) (aL vals u.vars)).toNat]? with
    | none=>simp
    | some w=>exact(h u (by simp)).w w (List.mem_of_getElem? hg)
   simp only[cz,List.map_cons,List.sum_cons,List.length_cons]at h1 ⊢
   push_cast
   omega
 have:=key (us.take k) fun u hk=>hu u (List.mem_of_mem_take hk);have h5:(us.take k).length<=4:=by simp;omega
 omega
set_option maxHeartbeats 1000000 in
theorem Rb (g:Int)(ns:List NodeP)(us:List UtilP)(vals:List Int)(h8:ns.length<=8)(hc:∀ y∈ns,1<=y.card/\y.card<=4)(hu:∀ u∈us,UtilOk ns u)(h4:us.length<=4)(hf:cr (aq ns) vals)(H:AHeap)(K:ARes->AHeap->Prop)
  (hK:K (.ret (aa (cz ns us vals))) H):ae Try.prog G0 65 [rK g ns us,ab vals] H K:=by
 refine ae.clo ⟨_,Try.func65,rfl,rfl⟩ fun hcl=>?_;have hfl:vals.length=ns.length:=by rw[hf.1,cP]
 refine ae.aS (n:=49) (rs:=[.tmp 4]) Try.func65 rfl rfl rfl (by decide) (by kernel_rfl) (by simp) ?_;simp only[go_sem,rK];obtain⟨H1,hH1⟩:∃ H1,H1=ext H [.arr 0 124 [.lit (.int .i64 g),.vec ns.length (aD ns),.vec us.length (aO us)]]:=⟨_,rfl⟩
 have l1:H1.live H.next 0=some (124,[.lit (.int .i64 g),.vec ns.length (aD ns),.vec us.length (aO us)]):=by rw[hH1];exact ah (br ..)
 have n1:H1.next=H.next+1:=by rw[hH1];rfl
 have o1:Over H H1:=by rw[hH1];exact .ext _ _
 rw[<- hH1];refine W.aK 281474976695712 (by rfl) (fun ρ H'=>∃ k:Nat,ρ 14=aa k/\k<=us.length/\Over H1 H'/\ρ 5=aa (cz ns (us.take k) vals)) (fun ρ H=>us.length - (iv (ρ 14)).toNat) ?_ ?_
 ·simp only[go_sem];exact⟨0,rfl,by omega,.refl _,by simp [cz]⟩
 rintro ρ H' ⟨k,h14,hk,ov,h5⟩;refine W.env fun E hE=>?_;have e1:E 1=ab vals:=by rw[hE];simp only[go_sem]
 have e2:E 2=.ptr H.next 0 0:=by rw[hE];simp only[go_sem]
 have e5:E 5=aa (cz ns (us.take k) vals):=by rw[hE];simp only[go_sem,h5]
 have e12:E 12=.vec us.length (aO us):=by rw[hE];simp only[go_sem]
 have e13:E 13=aa us.length:=by rw[hE];simp only[go_sem]
 have e14:E 14=aa k:=by rw[hE];simp only[go_sem,h14]
 clear hE;refine ag _ _ _ (by rfl) ?_;have ovn:=ov.next;by_cases hb:(k:Int)<us.length;rotate_left
 ·simp only[go_sem,e5,e13,e14,hb];rw[List.take_of_length_le (by omega)];exact aw.bk aF hcl (o1.trans ov) (.lit _) hK
 obtain⟨u,hku⟩:=ay (l:=us) (i:=k) (by omega);have hum:=List.mem_of_getElem? hku;obtain⟨u1,u2,u3⟩:=hu u hum;have hne:=qZ hku;have p0:=ur hku;have p1:k*2+2<=(aO us).length:=by rw[j7];omega
 have v8:=u1.len;obtain⟨H2,hH2⟩:∃ H2,H2=ext H' [.arr 0 85 [.vec u.vars.length (ints u.vars),.vec u.w.length (ints u.w)]]:=⟨_,rfl⟩
 have m1:=ah (show H2.get H'.next=some (.arr 0 85 [.vec u.vars.length (ints u.vars),.vec u.w.length (ints u.w)]) by rw[hH2];exact bY);have m2:H2.live H.next 0=some (124,[.lit (.int .i64 g),.vec ns.length (aD ns),.vec us.length (aO us)]):=by rw[hH2];exact(dS (by omega)).trans ((ov.live (by omega)).trans l1)
 have n2:H2.next=H'.next+1:=by rw[hH2];rfl
 have sm:=pA h8 u1 hc;have hin:fT u.vars ns.length:=fun q hq=>by have:=u1.2 q hq;omega
 have fp:cr (aL (aq ns) u.vars) (aL vals u.vars):=uY (x:=⟨0,u.vars,[]⟩) hin hf;have pl:(aL (aq ns) u.vars).length=u.vars.length:=fU _ _;have vl:(aL vals u.vars).length=u.vars.length:=fU _ _;have ft:∀ j,cr ((aL (aq ns) u.vars).take j) ((aL vals u.vars).take j):=fun j=>⟨by simp [pl,vl],fun i c b h1 h2=>by
  rw[List.getElem?_take]at h1 h2;split at h1
  ·rename_i hik;rw[if_pos hik]at h2;exact fp.2 i c b h1 h2
  ·cases h1⟩
 have hr:∀ j,0<=fR ((aL (aq ns) u.vars).take j) ((aL vals u.vars).take j)/\fR ((aL (aq ns) u.vars).take j) ((aL vals u.vars).take j)<68719476737:=fun j=>by
  rw[uu (ft j).1];have a:=kT (ft j);have b:=(sm.take j).prod;omega
 simp only[go_sem,e12,e13,e14,hb,hne,p0,p1];rw[<- hH2];refine W.aK 1099509531904 (by rfl) (fun ρ2 H3=>H3=H2/\∃ j:Nat,ρ2 21=aa j/\j<=u.vars.length/\ρ2 8=aa (fR ((aL (aq ns) u.vars).take j) ((aL vals u.vars).take j))) (fun ρ2 H=>u.vars.length - (iv (ρ2 21)).toNat) ?_ ?_
 ·simp only[go_sem];exact⟨0,rfl,by omega,rfl⟩
 rintro ρ2 H3 ⟨rfl,j,h21,hj,h8'⟩;refine ag _ _ _ (by rfl) ?_;by_cases hb2:(j:Int)<u.vars.length
 ·obtain⟨q,hq⟩:=ay (l:=u.vars) (i:=j) (by omega);obtain⟨i,rfl,y,hy⟩:=kS (l:=ns) (hin q (List.mem_of_getElem? hq)).1 (hin q (List.mem_of_getElem? hq)).2;obtain⟨b,hbv⟩:=ay (l:=vals) (i:=i) (by rw[hfl];exact aG hy);have hyb:=hf.2 i y.card b (cV hy) hbv;have a1:(aL (aq ns) u.vars)[j]?=some y.card:=by rw[lg hq,Int.toNat_natCast,bU (cV hy)]
  have a2:(aL vals u.vars)[j]?=some b:=by rw[lg hq,Int.toNat_natCast,bU hbv]
  have hne2:=aR hq;have hne3:=aR hbv;have hne4:=dH hy;have ey:=iI hy;have hi:(i:Int)<ns.length:=by have:=aG hy;omega
  have hi2:(i:Int)<vals.length:=by omega
  have w1:=IntWalk.i64_in ((j:Int)+1) (by omega);have r1:=hr (j+1);rw[uw a1 a2]at r1;have r0:=hr j;have m0:0<=fR ((aL (aq ns) u.vars).take j) ((aL vals u.vars).take j)*y.card:=Int.mul_nonneg r0.1 (by omega);have w2:=IntWalk.i64_in (fR ((aL (aq ns) u.vars).take j) ((aL vals u.vars).take j)*y.card) (by omega);have w3:=IntWalk.i64_in (fR ((aL (aq ns) u.vars).take j) ((aL vals u.vars).take j)*y.card+b) (by omega);simp only[go_sem,h21,hb2,hq,hne2];refine W.draw 13 [0,0,2,6,0,30,62,126,255,0,0,1536,3584] Try.mixed (by kernel_rfl) (by kernel_rfl) ?_;simp only[go_sem,h21,h8',e1,e2,m2,hne3,hne4,hi,hi2,hbv,ey,w1,w2,w3];exact⟨⟨j+1,by simp,by omega,by rw[uw a1 a2]⟩,by omega⟩
 ·rw[List.take_of_length_le (by omega),List.take_of_length_le (by omega),uu (by rw[pl,vl])]at h8';have hx:=kT fp;obtain⟨ix,hix⟩:=Int.eq_ofNat_of_zero_le hx.1;obtain⟨w,hw⟩:=ay (l:=u.w) (i:=ix) (by omega);have hwne:=aR hw;have hwl:(ix:Int)<u.w.length:=by have:=aG hw;omega
  have eu:nj ns vals u=w:=by unfold nj;rw[hix,Int.toNat_natCast,bU hw]
  have us1:cz ns (us.take (k+1)) vals=cz ns (us.take k) vals+w:=by rw[aP hku];unfold cz;simp [eu]
  have b1:=pC hu h4 vals k;have b2:=pC hu h4 vals (k+1);rw[us1]at b2;have w1:=IntWalk.i64_in ((k:Int)+1) (by omega);have w2:=IntWalk.i64_in (cz ns (us.take k) vals+w) (by omega);rw[hix]at h8';simp only[go_sem,h21,h8',e5,e14,m1,hb2,hw,hwne,hwl,w1,w2];exact⟨by omega,⟨k+1,by simp,by omega,by rw[hH2];exact ov.trans (.ext _ _),by rw[us1]⟩,by rw[h14];simp only[aa,aU];omega⟩
theorem Rc (g:Int)(ns:List NodeP)(us:List UtilP)(vals:List Int)(h8:ns.length<=8)(hc:∀ y∈ns,1<=y.card/\y.card<=4)(hu:∀ u∈us,UtilOk ns u)(h4:us.length<=4)(hf:cr (aq ns) vals)(H:AHeap)(N n:Nat)(hN:N<H.next)
  (hg:H.get N=some (.arr 0 3 (ints vals))) (hn:n=vals.length):bD Try.prog G0 (.clo 65 [] []) [.agg [.lit (.int .i64 g),.vec ns.length (aD ns),.vec us.length (aO us)],.own N 0 0 n 1] H (.lit (.int .i64 (cz ns us vals))) [N]:=by
 subst hn;refine bD.mk (fun i hi=>by obtain rfl:=List.mem_singleton.1 hi;exact hN) fun H2 h2 _=>?_;refine(ae.frame (H:=H2) (args:=[.agg [.lit (.int .i64 g),.vec ns.length (aD ns),.vec us.length (aO us)],.own N 0 0 vals.length 1]) (args':=[rK g ns us,ab vals]) (v':=.lit (.int .i64 (cz ns us vals))) aF rfl (fun i hi _=>?_) (Rb g ns us vals h8 hc hu h4 hf bX _ ⟨_,rfl,.lit _⟩))
 match i,hi with
 | 0,_ =>
  refine .agg rfl fun i hi _=>?_
  match i,hi with
  | 0,_=>exact .lit _
  | 1,_=>exact nE _
  | 2,_ =>
   refine .vec rfl fun i hi _=>?_;have:∀ c∈aO us,Fz (fun _=>True) H2 0 c c:=by
    intro c hc;unfold aO at hc;obtain⟨r,hr,hc⟩:=List.mem_flatten.1 hc;obtain⟨x,_,rfl⟩:=List.mem_map.1 hr;unfold UtilP.cells at hc;simp only[List.mem_cons,List.not_mem_nil,or_false]at hc;rcases hc with rfl|rfl
    ·exact .cB _
    ·exact .cB _
   exact this _ (List.getElem_mem _)
 | 1,_=>exact Fz.pE ((h2 N (by simp)).trans hg) (by rw[aT]) fun c hc=>by obtain⟨z,_,rfl⟩:=List.mem_map.1 hc;exact⟨_,rfl⟩
theorem Rd (g:Int)(ns:List NodeP)(us:List UtilP)(vals:List Int)(h8:ns.length<=8)(hc:∀ y∈ns,1<=y.card/\y.card<=4)(hu:∀ u∈us,UtilOk ns u)(h4:us.length<=4)(hf:cr (aq ns) vals)(w a:Int)(hw:0<=w/\w<=167961600000000)(ha:-1000000000000000000<=a/\a<=1000000000000000000)
  (H:AHeap) (N n sb fb:Nat) (hg:H.get N=some (.arr 0 3 (ints vals))) (hn:n=vals.length) (hsb:H.get sb=some (.arr 0 3 [.lit (.int .i64 a)])) (hfb:H.get fb=some (.arr 0 124 [.lit (.int .i64 g),.vec ns.length (aD ns),.vec us.length (aO us)])) (hN:N<H.next) (hNs:N≠sb) (hfs:fb≠sb)
  (K:ARes->AHeap->Prop) (hK:K (.ret (.tup [])) (H.upd sb (.arr 0 3 [.lit (.int .i64 (a+w*cz ns us vals))]))):ae Try.prog G0 64 [.own N 0 0 n 1,.lit (.int .i64 w),.ptr sb 0 0,.ptr fb 0 0] H K:=by
 have ls:=ah hsb;have lf:=ah hfb;have hpc:=Rc g ns us vals h8 hc hu h4 hf H N n hN hg hn;have b:=pC hu h4 vals us.length;rw[List.take_of_length_le (Nat.le_refl _)]at b;have m1:-67184640000000000<=w*cz ns us vals/\w*cz ns us vals<=67184640000000000:=by
  constructor
  ·have h1:w*(-400)<=w*cz ns us vals:=Int.mul_le_mul_of_nonneg_left b.1 hw.1;omega
  ·have h1:w*cz ns us vals<=w*400:=Int.mul_le_mul_of_nonneg_left b.2 hw.1;omega
 have w1:=IntWalk.i64_in (w*cz ns us vals) (by omega);have w2:=IntWalk.i64_in (a+w*cz ns us vals) (by omega);refine ae.aS (n:=13) (rs:=[]) Try.func64 rfl rfl rfl (by decide) (by kernel_rfl) (by simp) ?_;simp only[go_sem];refine W.draw 6 [0,0,0,0,12,30] Try.mixed (by kernel_rfl) (by kernel_rfl) ?_;simp only[go_sem,ls,lf];refine⟨_,[N],hpc,?_⟩;simp only[go_sem,ls,w1,w2];exact aw.mk (Nat.le_refl _) hK
end Go.Proofs
namespace Go.Proofs
open Go.Hx
theorem QQ {ns:List NodeP}{k:Nat}(h:k<cS ns):(dZ ns)[k]?=some (weight ns (bp (aq ns) k)):=by
 unfold dZ;rw[List.getElem?_map,List.getElem?_range h];rfl
theorem QR (ns:List NodeP):(dZ ns).length=cS ns:=by simp [dZ]
theorem QS {g:Int}{ns:List NodeP}(h:NetOk g ns){vals:List Int}(hf:cr (aq ns) vals):0<=weight ns vals/\weight ns vals<=167961600000000:=by
 have:=yV h hf ns.length;rw[List.take_of_length_le (by rw[rp];omega)]at this;exact this
set_option maxHeartbeats 1000000 in
theorem QT (g:Int)(ns:List NodeP)(us:List UtilP)(h:NetOk g ns)(hu:∀ u∈us,UtilOk ns u)(h4:us.length<=4)(hBd:∀ k,k<=cS ns->-1000000000000000000<=eP ns us k/\eP ns us k<=1000000000000000000)
  (H:AHeap) (sb fb:Nat) (hsb:H.get sb=some (.arr 0 3 [.lit (.int .i64 0)])) (hfb:H.get fb=some (.arr 0 124 [.lit (.int .i64 g),.vec ns.length (aD ns),.vec us.length (aO us)])) (hlt:sb<H.next) (hltf:fb<H.next) (hfs:fb≠sb)
  (K:ARes->AHeap->Prop) (hK:∀ H',H.next<=H'.next->(∀ id,id<H.next->id≠sb->H'.get id=H.get id)->H'.get sb=some (.arr 0 3 [.lit (.int .i64 (eP ns us (cS ns)))])->K (.ret (.tup [])) H'):
  ae Try.prog G0 63 [rK g ns us,.clo 64 [] [.ptr sb 0 0,.ptr fb 0 0]] H K:=by
 have n8:=h.n1;have hcards:∀ c∈aq ns,1<=c/\c<=4:=fun c hc=>by
  obtain⟨x,hx,rfl⟩:=List.mem_map.1 hc;exact(h.node x hx).1
 have sm:da (aq ns):=lj (by rw[cP];omega) hcards;have hp:=fg fun c hc=>(hcards c hc).1;refine ae.aS (n:=24) (rs:=[]) Try.func63 rfl rfl rfl (by decide) (by kernel_rfl) (by simp) ?_;simp only[go_sem,rK];refine aA.clo (Ra g ns h _ _ ⟨trivial,?_⟩);simp only[go_sem];refine aA.clo (DW ns (by omega) _ _ ⟨trivial,?_⟩);simp only[go_sem];refine aA.clo (DP (aq ns) _ _ ⟨trivial,?_⟩);simp only[go_sem];obtain⟨H2,hH2⟩:∃ H2,H2=ext (ext H [.arr 0 124 [.lit (.int .i64 g),.vec ns.length (aD ns),.vec us.length (aO us)],.arr 0 127 (AVal.clo 64 [] [.ptr sb 0 0,.ptr fb 0 0]).cells,.arr 0 59 [ab (dZ ns)]]) [.arr 0 59 [ab (aq ns)]]:=⟨_,rfl⟩
 have n2:H2.next=H.next+4:=by rw[hH2];rfl
 have o2:Over H H2:=by rw[hH2];exact(Over.ext _ _).trans (.ext _ _)
 have g1:H2.get (H.next+1)=some (.arr 0 127 [.clo 64 [] [.ptr sb 0 0,.ptr fb 0 0]]):=by rw[hH2,fa];exact bu H _ 1 (by simp)
 have g2:H2.get (H.next+2)=some (.arr 0 59 [ab (dZ ns)]):=by rw[hH2,fa];exact bu H _ 2 (by simp)
 have g3:H2.get (H.next+3)=some (.arr 0 59 [ab (aq ns)]):=by rw[hH2,fa];exact bu H _ 3 (by simp)
 have gsb:=(o2.old _ hlt).trans hsb;have gfb:=(o2.old _ hltf).trans hfb;refine W.env fun E hE=>?_;have e3:E 3=.ptr (H.next+1) 0 0:=by rw[hE];simp only[go_sem]
 have e4:E 4=.ptr (H.next+2) 0 0:=by rw[hE];simp only[go_sem]
 have e14:E 14=.clo 106 [] [.ptr (H.next+3) 0 0]:=by rw[hE];rfl
 clear hE;show W _ _ _ _ _ _ ⟨E,ext (ext H [.arr 0 124 [.lit (.int .i64 g),.vec ns.length (aD ns),.vec us.length (aO us)],.arr 0 127 (AVal.clo 64 [] [.ptr sb 0 0,.ptr fb 0 0]).cells,.arr 0 59 [ab (dZ ns)]]) [.arr 0 59 [ab (aq ns)]]⟩;rw[<- hH2];have hit:=DO (aq ns) (fun c hc=>(hcards c hc).1) sm (H.next+3) (H2.next+1) (by omega);refine W.Ec (f:=106) (first:=[]) (cap:=[.ptr (H.next+3) 0 0]) (by show E 14=_;exact e14) hit
  (fun k Hx=>H2.next<Hx.next/\(∀ id,id<H2.next->id≠sb->Hx.get id=H2.get id)/\Hx.get sb=some (.arr 0 3 [.lit (.int .i64 (eP ns us k))]))
  (fun _ _=>False)
  (fun k Hx h=>(h.2.1 _ (by omega) (by omega)).trans g3)
  (fun k H1 H3 h hw=>⟨by have:=hw.1;omega,fun id h1 h2=>(hw.2 _ (by omega) (by have:=h.1;omega)).trans (h.2.1 id h1 h2),(hw.2 _ (by omega) (by have:=h.1;omega)).trans h.2.2⟩)
  (fun k Hx h=>h.1)
  (fun k H1 b h=>⟨h.1,fun id h1 h2=>by rw[af,if_neg (by omega)];exact h.2.1 id h1 h2,by rw[af,if_neg (by omega)];exact h.2.2⟩)
  (fun _ _ _ h=>h) (fun k H1 b h=>by unfold rI at h ⊢;rw[af,if_neg (by omega)];exact h)
  (fun b=>⟨by rw[bn];simp,fun id h1 h2=>dz h1,by rw[dz (by omega)];exact gsb⟩) (by decide)
  (fun x hx=>by
   obtain⟨k,hk⟩:=List.mem_iff_getElem?.1 hx;obtain⟨_,rfl⟩:=uX hk;rfl) (fun _ _ _=>trivial) (fun _ _ _=>trivial) (fun k y Hx B Bb hy hj hcs hn hB hBb=>?_) (fun Hx hj hn=>?_) (fun _ hs _=>hs.elim) (fun _ _ hs _=>hs.elim)
 ·obtain⟨hk,rfl⟩:=uX hy;refine ag _ _ _ (by rfl) ?_;simp only[go_sem,iV,bR,mz,List.foldl_cons,List.foldl_nil,List.zip_cons_cons,List.zip_nil_right,hB];obtain⟨H3,hH3⟩:∃ H3,H3=Hx.upd H2.next Bb:=⟨_,rfl⟩
  rw[<- hH3];obtain⟨st,pd,n',en,ps',as',bo,hBe⟩:=hBb;have n3:H3.next=Hx.next:=by rw[hH3];rfl
  have o3:∀ id,id≠H2.next->H3.get id=Hx.get id:=fun id h=>by rw[hH3,af,if_neg h]
  have jB:H3.get H2.next=some Bb:=by rw[hH3,af,if_pos rfl]
  have k1:=(o3 _ (by omega)).trans ((hj.2.1 (H.next+1) (by omega) (by omega)).trans g1);have k2:=(o3 _ (by omega)).trans ((hj.2.1 (H.next+2) (by omega) (by omega)).trans g2);have kf:=(o3 _ (by omega)).trans ((hj.2.1 fb (by omega) hfs).trans gfb);have ks:=(o3 _ (by omega)).trans hj.2.2;have kN:H3.get (H2.next+1)=some (.arr 0 3 (ints (bp (aq ns) k))):=(o3 _ (by omega)).trans hcs;obtain⟨vals,hvals⟩:∃ vals,vals=bp (aq ns) k:=⟨_,rfl⟩
  have hfit:cr (aq ns) vals:=by rw[hvals];exact o7 (fun c hc=>(hcards c hc).1) _
  rw[<- hvals]at kN;have hvl:vals.length=ns.length:=by rw[hfit.1,cP]
  refine W.env fun E1 hE1=>?_;have m3:E1 3=.ptr (H.next+1) 0 0:=by rw[hE1];simp only[go_sem,bR,e3]
  have m4:E1 4=.ptr (H.next+2) 0 0:=by rw[hE1];simp only[go_sem,bR,e4]
  have m5:E1 5=aa k:=by rw[hE1];simp only[go_sem,bR]
  have m6:E1 6=.own (H2.next+1) 0 0 ns.length 1:=by rw[hE1];simp only[go_sem,bR,cP]
  clear hE1;have l1:=ah k1;have l2:=ah k2;have hkw:k<cS ns:=hk;have hwk:=QQ hkw;rw[<- hvals]at hwk;have hwne:=aR hwk;have hkl:(k:Int)<(dZ ns).length:=by rw[QR];omega
  have hs1:=yt ns us k;rw[<- hvals]at hs1;refine ag _ _ _ (by rfl) ?_;simp only[go_sem];refine W.draw 6 [0,0,0,0,12,28] Try.mixed (by kernel_rfl) (by kernel_rfl) ?_;simp only[go_sem,m3,m4,m5,m6,l1,l2,hwk,hwne,hkl];refine aA.clo (Rd g ns us vals (by omega) (fun y hy=>(h.node y hy).1) hu h4 hfit (weight ns vals) (eP ns us k) (QS h hfit) (hBd k (by omega)) H3 (H2.next+1) ns.length sb fb kN hvl.symm ks kf (by omega) (by omega) hfs _ ⟨⟨_,_,_,_,_,_,_,by rw[af,if_neg (by omega),jB,hBe]⟩,?_⟩);simp only[go_sem];refine⟨by rw[af,if_neg (by omega)];exact jB,by rw[aC];omega,⟨⟨by rw[aC];omega,fun id h1 h2=>by rw[af,if_neg h2,o3 _ (by omega)];exact hj.2.1 id h1 h2,by rw[af,if_pos rfl,hs1]⟩,?_⟩⟩;unfold rI;rw[af,if_neg (by omega),kN,hvals]
 ·simp only[go_sem];exact aw.mk (by omega) (hK Hx (by omega) (fun id h1 h2=>(hj.2.1 id (by omega) h2).trans (o2.old _ h1)) (by have:=hj.2.2;rw[yT]at this;exact this))
end Go.Proofs
namespace Go.Proofs
open Go.Hx
theorem QU (x y:Int)(hx:0<=x)(hy:0<=y):Int.gcd y (x % y)=Int.gcd y x:=by
 obtain⟨a,rfl⟩:=Int.eq_ofNat_of_zero_le hx;obtain⟨b,rfl⟩:=Int.eq_ofNat_of_zero_le hy;rw[<- Int.natCast_emod];show Nat.gcd b (a % b)=Nat.gcd b a;rw[Nat.gcd_comm b (a % b),<- Nat.gcd_rec]
theorem QV (g:Int)(n:Nat)(hg:1<=g/\g<=60)(hn:n<=8)(H:AHeap)(K:ARes->AHeap->Prop)(hK:K (.ret (aa (g ^ n))) H):ae Try.prog G0 67 [aa g,aa n] H K:=by
 refine ae.aS (n:=14) (rs:=[.tmp 4]) Try.func67 rfl rfl rfl (by decide) (by kernel_rfl) (by simp) ?_;simp only[go_sem];refine W.aK 8096 (by rfl) (fun ρ H'=>H'=H/\∃ k:Nat,ρ 7=aa k/\k<=n/\ρ 5=aa (g ^ k)) (fun ρ H=>n - (iv (ρ 7)).toNat) ?_ ?_
 ·simp only[go_sem];exact⟨0,rfl,by omega,by rw[Int.pow_zero]⟩
 rintro ρ H' ⟨rfl,k,h7,hk,h5⟩;refine ag _ _ _ (by rfl) ?_;have hpow:∀ k:Nat,0<=g ^ k/\g ^ k<=60 ^ k:=fun k=>by
  induction k with
  | zero=>simp
  | succ k ih =>
   rw[Int.pow_succ,Int.pow_succ];exact⟨Int.mul_nonneg ih.1 (by omega),Int.mul_le_mul ih.2 hg.2 (by omega) (by have:=Int.pow_pos (n:=60) (m:=k) (by decide);omega)⟩
 by_cases hb:(k:Int)<n
 ·have h1:=hpow (k+1);have h2:=yU (k+1) (by omega);rw[Int.pow_succ]at h1;have w1:=IntWalk.i64_in (g ^ k*g) (by omega);have w2:=IntWalk.i64_in ((k:Int)+1) (by omega);simp only[go_sem,h7,h5,hb,w1,w2];exact⟨⟨k+1,rfl,by omega,by rw[Int.pow_succ]⟩,by omega⟩
 ·have e:k=n:=by omega
  subst e;simp only[go_sem,h7,h5,hb];exact aw.mk (Nat.le_refl _) hK
def iq (n d:Int):AVal:=.agg [.lit (.int .i64 (n.tdiv (Int.gcd n d:Int))),.lit (.int .i64 (d.tdiv (Int.gcd n d:Int)))]
theorem QW (n d:Int)(hn:-4611686018427387904<=n/\n<=4611686018427387904)(hd:1<=d/\d<=4611686018427387904)(H:AHeap)(K:ARes->AHeap->Prop)(hK:K (.ret (iq n d)) H):ae Try.prog G0 66 [aa n,aa d] H K:=by
 refine ae.clo ⟨_,Try.func66,rfl,rfl⟩ fun hcl=>?_;have w1:=IntWalk.i64_in (0 - n) (by omega);have w2:(if 0 - n > n then 0 - n else n)=(n.natAbs:Int):=by split<;>omega
 have w3:(if n<0 - n then 0 - n else n)=(n.natAbs:Int):=w2;refine ae.aS (n:=25) (rs:=[.cell 4 68]) Try.func66 rfl rfl rfl (by decide) (by kernel_rfl) (by simp) ?_;simp only[go_sem,w1,w2];refine W.aK 258144 (by rfl) (fun ρ H'=>H'=ext H [.arr 0 68 [.lit (.int .i64 0),.lit (.int .i64 0)]]/\∃ x y:Int,ρ 5=aa x/\ρ 6=aa y/\0<=x/\0<=y/\Int.gcd x y=Int.gcd n d) (fun ρ H=>(iv (ρ 6)).toNat) ?_ ?_
 ·simp only[go_sem];exact⟨n.natAbs,d,rfl,rfl,by omega,by omega,by simp [Int.gcd]⟩
 rintro ρ H' ⟨rfl,x,y,h5,h6,hx,hy,hg⟩;refine W.env fun E hE=>?_;have e0:E 0=aa n:=by rw[hE];simp only[go_sem]
 have e1:E 1=aa d:=by rw[hE];simp only[go_sem]
 have e4:E 4=.ptr H.next 0 0:=by rw[hE];simp only[go_sem]
 have e5:E 5=aa x:=by rw[hE];simp only[go_sem,h5]
 have e6:E 6=aa y:=by rw[hE];simp only[go_sem,h6]
 clear hE;refine ag _ _ _ (by rfl) ?_;by_cases hz:y=0
 ·subst hz;have e:x=(Int.gcd n d:Int):=by rw[<- hg,Int.gcd_zero_right];omega
  have g0:0<Int.gcd n d:=Int.gcd_pos_of_ne_zero_right _ (by omega);have hxz:¬ x=0:=by omega
  have hgn:(Int.gcd n d:Int)≠0:=by omega
  simp only[go_sem,e6];refine W.draw 6 [0,0,3,0,0,24] Try.mixed (by kernel_rfl) (by kernel_rfl) ?_;have b1:-4611686018427387904<=n.tdiv x/\n.tdiv x<=4611686018427387904:=by
   have h2:(n.tdiv x).natAbs<=n.natAbs:=(by rw[Int.natAbs_tdiv];exact Nat.div_le_self _ _);omega
  have b2:-4611686018427387904<=d.tdiv x/\d.tdiv x<=4611686018427387904:=by
   have h2:(d.tdiv x).natAbs<=d.natAbs:=(by rw[Int.natAbs_tdiv];exact Nat.div_le_self _ _);omega
  have u1:=IntWalk.i64_in (n.tdiv x) (by omega);have u2:=IntWalk.i64_in (d.tdiv x) (by omega);simp only[go_sem,e0,e1,e4,e5,hxz,u1,u2];refine aw.drop aF hcl (v':=iq n d) ?_ hK;rw[e];refine .agg rfl fun i hi _=>?_
  match i,hi with
  | 0,_=>exact .lit _
  | 1,_=>exact .lit _
 ·have m1:x.tmod y=x % y:=Int.tmod_eq_emod_of_nonneg hx;have m2:=Int.emod_nonneg x hz;have m3:=Int.emod_lt_of_pos x (show 0<y by omega);simp only[go_sem,e6,hz];refine W.draw 5 [0,0,0,6,3] Try.mixed (by kernel_rfl) (by kernel_rfl) ?_;simp only[go_sem,e5,e6,hz,m1];refine⟨⟨y,x % y,rfl,rfl,hy,m2,?_⟩,by rw[h6];simp only[aa,aU];omega⟩;rw[<- hg,Int.gcd_comm x y];exact QU x y hx (by omega)
end Go.Proofs
namespace Go.Proofs
open Go.Hx
theorem DB {g card a:Int}(hg:0<=g)(ha:0<=a/\a<card):jd g card (bw g card a):=by
 refine⟨by rw[rF];omega,fun w hw=>?_,?_⟩
 ·unfold bw at hw;rcases List.mem_or_eq_of_mem_set hw with h|h
  ·have:=List.eq_of_mem_replicate h;omega
  ·omega
 ·unfold bw;have key:∀ (n i:Nat),i<n->((List.replicate n (0:Int)).set i g).sum=g:=by
   intro n
   induction n with
   | zero=>intro i h;omega
   | succ n ih =>
    intro i h;cases i with
    | zero=>simp [List.replicate_succ]
    | succ i=>rw[List.replicate_succ,List.set_cons_succ,List.sum_cons,ih i (by omega)];omega
  exact key _ _ (by omega)
theorem mo (d:InfP)(c:Nat->Nat->Int):aq (bF d c)=aq d.nodes:=Pj
theorem dV (d:InfP)(c:Nat->Nat->Int):(bF d c).length=d.nodes.length:=jA _ _ _
theorem gT {d:InfP}{c:Nat->Nat->Int}{v:Nat}{x:NodeP}(h:d.nodes[v]?=some x):(bF d c)[v]?=some (fy d c (ba d).length v x):=mg h
theorem uU (d:InfP)(c:Nat->Nat->Int)(x:NodeP):aQ (bF d c) x=aQ d.nodes x:=by unfold aQ;rw[mo]
theorem DC (d:InfP)(c:Nat->Nat->Int):aZ (bF d c)=aZ d.nodes:=by
 apply List.ext_getElem?;intro v;unfold aZ;rw[List.getElem?_map,List.getElem?_map];rcases Nat.lt_or_ge v d.nodes.length with h|h
 ·obtain⟨x,hx⟩:=ay h;rw[gT hx,hx];simp only[Option.map_some,(j9 d c _ v x).2]
 ·rw[List.getElem?_eq_none (by rw[dV];exact h),List.getElem?_eq_none h]
theorem DD {d:InfP}{v:Nat}{x:NodeP}(hx:d.nodes[v]?=some x)(hb:d.decs.testBit v=true):(ba d)[cL d.decs v]?=some v:=o9 (aG hx) hb
theorem ki {d:InfP}{c:Nat->Nat->Int}{v:Nat}{x:NodeP}(hx:d.nodes[v]?=some x)(hb:d.decs.testBit v=true):fy d c (ba d).length v x={ x with rows:=x.rows++cM d.grain d.nodes c (cL d.decs v) x } :=
 if_pos ⟨hb,aG (DD hx hb)⟩
theorem kj {d:InfP}{c:Nat->Nat->Int}{v k:Nat}{x:NodeP}(hb:¬ d.decs.testBit v=true):fy d c k v x=x:=if_neg fun h=>hb h.1
def DE (d:InfP)(c:Nat->Nat->Int):Prop:=∀ (k v r:Nat) (x:NodeP),(ba d)[k]?=some v->d.nodes[v]?=some x->r<cw d.nodes x->0<=c k r/\c k r<x.card
theorem yM {d:InfP}(h:InfOk d){c:Nat->Nat->Int}(hc:DE d c):NetOk d.grain (bF d c):=by
 have h0:=h.net;refine⟨h0.g1,by rw[dV];exact h.n.n1,fun y hy=>?_,by have:=h0.size;rw[mo]at this ⊢;exact this,by have:=h0.acyc;rw[DC]at this ⊢;exact this,fun y hy=>?_⟩
 ·obtain⟨v,x,hx,rfl⟩:=rG hy;have:=h0.node _ (List.mem_of_getElem? (gT (c:=fun _ _=>0) hx));rw[(j9 ..).1,(j9 ..).2,dV]at this ⊢;exact this
 ·obtain⟨v,x,hx,rfl⟩:=rG hy;have h1:=h0.rows _ (List.mem_of_getElem? (gT (c:=fun _ _=>0) hx));unfold fE at h1 ⊢;rw[uU]at h1 ⊢;by_cases hb:d.decs.testBit v=true
  ·rw[ki hx hb]at h1 ⊢;have x1:=(h.n.dec v x hx hb).1;refine⟨?_,fun r hr=>?_⟩
   ·have:=h1.1;rw[show ({ x with rows:=x.rows++cM d.grain d.nodes (fun _ _=>0) (cL d.decs v) x }:NodeP).rows.length=cw d.nodes x by simp [x1,cM]]at this;rw[show ({ x with rows:=x.rows++cM d.grain d.nodes c (cL d.decs v) x }:NodeP).rows.length=cw d.nodes x by simp [x1,cM]];exact this
   ·rw[show ({ x with rows:=x.rows++cM d.grain d.nodes c (cL d.decs v) x }:NodeP).rows=x.rows++cM d.grain d.nodes c (cL d.decs v) x from rfl,x1,List.nil_append]at hr;unfold cM at hr;obtain⟨i,hi,rfl⟩:=List.mem_map.1 hr;have:=h0.g1;exact DB (by omega) (hc _ _ _ x (DD hx hb) hx (List.mem_range.1 hi))
  ·rw[kj hb]at h1 ⊢;exact h1
theorem yQ {d:InfP}{c:Nat->Nat->Int}{u:UtilP}(h:UtilOk d.nodes u):UtilOk (bF d c) u:=⟨by rw[dV];exact h.vars,by rw[mo];exact h.size,h.w⟩
theorem yR {d:InfP}{p:List (List Int)}(h:PolOk d p):DE d (fixC p):=fun k v r x hv hx hr=>by
 obtain⟨l,a,hl,ha,he,hb⟩:=DM h hv hx hr;rw[he];exact hb
def jE (d:InfP)(p:List (List Int)):Int:=eP (bF d (fixC p)) d.utils (cS d.nodes)
noncomputable def im (d:InfP)(p:List (List Int)):AVal:=if dI d p=0 then iq (jE d p) (d.grain ^ d.nodes.length) else .agg [.lit (.int .i64 0),.lit (.int .i64 0)]
theorem yS (d:InfP)(c:Nat->Nat->Int):cS (bF d c)=cS d.nodes:=by unfold cS;rw[mo]
def DF (d:InfP)(p:List (List Int)):Prop:=InfOk d->PolOk d p->∀ k,k<=cS d.nodes->-1000000000000000000<=eP (bF d (fixC p)) d.utils k/\eP (bF d (fixC p)) d.utils k<=1000000000000000000
set_option maxHeartbeats 1000000 in
theorem rC (d:InfP)(hf:InfFit d)(p:List (List Int))(hp:pB p)(hs:DF d p)(H:AHeap)(K:ARes->AHeap->Prop)(hK:K (.ret (.tup [im d p,aa (dI d p)])) H):ae Try.prog G0 23 [jv d,ao p] H K:=by
 refine ae.clo ⟨_,Try.func23,rfl,rfl⟩ fun hcl=>?_;refine ae.aS (n:=37) (rs:=[.cell 4 68,.tmp 5]) Try.func23 rfl rfl rfl (by decide) (by kernel_rfl) (by simp) ?_;simp only[go_sem,mm,eQ];obtain⟨H1,hH1⟩:∃ H1,H1=ext H [.arr 0 39 [.lit (.int .i64 d.grain),.vec d.nodes.length (aD d.nodes),.lit (.int .u64 (d.decs:Int)),.vec d.utils.length (aO d.utils)],.arr 0 68 [.lit (.int .i64 0),.lit (.int .i64 0)]]:=⟨_,rfl⟩
 have g1:H1.get H.next=some (.arr 0 39 [.lit (.int .i64 d.grain),.vec d.nodes.length (aD d.nodes),.lit (.int .u64 (d.decs:Int)),.vec d.utils.length (aO d.utils)]):=by rw[hH1];exact br ..
 have g2:H1.get (H.next+1)=some (.arr 0 68 [.lit (.int .i64 0),.lit (.int .i64 0)]):=by rw[hH1];exact bu H _ 1 (by simp)
 have l1:=ah g1;have l2:=ah g2;have n1:H1.next=H.next+2:=by rw[hH1];rfl
 have o1:Over H H1:=by rw[hH1];exact .ext _ _
 rw[<- hH1];refine aA.clo (DN d hf p hp _ _ ⟨trivial,?_⟩);by_cases hz:dI d p=0;rotate_left
 ·have hcell:(AVal.lit (.int .i64 (dI d p))).cells=[.lit (.int .i64 (dI d p))]:=rfl;have ef:nC d p=rH:=if_neg hz;have ev:im d p=.agg [.lit (.int .i64 0),.lit (.int .i64 0)]:=if_neg hz;have l2':=ah (show (ext H1 [.arr 0 64 [.lit (.int .i64 0),.vec 0 []]]).get (H.next+1)=some (.arr 0 68 [.lit (.int .i64 0),.lit (.int .i64 0)]) by rw[c9 _ _ _ (by omega)];exact g2);rw[ef];simp only[go_sem,hz,l2',rH];rw[ev]at hK;refine aw.bk (v':=.tup [.agg [.lit (.int .i64 0),.lit (.int .i64 0)],aa (dI d p)]) aF hcl (Over.upd (id:=H.next+1) (o1.trans (.ext _ _)) (Nat.le_succ _) _) (.tup rfl fun i hi _=>?_) hK
  match i,hi with
  | 0,_ =>
   refine .agg rfl fun i hi _=>?_
   match i,hi with
   | 0,_=>exact .lit _
   | 1,_=>exact .lit _
  | 1,_=>exact .lit _
 obtain⟨hok,hpo⟩:=uW.1 hz;have ef:nC d p=bj d.grain (bF d (fixC p)):=if_pos hz;have ev:im d p=iq (jE d p) (d.grain ^ d.nodes.length):=if_pos hz;rw[hz,ef,bj,bO];rw[hz,ev]at hK;have hnet:=yM hok (yR hpo);have hsum:=hs hok hpo;have hw:=yS d (fixC p);have hfl:=dV d (fixC p);obtain⟨ns,hns⟩:∃ ns,ns=bF d (fixC p):=⟨_,rfl⟩
 rw[<- hns]at hnet hsum hw hfl ⊢;obtain⟨H2,hH2⟩:∃ H2,H2=ext H1 [.arr 0 64 [.lit (.int .i64 d.grain),.vec ns.length (aD ns)]]:=⟨_,rfl⟩
 have n2:H2.next=H1.next+1:=by rw[hH2];rfl
 have o2:Over H1 H2:=by rw[hH2];exact .ext _ _
 have q1:=ah ((o2.old _ (by omega)).trans g1);have q3:=ah (show H2.get H1.next=some (.arr 0 64 [.lit (.int .i64 d.grain),.vec ns.length (aD ns)]) by rw[hH2];exact bY);rw[hH2]at q1 q3;simp only[go_sem,q1,q3];obtain⟨H3,hH3⟩:∃ H3,H3=ext H1 [.arr 0 64 [.lit (.int .i64 d.grain),.vec ns.length (aD ns)],.arr 0 124 [.lit (.int .i64 d.grain),.vec ns.length (aD ns),.vec d.utils.length (aO d.utils)],.arr 0 3 [.lit (.int .i64 0)]]:=⟨_,rfl⟩
 have n3:H3.next=H1.next+3:=by rw[hH3];rfl
 have o3:Over H H3:=by rw[hH3];exact o1.trans (.ext _ _)
 have r1:H3.get (H1.next+1)=some (.arr 0 124 [.lit (.int .i64 d.grain),.vec ns.length (aD ns),.vec d.utils.length (aO d.utils)]):=by rw[hH3];exact bu H1 _ 1 (by simp)
 have r2:H3.get (H1.next+2)=some (.arr 0 3 [.lit (.int .i64 0)]):=by rw[hH3];exact bu H1 _ 2 (by simp)
 have r0:H3.get (H.next+1)=some (.arr 0 68 [.lit (.int .i64 0),.lit (.int .i64 0)]):=by rw[hH3,c9 _ _ _ (by omega)];exact g2
 rw[<- hH3];refine aA.clo (QT d.grain ns d.utils hnet (fun u hu=>by rw[hns];exact yQ (hok.utils.2 u hu)) hok.utils.1 (fun k hk=>hsum k (by omega)) H3 (H1.next+2) (H1.next+1) r2 r1 (by omega) (by omega) (by omega) _ fun H4 h4 old hsb=>⟨trivial,?_⟩);have s1:=ah ((old (H1.next+1) (by omega) (by omega)).trans r1);have s2:=ah hsb;have s0:=ah ((old (H.next+1) (by omega) (by omega)).trans r0);rw[hw]at s2;simp only[go_sem];refine W.draw 9 [0,0,2,6,0,16,48,112,254] Try.mixed (by kernel_rfl) (by kernel_rfl) ?_;simp only[go_sem,s1,s2];have gp:=hok.net.g1;have gn:=hok.n.n1;have pw0:1<=d.grain ^ ns.length:=Int.pow_pos (by omega);have pw1:d.grain ^ ns.length<=167961600000000:=by
  have key:∀ k:Nat,d.grain ^ k<=60 ^ k:=fun k=>by
   induction k with
   | zero=>simp
   | succ k ih =>
    rw[Int.pow_succ,Int.pow_succ];exact Int.mul_le_mul ih gp.2 (by omega) (by have:=Int.pow_pos (n:=60) (m:=k) (by decide);omega)
  have:=key ns.length;have:=yU ns.length (by omega);omega
 have hsw:=hsum (cS d.nodes) (Nat.le_refl _);refine⟨aa (d.grain ^ ns.length),[],bD.pure (fun H2=>QV d.grain ns.length gp (by omega) H2 _ ⟨rfl,rfl⟩),?_⟩;refine aA.clo (QW _ _ (by omega) (by omega) _ _ ⟨trivial,?_⟩);simp only[go_sem,s0,iq];have o4:Over H H4:=⟨by have:=o3.next;omega,fun id h=>(old id (by omega) (by omega)).trans (o3.old id h)⟩
 refine aw.bk (v':=.tup [iq (jE d p) (d.grain ^ d.nodes.length),aa 0]) aF hcl (Over.upd (id:=H.next+1) o4 (Nat.le_succ _) _) (.tup rfl fun i hi _=>?_) hK
 match i,hi with
 | 0,_ =>
  unfold jE iq;rw[<- hns,hfl];refine .agg rfl fun i hi _=>?_
  match i,hi with
  | 0,_=>exact .lit _
  | 1,_=>exact .lit _
 | 1,_=>exact .lit _
end Go.Proofs
namespace Go.Proofs
open Go.Hx
set_option maxHeartbeats 1000000 in
theorem QX (cs:List Int)(h1:∀ c∈cs,1<=c)(hs:da cs)(i0:Int)(hi:0<=i0/\i0<=4611686018427387904)(H:AHeap)(K:ARes->AHeap->Prop)(hK:K (.ret (ab (bp cs i0))) H):ae Try.prog G0 78 [ab cs,aa i0] H K:=by
 refine ae.clo ⟨_,Try.func78,rfl,rfl⟩ fun hcl=>?_;have h12:=hs.1;have w0:=IntWalk.i64_in ((cs.length:Int) - 1) (by omega);refine ae.aS (n:=33) (rs:=[.tmp 4]) Try.func78 rfl rfl rfl (by decide) (by kernel_rfl) (by simp) ?_;simp only[go_sem,w0];refine⟨by omega,?_⟩;refine W.aK 4294959170 (by rfl) (fun ρ H'=>∃ m:Nat,ρ 6=aa ((m:Int) - 1)/\m<=cs.length/\OwnI H H' H.next (List.replicate m 0++bp (cs.drop m) i0)/\ρ 1=aa (i0 / au (cs.drop m))) (fun ρ H=>(iv (ρ 6)+1).toNat) ?_ ?_
 ·simp only[go_sem];refine⟨cs.length,rfl,by omega,?_,?_⟩
  ·rw[List.drop_length,show bp [] i0=[] from rfl,List.append_nil];exact .new [] _
  ·rw[List.drop_length,fQ,Int.ediv_one]
 rintro ρ H' ⟨m,h6,hm,ho,h1'⟩;refine W.env fun E hE=>?_;have e0:E 0=.vec cs.length (ints cs):=by rw[hE];simp only[go_sem]
 have e1:E 1=aa (i0 / au (cs.drop m)):=by rw[hE];simp only[go_sem,h1']
 have e5:E 5=.own H.next 0 0 cs.length 1:=by rw[hE];simp only[go_sem]
 have e6:E 6=aa ((m:Int) - 1):=by rw[hE];simp only[go_sem,h6]
 clear hE;refine ag _ _ _ (by rfl) ?_;have lN:=ho.live;have clen:(List.replicate m 0++bp (cs.drop m) i0).length=cs.length:=by simp [q8];omega
 by_cases hm0:m=0
 ·subst hm0;have e6':E 6=aa (-1):=e6;simp only[go_sem,e6',e5];exact ho.fin hcl clen.symm hK
 ·obtain⟨k,rfl⟩:∃ k,m=k+1:=⟨m - 1,by omega⟩
  have e6':E 6=aa k:=by rw[e6];congr 1;omega
  obtain⟨c,hck⟩:=ay (l:=cs) (i:=k) (by omega);have hne:=aR hck;have c1:=h1 c (List.mem_of_getElem? hck);have hcz:¬ c=0:=by omega
  have hk0:(k:Int) >= 0:=by omega
  have hkc:(k:Int)<cs.length:=by omega
  have pp:1<=au (cs.drop (k+1)):=fg fun c hc=>h1 c (List.mem_of_mem_drop hc);have q0:0<=i0 / au (cs.drop (k+1)):=Int.ediv_nonneg hi.1 (by omega);have q1:i0 / au (cs.drop (k+1))<=i0:=Int.ediv_le_self _ hi.1;have m1:(i0 / au (cs.drop (k+1))).tmod c=i0 / au (cs.drop (k+1)) % c:=Int.tmod_eq_emod_of_nonneg q0;have m2:(i0 / au (cs.drop (k+1))).tdiv c=i0 / au (cs.drop (k+1)) / c:=Int.tdiv_eq_ediv_of_nonneg q0;have m3:0<=i0 / au (cs.drop (k+1)) / c:=Int.ediv_nonneg q0 (by omega);have m4:i0 / au (cs.drop (k+1)) / c<=i0 / au (cs.drop (k+1)):=Int.ediv_le_self _ q0;have w1:=IntWalk.i64_in ((k:Int) - 1) (by omega);have w2:=IntWalk.i64_in (i0 / au (cs.drop (k+1)) / c) (by omega);simp only[go_sem,e0,e1,e5,e6',hk0,hkc,lN,hck,hne,hcz,m1,m2,w1,w2];refine⟨by rw[<- List.length_append,clen];omega,by have:=ho.hi;rw[aC];omega,⟨k,rfl,by omega,?_,?_⟩,by rw[h6];simp only[aa,aU];omega⟩
  ·have:=ho.store (k:=k) (by rw[clen];omega) (i0 / au (cs.drop (k+1)) % c);rw[show (List.replicate (k+1) (0:Int)++bp (cs.drop (k+1)) i0).set k (i0 / au (cs.drop (k+1)) % c)=List.replicate k 0++bp (cs.drop k) i0 by
    rw[O3 hck,List.replicate_succ',List.append_assoc,List.set_append_right _ _ (by simp)];simp]at this
   exact this
  ·rw[md hck,iJ,Int.mul_comm c,Int.ediv_ediv_of_nonneg (by omega)]
theorem DG (g:Int)(ns:List NodeP)(h8:ns.length<=8)(hc:∀ y∈ns,1<=y.card/\y.card<=4)(i0:Int)(hi:0<=i0/\i0<=4611686018427387904)(H:AHeap)(K:ARes->AHeap->Prop)(hK:K (.ret (ab (bp (aq ns) i0))) H):ae Try.prog G0 35 [bj g ns,aa i0] H K:=by
 refine ae.clo ⟨_,Try.func35,rfl,rfl⟩ fun hcl=>?_;have hcards:∀ c∈aq ns,1<=c/\c<=4:=fun c h=>by
  obtain⟨x,hx,rfl⟩:=List.mem_map.1 h;exact hc x hx
 have sm:da (aq ns):=lj (by rw[cP];omega) hcards;refine ae.aS (n:=9) (rs:=[.tmp 4]) Try.func35 rfl rfl rfl (by decide) (by kernel_rfl) (by simp) ?_;simp only[go_sem,bj,bO];refine aA.clo (pD g ns (by omega) _ _ ⟨trivial,?_⟩);simp only[go_sem];refine aA.clo (QX (aq ns) (fun c h=>(hcards c h).1) sm i0 hi _ _ ⟨trivial,?_⟩);simp only[go_sem];exact aw.drop aF hcl (.cB _) hK
theorem DH (g:Int)(ns:List NodeP)(h8:ns.length<=8)(hc:∀ y∈ns,1<=y.card/\y.card<=4)(H:AHeap)(K:ARes->AHeap->Prop)(hK:K (.ret (aa (au (aq ns)))) H):ae Try.prog G0 34 [bj g ns] H K:=by
 refine ae.clo ⟨_,Try.func34,rfl,rfl⟩ fun hcl=>?_;have hcards:∀ c∈aq ns,1<=c/\c<=4:=fun c h=>by
  obtain⟨x,hx,rfl⟩:=List.mem_map.1 h;exact hc x hx
 have sm:da (aq ns):=lj (by rw[cP];omega) hcards;refine ae.aS (n:=6) (rs:=[.tmp 2]) Try.func34 rfl rfl rfl (by decide) (by kernel_rfl) (by simp) ?_;simp only[go_sem,bj,bO];refine aA.clo (pD g ns (by omega) _ _ ⟨trivial,?_⟩);simp only[go_sem];refine aA.clo (uZ (aq ns) sm _ _ ⟨trivial,?_⟩);simp only[go_sem];exact aw.drop aF hcl (.lit _) hK
end Go.Proofs
namespace Go.Proofs
open Go.Hx
set_option maxHeartbeats 1000000 in
theorem QY (g:Int)(ns:List NodeP)(h:NetOk g ns)(vals:List Int)(hf:cr (aq ns) vals)(v:Nat)(x:NodeP)(hx:ns[v]?=some x)(H:AHeap)(K:ARes->AHeap->Prop)(hK:K (.ret (ab (rj ns x vals))) H):ae Try.prog G0 79 [bj g ns,aa v,ab vals] H K:=by
 refine ae.clo ⟨_,Try.func79,rfl,rfl⟩ fun hcl=>?_;have n8:=h.n1;have hxm:=List.mem_of_getElem? hx;have hin:fT x.parents ns.length:=fun q hq=>by have:=(h.node x hxm).2.2 q hq;omega
 have sm:=km n8.2 (h.node x hxm).2 fun y hy=>(h.node y hy).1;have pl:(aQ ns x).length=x.parents.length:=fU _ _;have p12:=sm.1;have hfp:=uY hin hf;obtain⟨i,r,a,w,hR⟩:=rJ h hx hf;have hne:=dH hx;have e1:=jx hx;have e2:=oY hx;have hv:(v:Int)<ns.length:=by have:=aG hx;omega
 have hvl:vals.length=ns.length:=by rw[hf.1,cP]
 have hri:=hR.row;have hrne:=aR hri;have hrl:(i:Int)<x.rows.length:=by have:=aG hri;omega
 have hidx:=hR.idx;rw[hR.rv]at hK;have hin':∀ q∈x.parents,0<=q/\q<(vals.length:Int):=fun q hq=>by rw[hvl];exact hin q hq
 refine ae.aS (n:=27) (rs:=[.tmp 6]) Try.func79 rfl rfl rfl (by decide) (by kernel_rfl) (by simp) ?_;simp only[go_sem,bj,bO];refine W.draw 18 [0,1,0,7,15,31,0,0,192,0,0,1024,0,7168,15360,31744,65472,131008] Try.mixed (by kernel_rfl) (by kernel_rfl) ?_;simp only[go_sem,hv,hne,e1,e2];refine⟨ab (aQ ns x),[],bD.pure (fun H2=>DX g ns v x hx (by omega) (by omega) hin H2 _ ⟨rfl,rfl⟩),?_⟩;simp only[go_sem];refine⟨ab (aL vals x.parents),[],bD.pure (fun H2=>rN vals x.parents (by omega) (by omega) hin' H2 _ ⟨rfl,rfl⟩),?_⟩;simp only[go_sem];refine⟨aa i,[],bD.pure (fun H2=>DQ (aQ ns x) (aL vals x.parents) sm hfp H2 _ ⟨by rw[hidx],rfl⟩),?_⟩;simp only[go_sem,hrl,ao,hri,hrne];exact aw.drop aF hcl (.cB _) hK
set_option maxHeartbeats 1000000 in
theorem QZ (g:Int)(ns:List NodeP)(h:NetOk g ns)(i0:Int)(hi:0<=i0/\i0<=4611686018427387904)(H:AHeap)(K:ARes->AHeap->Prop)(hK:K (.ret (aa (weight ns (bp (aq ns) i0)))) H):ae Try.prog G0 36 [bj g ns,aa i0] H K:=by
 refine ae.clo ⟨_,Try.func36,rfl,rfl⟩ fun hcl=>?_;have n8:=h.n1;have hcards:∀ c∈aq ns,1<=c/\c<=4:=fun c hc=>by
  obtain⟨x,hx,rfl⟩:=List.mem_map.1 hc;exact(h.node x hx).1
 refine ae.aS (n:=31) (rs:=[.tmp 4]) Try.func36 rfl rfl rfl (by decide) (by kernel_rfl) (by simp) ?_;simp only[go_sem,bj,bO];obtain⟨H1,hH1⟩:∃ H1,H1=ext H [.arr 0 64 [.lit (.int .i64 g),.vec ns.length (aD ns)]]:=⟨_,rfl⟩
 have l1:H1.live H.next 0=some (64,[.lit (.int .i64 g),.vec ns.length (aD ns)]):=by rw[hH1];exact ah (br ..)
 have o1:Over H H1:=by rw[hH1];exact .ext _ _
 rw[<- hH1];refine aA.clo (DG g ns n8.2 (fun y hy=>(h.node y hy).1) i0 hi _ _ ⟨trivial,?_⟩);obtain⟨vals,hvals⟩:∃ vals,vals=bp (aq ns) i0:=⟨_,rfl⟩
 have hfit:cr (aq ns) vals:=by rw[hvals];exact o7 (fun c hc=>(hcards c hc).1) _
 have hvl:vals.length=ns.length:=by rw[hfit.1,cP]
 rw[<- hvals]at hK ⊢;simp only[go_sem];refine W.aK 1073739968 (by rfl) (fun ρ H'=>H'=H1/\∃ v:Nat,ρ 7=aa v/\v<=ns.length/\ρ 6=aa (au ((eE ns vals).take v))) (fun ρ H=>ns.length - (iv (ρ 7)).toNat) ?_ ?_
 ·simp only[go_sem];exact⟨0,rfl,by omega,by simp [fQ]⟩
 rintro ρ H' ⟨rfl,v,h7,hv,h6⟩;refine W.env fun E hE=>?_;have e2:E 2=.ptr H.next 0 0:=by rw[hE];simp only[go_sem]
 have e5:E 5=ab vals:=by rw[hE];simp only[go_sem]
 have e6:E 6=aa (au ((eE ns vals).take v)):=by rw[hE];simp only[go_sem,h6]
 have e7:E 7=aa v:=by rw[hE];simp only[go_sem,h7]
 clear hE;refine ag _ _ _ (by rfl) ?_;by_cases hb:(v:Int)<ns.length
 ·obtain⟨x,hx⟩:=ay (l:=ns) (i:=v) (by omega);obtain⟨i,r,a,w,hR⟩:=rJ h hx hfit;obtain⟨a',rfl⟩:=Int.eq_ofNat_of_zero_le hR.a0;have hva:=hR.val;have hvne:=aR hva;have hvv:(v:Int)<vals.length:=by omega
  have hra:r[a']?=some w:=by have:=hR.hw;rw[Int.toNat_natCast]at this;exact this
  have hrane:=aR hra;have hal:=hR.al;have wt:=yV h hfit (v+1);rw[aP (uD (vals:=vals) (v:=v) (by omega)),eC,hR.eq]at wt;have w1:=IntWalk.i64_in ((v:Int)+1) (by omega);have w2:=IntWalk.i64_in (au ((eE ns vals).take v)*w) (by omega);simp only[go_sem,l1,e2,e7,hb];refine W.draw 11 [0,0,0,0,14,0,0,96,224,510,1022] Try.mixed (by kernel_rfl) (by kernel_rfl) ?_;simp only[go_sem,l1,e2,e5,e6,e7];refine⟨ab r,[],bD.pure (fun H2=>QY g ns h vals hfit v x hx H2 _ ⟨by rw[hR.rv],rfl⟩),?_⟩;simp only[go_sem,e2,e5,e6,e7,hva,hvne,hvv,hra,hrane,hal,w1,w2];refine⟨⟨v+1,rfl,by omega,?_⟩,by rw[h7];simp only[aa,aU];omega⟩;rw[aP (uD (vals:=vals) (v:=v) (by omega)),eC,hR.eq]
 ·have e:v=ns.length:=by omega
  subst e;simp only[go_sem,l1,e2,e6,e7,hb];rw[List.take_of_length_le (by rw[rp];omega)];exact aw.bk aF hcl o1 (.lit _) hK
end Go.Proofs
namespace Go.Proofs.R01
open Go.Hx
section
variable {P:Program} {t:TypeId} {x y:Operand} {k k':IntKind} {a b:Int}
theorem pureRun_bind {α β:Type}{s:Sem α}{f:α->Sem β}{a:α}(h:bt P s=some a):bt P (s >>= f)=bt P (f a):=by
 induction s with
 | pure b=>simp only[bt,Option.some.injEq]at h;subst h;rfl
 | program k ih=>exact ih P h
 | mark m k ih=>exact ih h
 | _=>simp [bt]at h
theorem QE {t:TypeId}{a b:Bool}(n:Nat)(ht:P.underlying t=some .bool):bt P (Op.equalIn (n+1) t (.bool a) (.bool b))=some (a == b):=by
 unfold Op.equalIn;simp [underlying,program,ht,bt,bind,Sem.bind,pure]
theorem QG {t:TypeId}{x y:Operand}{a b:Bool}(ht:P.underlying t=some .bool):bh P .neq t x y (.lit (.bool a)) (.lit (.bool b))=some (.lit (.bool (!(a == b)))):=by
 have h1:(do eqGuard .neq t x y (.bool a) (.bool b);binOp .neq t (.bool a) (.bool b))=(Op.equalIn (9999+1) t (.bool a) (.bool b) >>= fun r=>pure (Value.bool (!r))):=rfl;show (bt P _).map _=_;rw[h1,pureRun_bind (QE 9999 ht)];rfl
end
section
variable {P:Program} {G:Nat->Option (List AVal)}
theorem DA {n m:Nat}{v:AVal}(h:Below n v)(hm:n<=m):Below m v:=by
 induction h with
 | lit v=>exact .lit v
 | vec h ih=>exact .vec ih
 | vptr h ih=>exact .vptr ih
 | agg h ih=>exact .agg ih
 | tup h ih=>exact .tup ih
 | clo h1 h2 ih1 ih2=>exact .clo ih1 ih2
 | own h=>exact .own (by omega)
 | ptr h=>exact .ptr (by omega)
 | yld h=>exact .yld (by omega)
theorem QH {n m:Nat}{b:Blk}(h:qh n b)(hm:n<=m):qh m b:=by
 cases b with
 | arr g e cells=>exact fun i hi=>DA (h i hi) hm
 | loop st pend n env ps asg body=>exact fun t ht=>DA (h t ht) hm
 | rsv=>trivial
 | mp=>exact h
theorem QI {H:AHeap}(hc:Clo H){L:List Blk}(h:∀ b,b∈L->qh (H.next+L.length) b):Clo (ext H L):=by
 have key:∀ id b,(ext H L).get id=some b->(id<H.next/\H.get id=some b)\/(id<H.next+L.length/\b∈L):=by
  intro id b hb;by_cases h1:id<H.next
  ·rw[c9 _ _ _ h1]at hb;exact .inl ⟨h1,hb⟩
  ·by_cases h2:id<H.next+L.length
   ·have:=bu H L (id - H.next) (by omega);rw[show H.next+(id - H.next)=id by omega,hb]at this;exact .inr ⟨h2,List.mem_of_getElem? this.symm⟩
   ·have:(ext H L).get id=H.get id:=(by unfold ext;simp only;rw[if_neg (by omega)]);rw[this]at hb;exact absurd (hc.lt _ _ hb) h1
 refine⟨fun id b hb=>?_,fun id b hb=>?_⟩
 ·rw[bn];rcases key id b hb with ⟨h1,_⟩|⟨h1,_⟩<;>omega
 ·rw[bn];rcases key id b hb with ⟨_,h1⟩|⟨_,h1⟩
  ·exact QH (hc.below _ _ h1) (by omega)
  ·exact h b h1
theorem QJ {n g:Nat}{e:TypeId}{cells:List AVal}(h:∀ c,c∈cells->∃ v,c=.lit v):qh n (.arr g e cells):=fun i hi=>by
 obtain⟨v,hv⟩:=h _ (List.getElem_mem hi);rw[hv];exact .lit v
end
def qV (n d:Int):AVal:=.agg [.lit (.int .i64 n),.lit (.int .i64 d)]
def rE (a c:Int):Bool:=!(decide (a<0) == decide (c<0))
def fj (p q:Int):Int:=if p<q then -1 else if p=q then 0 else 1
theorem QK {S:Nat->Prop}{H:AHeap}{nx:Nat}(n d:Int):Fz S H nx (.agg [.lit (.int .i64 n),.lit (.int .i64 d)]) (qV n d) :=
 .agg rfl fun i hi _=>match i,hi with
  | 0,_=>.lit _
  | 1,_=>.lit _
end Go.Proofs.R01
namespace Go.Proofs.R01
open Go.Hx
def val:List Int -> Nat
  | [] => 0
  | a :: l => a.toNat + 10000 * val l
def az (n:Nat):List Int := if h:n = 0 then [] else ((n % 10000:Nat):Int) :: az (n / 10000)
termination_by n
decreasing_by omega
theorem gS:az 0 = [] := by rw[az]; rfl
theorem nt {n:Nat}(h:n ≠ 0):az n = ((n % 10000:Nat):Int) :: az (n / 10000) := by
  conv => lhs; rw[az]
  rw[dif_neg h]
theorem jc:∀ n:Nat, val (az n) = n := by
  intro n
  induction n using Nat.strongRecOn with
  | _ n ih =>
    by_cases h:n = 0
    · subst h; rw[gS]; rfl
    · rw[nt h, val, ih _ (by omega)];omega
def Dg (l:List Int):Prop := ∀ c, c ∈ l -> 0 <= c /\ c <= 9999
theorem ke:∀ n:Nat, Dg (az n) := by
  intro n
  induction n using Nat.strongRecOn with
  | _ n ih =>
    by_cases h:n = 0
    · subst h; rw[gS]; intro c hc; cases hc
    · rw[nt h];intro c hc;rcases List.mem_cons.1 hc with rfl | hc
      · omega
      · exact ih _ (by omega) c hc
theorem pq:∀ (l m:List Int), val (l ++ m) = val l + 10000 ^ l.length * val m
  | [], m => by simp [val]
  | a :: l, m => by
    simp only[List.cons_append, val, pq l m, List.length_cons, Nat.pow_succ, Nat.mul_add];rw[show 10000 * (10000 ^ l.length * val m) = 10000 ^ l.length * 10000 * val m by ac_rfl];omega
theorem mj:∀ {l:List Int}, Dg l -> val l < 10000 ^ l.length
  | [], _ => by simp [val]
  | a :: l, h => by
    have ih := mj (l := l) fun c hc => h c (by simp [hc]);have ha := h a (by simp);simp only[val, List.length_cons, Nat.pow_succ];omega
theorem pr {n k:Nat}(h:n < 10000 ^ k):(az n).length <= k := by
  induction k generalizing n with
  | zero => have : n = 0 := by simpa using h
            subst this; rw[gS]; simp
  | succ k ih =>
    by_cases h0:n = 0
    · subst h0; rw[gS]; simp
    · rw [nt h0, List.length_cons];have : n / 10000 < 10000 ^ k := by
        rw[Nat.pow_succ]at h;exact Nat.div_lt_of_lt_mul (by rw[Nat.mul_comm]; exact h)
      have := ih this;omega
theorem Dm:∀ {l:List Int}, Dg l -> (∀ a, l.getLast? = some a -> a ≠ 0) -> az (val l) = l
  | [], _, _ => gS
  | a :: l, h, hl => by
    have ha := h a (by simp);have hd:Dg l := fun c hc => h c (by simp [hc]);have ih := Dm (l := l) hd fun b hb => hl b (by
      cases l with
      | nil => cases hb
      | cons c l => simpa [List.getLast?_cons_cons] using hb)
    by_cases h0:val (a :: l) = 0
    · exfalso;simp only[val]at h0;have a0:a = 0 :=(by omega);have v0:val l = 0 :=(by omega);rw[v0, gS]at ih;exact hl a (by rw[<- ih]; rfl) a0
    · rw[nt h0];have e1:val (a :: l) % 10000 = a.toNat :=(by simp only[val]; omega);have e2:val (a :: l) / 10000 = val l :=(by simp only[val]; omega);rw[e1, e2, ih];congr 1;omega
theorem Qp (k:Nat):val (List.replicate k 0) = 0 := by
  induction k with
  | zero => rfl
  | succ k ih => simp [List.replicate_succ, val, ih]
theorem yE {n:Nat}:az n = [] ↔ n = 0 := by
  constructor
  · intro h;have := jc n;rw[h]at this;exact this.symm
  · rintro rfl; exact gS
theorem Dn (b:Nat):b ≠ 0 -> 10000 ^ ((az b).length - 1) <= b := by
  induction b using Nat.strongRecOn with
  | _ b ih =>
    intro hb;rw[nt hb, List.length_cons, Nat.add_sub_cancel];by_cases h1:b / 10000 = 0
    · rw[h1, gS]; simp; omega
    · have := ih _ (by omega) h1;have hl : (az (b / 10000)).length ≠ 0 := by
        intro h;exact h1 (yE.1 (List.eq_nil_of_length_eq_zero h))
      obtain⟨k, hk⟩:∃ k, (az (b / 10000)).length = k + 1 := ⟨_, (Nat.succ_pred_eq_of_ne_zero hl).symm⟩
      rw[hk]at this ⊢;rw[Nat.add_sub_cancel]at this;rw[Nat.pow_succ];omega
theorem pt {a b:Nat}(h:(az a).length < (az b).length):a < b := by
  rcases Nat.lt_or_ge a b with h1 | h1
  · exact h1
  · exfalso;have h2 := Dn b (by intro h0; rw[h0, gS]at h; simp at h);have h3 := mj (ke a);rw[jc]at h3;have h4:10000 ^ (az a).length <= 10000 ^ ((az b).length - 1) := Nat.pow_le_pow_right (by decide) (by omega);omega
end Go.Proofs.R01
namespace Go.Proofs.R01
open Go.Hx
theorem Do {α:Type}{l:List α}{i:Nat}{a:α}(h:l[i]? = some a):l.take (i + 1) = l.take i ++ [a] := by
  rw[List.take_add_one, h]; rfl
theorem kg {H H' H2:AHeap}{v:AVal}{cs:List AVal}{e:TypeId}(ov:Over H H')(h:aB H.next H' e v cs)(hn:H'.next <= H2.next)(hp:∀ k, k < H'.next -> (∀ g n, v ≠ .own k g 0 n 1) -> H2.get k = H'.get k):Over H H2 :=
  ⟨by have := ov.next; omega, fun id hid => by
    rw[hp id (by have := ov.next; omega) fun g n he => ?_, ov.old id hid]
    rcases h with ⟨h, _⟩ | ⟨i2, g2, a1, _, h, _⟩
    · rw[h]at he; cases he
    · rw[h]at he; have := AVal.own.inj he; omega⟩
theorem yF (n:Int)(hn:-9223372036854775808 <= n /\ n <= 9223372036854775807)(H:AHeap)(K:ARes -> AHeap -> Prop)(hK:K (.ret (ab (az n.natAbs))) H):ae Try.prog G0 99 [.lit (.int .i64 n)] H K := by
  refine ae.clo ⟨_, Try.func99, rfl, rfl⟩ fun hcl => ?_
  refine ae.aS (n := 19) (rs := [.tmp 2]) Try.func99 rfl rfl rfl (by decide) (by kernel_rfl) (by simp) ?_
  simp only[go_sem, bK]
  refine W.aK 262137 (by rfl) (fun ρ H' => ∃ (c:Int) (done:List Int), ρ 0 = aa c /\ Over H H' /\ aB H.next H' 3 (ρ 3) (ints done) /\ az n.natAbs = done ++ az c.natAbs /\ c.natAbs <= n.natAbs) (fun ρ H => (iv (ρ 0)).natAbs) ?_ ?_
  · simp only[go_sem, bK]
    exact⟨n, [], rfl, .refl _, .nil, by simp, by omega⟩
  rintro ρ H' ⟨c, done, h0, ov, h3, hd, hc⟩
  refine ag _ _ _ (by rfl) ?_
  by_cases hz:c = 0
  · subst hz
    simp only[go_sem, h0, bK]
    rw[show (0:Int).natAbs = 0 from rfl, gS, List.append_nil]at hd
    rw[hd]at hK
    exact aw.bk aF hcl ov (h3.dw fun i hi => hi) hK
  · have hq:(c.tdiv 10000).natAbs = c.natAbs / 10000 := by rw[Int.natAbs_tdiv]; rfl
    have hr:(c.tmod 10000).natAbs = c.natAbs % 10000 := by rw[Int.natAbs_tmod]; rfl
    have w1 := IntWalk.i64_in (c.tmod 10000) (by omega)
    have w2 := IntWalk.i64_in (0 - c.tmod 10000) (by omega)
    have w3 := IntWalk.i64_in (c.tdiv 10000) (by omega)
    have hmax:(if 0 - c.tmod 10000 > c.tmod 10000 then 0 - c.tmod 10000 else c.tmod 10000) = ((c.natAbs % 10000:Nat):Int) := by split <;> omega
    have h5 : (az n.natAbs).length ≤ 5 := pr (by have : (10000 : Nat) ^ 5 = 100000000000000000000 := by decide
                                                 omega)
    have hlen:done.length <= 5 := by rw[hd, List.length_append]at h5; omega
    have hdc := nt (n := c.natAbs) (by omega)
    obtain⟨v', H2, hA, hO, hn2, hp⟩ := gf (P := Try.prog) (H := H') (t := 59) (x := aa (c.natAbs % 10000:Nat)) (n := H'.next + 1) Try.underlying59 Try.dh Try.dG rfl (by rw[Try.dU, aT]; omega) h3 ov.next rfl
    simp only[aa]at hA
    simp only[go_sem, h0, hz, w1, w2, w3, hmax, hA]
    have ov2:Over H H2 := kg ov h3 hn2 hp
    refine⟨ov2.next, ⟨c.tdiv 10000, done ++ [((c.natAbs % 10000:Nat):Int)], rfl, ov2, ?_, ?_, by omega⟩, by omega⟩
    · simpa [ints, aa] using hO
    · rw[hd, hdc, hq]; simp
theorem rA (l:List Int)(hl:Dg l)(hn:(l.length:Int) < 2 ^ 40)(H:AHeap)(K:ARes -> AHeap -> Prop)(hK:K (.ret (ab (az (val l)))) H):ae Try.prog G0 111 [ab l] H K := by
  refine ae.aS (n := 21) (rs := [.tmp 2]) Try.func111 rfl rfl rfl (by decide) (by kernel_rfl) (by simp) ?_
  simp only[go_sem, bK]
  refine W.aK 1048569 (by rfl) (fun ρ H' => H = H' /\ ∃ (m:List Int), ρ 0 = ab m /\ Dg m /\ val m = val l /\ m.length <= l.length) (fun ρ H => (match ρ 0 with | .vec n _ => n | _ => 0)) ?_ ?_
  · simp only[go_sem, bK]
    exact⟨l, rfl, hl, rfl, Nat.le_refl _⟩
  rintro ρ H' ⟨rfl, m, h0, hd, hv, hm⟩
  refine ag _ _ _ (by rfl) ?_
  unfold ab at h0
  by_cases hz:m.length = 0
  · have hm0:m = [] := List.eq_nil_of_length_eq_zero hz
    subst hm0
    have z1:¬ (0:Int) < ((0:Nat):Int) := by omega
    simp only[go_sem, h0, zg, List.length_nil, bK]
    rw[<- hv]at hK
    have:az (val []) = [] := gS
    rw[this]at hK
    exact aw.mk (Nat.le_refl _) hK
  · obtain⟨a, ha⟩:∃ a, m[m.length - 1]? = some a := ⟨_, List.getElem?_eq_getElem (by omega)⟩
    have hmn:¬ m = [] := by rintro rfl; simp at hz
    have z1:(0:Int) < (m.length:Int) := by omega
    have w1:IntKind.i64.wrap ((m.length:Int) - 1) = ((m.length - 1:Nat):Int) := by rw[IntWalk.i64_in _ (by omega)]; omega
    have b1:((m.length - 1:Nat):Int) < (m.length:Int) := by omega
    have b2:((m.length - 1:Nat):Int) <= (m.length:Int) := by omega
    by_cases h0a:a = 0
    · subst h0a
      simp only[go_sem, h0, z1, w1, b1, b2, ha, hmn, bK]
      have hs:m.take (m.length - 1) ++ [0] = m := by
        have h := Do ha
        rw[Nat.sub_add_cancel (by omega), List.take_length]at h
        exact h.symm
      refine⟨⟨m.take (m.length - 1), ?_, fun c hc => hd c (List.mem_of_mem_take hc), ?_, by simp; omega⟩, by omega⟩
      · simp only[List.length_take, ze]; congr 1; omega
      · rw[<- hv]
        conv => rhs; rw[<- hs]
        rw[pq]; simp [val]
    · simp only[go_sem, h0, z1, w1, b1, b2, ha, hmn, h0a, bK]
      have hlast:m.getLast? = some a := by rw[List.getLast?_eq_getElem?]; exact ha
      have := Dm hd fun b hb => by rw[hlast]at hb; cases hb; exact h0a
      rw[<- hv, this]at hK
      exact aw.mk (Nat.le_refl _) hK
theorem Dp {x y:List Int}(hx:Dg x)(hy:Dg y)(hl:x.length = y.length){k:Nat}{a b:Int}(ha:x[k]? = some a)(hb:y[k]? = some b)(he:∀ j, k < j -> x[j]? = y[j]?)(hab:a < b):val x < val y := by
  have sp:∀ {l:List Int} {c:Int}, l[k]? = some c -> l = l.take k ++ c :: l.drop (k + 1) := fun {l c} h => by
    have hk := (List.getElem?_eq_some_iff.1 h).1
    have h2 := (List.getElem?_eq_some_iff.1 h).2
    conv => lhs; rw[<- List.take_append_drop k l]
    rw[List.drop_eq_getElem_cons hk, h2]
  have e1:x.drop (k + 1) = y.drop (k + 1) := by
    apply List.ext_getElem?
    intro i
    rw[List.getElem?_drop, List.getElem?_drop]
    exact he _ (by omega)
  have hk := (List.getElem?_eq_some_iff.1 ha).1
  have hk2 := (List.getElem?_eq_some_iff.1 hb).1
  rw[sp ha, sp hb, pq, pq, e1]
  have l1:(x.take k).length = k := by simp; omega
  have l2:(y.take k).length = k := by simp; omega
  rw[l1, l2]
  have v1 := mj (l := x.take k) fun c hc => hx c (List.mem_of_mem_take hc)
  have v2:0 <= val (y.take k) := Nat.zero_le _
  rw[l1]at v1
  have pa := hx a (List.mem_of_getElem? ha)
  have pb := hy b (List.mem_of_getElem? hb)
  simp only[val]
  have h3:10000 ^ k * (a.toNat + 10000 * val (y.drop (k + 1))) + 10000 ^ k <= 10000 ^ k * (b.toNat + 10000 * val (y.drop (k + 1))) := by
    have:a.toNat + 10000 * val (y.drop (k + 1)) + 1 <= b.toNat + 10000 * val (y.drop (k + 1)) := by omega
    calc _ = 10000 ^ k * (a.toNat + 10000 * val (y.drop (k + 1)) + 1) := (Nat.mul_succ _ _).symm
      _ <= _ := Nat.mul_le_mul_left _ this
  omega
theorem Dq (x y:Nat)(hx:((az x).length:Int) < 2 ^ 40)(H:AHeap)(K:ARes -> AHeap -> Prop)(hK:K (.ret (.lit (.int .i64 (fj x y)))) H):ae Try.prog G0 112 [ab (az x), ab (az y)] H K := by
  obtain⟨p, hp⟩:∃ p, p = az x := ⟨_, rfl⟩
  obtain⟨q, hq⟩:∃ q, q = az y := ⟨_, rfl⟩
  have dx := ke x
  have dy := ke y
  have vx := jc x
  have vy := jc y
  have lt1:p.length < q.length -> x < y := fun h => pt (by rw[<- hp, <- hq]; exact h)
  have lt2:q.length < p.length -> y < x := fun h => pt (by rw[<- hp, <- hq]; exact h)
  rw[<- hp]at hx dx vx ⊢
  rw[<- hq]at dy vy ⊢
  refine ae.aS (n := 41) (rs := [.tmp 4]) Try.func112 rfl rfl rfl (by decide) (by kernel_rfl) (by simp) ?_
  by_cases hl:(p.length:Int) = q.length
  rotate_left
  · by_cases hl2:(p.length:Int) < q.length
    · have:fj x y = -1 := by unfold fj; rw[if_pos (by have := lt1 (by omega); omega)]
      rw[this]at hK
      simp only[go_sem, hl, hl2, bK]
      exact aw.mk (Nat.le_refl _) hK
    · have := lt2 (by omega)
      have:fj x y = 1 := by unfold fj; rw[if_neg (by omega), if_neg (by omega)]
      rw[this]at hK
      simp only[go_sem, hl, hl2, bK]
      exact aw.mk (Nat.le_refl _) hK
  have hln:p.length = q.length := by omega
  have w0 := IntWalk.i64_in ((p.length:Int) - 1) (by omega)
  simp only[go_sem, hl, w0, bK]
  rw[<- hl, w0]
  refine W.aK 2199022731312 (by rfl) (fun ρ H' => H = H' /\ ∃ (k:Nat), ρ 5 = aa ((k:Int) - 1) /\ k <= p.length /\ ∀ j, k <= j -> p[j]? = q[j]?) (fun ρ H => (iv (ρ 5) + 1).toNat) ?_ ?_
  · simp only[go_sem, bK]
    exact⟨p.length, by simp, Nat.le_refl _, fun j hj => by rw[List.getElem?_eq_none hj, List.getElem?_eq_none (by omega)]⟩
  rintro ρ H' ⟨rfl, k, h5, hk, he⟩
  refine ag _ _ _ (by rfl) ?_
  by_cases hz:k = 0
  · subst hz
    have z1:¬ (0:Int) <= ((0:Nat):Int) - 1 := by omega
    have e0:p = q := List.ext_getElem? fun j => he j (Nat.zero_le _)
    have:x = y := by rw[<- vx, <- vy, e0]
    have:fj x y = 0 := by unfold fj; rw[if_neg (by omega), if_pos (by omega)]
    rw[this]at hK
    simp only[go_sem, h5, z1, bK]
    exact aw.mk (Nat.le_refl _) hK
  · obtain⟨j, rfl⟩:∃ j, k = j + 1 := ⟨k - 1, by omega⟩
    obtain⟨a, ha⟩:∃ a, p[j]? = some a := ⟨_, List.getElem?_eq_getElem (by omega)⟩
    obtain⟨b, hb⟩:∃ b, q[j]? = some b := ⟨_, List.getElem?_eq_getElem (by omega)⟩
    have hpn:¬ p = [] := by rintro rfl; simp at ha
    have hqn:¬ q = [] := by rintro rfl; simp at hb
    have ej:((j + 1:Nat):Int) - 1 = (j:Int) := by omega
    rw[ej]at h5
    have z1:(0:Int) <= (j:Int) := by omega
    have b1:(j:Int) < p.length := by omega
    have b2:(j:Int) < q.length := by omega
    have w2 := IntWalk.i64_in ((j:Int) - 1) (by omega)
    simp only[go_sem, h5, z1, bK]
    refine W.draw 8 [0, 0, 3, 7, 0, 0, 48, 112] Try.mixed (by kernel_rfl) (by kernel_rfl) ?_
    by_cases hab:a = b
    · subst hab
      simp only[go_sem, h5, z1, b1, b2, ha, hb, hpn, hqn, w2, bK]
      exact⟨⟨j, rfl, by omega, fun i hi => by
        rcases Nat.lt_or_ge j i with h | h
        · exact he i (by omega)
        · obtain rfl:i = j := by omega
          rw[ha, hb]⟩, by omega⟩
    · simp only[go_sem, h5, z1, b1, b2, ha, hb, hpn, hqn, hab, bK]
      refine W.draw 8 [0, 0, 3, 7, 0, 0, 48, 112] Try.mixed (by kernel_rfl) (by kernel_rfl) ?_
      by_cases hlt:a < b
      · have h1 := Dp dx dy hln ha hb (fun i hi => he i (by omega)) hlt
        rw[vx, vy]at h1
        have:fj x y = -1 := by unfold fj; rw[if_pos (by omega)]
        rw[this]at hK
        simp only[go_sem, h5, z1, b1, b2, ha, hb, hpn, hqn, hlt, bK]
        exact aw.mk (Nat.le_refl _) hK
      · have h1 := Dp dy dx hln.symm hb ha (fun i hi => (he i (by omega)).symm) (by omega)
        rw[vx, vy]at h1
        have:fj x y = 1 := by unfold fj; rw[if_neg (by omega), if_neg (by omega)]
        rw[this]at hK
        simp only[go_sem, h5, z1, b1, b2, ha, hb, hpn, hqn, hlt, bK]
        exact aw.mk (Nat.le_refl _) hK
end Go.Proofs.R01
namespace Go.Proofs.R01
open Go.Hx
theorem px {l:List Int}{i X:Nat}(h:l.drop i=az X):(i<l.length↔X≠0)/\(X≠0->l[i]?=some ((X % 10000:Nat):Int))/\l.drop (i+1)=az (X / 10000):=by
 have hl:l.length - i=(az X).length:=by rw[<- h,List.length_drop]
 by_cases h0:X=0
 ·subst h0;rw[gS]at h hl;simp only[List.length_nil]at hl;refine⟨⟨fun h=>by omega,fun h=>absurd rfl h⟩,fun h=>absurd rfl h,?_⟩;rw[gS,List.drop_eq_nil_iff.2 (by omega)]
 ·rw[nt h0]at h hl;simp only[List.length_cons]at hl;refine⟨⟨fun _=>h0,fun _=>by omega⟩,fun _=>?_,?_⟩
  ·have:=congrArg (fun m=>m[0]?) h;simpa [List.getElem?_drop] using this
  ·have:=congrArg List.tail h;simpa [List.tail_drop] using this
theorem Qq {n:Nat}{k:Nat}(h:(az n).length<=k):n<10000 ^ k:=by
 have:=mj (ke n);rw[jc]at this;exact Nat.lt_of_lt_of_le this (Nat.pow_le_pow_right (by decide) h)
set_option maxHeartbeats 1000000 in
theorem Qr (x y:Nat)(hxy:y<=x)(hx:(az x).length<=200)(H:AHeap)(K:ARes->AHeap->Prop)(hK:K (.ret (ab (az (x - y)))) H):ae Try.prog G0 114 [ab (az x),ab (az y)] H K:=by
 refine ae.clo ⟨_,Try.func114,rfl,rfl⟩ fun hcl=>?_;have vx:=jc x;obtain⟨p,hp⟩:∃ p,p=az x:=⟨_,rfl⟩
 obtain⟨q,hq⟩:∃ q,q=az y:=⟨_,rfl⟩
 rw[<- hp]at hx vx ⊢;rw[<- hq];refine ae.aS (n:=41) (rs:=[.tmp 4]) Try.func114 rfl rfl rfl (by decide) (by kernel_rfl) (by simp) ?_;simp only[go_sem];refine W.aK 549755813856 (by rfl) (fun ρ H'=>∃ (i c X Y:Nat) (done:List Int),ρ 7=aa i/\ρ 6=aa c/\c<=1/\i<=p.length/\Over H H'/\aB H.next H' 3 (ρ 5) (ints done)/\done.length=i/\Dg done/\p.drop i=az X/\q.drop i=az Y/\val done+10000 ^ i*X=(x - y)+10000 ^ i*(Y+c)) (fun ρ H=>p.length - (iv (ρ 7)).toNat) ?_ ?_
 ·simp only[go_sem];exact⟨0,0,x,y,[],rfl,rfl,by omega,by omega,.refl _,.nil,rfl,(fun c hc=>by cases hc),by simpa using hp,by simpa using hq,by simp [val];omega⟩
 rintro ρ H' ⟨i,c,X,Y,done,h7,h6,hc,hi,ov,h5,hl,hdg,hX,hY,he⟩;refine ag _ _ _ (by rfl) ?_;obtain⟨a1,a2,a3⟩:=px hX;obtain⟨b1,b2,b3⟩:=px hY;by_cases hb:(i:Int)<p.length;rotate_left
 ·simp only[go_sem,h7,hb];have hX0:X=0:=by
   rcases Nat.eq_zero_or_pos X with h|h
   ·exact h
   ·have:=a1.2 (by omega);omega
  have hv:=mj hdg;rw[hl]at hv;have hYc:Y+c=0:=by
   rcases Nat.eq_zero_or_pos (Y+c) with h|h
   ·exact h
   ·have:10000 ^ i*1<=10000 ^ i*(Y+c):=Nat.mul_le_mul_left _ h;rw[hX0]at he;omega
  have hvd:val done=x - y:=by rw[hX0,hYc]at he;omega
  refine aA.lL H.next (args':=[ab done]) aF rfl (fun j hj _=>match j,hj with|0,_=>h5.dw fun i hi=>hi) (rA done hdg (by omega) _ _ ⟨trivial,?_⟩);rw[hvd];have ov3:Over H (H'.cut H.next):=ov.y9 (Nat.le_refl _);simp only[go_sem];exact aw.bk aF hcl ov3 (.cB _) hK
 have hx0:X≠0:=a1.1 (by omega);have g1:=a2 hx0;have pn:¬ p=[]:=by rintro rfl;simp at hb;omega
 have w3:=IntWalk.i64_in ((i:Int)+1) (by omega);obtain⟨d,c',hd,hd2,hc'⟩:∃ d c':Nat,(d:Int)=((X % 10000:Nat):Int) - c - ((Y % 10000:Nat):Int)+10000*(c':Int)/\d<=9999/\c'<=1:=by
  by_cases h:((X % 10000:Nat):Int) - c - ((Y % 10000:Nat):Int)<0
  ·exact⟨(((X % 10000:Nat):Int) - c - ((Y % 10000:Nat):Int)+10000).toNat,1,by omega,by omega,by omega⟩
  ·exact⟨(((X % 10000:Nat):Int) - c - ((Y % 10000:Nat):Int)).toNat,0,by omega,by omega,by omega⟩
 obtain⟨v',H2,hA,hO,hn2,hpr⟩:=gf (P:=Try.prog) (H:=H') (t:=59) (x:=aa (d:Nat)) (n:=H'.next+1) Try.underlying59 Try.dh Try.dG rfl (by rw[Try.dU,aT];omega) h5 ov.next rfl;simp only[aa]at hA;have ov2:Over H H2:=kg ov h5 hn2 hpr;have fin:∃ (i' c'' X' Y':Nat) (done':List Int),AVal.lit (.int .i64 ((i:Int)+1))=aa i'/\AVal.lit (.int .i64 (c':Int))=aa c''/\c''<=1/\i'<=p.length/\Over H H2/\aB H.next H2 3 v' (ints done')/\done'.length=i'/\Dg done'/\p.drop i'=az X'/\q.drop i'=az Y'/\val done'+10000 ^ i'*X'=(x - y)+10000 ^ i'*(Y'+c''):=by
  refine⟨i+1,c',X / 10000,Y / 10000,done++[(d:Int)],by simp [aa],rfl,hc',by omega,ov2,by simpa [ints,aa] using hO,by simp [hl],fun z hz=>?_,a3,b3,?_⟩
  ·rcases List.mem_append.1 hz with hz|hz
   ·exact hdg z hz
   ·obtain rfl:=List.mem_singleton.1 hz;omega
  ·rw[pq,hl,Nat.pow_succ];have e:d+10000*(X / 10000)+(Y+c)=X+10000*(Y / 10000+c'):=(by omega);have e2:=congrArg (10000 ^ i*·) e;simp only[Nat.mul_add,val,Int.toNat_natCast,Nat.mul_zero,Nat.add_zero,Nat.mul_assoc]at e2 he ⊢;generalize 10000 ^ i*d=P1 at *
   generalize 10000 ^ i*(10000*(X / 10000))=P2 at *
   generalize 10000 ^ i*Y=P3 at *
   generalize 10000 ^ i*c=P4 at *
   generalize 10000 ^ i*X=P5 at *
   generalize 10000 ^ i*(10000*(Y / 10000))=P6 at *
   generalize 10000 ^ i*(10000*c')=P7 at *
   omega
 have w4:=IntWalk.i64_in (((X % 10000:Nat):Int) - (c:Int)) (by omega);have w5:=IntWalk.i64_in (((X % 10000:Nat):Int) - (c:Int) - ((Y % 10000:Nat):Int)) (by omega);by_cases hy0:Y=0
 ·have n2:¬ (i:Int)<q.length:=by have:=fun h=>b1.1 h;omega
  by_cases hneg:((X % 10000:Nat):Int) - (c:Int)<0
  ·obtain rfl:c'=1:=(by omega);have ed:((X % 10000:Nat):Int) - (c:Int)+10000=(d:Int):=(by omega);have w6:=IntWalk.i64_in (d:Int) (by omega);simp only[go_sem,h7,h6,hb,n2,g1,pn,w4,hneg,ed,w6,w3,hA];exact⟨ov2.next,fin,by omega⟩
  ·obtain rfl:c'=0:=(by omega);have ed:((X % 10000:Nat):Int) - (c:Int)=(d:Int):=(by omega);rw[ed]at hneg w4;simp only[go_sem,h7,h6,hb,n2,g1,pn,ed,w4,hneg,w3,hA];exact⟨ov2.next,fin,by omega⟩
 ·have n2:(i:Int)<q.length:=by have:=b1.2 hy0;omega
  have g2:=b2 hy0;have qn:¬ q=[]:=by rintro rfl;simp at n2;omega
  by_cases hneg:((X % 10000:Nat):Int) - (c:Int) - ((Y % 10000:Nat):Int)<0
  ·obtain rfl:c'=1:=(by omega);have ed:((X % 10000:Nat):Int) - (c:Int) - ((Y % 10000:Nat):Int)+10000=(d:Int):=(by omega);have w6:=IntWalk.i64_in (d:Int) (by omega);simp only[go_sem,h7,h6,hb,n2,g1,g2,pn,qn,w4,w5,hneg,ed,w6,w3,hA];exact⟨ov2.next,fin,by omega⟩
  ·obtain rfl:c'=0:=(by omega);have ed:((X % 10000:Nat):Int) - (c:Int) - ((Y % 10000:Nat):Int)=(d:Int):=(by omega);rw[ed]at hneg w5;simp only[go_sem,h7,h6,hb,n2,g1,g2,pn,qn,w4,ed,w5,hneg,w3,hA];exact⟨ov2.next,fin,by omega⟩
end Go.Proofs.R01
namespace Go.Proofs.R01
open Go.Hx
theorem fS {l:List Int}{k:Nat}(v:Int)(h:k<l.length):setAt (ints l) k [.lit (.int .i64 v)]=ints (l.set k v):=by
 unfold setAt ints;rw[List.map_set,List.set_eq_take_append_cons_drop,if_pos (by simpa using h)];simp [aa]
theorem yG:∀ {l:List Int} {j:Nat} {a:Int} (v:Int),l[j]?=some a->val (l.set j v)+10000 ^ j*a.toNat=val l+10000 ^ j*v.toNat
 | b :: l,0,a,v,h=>by
  simp only[List.getElem?_cons_zero,Option.some.injEq]at h;subst h;simp only[List.set_cons_zero,val,Nat.pow_zero,Nat.one_mul];omega
 | b :: l,j+1,a,v,h=>by
  simp only[List.getElem?_cons_succ]at h;have ih:=yG (l:=l) v h;simp only[List.set_cons_succ,val,Nat.pow_succ];have e1:10000 ^ j*10000*a.toNat=10000*(10000 ^ j*a.toNat):=by ac_rfl
  have e2:10000 ^ j*10000*v.toNat=10000*(10000 ^ j*v.toNat):=by ac_rfl
  rw[e1,e2];omega
theorem Dr {l:List Int}{i:Nat}{a:Int}(h:l[i]?=some a):val (l.take (i+1))=val (l.take i)+10000 ^ i*a.toNat:=by
 have hi:=(List.getElem?_eq_some_iff.1 h).1;rw[Do h,pq,List.length_take,Nat.min_eq_left (by omega)];simp [val]
set_option maxHeartbeats 2000000 in
theorem Ds (p q:List Int)(hp:Dg p)(hq:∀ c,c∈q->0<=c/\c<=10000)(hqv:val q<=10000 ^ q.length)(lp:p.length<=200)(lq:q.length<=200)(H:AHeap)(K:ARes->AHeap->Prop)(hK:K (.ret (ab (az (val p*val q)))) H):ae Try.prog G0 113 [ab p,ab q] H K:=by
 refine ae.clo ⟨_,Try.func113,rfl,rfl⟩ fun hcl=>?_;have w0:=IntWalk.i64_in ((p.length:Int)+(q.length:Int)) (by omega);refine ae.aS (n:=65) (rs:=[.tmp 4]) Try.func113 rfl rfl rfl (by decide) (by kernel_rfl) (by simp) ?_;simp only[go_sem,w0];obtain⟨L,hL⟩:∃ L,L=p.length+q.length:=⟨_,rfl⟩
 have eL:((p.length:Int)+(q.length:Int)).toNat=L:=by omega
 have eL2:(p.length:Int)+(q.length:Int)=(L:Int):=by omega
 rw[eL,eL2];have eR:List.replicate L (AVal.lit (.int .i64 0))=ints (List.replicate L 0):=by simp [ints,aa]
 rw[eR];refine⟨⟨by omega,by omega,by omega⟩,?_⟩;have dr:Dg (List.replicate L 0):=fun c hc=>by obtain⟨_,rfl⟩:=List.mem_replicate.1 hc;omega
 refine W.aK 9223372036854743488 (by rfl) (fun ρ H'=>∃ (i:Nat) (o:List Int),ρ 6=aa i/\i<=p.length/\H'=ext H [.arr 0 3 (ints o)]/\Dg o/\o.length=L/\val o=val (p.take i)*val q) (fun ρ H=>p.length - (iv (ρ 6)).toNat) ?_ ?_
 ·simp only[go_sem];exact⟨0,_,rfl,by omega,rfl,dr,by simp,by simp [Qp,val]⟩
 rintro ρ H' ⟨i,o,h6,hi,rfl,ho,hol,hv⟩;refine ag _ _ _ (by rfl) ?_;by_cases hb:(i:Int)<p.length;rotate_left
 ·simp only[go_sem,h6,hb];have hO:aB H.next (ext H [.arr 0 3 (ints o)]) 3 (.own H.next 0 0 L 1) (ints o):=.inr ⟨H.next,0,Nat.le_refl _,by simp [bn],by rw[aT,hol],br _ _ _⟩;refine aA.lL H.next (args':=[ab o]) aF rfl (fun j hj _=>match j,hj with|0,_=>hO.dw fun i hi=>hi) (rA o ho (by omega) _ _ ⟨trivial,?_⟩);rw[hv,List.take_of_length_le (by omega)];have ov3:Over H ((ext H [.arr 0 3 (ints o)]).cut H.next):=(Over.ext _ _).y9 (Nat.le_refl _);simp only[go_sem];exact aw.bk aF hcl ov3 (.cB _) hK
 obtain⟨a,ha⟩:∃ a,p[i]?=some a:=⟨_,List.getElem?_eq_getElem (by omega)⟩
 have ha9:=hp a (List.mem_of_getElem? ha);obtain⟨A,rfl⟩:=Int.eq_ofNat_of_zero_le ha9.1;have pn:¬ p=[]:=by rintro rfl;simp at ha
 have vt:=Dr ha;rw[Int.toNat_natCast]at vt;have w1:=IntWalk.i64_in ((i:Int)+1) (by omega);simp only[go_sem,h6,hb];refine W.aK 9223372036852679040 (by rfl) (fun ρ' H'=>∃ (k c:Nat) (o2:List Int),ρ' 8=aa k/\ρ' 7=aa c/\c<=10000/\k<=L/\H'=ext H [.arr 0 3 (ints o2)]/\Dg o2/\o2.length=L/\val o2+10000 ^ (i+k)*c=val (p.take i)*val q+10000 ^ i*(A*val (q.take k))) (fun ρ' H=>L - (iv (ρ' 8)).toNat) ?_ ?_
 ·simp only[go_sem];exact⟨0,0,o,rfl,rfl,by omega,by omega,rfl,ho,hol,by simp [val,hv]⟩
 rintro ρ' H' ⟨k,c,o2,h8,h7,hc,hk,rfl,ho2,hol2,hv2⟩;refine ag _ _ _ (by rfl) ?_;by_cases hend:¬ k<q.length/\c=0
 ·obtain⟨hk2,rfl⟩:=hend;have n1:¬ (k:Int)<q.length:=by omega
  have n2:¬ (0:Int)<((0:Nat):Int):=by omega
  simp only[go_sem,h8,h7,n1,h6,w1];refine⟨⟨i+1,o2,by simp,by omega,rfl,ho2,hol2,?_⟩,by omega⟩;rw[List.take_of_length_le (l:=q) (i:=k) (by omega)]at hv2;rw[vt,Nat.add_mul];simp only[Nat.mul_zero,Nat.add_zero]at hv2;rw[hv2,Nat.mul_assoc]
 have hik:i+k<L:=by
  by_cases hkq:k<q.length
  ·omega
  ·have hc1:1<=c:=(by omega);rw[List.take_of_length_le (l:=q) (i:=k) (by omega)]at hv2;have e:val (p.take i)*val q+10000 ^ i*(A*val q)=val (p.take (i+1))*val q:=(by rw[vt,Nat.add_mul,Nat.mul_assoc]);rw[e]at hv2;have b1:val (p.take (i+1))<10000 ^ (i+1):=by
    have:=mj (l:=p.take (i+1)) fun c hc=>hp c (List.mem_of_mem_take hc)
    rwa [List.length_take,Nat.min_eq_left (by omega)]at this
   have b2:val (p.take (i+1))*val q<10000 ^ (i+1)*10000 ^ q.length:=by
    have p0:0<10000 ^ q.length:=Nat.pow_pos (by decide)
    calc val (p.take (i+1))*val q<=val (p.take (i+1))*10000 ^ q.length:=Nat.mul_le_mul_left _ hqv
     _<10000 ^ (i+1)*10000 ^ q.length:=Nat.mul_lt_mul_of_pos_right b1 p0
   rw[<- Nat.pow_add]at b2;have b3:10000 ^ (i+k)*1<=10000 ^ (i+k)*c:=Nat.mul_le_mul_left _ hc1;have b4:10000 ^ (i+k)<10000 ^ (i+1+q.length):=(by omega);have:=(Nat.pow_lt_pow_iff_right (by decide:1<10000)).1 b4;omega
 obtain⟨b,hbk⟩:∃ b,o2[i+k]?=some b:=⟨_,List.getElem?_eq_getElem (by omega)⟩
 have hb9:=ho2 b (List.mem_of_getElem? hbk);obtain⟨B,rfl⟩:=Int.eq_ofNat_of_zero_le hb9.1;have o2n:¬ o2=[]:=by rintro rfl;simp at hbk
 have w2:=IntWalk.i64_in ((i:Int)+(k:Int)) (by omega);have w3:=IntWalk.i64_in ((k:Int)+1) (by omega);have eik:(i:Int)+(k:Int)=((i+k:Nat):Int):=by omega
 rw[eik]at w2;have bik:((i+k:Nat):Int)<(L:Int):=by omega
 have w4:=IntWalk.i64_in ((c:Int)+(B:Int)) (by omega);by_cases hkq:k<q.length
 ·obtain⟨d,hdk⟩:∃ d,q[k]?=some d:=⟨_,List.getElem?_eq_getElem (by omega)⟩
  have hd9:=hq d (List.mem_of_getElem? hdk);obtain⟨D,rfl⟩:=Int.eq_ofNat_of_zero_le hd9.1;have qn:¬ q=[]:=by rintro rfl;simp at hdk
  have n1:(k:Int)<q.length:=by omega
  have mAD:A*D<=9999*10000:=Nat.mul_le_mul (by omega) (by omega);have cAD:(A:Int)*(D:Int)=((A*D:Nat):Int):=(Int.natCast_mul _ _).symm;obtain⟨t,ht⟩:∃ t,t=c+B+A*D:=⟨_,rfl⟩
  have et:(c:Int)+(B:Int)+((A*D:Nat):Int)=(t:Int):=by omega
  have w5:=IntWalk.i64_in ((A*D:Nat):Int) (by omega);have w6:=IntWalk.i64_in (t:Int) (by omega);have tm:((t:Int)).tmod 10000=((t % 10000:Nat):Int):=by rw[Int.tmod_eq_emod_of_nonneg (by omega)];rfl
  have td:((t:Int)).tdiv 10000=((t / 10000:Nat):Int):=by rw[Int.tdiv_eq_ediv_of_nonneg (by omega)];rfl
  have w7:=IntWalk.i64_in ((t % 10000:Nat):Int) (by omega);have w8:=IntWalk.i64_in ((t / 10000:Nat):Int) (by omega);have hs:=yG ((t % 10000:Nat):Int) hbk;rw[Int.toNat_natCast,Int.toNat_natCast]at hs;have vq:=Dr hdk;rw[Int.toNat_natCast]at vq;have fin:∃ (k' c':Nat) (o3:List Int),AVal.lit (.int .i64 ((k:Int)+1))=aa k'/\AVal.lit (.int .i64 ((t / 10000:Nat):Int))=aa c'/\c'<=10000/\k'<=L/\ext H [.arr 0 3 (ints (o2.set (i+k) ((t % 10000:Nat):Int)))]=ext H [.arr 0 3 (ints o3)]/\Dg o3/\o3.length=L/\val o3+10000 ^ (i+k')*c'=val (p.take i)*val q+10000 ^ i*(A*val (q.take k')):=by
   refine⟨k+1,t / 10000,_,by simp [aa],rfl,by omega,by omega,rfl,fun z hz=>?_,by simp [hol2],?_⟩
   ·rcases List.mem_or_eq_of_mem_set hz with h|h
    ·exact ho2 z h
    ·omega
   ·rw[vq,<- Nat.add_assoc,Nat.pow_succ];have e1:t=t % 10000+10000*(t / 10000):=(by omega);have e2:=congrArg (10000 ^ (i+k)*·) (show c+B+A*D=t % 10000+10000*(t / 10000) by omega);have e3:10000 ^ i*(A*(val (q.take k)+10000 ^ k*D))=10000 ^ i*(A*val (q.take k))+10000 ^ (i+k)*(A*D):=by
     rw[Nat.mul_add,Nat.mul_add,Nat.pow_add];congr 1
     ac_rfl
    rw[e3];simp only[Nat.mul_add,Nat.mul_assoc]at e2 hv2 hs ⊢;omega
  simp only[go_sem,h8,h7,n1,h6,w2,w4,eik,bik,hbk];refine W.draw 10 [0,0,0,6,14,0,0,96,224,510] Try.mixed (by kernel_rfl) (by kernel_rfl) ?_;simp only[go_sem,h8,h7,n1,h6,w2,eik,bik,ha,hdk,pn,qn,hb,cAD,w5,et,w6];rw[w3,td,w8,tm,fS _ (by omega)];exact⟨by omega,fin,by omega⟩
 ·have n1:¬ (k:Int)<q.length:=by omega
  have n2:(0:Int)<(c:Int):=by omega
  obtain⟨t,ht⟩:∃ t,t=c+B:=⟨_,rfl⟩
  have et:(c:Int)+(B:Int)=(t:Int):=by omega
  have w6:=IntWalk.i64_in (t:Int) (by omega);have tm:((t:Int)).tmod 10000=((t % 10000:Nat):Int):=by rw[Int.tmod_eq_emod_of_nonneg (by omega)];rfl
  have td:((t:Int)).tdiv 10000=((t / 10000:Nat):Int):=by rw[Int.tdiv_eq_ediv_of_nonneg (by omega)];rfl
  have w7:=IntWalk.i64_in ((t % 10000:Nat):Int) (by omega);have w8:=IntWalk.i64_in ((t / 10000:Nat):Int) (by omega);have hs:=yG ((t % 10000:Nat):Int) hbk;rw[Int.toNat_natCast,Int.toNat_natCast]at hs;have fin:∃ (k' c':Nat) (o3:List Int),AVal.lit (.int .i64 ((k:Int)+1))=aa k'/\AVal.lit (.int .i64 ((t / 10000:Nat):Int))=aa c'/\c'<=10000/\k'<=L/\ext H [.arr 0 3 (ints (o2.set (i+k) ((t % 10000:Nat):Int)))]=ext H [.arr 0 3 (ints o3)]/\Dg o3/\o3.length=L/\val o3+10000 ^ (i+k')*c'=val (p.take i)*val q+10000 ^ i*(A*val (q.take k')):=by
   refine⟨k+1,t / 10000,_,by simp [aa],rfl,by omega,by omega,rfl,fun z hz=>?_,by simp [hol2],?_⟩
   ·rcases List.mem_or_eq_of_mem_set hz with h|h
    ·exact ho2 z h
    ·omega
   ·rw[List.take_of_length_le (l:=q) (i:=k) (by omega)]at hv2;rw[List.take_of_length_le (l:=q) (i:=k+1) (by omega),<- Nat.add_assoc,Nat.pow_succ];have e2:=congrArg (10000 ^ (i+k)*·) (show c+B=t % 10000+10000*(t / 10000) by omega);simp only[Nat.mul_add,Nat.mul_assoc]at e2 hv2 hs ⊢;omega
  simp only[go_sem,h8,h7,n1,n2,h6,w2,eik,bik,hbk,et,w6,hol2];rw[w3,td,w8,tm,fS _ (by omega)];exact⟨by omega,fin,by omega⟩
end Go.Proofs.R01
namespace Go.Proofs.R01
open Go.Hx
theorem Qs (x y:Nat)(hx:(az x).length<=200)(hy:(az y).length<=200)(H:AHeap)(K:ARes->AHeap->Prop)(hK:K (.ret (ab (az (x*y)))) H):ae Try.prog G0 113 [ab (az x),ab (az y)] H K :=
 Ds (az x) (az y) (ke x) (fun c hc=>by have:=ke y c hc;omega) (Nat.le_of_lt (mj (ke y))) hx hy H K (by rw[jc,jc];exact hK)
theorem Qt (x d:Nat)(hd:d<=10000)(hx:(az x).length<=200)(H:AHeap)(K:ARes->AHeap->Prop)(hK:K (.ret (ab (az (x*d)))) H):ae Try.prog G0 113 [ab (az x),ab [(d:Int)]] H K:=by
 have e:val [(d:Int)]=d:=by simp [val]
 refine Ds (az x) [(d:Int)] (ke x) (fun c hc=>?_) (by rw[e];simpa using hd) hx (by simp) H K (by rw[jc,e];exact hK);obtain rfl:=List.mem_singleton.1 hc;omega
theorem rB (n:Nat):∀ k:Nat,(az n).drop k=az (n / 10000 ^ k)
 | 0=>by simp
 | k+1=>by
  have h:=(px (rB n k)).2.2;rw[h,Nat.pow_succ,Nat.div_div_eq_div_mul]
theorem uQ {n k:Nat}(h:k<(az n).length):(az n)[k]?=some ((n / 10000 ^ k % 10000:Nat):Int):=(px (rB n k)).2.1 ((px (rB n k)).1.1 h)
theorem Du {n k:Nat}(h:¬ k<(az n).length):n / 10000 ^ k=0:=by
 rcases Nat.eq_zero_or_pos (n / 10000 ^ k) with h0|h0
 ·exact h0
 ·exact absurd ((px (rB n k)).1.2 (by omega)) h
theorem Qu {N y P:Nat}(hP:0<P)(ht:0<y / P):N / y<=N / P / (y / P):=by
 rw[Nat.le_div_iff_mul_le ht,Nat.le_div_iff_mul_le hP]
 calc N / y*(y / P)*P=N / y*(y / P*P):=Nat.mul_assoc ..
  _<=N / y*y:=Nat.mul_le_mul_left _ (Nat.div_mul_le_self _ _)
  _<=N:=Nat.div_mul_le_self _ _
theorem Qv {N y P:Nat}(hP:0<P)(hy:0<y):N / P / (y / P+1)<=N / y:=by
 rw[Nat.le_div_iff_mul_le hy];have h1:y<=(y / P+1)*P:=by
  have:=Nat.lt_mul_div_succ y hP;rw[Nat.mul_comm]at this;omega
 calc N / P / (y / P+1)*y<=N / P / (y / P+1)*((y / P+1)*P):=Nat.mul_le_mul_left _ h1
  _=N / P / (y / P+1)*(y / P+1)*P:=(Nat.mul_assoc ..).symm
  _<=N / P*P:=Nat.mul_le_mul_right _ (Nat.div_mul_le_self _ _)
  _<=N:=Nat.div_mul_le_self _ _
theorem Qw {N y n:Nat}(hN:N<10000*y)(hy:10000 ^ n<=y):N / 10000 ^ (n - 1) / (y / 10000 ^ (n - 1))<=10000:=by
 have hP:0<10000 ^ (n - 1):=Nat.pow_pos (by decide);rcases Nat.eq_zero_or_pos n with h0|h0
 ·subst h0;have hy0:0<y:=by simp at hy;omega
  simp only[Nat.zero_sub,Nat.pow_zero,Nat.div_one];exact Nat.le_of_lt (Nat.div_lt_of_lt_mul (by rw[Nat.mul_comm];exact hN))
 ·have ht:10000<=y / 10000 ^ (n - 1):=by
   rw[Nat.le_div_iff_mul_le hP];have:10000*10000 ^ (n - 1)=10000 ^ n:=(by rw[Nat.mul_comm,<- Nat.pow_succ];congr 1;omega);omega
  generalize 10000 ^ (n - 1)=P at *
  refine Nat.le_of_lt_succ (Nat.div_lt_of_lt_mul ?_);refine Nat.div_lt_of_lt_mul ?_;have h1:=Nat.lt_mul_div_succ y hP;generalize y / P=T at *
  have h2:P*(T+1)*10000<=P*(T*10001):=by
   rw[Nat.mul_assoc];exact Nat.mul_le_mul_left _ (by omega)
  have h3:y<P*(T+1):=h1;generalize P*(T+1)=Z at *
  generalize hW:P*(T*10001)=W at *
  have h4:N<W:=by omega
  first|exact h4|(rw[<- hW]at h4;simpa [Nat.mul_comm,Nat.mul_left_comm,Nat.mul_assoc] using h4)
theorem Qx {X a y Q R:Nat}(hX:X=y*Q+R)(hR:R<y):(a+10000*X) / y=10000*Q+(a+10000*R) / y/\(a+10000*X) % y=(a+10000*R) % y:=by
 have e:a+10000*X=(a+10000*R)+y*(10000*Q):=by
  rw[hX,Nat.mul_add];have:10000*(y*Q)=y*(10000*Q):=by ac_rfl
  omega
 rw[e,Nat.add_mul_div_left _ _ (by omega),Nat.add_mul_mod_self_left];exact⟨Nat.add_comm _ _,rfl⟩
end Go.Proofs.R01
namespace Go.Proofs.R01
open Go.Hx
theorem Dv {a b:Int}(h:a<=b):fj a b<=0:=by
 unfold fj;split
 ·omega
 ·split<;>omega
theorem Dw {a b:Int}(h:b<a):¬ fj a b<=0:=by
 unfold fj;split
 ·omega
 ·split<;>omega
set_option maxHeartbeats 4000000 in
theorem yH (x y:Nat)(hy:y≠0)(hx:(az x).length<=100)(hyl:(az y).length<=100)(H:AHeap)(K:ARes->AHeap->Prop)(hK:K (.ret (.tup [ab (az (x / y)),ab (az (x % y))])) H):ae Try.prog G0 108 [ab (az x),ab (az y)] H K:=by
 refine ae.JA ⟨_,Try.func108,rfl,rfl⟩ fun hcl hbel=>?_;obtain⟨p,hp⟩:∃ p,p=az x:=⟨_,rfl⟩
 obtain⟨q,hq⟩:∃ q,q=az y:=⟨_,rfl⟩
 have hqn:q.length≠0:=by intro h;exact hy (yE.1 (by rw[<- hq];exact List.eq_nil_of_length_eq_zero h))
 obtain⟨n,hn⟩:∃ n,q.length=n+1:=⟨q.length - 1,by omega⟩
 have ylb:=Dn y hy;have yub:=Qq (n:=y) (k:=n+1) (by rw[<- hq,hn];exact Nat.le_refl _);rw[<- hq,hn,Nat.add_sub_cancel]at ylb;have hx1:=hx;have hy1:=hyl;rw[<- hp]at hx;rw[<- hq]at hyl;have w1:=IntWalk.i64_in ((q.length:Int) - 1) (by omega);have en:(q.length:Int) - 1=(n:Int):=by omega
 rw[en]at w1;rw[<- hp,<- hq]at hbel ⊢;have rep0:∀ v:AVal,List.replicate 0 v=[]:=fun _=>rfl;refine ae.aS (n:=124) (rs:=[.tmp 4,.tmp 5]) Try.func108 rfl rfl rfl (by decide) (by kernel_rfl) (by simp) ?_;by_cases hs:(p.length:Int)<=(n:Int)
 ·have hlt:x<y:=pt (by rw[<- hp,<- hq];omega);rw[Nat.div_eq_of_lt hlt,Nat.mod_eq_of_lt hlt,gS,<- hp]at hK;obtain⟨v',H3,hA,hO,hn3,hpr⟩:=mS (P:=Try.prog) (H:=ext H [.arr 0 3 []]) (t:=59) (lo:=H.next) (n:=H.next+1) (v:=.own H.next 0 0 0 1) (cs:=[]) (src:=ints p) Try.underlying59 Try.dh Try.dG (gZ p) (by rw[Try.dU,aT];simp;omega) (.inr ⟨H.next,0,Nat.le_refl _,by simp [bn],rfl,br _ _ _⟩) (by simp [bn]) (by simp [bn]);rw[aT]at hA;have ov3:Over H H3:=⟨by simp only[bn]at hn3;omega,fun id hid=>by
   rw[hpr id (by simp only[bn];omega) fun g n he=>by have:=AVal.own.inj he;omega,dz hid]⟩
  simp only[go_sem,en,w1,hs,rep0,hA];refine aw.bk (v':=.tup [ab [],ab p]) aF hcl ov3 (.tup rfl fun i hi _=>?_) hK
  match i,hi with
  | 0,_=>exact .nil
  | 1,_=>exact hO.dw fun i hi=>hi
 ·have w2:=IntWalk.i64_in ((p.length:Int) - (n:Int)) (by omega);obtain⟨m,hm⟩:∃ m,p.length=n+m/\1<=m:=⟨p.length - n,by omega,by omega⟩
  have em:(p.length:Int) - (n:Int)=(m:Int):=by omega
  rw[em]at w2;have w3:=IntWalk.i64_in ((m:Int) - 1) (by omega);have esub:p.length - m=n:=by omega
  have ede:List.take n (List.drop m (ints p))=ints (p.drop m):=by rw[zf];exact List.take_of_length_le (by rw[aT,List.length_drop];omega)
  have mle:(m:Int)<=(p.length:Int):=by omega
  have dl:(p.drop m).length=n:=by simp;omega
  have eR:List.replicate m (AVal.lit (.int .i64 0))=ints (List.replicate m 0):=by simp [ints,aa]
  obtain⟨v',H3,hA,hO,hn3,hpr⟩:=mS (P:=Try.prog) (H:=ext H [.arr 0 3 (ints (List.replicate m 0)),.arr 0 3 []]) (t:=59) (lo:=H.next+1) (n:=H.next+2) (v:=.own (H.next+1) 0 0 0 1) (cs:=[]) (src:=ints (p.drop m)) Try.underlying59 Try.dh Try.dG (gZ _) (by rw[Try.dU,aT];simp;omega) (.inr ⟨H.next+1,0,Nat.le_refl _,by simp [bn],rfl,bu H _ 1 (by simp)⟩) (by show H.next+1<=H.next+2;omega) rfl;rw[aT,dl]at hA;simp only[bn,List.length_cons,List.length_nil]at hn3 hpr;obtain⟨Hq,hHq⟩:∃ Hq,Hq=ext H [.arr 0 3 (ints (List.replicate m 0))]:=⟨_,rfl⟩
  have nq:Hq.next=H.next+1:=by rw[hHq];rfl
  have clq:Clo Hq:=by
   rw[hHq];refine QI hcl fun b hb=>?_;obtain rfl:=List.mem_singleton.1 hb;exact QJ fun c hc=>by obtain⟨x,_,rfl⟩:=List.mem_map.1 hc;exact⟨_,rfl⟩
  have gq:Hq.get H.next=some (.arr 0 3 (ints (List.replicate m 0))):=by rw[hHq];exact br _ _ _
  have ovq:Over H Hq:=by rw[hHq];exact Over.ext _ _
  have ov3:Over Hq H3:=⟨by omega,fun id hid=>by
   rw[hpr id (by omega) fun g n he=>by have:=AVal.own.inj he;omega];by_cases h:id=H.next
   ·subst h;rw[gq,br]
   ·rw[c9 _ _ _ (by omega),ovq.old _ (by omega)]⟩
  have n3:=ov3.next;have hvF:Fz (fun id=>Hq.next<=id) H3 H3.next v' (ab (p.drop m)):=hO.dw fun i hi=>by omega
  have hbq:∀ v,v∈[ab p,ab q]->Below Hq.next v:=fun v hv=>(hbel v hv).mono (by omega);have h37:Fz (fun id=>Hq.next<=id) H3 H3.next (.vec n (ints (p.drop m))) (.vec n (ints (p.drop m))):=by rw[<- dl];exact .cB _
  have gq3:=(ov3.old H.next (by omega)).trans gq;have lq3:=ah gq3;simp only[go_sem,en,w1,hs,em,w2,rep0,mle,esub,ede,eR,hA,w3,lq3];refine⟨⟨by omega,by omega⟩,?_⟩;apply W.K6 (H:=Hq) aF clq ov3
  ·repeat first|exact Fz.K8 hbq (by omega)|(apply Fz.K7;· first|exact .lit _|assumption|exact .cB _|exact .ptr (by omega) (by omega)|exact .own (by omega) (by omega)|exact .deadOwn (by omega) (by show Hq.next<=_;omega))
  ·trivial
  obtain⟨Hg,hHg⟩:∃ Hg,Hg=hZ Hq (H3.next - Hq.next):=⟨_,rfl⟩
  rw[<- hHg];have hog:Over Hq Hg:=by rw[hHg];exact .hZ _ _
  have ng:=hog.next;have hgg:=(hog.old H.next (by omega)).trans gq;have pdm:p.drop m=az (x / 10000 ^ m):=by rw[hp];exact rB x m
  have xlt:x / 10000 ^ m<y:=pt (by rw[<- pdm,dl,<- hq];omega);refine W.env fun E hE=>?_;have e0:E 0=ab p:=by rw[hE];rfl
  have e1:E 1=ab q:=by rw[hE];rfl
  have e6:E 6=aa n:=by rw[hE];rfl
  have e7:E 7=.own H.next 0 0 m 1:=by rw[hE];rfl
  have e8:E 8=ab (p.drop m):=by rw[hE];rfl
  have e9:E 9=aa ((m:Int) - 1):=by rw[hE];rfl
  clear hE;refine W.aK 2658455991569831745807609722514243328 (by rfl) (fun ρ H'=>∃ (j:Nat) (qs:List Int),ρ 9=aa ((j:Int) - 1)/\j<=m/\Over H H'/\Hg.next<=H'.next/\H'.get H.next=some (.arr 0 3 (ints qs))/\qs.length=m/\Dg qs/\val (qs.drop j)=x / 10000 ^ j / y/\ρ 8=ab (az (x / 10000 ^ j % y))) (fun ρ H=>(iv (ρ 9)+1).toNat) ?_ ?_
  ·simp only[go_sem,e9,e8];refine⟨m,List.replicate m 0,by simp,by omega,ovq.trans hog,hgg,by simp,fun c hc=>by obtain⟨_,rfl⟩:=List.mem_replicate.1 hc;omega,?_,?_⟩
   ·rw[Nat.div_eq_of_lt xlt,List.drop_eq_nil_iff.2 (by simp)];rfl
   ·rw[Nat.mod_eq_of_lt xlt,<- pdm]
  rintro ρ H' ⟨j,qs,h9,hj,ov,hnx,hg,hql,hqd,hv,h8⟩;refine ag _ _ _ (by rfl) ?_;have lq:=ah hg;by_cases hz:j=0
  ·subst hz;have z1:¬ (0:Int)<=((0:Nat):Int) - 1:=(by omega);simp only[Nat.pow_zero,Nat.div_one,List.drop_zero]at hv h8;simp only[go_sem,h9,e7];have hO2:aB H.next H' 3 (.own H.next 0 0 m 1) (ints qs):=.inr ⟨H.next,0,Nat.le_refl _,by omega,by rw[aT,hql],hg⟩;refine aA.lL H.next (args':=[ab qs]) aF rfl (fun j hj _=>match j,hj with|0,_=>hO2.dw fun i hi=>hi) (rA qs hqd (by omega) _ _ ⟨trivial,?_⟩);rw[hv];simp only[go_sem,h8];have ovc:Over H (H'.cut H.next):=ov.y9 (Nat.le_refl _);refine aw.bk (v':=.tup [ab (az (x / y)),ab (az (x % y))]) aF hcl ovc (.tup rfl fun i hi _=>?_) hK
   match i,hi with
   | 0,_=>exact .cB _
   | 1,_=>exact .cB _
  obtain⟨i,rfl⟩:∃ i,j=i+1:=⟨j - 1,by omega⟩
  have ei:((i+1:Nat):Int) - 1=(i:Int):=by omega
  rw[ei]at h9;have z1:(0:Int)<=(i:Int):=by omega
  obtain⟨R,hR⟩:∃ R,R=x / 10000 ^ (i+1) % y:=⟨_,rfl⟩
  rw[<- hR]at h8;have hRy:R<y:=by rw[hR];exact Nat.mod_lt _ (by omega)
  have hil:i<p.length:=by omega
  obtain⟨a,ha⟩:∃ a,a=x / 10000 ^ i % 10000:=⟨_,rfl⟩
  have hpi:p[i]?=some ((a:Nat):Int):=by rw[ha,hp];exact uQ (by rw[<- hp];exact hil)
  have pn:¬ p=[]:=by rintro rfl;simp at hil
  have bil:(i:Int)<p.length:=by omega
  obtain⟨N,hN⟩:∃ N,N=a+10000*R:=⟨_,rfl⟩
  have yup:y<10000 ^ (n+1):=yub;have rlen:(az R).length<=n+1:=pr (by omega);have hNy:N<10000*y:=by omega
  have hN2:N<10000 ^ (n+2):=by
   have:10000 ^ (n+2)=10000*10000 ^ (n+1):=(by rw[Nat.pow_succ,Nat.mul_comm]);omega
  have nlen:(az N).length<=n+2:=pr hN2;obtain⟨v',H3,hA,hO,hn3,hpr⟩:=mS (P:=Try.prog) (H:=ext H' [.arr 0 3 [.lit (.int .i64 (a:Int))]]) (t:=59) (lo:=H'.next) (n:=H'.next+1) (v:=.own H'.next 0 0 1 1) (cs:=ints [(a:Int)]) (src:=ints (az R)) Try.underlying59 Try.dh Try.dG (gZ _) (by rw[Try.dU,aT,aT,List.length_singleton];omega) (.inr ⟨H'.next,0,Nat.le_refl _,by simp [bn],rfl,br _ _ _⟩) (by simp [bn]) (by simp [bn]);rw[aT]at hA;have ov3:Over H' H3:=⟨by simp only[bn]at hn3;omega,fun id hid=>by
   rw[hpr id (by simp only[bn];omega) fun g n he=>by have:=AVal.own.inj he;omega,dz hid]⟩
  have hcd:Dg ((a:Int) :: az R):=fun c hc=>by
   rcases List.mem_cons.1 hc with rfl|hc
   ·omega
   ·exact ke R c hc
  have hcv:val ((a:Int) :: az R)=N:=by rw[val,jc,hN];simp
  simp only[go_sem,h9,z1,h8,e0,hpi,pn,bil,hA];refine aA.lL H'.next (args':=[ab ((a:Int) :: az R)]) aF rfl (fun j hj _=>match j,hj with|0,_=>hO.dw fun i hi=>hi) (rA _ hcd (by rw[List.length_cons];omega) _ _ ⟨trivial,?_⟩);rw[hcv];have ovc:Over H' (H3.cut H'.next):=ov3.cut;obtain⟨Hc,hHc⟩:∃ Hc,Hc=H3.cut H'.next:=⟨_,rfl⟩
  rw[<- hHc]at ovc ⊢;clear hHc;have w4:=IntWalk.i64_in ((n:Int)+1) (by omega);simp only[go_sem,e6,w4];have gqc:=(ovc.old H.next (by omega)).trans hg;have nc:=ovc.next;refine W.env fun E2 hE2=>?_;have f0:E2 0=ab p:=by rw[hE2];exact e0
  have f1:E2 1=ab q:=by rw[hE2];exact e1
  have f6:E2 6=aa n:=by rw[hE2];exact e6
  have f7:E2 7=.own H.next 0 0 m 1:=by rw[hE2];exact e7
  have f8:E2 8=ab (az N):=by rw[hE2];rfl
  have f9:E2 9=aa (i:Int):=by rw[hE2];exact h9
  have f10:E2 10=aa 0:=by rw[hE2];rfl
  have f11:E2 11=aa 0:=by rw[hE2];rfl
  have f12:E2 12=aa ((n:Int)+1):=by rw[hE2];rfl
  clear hE2;have hqy:q=az y:=hq;have emax:(if (n:Int) - 1 > 0 then (n:Int) - 1 else 0)=((n - 1:Nat):Int):=by split<;>omega
  have w5:=IntWalk.i64_in ((n:Int) - 1) (by omega);have yk2:y / 10000 ^ (n+2)=0:=Nat.div_eq_of_lt (by rw[Nat.pow_succ];omega);have Nk2:N / 10000 ^ (n+2)=0:=Nat.div_eq_of_lt hN2;have cube:∀ z k:Nat,z<10000 ^ (n+2)->n - 1<=k->z / 10000 ^ k<1000000000000:=fun z k hz hk=>by
   refine Nat.div_lt_of_lt_mul (Nat.lt_of_lt_of_le hz ?_);rw[show (1000000000000:Nat)=10000 ^ 3 by decide,<- Nat.pow_add];exact Nat.pow_le_pow_right (by decide) (by omega)
  have hy2:y<10000 ^ (n+2):=by rw[Nat.pow_succ];omega
  refine W.aK 38685626155610539552676864 (by rfl) (fun ρ' H2=>∃ k F T:Nat,ρ' 12=aa ((k:Int) - 1)/\n - 1<=k/\k<=n+2/\H2=Hc/\ρ' 11=aa F/\ρ' 10=aa T/\F=N / 10000 ^ k/\T=y / 10000 ^ k) (fun ρ' H=>(iv (ρ' 12)+1).toNat) ?_ ?_
  ·simp only[go_sem,f12,f11,f10];exact⟨n+2,0,0,by simp;omega,by omega,by omega,rfl,rfl,Nk2.symm,yk2.symm⟩
  rintro ρ' H2 ⟨k,F,T,g12,hk1,hk2,rfl,g11,g10,hF,hT⟩;refine ag _ _ _ (by rfl) ?_;by_cases hke:k=n - 1
  ·have z2:¬ ((n - 1:Nat):Int)<=((n - 1:Nat):Int) - 1:=(by omega);rw[hke]at g12;simp only[go_sem,g12,f6,w5,emax,z2];rw[hke]at hF hT;have hP:0<10000 ^ (n - 1):=Nat.pow_pos (by decide);have hT0:0<T:=by
    rw[hT];refine Nat.div_pos ?_ hP;exact Nat.le_trans (Nat.pow_le_pow_right (by decide) (by omega)) ylb
   have cF:=cube N (n - 1) hN2 (by omega);have cT:=cube y (n - 1) hy2 (by omega);have qhi:N / y<=F / T:=(by rw[hF,hT];exact Qu hP (by rw[<- hT];exact hT0));have qlo:F / (T+1)<=N / y:=(by rw[hF,hT];exact Qv hP (by omega));have qcap:F / T<=10000:=(by rw[hF,hT];exact Qw hNy ylb);rw[<- hF]at cF;rw[<- hT]at cT;have w6:=IntWalk.i64_in ((T:Int)+1) (by omega);obtain⟨lo,hlo⟩:∃ lo,lo=F / (T+1):=⟨_,rfl⟩
   obtain⟨hi,hhi⟩:∃ hi,hi=F / T:=⟨_,rfl⟩
   have t1:((F:Int)).tdiv ((T:Int)+1)=(lo:Int):=(by rw[Int.tdiv_eq_ediv_of_nonneg (by omega),hlo];rfl);have t2:((F:Int)).tdiv (T:Int)=(hi:Int):=(by rw[Int.tdiv_eq_ediv_of_nonneg (by omega),hhi];rfl);rw[<- hlo]at qlo;rw[<- hhi]at qhi qcap;have w7:=IntWalk.i64_in (lo:Int) (by omega);have w8:=IntWalk.i64_in (hi:Int) (by omega);have n1:¬ (T:Int)+1=0:=(by omega);have n2:¬ (T:Int)=0:=(by omega);refine W.env fun E3 hE3=>?_;have k0:E3 0=ab p:=(by rw[hE3];exact f0);have k1:E3 1=ab q:=(by rw[hE3];exact f1);have k6:E3 6=aa n:=(by rw[hE3];exact f6);have k7:E3 7=.own H.next 0 0 m 1:=(by rw[hE3];exact f7);have k8:E3 8=ab (az N):=(by rw[hE3];exact f8);have k9:E3 9=aa (i:Int):=(by rw[hE3];exact f9);have k10:E3 10=aa T:=(by rw[hE3];exact g10);have k11:E3 11=aa F:=(by rw[hE3];exact g11);clear hE3;refine W.draw 8 [0,0,2,7,0,0,48,15] Try.mixed (by kernel_rfl) (by kernel_rfl) ?_;simp only[go_sem,k11,k10,w6,t1,t2,w7,w8,n1,n2];have gq2:H2.get H.next=some (.arr 0 3 (ints qs)):=gqc;obtain⟨Q,hQ⟩:∃ Q,Q=N / y:=⟨_,rfl⟩
   rw[<- hQ]at qlo qhi;have hyl2:(az y).length<=100:=hy1;refine W.env fun E4 hE4=>?_;have l1:E4 1=ab q:=(by rw[hE4];exact k1);have l7:E4 7=.own H.next 0 0 m 1:=(by rw[hE4];exact k7);have l8:E4 8=ab (az N):=(by rw[hE4];exact k8);have l9:E4 9=aa (i:Int):=(by rw[hE4];exact k9);have l13:E4 13=aa (lo:Int):=(by rw[hE4];rfl);have l14:E4 14=aa (hi:Int):=(by rw[hE4];rfl);clear hE4;have Nl:((az N).length:Int)<2 ^ 40:=(by omega);refine W.aK 1298069262873549765611524485865472 (by rfl) (fun ρ2 H3=>∃ L U:Nat,ρ2 13=aa L/\ρ2 14=aa U/\L<=Q/\Q<=U/\U<=10000/\Over H2 H3) (fun ρ2 H=>(iv (ρ2 14) - iv (ρ2 13)).toNat) ?_ ?_
   ·simp only[go_sem,l13,l14];exact⟨lo,hi,rfl,rfl,qlo,qhi,qcap,.refl _⟩
   rintro ρ2 H4 ⟨L,U,m13,m14,hL,hU,hU2,ov4⟩;refine ag _ _ _ (by rfl) ?_;have n4:=ov4.next;by_cases hLU:(L:Int)<(U:Int)
   ·obtain⟨M,hM⟩:∃ M,M=(L+U+1) / 2:=⟨_,rfl⟩
    have eLU:(L:Int)+(U:Int)=((L+U:Nat):Int):=(by omega);have eLU1:((L+U:Nat):Int)+1=((L+U+1:Nat):Int):=(by omega);have v1:=IntWalk.i64_in ((L+U:Nat):Int) (by omega);have v2:=IntWalk.i64_in ((L+U+1:Nat):Int) (by omega);have v3:(((L+U+1:Nat):Int)).tdiv 2=(M:Int):=(by rw[Int.tdiv_eq_ediv_of_nonneg (by omega),hM];rfl);have v4:=IntWalk.i64_in (M:Int) (by omega);have v5:=IntWalk.i64_in ((M:Int) - 1) (by omega);simp only[go_sem,m13,m14,hLU,eLU,eLU1,v1,v2,v3,v4,l1];have hO4:aB H4.next (ext H4 [.arr 0 3 [.lit (.int .i64 (M:Int))]]) 3 (.own H4.next 0 0 1 1) (ints [(M:Int)]):=.inr ⟨H4.next,0,Nat.le_refl _,by simp [bn],rfl,br _ _ _⟩;rw[hqy];refine aA.lL H4.next (args':=[ab (az y),ab [(M:Int)]]) aF rfl (fun j hj _=>match j,hj with|0,_=>.cB _|1,_=>hO4.dw fun i hi=>hi) (Qt y M (by omega) (by omega) _ _ ⟨trivial,?_⟩);have ylen:(az (y*M)).length<=n+2:=pr (by
     have h1:y*M<=y*10000:=Nat.mul_le_mul_left _ (by omega);rw[Nat.pow_succ];omega)
    have ov5:Over H2 ((ext H4 [.arr 0 3 [.lit (.int .i64 (M:Int))]]).cut H4.next):=ov4.trans ((Over.ext _ _).cut);simp only[go_sem,l8];refine aA.clo (Dq (y*M) N (by omega) _ _ ⟨trivial,?_⟩);by_cases hc:y*M<=N
    ·have hc1:fj ((y*M:Nat):Int) (N:Int)<=0:=Dv (by omega);have hMQ:M<=Q:=(by rw[hQ,Nat.le_div_iff_mul_le (by omega),Nat.mul_comm];exact hc);simp only[go_sem,hc1];exact⟨ov5.next,⟨M,U,rfl,m14,hMQ,hU,hU2,ov5⟩,by rw[m14];simp only[aa,iv];omega⟩
    ·have hc1:¬ fj ((y*M:Nat):Int) (N:Int)<=0:=Dw (by omega);have hMQ:Q<M:=(by rw[hQ,Nat.div_lt_iff_lt_mul (by omega),Nat.mul_comm];omega);simp only[go_sem,hc1,v5];exact⟨ov5.next,⟨L,M - 1,m13,by simp;omega,hL,by omega,by omega,ov5⟩,by rw[m13];simp only[aa,iv];omega⟩
   ·have LQ:L=Q:=(by omega);subst LQ;have g4:=(ov4.old H.next (by omega)).trans gq2;have lq4:=ah g4;have him:i<m:=(by omega);have zi:(i:Int)<(m:Int):=(by omega);have Q9:L<10000:=(by rw[hQ];exact Nat.div_lt_of_lt_mul (by omega));simp only[go_sem,m13,m14,hLU,l7,l9,zi,lq4];rw[fS _ (by omega)];obtain⟨H5,hH5⟩:∃ H5,H5=H4.upd H.next (.arr 0 3 (ints (qs.set i (L:Int)))):=⟨_,rfl⟩
    rw[<- hH5];have g5:H5.get H.next=some (.arr 0 3 (ints (qs.set i (L:Int)))):=(by rw[hH5,af,if_pos rfl]);have n5:H5.next=H4.next:=(by rw[hH5];rfl);have ov5:Over H H5:=⟨by have:=ov.next;omega,fun id hid=>by
     rw[hH5,af,if_neg (by omega),ov4.old _ (by omega),ovc.old _ (by omega),ov.old _ hid]⟩
    clear hH5;refine⟨by omega,?_⟩;have dgL:Dg [(L:Int)]:=fun c hc=>by obtain rfl:=List.mem_singleton.1 hc;omega
    have vL:val [(L:Int)]=L:=(by simp [val]);have hO5:aB H5.next (ext H5 [.arr 0 3 [.lit (.int .i64 (L:Int))]]) 3 (.own H5.next 0 0 1 1) (ints [(L:Int)]):=.inr ⟨H5.next,0,Nat.le_refl _,by simp [bn],rfl,br _ _ _⟩;refine aA.lL H5.next (args':=[ab [(L:Int)]]) aF rfl (fun j hj _=>match j,hj with|0,_=>hO5.dw fun i hi=>hi) (rA _ dgL (by simp) _ _ ⟨trivial,?_⟩);rw[vL];have ov6:Over H5 ((ext H5 [.arr 0 3 [.lit (.int .i64 (L:Int))]]).cut H5.next):=(Over.ext _ _).cut;obtain⟨H6,hH6⟩:∃ H6,H6=(ext H5 [.arr 0 3 [.lit (.int .i64 (L:Int))]]).cut H5.next:=⟨_,rfl⟩
    rw[<- hH6]at ov6 ⊢;clear hH6;have n6:=ov6.next;have lenL:(az L).length<=1:=pr (by omega);have hmul:y*L<=N:=(by rw[hQ];exact Nat.mul_div_le N y);simp only[go_sem,l1,l8];rw[hqy];refine aA.clo (Qs y L (by omega) (by omega) _ _ ⟨trivial,?_⟩);simp only[go_sem];refine aA.clo (Qr N (y*L) hmul (by omega) _ _ ⟨trivial,?_⟩);have wi:=IntWalk.i64_in ((i:Int) - 1) (by omega);simp only[go_sem,l9,wi];have eX:=Nat.div_add_mod (x / 10000 ^ (i+1)) y;have eS:x / 10000 ^ i=a+10000*(x / 10000 ^ (i+1)):=by
     rw[Nat.pow_succ,<- Nat.div_div_eq_div_mul,ha];omega
    have qs2:=Qx (X:=x / 10000 ^ (i+1)) (a:=a) (y:=y) (Q:=x / 10000 ^ (i+1) / y) (R:=R) (by rw[hR];exact eX.symm) hRy;rw[<- eS,<- hN]at qs2;have eRN:N - y*L=x / 10000 ^ i % y:=(by rw[qs2.2,hQ];have:=Nat.div_add_mod N y;omega);rw[eRN];refine⟨by omega,⟨i,qs.set i (L:Int),rfl,by omega,ov5.trans ov6,by omega,(ov6.old _ (by omega)).trans g5,by simp [hql],fun c hc=>?_,?_,rfl⟩,by omega⟩
    ·rcases List.mem_or_eq_of_mem_set hc with h|h
     ·exact hqd c h
     ·omega
    ·rw[List.drop_eq_getElem_cons (by simp;omega),val,List.getElem_set_self,Int.toNat_natCast,List.drop_set_of_lt (by omega),hv,qs2.1,hQ];omega
  obtain⟨j,rfl⟩:∃ j,k=j+1:=⟨k - 1,by omega⟩
  have ej:((j+1:Nat):Int) - 1=(j:Int):=by omega
  rw[ej]at g12;have z2:((n - 1:Nat):Int)<=(j:Int):=by omega
  have cF:=cube N j hN2 (by omega);have cT:=cube y j hy2 (by omega);rw[Nat.pow_succ,<- Nat.div_div_eq_div_mul]at hF hT;have nF:N / 10000 ^ j=0\/j<(az N).length:=by
   by_cases h:j<(az N).length
   ·exact .inr h
   ·exact .inl (Du h)
  have nT:y / 10000 ^ j=0\/j<=n:=by
   by_cases h:j<=n
   ·exact .inr h
   ·exact .inl (Du (by rw[<- hqy,hn];omega))
  have dF:j<(az N).length->(az N)[j]?=some ((N / 10000 ^ j % 10000:Nat):Int):=fun h=>uQ h;have dT:j<=n->q[j]?=some ((y / 10000 ^ j % 10000:Nat):Int):=fun h=>by rw[hqy];exact uQ (by rw[<- hqy,hn];omega)
  obtain⟨F',hF'⟩:∃ F',F'=N / 10000 ^ j:=⟨_,rfl⟩
  obtain⟨T',hT'⟩:∃ T',T'=y / 10000 ^ j:=⟨_,rfl⟩
  rw[<- hF']at cF hF nF dF;rw[<- hT']at cT hT nT dT;obtain⟨cf,hcf⟩:∃ cf,cf=F' % 10000:=⟨_,rfl⟩
  obtain⟨ct,hct⟩:∃ ct,ct=T' % 10000:=⟨_,rfl⟩
  rw[<- hcf]at dF;rw[<- hct]at dT;have w6:=IntWalk.i64_in ((F:Int)*10000) (by omega);have w7:=IntWalk.i64_in ((F:Int)*10000+(cf:Int)) (by omega);have w8:=IntWalk.i64_in ((T:Int)*10000) (by omega);have w9:=IntWalk.i64_in ((T:Int)*10000+(ct:Int)) (by omega);have wj:=IntWalk.i64_in ((j:Int) - 1) (by omega);by_cases hjl:j<(az N).length
  ·have dF1:=dF hjl;have Nn:¬ az N=[]:=(by intro h;rw[h]at hjl;simp at hjl);have z3:(j:Int)<(az N).length:=(by omega);by_cases hjn:j<=n
   ·have dT1:=dT hjn;have qn:¬ q=[]:=(by intro h;rw[h]at hn;simp at hn);have z4:(j:Int)<=(n:Int):=(by omega);have z5:(j:Int)<q.length:=(by omega);simp only[go_sem,g12,f6,w5,emax,z2,g11,w6,f8,z3,Nn,dF1,w7,z4,z5,f1,dT1,qn,g10,w8,w9,wj];exact⟨⟨j,F',T',rfl,by omega,by omega,by simp;omega,by simp;omega,hF',hT'⟩,by omega⟩
   ·have z4:¬ (j:Int)<=(n:Int):=(by omega);simp only[go_sem,g12,f6,w5,emax,z2,g11,w6,f8,z3,Nn,dF1,w7,z4,wj];exact⟨⟨j,F',T',rfl,by omega,by omega,by simp;omega,by rw[g10,aa];simp;omega,hF',hT'⟩,by omega⟩
  ·have z3:¬ (j:Int)<(az N).length:=(by omega);by_cases hjn:j<=n
   ·have dT1:=dT hjn;have qn:¬ q=[]:=(by intro h;rw[h]at hn;simp at hn);have z4:(j:Int)<=(n:Int):=(by omega);have z5:(j:Int)<q.length:=(by omega);simp only[go_sem,g12,f6,w5,emax,z2,g11,w6,f8,z3,z4,z5,f1,dT1,qn,g10,w8,w9,wj];exact⟨⟨j,F',T',rfl,by omega,by omega,by simp;omega,by simp;omega,hF',hT'⟩,by omega⟩
   ·have z4:¬ (j:Int)<=(n:Int):=(by omega);simp only[go_sem,g12,f6,w5,emax,z2,g11,w6,f8,z3,z4,wj];exact⟨⟨j,F',T',rfl,by omega,by omega,by simp;omega,by rw[g10,aa];simp;omega,hF',hT'⟩,by omega⟩
end Go.Proofs.R01
namespace Go.Proofs.R01
open Go.Hx
def vn:AVal->Nat
 | .vec _ l=>val (l.map iv)
 | _=>0
theorem Dx (n:Nat):vn (ab (az n))=n:=by
 have:(ints (az n)).map iv=az n:=by simp [ints,aa,iv,Function.comp_def]
 show val ((ints (az n)).map iv)=n;rw[this,jc]
theorem Qy (x y:Nat)(hx:(az x).length<=100)(hy:(az y).length<=100)(H:AHeap)(K:ARes->AHeap->Prop)(hK:K (.ret (ab (az (Nat.gcd x y)))) H):ae Try.prog G0 107 [ab (az x),ab (az y)] H K:=by
 refine ae.clo ⟨_,Try.func107,rfl,rfl⟩ fun hcl=>?_;refine ae.aS (n:=19) (rs:=[.tmp 4]) Try.func107 rfl rfl rfl (by decide) (by kernel_rfl) (by simp) ?_;simp only[go_sem];refine W.aK 262115 (by rfl) (fun ρ H'=>∃ X Y:Nat,ρ 0=ab (az X)/\ρ 1=ab (az Y)/\(az X).length<=100/\(az Y).length<=100/\H'=H/\Nat.gcd X Y=Nat.gcd x y) (fun ρ H=>vn (ρ 1)) ?_ ?_
 ·simp only[go_sem];exact⟨x,y,rfl,rfl,hx,hy,rfl⟩
 rintro ρ H' ⟨X,Y,h0,h1,hX,hY,rfl,hg⟩;refine ag _ _ _ (by rfl) ?_;by_cases hz:Y=0
 ·subst hz;have z1:¬ (0:Int)<(az 0).length:=by rw[gS];simp
  rw[Nat.gcd_zero_right]at hg;simp only[go_sem,h0,h1,z1];rw[<- hg]at hK;exact aw.bk aF hcl (.refl _) (.cB _) hK
 have z1:(0:Int)<(az Y).length:=by
  have:(az Y).length≠0:=fun h=>hz (yE.1 (List.eq_nil_of_length_eq_zero h));omega
 simp only[go_sem,h0,h1,z1];refine aA.clo (yH X Y hz hX hY _ _ ⟨trivial,?_⟩);have hlt:X % Y<Y:=Nat.mod_lt _ (by omega);have hl:(az (X % Y)).length<=100:=by
  rcases Nat.lt_or_ge (az Y).length (az (X % Y)).length with h|h
  ·exact absurd (pt h) (by omega)
  ·omega
 simp only[go_sem,h1];refine⟨⟨Y,X % Y,rfl,rfl,hY,hl,?_⟩,?_⟩
 ·rw[<- hg,Nat.gcd_comm Y,<- Nat.gcd_rec,Nat.gcd_comm]
 ·have e1:=Dx (X % Y);have e2:=Dx Y;rw[show AVal.vec (az (X % Y)).length (ints (az (X % Y)))=ab (az (X % Y)) from rfl,show AVal.vec (az Y).length (ints (az Y))=ab (az Y) from rfl,e1,e2];exact hlt
theorem Dy {S:Nat->Prop}{H:AHeap}{nx:Nat}{n:Int}{b:Bool}:Fz S H nx (.tup [.lit (.int .i64 n),.lit (.bool b)]) (.tup [aa n,.lit (.bool b)]):=.tup rfl fun i hi _=>match i,hi with
 | 0,_=>.lit _
 | 1,_=>.lit _
def im (n:Nat):AVal:=if n<=4611686018427387903 then .tup [aa n,.lit (.bool true)] else .tup [aa 0,.lit (.bool false)]
theorem rC (n:Nat)(hn:(az n).length<=100)(H:AHeap)(K:ARes->AHeap->Prop)(hK:K (.ret (im n)) H):ae Try.prog G0 109 [ab (az n)] H K:=by
 refine ae.clo ⟨_,Try.func109,rfl,rfl⟩ fun hcl=>?_;obtain⟨p,hp⟩:∃ p,p=az n:=⟨_,rfl⟩
 refine ae.aS (n:=25) (rs:=[.tmp 2,.tmp 3]) Try.func109 rfl rfl rfl (by decide) (by kernel_rfl) (by simp) ?_;simp only[go_sem];refine aA.clo (yF 4611686018427387903 (by omega) _ _ ⟨trivial,?_⟩);simp only[go_sem];refine aA.clo (Dq n 4611686018427387903 (by omega) _ _ ⟨trivial,?_⟩);unfold im at hK;by_cases hb:n<=4611686018427387903;rotate_left
 ·have c1:0<fj (n:Int) 4611686018427387903:=by have:=Dw (a:=(n:Int)) (b:=4611686018427387903) (by omega);omega
  rw[if_neg hb]at hK;simp only[go_sem,c1];exact aw.bk aF hcl (.refl _) Dy hK
 have c1:¬ 0<fj (n:Int) 4611686018427387903:=by have:=Dv (a:=(n:Int)) (b:=4611686018427387903) (by omega);omega
 rw[if_pos hb]at hK;have w1:=IntWalk.i64_in (((az n).length:Int) - 1) (by omega);simp only[go_sem,c1,w1];refine W.aK 16769072 (by rfl) (fun ρ H'=>∃ k X:Nat,ρ 5=aa ((k:Int) - 1)/\ρ 4=aa X/\X=n / 10000 ^ k/\k<=(az n).length/\H'=H) (fun ρ H=>(iv (ρ 5)+1).toNat) ?_ ?_
 ·simp only[go_sem];refine⟨(az n).length,0,rfl,rfl,?_,by omega⟩;exact(Nat.div_eq_of_lt (by have:=mj (ke n);rwa [jc]at this)).symm
 rintro ρ H' ⟨k,X,h5,h4,hX,hk,rfl⟩;refine ag _ _ _ (by rfl) ?_;by_cases hz:k=0
 ·subst hz;have z1:¬ (0:Int)<=((0:Nat):Int) - 1:=by omega
  simp only[Nat.pow_zero,Nat.div_one]at hX;subst hX;simp only[go_sem,h5,h4];exact aw.bk aF hcl (.refl _) Dy hK
 obtain⟨j,rfl⟩:∃ j,k=j+1:=⟨k - 1,by omega⟩
 have ej:((j+1:Nat):Int) - 1=(j:Int):=by omega
 rw[ej]at h5;have z1:(0:Int)<=(j:Int):=by omega
 have hd:=uQ (n:=n) (k:=j) (by omega);rw[Nat.pow_succ,<- Nat.div_div_eq_div_mul]at hX;have hle:n / 10000 ^ j<=n:=Nat.div_le_self _ _;obtain⟨Y,hY⟩:∃ Y,Y=n / 10000 ^ j:=⟨_,rfl⟩
 rw[<- hY]at hd hX hle;obtain⟨c,hc⟩:∃ c,c=Y % 10000:=⟨_,rfl⟩
 rw[<- hc]at hd;have w2:=IntWalk.i64_in (10000*(X:Int)) (by omega);have w3:=IntWalk.i64_in (10000*(X:Int)+(c:Int)) (by omega);have w4:=IntWalk.i64_in ((j:Int) - 1) (by omega);have dn:¬ az n=[]:=by intro h;rw[h]at hd;simp at hd
 have z2:(j:Int)<(az n).length:=by omega
 simp only[go_sem,h5,h4,z1,w2,hd,dn,z2,w3,w4];exact⟨⟨j,Y,rfl,by simp;omega,hY,by omega⟩,by omega⟩
def nA (neg:Bool)(N D:Nat):AVal :=
 if N / Nat.gcd N D<=4611686018427387903/\D / Nat.gcd N D<=4611686018427387903 then .tup [qV (if neg=true then -((N / Nat.gcd N D:Nat):Int) else ((N / Nat.gcd N D:Nat):Int)) ((D / Nat.gcd N D:Nat):Int),.lit (.bool true)] else .tup [qV 0 0,.lit (.bool false)]
theorem py {S:Nat->Prop}{H:AHeap}{nx:Nat}{x y:Int}{b:Bool}:Fz S H nx (.tup [.agg [.lit (.int .i64 x),.lit (.int .i64 y)],.lit (.bool b)]) (.tup [qV x y,.lit (.bool b)]):=.tup rfl fun i hi _=>match i,hi with
 | 0,_=>QK _ _
 | 1,_=>.lit _
theorem yI {a b:Nat}(h:a<=b):(az a).length<=(az b).length:=by
 rcases Nat.lt_or_ge (az b).length (az a).length with h1|h1
 ·exact absurd (pt h1) (by omega)
 ·exact h1
set_option maxHeartbeats 1000000 in
theorem Qz (neg:Bool)(N D:Nat)(hD:D≠0)(hN:(az N).length<=100)(hDl:(az D).length<=100)(H:AHeap)(K:ARes->AHeap->Prop)(hK:K (.ret (nA neg N D)) H):ae Try.prog G0 98 [.lit (.bool neg),ab (az N),ab (az D)] H K:=by
 refine ae.clo ⟨_,Try.func98,rfl,rfl⟩ fun hcl=>?_;have g0:0<Nat.gcd N D:=Nat.gcd_pos_of_pos_right _ (by omega);have gl:(az (Nat.gcd N D)).length<=100:=Nat.le_trans (yI (Nat.le_of_dvd (by omega) (Nat.gcd_dvd_right N D))) hDl;have gc:∀ H K,K (ARes.ret (ab (az (Nat.gcd N D)))) H->ae Try.prog G0 107 [ab (az N),ab (az D)] H K:=fun H K h=>Qy N D hN hDl H K h;unfold nA at hK;generalize Nat.gcd N D=g at *
 have l1:(az (N / g)).length<=100:=Nat.le_trans (yI (Nat.div_le_self _ _)) hN;have l2:(az (D / g)).length<=100:=Nat.le_trans (yI (Nat.div_le_self _ _)) hDl;have d1:∀ H K,K (ARes.ret (.tup [ab (az (N / g)),ab (az (N % g))])) H->ae Try.prog G0 108 [ab (az N),ab (az g)] H K:=fun H K h=>yH N g (by omega) hN gl H K h;have d2:∀ H K,K (ARes.ret (.tup [ab (az (D / g)),ab (az (D % g))])) H->ae Try.prog G0 108 [ab (az D),ab (az g)] H K:=fun H K h=>yH D g (by omega) hDl gl H K h;generalize N / g=p at *
 generalize D / g=q at *
 generalize N % g=r1 at *
 generalize D % g=r2 at *
 refine ae.aS (n:=51) (rs:=[.cell 6 68,.tmp 7]) Try.func98 rfl rfl rfl (by decide) (by kernel_rfl) (by simp) ?_;simp only[go_sem];refine aA.clo (gc _ _ ⟨trivial,?_⟩);simp only[go_sem];refine aA.clo (d1 _ _ ⟨trivial,?_⟩);simp only[go_sem];refine aA.clo (d2 _ _ ⟨trivial,?_⟩);simp only[go_sem];refine aA.clo (rC p l1 _ _ ⟨trivial,?_⟩);unfold im;by_cases hp:p<=4611686018427387903
 ·have wp:=IntWalk.i64_in (0 - (p:Int)) (by omega);rw[if_pos hp];simp only[go_sem];refine aA.clo (rC q l2 _ _ ⟨trivial,?_⟩);unfold im;by_cases hq:q<=4611686018427387903
  ·rw[if_pos ⟨hp,hq⟩]at hK;rw[if_pos hq];cases neg with
   | false =>
    simp only[go_sem];exact aw.drop aF hcl py (by simpa using hK)
   | true =>
    simp only[go_sem];exact aw.drop aF hcl py (by rw[wp,Int.zero_sub];simpa using hK)
  ·rw[if_neg (fun h=>hq h.2)]at hK;rw[if_neg hq];simp only[go_sem];exact aw.drop aF hcl py hK
 ·rw[if_neg (fun h=>hp h.1)]at hK;rw[if_neg hp];simp only[go_sem];refine aA.clo (rC q l2 _ _ ⟨trivial,?_⟩);unfold im;by_cases hq:q<=4611686018427387903
  ·rw[if_pos hq];simp only[go_sem];exact aw.drop aF hcl py hK
  ·rw[if_neg hq];simp only[go_sem];exact aw.drop aF hcl py hK
end Go.Proofs.R01
namespace Go.Proofs.R01
open Go.Hx
abbrev rD (n:Int):Prop:=-9223372036854775808<=n/\n<=9223372036854775807
theorem Dz {n:Int}(h:rD n):(az n.natAbs).length<=5:=pr (by
 have:(10000:Nat) ^ 5=100000000000000000000:=by decide
 have:=h.1;have:=h.2;omega)
theorem QA (neg:Bool)(N D:Nat):∃ x y b,nA neg N D=.tup [qV x y,.lit (.bool b)]:=by
 unfold nA;split
 ·exact⟨_,_,_,rfl⟩
 ·exact⟨_,_,_,rfl⟩
theorem QB (n d:Int)(hn:rD n)(hd:rD d)(hd0:d≠0)(H:AHeap)(K:ARes->AHeap->Prop)(hK:K (.ret (nA (rE n d) n.natAbs d.natAbs)) H):ae Try.prog G0 80 [.lit (.int .i64 n),.lit (.int .i64 d)] H K:=by
 refine ae.clo ⟨_,Try.func80,rfl,rfl⟩ fun hcl=>?_;refine ae.aS (n:=18) (rs:=[.cell 4 68,.tmp 5]) Try.func80 rfl rfl rfl (by decide) (by kernel_rfl) (by simp) ?_;simp only[go_sem,QG Try.underlying4];refine aA.clo (yF n hn _ _ ⟨trivial,?_⟩);simp only[go_sem];refine aA.clo (yF d hd _ _ ⟨trivial,?_⟩);simp only[go_sem];have l1:=Dz hn;have l2:=Dz hd;refine aA.clo (Qz _ _ _ (by omega) (by omega) (by omega) _ _ ⟨trivial,?_⟩);unfold rE at hK;obtain⟨x,y,b,e⟩:=QA (!(decide (n<0) == decide (d<0))) n.natAbs d.natAbs;rw[e]at hK ⊢;simp only[go_sem,qV];exact aw.drop aF hcl py hK
theorem QC {n d:Int}(hn:-4611686018427387903<=n/\n<=4611686018427387903)(hd:1<=d/\d<=4611686018427387903):nA (rE n d) n.natAbs d.natAbs=.tup [iq n d,.lit (.bool true)]:=by
 have g0:0<Int.gcd n d:=Int.gcd_pos_of_ne_zero_right _ (by omega);have hg:Nat.gcd n.natAbs d.natAbs=Int.gcd n d:=rfl;have hs:rE n d=decide (n<0):=by
  unfold rE;rw[decide_eq_false (show ¬ d<0 by omega)];cases decide (n<0)<;>rfl
 have l1:n.natAbs / Int.gcd n d<=n.natAbs:=Nat.div_le_self _ _;have l2:d.natAbs / Int.gcd n d<=d.natAbs:=Nat.div_le_self _ _;unfold nA iq qV;rw[hg,if_pos ⟨by omega,by omega⟩,hs];have e2:d.tdiv (Int.gcd n d:Int)=((d.natAbs / Int.gcd n d:Nat):Int):=by
  rw[Int.tdiv_eq_ediv_of_nonneg (by omega),Int.natCast_ediv];congr 1;omega
 have e1:n.tdiv (Int.gcd n d:Int)=if decide (n<0)=true then -((n.natAbs / Int.gcd n d:Nat):Int) else ((n.natAbs / Int.gcd n d:Nat):Int):=by
  by_cases h:n<0
  ·rw[decide_eq_true h,if_pos rfl];have:n=-(n.natAbs:Int):=by omega
   conv=>lhs;rw[this]
   rw[Int.neg_tdiv,Int.tdiv_eq_ediv_of_nonneg (by omega),Int.natCast_ediv];congr 3
   all_goals (try rw[<- this])
  ·rw[decide_eq_false h,if_neg (by decide)];rw[Int.tdiv_eq_ediv_of_nonneg (by omega),Int.natCast_ediv];congr 1;omega
 rw[e1,e2]
theorem QD (n d:Int)(hn:-4611686018427387903<=n/\n<=4611686018427387903)(hd:1<=d/\d<=4611686018427387903)(H:AHeap)(K:ARes->AHeap->Prop)(hK:K (.ret (iq n d)) H):ae Try.prog G0 37 [.lit (.int .i64 n),.lit (.int .i64 d)] H K:=by
 refine ae.clo ⟨_,Try.func37,rfl,rfl⟩ fun hcl=>?_;refine ae.aS (n:=14) (rs:=[.cell 4 68]) Try.func37 rfl rfl rfl (by decide) (by kernel_rfl) (by simp) ?_;simp only[go_sem];refine aA.clo (QB n d (by unfold rD;omega) (by unfold rD;omega) (by omega) _ _ ⟨trivial,?_⟩);rw[QC hn hd];simp only[go_sem,iq];refine aw.drop aF hcl (v':=iq n d) ?_ hK;exact .agg rfl fun i hi _=>match i,hi with
  | 0,_=>.lit _
  | 1,_=>.lit _
end Go.Proofs.R01
namespace Go.Hx
variable {P:Program} {H H':AHeap}
theorem pg {t e:TypeId}{lo n m:Nat}{v x:AVal}{cs src:List AVal}{z:List AVal}(ht:P.underlying t=some (.slice e))(hz:P.cellsOf e=1)(hzero:bL P e=some z)(hsrc:cI H 1 x=some (m,src))(hm:src.length=m)(hx:src.all AVal.one=true)
  (hb:(cs.length+m)*P.bytesOf e<=2 ^ 46/\cs.length+m<=2 ^ 46) (ho:aB lo H e v cs) (hlo:lo<=H.next) (hn:n=H.next):
  ∃ v' H',bq P H n t t v x=some (v',H')/\aB lo H' e v' (cs++src)/\H.next<=H'.next/\(∀ k,k<H.next->(∀ g n,v≠.own k g 0 n 1)->H'.get k=H.get k):=by
 subst hm;obtain⟨v',H',hA,h2⟩:=mS (H:=H) (n:=n) ht hz hzero hx hb ho hlo hn;refine⟨v',H',?_,h2⟩;rw[<- hA];have e2:cI H 1 (.vec src.length src)=some (src.length,src):=by unfold cI;simp
 unfold bq;rw[ht];simp only[hz,hsrc,e2]
end Go.Hx
namespace Go.Proofs
open Go.Hx
def bC (l:List Int):List AVal:=l.map fun n=>.lit (.int .u8 n)
def U8 (n:Int):Prop:=0<=n/\n<256
theorem ru {l:List Int}{k:Nat}{a:Int}(h:l[k]?=some a):(bC l)[k]?=some (.lit (.int .u8 a)):=by unfold bC;rw[List.getElem?_map,h];rfl
theorem Pw (n:Nat)(hn:n<=5)(ord:List Int)(H:AHeap)(K:ARes->AHeap->Prop)(hK:K (.ret (ab (List.replicate n 1))) H):
  ae Try.prog G0 101 [.agg [.vec n (bC (List.replicate n 0)),(.lit (.int .u16 0)),.vec ord.length (bC ord)]] H K:=by
 refine ae.clo ⟨_,Try.func101,rfl,rfl⟩ fun hcl=>?_;refine ae.aS (n:=28) (rs:=[.tmp 2]) Try.func101 rfl rfl rfl (by decide) (by kernel_rfl) (by simp) ?_;simp only[go_sem];obtain⟨H1,hH1⟩:∃ H1,H1=ext H [.arr 0 139 [.vec n (bC (List.replicate n 0)),.lit (.int .u16 0),.vec ord.length (bC ord)]]:=⟨_,rfl⟩
 have l1:=ah (show H1.get H.next=some (.arr 0 139 [.vec n (bC (List.replicate n 0)),.lit (.int .u16 0),.vec ord.length (bC ord)]) by rw[hH1];exact br ..);have n1:H1.next=H.next+1:=by rw[hH1];rfl
 have o1:Over H H1:=by rw[hH1];exact .ext _ _
 rw[<- hH1];refine W.aK 134217720 (by rfl) (fun ρ H'=>∃ k:Nat,ρ 4=aa k/\k<=n/\Over H1 H'/\aB H1.next H' 3 (ρ 3) (ints (List.replicate k 1))) (fun ρ H=>n - (iv (ρ 4)).toNat) ?_ ?_
 ·simp only[go_sem];exact⟨0,rfl,by omega,.refl _,.nil⟩
 rintro ρ H' ⟨k,h4,hk,ov,h3⟩;refine W.env fun E hE=>?_;have e1:E 1=.ptr H.next 0 0:=by rw[hE];simp only[go_sem]
 have e3:E 3=ρ 3:=by rw[hE];simp only[go_sem]
 have e4:E 4=aa k:=by rw[hE];simp only[go_sem,h4]
 clear hE;refine ag _ _ _ (by rfl) ?_;have l2:=(ov.live (g:=0) (by omega:H.next<H1.next)).trans l1;by_cases hb:(k:Int)<n
 ·have h5:(k:Int)<5:=by omega
  have hg:(bC (List.replicate n 0))[k]?=some (.lit (.int .u8 0)):=ru (by rw[List.getElem?_replicate,if_pos (by omega)]);have hne:=aR hg;obtain⟨v',H2,hA,ov2,hO,hn2,_⟩:=iM 1 ov h3 (by simp;omega);have w1:=IntWalk.i64_in ((k:Int)+1) (by omega);have hk0:(k:Int) >= 0:=by omega
  have w5:IntKind.i64.wrap (1+IntKind.i64.wrap (Int.tmod 0 4))=1:=by decide
  simp only[go_sem,e1,e3,e4,l2,hb,h5,hk0,hg,hne,w1,w5,hA];refine⟨by have:=ov2.next;omega,⟨k+1,rfl,by omega,ov2,?_⟩,by rw[h4];simp only[aa,aU];omega⟩;rw[List.replicate_succ'];exact hO
 ·simp only[go_sem,e1,e3,e4,l2,hb];obtain rfl:k=n:=by omega
  exact aw.bk aF hcl (o1.trans ov) (h3.dw fun i hi=>by omega) hK
structure IsPerm (n:Nat)(p:List Int):Prop where
 len:p.length=n
 nd:p.Nodup
 rng:∀ x∈p,0<=x/\x<n
theorem Px {n:Nat}{p:List Int}(h:IsPerm n p)(at':Nat)(ha:at'<=n):IsPerm (n+1) (p.take at'++(n:Int) :: p.drop at'):=by
 have hperm:(p.take at'++(n:Int) :: p.drop at').Perm ((n:Int) :: p):=by
  have:=List.perm_middle (a:=(n:Int)) (l₁:=p.take at') (l₂:=p.drop at')
  rwa [List.take_append_drop]at this
 refine⟨by rw[hperm.length_eq];simp [h.len],(hperm.nodup_iff).2 (List.nodup_cons.2 ⟨fun hm=>?_,h.nd⟩),fun x hx=>?_⟩
 ·have:=h.rng _ hm;omega
 ·rcases List.mem_cons.1 (hperm.mem_iff.1 hx) with rfl|h2
  ·omega
  ·have:=h.rng x h2;omega
def kX (ord:List Int)(k:Nat):Nat:=if k<ord.length then (ord.getD k 0 % ((k:Int)+1)).toNat else 0
def gE (ord:List Int):Nat->List Int
 | 0=>[]
 | k+1=>(gE ord k).take (kX ord k)++(k:Int) :: (gE ord k).drop (kX ord k)
theorem Py (ord:List Int)(k:Nat):kX ord k<=k:=by
 unfold kX;split
 ·have:=Int.emod_lt_of_pos (ord.getD k 0) (show 0<(k:Int)+1 by omega);omega
 ·omega
theorem yv (ord:List Int):∀ n:Nat,IsPerm n (gE ord n)
 | 0=>⟨rfl,by simp [gE],by simp [gE]⟩
 | n+1=>Px (yv ord n) _ (Py ord n)
set_option maxHeartbeats 1000000 in
theorem Pz (n:Nat)(hn:n<=5)(ord:List Int)(hol:(ord.length:Int)<2 ^ 63)(ho8:∀ x∈ord,U8 x)(H:AHeap)(K:ARes->AHeap->Prop)(hK:∀ v H',Over H H'->aB H.next H' 3 v (ints (gE ord n))->K (.ret v) H'):
  ae Try.prog G0 83 [.agg [.vec n (bC (List.replicate n 0)),.lit (.int .u16 0),.vec ord.length (bC ord)]] H K:=by
 refine ae.clo ⟨_,Try.func83,rfl,rfl⟩ fun hcl=>?_;refine ae.aS (n:=42) (rs:=[.tmp 2]) Try.func83 rfl rfl rfl (by decide) (by kernel_rfl) (by simp) ?_;simp only[go_sem];obtain⟨H1,hH1⟩:∃ H1,H1=ext H [.arr 0 139 [.vec n (bC (List.replicate n 0)),.lit (.int .u16 0),.vec ord.length (bC ord)]]:=⟨_,rfl⟩
 have l1:=ah (show H1.get H.next=some (.arr 0 139 [.vec n (bC (List.replicate n 0)),.lit (.int .u16 0),.vec ord.length (bC ord)]) by rw[hH1];exact br ..);have n1:H1.next=H.next+1:=by rw[hH1];rfl
 have o1:Over H H1:=by rw[hH1];exact .ext _ _
 rw[<- hH1];refine W.aK 2199023255544 (by rfl) (fun ρ H'=>∃ (k:Nat) (p:List Int),ρ 4=aa k/\k<=n/\p=gE ord k/\Over H1 H'/\aB H1.next H' 3 (ρ 3) (ints p)) (fun ρ H=>n - (iv (ρ 4)).toNat) ?_ ?_
 ·simp only[go_sem];exact⟨0,[],rfl,by omega,rfl,.refl _,.nil⟩
 rintro ρ H' ⟨k,p,h4,hk,hpe,ov,h3⟩;have hp:IsPerm k p:=by rw[hpe];exact yv ord k
 refine W.env fun E hE=>?_;have e1:E 1=.ptr H.next 0 0:=by rw[hE];simp only[go_sem]
 have e3:E 3=ρ 3:=by rw[hE];simp only[go_sem]
 have e4:E 4=aa k:=by rw[hE];simp only[go_sem,h4]
 clear hE;refine ag _ _ _ (by rfl) ?_;have l2:=(ov.live (g:=0) (by omega:H.next<H1.next)).trans l1;simp only[go_sem,e1,l2];refine aA.clo (Pw n hn ord _ _ ⟨trivial,?_⟩);by_cases hb:(k:Int)<n;rotate_left
 ·simp only[go_sem,List.length_replicate,e3,e4,hb];obtain rfl:k=n:=by omega
  exact aw.mk (o1.trans ov).next (hK _ _ (o1.trans ov) (by rw[<- hpe];exact h3.keep (by omega) (Nat.le_refl _) fun _ _ _ _ _ _=>rfl))
  -- the place
 rcases h3 with ⟨h3n,hpn⟩|⟨oi,og,hoi1,hoi2,h3o,hog⟩
 ·have p0:p=[]:=by cases p with
   | nil=>rfl
   | cons a l=>simp [ints]at hpn
  have pl:=hp.len;rw[p0]at pl;obtain rfl:k=0:=by simpa using pl.symm
  rw[h3n]at e3;have e4':E 4=aa 0:=e4;have hb':(0:Int)<n:=hb;by_cases ho:(0:Int)<ord.length
  ·obtain⟨b,hbg⟩:=ay (l:=ord) (i:=0) (by omega);have b8:=ho8 b (List.mem_of_getElem? hbg);have hbg':=ru hbg;have hbne:=aR hbg';have w2:IntKind.i64.wrap b=b:=IntWalk.i64_in b (by have:=b8.1;have:=b8.2;omega);have w1:IntKind.i64.wrap 1=1:=(by decide);have m1:b.tmod 1=0:=(by simp);obtain⟨v2,Hb,hA2,ovB,hO2,hn2,hp2⟩:=iM (H:=H') (H':=H') (l:=[]) (v:=.lit (.slice none 0 0)) (0:Int) (.refl _) aB.nil (by simp);obtain⟨v3,Hc,hA3,hO3,hn3,hp3⟩:=pg (P:=Try.prog) (H:=Hb) (t:=59) (n:=Hb.next) (m:=0) (v:=v2) (x:=.lit (.slice none 0 0)) (src:=[]) Try.underlying59 Try.dh Try.dG rfl rfl rfl (by rw[Try.dU];exact⟨by decide,by decide⟩) hO2 ovB.next rfl;have ovC:Over H' Hc:=kg ovB hO2 hn3 hp3;have hA1:bq Try.prog H' H'.next 59 59 (.lit (.slice none 0 0)) (.lit (.slice none 0 0))=some (.lit (.slice none 0 0),H'):=by
    unfold bq;rw[Try.underlying59];simp only[Try.dG,Try.dh,Option.bind_some,wM,if_true]
   have hO3':aB H1.next Hc 3 v3 (ints [0]):=by
    rw[List.append_nil]at hO3;exact hO3.keep ov.next (Nat.le_refl _) fun _ _ _ _ _ _=>rfl
   simp only[go_sem,List.length_replicate,e1,e3,e4',l2,hb',ho,hbg',hbne,w1,w2,m1,hA1,hA2,hA3];refine⟨by have:=ovC.next;have:=ov.next;omega,⟨1,[0],rfl,by omega,by simp [gE],ov.trans ovC,hO3'⟩,by rw[h4];simp only[aa,aU];omega⟩
  ·have w1:IntKind.i64.wrap 1=1:=(by decide);obtain⟨v2,Hb,hA2,ovB,hO2,hn2,hp2⟩:=iM (H:=H') (H':=H') (l:=[]) (v:=.lit (.slice none 0 0)) (0:Int) (.refl _) aB.nil (by simp);obtain⟨v3,Hc,hA3,hO3,hn3,hp3⟩:=pg (P:=Try.prog) (H:=Hb) (t:=59) (n:=Hb.next) (m:=0) (v:=v2) (x:=.lit (.slice none 0 0)) (src:=[]) Try.underlying59 Try.dh Try.dG rfl rfl rfl (by rw[Try.dU];exact⟨by decide,by decide⟩) hO2 ovB.next rfl;have ovC:Over H' Hc:=kg ovB hO2 hn3 hp3;have hA1:bq Try.prog H' H'.next 59 59 (.lit (.slice none 0 0)) (.lit (.slice none 0 0))=some (.lit (.slice none 0 0),H'):=by
    unfold bq;rw[Try.underlying59];simp only[Try.dG,Try.dh,Option.bind_some,wM,if_true]
   have hO3':aB H1.next Hc 3 v3 (ints [0]):=by
    rw[List.append_nil]at hO3;exact hO3.keep ov.next (Nat.le_refl _) fun _ _ _ _ _ _=>rfl
   simp only[go_sem,List.length_replicate,e1,e3,e4',l2,hb',ho,w1,hA1,hA2,hA3];refine⟨by have:=ovC.next;have:=ov.next;omega,⟨1,[0],rfl,by omega,by simp [gE],ov.trans ovC,hO3'⟩,by rw[h4];simp only[aa,aU];omega⟩
 rw[h3o]at e3;have lo:=ah hog;by_cases ho:(k:Int)<ord.length
 ·obtain⟨b,hbg⟩:=ay (l:=ord) (i:=k) (by omega);have b8:=ho8 b (List.mem_of_getElem? hbg);have hbg':=ru hbg;have hbne:=aR hbg';have w0:=IntWalk.i64_in ((k:Int)+1) (by omega);have w1:=w0;have w2:IntKind.i64.wrap b=b:=IntWalk.i64_in b (by have:=b8.1;have:=b8.2;omega);have m1:b.tmod ((k:Int)+1)=b % ((k:Int)+1):=Int.tmod_eq_emod_of_nonneg b8.1;have m2:=Int.emod_nonneg b (show (k:Int)+1≠0 by omega);have m3:=Int.emod_lt_of_pos b (show 0<(k:Int)+1 by omega);have hz:¬ (k:Int)+1=0:=by omega
  obtain⟨a,hat⟩:=Int.eq_ofNat_of_zero_le m2;have ha:a<=k:=by omega
  have hac:(0:Int)<=(a:Int):=by omega
  have hap:(a:Int)<=(p.length:Int):=by rw[hp.len];omega
  have hak:(0:Int)<=(a:Int)/\(a:Int)<=(p.length:Int):=⟨hac,hap⟩
  have pl:p.length=k:=hp.len;obtain⟨v1,Ha,hA1,hO1,hn1,hp1⟩:=pg (P:=Try.prog) (H:=H') (t:=59) (n:=H'.next) (m:=a) (v:=.lit (.slice none 0 0)) (x:=.own oi og 0 a 1) (src:=(ints p).take a) Try.underlying59 Try.dh Try.dG
   (by rw[qq,if_pos rfl,lo];simp) (by simp [aT]<;>omega) (List.all_eq_true.2 fun c hc=>by
    obtain⟨z,_,rfl⟩:=List.mem_map.1 (List.mem_of_mem_take hc);rfl) (by rw[Try.dU];simp<;>omega) aB.nil (Nat.le_refl _) rfl
  have ovA:Over H' Ha:=⟨hn1,fun id hi=>hp1 id hi fun g n h=>by cases h⟩
  rw[List.nil_append,ze]at hO1;obtain⟨v2,Hb,hA2,ovB,hO2,hn2,hp2⟩:=iM (k:Int) ovA hO1 (by simp<;>omega);have hcl2:(ints (p.take a++[(k:Int)])).length<=k+1:=by rw[aT,List.length_append,List.length_take];simp<;>omega
  have hlb:Hb.live oi og=some (3,ints p):=(ovB.live hoi2).trans lo;obtain⟨v3,Hc,hA3,hO3,hn3,hp3⟩:=pg (P:=Try.prog) (H:=Hb) (t:=59) (n:=Hb.next) (m:=p.length - a) (v:=v2) (x:=.own oi og a (p.length - a) 1) (src:=(ints p).drop a) Try.underlying59 Try.dh Try.dG
   (by rw[qq,if_pos rfl,hlb];simp [List.take_of_length_le,aT]) (by simp [aT]) (List.all_eq_true.2 fun c hc=>by
    obtain⟨z,_,rfl⟩:=List.mem_map.1 (List.mem_of_mem_drop hc);rfl) (by rw[Try.dU];omega) hO2 ovB.next rfl
  have ovC:Over H' Hc:=kg ovB hO2 hn3 hp3;have hla:Ha.live oi og=some (3,ints p):=(ovA.live hoi2).trans lo;rw[zf]at hO3;have hO3':aB H1.next Hc 3 v3 (ints (p.take a++(k:Int) :: p.drop a)):=by
   have:ints (p.take a++[(k:Int)])++ints (p.drop a)=ints (p.take a++(k:Int) :: p.drop a):=(by simp [ints]);rw[this]at hO3;exact hO3.keep ov.next (Nat.le_refl _) fun _ _ _ _ _ _=>rfl
  simp only[go_sem,List.length_replicate,e1,e3,e4,l2,hb,ho,hbg',hbne,w0,w2,m1,hz,hat,hac,hap,Int.toNat_natCast,lo,hlb,hA1,hA2,hA3];refine⟨by have:=ovC.next;omega,⟨k+1,_,rfl,by omega,by rw[gE,<- hpe,show kX ord k=a by unfold kX;rw[if_pos (by omega),bU hbg,hat];rfl],ov.trans ovC,hO3'⟩,by rw[h4];simp only[aa,aU];omega⟩
 ·have w0:=IntWalk.i64_in ((k:Int)+1) (by omega);have pl:p.length=k:=hp.len;obtain⟨v1,Ha,hA1,hO1,hn1,hp1⟩:=pg (P:=Try.prog) (H:=H') (t:=59) (n:=H'.next) (m:=0) (v:=.lit (.slice none 0 0)) (x:=.own oi og 0 0 1) (src:=(ints p).take 0) Try.underlying59 Try.dh Try.dG
   (by rw[qq,if_pos rfl,lo];simp) (by simp [aT]<;>omega) (List.all_eq_true.2 fun c hc=>by
    obtain⟨z,_,rfl⟩:=List.mem_map.1 (List.mem_of_mem_take hc);rfl) (by rw[Try.dU];simp<;>omega) aB.nil (Nat.le_refl _) rfl
  have ovA:Over H' Ha:=⟨hn1,fun id hi=>hp1 id hi fun g n h=>by cases h⟩
  rw[List.nil_append,ze]at hO1;obtain⟨v2,Hb,hA2,ovB,hO2,hn2,hp2⟩:=iM (k:Int) ovA hO1 (by simp<;>omega);have hcl2:(ints (p.take 0++[(k:Int)])).length<=k+1:=by rw[aT,List.length_append,List.length_take];simp<;>omega
  have hlb:Hb.live oi og=some (3,ints p):=(ovB.live hoi2).trans lo;obtain⟨v3,Hc,hA3,hO3,hn3,hp3⟩:=pg (P:=Try.prog) (H:=Hb) (t:=59) (n:=Hb.next) (m:=p.length) (v:=v2) (x:=.own oi og 0 (p.length) 1) (src:=(ints p).drop 0) Try.underlying59 Try.dh Try.dG
   (by rw[qq,if_pos rfl,hlb];simp [List.take_of_length_le,aT]) (by simp [aT]) (List.all_eq_true.2 fun c hc=>by
    obtain⟨z,_,rfl⟩:=List.mem_map.1 (List.mem_of_mem_drop hc);rfl) (by rw[Try.dU];omega) hO2 ovB.next rfl
  have ovC:Over H' Hc:=kg ovB hO2 hn3 hp3;have hla:Ha.live oi og=some (3,ints p):=(ovA.live hoi2).trans lo;rw[zf]at hO3;have hO3':aB H1.next Hc 3 v3 (ints (p.take 0++(k:Int) :: p.drop 0)):=by
   have:ints (p.take 0++[(k:Int)])++ints (p.drop 0)=ints (p.take 0++(k:Int) :: p.drop 0):=(by simp [ints]);rw[this]at hO3;exact hO3.keep ov.next (Nat.le_refl _) fun _ _ _ _ _ _=>rfl
  simp only[go_sem,List.length_replicate,e1,e3,e4,l2,hb,ho,w0,lo,hlb,hA1,hA2,hA3];refine⟨by have:=ovC.next;omega,⟨k+1,_,rfl,by omega,by rw[gE,<- hpe,show kX ord k=0 by unfold kX;rw[if_neg (by omega)]],ov.trans ovC,hO3'⟩,by rw[h4];simp only[aa,aU];omega⟩
end Go.Proofs
namespace Go.Proofs
open Go.Hx
theorem nk {l:List Int}(h:∀ x∈l,0<=x):0<=l.sum:=by
 induction l with
 | nil=>simp
 | cons a l ih =>
  rw[List.sum_cons];have:=h a (by simp);have:=ih fun x hx=>h x (by simp [hx]);omega
theorem CG {l:List Int}{i:Nat}{a b:Int}(h:l[i]?=some a):(l.set i b).sum=l.sum - a+b:=by
 induction l generalizing i with
 | nil=>simp at h
 | cons x l ih =>
  cases i with
  | zero=>simp at h;subst h;simp only[List.set_cons_zero,List.sum_cons];omega
  | succ i =>
   simp only[List.set_cons_succ,List.sum_cons];rw[ih (by simpa using h)];omega
theorem PA {l:List Int}{b:Int}(h:∀ x∈l,0<=x/\x<=b):l.sum<=b*l.length:=by
 induction l with
 | nil=>simp
 | cons a l ih =>
  rw[List.sum_cons,List.length_cons];have:=(h a (by simp)).2;have:=ih fun x hx=>h x (by simp [hx]);rw[show b*((l.length+1:Nat):Int)=b*l.length+b by rw[Int.natCast_add,Int.mul_add];simp];omega
def wF (n:Nat)(bs:List Int)(from':Int):List Int:=(List.range n).map fun (k:Nat)=>if bs.length=0 then 0 else bs.getD ((from'+(k:Int)) % (bs.length:Int)).toNat 0 % 8
theorem CH (n:Nat)(bs:List Int)(from':Int):(wF n bs from').length=n:=by simp [wF]
theorem CI {n:Nat}(bs:List Int)(from':Int){k:Nat}(h:k<n):(wF n bs from')[k]?=some (if bs.length=0 then 0 else bs.getD ((from'+(k:Int)) % (bs.length:Int)).toNat 0 % 8):=by
 unfold wF;rw[List.getElem?_map,List.getElem?_range h];rfl
theorem PB (n:Nat)(bs:List Int)(from':Int):∀ x∈wF n bs from',0<=x/\x<=7:=fun x hx=>by
 unfold wF at hx;obtain⟨k,_,rfl⟩:=List.mem_map.1 hx;split<;>omega
def uE (g s:Int)(st:List Int × Nat)(m:Nat):List Int × Nat:=if 0<st.1.getD m 0 then (st.1.set m (g*st.1.getD m 0 / s),m) else st
def iL (g:Int)(c:List Int)(m:Nat):List Int × Nat:=(List.range m).foldl (uE g c.sum) (c,0)
theorem CJ (g:Int)(c:List Int)(m:Nat):iL g c (m+1)=uE g c.sum (iL g c m) m:=by unfold iL;rw[List.range_succ,List.foldl_append];rfl
def ph (g:Int)(n:Nat)(bs:List Int)(from':Int):List Int:=(iL g (wF n bs from') n).1.set (iL g (wF n bs from') n).2 ((iL g (wF n bs from') n).1.getD (iL g (wF n bs from') n).2 0+(g - (iL g (wF n bs from') n).1.sum))
structure RInv (g:Int)(c:List Int)(m:Nat)(d:List Int)(last:Nat):Prop where
 dl:d.length=c.length
 d0:∀ x∈d,0<=x
 dd:d.drop m=c.drop m
 dg:(d.take m).sum<=g
 ds:c.sum*(d.take m).sum<=g*(c.take m).sum
 la:last<c.length
theorem CK {g:Int}{c:List Int}(hg:1<=g)(hc:∀ x∈c,0<=x)(hl:0<c.length):∀ m,m<=c.length->RInv g c m (iL g c m).1 (iL g c m).2:=by
 intro m
 induction m with
 | zero=>intro _;exact⟨rfl,hc,rfl,by simp;omega,by simp,hl⟩
 | succ m ih =>
  intro hm;obtain⟨hdl,hd0,hdd,hdg,hds,hla⟩:=ih (by omega);rw[CJ];generalize iL g c m=st at *
  obtain⟨d,last⟩:=st;simp only at hdl hd0 hdd hdg hds hla;obtain⟨x,hcx⟩:=ay (l:=c) (i:=m) (by omega);have hx0:=hc x (List.mem_of_getElem? hcx);have hdx:d[m]?=some x:=by
   have h1:(d.drop m)[0]?=d[m]?:=(by rw[List.getElem?_drop];rfl);have h2:(c.drop m)[0]?=c[m]?:=(by rw[List.getElem?_drop];rfl);rw[<- h1,hdd,h2,hcx]
  have hdd':d.drop (m+1)=c.drop (m+1):=by
   have:=congrArg (List.drop 1) hdd
   rwa [List.drop_drop,List.drop_drop]at this
  have hct:(c.take (m+1)).sum=(c.take m).sum+x:=by rw[aP hcx];simp
  have hcs:(c.take (m+1)).sum+(c.drop (m+1)).sum=c.sum:=by rw[<- List.sum_append,List.take_append_drop]
  have hcd0:=nk (l:=c.drop (m+1)) fun y hy=>hc y (List.mem_of_mem_drop hy);have hc00:=nk (l:=c.take m) fun y hy=>hc y (List.mem_of_mem_take hy);have hd00:=nk (l:=d.take m) fun y hy=>hd0 y (List.mem_of_mem_take hy);unfold uE;rw[bU hdx];by_cases hx:0<x
  ·rw[if_pos hx];have gx:0<=g*x:=Int.mul_nonneg (by omega) hx0;have y0:0<=g*x / c.sum:=Int.ediv_nonneg gx (by omega);have y2:c.sum*(g*x / c.sum)<=g*x:=Int.mul_ediv_self_le (by omega);have dt:((d.set m (g*x / c.sum)).take (m+1)).sum=(d.take m).sum+g*x / c.sum:=by
    rw[aP (List.getElem?_set_self (by omega)),List.take_set_of_le (Nat.le_refl _)];simp
   have hs2:c.sum*((d.take m).sum+g*x / c.sum)<=g*(c.take (m+1)).sum:=by
    rw[Int.mul_add,hct,Int.mul_add];omega
   have hle:(d.take m).sum+g*x / c.sum<=g:=by
    have h1:g*(c.take (m+1)).sum<=g*c.sum:=Int.mul_le_mul_of_nonneg_left (by omega) (by omega);have h2:c.sum*((d.take m).sum+g*x / c.sum)<=c.sum*g:=(by rw[Int.mul_comm c.sum g];omega);exact Int.le_of_mul_le_mul_left h2 (by omega)
   refine⟨by simp [hdl],fun y hy=>?_,?_,by dsimp only;rw[dt];exact hle,by dsimp only;rw[dt];exact hs2,by dsimp only;omega⟩
   ·rcases List.mem_or_eq_of_mem_set hy with h|h
    ·exact hd0 y h
    ·omega
   ·rw[<- hdd',List.drop_set_of_lt (by omega)]
  ·rw[if_neg hx];have x0:x=0:=(by omega);have dt:(d.take (m+1)).sum=(d.take m).sum:=(by rw[aP hdx,x0];simp);rw[x0,Int.add_zero]at hct;exact⟨hdl,hd0,hdd',by dsimp only;rw[dt];exact hdg,by dsimp only;rw[dt,hct];exact hds,hla⟩
theorem PC {g:Int}{n:Nat}(hg:1<=g)(hn:1<=n)(bs:List Int)(from':Int):jd g n (ph g n bs from'):=by
 have hw:=CH n bs from';have I:=CK (g:=g) (c:=wF n bs from') hg (fun x hx=>(PB n bs from' x hx).1) (by omega) n (by omega);unfold ph;generalize iL g (wF n bs from') n=st at *
 obtain⟨d,last⟩:=st;obtain⟨hdl,hd0,hdd,hdg,hds,hla⟩:=I;dsimp only at hdl hd0 hdd hdg hds hla ⊢;obtain⟨y,hy⟩:=ay (l:=d) (i:=last) (by omega);have y0:=hd0 y (List.mem_of_getElem? hy);rw[bU hy];rw[List.take_of_length_le (by omega)]at hdg;have hs:(d.set last (y+(g - d.sum))).sum=g:=by rw[CG hy];omega
 have h0:∀ w∈d.set last (y+(g - d.sum)),0<=w:=fun w hw=>by
  rcases List.mem_or_eq_of_mem_set hw with h|h
  ·exact hd0 w h
  ·omega
 exact⟨by simp [hdl,hw],fun w hw=>⟨h0 w hw,by have:=yZ h0 w hw;omega⟩,hs⟩
set_option maxHeartbeats 2000000 in
theorem PD (g:Int)(n:Nat)(hg:1<=g/\g<=60)(hn:1<=n/\n<=4)(bs:List Int)(hbl:(bs.length:Int)<2 ^ 63)(hb8:∀ x∈bs,U8 x)(from':Int)(hf:0<=from'/\from'<=1000000)(H:AHeap)(K:ARes->AHeap->Prop)(hK:∀ v H',Over H H'->aB H.next H' 3 v (ints (ph g n bs from'))->K (.ret v) H'):
  ae Try.prog G0 84 [aa g,aa n,.vec bs.length (bC bs),aa from'] H K:=by
 refine ae.clo ⟨_,Try.func84,rfl,rfl⟩ fun hcl=>?_;refine ae.aS (n:=84) (rs:=[.tmp 8]) Try.func84 rfl rfl rfl (by decide) (by kernel_rfl) (by simp) ?_;simp only[go_sem];refine⟨by omega,?_⟩;refine W.aK 35184371960832 (by rfl) (fun ρ H'=>∃ (k:Nat) (c:List Int),ρ 11=aa k/\k<=n/\c.length=n/\(∀ x∈c,0<=x/\x<=7)/\(∀ j x,k<=j->c[j]?=some x->x=0)/\(∀ j,j<k->c[j]?=(wF n bs from')[j]?)/\ρ 10=aa c.sum/\OwnI H H' H.next c) (fun ρ H=>n - (iv (ρ 11)).toNat) ?_ ?_
 ·simp only[go_sem];refine⟨0,List.replicate n 0,rfl,by omega,by simp,fun x hx=>?_,fun j x _ hx=>?_,fun j hj=>by omega,by simp,?_⟩
  ·have:=List.eq_of_mem_replicate hx;omega
  ·exact List.eq_of_mem_replicate (List.mem_of_getElem? hx)
  ·exact .new [] _
 rintro ρ H' ⟨k,c,h11,hk,hcl',hc7,hc0,hcw,h10,ho⟩;refine W.env fun E hE=>?_;have e0:E 0=aa g:=by rw[hE];simp only[go_sem]
 have e1:E 1=aa n:=by rw[hE];simp only[go_sem]
 have e2:E 2=.vec bs.length (bC bs):=by rw[hE];simp only[go_sem]
 have e3:E 3=aa from':=by rw[hE];simp only[go_sem]
 have e9:E 9=.own H.next 0 0 n 1:=by rw[hE];simp only[go_sem]
 have e10:E 10=aa c.sum:=by rw[hE];simp only[go_sem,h10]
 have e11:E 11=aa k:=by rw[hE];simp only[go_sem,h11]
 clear hE;refine ag _ _ _ (by rfl) ?_;have lN:=ho.live;have hs0:=nk fun x hx=>(hc7 x hx).1;have hs1:=PA hc7;by_cases hb:(k:Int)<n
 ·have hck:c[k]?=some 0:=by
   obtain⟨a,ha⟩:=ay (l:=c) (i:=k) (by omega);rw[ha,hc0 k a (Nat.le_refl _) ha]
  have hcne:=aR hck;have hk0:(k:Int) >= 0:=by omega
  have w1:=IntWalk.i64_in ((k:Int)+1) (by omega);by_cases hz:(0:Int)<bs.length
  ·have hzn:¬ (bs.length:Int)=0:=(by omega);have w2:=IntWalk.i64_in (from'+k) (by omega);have m1:(from'+(k:Int)).tmod bs.length=(from'+k) % bs.length:=Int.tmod_eq_emod_of_nonneg (by omega);have m2:=Int.emod_nonneg (from'+k) hzn;have m3:=Int.emod_lt_of_pos (from'+k) hz;obtain⟨q,hq⟩:=Int.eq_ofNat_of_zero_le m2;have hq0:(q:Int) >= 0:=(by omega);have hql:(q:Int)<bs.length:=(by omega);obtain⟨b,hbg⟩:=ay (l:=bs) (i:=q) (by omega);have b8:=hb8 b (List.mem_of_getElem? hbg);have hbg':=ru hbg;have hbne:=aR hbg';have t1:b.tmod 8=b % 8:=Int.tmod_eq_emod_of_nonneg b8.1;have w3:IntKind.u8.wrap (b % 8)=b % 8:=IntWalk.u8_in _ (by omega);have w4:IntKind.i64.wrap (b % 8)=b % 8:=IntWalk.i64_in _ (by omega);have w5:=IntWalk.i64_in (c.sum+b % 8) (by omega);have hsg:(setAt (ints c) k [.lit (.int .i64 (b % 8))])[k]?=some (.lit (.int .i64 (b % 8))):=by
    rw[fS (by omega),g9,List.getElem?_set_self (by omega)];rfl
   simp only[go_sem,hsg,e1,e2,e3,e9,e10,e11,hb,hz,hzn,w1,w2,m1,hq,hq0,hql,hbg',hbne,t1,w4,w5,hk0,lN];refine⟨by omega,by have:=ho.hi;rw[aC];omega,⟨k+1,c.set k (b % 8),rfl,by omega,by simp [hcl'],fun x hx=>?_,fun j x hj hx=>?_,fun j hj=>?_,by rw[CG hck,Int.sub_zero],ho.store (by omega) _⟩,by rw[h11];simp only[aa,aU];omega⟩
   ·rcases List.mem_or_eq_of_mem_set hx with h|h
    ·exact hc7 x h
    ·omega
   ·rw[List.getElem?_set_ne (by omega)]at hx;exact hc0 j x (by omega) hx
   ·by_cases hjk:j=k
    ·subst hjk;rw[List.getElem?_set_self (by omega),CI bs from' (by omega),if_neg (by omega),hq,Int.toNat_natCast,bU hbg]
    ·rw[List.getElem?_set_ne (by omega)];exact hcw j (by omega)
  ·have w5:=IntWalk.i64_in (c.sum+0) (by omega);rw[Int.add_zero]at w5;simp only[go_sem,e1,e2,e9,e10,e11,hb,hz,w1,w5,Int.add_zero,hk0,hck,lN];refine⟨by have:=ho.hi;omega,⟨k+1,c,rfl,by omega,hcl',hc7,fun j x hj hx=>hc0 j x (by omega) hx,fun j hj=>by
    by_cases hjk:j=k
    ·subst hjk;rw[hck,CI bs from' (by omega),if_pos (by omega)]
    ·exact hcw j (by omega),rfl,ho⟩,by rw[h11];simp only[aa,aU];omega⟩
 ·obtain rfl:k=n:=by omega
  simp only[go_sem,e1,e11,hb];have hcwF:c=wF k bs from':=by
   apply List.ext_getElem?;intro j;rcases Nat.lt_or_ge j k with h|h
   ·exact hcw j h
   ·rw[List.getElem?_eq_none (by omega),List.getElem?_eq_none (by rw[CH];exact h)]
  have hRI:=fun m (hm:m<=k)=>CK (g:=g) (c:=c) hg.1 (fun x hx=>(hc7 x hx).1) (by omega) m (by omega);refine W.aK 18889465861109836705792 (by rfl) (fun ρ H2=>∃ (m last:Nat) (d:List Int),ρ 14=aa m/\m<=k/\iL g c m=(d,last)/\ρ 12=aa (g - (d.take m).sum)/\ρ 13=aa last/\H'.next<=H2.next/\OwnI H H2 H.next d) (fun ρ H=>k - (iv (ρ 14)).toNat) ?_ ?_
  ·simp only[go_sem,e0];exact⟨0,0,c,rfl,by omega,rfl,by simp,rfl,ho⟩
  rintro ρ2 H2 ⟨m,last,d,h14,hm,hrf,h12,h13,hnn,hod⟩;obtain⟨hdl,hd0,hdd,hdg,hds,hlast⟩:RInv g c m d last:=by have:=hRI m hm;rw[hrf]at this;exact this
  rw[hcl']at hdl hlast;have hrs:=CJ g c m;rw[hrf]at hrs;unfold uE at hrs;dsimp only at hrs;refine W.env fun E2 hE2=>?_;have f0:E2 0=aa g:=by rw[hE2];simp only[go_sem,e0]
  have f1:E2 1=aa k:=by rw[hE2];simp only[go_sem,e1]
  have f9:E2 9=.own H.next 0 0 k 1:=by rw[hE2];simp only[go_sem,e9]
  have f10:E2 10=aa c.sum:=by rw[hE2];simp only[go_sem,e10]
  have f12:E2 12=aa (g - (d.take m).sum):=by rw[hE2];simp only[go_sem,h12]
  have f13:E2 13=aa last:=by rw[hE2];simp only[go_sem,h13]
  have f14:E2 14=aa m:=by rw[hE2];simp only[go_sem,h14]
  clear hE2;refine ag _ _ _ (by rfl) ?_;have lN2:=hod.live;by_cases hb2:(m:Int)<k
  ·obtain⟨x,hcx⟩:=ay (l:=c) (i:=m) (by omega);have hx7:=hc7 x (List.mem_of_getElem? hcx);have hdx:d[m]?=some x:=by
    have h1:(d.drop m)[0]?=d[m]?:=(by rw[List.getElem?_drop];rfl);have h2:(c.drop m)[0]?=c[m]?:=(by rw[List.getElem?_drop];rfl);rw[<- h1,hdd,h2,hcx]
   have hdne:=aR hdx;have hm0:(m:Int) >= 0:=(by omega);have w1:=IntWalk.i64_in ((m:Int)+1) (by omega);have hdd':d.drop (m+1)=c.drop (m+1):=by
    have:=congrArg (List.drop 1) hdd
    rwa [List.drop_drop,List.drop_drop]at this
   have hct:(c.take (m+1)).sum=(c.take m).sum+x:=(by rw[aP hcx];simp);have hcs:(c.take (m+1)).sum+(c.drop (m+1)).sum=c.sum:=(by rw[<- List.sum_append,List.take_append_drop]);have hcd0:=nk (l:=c.drop (m+1)) fun y hy=>(hc7 y (List.mem_of_mem_drop hy)).1;have hc00:=nk (l:=c.take m) fun y hy=>(hc7 y (List.mem_of_mem_take hy)).1;have hd00:=nk (l:=d.take m) fun y hy=>hd0 y (List.mem_of_mem_take hy);by_cases hx:0<x
   ·have hsz:¬ c.sum=0:=(by omega);have gx:0<=g*x:=Int.mul_nonneg (by omega) hx7.1;have gx2:g*x<=60*7:=Int.mul_le_mul hg.2 hx7.2 hx7.1 (by omega);have w2:=IntWalk.i64_in (g*x) (by omega);have t1:(g*x).tdiv c.sum=g*x / c.sum:=Int.tdiv_eq_ediv_of_nonneg gx;have y0:0<=g*x / c.sum:=Int.ediv_nonneg gx hs0;have y1:g*x / c.sum<=g*x:=Int.ediv_le_self _ gx;have y2:c.sum*(g*x / c.sum)<=g*x:=Int.mul_ediv_self_le (by omega);have w3:=IntWalk.i64_in (g*x / c.sum) (by omega);have w4:=IntWalk.i64_in (g - (d.take m).sum - g*x / c.sum) (by omega);have hsg:(setAt (ints d) m [.lit (.int .i64 (g*x / c.sum))])[m]?=some (.lit (.int .i64 (g*x / c.sum))):=by
     rw[fS (by omega),g9,List.getElem?_set_self (by omega)];rfl
    have dt:((d.set m (g*x / c.sum)).take (m+1)).sum=(d.take m).sum+g*x / c.sum:=by
     rw[aP (List.getElem?_set_self (by omega)),List.take_set_of_le (Nat.le_refl _)];simp
    have hs2:c.sum*((d.take m).sum+g*x / c.sum)<=g*(c.take (m+1)).sum:=by
     rw[Int.mul_add,hct,Int.mul_add];omega
    have hle:(d.take m).sum+g*x / c.sum<=g:=by
     have h1:g*(c.take (m+1)).sum<=g*c.sum:=Int.mul_le_mul_of_nonneg_left (by omega) (by omega);have h2:c.sum*((d.take m).sum+g*x / c.sum)<=c.sum*g:=(by rw[Int.mul_comm c.sum g];omega);exact Int.le_of_mul_le_mul_left h2 (by omega)
    simp only[go_sem,hsg,f0,f1,f9,f10,f12,f13,f14,hb2,hx,hsz,w1,w2,t1,w3,w4,hm0,hdx,lN2];rw[bU hdx,if_pos hx]at hrs;exact⟨by omega,by rw[aC];exact hnn,⟨m+1,m,d.set m (g*x / c.sum),rfl,by omega,hrs,by rw[dt];congr 2;omega,rfl,by rw[aC];exact hnn,hod.store (by omega) _⟩,by rw[h14];simp only[aa,aU];omega⟩
   ·have x0:x=0:=(by omega);have w4:=IntWalk.i64_in (g - (d.take m).sum) (by omega);simp only[go_sem,f1,f9,f12,f13,f14,hb2,x0,w1,w4,hm0,hdx,Int.sub_zero,lN2];have dt:(d.take (m+1)).sum=(d.take m).sum:=(by rw[aP hdx,x0];simp);rw[x0,Int.add_zero]at hct;rw[bU hdx,if_neg hx]at hrs;exact⟨hnn,⟨m+1,last,d,rfl,by omega,hrs,by rw[dt],rfl,hnn,hod⟩,by rw[h14];simp only[aa,aU];omega⟩
  ·obtain rfl:m=k:=(by omega);obtain⟨y,hy⟩:=ay (l:=d) (i:=last) (by omega);have hyne:=aR hy;have hl0:(last:Int) >= 0:=(by omega);have hlk:(last:Int)<m:=(by omega);have y0:=hd0 y (List.mem_of_getElem? hy);rw[List.take_of_length_le (by omega)]at hdg hds h12 f12;have hyle:=yZ hd0 y (List.mem_of_getElem? hy);have w1:=IntWalk.i64_in (y+(g - d.sum)) (by omega);have hle:last+1<=d.length:=(by omega);simp only[go_sem,f1,f9,f12,f13,f14,hb2,hl0,hlk,hy,lN2,w1];refine⟨hle,?_⟩;have hrow:ph g m bs from'=d.set last (y+(g - d.sum)):=by
    unfold ph;rw[<- hcwF,hrf];dsimp only;rw[bU hy]
   rw[hrow]at hK;have ho2:=hod.store (k:=last) (by omega) (y+(g - d.sum));refine aw.mk ho2.ov.next (hK _ _ ho2.ov (.inr ⟨_,0,ho2.lo,ho2.hi,?_,ho2.get⟩));rw[aT,List.length_set,hdl]
end Go.Proofs
namespace Go.Proofs
open Go.Hx
structure DrP where
 card:Int
 par:Int
 w:List Int
def DrP.cells (x:DrP):List AVal:=[.lit (.int .u8 x.card),.lit (.int .u8 x.par),.vec x.w.length (bC x.w)]
def d9 (l:List DrP):List AVal:=(l.map DrP.cells).flatten
def DrP.Ok (x:DrP):Prop:=U8 x.card/\U8 x.par/\(x.w.length:Int)<2 ^ 63/\∀ b∈x.w,U8 b
def C7 (g:Int)(ps:List DrP)(ord:List Int):AVal:=.agg [.lit (.int .u8 g),.vec ps.length (d9 ps),.vec ord.length (bC ord)]
theorem C8 {l:List DrP}{i:Nat}{x:DrP}(h:l[i]?=some x):((d9 l).drop (i*3)).take 3=[.lit (.int .u8 x.card),.lit (.int .u8 x.par),.vec x.w.length (bC x.w)]:=mc (f:=DrP.cells) (z:=3) (fun _=>rfl) l i x h
theorem C9 (l:List DrP):(d9 l).length=l.length*3:=jZ (f:=DrP.cells) (fun _=>rfl) l
def NodeP.cD (x:NodeP):List AVal:=if x.rows=[] then [aa x.card,.lit (.slice none 0 0),.lit (.slice none 0 0)] else [aa x.card,ab x.parents,ao x.rows]
def bI (l:List NodeP):List AVal:=(l.map NodeP.cD).flatten
theorem jD (x:NodeP):x.cD.length=3:=by unfold NodeP.cD;split<;>rfl
theorem Da (l:List NodeP):(bI l).length=l.length*3:=jZ (f:=NodeP.cD) jD l
theorem Db {l:List NodeP}{i:Nat}{x:NodeP}(h:l[i]?=some x):(bI l)[i*3]?=some (aa x.card):=by
 have:=gO (f:=NodeP.cD) (z:=3) jD l i 0 x h (by omega);rw[Nat.add_zero]at this;rw[show (bI l)[i*3]?=_ from this];unfold NodeP.cD;split<;>rfl
theorem P0 {l:List NodeP}(h:∀ x∈l,x.rows≠[]):bI l=aD l:=by
 unfold bI aD;congr 1;exact List.map_congr_left fun x hx=>if_neg (h x hx)
theorem uI {α:Type}{f:α->List AVal}{z:Nat}(hz:∀ a,(f a).length=z):∀ (l:List α) (i:Nat) (a:α),i<l.length->((l.set i a).map f).flatten=((l.map f).flatten).take (i*z)++f a++((l.map f).flatten).drop (i*z+z):=by
 intro l
 induction l with
 | nil=>intro i a h;simp at h
 | cons b l ih =>
  intro i a h;cases i with
  | zero=>simp [hz]
  | succ i =>
   have hb:=hz b;simp only[List.set_cons_succ,List.map_cons,List.flatten_cons];rw[ih i a (by simpa using h),show (i+1)*z=z+i*z by rw[Nat.add_mul];omega,List.take_append,List.drop_append,hb];rw[List.take_of_length_le (l:=f b) (i:=z+i*z) (by omega),List.drop_of_length_le (l:=f b) (i:=z+i*z+z) (by omega),show z+i*z - z=i*z by omega,show z+i*z+z - z=i*z+z by omega];simp
theorem Dc {S:Nat->Prop}{H:AHeap}{nx:Nat}{A B:List AVal}{i:Nat}{a b:AVal}(h:∀ j (h:j<A.length) (h':j<B.length),Fz S H nx A[j] B[j])(hab:Fz S H nx a b):∀ j (h:j<(A.set i a).length) (h':j<(B.set i b).length),Fz S H nx (A.set i a)[j] (B.set i b)[j]:=by
 intro j h1 h2;rw[List.getElem_set,List.getElem_set];split
 ·exact hab
 ·exact h j (by simpa using h1) (by simpa using h2)
theorem yC {S:Nat->Prop}{H:AHeap}{nx:Nat}(l:List (List Int)):Fz S H nx (ao l) (ao l):=.vec rfl fun i hi _=>by simp only[List.getElem_map];exact .cB _
theorem P8 {S:Nat->Prop}{H:AHeap}{nx:Nat}(x:NodeP):∀ c∈x.cD,Fz S H nx c c:=by
 intro c hc;unfold NodeP.cD at hc;split at hc
 ·simp only[List.mem_cons,List.not_mem_nil,or_false]at hc;rcases hc with rfl|rfl|rfl<;>exact .lit _
 ·simp only[List.mem_cons,List.not_mem_nil,or_false]at hc;rcases hc with rfl|rfl|rfl
  ·exact .lit _
  ·exact .cB _
  ·exact yC _
theorem Dd {S:Nat->Prop}{H:AHeap}{nx:Nat}(l:List NodeP):∀ c∈bI l,Fz S H nx c c:=by
 intro c hc;unfold bI at hc;obtain⟨r,hr,hc⟩:=List.mem_flatten.1 hc;obtain⟨x,_,rfl⟩:=List.mem_map.1 hr;exact P8 x c hc
theorem P9 {S:Nat->Prop}{H:AHeap}{nx:Nat}:∀ (l:List NodeP),(∀ x∈l,x.rows=[]->x.parents=[])->∀ (i:Nat) (h:i<(bI l).length) (h':i<(aD l).length),Fz S H nx (bI l)[i] (aD l)[i]:=by
 intro l
 induction l with
 | nil=>intro _ i h;simp [bI]at h
 | cons x l ih =>
  intro hx i h h';have e1:bI (x :: l)=x.cD++bI l:=by simp [bI]
  have e2:aD (x :: l)=x.cells++aD l:=by simp [aD]
  have l1:=jD x;have l2:x.cells.length=3:=rfl;have hc:∀ (i:Nat) (h:i<x.cD.length) (h':i<x.cells.length),Fz S H nx x.cD[i] x.cells[i]:=by
   intro i h h';by_cases hr:x.rows=[]
   ·have hp:=hx x (by simp) hr;have ez:x.cD=[aa x.card,.lit (.slice none 0 0),.lit (.slice none 0 0)]:=if_pos hr;have ec:x.cells=[aa x.card,ab [],ao []]:=(by unfold NodeP.cells;rw[hr,hp]);simp only[ez,ec]
    match i,h' with
    | 0,_=>exact .lit _
    | 1,_=>exact .nil
    | 2,_=>exact .nil
   ·have ez:x.cD=x.cells:=if_neg hr;simp only[ez]
    match i,h' with
    | 0,_=>exact .lit _
    | 1,_=>exact .cB _
    | 2,_=>exact yC _
  simp only[e1,e2];by_cases hi:i<3
  ·rw[List.getElem_append_left (by omega),List.getElem_append_left (by omega)];exact hc i (by omega) (by omega)
  ·rw[List.getElem_append_right (by omega),List.getElem_append_right (by omega)];simp only[l1,l2];exact ih (fun y hy=>hx y (by simp [hy])) (i - 3) _ _
theorem Qa {l:List NodeP}{i:Nat}{x y:NodeP}(h:l[i]?=some x)(hy:y.card=x.card):aD (l.set i y)=((aD l).set (i*3+1) (ab y.parents)).set (i*3+2) (ao y.rows):=by
 have hl:=aG h;have h1:=uI (f:=NodeP.cells) (z:=3) (fun _=>rfl) l i y hl;have h2:=mc (f:=NodeP.cells) (z:=3) (fun _=>rfl) l i x h;unfold aD;rw[h1];have h3:(l.map NodeP.cells).flatten=((l.map NodeP.cells).flatten).take (i*3)++(x.cells++((l.map NodeP.cells).flatten).drop (i*3+3)):=by
  rw[<- h2,<- List.drop_drop,List.take_append_drop,List.take_append_drop]
 have hlen:(((l.map NodeP.cells).flatten).take (i*3)).length=i*3:=by
  rw[List.length_take,jZ (f:=NodeP.cells) (z:=3) (fun _=>rfl)];omega
 conv=>rhs;rw[h3]
 rw[List.set_append_right _ _ (by omega),List.set_append_right _ _ (by omega),hlen,show i*3+1 - i*3=1 by omega,show i*3+2 - i*3=2 by omega];unfold NodeP.cells;simp [hy]
theorem uJ {lo:Nat}{H:AHeap}{e:TypeId}{v:AVal}{cs:List AVal}(h:aB lo H e v cs){d:Option TypeDesc}{t:TypeId}(hd:d=some (.slice t)):qk d H v=some (.lit (.int .i64 cs.length)):=by
 subst hd;rcases h with ⟨rfl,rfl⟩|⟨id,g,_,_,rfl,h4⟩
 ·rfl
 ·rw[oA,AY,ah h4];rfl
theorem Qb (l p:List Int)(hl:(l.length:Int)<2 ^ 40)(hp:(p.length:Int)<2 ^ 39)(hin:∀ q∈p,0<=q/\q<l.length)(H:AHeap)(K:ARes->AHeap->Prop)(hK:∀ v H',Over H H'->aB H.next H' 3 v (ints (aL l p))->K (.ret v) H'):ae Try.prog G0 90 [ab l,ab p] H K:=by
 refine ae.clo ⟨_,Try.func90,rfl,rfl⟩ fun hcl=>?_;refine ae.aS (n:=24) (rs:=[.tmp 4]) Try.func90 rfl rfl rfl (by decide) (by kernel_rfl) (by simp) ?_;simp only[go_sem];refine W.aK 8388576 (by rfl) (fun ρ H'=>∃ k:Nat,ρ 6=aa k/\k<=p.length/\Over H H'/\aB H.next H' 3 (ρ 5) (ints (aL l (p.take k)))) (fun ρ H=>p.length - (iv (ρ 6)).toNat) ?_ ?_
 ·simp only[go_sem];exact⟨0,rfl,by omega,.refl _,.nil⟩
 rintro ρ H' ⟨k,h6,hk,ov,h5⟩;refine ag _ _ _ (by rfl) ?_;by_cases hb:(k:Int)<p.length
 ·obtain⟨q,hq⟩:=ay (l:=p) (i:=k) (by omega);obtain⟨j,rfl,a,ha⟩:=kS (hin q (List.mem_of_getElem? hq)).1 (hin q (List.mem_of_getElem? hq)).2;have hne:=aR hq;have hne2:=aR ha;have hj:=aG ha;have hj':(j:Int)<l.length:=by omega
  obtain⟨v',H2,hA,ov2,hO,hn2,_⟩:=iM a ov h5 (by simp [aL];omega);have w1:=IntWalk.i64_in ((k:Int)+1) (by omega);simp only[go_sem,h6,hb,hq,hne,ha,hne2,hj',w1,hA];refine⟨by have:=ov2.next;omega,⟨k+1,by simp,by omega,ov2,?_⟩,by omega⟩;rw[DV hq,Int.toNat_natCast,bU ha];exact hO
 ·simp only[go_sem,h6,hb];rw[List.take_of_length_le (by omega)]at h5;exact aw.mk ov.next (hK _ _ ov h5)
theorem Qc (g:Int)(ns:List NodeP)(v:Nat)(x:NodeP)(hx:ns[v]?=some x)(hl:(ns.length:Int)<2 ^ 39)(hp:(x.parents.length:Int)<2 ^ 39)(hin:fT x.parents ns.length)(H:AHeap)(K:ARes->AHeap->Prop)
  (hK:∀ v H',Over H H'->aB H.next H' 3 v (ints (aQ ns x))->K (.ret v) H'):ae Try.prog G0 77 [bj g ns,aa v] H K:=by
 refine ae.clo ⟨_,Try.func77,rfl,rfl⟩ fun hcl=>?_;have hne:=dH hx;have e1:=jx hx;have hv:(v:Int)<ns.length:=by have:=aG hx;omega
 refine ae.aS (n:=14) (rs:=[.tmp 4]) Try.func77 rfl rfl rfl (by decide) (by kernel_rfl) (by simp) ?_;simp only[go_sem,bj,bO];refine W.draw 8 [0,1,0,4,0,28,60,124] Try.mixed (by kernel_rfl) (by kernel_rfl) ?_;simp only[go_sem];refine⟨ab (aq ns),[],bD.pure fun H2=>pD g ns hl H2 _ ⟨rfl,rfl⟩,?_⟩;simp only[go_sem,hv,hne,e1];refine aA.clo (Qb (aq ns) x.parents (by rw[cP];omega) hp (by rw[cP];exact hin) _ _ fun w H3 ov ho=>⟨trivial,?_⟩);simp only[go_sem];have o1:Over H H3:=(Over.ext _ _).trans ov;exact aw.mk o1.next (hK _ _ o1 (ho.keep (by simp [bn]) (Nat.le_refl _) fun _ _ _ _ _ _=>rfl))
theorem De {ns:List NodeP}{P:List Int}(hP:IsPerm ns.length P)(hall:∀ v:Nat,v<ns.length->(v:Int)∈P)(hr:∀ (j v:Nat) (x:NodeP),P[j]?=some (v:Int)->ns[v]?=some x->∀ q∈x.parents,0<=q/\∃ k,k<j/\P[k]?=some q):kU (aZ ns):=by
 intro v hv;have hl:(aZ ns).length=ns.length:=by simp [aZ]
 rw[hl]at hv;obtain⟨j,hj⟩:=List.mem_iff_getElem?.1 (hall v hv);have h0:∀ p∈P.take j,0<=p:=fun p hp=>(hP.rng p (List.mem_of_mem_take hp)).1;have sub:∀ (k u:Nat) (x:NodeP),k<=j->P[k]?=some (u:Int)->ns[u]?=some x->Sub ((aZ ns).getD u 0) (cC (P.take j)):=fun k u x hk hu hx i hi=>by
  rw[bU (lh hx)]at hi;have hp0:∀ p∈x.parents,0<=p:=fun p hp=>(hr k u x hu hx p hp).1;rw[me hp0]at hi;obtain⟨_,k',hk',hq⟩:=hr k u x hu hx _ (of_decide_eq_true hi);rw[me h0];refine decide_eq_true ?_;exact List.mem_iff_getElem?.2 ⟨k',by rw[List.getElem?_take_of_lt (by omega)];exact hq⟩
 have hcl:mf (aZ ns) (cC (P.take j)):=fun u hu ht=>by
  rw[hl]at hu;rw[me h0]at ht;obtain⟨k,hk⟩:=List.mem_iff_getElem?.1 (of_decide_eq_true ht);have hkl:=aG hk;rw[List.length_take]at hkl;rw[List.getElem?_take_of_lt (by omega)]at hk;obtain⟨x,hx⟩:=ay hu;exact sub k u x (by omega) hk hx
 obtain⟨x,hx⟩:=ay hv;have h1:=ux hcl (aZ ns).length (sub j v x (Nat.le_refl _) hj hx);cases hb:(gz (aZ ns) ((aZ ns).getD v 0)).testBit v with
 | false=>rfl
 | true =>
  exfalso;have h2:=h1 v hb;rw[me h0]at h2;obtain⟨k,hk⟩:=List.mem_iff_getElem?.1 (of_decide_eq_true h2);have hkl:=aG hk;rw[List.length_take]at hkl;rw[List.getElem?_take_of_lt (by omega)]at hk;have e:P[k]?=P[j]?:=by rw[hk,hj]
  have:=(List.getElem?_inj (aG hk) hP.nd).1 e;omega
end Go.Proofs
namespace Go.Proofs
open Go.Hx
def kZ (H1 H':AHeap)(N:Nat)(cs:List AVal):Prop:=H1.next<=H'.next/\(∀ id,id<H1.next->id≠N->H'.get id=H1.get id)/\H'.get N=some (.arr 0 83 cs)
theorem Qd {l:List NodeP}{i:Nat}{x y:NodeP}(h:l[i]?=some x)(hr:x.rows=[])(hy:y.rows=[]):bI (l.set i y)=(bI l).set (i*3) (aa y.card):=by
 have hl:=aG h;have h1:=uI (f:=NodeP.cD) (z:=3) jD l i y hl;have h2:=mc (f:=NodeP.cD) (z:=3) jD l i x h;have e1:x.cD=[aa x.card,.lit (.slice none 0 0),.lit (.slice none 0 0)]:=if_pos hr;have e2:y.cD=[aa y.card,.lit (.slice none 0 0),.lit (.slice none 0 0)]:=if_pos hy;unfold bI;rw[h1,e2];rw[e1]at h2;have h3:(l.map NodeP.cD).flatten=((l.map NodeP.cD).flatten).take (i*3)++([aa x.card,.lit (.slice none 0 0),.lit (.slice none 0 0)]++((l.map NodeP.cD).flatten).drop (i*3+3)):=by
  rw[<- h2,<- List.drop_drop,List.take_append_drop,List.take_append_drop]
 have hlen:(((l.map NodeP.cD).flatten).take (i*3)).length=i*3:=by
  rw[List.length_take,jZ (f:=NodeP.cD) (z:=3) jD];omega
 conv=>rhs;rw[h3]
 rw[List.set_append_right _ _ (by omega),hlen];simp
theorem uK (ord:List Int):∀ (n v:Nat),v<n->(v:Int)∈gE ord n
 | 0,v,h=>by omega
 | n+1,v,h=>by
  unfold gE;by_cases hv:v=n
  ·subst hv;simp
  ·have:=uK ord n v (by omega);rw[<- List.take_append_drop (kX ord n) (gE ord n)]at this;rcases List.mem_append.1 this with h|h
   ·exact List.mem_append_left _ h
   ·exact List.mem_append_right _ (List.mem_cons_of_mem _ h)
structure DoneN (g:Int)(cs P:List Int)(n j:Nat)(x:NodeP):Prop where
 pl:bT x.parents n
 p3:x.parents.length<=3
 rk:∀ q∈x.parents,∃ k,k<j/\P[k]?=some q
 rl:(x.rows.length:Int)=au (aL cs x.parents)
 ro:∀ r∈x.rows,jd g x.card r
 ne:x.rows≠[]
structure LoopN (g:Int)(cs P:List Int)(n i:Nat)(ns:List NodeP):Prop where
 len:ns.length=n
 cards:aq ns=cs
 todo:∀ (j v:Nat) (x:NodeP),i<=j->P[j]?=some (v:Int)->ns[v]?=some x->x.rows=[]/\x.parents=[]
 done:∀ (j v:Nat) (x:NodeP),j<i->P[j]?=some (v:Int)->ns[v]?=some x->DoneN g cs P n j x
theorem Qe {l:List NodeP}{i:Nat}{x y:NodeP}(h:l[i]?=some x)(hy:y.card=x.card)(hr:y.rows≠[]):bI (l.set i y)=((bI l).set (i*3+1) (ab y.parents)).set (i*3+2) (ao y.rows):=by
 have hl:=aG h;have h1:=uI (f:=NodeP.cD) (z:=3) jD l i y hl;have h2:=mc (f:=NodeP.cD) (z:=3) jD l i x h;unfold bI;rw[h1];have h3:(l.map NodeP.cD).flatten=((l.map NodeP.cD).flatten).take (i*3)++(x.cD++((l.map NodeP.cD).flatten).drop (i*3+3)):=by
  rw[<- h2,<- List.drop_drop,List.take_append_drop,List.take_append_drop]
 have hlen:(((l.map NodeP.cD).flatten).take (i*3)).length=i*3:=by
  rw[List.length_take,jZ (f:=NodeP.cD) (z:=3) jD];omega
 have ex:∃ b c,x.cD=[aa x.card,b,c]:=by unfold NodeP.cD;split<;>exact⟨_,_,rfl⟩
 obtain⟨b,c,ex⟩:=ex;have ey:y.cD=[aa y.card,ab y.parents,ao y.rows]:=if_neg hr
 conv=>rhs;rw[h3]
 rw[List.set_append_right _ _ (by omega),List.set_append_right _ _ (by omega),hlen,show i*3+1 - i*3=1 by omega,show i*3+2 - i*3=2 by omega,ex,ey];simp [hy]
structure ParU (P:List Int)(i u k:Nat)(l:List Int):Prop where
 pw:l.Pairwise (·<·)
 rng:∀ q∈l,0<=q/\(q<u\/(q=u/\∃ k',k'<k/\P[k']?=some q))
 p3:l.length<=3
 rk:∀ q∈l,∃ k',k'<i/\P[k']?=some q
theorem ParU.skip {P:List Int}{i u k:Nat}{l:List Int}(h:ParU P i u k l):ParU P i u (k+1) l:=⟨h.pw,fun q hq=>⟨(h.rng q hq).1,(h.rng q hq).2.imp id fun ⟨a,k',b,c⟩=>⟨a,k',by omega,c⟩⟩,h.p3,h.rk⟩
theorem ParU.next {P:List Int}{i u k:Nat}{l:List Int}(h:ParU P i u k l):ParU P i (u+1) 0 l:=⟨h.pw,fun q hq=>⟨(h.rng q hq).1,.inl (by rcases(h.rng q hq).2 with h1|h1<;>omega)⟩,h.p3,h.rk⟩
theorem ParU.add {P:List Int}{n i u k:Nat}{l:List Int}(hP:IsPerm n P)(h:ParU P i u k l)(hk:k<i)(hu:P[k]?=some (u:Int))(h3:l.length<3):ParU P i u (k+1) (l++[(u:Int)]):=by
 have lt:∀ q∈l,q<u:=fun q hq=>by
  rcases(h.rng q hq).2 with h1|⟨h1,k',h2,h4⟩
  ·exact h1
  ·exfalso;have e:P[k']?=P[k]?:=(by rw[h4,hu,h1]);have:=(List.getElem?_inj (aG h4) hP.nd).1 e;omega
 refine⟨List.pairwise_append.2 ⟨h.pw,by simp,fun a ha b hb=>by obtain rfl:=List.mem_singleton.1 hb;exact lt a ha⟩,fun q hq=>?_,by simp;omega,fun q hq=>?_⟩
 ·rcases List.mem_append.1 hq with h1|h1
  ·exact⟨(h.rng q h1).1,.inl (lt q h1)⟩
  ·obtain rfl:=List.mem_singleton.1 h1;exact⟨by omega,.inr ⟨rfl,k,by omega,hu⟩⟩
 ·rcases List.mem_append.1 hq with h1|h1
  ·exact h.rk q h1
  ·obtain rfl:=List.mem_singleton.1 h1;exact⟨k,hk,hu⟩
def yD (Hz Hx:AHeap)(N at':Nat)(C:List AVal)(pv:AVal)(l:List Int):Prop:=kZ Hz Hx N (C.set at' pv)/\aB Hz.next Hx 3 pv (ints l)
set_option maxHeartbeats 4000000 in
theorem Qf (g0:Int)(ps:List DrP)(ord:List Int)(hg0:U8 g0)(hps:∀ x∈ps,x.Ok)(hpl:(ps.length:Int)<2 ^ 63)(hol:(ord.length:Int)<2 ^ 63)(ho8:∀ x∈ord,U8 x)(H:AHeap)(K:ARes->AHeap->Prop)
  (hK:∀ g ns N H',Over H H'->H.next<=N->N<H'.next->H'.get N=some (.arr 0 83 (aD ns))->NetOk g ns->ns.length<=5->(∀ x∈ns,x.parents.length<=3)->K (.ret (.agg [aa g,.own N 0 0 ns.length 3])) H'):
  ae Try.prog G0 40 [C7 g0 ps ord] H K:=by
 refine ae.aS (n:=187) (rs:=[.cell 2 64]) Try.func40 rfl rfl rfl (by decide) (by kernel_rfl) (by simp) ?_;obtain⟨n,hn⟩:∃ n:Nat,min (max ps.length 1) 5=n:=⟨_,rfl⟩
 have h51:1<=n/\n<=5:=by omega
 have hmn:(if 5<(if (1:Int) > ps.length then 1 else (ps.length:Int)) then 5 else (if (1:Int) > ps.length then 1 else (ps.length:Int)))=(n:Int):=by split<;>split<;>omega
 have t0:g0.tmod 60=g0 % 60:=Int.tmod_eq_emod_of_nonneg hg0.1;have w0:IntKind.u8.wrap (g0 % 60)=g0 % 60:=IntWalk.u8_in _ (by omega);have w1:IntKind.i64.wrap (g0 % 60)=g0 % 60:=IntWalk.i64_in _ (by omega);have w2:=IntWalk.i64_in (1+g0 % 60) (by omega);obtain⟨g,hg⟩:∃ g,1+g0 % 60=g:=⟨_,rfl⟩
 have hg1:1<=g/\g<=60:=by omega
 rw[hg]at w2;simp only[go_sem,C7];refine W.draw 9 [0,1,3,7,15,0,32,127,0] Try.mixed (by kernel_rfl) (by kernel_rfl) ?_;simp only[go_sem,hmn,t0,w1,hg,w2];refine⟨by omega,⟨⟨by omega,by omega⟩,⟨by omega,by omega⟩,?_⟩⟩;obtain⟨H1,hH1⟩:∃ H1,H1=ext (ext H [.arr 0 25 [.lit (.int .u8 g0),.vec ps.length (d9 ps),.vec ord.length (bC ord)],.arr 0 64 [.lit (.int .i64 0),.lit (.slice none 0 0)],.arr 0 83 (List.replicate n [AVal.lit (.int .i64 0),.lit (.slice none 0 0),.lit (.slice none 0 0)]).flatten]) [.arr 0 64 [.lit (.int .i64 g),.own (H.next+2) 0 0 n 3]]:=⟨_,rfl⟩
 refine W.env fun E hE=>?_;have e1:E 1=.ptr H.next 0 0:=by rw[hE];simp only[go_sem]
 have e2:E 2=.ptr (H.next+1) 0 0:=by rw[hE];simp only[go_sem]
 have e3:E 3=aa n:=by rw[hE];simp only[go_sem]
 have e4:E 4=.ptr (H.next+3) 0 0:=by rw[hE];simp only[go_sem]
 clear hE;show W _ _ _ _ _ _ ⟨E,ext (ext H [.arr 0 25 [.lit (.int .u8 g0),.vec ps.length (d9 ps),.vec ord.length (bC ord)],.arr 0 64 [.lit (.int .i64 0),.lit (.slice none 0 0)],.arr 0 83 (List.replicate n [AVal.lit (.int .i64 0),.lit (.slice none 0 0),.lit (.slice none 0 0)]).flatten]) [.arr 0 64 [.lit (.int .i64 g),.own (H.next+2) 0 0 n 3]]⟩;rw[<- hH1];have n1:H1.next=H.next+4:=by rw[hH1];rfl
 have o1:Over H H1:=by rw[hH1];exact(Over.ext _ _).trans (.ext _ _)
 have g0':H1.get H.next=some (.arr 0 25 [.lit (.int .u8 g0),.vec ps.length (d9 ps),.vec ord.length (bC ord)]):=by rw[hH1,fa];exact br ..
 have g1':H1.get (H.next+1)=some (.arr 0 64 [.lit (.int .i64 0),.lit (.slice none 0 0)]):=by rw[hH1,fa];exact bu H _ 1 (by simp)
 have g2':H1.get (H.next+2)=some (.arr 0 83 (bI (List.replicate n ⟨0,[],[]⟩))):=by
  rw[hH1,fa,show bI (List.replicate n ⟨0,[],[]⟩)=(List.replicate n [AVal.lit (.int .i64 0),.lit (.slice none 0 0),.lit (.slice none 0 0)]).flatten by unfold bI;rw[List.map_replicate];rfl];exact bu H _ 2 (by simp)
 have g3':H1.get (H.next+3)=some (.arr 0 64 [.lit (.int .i64 g),.own (H.next+2) 0 0 n 3]):=by rw[hH1,fa];exact bu H _ 3 (by simp)
 clear hH1;have l0:=ah g0';have l1:=ah (show (ext H1 [.arr 0 5 (List.replicate n (.lit (.int .u8 0)))]).get H.next=some (.arr 0 25 [.lit (.int .u8 g0),.vec ps.length (d9 ps),.vec ord.length (bC ord)]) by rw[c9 _ _ _ (by omega)];exact g0');refine W.draw 4 [0,1,0,4] Try.mixed (by kernel_rfl) (by kernel_rfl) ?_;simp only[go_sem,e1,e3,l1];refine⟨⟨by omega,by omega⟩,by omega,by omega,?_⟩;obtain⟨H2,hH2⟩:∃ H2,H2=ext H1 [.arr 0 5 (List.replicate n (.lit (.int .u8 0)))]:=⟨_,rfl⟩
 have gb:H2.get H1.next=some (.arr 0 5 (List.replicate n (.lit (.int .u8 0)))):=by rw[hH2];exact bY
 rw[<- hH2];refine aA.clo ((ae.frame (H:=H2) (args:=[.agg [.own H1.next 0 0 n 1,.lit (.int .u16 0),.vec ord.length (bC ord)]]) (args':=[.agg [.vec n (bC (List.replicate n 0)),.lit (.int .u16 0),.vec ord.length (bC ord)]]) (v':=ab (gE ord n)) aF rfl (fun i hi _=>?_) (Pz n h51.2 ord hol ho8 bX _ fun v H' _ ho=>⟨_,rfl,ho.nD⟩)).mono fun r H' hr=>?_)
 ·match i,hi with
  | 0,_ =>
   refine .agg rfl fun i hi _=>?_
   match i,hi with
   | 0,_ =>
    have:bC (List.replicate n 0)=List.replicate n (.lit (.int .u8 0)):=(by unfold bC;rw[List.map_replicate]);rw[this];exact Fz.pE gb (by simp) fun c hc=>⟨_,List.eq_of_mem_replicate hc⟩
   | 1,_=>exact .lit _
   | 2,_=>exact .vec rfl fun i hi _=>by simp only[bC,List.getElem_map];exact .lit _
 obtain⟨rfl,rfl⟩:=hr;refine⟨trivial,?_⟩;have hperm:=yv ord n;obtain⟨P,hP⟩:∃ P,P=gE ord n:=⟨_,rfl⟩
 rw[<- hP]at hperm ⊢;have n2:H'.next=H1.next+1:=by rw[hH2];rfl
 have F0:kZ H1 H' (H.next+2) (bI (List.replicate n ⟨0,[],[]⟩)):=by
  rw[hH2];exact⟨by simp [bn],fun id h _=>c9 _ _ _ h,by rw[c9 _ _ _ (by omega)];exact g2'⟩
 clear hH2 gb;simp only[go_sem,e3];have bs:∀ k:Nat,k<=5->(3:Int) ^ k<=243:=fun k hk=>by
  have:(3:Nat) ^ k<=3 ^ 5:=Nat.pow_le_pow_right (by decide) hk;have h2:((3 ^ k:Nat):Int)<=((3 ^ 5:Nat):Int):=by exact_mod_cast this
  push_cast at h2
  exact h2
 refine W.aK 151115727451794287100864 (by rfl) (fun ρ Hx=>∃ (i:Nat) (ns:List NodeP) (Wd:Int),ρ 7=aa i/\i<=n/\ns.length=n/\(∀ x∈ns,x.rows=[]/\x.parents=[])/\(∀ j v:Nat,j<i->P[j]?=some (v:Int)->∃ x,ns[v]?=some x/\2<=x.card/\x.card<=3)/\ρ 6=aa Wd/\1<=Wd/\Wd<=3 ^ i/\H'.next<=Hx.next/\kZ H1 Hx (H.next+2) (bI ns)) (fun ρ H=>n - (iv (ρ 7)).toNat) ?_ ?_
 ·simp only[go_sem];exact⟨0,_,1,rfl,by omega,by simp,fun x hx=>by obtain rfl:=List.eq_of_mem_replicate hx;exact⟨rfl,rfl⟩,fun j v hj=>by omega,rfl,by omega,by simp,F0⟩
 rintro ρ Hx ⟨i,ns,Wd,h7,hi,hnl,hnz,hnc,h6,hW1,hW3,hnx,hF⟩;refine W.env fun E2 hE2=>?_;have f1:E2 1=.ptr H.next 0 0:=by rw[hE2];simp only[go_sem,e1]
 have f2:E2 2=.ptr (H.next+1) 0 0:=by rw[hE2];simp only[go_sem,e2]
 have f3:E2 3=aa n:=by rw[hE2];simp only[go_sem,e3]
 have f4:E2 4=.ptr (H.next+3) 0 0:=by rw[hE2];simp only[go_sem,e4]
 have f5:E2 5=ab P:=by rw[hE2];simp only[go_sem]
 have f6:E2 6=aa Wd:=by rw[hE2];simp only[go_sem,h6]
 have f7:E2 7=aa i:=by rw[hE2];simp only[go_sem,h7]
 clear hE2;refine ag _ _ _ (by rfl) ?_;have hPl:=hperm.len;have hFn:=hF.1;have m0:=ah ((hF.2.1 H.next (by omega) (by omega)).trans g0');have m3:=ah ((hF.2.1 (H.next+3) (by omega) (by omega)).trans g3');have mN:=ah hF.2.2;have m0':∀ L,(ext Hx L).live H.next 0=some (25,[.lit (.int .u8 g0),.vec ps.length (d9 ps),.vec ord.length (bC ord)]):=fun L=>(dS (by omega)).trans m0;have m3':∀ L,(ext Hx L).live (H.next+3) 0=some (64,[.lit (.int .i64 g),.own (H.next+2) 0 0 n 3]):=fun L=>(dS (by omega)).trans m3;have mN':∀ L,(ext Hx L).live (H.next+2) 0=some (83,bI ns):=fun L=>(dS (by omega)).trans mN;by_cases hb:(i:Int)<n
 ·obtain⟨pv,hpv⟩:=ay (l:=P) (i:=i) (by omega);have hpr:=hperm.rng pv (List.mem_of_getElem? hpv);obtain⟨v,rfl⟩:=Int.eq_ofNat_of_zero_le hpr.1;obtain⟨x,hx⟩:=ay (l:=ns) (i:=v) (by omega);have hpne:=aR hpv;have hz0:=Db hx;have hzne:=aR hz0;have hzl:=Da ns;have hv:(v:Int)<n:=hpr.2;have hv0:(v:Int) >= 0:=hpr.1;have hiP:(i:Int)<P.length:=by omega
  have w3:=bs i (by omega);have i1:=IntWalk.i64_in ((i:Int)+1) (by omega);have i2:=IntWalk.i64_in ((n:Int) - 1) (by omega);have i3:=IntWalk.i64_in ((n:Int) - 1 - i) (by omega);have i4:=IntWalk.u64_in ((n:Int) - 1 - i) (by omega);have fin:∀ (c:Int) (B:Blk),2<=c/\c<=3->v*3+1<=(bI ns).length/\H'.next<=((ext Hx [B]).upd (H.next+2) (.arr 0 83 (setAt (bI ns) (v*3) [.lit (.int .i64 c)]))).next /\
    (∃ (i_1:Nat) (ns_1:List NodeP) (Wd_1:Int),AVal.lit (.int .i64 ((i:Int)+1))=.lit (.int .i64 i_1)/\i_1<=n/\ns_1.length=n/\(∀ x∈ns_1,x.rows=[]/\x.parents=[])/\(∀ j v:Nat,j<i_1->P[j]?=some (v:Int)->∃ x,ns_1[v]?=some x/\2<=x.card/\x.card<=3) /\
     AVal.lit (.int .i64 (Wd*c))=.lit (.int .i64 Wd_1)/\1<=Wd_1/\Wd_1<=3 ^ i_1/\H'.next<=((ext Hx [B]).upd (H.next+2) (.arr 0 83 (setAt (bI ns) (v*3) [.lit (.int .i64 c)]))).next/\kZ H1 ((ext Hx [B]).upd (H.next+2) (.arr 0 83 (setAt (bI ns) (v*3) [.lit (.int .i64 c)]))) (H.next+2) (bI ns_1)) /\
    n - ((i:Int)+1).toNat<n - (iv (ρ 7)).toNat:=by
   intro c B c23;have p1:2<=Wd*c/\Wd*c<=3 ^ i*3:=by
    constructor
    ·have:=Int.mul_le_mul hW1 c23.1 (by omega) (by omega);omega
    ·exact Int.mul_le_mul hW3 c23.2 (by omega) (by omega)
   have nn:((ext Hx [B]).upd (H.next+2) (.arr 0 83 (setAt (bI ns) (v*3) [.lit (.int .i64 c)]))).next=Hx.next+1:=rfl;refine⟨by rw[hzl];have:=aG hx;omega,by rw[nn];omega,⟨i+1,ns.set v ⟨c,[],[]⟩,Wd*c,rfl,by omega,by simp [hnl],fun z hz=>?_,fun j u hj hu=>?_,rfl,by omega,by rw[Int.pow_succ];omega,by rw[nn];omega,?_⟩,by rw[h7];simp only[aa,aU];omega⟩
   ·rcases List.mem_or_eq_of_mem_set hz with h|h
    ·exact hnz z h
    ·rw[h];exact⟨rfl,rfl⟩
   ·by_cases huv:u=v
    ·subst huv;exact⟨_,List.getElem?_set_self (aG hx),by dsimp only;omega,by dsimp only;omega⟩
    ·rw[List.getElem?_set_ne (by omega)];refine hnc j u ?_ hu;rcases Nat.lt_or_ge j i with h|h
     ·exact h
     ·obtain rfl:j=i:=(by omega);rw[hpv]at hu;exact absurd (by have:=Option.some.inj hu;omega) huv
   ·refine⟨by rw[nn];omega,fun id h1 h2=>by rw[af,if_neg h2,c9 _ _ _ (by omega)];exact hF.2.1 id h1 h2,?_⟩;rw[af,if_pos rfl,Qd hx (hnz x (List.mem_of_getElem? hx)).1 rfl];congr 2;exact dW (by rw[hzl];have:=aG hx;omega)
  by_cases hp:(i:Int)<ps.length
  ·obtain⟨y,hy⟩:=ay (l:=ps) (i:=i) (by omega);have hyo:=hps y (List.mem_of_getElem? hy);have hc0:=C8 hy;have hc1:i*3+3<=(d9 ps).length:=(by rw[C9];omega);have hcne:¬ d9 ps=[]:=fun h=>by rw[h]at hc1;simp at hc1
   have c8:=hyo.1;have t1:y.card.tmod 2=y.card % 2:=Int.tmod_eq_emod_of_nonneg c8.1;have i5:=IntWalk.u8_in (y.card % 2) (by omega);have i6:=IntWalk.i64_in (y.card % 2) (by omega);have i7:=IntWalk.i64_in (2+y.card % 2) (by omega);have c23:2<=(2+y.card % 2)/\(2+y.card % 2)<=3:=(by omega);have p1:2<=Wd*(2+y.card % 2)/\Wd*(2+y.card % 2)<=3 ^ i*3:=by
    constructor
    ·have:=Int.mul_le_mul hW1 c23.1 (by omega) (by omega);omega
    ·exact Int.mul_le_mul hW3 c23.2 (by omega) (by omega)
   have p2:2<=Wd*2/\Wd*2<=3 ^ i*3:=(by omega);have j1:=IntWalk.i64_in (Wd*(2+y.card % 2)) (by omega);have j2:=IntWalk.i64_in (Wd*2) (by omega);obtain⟨q,hq⟩:∃ q,IntKind.i64.wrap (Wd*(2+y.card % 2)*2 ^ (min ((n:Int) - 1 - i).toNat IntKind.i64.bits))=q:=⟨_,rfl⟩
   have hsh:∀ t o1 o2,bh Try.prog .shl t o1 o2 (.lit (.int .i64 (Wd*(2+y.card % 2)))) (.lit (.int .u64 ((n:Int) - 1 - i)))=some (.lit (.int .i64 q)):=fun t o1 o2=>by rw[za (by omega),hq]
   by_cases hq1:q > 100
   ·simp only[go_sem,f1,f3,f6,f7,m0',hb,hp,i2,i3,i4,j1,j2,hsh,hc0,hc1,hcne,t1,i6,i7,hq1];refine W.draw 7 [0,1,0,0,12,28,0] Try.mixed (by kernel_rfl) (by kernel_rfl) ?_;simp only[go_sem,f4,f5,f6,f7,m3',mN',i1,hpv,hpne,hv,hv0,hiP];exact fin 2 _ (by omega)
   ·simp only[go_sem,f1,f3,f6,f7,m0',hb,hp,i2,i3,i4,j1,hsh,hc0,hc1,hcne,t1,i6,i7,hq1];refine W.draw 7 [0,1,0,0,12,28,0] Try.mixed (by kernel_rfl) (by kernel_rfl) ?_;simp only[go_sem,f4,f5,f6,f7,m3',mN',i1,hpv,hpne,hv,hv0,hiP];exact fin (2+y.card % 2) _ c23
  ·have p2:2<=Wd*2/\Wd*2<=3 ^ i*3:=(by omega);have i5:IntKind.i64.wrap (2+IntKind.i64.wrap (Int.tmod 0 2))=2:=(by decide);have j2:=IntWalk.i64_in (Wd*2) (by omega);obtain⟨q,hq⟩:∃ q,IntKind.i64.wrap (Wd*2*2 ^ (min ((n:Int) - 1 - i).toNat IntKind.i64.bits))=q:=⟨_,rfl⟩
   have hsh:∀ t o1 o2,bh Try.prog .shl t o1 o2 (.lit (.int .i64 (Wd*2))) (.lit (.int .u64 ((n:Int) - 1 - i)))=some (.lit (.int .i64 q)):=fun t o1 o2=>by rw[za (by omega),hq]
   by_cases hq1:q > 100
   ·simp only[go_sem,f1,f3,f6,f7,m0',hb,hp,i2,i3,i4,j2,hsh,i5,hq1];refine W.draw 7 [0,1,0,0,12,28,0] Try.mixed (by kernel_rfl) (by kernel_rfl) ?_;simp only[go_sem,f4,f5,f6,f7,m3',mN',i1,hpv,hpne,hv,hv0,hiP];exact fin 2 _ (by omega)
   ·simp only[go_sem,f1,f3,f6,f7,m0',hb,hp,i2,i3,i4,j2,hsh,i5,hq1];refine W.draw 7 [0,1,0,0,12,28,0] Try.mixed (by kernel_rfl) (by kernel_rfl) ?_;simp only[go_sem,f4,f5,f6,f7,m3',mN',i1,hpv,hpne,hv,hv0,hiP];exact fin 2 _ (by omega)
 ·obtain rfl:n=i:=by omega
  clear bs hW1 hW3 h6 f6;simp only[go_sem,f3,f7,hb];obtain⟨cs,hcs⟩:∃ cs,cs=aq ns:=⟨_,rfl⟩
  have csl:cs.length=n:=by rw[hcs,cP,hnl]
  have hc23:∀ c∈cs,2<=c/\c<=3:=fun c hc=>by
   obtain⟨v,hv⟩:=List.mem_iff_getElem?.1 hc;have hvn:=aG hv;have hm:=uK ord n v (by omega);rw[<- hP]at hm;obtain⟨j,hj⟩:=List.mem_iff_getElem?.1 hm;obtain⟨x,hx,h2,h3⟩:=hnc j v (by have:=aG hj;omega) hj;rw[hcs,cV hx]at hv;cases hv;exact⟨h2,h3⟩
  have L0:LoopN g cs P n 0 ns:=⟨hnl,hcs.symm,fun j v x _ _ hx=>hnz x (List.mem_of_getElem? hx),fun j v x h=>by omega⟩
  clear hnc hnz h7;refine W.aK 98079714615416886934934209737619636635871851991103765504 (by rfl) (fun ρ Hy=>∃ (i:Nat) (ns:List NodeP),ρ 10=aa i/\i<=n/\LoopN g cs P n i ns/\Hx.next<=Hy.next/\kZ H1 Hy (H.next+2) (bI ns)) (fun ρ H=>n - (iv (ρ 10)).toNat) ?_ ?_
  ·simp only[go_sem];exact⟨0,ns,rfl,by omega,L0,hF⟩
  clear L0 hF m0 m3 mN m0' m3' mN' hFn hnl hcs f7;rintro ρ Hy ⟨i,ns,h10,hi,L,hny,hF⟩;refine W.env fun E hE=>?_;have e1:E 1=.ptr H.next 0 0:=by rw[hE];simp only[go_sem,f1]
  have e2:E 2=.ptr (H.next+1) 0 0:=by rw[hE];simp only[go_sem,f2]
  have e3:E 3=aa n:=by rw[hE];simp only[go_sem,f3]
  have e4:E 4=.ptr (H.next+3) 0 0:=by rw[hE];simp only[go_sem,f4]
  have e5:E 5=ab P:=by rw[hE];simp only[go_sem,f5]
  have e10:E 10=aa i:=by rw[hE];simp only[go_sem,h10]
  clear hE;refine ag _ _ _ (by rfl) ?_;have hFn:=hF.1;have m0:=ah ((hF.2.1 H.next (by omega) (by omega)).trans g0');have m1:=ah ((hF.2.1 (H.next+1) (by omega) (by omega)).trans g1');have m3:=ah ((hF.2.1 (H.next+3) (by omega) (by omega)).trans g3');have m0':∀ L,(ext Hy L).live H.next 0=some (25,[.lit (.int .u8 g0),.vec ps.length (d9 ps),.vec ord.length (bC ord)]):=fun L=>(dS (by omega)).trans m0;by_cases hb:(i:Int)<n
  ·obtain⟨pv,hpv⟩:=ay (l:=P) (i:=i) (by omega);have hpr:=hperm.rng pv (List.mem_of_getElem? hpv);obtain⟨v,rfl⟩:=Int.eq_ofNat_of_zero_le hpr.1;have hnl:=L.len;obtain⟨x,hx⟩:=ay (l:=ns) (i:=v) (by omega);have hpne:=aR hpv;have hiP:(i:Int)<P.length:=(by omega);have hP1:∀ k:Nat,k<n->∃ u:Nat,P[k]?=some (u:Int)/\u<n:=fun k hk=>by
    obtain⟨q,hq⟩:=ay (l:=P) (i:=k) (by omega);have:=hperm.rng q (List.mem_of_getElem? hq);obtain⟨u,rfl⟩:=Int.eq_ofNat_of_zero_le this.1;exact⟨u,hq,by omega⟩
   have hpc:∀ (B:List AVal),B=(if (i:Int)<ps.length then (d9 ps).drop (i*3) |>.take 3 else [.lit (.int .u8 0),.lit (.int .u8 0),.lit (.slice none 0 0)])->∃ (pc par:Int) (bs:List Int) (wv:AVal),B=[.lit (.int .u8 pc),.lit (.int .u8 par),wv]/\U8 par/\(∀ b∈bs,U8 b)/\(bs.length:Int)<2 ^ 63/\wv.one=true/\wv.cells=[wv]/\∀ H0,Fz (fun _=>True) H0 0 wv (.vec bs.length (bC bs)):=by
    rintro B rfl;by_cases hp:(i:Int)<ps.length
    ·obtain⟨y,hy⟩:=ay (l:=ps) (i:=i) (by omega);have hyo:=hps y (List.mem_of_getElem? hy);rw[if_pos hp,C8 hy];exact⟨y.card,y.par,y.w,_,rfl,hyo.2.1,hyo.2.2.2,hyo.2.2.1,rfl,rfl,fun H0=>.vec rfl fun i hi _=>by simp only[bC,List.getElem_map];exact .lit _⟩
    ·rw[if_neg hp];exact⟨0,0,[],_,rfl,by unfold U8;omega,by simp,by simp,rfl,rfl,fun H0=>.nil⟩
   by_cases hp:(i:Int)<ps.length
   case' pos =>
    have hc1:i*3+3<=(d9 ps).length:=(by rw[C9];omega);have hcne:¬ d9 ps=[]:=fun h=>by rw[h]at hc1;simp at hc1
    rw[if_pos hp]at hpc;obtain⟨pc,par,bs,wv,hc0,hpar,hbs,hbl,hwo,hwc,hwf⟩:=hpc _ rfl;simp only[go_sem,e1,e3,e5,e10,m0',hb,hp,hc0,hc1,hcne,hpv,hpne,hiP,hwo,Bool.and_true];obtain⟨Hz,hHz⟩:∃ Hz,Hz=ext Hy [.arr 0 142 [.lit (.int .u8 pc),.lit (.int .u8 par),wv]]:=⟨_,rfl⟩
    clear hpc hc0 hc1 hcne hp
   case' neg =>
    rw[if_neg hp]at hpc;obtain⟨pc,par,bs,wv,hc0,hpar,hbs,hbl,hwo,hwc,hwf⟩:=hpc _ rfl;simp only[go_sem,e1,e3,e5,e10,m0',hb,hp,hpv,hpne,hiP];rw[hc0];obtain⟨Hz,hHz⟩:∃ Hz,Hz=ext Hy [.arr 0 142 [.lit (.int .u8 pc),.lit (.int .u8 par),wv]]:=⟨_,rfl⟩
    clear hpc hc0 hp
   all_goals
    rw[<- hHz];refine W.env fun E3 hE3=>?_;have k1:E3 1=.ptr H.next 0 0:=(by rw[hE3];simp only[go_sem,e1]);have k2:E3 2=.ptr (H.next+1) 0 0:=(by rw[hE3];simp only[go_sem,e2]);have k3:E3 3=aa n:=(by rw[hE3];simp only[go_sem,e3]);have k4:E3 4=.ptr (H.next+3) 0 0:=(by rw[hE3];simp only[go_sem,e4]);have k5:E3 5=ab P:=(by rw[hE3];simp only[go_sem,e5]);have k10:E3 10=aa i:=(by rw[hE3];simp only[go_sem,e10]);have k11:E3 11=.ptr Hy.next 0 0:=(by rw[hE3];simp only[go_sem]);have k12:E3 12=aa v:=(by rw[hE3];simp only[go_sem]);have k13:E3 13=aa 0:=(by rw[hE3];simp only[go_sem]);clear hE3;have nz:Hz.next=Hy.next+1:=(by rw[hHz];rfl);have z3:Hz.get (H.next+3)=some (.arr 0 64 [.lit (.int .i64 g),.own (H.next+2) 0 0 n 3]):=(by rw[hHz,c9 _ _ _ (by omega)];exact(hF.2.1 (H.next+3) (by omega) (by omega)).trans g3');have zP:Hz.get Hy.next=some (.arr 0 142 [.lit (.int .u8 pc),.lit (.int .u8 par),wv]):=(by rw[hHz];exact bY);have zN:Hz.get (H.next+2)=some (.arr 0 83 (bI ns)):=(by rw[hHz,c9 _ _ _ (by omega)];exact hF.2.2);have zO:∀ id,id<H1.next->id≠H.next+2->Hz.get id=H1.get id:=fun id h1 h2=>by rw[hHz,c9 _ _ _ (by omega)];exact hF.2.1 id h1 h2
    obtain⟨xr,xp⟩:=L.todo i v x (Nat.le_refl _) hpv hx;have hzl:=Da ns;have hvn:=aG hx;have hcx:(bI ns)[v*3+1]?=some (.lit (.slice none 0 0)):=by
     have:=gO (f:=NodeP.cD) (z:=3) jD ns v 1 x hx (by omega);rw[show (bI ns)[v*3+1]?=_ from this];unfold NodeP.cD;rw[if_pos xr];rfl
    clear hHz e1 e2 e3 e4 e5 e10 f1 f2 f3 f4 f5 m0' m0 m1 m3;have vlt:(v:Int)<n:=hpr.2;have v0:(v:Int) >= 0:=hpr.1;have hset:∀ pv pv',setAt ((bI ns).set (v*3+1) pv) (v*3+1) [pv']=(bI ns).set (v*3+1) pv':=fun pv pv'=>by rw[dW (by rw[List.length_set];omega),List.set_set]
    have hgetc:∀ pv,((bI ns).set (v*3+1) pv)[v*3+1]?=some pv:=fun pv=>List.getElem?_set_self (by omega);refine W.kv (Q':=fun e s2=>e=.exit 4/\∃ pv l,s2.ρ 1=.ptr H.next 0 0/\s2.ρ 2=.ptr (H.next+1) 0 0/\s2.ρ 3=aa n/\s2.ρ 4=.ptr (H.next+3) 0 0/\s2.ρ 5=ab P/\s2.ρ 10=aa i/\s2.ρ 11=.ptr Hy.next 0 0/\s2.ρ 12=aa v/\yD Hz s2.H (H.next+2) (v*3+1) (bI ns) pv l/\ParU P i n 0 l) ?_ ?_
    ·refine W.aK 44601490397061167054908922280959129468035072 (by rfl) (fun ρ Hu=>∃ (u:Nat) (pv:AVal) (l:List Int),ρ 13=aa u/\u<=n/\yD Hz Hu (H.next+2) (v*3+1) (bI ns) pv l/\ParU P i u 0 l) (fun ρ H=>n - (iv (ρ 13)).toNat) ?_ ?_
     ·simp only[go_sem,k13];refine⟨0,.lit (.slice none 0 0),[],rfl,by omega,⟨⟨Nat.le_refl _,fun _ _ _=>rfl,?_⟩,.nil⟩,⟨by simp,by simp,by simp,by simp⟩⟩;rw[zN,jF hcx]
     rintro ρu Hu ⟨u,pv,l,h13,hu,hS,hL⟩;refine W.env fun E4 hE4=>?_;have q3:E4 3=aa n:=(by rw[hE4];simp only[go_sem,k3]);have q4:E4 4=.ptr (H.next+3) 0 0:=(by rw[hE4];simp only[go_sem,k4]);have q5:E4 5=ab P:=(by rw[hE4];simp only[go_sem,k5]);have q10:E4 10=aa i:=(by rw[hE4];simp only[go_sem,k10]);have q11:E4 11=.ptr Hy.next 0 0:=(by rw[hE4];simp only[go_sem,k11]);have q12:E4 12=aa v:=(by rw[hE4];simp only[go_sem,k12]);have q13:E4 13=aa u:=(by rw[hE4];simp only[go_sem,h13]);have q1:E4 1=.ptr H.next 0 0:=(by rw[hE4];simp only[go_sem,k1]);have q2:E4 2=.ptr (H.next+1) 0 0:=(by rw[hE4];simp only[go_sem,k2]);clear hE4;refine ag _ _ _ (by rfl) ?_;by_cases hub:(u:Int)<n
     ·have u1:=IntWalk.i64_in ((u:Int)+1) (by omega);simp only[go_sem,q3,q13,hub];refine W.aK 44601490397058710981870980086493729605566464 (by rfl) (fun ρ Hk=>∃ (k:Nat) (pv:AVal) (l:List Int),ρ 14=aa k/\k<=i/\Hu.next<=Hk.next/\yD Hz Hk (H.next+2) (v*3+1) (bI ns) pv l/\ParU P i u k l) (fun ρ H=>i - (iv (ρ 14)).toNat) ?_ ?_
      ·simp only[go_sem];exact⟨0,pv,l,rfl,by omega,hS,hL⟩
      clear hS hL;rintro ρk Hk ⟨k,pv,l,h14,hk,hnk,hS,hL⟩;refine W.env fun E5 hE5=>?_;have r4:E5 4=.ptr (H.next+3) 0 0:=(by rw[hE5];simp only[go_sem,q4]);have r5:E5 5=ab P:=(by rw[hE5];simp only[go_sem,q5]);have r10:E5 10=aa i:=(by rw[hE5];simp only[go_sem,q10]);have r11:E5 11=.ptr Hy.next 0 0:=(by rw[hE5];simp only[go_sem,q11]);have r12:E5 12=aa v:=(by rw[hE5];simp only[go_sem,q12]);have r13:E5 13=aa u:=(by rw[hE5];simp only[go_sem,q13]);have r14:E5 14=aa k:=(by rw[hE5];simp only[go_sem,h14]);clear hE5;refine ag _ _ _ (by rfl) ?_;by_cases hki:(k:Int)<i
      ·obtain⟨hFz,hOz⟩:=hS;have hFz1:=hFz.1;obtain⟨a,ha,han⟩:=hP1 k (by omega);have hane:=aR ha;have hkP:(k:Int)<P.length:=(by omega);have s1:=IntWalk.i64_in ((k:Int)+1) (by omega);have s2:=IntWalk.u64_in (k:Int) (by omega);have y3:=ah ((hFz.2.1 (H.next+3) (by omega) (by omega)).trans z3);have yP:=ah ((hFz.2.1 Hy.next (by omega) (by omega)).trans zP);have yN:=ah hFz.2.2;have hgc:=hgetc pv;have hcne2:=aR hgc;obtain⟨r1,hr1⟩:∃ r1,∀ t o1 o2,bh Try.prog .shr t o1 o2 (.lit (.int .u8 par)) (.lit (.int .u64 (k:Int)))=some (.lit (.int .u8 r1)):=⟨_,fun _ _ _=>vd (by omega)⟩
       obtain⟨r2,hr2⟩:∃ r2,∀ t o1 o2,bh Try.prog .and t o1 o2 (.lit (.int .u8 r1)) (.lit (.int .u8 1))=some (.lit (.int .u8 r2)):=⟨_,fun _ _ _=>ve⟩
       have hlen:=uJ hOz (d:=some (.slice 3)) rfl;rw[oA,aT]at hlen;by_cases hau:(a:Int)=u
       ·have hau':a=u:=(by omega);by_cases hr:r2=1
        ·by_cases hl3:(l.length:Int)<3
         ·simp only[go_sem,r4,r5,r10,r11,r12,r13,r14,hki,ha,hane,hkP,s2,y3,yP,yN,hgc,hr1,hr2,hlen,hau,hr,hl3,vlt,v0];obtain⟨pv',Hj,hA,hO',hn',hpr'⟩:=gf (P:=Try.prog) (H:=Hk) (t:=59) (x:=aa u) (n:=Hk.next+1) Try.underlying59 Try.dh Try.dG rfl (by rw[Try.dU,aT];omega) hOz hFz1 rfl;simp only[aa]at hA;have keep:∀ id,id<Hz.next->Hj.get id=Hk.get id:=fun id h=>hpr' id (by omega) (hOz.ne h);have y3j:=ah ((keep _ (by omega)).trans ((hFz.2.1 (H.next+3) (by omega) (by omega)).trans z3));have yNj:=ah ((keep _ (by omega)).trans hFz.2.2);refine W.draw 12 [0,1,0,0,8,0,56,120,248,0,512,2040] Try.mixed (by kernel_rfl) (by kernel_rfl) ?_;simp only[go_sem,r4,r12,r13,r14,y3,yN,yNj,hgc,vlt,v0,hA,s1];have hdj:lJ (if jM pv=true then { eff:=aM pv,rs:=aM pv++[Hk.next] } else { eff:=[Hk.next+1],rs:=[Hk.next] }) { eff:=[],rs:=[H.next+3] }:=by
           rcases hOz with ⟨hO1,_⟩|⟨id,gg,hO1,hO2,hO3,_⟩
           ·rw[hO1];show lJ { eff:=[Hk.next+1],rs:=[Hk.next] } _;exact⟨fun a ha=>by (obtain rfl:a=Hk.next+1:=by simpa using ha);simp;omega,fun a ha=>by simp at ha⟩
           ·rw[hO3];show lJ { eff:=[id],rs:=[id]++[Hk.next] } _;exact⟨fun a ha=>by (obtain rfl:a=id:=by simpa using ha);simp;omega,fun a ha=>by simp at ha⟩
          have hpc1:=hO'.cells;rw[hpc1];refine⟨⟨by omega,by omega,by omega,by omega,by omega,by omega,by omega⟩,⟨hdj,hdj⟩,⟨rfl,by simp [hO'.one],by rw[List.length_set];simp;omega⟩,by rw[aC];omega,⟨k+1,pv',l++[(u:Int)],rfl,by omega,by rw[aC];omega,⟨⟨by rw[aC];omega,fun id h1 h2=>by rw[af,if_neg h2,keep _ h1];exact hFz.2.1 id h1 h2,?_⟩,?_⟩,hL.add hperm (by omega) (by rw[ha,hau]) (by omega)⟩,by rw[h14];simp only[aa,aU];omega⟩
          ·rw[af,if_pos rfl,hset]
          ·have:=hO'.keep (lo':=Hz.next) (H':=Hj.upd (H.next+2) (.arr 0 83 (setAt ((bI ns).set (v*3+1) pv) (v*3+1) [pv']))) (Nat.le_refl _) (Nat.le_refl _) fun id _ h1 _ _ _=>by rw[af,if_neg (by omega)]
           simpa [ints,aa] using this
         ·simp only[go_sem,r4,r5,r10,r11,r12,r13,r14,hki,ha,hane,hkP,s1,s2,y3,yP,yN,hgc,hr1,hr2,hlen,hau,hr,hl3,vlt,v0];exact⟨hnk,⟨k+1,pv,l,rfl,by omega,hnk,⟨hFz,hOz⟩,hL.skip⟩,by rw[h14];simp only[aa,aU];omega⟩
        ·simp only[go_sem,r5,r10,r11,r13,r14,hki,ha,hane,hkP,s1,s2,yP,hr1,hr2,hau,hr];exact⟨hnk,⟨k+1,pv,l,rfl,by omega,hnk,⟨hFz,hOz⟩,hL.skip⟩,by rw[h14];simp only[aa,aU];omega⟩
       ·simp only[go_sem,r5,r10,r13,r14,hki,ha,hane,hkP,s1,hau];exact⟨hnk,⟨k+1,pv,l,rfl,by omega,hnk,⟨hFz,hOz⟩,hL.skip⟩,by rw[h14];simp only[aa,aU];omega⟩
      ·obtain rfl:k=i:=(by omega);simp only[go_sem,r10,r13,r14,hki,u1];exact⟨by have:=hS.1.1;omega,⟨u+1,pv,l,rfl,by omega,hS,hL.next⟩,by rw[h13];simp only[aa,aU];omega⟩
     ·obtain rfl:u=n:=(by omega);simp only[go_sem,q1,q2,q3,q4,q5,q10,q11,q12,q13,hub];exact⟨pv,l,hS,hL⟩
    ·rintro e s2 ⟨rfl,pv,l,a1,a2,a3,a4,a5,a10,a11,a12,⟨hFz,hOz⟩,hL⟩;have hFz1:=hFz.1;obtain⟨rk,hrk,hfz⟩:∃ rk,Hz.next<=rk/\Fz (fun id=>id=rk) s2.H s2.H.next pv (ab l):=by
      rcases hOz with ⟨hO1,hO2⟩|⟨id,gg,hO1,hO2,hO3,hO4⟩
      ·have:l=[]:=by cases l with
        | nil=>rfl
        | cons b l=>simp [ints]at hO2
       rw[hO1,this];exact⟨s2.H.next,hFz1,.nil⟩
      ·refine⟨id,hO1,?_⟩;rw[hO3,aT];refine .frz rfl hO4 (by rw[Nat.mul_one,aT]) fun j hj h2 h'=>?_;simp only[Nat.zero_add,ints,List.getElem_map];exact .lit _
     have hne2:H.next+2≠rk:=(by omega);refine⟨⟨s2.ρ,s2.H.eb rk (H.next+2) (.arr 0 83 ((bI ns).set (v*3+1) (ab l)))⟩,cK.eb aF hFz.2.2 hne2 (by simp) (zj (Dd ns) hfz),Nat.le_refl _,trivial,?_⟩;obtain⟨Hm,hHm⟩:∃ Hm,Hm=s2.H.eb rk (H.next+2) (.arr 0 83 ((bI ns).set (v*3+1) (ab l))):=⟨_,rfl⟩
     rw[<- hHm];have hFm:kZ Hz Hm (H.next+2) ((bI ns).set (v*3+1) (ab l)):=by
      rw[hHm];exact⟨hFz1,fun id h1 h2=>(kr (by omega) h2).trans (hFz.2.1 id h1 h2),vj hne2⟩
     clear hFz hOz hfz hHm hne2 hrk;simp only[go_sem];refine W.env fun E6 hE6=>?_;have y1:E6 1=.ptr H.next 0 0:=(by rw[hE6];simp only[go_sem,a1]);have y2:E6 2=.ptr (H.next+1) 0 0:=(by rw[hE6];simp only[go_sem,a2]);have y3:E6 3=aa n:=(by rw[hE6];simp only[go_sem,a3]);have y4:E6 4=.ptr (H.next+3) 0 0:=(by rw[hE6];simp only[go_sem,a4]);have y5:E6 5=ab P:=(by rw[hE6];simp only[go_sem,a5]);have y10:E6 10=aa i:=(by rw[hE6];simp only[go_sem,a10]);have y11:E6 11=.ptr Hy.next 0 0:=(by rw[hE6];simp only[go_sem,a11]);have y12:E6 12=aa v:=(by rw[hE6];simp only[go_sem,a12]);have y15:E6 15=aa 0:=(by rw[hE6];simp only[go_sem]);clear hE6 a1 a2 a3 a4 a5 a10 a11 a12;have lsm:da (aL cs l):=lj (by rw[fU];have:=hL.p3;omega) fun c hc=>by
      unfold aL at hc;obtain⟨q,hq,rfl⟩:=List.mem_map.1 hc;have hqr:=hL.rng q hq;obtain⟨c,hc⟩:=ay (l:=cs) (i:=q.toNat) (by rw[csl];rcases hqr.2 with h|⟨_,k',h,_⟩<;>omega);rw[bU hc];have:=hc23 c (List.mem_of_getElem? hc);omega
     have lpos:0<au (aL cs l)/\au (aL cs l)<=27:=by
      have c3:∀ c∈aL cs l,1<=c/\c<=3:=fun c hc=>by
       unfold aL at hc;obtain⟨q,hq,rfl⟩:=List.mem_map.1 hc;have hqr:=hL.rng q hq;obtain⟨c,hc⟩:=ay (l:=cs) (i:=q.toNat) (by rw[csl];rcases hqr.2 with h|⟨_,k',h,_⟩<;>omega);rw[bU hc];have:=hc23 c (List.mem_of_getElem? hc);omega
      have h1:=fg fun c hc=>(c3 c hc).1;have h2:=(q6 (b:=3) (by omega) fun c hc=>⟨by have:=(c3 c hc).1;omega,(c3 c hc).2⟩).2;have h3:(3:Int) ^ (aL cs l).length<=3 ^ 3:=by
       have:(3:Nat) ^ (aL cs l).length<=3 ^ 3:=Nat.pow_le_pow_right (by decide) (by rw[fU];exact hL.p3)
       exact_mod_cast this
      omega
     obtain⟨R,hR⟩:=Int.eq_ofNat_of_zero_le (show 0<=au (aL cs l) by omega);have hxc:2<=x.card/\x.card<=3:=hc23 x.card (by rw[<- L.cards];exact List.mem_of_getElem? (cV hx));have hFm1:=hFm.1;have w3:Hm.get (H.next+3)=some (.arr 0 64 [.lit (.int .i64 g),.own (H.next+2) 0 0 n 3]):=(hFm.2.1 _ (by omega) (by omega)).trans z3;have wP:Hm.get Hy.next=some (.arr 0 142 [.lit (.int .u8 pc),.lit (.int .u8 par),wv]):=(hFm.2.1 _ (by omega) (by omega)).trans zP;obtain⟨C1,hC1⟩:∃ C1,C1=(bI ns).set (v*3+1) (ab l):=⟨_,rfl⟩
     have c1l:C1.length=ns.length*3:=(by rw[hC1,List.length_set,hzl]);have hcx2:C1[v*3+2]?=some (.lit (.slice none 0 0)):=by
      have:=gO (f:=NodeP.cD) (z:=3) jD ns v 2 x hx (by omega);rw[hC1,List.getElem?_set_ne (by omega),show (bI ns)[v*3+2]?=_ from this];unfold NodeP.cD;rw[if_pos xr];rfl
     have hcx0:C1[v*3]?=some (aa x.card):=(by rw[hC1,List.getElem?_set_ne (by omega)];exact Db hx);rw[<- hC1]at hFm;have hset2:∀ rv rv',setAt (C1.set (v*3+2) rv) (v*3+2) [rv']=C1.set (v*3+2) rv':=fun rv rv'=>by rw[dW (by rw[List.length_set];omega),List.set_set]
     have hgc2:∀ rv,(C1.set (v*3+2) rv)[v*3+2]?=some rv:=fun rv=>List.getElem?_set_self (by omega);have hgc0:∀ rv,(C1.set (v*3+2) rv)[v*3]?=some (aa x.card):=fun rv=>by rw[List.getElem?_set_ne (by omega)];exact hcx0
     refine W.kv (Q':=fun e s2=>e=.exit 8/\∃ (rv:AVal) (rows:List (List Int)),s2.ρ 1=.ptr H.next 0 0/\s2.ρ 2=.ptr (H.next+1) 0 0/\s2.ρ 3=aa n/\s2.ρ 4=.ptr (H.next+3) 0 0/\s2.ρ 5=ab P/\s2.ρ 10=aa i/\rows.length=R/\(∀ r∈rows,jd g x.card r)/\kZ Hm s2.H (H.next+2) (C1.set (v*3+2) rv)/\aB Hm.next s2.H 59 rv (rows.map ab)) ?_ ?_
     ·refine W.aK 98079714615372285444537148491336716315054007096738611200 (by rfl) (fun ρ Hr=>∃ (r:Nat) (rv:AVal) (rows:List (List Int)),ρ 15=aa r/\r<=R/\rows.length=r/\(∀ r∈rows,jd g x.card r)/\kZ Hm Hr (H.next+2) (C1.set (v*3+2) rv)/\aB Hm.next Hr 59 rv (rows.map ab)) (fun ρ H=>R - (iv (ρ 15)).toNat) ?_ ?_
      ·simp only[go_sem,y15];refine⟨0,.lit (.slice none 0 0),[],rfl,by omega,rfl,by simp,⟨Nat.le_refl _,fun _ _ _=>rfl,?_⟩,.nil⟩;rw[hFm.2.2,jF hcx2]
      rintro ρr Hr ⟨r,rv,rows,h15,hr,hrl,hrows,hFr,hOr⟩;refine W.env fun E7 hE7=>?_;have b1:E7 1=.ptr H.next 0 0:=(by rw[hE7];simp only[go_sem,y1]);have b2:E7 2=.ptr (H.next+1) 0 0:=(by rw[hE7];simp only[go_sem,y2]);have b3:E7 3=aa n:=(by rw[hE7];simp only[go_sem,y3]);have b4:E7 4=.ptr (H.next+3) 0 0:=(by rw[hE7];simp only[go_sem,y4]);have b5:E7 5=ab P:=(by rw[hE7];simp only[go_sem,y5]);have b10:E7 10=aa i:=(by rw[hE7];simp only[go_sem,y10]);have b11:E7 11=.ptr Hy.next 0 0:=(by rw[hE7];simp only[go_sem,y11]);have b12:E7 12=aa v:=(by rw[hE7];simp only[go_sem,y12]);have b15:E7 15=aa r:=(by rw[hE7];simp only[go_sem,h15]);clear hE7;refine ag _ _ _ (by rfl) ?_;have hFr1:=hFr.1;have v3:=ah ((hFr.2.1 (H.next+3) (by omega) (by omega)).trans w3);have vP:=ah ((hFr.2.1 Hy.next (by omega) (by omega)).trans wP);have vN:=ah hFr.2.2;have hzp:∀ z∈ns,z.rows=[]->z.parents=[]:=fun z hz hz0=>by
       obtain⟨u,hu⟩:=List.mem_iff_getElem?.1 hz;have hm:=uK ord n u (by have:=aG hu;omega);rw[<- hP]at hm;obtain⟨j,hj⟩:=List.mem_iff_getElem?.1 hm;rcases Nat.lt_or_ge j i with h|h
       ·exact absurd hz0 (L.done j u z h hj hu).ne
       ·exact(L.todo j u z h hj hu).2
      have hcard:aq (ns.set v ⟨x.card,l,rows⟩)=cs:=by
       have h1:aq (ns.set v ⟨x.card,l,rows⟩)=(aq ns).set v x.card:=(by unfold aq;rw[List.map_set]);rw[h1,jF (cV hx),L.cards]
      have hpar:aQ (ns.set v ⟨x.card,l,rows⟩) ⟨x.card,l,rows⟩=aL cs l:=(by unfold aQ;rw[hcard]);have fzN:Fz (fun _=>True) Hr 0 (.agg [aa g,.own (H.next+2) 0 0 n 3]) (bj g (ns.set v ⟨x.card,l,rows⟩)):=by
       refine .agg rfl fun i hi _=>?_
       match i,hi with
       | 0,_=>exact .lit _
       | 1,_ =>
        show Fz _ _ _ _ (.vec (ns.set v ⟨x.card,l,rows⟩).length (aD (ns.set v ⟨x.card,l,rows⟩)));rw[List.length_set,hnl,Qa (y:=⟨x.card,l,rows⟩) hx rfl];refine .frz trivial hFr.2.2 (by rw[List.length_set,List.length_set,gv];omega) fun j hj h2 h'=>?_;simp only[Nat.zero_add];refine Dc (A:=C1) (B:=(aD ns).set (v*3+1) (ab l)) ?_ ?_ j _ _
        ·rw[hC1];exact Dc (P9 ns hzp) (.cB _)
        ·have:=hOr.fz (S:=fun _=>True) (nx:=0) (cs':=rows.map ab) (fun _ _=>trivial) rfl fun i hi _=>by simp only[List.getElem_map];exact .cB _
         rw[List.length_map]at this;exact this
      simp only[go_sem,b4,b12,b15,v3];refine aA.clo ((ae.frame (H:=Hr) (args:=[.agg [aa g,.own (H.next+2) 0 0 n 3],aa v]) (args':=[bj g (ns.set v ⟨x.card,l,rows⟩),aa v]) (v':=ab (aL cs l)) aF rfl (fun i hi _=>?_) (Qc g (ns.set v ⟨x.card,l,rows⟩) v ⟨x.card,l,rows⟩ (List.getElem?_set_self hvn) (by rw[List.length_set];omega) (by show (l.length:Int)<_;have:=hL.p3;omega) (fun q hq=>by
        have hqr:=hL.rng q hq;rw[List.length_set];rcases hqr.2 with h|⟨_,k',h,_⟩<;>omega) bX _ fun w Hq _ ho=>⟨_,rfl,by rw[hpar]at ho;exact ho.nD⟩)).mono fun r1 H1' hr1=>?_)
      ·match i,hi with
       | 0,_=>exact fzN
       | 1,_=>exact .lit _
      obtain⟨rfl,rfl⟩:=hr1;refine⟨trivial,?_⟩;simp only[go_sem];refine aA.clo (uZ (aL cs l) lsm _ _ ⟨trivial,?_⟩);rw[hR];by_cases hrR:(r:Int)<R
      ·simp only[go_sem,hrR];obtain⟨xn,hxn⟩:=Int.eq_ofNat_of_zero_le (show 0<=x.card by omega);have rc:0<=(r:Int)*(x.card+1)/\(r:Int)*(x.card+1)<=27*4:=⟨Int.mul_nonneg (by omega) (by omega),Int.mul_le_mul (by omega) (by omega) (by omega) (by omega)⟩
       have c1:=IntWalk.i64_in (x.card+1) (by omega);have c2:=IntWalk.i64_in ((r:Int)*(x.card+1)) (by omega);have c3:=IntWalk.i64_in ((r:Int)+1) (by omega);have hg2:=hgc2 rv;have hg0':=hgc0 rv;have hg2n:=aR hg2;obtain⟨row,hrow⟩:∃ row,row=ph g xn bs ((r:Int)*(x.card+1)):=⟨_,rfl⟩
       have hrok:jd g x.card row:=(by rw[hrow,hxn];exact PC hg1.1 (by omega) _ _);have hpc84:∀ Hq,bD Try.prog G0 (.clo 84 [] []) [aa g,aa x.card,wv,aa ((r:Int)*(x.card+1))] Hq (ab row) []:=fun Hq=>by
        refine bD.mk (fun i hi=>by cases hi) fun H2 _ _=>?_;refine ae.frame (H:=H2) (args:=[aa g,aa x.card,wv,aa ((r:Int)*(x.card+1))]) (args':=[aa g,aa xn,.vec bs.length (bC bs),aa ((r:Int)*(x.card+1))]) (v':=ab row) aF rfl (fun i hi _=>?_) (PD g xn hg1 (by omega) bs hbl hbs _ (by omega) bX _ fun w Hw _ ho=>⟨_,rfl,by rw[hrow];exact ho.nD⟩)
        match i,hi with
        | 0,_=>exact .lit _
        | 1,_=>rw[hxn];exact .lit _
        | 2,_=>exact hwf _
        | 3,_=>exact .lit _
       obtain⟨rv',Hj,hA,hO',hn',hpr'⟩:=gf (P:=Try.prog) (H:=H1') (t:=48) (x:=ab row) (n:=H1'.next+1) Try.underlying48 Try.jY Try.kQ rfl (by rw[Try.kP,List.length_map];omega) hOr hFr1 rfl;have keep:∀ id,id<Hm.next->Hj.get id=H1'.get id:=fun id h=>hpr' id (by omega) (hOr.ne h);have v3j:=ah ((keep _ (by omega)).trans ((hFr.2.1 (H.next+3) (by omega) (by omega)).trans w3));have vNj:=ah ((keep _ (by omega)).trans hFr.2.2);have hA':bq Try.prog (ext H1' [.arr 0 59 [.vec row.length (ints row)]]) (H1'.next+1) 48 48 rv (.own H1'.next 0 0 1 1)=some (rv',Hj):=hA;refine W.draw 31 [0,1,0,0,8,0,56,120,248,0,512,0,2048,0,14336,30720,63488,0,131072,0,0,1048576,0,7340032,15728640,32505856,66060288,133693440,268434944,536870400,1073741816] Try.mixed (by kernel_rfl) (by kernel_rfl) ?_;simp only[go_sem,b4,b11,b12,b15,v3,vP,vN,hg2,hg0',vlt,v0,c1,c2];refine⟨ab row,[],hpc84 _,?_⟩;simp only[go_sem,b4,b11,b12,b15,vNj,vlt,v0,c3,hA'];have hdj:lJ (if jM rv=true then { eff:=aM rv,rs:=aM rv++[H1'.next] } else { eff:=[H1'.next+1],rs:=[H1'.next] }) { eff:=[],rs:=[H.next+3] }:=by
        rcases hOr with ⟨hO1,_⟩|⟨id,gg,hO1,hO2,hO3,_⟩
        ·rw[hO1];show lJ { eff:=[H1'.next+1],rs:=[H1'.next] } _;exact⟨fun a ha=>by (obtain rfl:a=H1'.next+1:=by simpa using ha);simp;omega,fun a ha=>by simp at ha⟩
        ·rw[hO3];show lJ { eff:=[id],rs:=[id]++[H1'.next] } _;exact⟨fun a ha=>by (obtain rfl:a=id:=by simpa using ha);simp;omega,fun a ha=>by simp at ha⟩
       rw[hO'.cells];refine⟨⟨by omega,by omega,by omega,by omega,by omega,by omega,by omega⟩,⟨hdj,hdj⟩,⟨rfl,by simp [hO'.one],by rw[List.length_set,c1l];simp;omega⟩,by rw[aC];omega,⟨r+1,rv',rows++[row],rfl,by omega,by simp [hrl],fun q hq=>?_,⟨by rw[aC];omega,fun id h1 h2=>by rw[af,if_neg h2,keep _ h1];exact hFr.2.1 id h1 h2,?_⟩,?_⟩,by rw[h15];simp only[aa,aU];omega⟩
       ·rcases List.mem_append.1 hq with h|h
        ·exact hrows q h
        ·obtain rfl:=List.mem_singleton.1 h;exact hrok
       ·rw[af,if_pos rfl,hset2]
       ·have:=hO'.keep (lo':=Hm.next) (H':=Hj.upd (H.next+2) (.arr 0 83 (setAt (C1.set (v*3+2) rv) (v*3+2) [rv']))) (Nat.le_refl _) (Nat.le_refl _) fun id _ h1 _ _ _=>by rw[af,if_neg (by omega)]
        simpa using this
      ·simp only[go_sem,b1,b2,b3,b4,b5,b10,hrR];exact⟨rv,rows,by omega,hrows,hFr,hOr⟩
     ·rintro e s3 ⟨rfl,rv,rows,a1,a2,a3,a4,a5,a10,hrl,hrows,hFr,hOr⟩;have hFr1:=hFr.1;obtain⟨rk,hrk,hfz⟩:∃ rk,Hm.next<=rk/\Fz (fun id=>id=rk) s3.H s3.H.next rv (ao rows):=by
       rcases hOr with ⟨hO1,hO2⟩|⟨id,gg,hO1,hO2,hO3,hO4⟩
       ·have:rows=[]:=by cases rows with
         | nil=>rfl
         | cons b l=>simp at hO2
        rw[hO1,this];exact⟨s3.H.next,hFr1,.nil⟩
       ·refine⟨id,hO1,?_⟩;rw[hO3,List.length_map];refine .frz rfl hO4 (by rw[Nat.mul_one,List.length_map]) fun j hj h2 h'=>?_;simp only[Nat.zero_add,List.getElem_map];exact .cB _
      have hne2:H.next+2≠rk:=(by omega);have hC1z:∀ c∈C1,Fz (fun id=>id=rk) s3.H s3.H.next c c:=fun c hc=>by
       rw[hC1]at hc;rcases List.mem_or_eq_of_mem_set hc with h|h
       ·exact Dd ns c h
       ·rw[h];exact .cB _
      refine⟨⟨s3.ρ,s3.H.eb rk (H.next+2) (.arr 0 83 (C1.set (v*3+2) (ao rows)))⟩,cK.eb aF hFr.2.2 hne2 (by simp) (zj hC1z hfz),Nat.le_refl _,trivial,?_⟩;obtain⟨He,hHe⟩:∃ He,He=s3.H.eb rk (H.next+2) (.arr 0 83 (C1.set (v*3+2) (ao rows))):=⟨_,rfl⟩
      rw[<- hHe];have hFe:kZ Hm He (H.next+2) (C1.set (v*3+2) (ao rows)):=by
       rw[hHe];exact⟨hFr1,fun id h1 h2=>(kr (by omega) h2).trans (hFr.2.1 id h1 h2),vj hne2⟩
      clear hFr hOr hfz hHe hne2 hrk;have hFe1:=hFe.1;have i1:=IntWalk.i64_in ((i:Int)+1) (by omega);simp only[go_sem,a10,i1];have hiv:∀ j u:Nat,P[j]?=some (u:Int)->u=v->j=i:=fun j u h1 h2=>by
       subst h2;exact(List.getElem?_inj (aG h1) hperm.nd).1 (by rw[h1,hpv])
      have hrne:rows≠[]:=fun h=>by rw[h]at hrl;simp at hrl;omega
      have hdone:DoneN g cs P n i ⟨x.card,l,rows⟩:=⟨⟨hL.pw,fun q hq=>⟨(hL.rng q hq).1,by rcases(hL.rng q hq).2 with h|⟨_,k',h,_⟩<;>omega⟩⟩,hL.p3,hL.rk,by show (rows.length:Int)=_;rw[hrl,hR],hrows,hrne⟩
      refine⟨by omega,⟨i+1,ns.set v ⟨x.card,l,rows⟩,rfl,by omega,⟨by rw[List.length_set];exact hnl,?_,fun j u z hj hu hz=>?_,fun j u z hj hu hz=>?_⟩,by omega,by omega,fun id h1 h2=>?_,?_⟩,by rw[h10];simp only[aa,aU];omega⟩
      ·have h1:aq (ns.set v ⟨x.card,l,rows⟩)=(aq ns).set v x.card:=(by unfold aq;rw[List.map_set]);rw[h1,jF (cV hx),L.cards]
      ·have huv:¬ u=v:=fun h=>by have:=hiv j u hu h;omega
       rw[List.getElem?_set_ne (by omega)]at hz;exact L.todo j u z (by omega) hu hz
      ·by_cases huv:u=v
       ·obtain rfl:=hiv j u hu huv;rw[huv,List.getElem?_set_self hvn]at hz;cases hz;exact hdone
       ·rw[List.getElem?_set_ne (by omega)]at hz;have:j≠i:=fun h=>by
         rw[h,hpv]at hu;exact huv (by have:=Option.some.inj hu;omega)
        exact L.done j u z (by omega) hu hz
      ·rw[hFe.2.1 id (by omega) h2,hFm.2.1 id (by omega) h2];exact zO id h1 h2
      ·rw[hFe.2.2,Qe (y:=⟨x.card,l,rows⟩) hx rfl hrne,hC1]
  ·obtain rfl:i=n:=(by omega);simp only[go_sem,e2,e3,e4,e10,hb,m1,m3];have hnl:=L.len;have hall:∀ v:Nat,v<ns.length->(v:Int)∈P:=fun v hv=>by rw[hP];exact uK ord i v (by omega)
   have hdn:∀ (v:Nat) (x:NodeP),ns[v]?=some x->∃ j,DoneN g cs P i j x:=fun v x hx=>by
    obtain⟨j,hj⟩:=List.mem_iff_getElem?.1 (hall v (aG hx));exact⟨j,L.done j v x (by have:=aG hj;have:=hperm.len;omega) hj hx⟩
   have hdm:∀ x∈ns,∃ j,DoneN g cs P i j x:=fun x hx=>by
    obtain⟨v,hv⟩:=List.mem_iff_getElem?.1 hx;exact hdn v x hv
   have ov:Over H (Hy.upd (H.next+1) (.arr 0 64 [.lit (.int .i64 g),.own (H.next+2) 0 0 i 3])):=⟨by rw[aC];omega,fun id h=>by rw[af,if_neg (by omega),hF.2.1 id (by omega) (by omega)];exact o1.old id h⟩
   have hz:bI ns=aD ns:=P0 fun x hx=>(hdm x hx).elim fun j hj=>hj.ne;have hcl8:∀ x∈ns,2<=x.card/\x.card<=3:=fun x hx=>hc23 x.card (by rw[<- L.cards];exact List.mem_map.2 ⟨x,hx,rfl⟩);have hnet:NetOk g ns:=by
    refine⟨hg1,by omega,fun x hx=>?_,?_,De (P:=P) (by rw[hnl];exact hperm) hall fun j v x hj hx q hq=>?_,fun x hx=>?_⟩
    ·obtain⟨j,hj⟩:=hdm x hx;have:=hcl8 x hx;exact⟨by omega,by rw[hnl];exact hj.pl⟩
    ·have h2:=(q6 (b:=3) (by omega) (l:=aq ns) fun c hc=>by have:=hc23 c (by rw[<- L.cards];exact hc);omega).2;have h3:(3:Int) ^ (aq ns).length<=3 ^ 5:=by
      have:(3:Nat) ^ (aq ns).length<=3 ^ 5:=Nat.pow_le_pow_right (by decide) (by rw[cP];omega)
      exact_mod_cast this
     omega
    ·have hd:=L.done j v x (by have:=aG hj;have:=hperm.len;omega) hj hx;exact⟨(hd.pl.2 q hq).1,hd.rk q hq⟩
    ·obtain⟨j,hj⟩:=hdm x hx;unfold fE aQ;rw[L.cards];exact⟨hj.rl,hj.ro⟩
   rw[<- hnl];rw[<- hnl]at ov;refine aw.mk ov.next (hK g ns (H.next+2) _ ov (by omega) (by rw[aC];omega) ?_ hnet (by omega) fun x hx=>?_)
   ·rw[af,if_neg (by omega),hF.2.2,hz]
   ·obtain⟨j,hj⟩:=hdm x hx;exact hj.p3
end Go.Proofs
namespace Go.Proofs
open Go.Hx
theorem uL (s v:Nat)(hs:s<2 ^ 64)(H:AHeap)(K:ARes->AHeap->Prop)(hK:K (.ret (.lit (.bool (s.testBit v)))) H):ae Try.prog G0 53 [bx s,aa v] H K:=by
 refine ae.aS (n:=10) (rs:=[.tmp 4]) Try.func53 rfl rfl rfl (by decide) (by kernel_rfl) (by simp) ?_;have s1:=fun t x y=>pG (P:=Try.prog) (t:=t) (x:=x) (y:=y) (k':=.i64) (s:=v) hs;have s2:=fun t x y=>vf (P:=Try.prog) (t:=t) (x:=x) (y:=y) (s:=v) hs;cases hb:s.testBit v
 ·rw[hb]at hK;simp only[go_sem,s1,s2,hb];exact aw.mk (Nat.le_refl _) hK
 ·rw[hb]at hK;simp only[go_sem,s1,s2,hb];exact aw.mk (Nat.le_refl _) hK
def dO (s n:Nat):List Int:=((List.range n).filter fun v=>s.testBit v).map fun (v:Nat)=>(v:Int)
theorem Qg (s n:Nat):dO s (n+1)=if s.testBit n=true then dO s n++[(n:Int)] else dO s n:=by
 unfold dO;rw[List.range_succ,List.filter_append,List.map_append];by_cases h:s.testBit n=true
 ·rw[if_pos h];simp [h]
 ·rw[if_neg h];simp [h]
theorem po {s n:Nat}{q:Int}:q∈dO s n↔∃ v:Nat,q=v/\v<n/\s.testBit v=true:=by
 unfold dO;simp only[List.mem_map,List.mem_filter,List.mem_range];exact⟨fun ⟨v,⟨h1,h2⟩,h3⟩=>⟨v,h3.symm,h1,h2⟩,fun ⟨v,h1,h2,h3⟩=>⟨v,⟨h2,h3⟩,h1.symm⟩⟩
theorem Qh (s n:Nat):(dO s n).Pairwise (·<·):=by
 unfold dO;refine List.Pairwise.map _ (R:=(·<·)) (fun a b h=>by omega) ?_;exact List.Pairwise.filter _ List.pairwise_lt_range
theorem Df (s n:Nat):(dO s n).length<=n:=by
 unfold dO;rw[List.length_map];exact Nat.le_trans (List.length_filter_le _ _) (by simp)
theorem Dh (s:Nat)(hs:s<2 ^ 64)(H:AHeap)(K:ARes->AHeap->Prop)(hK:K (.ret (ab (dO s 8))) H):ae Try.prog G0 43 [bx s] H K:=by
 refine ae.clo ⟨_,Try.func43,rfl,rfl⟩ fun hcl=>?_;refine ae.aS (n:=17) (rs:=[.tmp 2]) Try.func43 rfl rfl rfl (by decide) (by kernel_rfl) (by simp) ?_;simp only[go_sem];refine W.aK 65528 (by rfl) (fun ρ H'=>∃ k:Nat,ρ 4=aa k/\k<=8/\Over H H'/\aB H.next H' 3 (ρ 3) (ints (dO s k))) (fun ρ H=>8 - (iv (ρ 4)).toNat) ?_ ?_
 ·simp only[go_sem];exact⟨0,rfl,by omega,.refl _,.nil⟩
 rintro ρ H' ⟨k,h4,hk,ov,h3⟩;refine W.env fun E hE=>?_;have e0:E 0=bx s:=by rw[hE];simp only[go_sem]
 have e3:E 3=ρ 3:=by rw[hE];simp only[go_sem]
 have e4:E 4=aa k:=by rw[hE];simp only[go_sem,h4]
 clear hE;refine ag _ _ _ (by rfl) ?_;by_cases hb:(k:Int)<8
 ·have w1:=IntWalk.i64_in ((k:Int)+1) (by omega);have hbl:=Df s k;have hsu:=Qg s k;simp only[go_sem,e0,e4,hb];refine aA.clo (uL s k hs _ _ ⟨trivial,?_⟩);by_cases hbit:s.testBit k=true
  ·obtain⟨v',H2,hA,ov2,hO,hn2,_⟩:=iM (k:Int) ov h3 (by omega);rw[if_pos hbit]at hsu;simp only[go_sem,e3,e4,hbit,w1,hA];exact⟨by have:=ov2.next;omega,⟨k+1,rfl,by omega,ov2,by rw[hsu];exact hO⟩,by rw[h4];simp only[aa,aU];omega⟩
  ·rw[if_neg hbit]at hsu;have hbf:s.testBit k=false:=(by simpa using hbit);simp only[go_sem,e3,e4,hbf,w1];exact⟨ov.next,⟨k+1,rfl,by omega,ov,by rw[hsu];exact h3⟩,by rw[h4];simp only[aa,aU];omega⟩
 ·obtain rfl:k=8:=by omega
  simp only[go_sem,e3,e4];exact aw.bk aF hcl ov (h3.dw fun i hi=>hi) hK
end Go.Proofs
namespace Go.Proofs
open Go.Hx
def Di:AVal->Nat
 | .own _ _ _ n _=>n
 | _=>0
theorem Dj {lo:Nat}{H:AHeap}{e:TypeId}{v:AVal}{cs:List AVal}(h:aB lo H e v cs):Di v=cs.length:=by
 rcases h with ⟨rfl,rfl⟩|⟨_,_,_,_,rfl,_⟩<;>rfl
end Go.Proofs
namespace Go.Proofs
open Go.Hx
def uM (d:InfP):List AVal:=[.lit (.int .i64 d.grain),.vec d.nodes.length (aV d.nodes),.lit (.int .u64 (d.decs:Int)),.vec d.utils.length (aO d.utils)]
def rz (d:InfP):AVal:=.agg (uM d)
def il (d:InfP)(cs:List AVal):List AVal:=[.lit (.int .i64 d.grain),.vec d.nodes.length cs,.lit (.int .u64 (d.decs:Int)),.vec d.utils.length (aO d.utils)]
def fC (d:InfP)(cs:List AVal):AVal:=.agg (il d cs)
theorem jb (d:InfP)(cs:List AVal):fC d cs=.agg (il d cs):=rfl
theorem Dk (d:InfP):rz d=.agg (uM d):=rfl
theorem Dl (d:InfP)(cs:List AVal)(hd:d.decs<2 ^ 64)(hl:(d.nodes.length:Int)<2 ^ 39)(H:AHeap)(K:ARes->AHeap->Prop)(hK:K (.ret (ab (bf (ba d)))) H):ae Try.prog G0 68 [fC d cs] H K:=by
 refine ae.clo ⟨_,Try.func68,rfl,rfl⟩ fun hcl=>?_;refine ae.aS (n:=21) (rs:=[.tmp 2]) Try.func68 rfl rfl rfl (by decide) (by kernel_rfl) (by simp) ?_;simp only[go_sem,jb,il];obtain⟨H1,hH1⟩:∃ H1,H1=ext H [.arr 0 39 [.lit (.int .i64 d.grain),.vec d.nodes.length cs,.lit (.int .u64 (d.decs:Int)),.vec d.utils.length (aO d.utils)]]:=⟨_,rfl⟩
 have l1:=ah (show H1.get H.next=some (.arr 0 39 [.lit (.int .i64 d.grain),.vec d.nodes.length cs,.lit (.int .u64 (d.decs:Int)),.vec d.utils.length (aO d.utils)]) by rw[hH1];exact br ..);have n1:H1.next=H.next+1:=by rw[hH1];rfl
 have o1:Over H H1:=by rw[hH1];exact .ext _ _
 rw[<- hH1];refine W.aK 1048568 (by rfl) (fun ρ H'=>∃ k:Nat,ρ 4=aa k/\k<=d.nodes.length/\Over H1 H'/\aB H1.next H' 3 (ρ 3) (ints (bf (dB d.decs k)))) (fun ρ H=>d.nodes.length - (iv (ρ 4)).toNat) ?_ ?_
 ·simp only[go_sem];exact⟨0,rfl,by omega,.refl _,.nil⟩
 rintro ρ H' ⟨k,h4,hk,ov,h3⟩;refine W.env fun E hE=>?_;have e1:E 1=.ptr H.next 0 0:=by rw[hE];simp only[go_sem]
 have e3:E 3=ρ 3:=by rw[hE];simp only[go_sem]
 have e4:E 4=aa k:=by rw[hE];simp only[go_sem,h4]
 clear hE;refine ag _ _ _ (by rfl) ?_;have l2:=(ov.live (g:=0) (by omega:H.next<H1.next)).trans l1;by_cases hb:(k:Int)<d.nodes.length
 ·have w1:=IntWalk.i64_in ((k:Int)+1) (by omega);have hbl:(bf (dB d.decs k)).length<=k:=by simp only[bf,List.length_map];exact kV
  have hsu:=uy d.decs k;simp only[go_sem,e1,e4,l2,hb];refine aA.clo (uL d.decs k hd _ _ ⟨trivial,?_⟩);by_cases hbit:d.decs.testBit k=true
  ·obtain⟨v',H2,hA,ov2,hO,hn2,_⟩:=iM (k:Int) ov h3 (by omega);rw[if_pos hbit]at hsu;simp only[go_sem,e3,e4,hbit,w1,hA];exact⟨ov2.next,⟨k+1,rfl,by omega,ov2,by rw[hsu,show bf (dB d.decs k++[k])=bf (dB d.decs k)++[(k:Int)] by simp [bf]];exact hO⟩,by rw[h4];simp only[aa,aU];omega⟩
  ·rw[if_neg hbit]at hsu;have hbf:d.decs.testBit k=false:=(by simpa using hbit);simp only[go_sem,e3,e4,hbf,w1];exact⟨ov.next,⟨k+1,rfl,by omega,ov,by rw[hsu];exact h3⟩,by rw[h4];simp only[aa,aU];omega⟩
 ·have hke:k=d.nodes.length:=by omega
  rw[hke]at h3;simp only[go_sem,e1,e3,e4,l2,hb];exact aw.bk aF hcl (o1.trans ov) (h3.dw fun i hi=>by omega) hK
end Go.Proofs
namespace Go.Proofs
open Go.Hx
set_option maxHeartbeats 1000000 in
theorem Qk (g:Int)(ns:List NodeP)(hl:(ns.length:Int)<2 ^ 39)(hp:∀ x∈ns,(x.parents.length:Int)<2 ^ 39/\∀ q∈x.parents,0<=q/\q<64)(H:AHeap)(K:ARes->AHeap->Prop)
  (hK:∀ v H',Over H H'->aB H.next H' 36 v ((aZ ns).map bx)->K (.ret v) H'):ae Try.prog G0 42 [bj g ns] H K:=by
 refine ae.clo ⟨_,Try.func42,rfl,rfl⟩ fun hcl=>?_;refine ae.aS (n:=43) (rs:=[.tmp 2]) Try.func42 rfl rfl rfl (by decide) (by kernel_rfl) (by simp) ?_;simp only[go_sem,bj,bO];obtain⟨H1,hH1⟩:∃ H1,H1=ext H [.arr 0 64 [.lit (.int .i64 g),.vec ns.length (aD ns)]]:=⟨_,rfl⟩
 have l1:H1.live H.next 0=some (64,[.lit (.int .i64 g),.vec ns.length (aD ns)]):=by rw[hH1];exact ah (br ..)
 have n1:H1.next=H.next+1:=by rw[hH1];rfl
 have o1:Over H H1:=by rw[hH1];exact .ext _ _
 rw[<- hH1];refine W.aK 4398046511096 (by rfl) (fun ρ H'=>∃ k:Nat,ρ 4=aa k/\k<=ns.length/\ρ 1=.ptr H.next 0 0/\Over H1 H'/\aB H1.next H' 36 (ρ 3) (((aZ ns).take k).map bx)) (fun ρ H=>ns.length - (iv (ρ 4)).toNat) ?_ ?_
 ·simp only[go_sem];exact⟨0,rfl,by omega,.refl _,.nil⟩
 rintro ρ H' ⟨k,h4,hk,h1,ov,h3⟩;refine ag _ _ _ (by rfl) ?_;have l2:=(ov.live (g:=0) (by omega:H.next<H1.next)).trans l1;by_cases hb:(k:Int)<ns.length
 ·obtain⟨x,hx⟩:=ay (l:=ns) (i:=k) (by omega);have hne:=dH hx;have e1:=jx hx;obtain⟨xl,xr⟩:=hp x (List.mem_of_getElem? hx);simp only[go_sem,h4,h1,l2,hb];refine W.aK 274877890656 (by rfl) (fun ρ' H2=>H2=H'/\∃ j:Nat,ρ' 6=aa j/\j<=x.parents.length/\ρ' 5=bx (cC (x.parents.take j))) (fun ρ' H=>x.parents.length - (iv (ρ' 6)).toNat) ?_ ?_
  ·simp only[go_sem];exact⟨0,rfl,by omega,rfl⟩
  rintro ρ' H2 ⟨rfl,j,h6,hj,h5⟩;refine ag _ _ _ (by rfl) ?_;by_cases hb2:(j:Int)<x.parents.length
  ·obtain⟨q,hq⟩:=ay (l:=x.parents) (i:=j) (by omega);obtain⟨q0,q1⟩:=xr q (List.mem_of_getElem? hq);obtain⟨u,rfl⟩:=Int.eq_ofNat_of_zero_le q0;have hne2:=aR hq;have w1:=IntWalk.u64_in (u:Int) (by omega);have w2:=IntWalk.i64_in ((j:Int)+1) (by omega);have b1:cC (x.parents.take j)<2 ^ 64:=q9 fun p hp=>by have:=xr p (List.mem_of_mem_take hp);omega
   have s1:=fun t x y=>nG (P:=Try.prog) (t:=t) (x:=x) (y:=y) (k':=.u64) (s:=u) (by omega);have s2:=fun t x y=>kq (P:=Try.prog) (t:=t) (x:=x) (y:=y) (b:=2 ^ u) b1 (Nat.pow_lt_pow_right (by decide) (by omega));simp only[go_sem,h4,h1,l2,hb,hne,e1,h6,h5,hb2,hq,hne2,w1,w2,s1,s2];exact⟨⟨j+1,by simp,by omega,by rw[aP hq,yh];rfl⟩,by omega⟩
  ·obtain⟨v',H3,hA,ov2,hO,hn2,_⟩:=DZ (cC x.parents) ov h3 (by simp [aZ];omega);have w1:=IntWalk.i64_in ((k:Int)+1) (by omega);rw[List.take_of_length_le (by omega)]at h5;simp only[go_sem,h4,h1,l2,hb,hne,e1,h6,h5,hb2,w1,hA];refine⟨by have:=ov2.next;omega,⟨k+1,by simp,by omega,ov2,?_⟩,by omega⟩;rw[aP (lh hx)];exact hO
 ·simp only[go_sem,h4,h1,l2,hb];rw[List.take_of_length_le (by simp [aZ];omega)]at h3;exact aw.mk (o1.trans ov).next (hK _ _ (o1.trans ov) (h3.keep (by omega) (Nat.le_refl _) fun _ _ _ _ _ _=>rfl))
set_option maxHeartbeats 1000000 in
theorem Ql (ps:List Nat)(hl:ps.length<=60)(hp:∀ p∈ps,p<2 ^ 64)(r:List Nat)(htp:eD ps=some r)(H:AHeap)(K:ARes->AHeap->Prop)(hK:∀ v H',Over H H'->aB H.next H' 3 v (ints (bf r))->K (.ret v) H'):ae Try.prog G0 85 [fV ps] H K:=by
 refine ae.clo ⟨_,Try.func85,rfl,rfl⟩ fun hcl=>?_;refine ae.aS (n:=40) (rs:=[.tmp 2]) Try.func85 rfl rfl rfl (by decide) (by kernel_rfl) (by simp) ?_;simp only[go_sem];refine W.aK 549755813880 (by rfl) (fun ρ H'=>∃ (out:List Nat) (done:Nat),ρ 4=bx done/\done<2 ^ 64/\out.length<=ps.length/\Over H H'/\aB H.next H' 3 (ρ 3) (ints (bf out))/\gC ps (ps.length - out.length) out done=some r) (fun ρ H=>ps.length - Di (ρ 3)) ?_ ?_
 ·simp only[go_sem];exact⟨[],0,rfl,by decide,by simp,.refl _,.nil,htp⟩
 rintro ρ H' ⟨out,done,h4,hd,ho,ov,h3,ht⟩;refine W.env fun E hE=>?_;have e0:E 0=fV ps:=by rw[hE];simp only[go_sem]
 have e3:E 3=ρ 3:=by rw[hE];simp only[go_sem]
 have e4:E 4=bx done:=by rw[hE];simp only[go_sem,h4]
 clear hE;refine ag _ _ _ (by rfl) ?_;have hlen:=uJ h3 (d:=some (.slice 3)) rfl;have hol:=Dj h3;have nl:(bf out).length=out.length:=by simp [bf]
 rw[oA,aT,nl]at hlen;rw[aT,nl]at hol;by_cases hb:(out.length:Int)<ps.length
 ·simp only[go_sem,e0,e3,hlen,hb];have hk1:ps.length - out.length=(ps.length - (out.length+1))+1:=by omega
  refine W.aK 549755811896 (by rfl) (fun ρ2 H2=>H2=H'/\∃ j:Nat,ρ2 5=aa j/\j<=ps.length/\ρ2 3=ρ 3/\ρ2 4=bx done/\∀ v,v<j->iK ps done v=false) (fun ρ2 H=>ps.length - (iv (ρ2 5)).toNat) ?_ ?_
  ·simp only[go_sem,e3,e4];exact⟨0,rfl,by omega,fun v h=>absurd h (Nat.not_lt_zero _)⟩
  rintro ρ2 H2 ⟨rfl,j,h5,hj,h3',h4',hno⟩;refine W.env fun E2 hE2=>?_;have f0:E2 0=fV ps:=by rw[hE2];simp only[go_sem,e0]
  have f3:E2 3=ρ 3:=by rw[hE2];simp only[go_sem,h3']
  have f4:E2 4=bx done:=by rw[hE2];simp only[go_sem,h4']
  have f5:E2 5=aa j:=by rw[hE2];simp only[go_sem,h5]
  clear hE2;refine ag _ _ _ (by rfl) ?_;by_cases hb2:(j:Int)<ps.length
  ·obtain⟨p,hpj⟩:=ay (l:=ps) (i:=j) (by omega);have hpj':(ps.map bx)[j]?=some (bx p):=(by rw[List.getElem?_map,hpj];rfl);have hne:=aR hpj';have s3:=fun t x y=>zd (P:=Try.prog) (t:=t) (x:=x) (y:=y) (a:=p) (b:=done);have w1:=IntWalk.i64_in ((j:Int)+1) (by omega);have w2:=IntWalk.u64_in (j:Int) (by omega);have cont:iK ps done j=false->∀ v,v<j+1->iK ps done v=false:=fun h v hv=>by
    rcases Nat.lt_or_ge v j with h'|h'
    ·exact hno v h'
    ·obtain rfl:v=j:=(by omega);exact h
   have fe:iK ps done j=(!done.testBit j && decide (gF p done=0)):=(by unfold iK;rw[bU hpj]);simp only[go_sem,f0,f4,f5,hb2];refine aA.clo (yW done j hd (by omega) _ _ ⟨trivial,?_⟩);cases hbit:done.testBit j;rotate_left
   ·simp only[go_sem,f3,f4,f5,w1];exact⟨⟨j+1,rfl,by omega,cont (by rw[fe,hbit];rfl)⟩,by rw[h5];simp only[aa,aU];omega⟩
   by_cases hz:gF p done=0;rotate_left
   ·have hz':¬ ((gF p done:Nat):Int)=0:=(by omega);simp only[go_sem,f0,f3,f4,f5,hb2,hpj',hne,s3,hz',w1];exact⟨⟨j+1,rfl,by omega,cont (by rw[fe,hbit];simp [hz])⟩,by rw[h5];simp only[aa,aU];omega⟩
   have hz':((gF p done:Nat):Int)=0:=(by omega);have hnx:jz ps done=some j:=D5 (by omega) hno (by rw[fe,hbit];simp [hz]);obtain⟨v',H3,hA,ov2,hO,hn2,_⟩:=iM (j:Int) ov h3 (by simp [bf];omega);have b2:(2:Nat) ^ j<2 ^ 64:=Nat.pow_lt_pow_right (by decide) (by omega);have s4:=fun t x y=>nG (P:=Try.prog) (t:=t) (x:=x) (y:=y) (k':=.u64) (s:=j) (by omega);have s5:=fun t x y=>kq (P:=Try.prog) (t:=t) (x:=x) (y:=y) hd b2;simp only[go_sem,f0,f3,f4,f5,hb2,hpj',hne,s3,s4,s5,hz',w2,hA];have hO':aB H.next H3 3 v' (ints (bf (out++[j]))):=by
    have e:bf (out++[j])=bf out++[(j:Int)]:=(by simp [bf]);rw[e];exact hO
   have hol':=Dj hO';have nl':(bf (out++[j])).length=out.length+1:=(by simp [bf]);rw[aT,nl']at hol';refine⟨ov2.next,⟨out++[j],done ||| 2 ^ j,rfl,Nat.or_lt_two_pow hd b2,by simp;omega,ov2,hO',?_⟩,by rw[hol,hol'];omega⟩;rw[<- ht,hk1]
   conv=>rhs;unfold gC
   rw[hnx,List.length_append];rfl
  ·have hnn:jz ps done=none:=D6 fun v hv=>hno v (by omega);rw[hk1]at ht;unfold gC at ht;rw[hnn]at ht;cases ht
 ·simp only[go_sem,e0,e3,hlen,hb];have e:ps.length - out.length=0:=by omega
  rw[e]at ht;unfold gC at ht;cases ht;exact aw.mk ov.next (hK _ _ ov h3)
theorem Qm {lo:Nat}{H:AHeap}{e:TypeId}{v:AVal}{l:List Nat}(h:aB lo H e v (l.map bx)):Fresh H v (fV l):=by
 rcases h with ⟨rfl,h⟩|⟨id,g,h1,h2,rfl,h4⟩
 ·have:l=[]:=by cases l with
   | nil=>rfl
   | cons a l=>simp at h
  subst this;exact .nil
 ·have e:fV l=.vec (l.map bx).length (l.map bx):=by rw[List.length_map];rfl
  rw[e];refine .own h4 (by simp) fun j hj h2 h'=>?_;simp only[Nat.zero_add,List.getElem_map];exact .lit _
theorem Qn (g:Int)(ns:List NodeP)(hl:ns.length<=8)(hp:∀ x∈ns,(x.parents.length:Int)<2 ^ 39/\∀ q∈x.parents,0<=q/\q<(ns.length:Int))(r:List Nat)(htp:eD (aZ ns)=some r)(H:AHeap)(K:ARes->AHeap->Prop)
  (hK:∀ v H',Over H H'->aB H.next H' 3 v (ints (bf r))->K (.ret v) H'):ae Try.prog G0 41 [bj g ns] H K:=by
 have hsl:(aZ ns).length=ns.length:=by simp [aZ]
 have hs64:∀ p∈aZ ns,p<2 ^ 64:=fun p h=>Nat.lt_of_lt_of_le (va (n:=ns.length) (fun x hx q hq=>(hp x hx).2 q hq) p h) (Nat.pow_le_pow_right (by decide) (by omega));refine ae.aS (n:=6) (rs:=[.tmp 2]) Try.func41 rfl rfl rfl (by decide) (by kernel_rfl) (by simp) ?_;simp only[go_sem,bj,bO];refine aA.clo (D0 g ns (by omega) (fun x hx=>⟨(hp x hx).1,fun q hq=>by have:=(hp x hx).2 q hq;omega⟩) _ _ ⟨trivial,?_⟩);simp only[go_sem];refine aA.clo (Ql (aZ ns) (by omega) hs64 r htp _ _ fun v H' ov ho=>⟨trivial,?_⟩);simp only[go_sem];have o1:Over H H':=(Over.ext _ _).trans ov;exact aw.mk o1.next (hK _ _ o1 (ho.keep (by simp [bn]) (Nat.le_refl _) fun _ _ _ _ _ _=>rfl))
end Go.Proofs
namespace Go.Proofs
open Go.Hx
structure UtD where
 vars:Int
 w:List Int
def I8 (n:Int):Prop:=-128<=n/\n<128
def mi (l:List Int):List AVal:=l.map fun n=>.lit (.int .i8 n)
theorem Qi {l:List Int}{k:Nat}{a:Int}(h:l[k]?=some a):(mi l)[k]?=some (.lit (.int .i8 a)):=by unfold mi;rw[List.getElem?_map,h];rfl
def UtD.cells (x:UtD):List AVal:=[.lit (.int .u8 x.vars),.vec x.w.length (mi x.w)]
def UtD.Ok (x:UtD):Prop:=U8 x.vars/\(x.w.length:Int)<2 ^ 63/\∀ b∈x.w,I8 b
def uN (p:Int)(k:Nat):Bool:=decide (IntKind.u8.wrap (((BitVec.ofInt IntKind.u8.bits (p.fdiv (2 ^ (min ((k:Int)).toNat IntKind.u8.bits))) &&& BitVec.ofInt IntKind.u8.bits 1).toNat:Nat):Int)=1)
def dq (p:Int):Nat->List Int
 | 0=>[]
 | v+1=>if uN p v=true/\(dq p v).length<3 then dq p v++[(v:Int)] else dq p v
theorem uO (p:Int):∀ n:Nat,(dq p n).Pairwise (·<·)/\(∀ q∈dq p n,0<=q/\q<n)/\(dq p n).length<=3
 | 0=>⟨by simp [dq],by simp [dq],by simp [dq]⟩
 | n+1=>by
  obtain⟨h1,h2,h3⟩:=uO p n;unfold dq;split
  ·rename_i h;refine⟨List.pairwise_append.2 ⟨h1,by simp,fun a ha b hb=>by obtain rfl:=List.mem_singleton.1 hb;exact(h2 a ha).2⟩,fun q hq=>?_,by simp;omega⟩;rcases List.mem_append.1 hq with h4|h4
   ·have:=h2 q h4;omega
   ·obtain rfl:=List.mem_singleton.1 h4;omega
  ·exact⟨h1,fun q hq=>by have:=h2 q hq;omega,h3⟩
def ea (p:UtD)(ns:List NodeP):UtilP:=⟨dq p.vars ns.length,(List.range (au (aL (aq ns) (dq p.vars ns.length))).toNat).map fun (i:Nat)=>if p.w.length=0 then 0 else (p.w.getD (i % p.w.length) 0).tmod 101⟩
theorem Qj (p:UtD)(ns:List NodeP)(hc:∀ x∈ns,1<=x.card):UtilOk ns (ea p ns):=by
 obtain⟨h1,h2,h3⟩:=uO p.vars ns.length;refine⟨⟨h1,h2⟩,?_,fun x hx=>?_⟩
 ·have hp:1<=au (aL (aq ns) (dq p.vars ns.length)):=fg fun c h=>by
   unfold aL at h;obtain⟨q,hq,rfl⟩:=List.mem_map.1 h;have:=h2 q hq;obtain⟨x,hx⟩:=ay (l:=ns) (i:=q.toNat) (by omega);rw[bU (cV hx)];exact hc x (List.mem_of_getElem? hx)
  show ((List.map _ _).length:Int)=au (aL (aq ns) (dq p.vars ns.length));rw[List.length_map,List.length_range];omega
 ·unfold ea at hx;obtain⟨i,_,rfl⟩:=List.mem_map.1 hx;split
  ·omega
  ·have h:=Int.natAbs_tmod (p.w.getD (i % p.w.length) 0) 101;have h2:=Nat.mod_lt (p.w.getD (i % p.w.length) 0).natAbs (show (101:Int).natAbs > 0 by decide);have h3:(101:Int).natAbs=101:=rfl;rw[h3]at h h2;omega
end Go.Proofs
namespace Go.Proofs
open Go.Hx
set_option maxHeartbeats 1000000 in
theorem Qo (p:UtD)(hp:p.Ok)(g:Int)(ns:List NodeP)(h5:1<=ns.length/\ns.length<=8)(hc:∀ x∈ns,1<=x.card/\x.card<=4)(H:AHeap)(K:ARes->AHeap->Prop)
  (hK:∀ v1 v2 H',Over H H'->aB H.next H' 3 v1 (ints (ea p ns).vars)->aB H.next H' 3 v2 (ints (ea p ns).w)->K (.ret (.agg [v1,v2])) H'):ae Try.prog G0 44 [.agg p.cells,bj g ns] H K:=by
 refine ae.aS (n:=70) (rs:=[.cell 4 85]) Try.func44 rfl rfl rfl (by decide) (by kernel_rfl) (by simp) ?_;simp only[go_sem,bj,bO,UtD.cells];obtain⟨H1,hH1⟩:∃ H1,H1=ext H [.arr 0 103 [.lit (.int .u8 p.vars),.vec p.w.length (mi p.w)],.arr 0 64 [.lit (.int .i64 g),.vec ns.length (aD ns)],.arr 0 85 [.lit (.slice none 0 0),.lit (.slice none 0 0)],.arr 0 85 [.lit (.slice none 0 0),.lit (.slice none 0 0)]]:=⟨_,rfl⟩
 have g0:H1.get H.next=some (.arr 0 103 [.lit (.int .u8 p.vars),.vec p.w.length (mi p.w)]):=by rw[hH1];exact br ..
 have g1:H1.get (H.next+1)=some (.arr 0 64 [.lit (.int .i64 g),.vec ns.length (aD ns)]):=by rw[hH1];exact bu H _ 1 (by simp)
 have g2:H1.get (H.next+2)=some (.arr 0 85 [.lit (.slice none 0 0),.lit (.slice none 0 0)]):=by rw[hH1];exact bu H _ 2 (by simp)
 have g3:H1.get (H.next+3)=some (.arr 0 85 [.lit (.slice none 0 0),.lit (.slice none 0 0)]):=by rw[hH1];exact bu H _ 3 (by simp)
 have n1:H1.next=H.next+4:=by rw[hH1];rfl
 have o1:Over H H1:=by rw[hH1];exact .ext _ _
 rw[<- hH1];clear hH1;obtain⟨cs,hcs⟩:∃ cs,cs=aq ns:=⟨_,rfl⟩
 have smk:∀ k,k<=ns.length->da (aL cs (dq p.vars k)):=fun k hk=>by
  obtain⟨h1,h2,h3⟩:=uO p.vars k;refine lj (by rw[fU];omega) fun c h=>?_;unfold aL at h;obtain⟨q,hq,rfl⟩:=List.mem_map.1 h;have:=h2 q hq;obtain⟨x,hx⟩:=ay (l:=ns) (i:=q.toNat) (by omega);rw[hcs,bU (cV hx)];exact hc x (List.mem_of_getElem? hx)
 refine W.aK 8796093021376 (by rfl) (fun ρ Hx=>∃ (k:Nat) (v1:AVal),ρ 7=aa k/\k<=ns.length/\ρ 6=aa (au (aL cs (dq p.vars k)))/\H1.next<=Hx.next/\(∀ id,id<H1.next->id≠H.next+3->Hx.get id=H1.get id)/\Hx.get (H.next+3)=some (.arr 0 85 [v1,.lit (.slice none 0 0)])/\aB H1.next Hx 3 v1 (ints (dq p.vars k))) (fun ρ H=>ns.length - (iv (ρ 7)).toNat) ?_ ?_
 ·simp only[go_sem];exact⟨0,_,rfl,by omega,rfl,g3,.nil⟩
 rintro ρ Hx ⟨k,v1,h7,hk,h6,hnx,hold,hu,hO⟩;refine W.env fun E hE=>?_;have e2:E 2=.ptr H.next 0 0:=by rw[hE];simp only[go_sem]
 have e3:E 3=.ptr (H.next+1) 0 0:=by rw[hE];simp only[go_sem]
 have e4:E 4=.ptr (H.next+2) 0 0:=by rw[hE];simp only[go_sem]
 have e5:E 5=.ptr (H.next+3) 0 0:=by rw[hE];simp only[go_sem]
 have e6:E 6=aa (au (aL cs (dq p.vars k))):=by rw[hE];simp only[go_sem,h6]
 have e7:E 7=aa k:=by rw[hE];simp only[go_sem,h7]
 clear hE;refine ag _ _ _ (by rfl) ?_;have l0:=ah ((hold _ (by omega) (by omega)).trans g0);have l1:=ah ((hold _ (by omega) (by omega)).trans g1);have l3:=ah hu;by_cases hb:(k:Int)<ns.length
 ·obtain⟨x,hx⟩:=ay (l:=ns) (i:=k) (by omega);have hne:=dH hx;have c0:=iI hx;have w1:=IntWalk.i64_in ((k:Int)+1) (by omega);obtain⟨r1,hr1⟩:∃ r1,p.vars.fdiv (2 ^ (min ((k:Int)).toNat IntKind.u8.bits))=r1:=⟨_,rfl⟩
  obtain⟨r2,hr2⟩:∃ r2,IntKind.u8.wrap (((BitVec.ofInt IntKind.u8.bits r1 &&& BitVec.ofInt IntKind.u8.bits 1).toNat:Nat):Int)=r2:=⟨_,rfl⟩
  have s1:∀ t o1 o2,bh Try.prog .shr t o1 o2 (.lit (.int .u8 p.vars)) (.lit (.int .i64 (k:Int)))=some (.lit (.int .u8 r1)):=fun t o1 o2=>by rw[vd (by omega),hr1]
  have s2:∀ t o1 o2,bh Try.prog .and t o1 o2 (.lit (.int .u8 r1)) (.lit (.int .u8 1))=some (.lit (.int .u8 r2)):=fun t o1 o2=>by rw[ve,hr2]
  have hb8:uN p.vars k=decide (r2=1):=by unfold uN;rw[hr1,hr2]
  have hlen:=uJ hO (d:=some (.slice 3)) rfl;rw[oA,aT]at hlen;obtain⟨u1,u2,u3⟩:=uO p.vars k;have hstep:dq p.vars (k+1)=if uN p.vars k=true/\(dq p.vars k).length<3 then dq p.vars k++[(k:Int)] else dq p.vars k:=rfl
  by_cases hr:r2=1
  ·by_cases h3:((dq p.vars k).length:Int)<3
   ·rw[if_pos ⟨by rw[hb8,decide_eq_true hr],by omega⟩]at hstep;obtain⟨v',H3,hA,hO3,hn3,hp3⟩:=gf (P:=Try.prog) (H:=Hx) (t:=59) (x:=aa k) (n:=Hx.next+1) Try.underlying59 Try.dh Try.dG rfl (by rw[Try.dU,aT];omega) hO hnx rfl;simp only[aa]at hA;have keep:∀ id,id<H1.next->H3.get id=Hx.get id:=fun id h=>hp3 id (by omega) (hO.ne h);have l1j:=ah ((keep _ (by omega)).trans ((hold _ (by omega) (by omega)).trans g1));have l3j:=ah ((keep _ (by omega)).trans hu);have hvc:=hO3.cells;have hvo:=hO3.one;have l1u:∀ b,(H3.upd (H.next+3) b).live (H.next+1) 0=some (64,[.lit (.int .i64 g),.vec ns.length (aD ns)]):=fun b=>(my (by omega)).trans l1j;have hpr:au (aL cs (dq p.vars (k+1)))=au (aL cs (dq p.vars k))*x.card:=by
     rw[hstep];unfold aL;rw[List.map_append,hcs];show au (_++[(aq ns).getD ((k:Int)).toNat 0])=_;rw[eC,Int.toNat_natCast,bU (cV hx)]
    have hps:=(smk (k+1) (by omega)).prod;rw[hpr]at hps;have w2:=IntWalk.i64_in (au (aL cs (dq p.vars k))*x.card) (by omega);simp only[go_sem,e2,e3,e5,e6,e7,l0,l1,l3,l3j,hb,s1,s2,hr,hlen,h3,w1,w2,hne,c0,hA,hvc,hvo,l1u];refine⟨by rw[aC];omega,⟨k+1,v',rfl,by omega,by rw[hpr],by rw[aC];omega,fun id h1 h2=>by rw[af,if_neg h2,keep _ h1];exact hold id h1 h2,by rw[af,if_pos rfl],?_⟩,by rw[h7];simp only[aa,aU];omega⟩;rw[hstep];have:=hO3.keep (lo':=H1.next) (H':=H3.upd (H.next+3) (.arr 0 85 [v',.lit (.slice none 0 0)])) (Nat.le_refl _) (Nat.le_refl _) fun id _ h1 _ _ _=>by rw[af,if_neg (by omega)]
    simpa [ints,aa] using this
   ·rw[if_neg (by omega)]at hstep;simp only[go_sem,e2,e3,e5,e6,e7,l0,l1,l3,hb,s1,s2,hr,hlen,h3,w1];exact⟨hnx,⟨k+1,v1,rfl,by omega,by rw[hstep],hnx,hold,hu,by rw[hstep];exact hO⟩,by rw[h7];simp only[aa,aU];omega⟩
  ·rw[if_neg (by rw[hb8,decide_eq_false hr];simp)]at hstep;simp only[go_sem,e2,e3,e6,e7,l0,l1,hb,s1,s2,hr,w1];exact⟨hnx,⟨k+1,v1,rfl,by omega,by rw[hstep],hnx,hold,hu,by rw[hstep];exact hO⟩,by rw[h7];simp only[aa,aU];omega⟩
 ·have hke:k=ns.length:=by omega
  simp only[go_sem,e3,e7,l1,hb];rw[hke]at hO e6;obtain⟨R,hR⟩:=Int.eq_ofNat_of_zero_le (smk ns.length (by omega)).prod.1;have hR2:=(smk ns.length (by omega)).prod.2;rw[hR]at e6 hR2;have hwl:(ea p ns).w=(List.range R).map fun (i:Nat)=>if p.w.length=0 then 0 else (p.w.getD (i % p.w.length) 0).tmod 101:=by
   unfold ea;rw[<- hcs,hR];rfl
  have wget:∀ (i:Nat) (x:Int),i<R->(if p.w.length=0 then 0 else (p.w.getD (i % p.w.length) 0).tmod 101)=x->(ea p ns).w[i]?=some x:=fun i x hi hx=>by
   rw[hwl,List.getElem?_map,List.getElem?_range hi,Option.map_some,hx]
  have wlen:(ea p ns).w.length=R:=by rw[hwl];simp
  refine W.aK 590295801562612630272 (by rfl) (fun ρ H2=>∃ (i:Nat) (v2:AVal),ρ 8=aa i/\i<=R/\Hx.next<=H2.next/\(∀ id,id<Hx.next->id≠H.next+3->H2.get id=Hx.get id)/\H2.get (H.next+3)=some (.arr 0 85 [v1,v2])/\aB Hx.next H2 3 v2 (ints ((ea p ns).w.take i))) (fun ρ H=>R - (iv (ρ 8)).toNat) ?_ ?_
  ·simp only[go_sem];exact⟨0,_,rfl,by omega,hu,.nil⟩
  rintro ρ2 H2 ⟨i,v2,h8,hi,hn2,hold2,hu2,hO2⟩;refine W.env fun E2 hE2=>?_;have f2:E2 2=.ptr H.next 0 0:=by rw[hE2];simp only[go_sem,e2]
  have f4:E2 4=.ptr (H.next+2) 0 0:=by rw[hE2];simp only[go_sem,e4]
  have f5:E2 5=.ptr (H.next+3) 0 0:=by rw[hE2];simp only[go_sem,e5]
  have f6:E2 6=aa R:=by rw[hE2];simp only[go_sem,e6]
  have f8:E2 8=aa i:=by rw[hE2];simp only[go_sem,h8]
  clear hE2;refine ag _ _ _ (by rfl) ?_;have o02:∀ id,id<H1.next->id≠H.next+3->H2.get id=H1.get id:=fun id h1 h2=>(hold2 id (by omega) h2).trans (hold id h1 h2);have m0:=ah ((o02 _ (by omega) (by omega)).trans g0);have m3:=ah hu2;by_cases hb2:(i:Int)<R
  ·have w1:=IntWalk.i64_in ((i : Int)+1) (by omega);have hlen:=uJ hO2 (d:=some (.slice 3)) rfl;rw [oA,aT] at hlen;have tl : ((ea p ns).w.take i).length=i:=(by rw [List.length_take,wlen];omega);have app : ∀ x : Int,(ea p ns).w[i]?=some x→∃ v' H3,bq Try.prog (ext H2 [.arr 0 3 [.lit (.int .i64 x)]]) (H2.next+1) 59 59 v2 (.own H2.next 0 0 1 1)=some (v',H3)∧v'.cells=[v']∧v'.one=true∧H3.live (H.next+3) 0=some (85,[v1,v2])∧H2.next≤H3.next ∧
     ∀ b,b=.arr 0 85 [v1,v']->(∀ id,id<Hx.next->id≠H.next+3->(H3.upd (H.next+3) b).get id=Hx.get id)/\(H3.upd (H.next+3) b).get (H.next+3)=some (.arr 0 85 [v1,v'])/\aB Hx.next (H3.upd (H.next+3) b) 3 v' (ints ((ea p ns).w.take (i+1))):=fun x hx=>by
    obtain⟨v',H3,hA,hO3,hn3,hp3⟩:=gf (P:=Try.prog) (H:=H2) (t:=59) (x:=aa x) (n:=H2.next+1) Try.underlying59 Try.dh Try.dG rfl (by rw[Try.dU,aT];omega) hO2 hn2 rfl;simp only[aa]at hA;have keep:∀ id,id<Hx.next->H3.get id=H2.get id:=fun id h=>hp3 id (by omega) (hO2.ne h);refine⟨v',H3,hA,hO3.cells,hO3.one,ah ((keep _ (by omega)).trans hu2),hn3,fun b hb=>⟨fun id h1 h2=>by rw[af,if_neg h2,keep _ h1];exact hold2 id h1 h2,by rw[af,if_pos rfl,hb],?_⟩⟩;rw[aP hx];have:=hO3.keep (lo':=Hx.next) (H':=H3.upd (H.next+3) b) (Nat.le_refl _) (Nat.le_refl _) fun id _ h1 _ _ _=>by rw[af,if_neg (by omega)]
    simpa [ints,aa] using this
   by_cases hz:(0:Int)<p.w.length
   ·have hzn:¬ (p.w.length:Int)=0:=(by omega);have m1:(i:Int).tmod p.w.length=((i % p.w.length:Nat):Int):=(by rw[Int.tmod_eq_emod_of_nonneg (by omega)];rfl);have m2:=Nat.mod_lt i (show p.w.length > 0 by omega);obtain⟨q,hq⟩:∃ q,q=i % p.w.length:=⟨_,rfl⟩
    rw[<- hq]at m1 m2;have hq0:(q:Int) >= 0:=(by omega);have hql:(q:Int)<p.w.length:=(by omega);obtain⟨b,hbg⟩:=ay (l:=p.w) (i:=q) m2;have b8:=hp.2.2 b (List.mem_of_getElem? hbg);have hbg':=Qi hbg;have hbne:=aR hbg';unfold I8 at b8;have w4:IntKind.i64.wrap b=b:=IntWalk.i64_in _ (by omega);have tb:-9223372036854775808<=b.tmod 101/\b.tmod 101<9223372036854775808:=by
     have h:=Int.natAbs_tmod b 101;have h2:=Nat.mod_lt b.natAbs (show (101:Int).natAbs > 0 by decide);have h3:(101:Int).natAbs=101:=rfl;rw[h3]at h h2;omega
    have w5:IntKind.i64.wrap (b.tmod 101)=b.tmod 101:=IntWalk.i64_in _ (by omega);obtain⟨v',H3,hA,hvc,hvo,l3,hn3,fin⟩:=app (b.tmod 101) (wget i _ (by omega) (by rw[if_neg (by omega),<- hq,bU hbg]));simp only[go_sem,f2,f6,f8,m0,hb2,hz];refine W.draw 7 [0,1,0,0,8,24,60] Try.mixed (by kernel_rfl) (by kernel_rfl) ?_;simp only[go_sem,f2,f5,f8,m0,m3,hzn,m1,hq0,hql,hbg',hbne,w1,w4,hA,hvc,hvo,l3];refine⟨by rw[aC];omega,⟨i+1,v',rfl,by omega,by rw[aC];omega,(fin _ rfl).1,(fin _ rfl).2.1,(fin _ rfl).2.2⟩,by rw[h8];simp only[aa,aU];omega⟩
   ·have hzn:p.w.length=0:=(by omega);obtain⟨v',H3,hA,hvc,hvo,l3,hn3,fin⟩:=app 0 (wget i _ (by omega) (by rw[if_pos hzn]));simp only[go_sem,f2,f5,f6,f8,m0,m3,hb2,hz,w1,hA,hvc,hvo,l3];refine⟨by rw[aC];omega,⟨i+1,v',rfl,by omega,by rw[aC];omega,(fin _ rfl).1,(fin _ rfl).2.1,(fin _ rfl).2.2⟩,by rw[h8];simp only[aa,aU];omega⟩
  ·have hie:i=R:=(by omega);have m2:=ah ((o02 _ (by omega) (by omega)).trans g2);have hO1:aB H1.next H2 3 v1 (ints (dq p.vars ns.length)):=hO.keep (Nat.le_refl _) hn2 fun id _ h1 h3 _ _=>hold2 id h3 (by omega);have v1o:=hO1.one;have v2o:=hO2.one;have v1c:=hO1.cells;have v2c:=hO2.cells;rw[List.take_of_length_le (by omega)]at hO2;simp only[go_sem,f4,f5,f6,f8,m2,m3,hb2,v1o,v2o];have k1:=hO1.keep (lo':=H.next) (H':=H2.upd (H.next+2) (.arr 0 85 [v1,v2])) (by omega) (by rw[aC];omega) fun id _ h1 _ _ _=>by rw[af,if_neg (by omega)]
   have k2:=hO2.keep (lo':=H.next) (H':=H2.upd (H.next+2) (.arr 0 85 [v1,v2])) (by omega) (by rw[aC];omega) fun id _ h1 _ _ _=>by rw[af,if_neg (by omega)]
   refine aw.mk (by rw[aC];omega) (hK v1 v2 _ ⟨by rw[aC];omega,fun id h=>?_⟩ k1 k2);rw[af,if_neg (by omega),o02 id (by omega) (by omega)];exact o1.old id h
end Go.Proofs
