/- Own work: contracts. -/
import Derived.Test.YtjhbjbninamhnaaGreatConA
set_option linter.all false
set_option maxRecDepth 100000
namespace Go.Proofs
open Go.Hx
def sS (g:Int)(ns:List NodeP)(us:List UtilP):AVal:=.agg [.lit (.int .i64 g),.vec ns.length (aB ns),.vec us.length (aS us)]
theorem pq {ns:List NodeP}{us:List UtilP}(hu:∀ u∈us,UtilOk ns u)(h4:us.length<=4)(vals:List Int)(k:Nat):-400<=bM ns (us.take k) vals/\bM ns (us.take k) vals<=400:=by
 have key:∀ l:List UtilP,(∀ u∈l,UtilOk ns u)->-(100*l.length:Int)<=bM ns l vals/\bM ns l vals<=100*l.length:=by
  intro l
  induction l with
  | nil=>intro _;simp [bM]
  | cons u l ih =>
   intro h;have h1:=ih fun u hu=>h u (by simp [hu]);have h2:-100<=mu ns vals u/\mu ns vals u<=100:=by
    unfold mu;rw[List.getD_eq_getElem?_getD];cases hg:u.w[(bP (aH (ak ns) u.vars) (aH vals u.vars)).toNat]? with
    | none=>simp
    | some w=>exact(h u (by simp)).w w (List.mem_of_getElem? hg)
   simp only[bM,List.map_cons,List.sum_cons,List.length_cons]at h1 ⊢
   push_cast
   omega
 have:=key (us.take k) fun u hk=>hu u (List.mem_of_mem_take hk);have h5:(us.take k).length<=4:=by simp;omega
 omega
set_option maxHeartbeats 1000000 in
theorem Pn (g:Int)(ns:List NodeP)(us:List UtilP)(vals:List Int)(h8:ns.length<=8)(hc:∀ y∈ns,1<=y.card/\y.card<=4)(hu:∀ u∈us,UtilOk ns u)(h4:us.length<=4)(hf:bV (ak ns) vals)(H:AHeap)(K:ARes->AHeap->Prop)
  (hK:K (.ret (aa (bM ns us vals))) H):ae Tryz.prog G0 83 [sS g ns us,ah vals] H K:=by
 refine ae.clo ⟨_,Tryz.func83,rfl,rfl⟩ fun hcl=>?_;have hfl:vals.length=ns.length:=by rw[hf.1,dc]
 refine ae.aP (n:=49) (rs:=[.tmp 4]) Tryz.func83 rfl rfl rfl (by decide) (by kernel_rfl) (by simp) ?_;simp only[go_sem,sS];obtain⟨H1,hH1⟩:∃ H1,H1=ext H [.arr 0 147 [.lit (.int .i64 g),.vec ns.length (aB ns),.vec us.length (aS us)]]:=⟨_,rfl⟩
 have l1:H1.live H.next 0=some (147,[.lit (.int .i64 g),.vec ns.length (aB ns),.vec us.length (aS us)]):=by rw[hH1];exact ag (bR ..)
 have n1:H1.next=H.next+1:=by rw[hH1];rfl
 have o1:Over H H1:=by rw[hH1];exact .ext _ _
 rw[<- hH1];refine W.aK 281474976695712 (by rfl) (fun ρ H'=>∃ k:Nat,ρ 14=aa k/\k<=us.length/\Over H1 H'/\ρ 5=aa (bM ns (us.take k) vals)) (fun ρ H=>us.length - (iv (ρ 14)).toNat) ?_ ?_
 ·simp only[go_sem];exact⟨0,rfl,by omega,.refl _,by simp [bM]⟩
 rintro ρ H' ⟨k,h14,hk,ov,h5⟩;refine W.env fun E hE=>?_;have e1:E 1=ah vals:=by rw[hE];simp only[go_sem]
 have e2:E 2=.ptr H.next 0 0:=by rw[hE];simp only[go_sem]
 have e5:E 5=aa (bM ns (us.take k) vals):=by rw[hE];simp only[go_sem,h5]
 have e12:E 12=.vec us.length (aS us):=by rw[hE];simp only[go_sem]
 have e13:E 13=aa us.length:=by rw[hE];simp only[go_sem]
 have e14:E 14=aa k:=by rw[hE];simp only[go_sem,h14]
 clear hE;refine af _ _ _ (by rfl) ?_;have ovn:=ov.next;by_cases hb:(k:Int)<us.length;rotate_left
 ·simp only[go_sem,e5,e13,e14,hb];rw[List.take_of_length_le (by omega)];exact ar.bB aI hcl (o1.trans ov) (.lit _) hK
 obtain⟨u,hku⟩:=get_of_lt (l:=us) (i:=k) (by omega);have hum:=List.mem_of_getElem? hku;obtain⟨u1,u2,u3⟩:=hu u hum;have hne:=xS hku;have p0:=xR hku;have p1:k*2+2<=(aS us).length:=by rw[xQ];omega
 have v8:=u1.len;obtain⟨H2,hH2⟩:∃ H2,H2=ext H' [.arr 0 82 [.vec u.vars.length (ints u.vars),.vec u.w.length (ints u.w)]]:=⟨_,rfl⟩
 have m1:=ag (show H2.get H'.next=some (.arr 0 82 [.vec u.vars.length (ints u.vars),.vec u.w.length (ints u.w)]) by rw[hH2];exact bL);have m2:H2.live H.next 0=some (147,[.lit (.int .i64 g),.vec ns.length (aB ns),.vec us.length (aS us)]):=by rw[hH2];exact(eT (by omega)).trans ((ov.live (by omega)).trans l1)
 have n2:H2.next=H'.next+1:=by rw[hH2];rfl
 have sm:=sI h8 u1 hc;have hin:fO u.vars ns.length:=fun q hq=>by have:=u1.2 q hq;omega
 have fp:bV (aH (ak ns) u.vars) (aH vals u.vars):=qP (x:=⟨0,u.vars,[]⟩) hin hf;have pl:(aH (ak ns) u.vars).length=u.vars.length:=gL _ _;have vl:(aH vals u.vars).length=u.vars.length:=gL _ _;have ft:∀ j,bV ((aH (ak ns) u.vars).take j) ((aH vals u.vars).take j):=fun j=>⟨by simp [pl,vl],fun i c b h1 h2=>by
  rw[List.getElem?_take]at h1 h2;split at h1
  ·rename_i hik;rw[if_pos hik]at h2;exact fp.2 i c b h1 h2
  ·cases h1⟩
 have hr:∀ j,0<=eK ((aH (ak ns) u.vars).take j) ((aH vals u.vars).take j)/\eK ((aH (ak ns) u.vars).take j) ((aH vals u.vars).take j)<68719476737:=fun j=>by
  rw[qq (ft j).1];have a:=mq (ft j);have b:=(sm.take j).prod;omega
 simp only[go_sem,e12,e13,e14,hb,hne,p0,p1];rw[<- hH2];refine W.aK 1099509531904 (by rfl) (fun ρ2 H3=>H3=H2/\∃ j:Nat,ρ2 21=aa j/\j<=u.vars.length/\ρ2 8=aa (eK ((aH (ak ns) u.vars).take j) ((aH vals u.vars).take j))) (fun ρ2 H=>u.vars.length - (iv (ρ2 21)).toNat) ?_ ?_
 ·simp only[go_sem];exact⟨0,rfl,by omega,rfl⟩
 rintro ρ2 H3 ⟨rfl,j,h21,hj,h8'⟩;refine af _ _ _ (by rfl) ?_;by_cases hb2:(j:Int)<u.vars.length
 ·obtain⟨q,hq⟩:=get_of_lt (l:=u.vars) (i:=j) (by omega);obtain⟨i,rfl,y,hy⟩:=mo (l:=ns) (hin q (List.mem_of_getElem? hq)).1 (hin q (List.mem_of_getElem? hq)).2;obtain⟨b,hbv⟩:=get_of_lt (l:=vals) (i:=i) (by rw[hfl];exact get_lt hy);have hyb:=hf.2 i y.card b (cU hy) hbv;have a1:(aH (ak ns) u.vars)[j]?=some y.card:=by rw[jF hq,Int.toNat_natCast,bI (cU hy)]
  have a2:(aH vals u.vars)[j]?=some b:=by rw[jF hq,Int.toNat_natCast,bI hbv]
  have hne2:=aL hq;have hne3:=aL hbv;have hne4:=eA hy;have ey:=jf hy;have hi:(i:Int)<ns.length:=by have:=get_lt hy;omega
  have hi2:(i:Int)<vals.length:=by omega
  have w1:=IntWalk.i64_in ((j:Int)+1) (by omega);have r1:=hr (j+1);rw[qt a1 a2]at r1;have r0:=hr j;have m0:0<=eK ((aH (ak ns) u.vars).take j) ((aH vals u.vars).take j)*y.card:=Int.mul_nonneg r0.1 (by omega);have w2:=IntWalk.i64_in (eK ((aH (ak ns) u.vars).take j) ((aH vals u.vars).take j)*y.card) (by omega);have w3:=IntWalk.i64_in (eK ((aH (ak ns) u.vars).take j) ((aH vals u.vars).take j)*y.card+b) (by omega);simp only[go_sem,h21,hb2,hq,hne2];refine W.draw 13 [0,0,2,6,0,30,62,126,255,0,0,1536,3584] Tryz.mixed (by kernel_rfl) (by kernel_rfl) ?_;simp only[go_sem,h21,h8',e1,e2,m2,hne3,hne4,hi,hi2,hbv,ey,w1,w2,w3];exact⟨⟨j+1,by simp,by omega,by rw[qt a1 a2]⟩,by omega⟩
 ·rw[List.take_of_length_le (by omega),List.take_of_length_le (by omega),qq (by rw[pl,vl])]at h8';have hx:=mq fp;obtain⟨ix,hix⟩:=Int.eq_ofNat_of_zero_le hx.1;obtain⟨w,hw⟩:=get_of_lt (l:=u.w) (i:=ix) (by omega);have hwne:=aL hw;have hwl:(ix:Int)<u.w.length:=by have:=get_lt hw;omega
  have eu:mu ns vals u=w:=by unfold mu;rw[hix,Int.toNat_natCast,bI hw]
  have us1:bM ns (us.take (k+1)) vals=bM ns (us.take k) vals+w:=by rw[aT hku];unfold bM;simp [eu]
  have b1:=pq hu h4 vals k;have b2:=pq hu h4 vals (k+1);rw[us1]at b2;have w1:=IntWalk.i64_in ((k:Int)+1) (by omega);have w2:=IntWalk.i64_in (bM ns (us.take k) vals+w) (by omega);rw[hix]at h8';simp only[go_sem,h21,h8',e5,e14,m1,hb2,hw,hwne,hwl,w1,w2];exact⟨by omega,⟨k+1,by simp,by omega,by rw[hH2];exact ov.trans (.ext _ _),by rw[us1]⟩,by rw[h14];simp only[aa,aU];omega⟩
theorem Po (g:Int)(ns:List NodeP)(us:List UtilP)(vals:List Int)(h8:ns.length<=8)(hc:∀ y∈ns,1<=y.card/\y.card<=4)(hu:∀ u∈us,UtilOk ns u)(h4:us.length<=4)(hf:bV (ak ns) vals)(H:AHeap)(N n:Nat)(hN:N<H.next)
  (hg:H.get N=some (.arr 0 3 (ints vals))) (hn:n=vals.length):bX Tryz.prog G0 (.clo 83 [] []) [.agg [.lit (.int .i64 g),.vec ns.length (aB ns),.vec us.length (aS us)],.own N 0 0 n 1] H (.lit (.int .i64 (bM ns us vals))) [N]:=by
 subst hn;refine bX.mk (fun i hi=>by obtain rfl:=List.mem_singleton.1 hi;exact hN) fun H2 h2 _=>?_;refine(ae.frame (H:=H2) (args:=[.agg [.lit (.int .i64 g),.vec ns.length (aB ns),.vec us.length (aS us)],.own N 0 0 vals.length 1]) (args':=[sS g ns us,ah vals]) (v':=.lit (.int .i64 (bM ns us vals))) aI rfl (fun i hi _=>?_) (Pn g ns us vals h8 hc hu h4 hf dw _ ⟨_,rfl,.lit _⟩))
 match i,hi with
 | 0,_ =>
  refine .agg rfl fun i hi _=>?_
  match i,hi with
  | 0,_=>exact .lit _
  | 1,_=>exact qR _
  | 2,_ =>
   refine .vec rfl fun i hi _=>?_;have:∀ c∈aS us,Fz (fun _=>True) H2 0 c c:=by
    intro c hc;unfold aS at hc;obtain⟨r,hr,hc⟩:=List.mem_flatten.1 hc;obtain⟨x,_,rfl⟩:=List.mem_map.1 hr;unfold UtilP.cells at hc;simp only[List.mem_cons,List.not_mem_nil,or_false]at hc;rcases hc with rfl|rfl
    ·exact .dG _
    ·exact .dG _
   exact this _ (List.getElem_mem _)
 | 1,_=>exact Fz.qQ ((h2 N (by simp)).trans hg) (by rw[aR]) fun c hc=>by obtain⟨z,_,rfl⟩:=List.mem_map.1 hc;exact⟨_,rfl⟩
theorem Pp (g:Int)(ns:List NodeP)(us:List UtilP)(vals:List Int)(h8:ns.length<=8)(hc:∀ y∈ns,1<=y.card/\y.card<=4)(hu:∀ u∈us,UtilOk ns u)(h4:us.length<=4)(hf:bV (ak ns) vals)(w a:Int)(hw:0<=w/\w<=167961600000000)(ha:-1000000000000000000<=a/\a<=1000000000000000000)
  (H:AHeap) (N n sb fb:Nat) (hg:H.get N=some (.arr 0 3 (ints vals))) (hn:n=vals.length) (hsb:H.get sb=some (.arr 0 3 [.lit (.int .i64 a)])) (hfb:H.get fb=some (.arr 0 147 [.lit (.int .i64 g),.vec ns.length (aB ns),.vec us.length (aS us)])) (hN:N<H.next) (hNs:N≠sb) (hfs:fb≠sb)
  (K:ARes->AHeap->Prop) (hK:K (.ret (.tup [])) (H.upd sb (.arr 0 3 [.lit (.int .i64 (a+w*bM ns us vals))]))):ae Tryz.prog G0 82 [.own N 0 0 n 1,.lit (.int .i64 w),.ptr sb 0 0,.ptr fb 0 0] H K:=by
 have ls:=ag hsb;have lf:=ag hfb;have hpc:=Po g ns us vals h8 hc hu h4 hf H N n hN hg hn;have b:=pq hu h4 vals us.length;rw[List.take_of_length_le (Nat.le_refl _)]at b;have m1:-67184640000000000<=w*bM ns us vals/\w*bM ns us vals<=67184640000000000:=by
  constructor
  ·have h1:w*(-400)<=w*bM ns us vals:=Int.mul_le_mul_of_nonneg_left b.1 hw.1;omega
  ·have h1:w*bM ns us vals<=w*400:=Int.mul_le_mul_of_nonneg_left b.2 hw.1;omega
 have w1:=IntWalk.i64_in (w*bM ns us vals) (by omega);have w2:=IntWalk.i64_in (a+w*bM ns us vals) (by omega);refine ae.aP (n:=13) (rs:=[]) Tryz.func82 rfl rfl rfl (by decide) (by kernel_rfl) (by simp) ?_;simp only[go_sem];refine W.draw 6 [0,0,0,0,12,30] Tryz.mixed (by kernel_rfl) (by kernel_rfl) ?_;simp only[go_sem,ls,lf];refine⟨_,[N],hpc,?_⟩;simp only[go_sem,ls,w1,w2];exact ar.mk (Nat.le_refl _) hK
theorem O8 {ns:List NodeP}{k:Nat}(h:k<bH ns):(eY ns)[k]?=some (weight ns (bQ (ak ns) k)):=by
 unfold eY;rw[List.getElem?_map,List.getElem?_range h];rfl
theorem O9 (ns:List NodeP):(eY ns).length=bH ns:=by simp [eY]
theorem Pa {g:Int}{ns:List NodeP}(h:NetOk g ns){vals:List Int}(hf:bV (ak ns) vals):0<=weight ns vals/\weight ns vals<=167961600000000:=by
 have:=C9 h hf ns.length;rw[List.take_of_length_le (by rw[uC];omega)]at this;exact this
set_option maxHeartbeats 1000000 in
theorem Pb (g:Int)(ns:List NodeP)(us:List UtilP)(h:NetOk g ns)(hu:∀ u∈us,UtilOk ns u)(h4:us.length<=4)(hBd:∀ k,k<=bH ns->-1000000000000000000<=gY ns us k/\gY ns us k<=1000000000000000000)
  (H:AHeap) (sb fb:Nat) (hsb:H.get sb=some (.arr 0 3 [.lit (.int .i64 0)])) (hfb:H.get fb=some (.arr 0 147 [.lit (.int .i64 g),.vec ns.length (aB ns),.vec us.length (aS us)])) (hlt:sb<H.next) (hltf:fb<H.next) (hfs:fb≠sb)
  (K:ARes->AHeap->Prop) (hK:∀ H',H.next<=H'.next->(∀ id,id<H.next->id≠sb->H'.get id=H.get id)->H'.get sb=some (.arr 0 3 [.lit (.int .i64 (gY ns us (bH ns)))])->K (.ret (.tup [])) H'):
  ae Tryz.prog G0 81 [sS g ns us,.clo 82 [] [.ptr sb 0 0,.ptr fb 0 0]] H K:=by
 have n8:=h.n1;have hcards:∀ c∈ak ns,1<=c/\c<=4:=fun c hc=>by
  obtain⟨x,hx,rfl⟩:=List.mem_map.1 hc;exact(h.node x hx).1
 have sm:dS (ak ns):=mL (by rw[dc];omega) hcards;have hp:=fI fun c hc=>(hcards c hc).1;refine ae.aP (n:=24) (rs:=[]) Tryz.func81 rfl rfl rfl (by decide) (by kernel_rfl) (by simp) ?_;simp only[go_sem,sS];refine ay.clo (Pm g ns h _ _ ⟨trivial,?_⟩);simp only[go_sem];refine ay.clo (sT ns (by omega) _ _ ⟨trivial,?_⟩);simp only[go_sem];refine ay.clo (sN (ak ns) _ _ ⟨trivial,?_⟩);simp only[go_sem];obtain⟨H2,hH2⟩:∃ H2,H2=ext (ext H [.arr 0 147 [.lit (.int .i64 g),.vec ns.length (aB ns),.vec us.length (aS us)],.arr 0 149 (AVal.clo 82 [] [.ptr sb 0 0,.ptr fb 0 0]).cells,.arr 0 46 [ah (eY ns)]]) [.arr 0 46 [ah (ak ns)]]:=⟨_,rfl⟩
 have n2:H2.next=H.next+4:=by rw[hH2];rfl
 have o2:Over H H2:=by rw[hH2];exact(Over.ext _ _).trans (.ext _ _)
 have g1:H2.get (H.next+1)=some (.arr 0 149 [.clo 82 [] [.ptr sb 0 0,.ptr fb 0 0]]):=by rw[hH2,dH];exact aZ H _ 1 (by simp)
 have g2:H2.get (H.next+2)=some (.arr 0 46 [ah (eY ns)]):=by rw[hH2,dH];exact aZ H _ 2 (by simp)
 have g3:H2.get (H.next+3)=some (.arr 0 46 [ah (ak ns)]):=by rw[hH2,dH];exact aZ H _ 3 (by simp)
 have gsb:=(o2.old _ hlt).trans hsb;have gfb:=(o2.old _ hltf).trans hfb;refine W.env fun E hE=>?_;have e3:E 3=.ptr (H.next+1) 0 0:=by rw[hE];simp only[go_sem]
 have e4:E 4=.ptr (H.next+2) 0 0:=by rw[hE];simp only[go_sem]
 have e14:E 14=.clo 143 [] [.ptr (H.next+3) 0 0]:=by rw[hE];rfl
 clear hE;show W _ _ _ _ _ _ ⟨E,ext (ext H [.arr 0 147 [.lit (.int .i64 g),.vec ns.length (aB ns),.vec us.length (aS us)],.arr 0 149 (AVal.clo 82 [] [.ptr sb 0 0,.ptr fb 0 0]).cells,.arr 0 46 [ah (eY ns)]]) [.arr 0 46 [ah (ak ns)]]⟩;rw[<- hH2];have hit:=sM (ak ns) (fun c hc=>(hcards c hc).1) sm (H.next+3) (H2.next+1) (by omega);refine W.tq (f:=143) (first:=[]) (cap:=[.ptr (H.next+3) 0 0]) (by show E 14=_;exact e14) hit
  (fun k Hx=>H2.next<Hx.next/\(∀ id,id<H2.next->id≠sb->Hx.get id=H2.get id)/\Hx.get sb=some (.arr 0 3 [.lit (.int .i64 (gY ns us k))]))
  (fun _ _=>False)
  (fun k Hx h=>(h.2.1 _ (by omega) (by omega)).trans g3)
  (fun k H1 H3 h hw=>⟨by have:=hw.1;omega,fun id h1 h2=>(hw.2 _ (by omega) (by have:=h.1;omega)).trans (h.2.1 id h1 h2),(hw.2 _ (by omega) (by have:=h.1;omega)).trans h.2.2⟩)
  (fun k Hx h=>h.1)
  (fun k H1 b h=>⟨h.1,fun id h1 h2=>by rw[aj,if_neg (by omega)];exact h.2.1 id h1 h2,by rw[aj,if_neg (by omega)];exact h.2.2⟩)
  (fun _ _ _ h=>h) (fun k H1 b h=>by unfold kQ at h ⊢;rw[aj,if_neg (by omega)];exact h)
  (fun b=>⟨by rw[aY];simp,fun id h1 h2=>bE h1,by rw[bE (by omega)];exact gsb⟩) (by decide)
  (fun x hx=>by
   obtain⟨k,hk⟩:=List.mem_iff_getElem?.1 hx;obtain⟨_,rfl⟩:=lS hk;rfl) (fun _ _ _=>trivial) (fun _ _ _=>trivial) (fun k y Hx B Bb hy hj hcs hn hB hBb=>?_) (fun Hx hj hn=>?_) (fun _ hs _=>hs.elim) (fun _ _ hs _=>hs.elim)
 ·obtain⟨hk,rfl⟩:=lS hy;refine af _ _ _ (by rfl) ?_;simp only[go_sem,gX,bh,jr,List.foldl_cons,List.foldl_nil,List.zip_cons_cons,List.zip_nil_right,hB];obtain⟨H3,hH3⟩:∃ H3,H3=Hx.upd H2.next Bb:=⟨_,rfl⟩
  rw[<- hH3];obtain⟨st,pd,n',en,ps',as',bo,hBe⟩:=hBb;have n3:H3.next=Hx.next:=by rw[hH3];rfl
  have o3:∀ id,id≠H2.next->H3.get id=Hx.get id:=fun id h=>by rw[hH3,aj,if_neg h]
  have jB:H3.get H2.next=some Bb:=by rw[hH3,aj,if_pos rfl]
  have k1:=(o3 _ (by omega)).trans ((hj.2.1 (H.next+1) (by omega) (by omega)).trans g1);have k2:=(o3 _ (by omega)).trans ((hj.2.1 (H.next+2) (by omega) (by omega)).trans g2);have kf:=(o3 _ (by omega)).trans ((hj.2.1 fb (by omega) hfs).trans gfb);have ks:=(o3 _ (by omega)).trans hj.2.2;have kN:H3.get (H2.next+1)=some (.arr 0 3 (ints (bQ (ak ns) k))):=(o3 _ (by omega)).trans hcs;obtain⟨vals,hvals⟩:∃ vals,vals=bQ (ak ns) k:=⟨_,rfl⟩
  have hfit:bV (ak ns) vals:=by rw[hvals];exact qp (fun c hc=>(hcards c hc).1) _
  rw[<- hvals]at kN;have hvl:vals.length=ns.length:=by rw[hfit.1,dc]
  refine W.env fun E1 hE1=>?_;have m3:E1 3=.ptr (H.next+1) 0 0:=by rw[hE1];simp only[go_sem,bh,e3]
  have m4:E1 4=.ptr (H.next+2) 0 0:=by rw[hE1];simp only[go_sem,bh,e4]
  have m5:E1 5=aa k:=by rw[hE1];simp only[go_sem,bh]
  have m6:E1 6=.own (H2.next+1) 0 0 ns.length 1:=by rw[hE1];simp only[go_sem,bh,dc]
  clear hE1;have l1:=ag k1;have l2:=ag k2;have hkw:k<bH ns:=hk;have hwk:=O8 hkw;rw[<- hvals]at hwk;have hwne:=aL hwk;have hkl:(k:Int)<(eY ns).length:=by rw[O9];omega
  have hs1:=BC ns us k;rw[<- hvals]at hs1;refine af _ _ _ (by rfl) ?_;simp only[go_sem];refine W.draw 6 [0,0,0,0,12,28] Tryz.mixed (by kernel_rfl) (by kernel_rfl) ?_;simp only[go_sem,m3,m4,m5,m6,l1,l2,hwk,hwne,hkl];refine ay.clo (Pp g ns us vals (by omega) (fun y hy=>(h.node y hy).1) hu h4 hfit (weight ns vals) (gY ns us k) (Pa h hfit) (hBd k (by omega)) H3 (H2.next+1) ns.length sb fb kN hvl.symm ks kf (by omega) (by omega) hfs _ ⟨⟨_,_,_,_,_,_,_,by rw[aj,if_neg (by omega),jB,hBe]⟩,?_⟩);simp only[go_sem];refine⟨by rw[aj,if_neg (by omega)];exact jB,by rw[aG];omega,⟨⟨by rw[aG];omega,fun id h1 h2=>by rw[aj,if_neg h2,o3 _ (by omega)];exact hj.2.1 id h1 h2,by rw[aj,if_pos rfl,hs1]⟩,?_⟩⟩;unfold kQ;rw[aj,if_neg (by omega),kN,hvals]
 ·simp only[go_sem];exact ar.mk (by omega) (hK Hx (by omega) (fun id h1 h2=>(hj.2.1 id (by omega) h2).trans (o2.old _ h1)) (by have:=hj.2.2;rw[qO]at this;exact this))
theorem Pc (x y:Int)(hx:0<=x)(hy:0<=y):Int.gcd y (x % y)=Int.gcd y x:=by
 obtain⟨a,rfl⟩:=Int.eq_ofNat_of_zero_le hx;obtain⟨b,rfl⟩:=Int.eq_ofNat_of_zero_le hy;rw[<- Int.natCast_emod];show Nat.gcd b (a % b)=Nat.gcd b a;rw[Nat.gcd_comm b (a % b),<- Nat.gcd_rec]
theorem CY (g:Int)(n:Nat)(hg:1<=g/\g<=60)(hn:n<=8)(H:AHeap)(K:ARes->AHeap->Prop)(hK:K (.ret (aa (g ^ n))) H):ae Tryz.prog G0 85 [aa g,aa n] H K:=by
 refine ae.aP (n:=14) (rs:=[.tmp 4]) Tryz.func85 rfl rfl rfl (by decide) (by kernel_rfl) (by simp) ?_;simp only[go_sem];refine W.aK 8096 (by rfl) (fun ρ H'=>H'=H/\∃ k:Nat,ρ 7=aa k/\k<=n/\ρ 5=aa (g ^ k)) (fun ρ H=>n - (iv (ρ 7)).toNat) ?_ ?_
 ·simp only[go_sem];exact⟨0,rfl,by omega,by rw[Int.pow_zero]⟩
 rintro ρ H' ⟨rfl,k,h7,hk,h5⟩;refine af _ _ _ (by rfl) ?_;have hpow:∀ k:Nat,0<=g ^ k/\g ^ k<=60 ^ k:=fun k=>by
  induction k with
  | zero=>simp
  | succ k ih =>
   rw[Int.pow_succ,Int.pow_succ];exact⟨Int.mul_nonneg ih.1 (by omega),Int.mul_le_mul ih.2 hg.2 (by omega) (by have:=Int.pow_pos (n:=60) (m:=k) (by decide);omega)⟩
 by_cases hb:(k:Int)<n
 ·have h1:=hpow (k+1);have h2:=sO (k+1) (by omega);rw[Int.pow_succ]at h1;have w1:=IntWalk.i64_in (g ^ k*g) (by omega);have w2:=IntWalk.i64_in ((k:Int)+1) (by omega);simp only[go_sem,h7,h5,hb,w1,w2];exact⟨⟨k+1,rfl,by omega,by rw[Int.pow_succ]⟩,by omega⟩
 ·have e:k=n:=by omega
  subst e;simp only[go_sem,h7,h5,hb];exact ar.mk (Nat.le_refl _) hK
def fW (n d:Int):AVal:=.agg [.lit (.int .i64 (n.tdiv (Int.gcd n d:Int))),.lit (.int .i64 (d.tdiv (Int.gcd n d:Int)))]
theorem CZ (n d:Int)(hn:-4611686018427387904<=n/\n<=4611686018427387904)(hd:1<=d/\d<=4611686018427387904)(H:AHeap)(K:ARes->AHeap->Prop)(hK:K (.ret (fW n d)) H):ae Tryz.prog G0 84 [aa n,aa d] H K:=by
 refine ae.clo ⟨_,Tryz.func84,rfl,rfl⟩ fun hcl=>?_;have w1:=IntWalk.i64_in (0 - n) (by omega);have w2:(if 0 - n > n then 0 - n else n)=(n.natAbs:Int):=by split<;>omega
 have w3:(if n<0 - n then 0 - n else n)=(n.natAbs:Int):=w2;refine ae.aP (n:=25) (rs:=[.cell 4 41]) Tryz.func84 rfl rfl rfl (by decide) (by kernel_rfl) (by simp) ?_;simp only[go_sem,w1,w2];refine W.aK 258144 (by rfl) (fun ρ H'=>H'=ext H [.arr 0 41 [.lit (.int .i64 0),.lit (.int .i64 0)]]/\∃ x y:Int,ρ 5=aa x/\ρ 6=aa y/\0<=x/\0<=y/\Int.gcd x y=Int.gcd n d) (fun ρ H=>(iv (ρ 6)).toNat) ?_ ?_
 ·simp only[go_sem];exact⟨n.natAbs,d,rfl,rfl,by omega,by omega,by simp [Int.gcd]⟩
 rintro ρ H' ⟨rfl,x,y,h5,h6,hx,hy,hg⟩;refine W.env fun E hE=>?_;have e0:E 0=aa n:=by rw[hE];simp only[go_sem]
 have e1:E 1=aa d:=by rw[hE];simp only[go_sem]
 have e4:E 4=.ptr H.next 0 0:=by rw[hE];simp only[go_sem]
 have e5:E 5=aa x:=by rw[hE];simp only[go_sem,h5]
 have e6:E 6=aa y:=by rw[hE];simp only[go_sem,h6]
 clear hE;refine af _ _ _ (by rfl) ?_;by_cases hz:y=0
 ·subst hz;have e:x=(Int.gcd n d:Int):=by rw[<- hg,Int.gcd_zero_right];omega
  have g0:0<Int.gcd n d:=Int.gcd_pos_of_ne_zero_right _ (by omega);have hxz:¬ x=0:=by omega
  have hgn:(Int.gcd n d:Int)≠0:=by omega
  simp only[go_sem,e6];refine W.draw 6 [0,0,3,0,0,24] Tryz.mixed (by kernel_rfl) (by kernel_rfl) ?_;have b1:-4611686018427387904<=n.tdiv x/\n.tdiv x<=4611686018427387904:=by
   have h2:(n.tdiv x).natAbs<=n.natAbs:=(by rw[Int.natAbs_tdiv];exact Nat.div_le_self _ _);omega
  have b2:-4611686018427387904<=d.tdiv x/\d.tdiv x<=4611686018427387904:=by
   have h2:(d.tdiv x).natAbs<=d.natAbs:=(by rw[Int.natAbs_tdiv];exact Nat.div_le_self _ _);omega
  have u1:=IntWalk.i64_in (n.tdiv x) (by omega);have u2:=IntWalk.i64_in (d.tdiv x) (by omega);simp only[go_sem,e0,e1,e4,e5,hxz,u1,u2];refine ar.drop aI hcl (v':=fW n d) ?_ hK;rw[e];refine .agg rfl fun i hi _=>?_
  match i,hi with
  | 0,_=>exact .lit _
  | 1,_=>exact .lit _
 ·have m1:x.tmod y=x % y:=Int.tmod_eq_emod_of_nonneg hx;have m2:=Int.emod_nonneg x hz;have m3:=Int.emod_lt_of_pos x (show 0<y by omega);simp only[go_sem,e6,hz];refine W.draw 5 [0,0,0,6,3] Tryz.mixed (by kernel_rfl) (by kernel_rfl) ?_;simp only[go_sem,e5,e6,hz,m1];refine⟨⟨y,x % y,rfl,rfl,hy,m2,?_⟩,by rw[h6];simp only[aa,aU];omega⟩;rw[<- hg,Int.gcd_comm x y];exact Pc x y hx (by omega)
theorem C0 {g card a:Int}(hg:0<=g)(ha:0<=a/\a<card):j9 g card (bS g card a):=by
 refine⟨by rw[yR];omega,fun w hw=>?_,?_⟩
 ·unfold bS at hw;rcases List.mem_or_eq_of_mem_set hw with h|h
  ·have:=List.eq_of_mem_replicate h;omega
  ·omega
 ·unfold bS;have key:∀ (n i:Nat),i<n->((List.replicate n (0:Int)).set i g).sum=g:=by
   intro n
   induction n with
   | zero=>intro i h;omega
   | succ n ih =>
    intro i h;cases i with
    | zero=>simp [List.replicate_succ]
    | succ i=>rw[List.replicate_succ,List.set_cons_succ,List.sum_cons,ih i (by omega)];omega
  exact key _ _ (by omega)
theorem j8 (d:InfP)(c:Nat->Nat->Int):ak (bY d c)=ak d.nodes:=M6
theorem hZ (d:InfP)(c:Nat->Nat->Int):(bY d c).length=d.nodes.length:=kI _ _ _
theorem jl {d:InfP}{c:Nat->Nat->Int}{v:Nat}{x:NodeP}(h:d.nodes[v]?=some x):(bY d c)[v]?=some (eW d c (aE d).length v x):=nM h
theorem sF (d:InfP)(c:Nat->Nat->Int)(x:NodeP):aQ (bY d c) x=aQ d.nodes x:=by unfold aQ;rw[j8]
theorem yQ (d:InfP)(c:Nat->Nat->Int):bd (bY d c)=bd d.nodes:=by
 apply List.ext_getElem?;intro v;unfold bd;rw[List.getElem?_map,List.getElem?_map];rcases Nat.lt_or_ge v d.nodes.length with h|h
 ·obtain⟨x,hx⟩:=get_of_lt h;rw[jl hx,hx];simp only[Option.map_some,(jy d c _ v x).2]
 ·rw[List.getElem?_eq_none (by rw[hZ];exact h),List.getElem?_eq_none h]
theorem qN {d:InfP}{v:Nat}{x:NodeP}(hx:d.nodes[v]?=some x)(hb:d.decs.testBit v=true):(aE d)[bA d.decs v]?=some v:=nL (get_lt hx) hb
theorem sG {d:InfP}{c:Nat->Nat->Int}{v:Nat}{x:NodeP}(hx:d.nodes[v]?=some x)(hb:d.decs.testBit v=true):eW d c (aE d).length v x={ x with rows:=x.rows++dP d.grain d.nodes c (bA d.decs v) x } :=
 if_pos ⟨hb,get_lt (qN hx hb)⟩
theorem pj {d:InfP}{c:Nat->Nat->Int}{v k:Nat}{x:NodeP}(hb:¬ d.decs.testBit v=true):eW d c k v x=x:=if_neg fun h=>hb h.1
def vd (d:InfP)(c:Nat->Nat->Int):Prop:=∀ (k v r:Nat) (x:NodeP),(aE d)[k]?=some v->d.nodes[v]?=some x->r<bF d.nodes x->0<=c k r/\c k r<x.card
theorem C2 {d:InfP}(h:InfOk d){c:Nat->Nat->Int}(hc:vd d c):NetOk d.grain (bY d c):=by
 have h0:=h.net;refine⟨h0.g1,by rw[hZ];exact h.n.n1,fun y hy=>?_,by have:=h0.size;rw[j8]at this ⊢;exact this,by have:=h0.acyc;rw[yQ]at this ⊢;exact this,fun y hy=>?_⟩
 ·obtain⟨v,x,hx,rfl⟩:=sJ hy;have:=h0.node _ (List.mem_of_getElem? (jl (c:=fun _ _=>0) hx));rw[(jy ..).1,(jy ..).2,hZ]at this ⊢;exact this
 ·obtain⟨v,x,hx,rfl⟩:=sJ hy;have h1:=h0.rows _ (List.mem_of_getElem? (jl (c:=fun _ _=>0) hx));unfold fX at h1 ⊢;rw[sF]at h1 ⊢;by_cases hb:d.decs.testBit v=true
  ·rw[sG hx hb]at h1 ⊢;have x1:=(h.n.dec v x hx hb).1;refine⟨?_,fun r hr=>?_⟩
   ·have:=h1.1;rw[show ({ x with rows:=x.rows++dP d.grain d.nodes (fun _ _=>0) (bA d.decs v) x }:NodeP).rows.length=bF d.nodes x by simp [x1,dP]]at this;rw[show ({ x with rows:=x.rows++dP d.grain d.nodes c (bA d.decs v) x }:NodeP).rows.length=bF d.nodes x by simp [x1,dP]];exact this
   ·rw[show ({ x with rows:=x.rows++dP d.grain d.nodes c (bA d.decs v) x }:NodeP).rows=x.rows++dP d.grain d.nodes c (bA d.decs v) x from rfl,x1,List.nil_append]at hr;unfold dP at hr;obtain⟨i,hi,rfl⟩:=List.mem_map.1 hr;have:=h0.g1;exact C0 (by omega) (hc _ _ _ x (qN hx hb) hx (List.mem_range.1 hi))
  ·rw[pj hb]at h1 ⊢;exact h1
theorem C3 {d:InfP}{c:Nat->Nat->Int}{u:UtilP}(h:UtilOk d.nodes u):UtilOk (bY d c) u:=⟨by rw[hZ];exact h.vars,by rw[j8];exact h.size,h.w⟩
theorem ve {d:InfP}{p:List (List Int)}(h:PolOk d p):vd d (fixC p):=fun k v r x hv hx hr=>by
 obtain⟨l,a,hl,ha,he,hb⟩:=C8 h hv hx hr;rw[he];exact hb
def gK (d:InfP)(p:List (List Int)):Int:=gY (bY d (fixC p)) d.utils (bH d.nodes)
noncomputable def mE (d:InfP)(p:List (List Int)):AVal:=if eC d p=0 then fW (gK d p) (d.grain ^ d.nodes.length) else .agg [.lit (.int .i64 0),.lit (.int .i64 0)]
theorem vf (d:InfP)(c:Nat->Nat->Int):bH (bY d c)=bH d.nodes:=by unfold bH;rw[j8]
def C4 (d:InfP)(p:List (List Int)):Prop:=InfOk d->PolOk d p->∀ k,k<=bH d.nodes->-1000000000000000000<=gY (bY d (fixC p)) d.utils k/\gY (bY d (fixC p)) d.utils k<=1000000000000000000
set_option maxHeartbeats 1000000 in
theorem uQ (d:InfP)(hf:InfFit d)(p:List (List Int))(hp:po p)(hs:C4 d p)(H:AHeap)(K:ARes->AHeap->Prop)(hK:K (.ret (.tup [mE d p,aa (eC d p)])) H):ae Tryz.prog G0 27 [dW d,aA p] H K:=by
 refine ae.clo ⟨_,Tryz.func27,rfl,rfl⟩ fun hcl=>?_;refine ae.aP (n:=37) (rs:=[.cell 4 41,.tmp 5]) Tryz.func27 rfl rfl rfl (by decide) (by kernel_rfl) (by simp) ?_;simp only[go_sem,iA,cw];obtain⟨H1,hH1⟩:∃ H1,H1=ext H [.arr 0 38 [.lit (.int .i64 d.grain),.vec d.nodes.length (aB d.nodes),.lit (.int .u64 (d.decs:Int)),.vec d.utils.length (aS d.utils)],.arr 0 41 [.lit (.int .i64 0),.lit (.int .i64 0)]]:=⟨_,rfl⟩
 have g1:H1.get H.next=some (.arr 0 38 [.lit (.int .i64 d.grain),.vec d.nodes.length (aB d.nodes),.lit (.int .u64 (d.decs:Int)),.vec d.utils.length (aS d.utils)]):=by rw[hH1];exact bR ..
 have g2:H1.get (H.next+1)=some (.arr 0 41 [.lit (.int .i64 0),.lit (.int .i64 0)]):=by rw[hH1];exact aZ H _ 1 (by simp)
 have l1:=ag g1;have l2:=ag g2;have n1:H1.next=H.next+2:=by rw[hH1];rfl
 have o1:Over H H1:=by rw[hH1];exact .ext _ _
 rw[<- hH1];refine ay.clo (Pi d hf p hp _ _ ⟨trivial,?_⟩);by_cases hz:eC d p=0;rotate_left
 ·have hcell:(AVal.lit (.int .i64 (eC d p))).cells=[.lit (.int .i64 (eC d p))]:=rfl;have ef:sL d p=sK:=if_neg hz;have ev:mE d p=.agg [.lit (.int .i64 0),.lit (.int .i64 0)]:=if_neg hz;have l2':=ag (show (ext H1 [.arr 0 103 [.lit (.int .i64 0),.vec 0 []]]).get (H.next+1)=some (.arr 0 41 [.lit (.int .i64 0),.lit (.int .i64 0)]) by rw[dD _ _ _ (by omega)];exact g2);rw[ef];simp only[go_sem,hz,l2',sK];rw[ev]at hK;refine ar.bB (v':=.tup [.agg [.lit (.int .i64 0),.lit (.int .i64 0)],aa (eC d p)]) aI hcl (Over.upd (id:=H.next+1) (o1.trans (.ext _ _)) (Nat.le_succ _) _) (.tup rfl fun i hi _=>?_) hK
  match i,hi with
  | 0,_ =>
   refine .agg rfl fun i hi _=>?_
   match i,hi with
   | 0,_=>exact .lit _
   | 1,_=>exact .lit _
  | 1,_=>exact .lit _
 obtain⟨hok,hpo⟩:=yT.1 hz;have ef:sL d p=da d.grain (bY d (fixC p)):=if_pos hz;have ev:mE d p=fW (gK d p) (d.grain ^ d.nodes.length):=if_pos hz;rw[hz,ef,da,dB];rw[hz,ev]at hK;have hnet:=C2 hok (ve hpo);have hsum:=hs hok hpo;have hw:=vf d (fixC p);have hfl:=hZ d (fixC p);obtain⟨ns,hns⟩:∃ ns,ns=bY d (fixC p):=⟨_,rfl⟩
 rw[<- hns]at hnet hsum hw hfl ⊢;obtain⟨H2,hH2⟩:∃ H2,H2=ext H1 [.arr 0 103 [.lit (.int .i64 d.grain),.vec ns.length (aB ns)]]:=⟨_,rfl⟩
 have n2:H2.next=H1.next+1:=by rw[hH2];rfl
 have o2:Over H1 H2:=by rw[hH2];exact .ext _ _
 have q1:=ag ((o2.old _ (by omega)).trans g1);have q3:=ag (show H2.get H1.next=some (.arr 0 103 [.lit (.int .i64 d.grain),.vec ns.length (aB ns)]) by rw[hH2];exact bL);rw[hH2]at q1 q3;simp only[go_sem,q1,q3];obtain⟨H3,hH3⟩:∃ H3,H3=ext H1 [.arr 0 103 [.lit (.int .i64 d.grain),.vec ns.length (aB ns)],.arr 0 147 [.lit (.int .i64 d.grain),.vec ns.length (aB ns),.vec d.utils.length (aS d.utils)],.arr 0 3 [.lit (.int .i64 0)]]:=⟨_,rfl⟩
 have n3:H3.next=H1.next+3:=by rw[hH3];rfl
 have o3:Over H H3:=by rw[hH3];exact o1.trans (.ext _ _)
 have r1:H3.get (H1.next+1)=some (.arr 0 147 [.lit (.int .i64 d.grain),.vec ns.length (aB ns),.vec d.utils.length (aS d.utils)]):=by rw[hH3];exact aZ H1 _ 1 (by simp)
 have r2:H3.get (H1.next+2)=some (.arr 0 3 [.lit (.int .i64 0)]):=by rw[hH3];exact aZ H1 _ 2 (by simp)
 have r0:H3.get (H.next+1)=some (.arr 0 41 [.lit (.int .i64 0),.lit (.int .i64 0)]):=by rw[hH3,dD _ _ _ (by omega)];exact g2
 rw[<- hH3];refine ay.clo (Pb d.grain ns d.utils hnet (fun u hu=>by rw[hns];exact C3 (hok.utils.2 u hu)) hok.utils.1 (fun k hk=>hsum k (by omega)) H3 (H1.next+2) (H1.next+1) r2 r1 (by omega) (by omega) (by omega) _ fun H4 h4 old hsb=>⟨trivial,?_⟩);have s1:=ag ((old (H1.next+1) (by omega) (by omega)).trans r1);have s2:=ag hsb;have s0:=ag ((old (H.next+1) (by omega) (by omega)).trans r0);rw[hw]at s2;simp only[go_sem];refine W.draw 9 [0,0,2,6,0,16,48,112,254] Tryz.mixed (by kernel_rfl) (by kernel_rfl) ?_;simp only[go_sem,s1,s2];have gp:=hok.net.g1;have gn:=hok.n.n1;have pw0:1<=d.grain ^ ns.length:=Int.pow_pos (by omega);have pw1:d.grain ^ ns.length<=167961600000000:=by
  have key:∀ k:Nat,d.grain ^ k<=60 ^ k:=fun k=>by
   induction k with
   | zero=>simp
   | succ k ih =>
    rw[Int.pow_succ,Int.pow_succ];exact Int.mul_le_mul ih gp.2 (by omega) (by have:=Int.pow_pos (n:=60) (m:=k) (by decide);omega)
  have:=key ns.length;have:=sO ns.length (by omega);omega
 have hsw:=hsum (bH d.nodes) (Nat.le_refl _);refine⟨aa (d.grain ^ ns.length),[],bX.pure (fun H2=>CY d.grain ns.length gp (by omega) H2 _ ⟨rfl,rfl⟩),?_⟩;refine ay.clo (CZ _ _ (by omega) (by omega) _ _ ⟨trivial,?_⟩);simp only[go_sem,s0,fW];have o4:Over H H4:=⟨by have:=o3.next;omega,fun id h=>(old id (by omega) (by omega)).trans (o3.old id h)⟩
 refine ar.bB (v':=.tup [fW (gK d p) (d.grain ^ d.nodes.length),aa 0]) aI hcl (Over.upd (id:=H.next+1) o4 (Nat.le_succ _) _) (.tup rfl fun i hi _=>?_) hK
 match i,hi with
 | 0,_ =>
  unfold gK fW;rw[<- hns,hfl];refine .agg rfl fun i hi _=>?_
  match i,hi with
  | 0,_=>exact .lit _
  | 1,_=>exact .lit _
 | 1,_=>exact .lit _
end Go.Proofs
namespace Go.Proofs.R01
open Go.Hx
section
variable {P:Program} {t:TypeId} {x y:Operand} {k k':IntKind} {a b:Int}
theorem pureRun_bind {α β:Type}{s:Sem α}{f:α->Sem β}{a:α}(h:bC P s=some a):bC P (s >>= f)=bC P (f a):=by
 induction s with
 | pure b=>simp only[bC,Option.some.injEq]at h;subst h;rfl
 | program k ih=>exact ih P h
 | mark m k ih=>exact ih h
 | _=>simp [bC]at h
theorem CA {t:TypeId}{a b:Bool}(n:Nat)(ht:P.underlying t=some .bool):bC P (Op.equalIn (n+1) t (.bool a) (.bool b))=some (a == b):=by
 unfold Op.equalIn;simp [underlying,program,ht,bC,bind,Sem.bind,pure]
theorem Ov {t:TypeId}{x y:Operand}{a b:Bool}(ht:P.underlying t=some .bool):bp P .eql t x y (.lit (.bool a)) (.lit (.bool b))=some (.lit (.bool (a == b))):=by
 have h1:(do eqGuard .eql t x y (.bool a) (.bool b);binOp .eql t (.bool a) (.bool b))=(Op.equalIn (9999+1) t (.bool a) (.bool b) >>= fun r=>pure (Value.bool r)):=rfl;show (bC P _).map _=_;rw[h1,pureRun_bind (CA 9999 ht)];rfl
theorem uR {t:TypeId}{x y:Operand}{a b:Bool}(ht:P.underlying t=some .bool):bp P .neq t x y (.lit (.bool a)) (.lit (.bool b))=some (.lit (.bool (!(a == b)))):=by
 have h1:(do eqGuard .neq t x y (.bool a) (.bool b);binOp .neq t (.bool a) (.bool b))=(Op.equalIn (9999+1) t (.bool a) (.bool b) >>= fun r=>pure (Value.bool (!r))):=rfl;show (bC P _).map _=_;rw[h1,pureRun_bind (CA 9999 ht)];rfl
end
section
variable {P:Program} {G:Nat->Option (List AVal)}
theorem CB {n m:Nat}{v:AVal}(h:Below n v)(hm:n<=m):Below m v:=by
 induction h with
 | lit v=>exact .lit v
 | vec h ih=>exact .vec ih
 | vptr h ih=>exact .vptr ih
 | agg h ih=>exact .agg ih
 | tup h ih=>exact .tup ih
 | clo h1 h2 ih1 ih2=>exact .clo ih1 ih2
 | own h=>exact .own (by omega)
 | ptr h=>exact .ptr (by omega)
 | yld h=>exact .yld (by omega)
theorem Ow {n m:Nat}{b:Blk}(h:rQ n b)(hm:n<=m):rQ m b:=by
 cases b with
 | arr g e cells=>exact fun i hi=>CB (h i hi) hm
 | loop st pend n env ps asg body=>exact fun t ht=>CB (h t ht) hm
 | rsv=>trivial
 | mp=>exact h
theorem Ox {H:AHeap}(hc:Clo H){L:List Blk}(h:∀ b,b∈L->rQ (H.next+L.length) b):Clo (ext H L):=by
 have key:∀ id b,(ext H L).get id=some b->(id<H.next/\H.get id=some b)\/(id<H.next+L.length/\b∈L):=by
  intro id b hb;by_cases h1:id<H.next
  ·rw[dD _ _ _ h1]at hb;exact .inl ⟨h1,hb⟩
  ·by_cases h2:id<H.next+L.length
   ·have:=aZ H L (id - H.next) (by omega);rw[show H.next+(id - H.next)=id by omega,hb]at this;exact .inr ⟨h2,List.mem_of_getElem? this.symm⟩
   ·have:(ext H L).get id=H.get id:=(by unfold ext;simp only;rw[if_neg (by omega)]);rw[this]at hb;exact absurd (hc.lt _ _ hb) h1
 refine⟨fun id b hb=>?_,fun id b hb=>?_⟩
 ·rw[aY];rcases key id b hb with ⟨h1,_⟩|⟨h1,_⟩<;>omega
 ·rw[aY];rcases key id b hb with ⟨_,h1⟩|⟨_,h1⟩
  ·exact Ow (hc.below _ _ h1) (by omega)
  ·exact h b h1
theorem Oy {n g:Nat}{e:TypeId}{cells:List AVal}(h:∀ c,c∈cells->∃ v,c=.lit v):rQ n (.arr g e cells):=fun i hi=>by
 obtain⟨v,hv⟩:=h _ (List.getElem_mem hi);rw[hv];exact .lit v
end
def qV (n d:Int):AVal:=.agg [.lit (.int .i64 n),.lit (.int .i64 d)]
def cK (p q:Int):Int:=if p<q then -1 else if p=q then 0 else 1
end Go.Proofs.R01
namespace Go.Proofs.R01
open Go.Hx
def val:List Int -> Nat
  | [] => 0
  | a :: l => a.toNat + 10000 * val l
def aC (n:Nat):List Int := if h:n = 0 then [] else ((n % 10000:Nat):Int) :: aC (n / 10000)
termination_by n
decreasing_by omega
theorem iw:aC 0 = [] := by rw[aC]; rfl
theorem nU {n:Nat}(h:n ≠ 0):aC n = ((n % 10000:Nat):Int) :: aC (n / 10000) := by
  conv => lhs; rw[aC]
  rw[dif_neg h]
theorem jV:∀ n:Nat, val (aC n) = n := by
  intro n
  induction n using Nat.strongRecOn with
  | _ n ih =>
    by_cases h:n = 0
    · subst h; rw[iw]; rfl
    · rw[nU h, val, ih _ (by omega)];omega
def Dg (l:List Int):Prop := ∀ c, c ∈ l -> 0 <= c /\ c <= 9999
theorem lL:∀ n:Nat, Dg (aC n) := by
  intro n
  induction n using Nat.strongRecOn with
  | _ n ih =>
    by_cases h:n = 0
    · subst h; rw[iw]; intro c hc; cases hc
    · rw[nU h];intro c hc;rcases List.mem_cons.1 hc with rfl | hc
      · omega
      · exact ih _ (by omega) c hc
theorem qB:∀ (l m:List Int), val (l ++ m) = val l + 10000 ^ l.length * val m
  | [], m => by simp [val]
  | a :: l, m => by
    simp only[List.cons_append, val, qB l m, List.length_cons, Nat.pow_succ, Nat.mul_add];rw[show 10000 * (10000 ^ l.length * val m) = 10000 ^ l.length * 10000 * val m by ac_rfl];omega
theorem nV:∀ {l:List Int}, Dg l -> val l < 10000 ^ l.length
  | [], _ => by simp [val]
  | a :: l, h => by
    have ih := nV (l := l) fun c hc => h c (by simp [hc]);have ha := h a (by simp);simp only[val, List.length_cons, Nat.pow_succ];omega
theorem oZ {n k:Nat}(h:n < 10000 ^ k):(aC n).length <= k := by
  induction k generalizing n with
  | zero => have : n = 0 := by simpa using h
            subst this; rw[iw]; simp
  | succ k ih =>
    by_cases h0:n = 0
    · subst h0; rw[iw]; simp
    · rw [nU h0, List.length_cons];have : n / 10000 < 10000 ^ k := by
        rw[Nat.pow_succ]at h;exact Nat.div_lt_of_lt_mul (by rw[Nat.mul_comm]; exact h)
      have := ih this;omega
theorem Co:∀ {l:List Int}, Dg l -> (∀ a, l.getLast? = some a -> a ≠ 0) -> aC (val l) = l
  | [], _, _ => iw
  | a :: l, h, hl => by
    have ha := h a (by simp);have hd:Dg l := fun c hc => h c (by simp [hc]);have ih := Co (l := l) hd fun b hb => hl b (by
      cases l with
      | nil => cases hb
      | cons c l => simpa [List.getLast?_cons_cons] using hb)
    by_cases h0:val (a :: l) = 0
    · exfalso;simp only[val]at h0;have a0:a = 0 :=(by omega);have v0:val l = 0 :=(by omega);rw[v0, iw]at ih;exact hl a (by rw[<- ih]; rfl) a0
    · rw[nU h0];have e1:val (a :: l) % 10000 = a.toNat :=(by simp only[val]; omega);have e2:val (a :: l) / 10000 = val l :=(by simp only[val]; omega);rw[e1, e2, ih];congr 1;omega
theorem Oh (k:Nat):val (List.replicate k 0) = 0 := by
  induction k with
  | zero => rfl
  | succ k ih => simp [List.replicate_succ, val, ih]
theorem yw {n:Nat}:aC n = [] ↔ n = 0 := by
  constructor
  · intro h;have := jV n;rw[h]at this;exact this.symm
  · rintro rfl; exact iw
theorem Cp (b:Nat):b ≠ 0 -> 10000 ^ ((aC b).length - 1) <= b := by
  induction b using Nat.strongRecOn with
  | _ b ih =>
    intro hb;rw[nU hb, List.length_cons, Nat.add_sub_cancel];by_cases h1:b / 10000 = 0
    · rw[h1, iw]; simp; omega
    · have := ih _ (by omega) h1;have hl : (aC (b / 10000)).length ≠ 0 := by
        intro h;exact h1 (yw.1 (List.eq_nil_of_length_eq_zero h))
      obtain⟨k, hk⟩:∃ k, (aC (b / 10000)).length = k + 1 := ⟨_, (Nat.succ_pred_eq_of_ne_zero hl).symm⟩
      rw[hk]at this ⊢;rw[Nat.add_sub_cancel]at this;rw[Nat.pow_succ];omega
theorem qC {a b:Nat}(h:(aC a).length < (aC b).length):a < b := by
  rcases Nat.lt_or_ge a b with h1 | h1
  · exact h1
  · exfalso;have h2 := Cp b (by intro h0; rw[h0, iw]at h; simp at h);have h3 := nV (lL a);rw[jV]at h3;have h4:10000 ^ (aC a).length <= 10000 ^ ((aC b).length - 1) := Nat.pow_le_pow_right (by decide) (by omega);omega
end Go.Proofs.R01
namespace Go.Proofs.R01
open Go.Hx
theorem Cq {α:Type}{l:List α}{i:Nat}{a:α}(h:l[i]? = some a):l.take (i + 1) = l.take i ++ [a] := by
  rw[List.take_add_one, h]; rfl
theorem mD {H H' H2:AHeap}{v:AVal}{cs:List AVal}{e:TypeId}(ov:Over H H')(h:aD H.next H' e v cs)(hn:H'.next <= H2.next)(hp:∀ k, k < H'.next -> (∀ g n, v ≠ .own k g 0 n 1) -> H2.get k = H'.get k):Over H H2 :=
  ⟨by have := ov.next; omega, fun id hid => by
    rw[hp id (by have := ov.next; omega) fun g n he => ?_, ov.old id hid]
    rcases h with ⟨h, _⟩ | ⟨i2, g2, a1, _, h, _⟩
    · rw[h]at he; cases he
    · rw[h]at he; have := AVal.own.inj he; omega⟩
theorem pe (n:Int)(hn:-9223372036854775808 <= n /\ n <= 9223372036854775807)(H:AHeap)(K:ARes -> AHeap -> Prop)(hK:K (.ret (ah (aC n.natAbs))) H):ae Tryz.prog G0 89 [.lit (.int .i64 n)] H K := by
  refine ae.clo ⟨_, Tryz.func89, rfl, rfl⟩ fun hcl => ?_
  refine ae.aP (n := 19) (rs := [.tmp 2]) Tryz.func89 rfl rfl rfl (by decide) (by kernel_rfl) (by simp) ?_
  simp only[go_sem, aW]
  refine W.aK 262137 (by rfl) (fun ρ H' => ∃ (c:Int) (done:List Int), ρ 0 = aa c /\ Over H H' /\ aD H.next H' 3 (ρ 3) (ints done) /\ aC n.natAbs = done ++ aC c.natAbs /\ c.natAbs <= n.natAbs) (fun ρ H => (iv (ρ 0)).natAbs) ?_ ?_
  · simp only[go_sem, aW]
    exact⟨n, [], rfl, .refl _, .nil, by simp, by omega⟩
  rintro ρ H' ⟨c, done, h0, ov, h3, hd, hc⟩
  refine af _ _ _ (by rfl) ?_
  by_cases hz:c = 0
  · subst hz
    simp only[go_sem, h0, aW]
    rw[show (0:Int).natAbs = 0 from rfl, iw, List.append_nil]at hd
    rw[hd]at hK
    exact ar.bB aI hcl ov (h3.gE fun i hi => hi) hK
  · have hq:(c.tdiv 10000).natAbs = c.natAbs / 10000 := by rw[Int.natAbs_tdiv]; rfl
    have hr:(c.tmod 10000).natAbs = c.natAbs % 10000 := by rw[Int.natAbs_tmod]; rfl
    have w1 := IntWalk.i64_in (c.tmod 10000) (by omega)
    have w2 := IntWalk.i64_in (0 - c.tmod 10000) (by omega)
    have w3 := IntWalk.i64_in (c.tdiv 10000) (by omega)
    have hmax:(if 0 - c.tmod 10000 > c.tmod 10000 then 0 - c.tmod 10000 else c.tmod 10000) = ((c.natAbs % 10000:Nat):Int) := by split <;> omega
    have h5 : (aC n.natAbs).length ≤ 5 := oZ (by have : (10000 : Nat) ^ 5 = 100000000000000000000 := by decide
                                                 omega)
    have hlen:done.length <= 5 := by rw[hd, List.length_append]at h5; omega
    have hdc := nU (n := c.natAbs) (by omega)
    obtain⟨v', H2, hA, hO, hn2, hp⟩ := iK (P := Tryz.prog) (H := H') (t := 46) (x := aa (c.natAbs % 10000:Nat)) (n := H'.next + 1) Tryz.underlying46 Tryz.eU Tryz.eV rfl (by rw[Tryz.fG, aR]; omega) h3 ov.next rfl
    simp only[aa]at hA
    simp only[go_sem, h0, hz, w1, w2, w3, hmax, hA]
    have ov2:Over H H2 := mD ov h3 hn2 hp
    refine⟨ov2.next, ⟨c.tdiv 10000, done ++ [((c.natAbs % 10000:Nat):Int)], rfl, ov2, ?_, ?_, by omega⟩, by omega⟩
    · simpa [ints, aa] using hO
    · rw[hd, hdc, hq]; simp
theorem ss (l:List Int)(hl:Dg l)(hn:(l.length:Int) < 2 ^ 40)(H:AHeap)(K:ARes -> AHeap -> Prop)(hK:K (.ret (ah (aC (val l)))) H):ae Tryz.prog G0 125 [ah l] H K := by
  refine ae.aP (n := 21) (rs := [.tmp 2]) Tryz.func125 rfl rfl rfl (by decide) (by kernel_rfl) (by simp) ?_
  simp only[go_sem, aW]
  refine W.aK 1048569 (by rfl) (fun ρ H' => H = H' /\ ∃ (m:List Int), ρ 0 = ah m /\ Dg m /\ val m = val l /\ m.length <= l.length) (fun ρ H => (match ρ 0 with | .vec n _ => n | _ => 0)) ?_ ?_
  · simp only[go_sem, aW]
    exact⟨l, rfl, hl, rfl, Nat.le_refl _⟩
  rintro ρ H' ⟨rfl, m, h0, hd, hv, hm⟩
  refine af _ _ _ (by rfl) ?_
  unfold ah at h0
  by_cases hz:m.length = 0
  · have hm0:m = [] := List.eq_nil_of_length_eq_zero hz
    subst hm0
    have z1:¬ (0:Int) < ((0:Nat):Int) := by omega
    simp only[go_sem, h0, zo, List.length_nil, aW]
    rw[<- hv]at hK
    have:aC (val []) = [] := iw
    rw[this]at hK
    exact ar.mk (Nat.le_refl _) hK
  · obtain⟨a, ha⟩:∃ a, m[m.length - 1]? = some a := ⟨_, List.getElem?_eq_getElem (by omega)⟩
    have hmn:¬ m = [] := by rintro rfl; simp at hz
    have z1:(0:Int) < (m.length:Int) := by omega
    have w1:IntKind.i64.wrap ((m.length:Int) - 1) = ((m.length - 1:Nat):Int) := by rw[IntWalk.i64_in _ (by omega)]; omega
    have b1:((m.length - 1:Nat):Int) < (m.length:Int) := by omega
    have b2:((m.length - 1:Nat):Int) <= (m.length:Int) := by omega
    by_cases h0a:a = 0
    · subst h0a
      simp only[go_sem, h0, z1, w1, b1, b2, ha, hmn, aW]
      have hs:m.take (m.length - 1) ++ [0] = m := by
        have h := Cq ha
        rw[Nat.sub_add_cancel (by omega), List.take_length]at h
        exact h.symm
      refine⟨⟨m.take (m.length - 1), ?_, fun c hc => hd c (List.mem_of_mem_take hc), ?_, by simp; omega⟩, by omega⟩
      · simp only[List.length_take, zm]; congr 1; omega
      · rw[<- hv]
        conv => rhs; rw[<- hs]
        rw[qB]; simp [val]
    · simp only[go_sem, h0, z1, w1, b1, b2, ha, hmn, h0a, aW]
      have hlast:m.getLast? = some a := by rw[List.getLast?_eq_getElem?]; exact ha
      have := Co hd fun b hb => by rw[hlast]at hb; cases hb; exact h0a
      rw[<- hv, this]at hK
      exact ar.mk (Nat.le_refl _) hK
theorem Cr {x y:List Int}(hx:Dg x)(hy:Dg y)(hl:x.length = y.length){k:Nat}{a b:Int}(ha:x[k]? = some a)(hb:y[k]? = some b)(he:∀ j, k < j -> x[j]? = y[j]?)(hab:a < b):val x < val y := by
  have sp:∀ {l:List Int} {c:Int}, l[k]? = some c -> l = l.take k ++ c :: l.drop (k + 1) := fun {l c} h => by
    have hk := (List.getElem?_eq_some_iff.1 h).1
    have h2 := (List.getElem?_eq_some_iff.1 h).2
    conv => lhs; rw[<- List.take_append_drop k l]
    rw[List.drop_eq_getElem_cons hk, h2]
  have e1:x.drop (k + 1) = y.drop (k + 1) := by
    apply List.ext_getElem?
    intro i
    rw[List.getElem?_drop, List.getElem?_drop]
    exact he _ (by omega)
  have hk := (List.getElem?_eq_some_iff.1 ha).1
  have hk2 := (List.getElem?_eq_some_iff.1 hb).1
  rw[sp ha, sp hb, qB, qB, e1]
  have l1:(x.take k).length = k := by simp; omega
  have l2:(y.take k).length = k := by simp; omega
  rw[l1, l2]
  have v1 := nV (l := x.take k) fun c hc => hx c (List.mem_of_mem_take hc)
  have v2:0 <= val (y.take k) := Nat.zero_le _
  rw[l1]at v1
  have pa := hx a (List.mem_of_getElem? ha)
  have pb := hy b (List.mem_of_getElem? hb)
  simp only[val]
  have h3:10000 ^ k * (a.toNat + 10000 * val (y.drop (k + 1))) + 10000 ^ k <= 10000 ^ k * (b.toNat + 10000 * val (y.drop (k + 1))) := by
    have:a.toNat + 10000 * val (y.drop (k + 1)) + 1 <= b.toNat + 10000 * val (y.drop (k + 1)) := by omega
    calc _ = 10000 ^ k * (a.toNat + 10000 * val (y.drop (k + 1)) + 1) := (Nat.mul_succ _ _).symm
      _ <= _ := Nat.mul_le_mul_left _ this
  omega
theorem su (x y:Nat)(hx:((aC x).length:Int) < 2 ^ 40)(H:AHeap)(K:ARes -> AHeap -> Prop)(hK:K (.ret (.lit (.int .i64 (cK x y)))) H):ae Tryz.prog G0 87 [ah (aC x), ah (aC y)] H K := by
  obtain⟨p, hp⟩:∃ p, p = aC x := ⟨_, rfl⟩
  obtain⟨q, hq⟩:∃ q, q = aC y := ⟨_, rfl⟩
  have dx := lL x
  have dy := lL y
  have vx := jV x
  have vy := jV y
  have lt1:p.length < q.length -> x < y := fun h => qC (by rw[<- hp, <- hq]; exact h)
  have lt2:q.length < p.length -> y < x := fun h => qC (by rw[<- hp, <- hq]; exact h)
  rw[<- hp]at hx dx vx ⊢
  rw[<- hq]at dy vy ⊢
  refine ae.aP (n := 41) (rs := [.tmp 4]) Tryz.func87 rfl rfl rfl (by decide) (by kernel_rfl) (by simp) ?_
  by_cases hl:(p.length:Int) = q.length
  rotate_left
  · by_cases hl2:(p.length:Int) < q.length
    · have:cK x y = -1 := by unfold cK; rw[if_pos (by have := lt1 (by omega); omega)]
      rw[this]at hK
      simp only[go_sem, hl, hl2, aW]
      exact ar.mk (Nat.le_refl _) hK
    · have := lt2 (by omega)
      have:cK x y = 1 := by unfold cK; rw[if_neg (by omega), if_neg (by omega)]
      rw[this]at hK
      simp only[go_sem, hl, hl2, aW]
      exact ar.mk (Nat.le_refl _) hK
  have hln:p.length = q.length := by omega
  have w0 := IntWalk.i64_in ((p.length:Int) - 1) (by omega)
  simp only[go_sem, hl, w0, aW]
  rw[<- hl, w0]
  refine W.aK 2199022731312 (by rfl) (fun ρ H' => H = H' /\ ∃ (k:Nat), ρ 5 = aa ((k:Int) - 1) /\ k <= p.length /\ ∀ j, k <= j -> p[j]? = q[j]?) (fun ρ H => (iv (ρ 5) + 1).toNat) ?_ ?_
  · simp only[go_sem, aW]
    exact⟨p.length, by simp, Nat.le_refl _, fun j hj => by rw[List.getElem?_eq_none hj, List.getElem?_eq_none (by omega)]⟩
  rintro ρ H' ⟨rfl, k, h5, hk, he⟩
  refine af _ _ _ (by rfl) ?_
  by_cases hz:k = 0
  · subst hz
    have z1:¬ (0:Int) <= ((0:Nat):Int) - 1 := by omega
    have e0:p = q := List.ext_getElem? fun j => he j (Nat.zero_le _)
    have:x = y := by rw[<- vx, <- vy, e0]
    have:cK x y = 0 := by unfold cK; rw[if_neg (by omega), if_pos (by omega)]
    rw[this]at hK
    simp only[go_sem, h5, z1, aW]
    exact ar.mk (Nat.le_refl _) hK
  · obtain⟨j, rfl⟩:∃ j, k = j + 1 := ⟨k - 1, by omega⟩
    obtain⟨a, ha⟩:∃ a, p[j]? = some a := ⟨_, List.getElem?_eq_getElem (by omega)⟩
    obtain⟨b, hb⟩:∃ b, q[j]? = some b := ⟨_, List.getElem?_eq_getElem (by omega)⟩
    have hpn:¬ p = [] := by rintro rfl; simp at ha
    have hqn:¬ q = [] := by rintro rfl; simp at hb
    have ej:((j + 1:Nat):Int) - 1 = (j:Int) := by omega
    rw[ej]at h5
    have z1:(0:Int) <= (j:Int) := by omega
    have b1:(j:Int) < p.length := by omega
    have b2:(j:Int) < q.length := by omega
    have w2 := IntWalk.i64_in ((j:Int) - 1) (by omega)
    simp only[go_sem, h5, z1, aW]
    refine W.draw 8 [0, 0, 3, 7, 0, 0, 48, 112] Tryz.mixed (by kernel_rfl) (by kernel_rfl) ?_
    by_cases hab:a = b
    · subst hab
      simp only[go_sem, h5, z1, b1, b2, ha, hb, hpn, hqn, w2, aW]
      exact⟨⟨j, rfl, by omega, fun i hi => by
        rcases Nat.lt_or_ge j i with h | h
        · exact he i (by omega)
        · obtain rfl:i = j := by omega
          rw[ha, hb]⟩, by omega⟩
    · simp only[go_sem, h5, z1, b1, b2, ha, hb, hpn, hqn, hab, aW]
      refine W.draw 8 [0, 0, 3, 7, 0, 0, 48, 112] Tryz.mixed (by kernel_rfl) (by kernel_rfl) ?_
      by_cases hlt:a < b
      · have h1 := Cr dx dy hln ha hb (fun i hi => he i (by omega)) hlt
        rw[vx, vy]at h1
        have:cK x y = -1 := by unfold cK; rw[if_pos (by omega)]
        rw[this]at hK
        simp only[go_sem, h5, z1, b1, b2, ha, hb, hpn, hqn, hlt, aW]
        exact ar.mk (Nat.le_refl _) hK
      · have h1 := Cr dy dx hln.symm hb ha (fun i hi => (he i (by omega)).symm) (by omega)
        rw[vx, vy]at h1
        have:cK x y = 1 := by unfold cK; rw[if_neg (by omega), if_neg (by omega)]
        rw[this]at hK
        simp only[go_sem, h5, z1, b1, b2, ha, hb, hpn, hqn, hlt, aW]
        exact ar.mk (Nat.le_refl _) hK
end Go.Proofs.R01
namespace Go.Proofs.R01
open Go.Hx
theorem qD {l:List Int}{i X:Nat}(h:l.drop i=aC X):(i<l.length↔X≠0)/\(X≠0->l[i]?=some ((X % 10000:Nat):Int))/\l.drop (i+1)=aC (X / 10000):=by
 have hl:l.length - i=(aC X).length:=by rw[<- h,List.length_drop]
 by_cases h0:X=0
 ·subst h0;rw[iw]at h hl;simp only[List.length_nil]at hl;refine⟨⟨fun h=>by omega,fun h=>absurd rfl h⟩,fun h=>absurd rfl h,?_⟩;rw[iw,List.drop_eq_nil_iff.2 (by omega)]
 ·rw[nU h0]at h hl;simp only[List.length_cons]at hl;refine⟨⟨fun _=>h0,fun _=>by omega⟩,fun _=>?_,?_⟩
  ·have:=congrArg (fun m=>m[0]?) h;simpa [List.getElem?_drop] using this
  ·have:=congrArg List.tail h;simpa [List.tail_drop] using this
theorem yx {n:Nat}{k:Nat}(h:(aC n).length<=k):n<10000 ^ k:=by
 have:=nV (lL n);rw[jV]at this;exact Nat.lt_of_lt_of_le this (Nat.pow_le_pow_right (by decide) h)
set_option maxHeartbeats 1000000 in
theorem Oi (x y:Nat)(hxy:y<=x)(hx:(aC x).length<=200)(H:AHeap)(K:ARes->AHeap->Prop)(hK:K (.ret (ah (aC (x - y)))) H):ae Tryz.prog G0 93 [ah (aC x),ah (aC y)] H K:=by
 refine ae.clo ⟨_,Tryz.func93,rfl,rfl⟩ fun hcl=>?_;have vx:=jV x;obtain⟨p,hp⟩:∃ p,p=aC x:=⟨_,rfl⟩
 obtain⟨q,hq⟩:∃ q,q=aC y:=⟨_,rfl⟩
 rw[<- hp]at hx vx ⊢;rw[<- hq];refine ae.aP (n:=41) (rs:=[.tmp 4]) Tryz.func93 rfl rfl rfl (by decide) (by kernel_rfl) (by simp) ?_;simp only[go_sem];refine W.aK 549755813856 (by rfl) (fun ρ H'=>∃ (i c X Y:Nat) (done:List Int),ρ 7=aa i/\ρ 6=aa c/\c<=1/\i<=p.length/\Over H H'/\aD H.next H' 3 (ρ 5) (ints done)/\done.length=i/\Dg done/\p.drop i=aC X/\q.drop i=aC Y/\val done+10000 ^ i*X=(x - y)+10000 ^ i*(Y+c)) (fun ρ H=>p.length - (iv (ρ 7)).toNat) ?_ ?_
 ·simp only[go_sem];exact⟨0,0,x,y,[],rfl,rfl,by omega,by omega,.refl _,.nil,rfl,(fun c hc=>by cases hc),by simpa using hp,by simpa using hq,by simp [val];omega⟩
 rintro ρ H' ⟨i,c,X,Y,done,h7,h6,hc,hi,ov,h5,hl,hdg,hX,hY,he⟩;refine af _ _ _ (by rfl) ?_;obtain⟨a1,a2,a3⟩:=qD hX;obtain⟨b1,b2,b3⟩:=qD hY;by_cases hb:(i:Int)<p.length;rotate_left
 ·simp only[go_sem,h7,hb];have hX0:X=0:=by
   rcases Nat.eq_zero_or_pos X with h|h
   ·exact h
   ·have:=a1.2 (by omega);omega
  have hv:=nV hdg;rw[hl]at hv;have hYc:Y+c=0:=by
   rcases Nat.eq_zero_or_pos (Y+c) with h|h
   ·exact h
   ·have:10000 ^ i*1<=10000 ^ i*(Y+c):=Nat.mul_le_mul_left _ h;rw[hX0]at he;omega
  have hvd:val done=x - y:=by rw[hX0,hYc]at he;omega
  refine ay.lu H.next (args':=[ah done]) aI rfl (fun j hj _=>match j,hj with|0,_=>h5.gE fun i hi=>hi) (ss done hdg (by omega) _ _ ⟨trivial,?_⟩);rw[hvd];have ov3:Over H (H'.cut H.next):=ov.iX (Nat.le_refl _);simp only[go_sem];exact ar.bB aI hcl ov3 (.dG _) hK
 have hx0:X≠0:=a1.1 (by omega);have g1:=a2 hx0;have pn:¬ p=[]:=by rintro rfl;simp at hb;omega
 have w3:=IntWalk.i64_in ((i:Int)+1) (by omega);obtain⟨d,c',hd,hd2,hc'⟩:∃ d c':Nat,(d:Int)=((X % 10000:Nat):Int) - c - ((Y % 10000:Nat):Int)+10000*(c':Int)/\d<=9999/\c'<=1:=by
  by_cases h:((X % 10000:Nat):Int) - c - ((Y % 10000:Nat):Int)<0
  ·exact⟨(((X % 10000:Nat):Int) - c - ((Y % 10000:Nat):Int)+10000).toNat,1,by omega,by omega,by omega⟩
  ·exact⟨(((X % 10000:Nat):Int) - c - ((Y % 10000:Nat):Int)).toNat,0,by omega,by omega,by omega⟩
 obtain⟨v',H2,hA,hO,hn2,hpr⟩:=iK (P:=Tryz.prog) (H:=H') (t:=46) (x:=aa (d:Nat)) (n:=H'.next+1) Tryz.underlying46 Tryz.eU Tryz.eV rfl (by rw[Tryz.fG,aR];omega) h5 ov.next rfl;simp only[aa]at hA;have ov2:Over H H2:=mD ov h5 hn2 hpr;have fin:∃ (i' c'' X' Y':Nat) (done':List Int),AVal.lit (.int .i64 ((i:Int)+1))=aa i'/\AVal.lit (.int .i64 (c':Int))=aa c''/\c''<=1/\i'<=p.length/\Over H H2/\aD H.next H2 3 v' (ints done')/\done'.length=i'/\Dg done'/\p.drop i'=aC X'/\q.drop i'=aC Y'/\val done'+10000 ^ i'*X'=(x - y)+10000 ^ i'*(Y'+c''):=by
  refine⟨i+1,c',X / 10000,Y / 10000,done++[(d:Int)],by simp [aa],rfl,hc',by omega,ov2,by simpa [ints,aa] using hO,by simp [hl],fun z hz=>?_,a3,b3,?_⟩
  ·rcases List.mem_append.1 hz with hz|hz
   ·exact hdg z hz
   ·obtain rfl:=List.mem_singleton.1 hz;omega
  ·rw[qB,hl,Nat.pow_succ];have e:d+10000*(X / 10000)+(Y+c)=X+10000*(Y / 10000+c'):=(by omega);have e2:=congrArg (10000 ^ i*·) e;simp only[Nat.mul_add,val,Int.toNat_natCast,Nat.mul_zero,Nat.add_zero,Nat.mul_assoc]at e2 he ⊢;generalize 10000 ^ i*d=P1 at *
   generalize 10000 ^ i*(10000*(X / 10000))=P2 at *
   generalize 10000 ^ i*Y=P3 at *
   generalize 10000 ^ i*c=P4 at *
   generalize 10000 ^ i*X=P5 at *
   generalize 10000 ^ i*(10000*(Y / 10000))=P6 at *
   generalize 10000 ^ i*(10000*c')=P7 at *
   omega
 have w4:=IntWalk.i64_in (((X % 10000:Nat):Int) - (c:Int)) (by omega);have w5:=IntWalk.i64_in (((X % 10000:Nat):Int) - (c:Int) - ((Y % 10000:Nat):Int)) (by omega);by_cases hy0:Y=0
 ·have n2:¬ (i:Int)<q.length:=by have:=fun h=>b1.1 h;omega
  by_cases hneg:((X % 10000:Nat):Int) - (c:Int)<0
  ·obtain rfl:c'=1:=(by omega);have ed:((X % 10000:Nat):Int) - (c:Int)+10000=(d:Int):=(by omega);have w6:=IntWalk.i64_in (d:Int) (by omega);simp only[go_sem,h7,h6,hb,n2,g1,pn,w4,hneg,ed,w6,w3,hA];exact⟨ov2.next,fin,by omega⟩
  ·obtain rfl:c'=0:=(by omega);have ed:((X % 10000:Nat):Int) - (c:Int)=(d:Int):=(by omega);rw[ed]at hneg w4;simp only[go_sem,h7,h6,hb,n2,g1,pn,ed,w4,hneg,w3,hA];exact⟨ov2.next,fin,by omega⟩
 ·have n2:(i:Int)<q.length:=by have:=b1.2 hy0;omega
  have g2:=b2 hy0;have qn:¬ q=[]:=by rintro rfl;simp at n2;omega
  by_cases hneg:((X % 10000:Nat):Int) - (c:Int) - ((Y % 10000:Nat):Int)<0
  ·obtain rfl:c'=1:=(by omega);have ed:((X % 10000:Nat):Int) - (c:Int) - ((Y % 10000:Nat):Int)+10000=(d:Int):=(by omega);have w6:=IntWalk.i64_in (d:Int) (by omega);simp only[go_sem,h7,h6,hb,n2,g1,g2,pn,qn,w4,w5,hneg,ed,w6,w3,hA];exact⟨ov2.next,fin,by omega⟩
  ·obtain rfl:c'=0:=(by omega);have ed:((X % 10000:Nat):Int) - (c:Int) - ((Y % 10000:Nat):Int)=(d:Int):=(by omega);rw[ed]at hneg w5;simp only[go_sem,h7,h6,hb,n2,g1,g2,pn,qn,w4,ed,w5,hneg,w3,hA];exact⟨ov2.next,fin,by omega⟩
end Go.Proofs.R01
namespace Go.Proofs.R01
open Go.Hx
theorem fV {l:List Int}{k:Nat}(v:Int)(h:k<l.length):setAt (ints l) k [.lit (.int .i64 v)]=ints (l.set k v):=by
 unfold setAt ints;rw[List.map_set,List.set_eq_take_append_cons_drop,if_pos (by simpa using h)];simp [aa]
theorem yy:∀ {l:List Int} {j:Nat} {a:Int} (v:Int),l[j]?=some a->val (l.set j v)+10000 ^ j*a.toNat=val l+10000 ^ j*v.toNat
 | b :: l,0,a,v,h=>by
  simp only[List.getElem?_cons_zero,Option.some.injEq]at h;subst h;simp only[List.set_cons_zero,val,Nat.pow_zero,Nat.one_mul];omega
 | b :: l,j+1,a,v,h=>by
  simp only[List.getElem?_cons_succ]at h;have ih:=yy (l:=l) v h;simp only[List.set_cons_succ,val,Nat.pow_succ];have e1:10000 ^ j*10000*a.toNat=10000*(10000 ^ j*a.toNat):=by ac_rfl
  have e2:10000 ^ j*10000*v.toNat=10000*(10000 ^ j*v.toNat):=by ac_rfl
  rw[e1,e2];omega
theorem Cs {l:List Int}{i:Nat}{a:Int}(h:l[i]?=some a):val (l.take (i+1))=val (l.take i)+10000 ^ i*a.toNat:=by
 have hi:=(List.getElem?_eq_some_iff.1 h).1;rw[Cq h,qB,List.length_take,Nat.min_eq_left (by omega)];simp [val]
set_option maxHeartbeats 2000000 in
theorem Ct (p q:List Int)(hp:Dg p)(hq:∀ c,c∈q->0<=c/\c<=10000)(hqv:val q<=10000 ^ q.length)(lp:p.length<=200)(lq:q.length<=200)(H:AHeap)(K:ARes->AHeap->Prop)(hK:K (.ret (ah (aC (val p*val q)))) H):ae Tryz.prog G0 91 [ah p,ah q] H K:=by
 refine ae.clo ⟨_,Tryz.func91,rfl,rfl⟩ fun hcl=>?_;have w0:=IntWalk.i64_in ((p.length:Int)+(q.length:Int)) (by omega);refine ae.aP (n:=65) (rs:=[.tmp 4]) Tryz.func91 rfl rfl rfl (by decide) (by kernel_rfl) (by simp) ?_;simp only[go_sem,w0];obtain⟨L,hL⟩:∃ L,L=p.length+q.length:=⟨_,rfl⟩
 have eL:((p.length:Int)+(q.length:Int)).toNat=L:=by omega
 have eL2:(p.length:Int)+(q.length:Int)=(L:Int):=by omega
 rw[eL,eL2];have eR:List.replicate L (AVal.lit (.int .i64 0))=ints (List.replicate L 0):=by simp [ints,aa]
 rw[eR];refine⟨⟨by omega,by omega,by omega⟩,?_⟩;have dr:Dg (List.replicate L 0):=fun c hc=>by obtain⟨_,rfl⟩:=List.mem_replicate.1 hc;omega
 refine W.aK 9223372036854743488 (by rfl) (fun ρ H'=>∃ (i:Nat) (o:List Int),ρ 6=aa i/\i<=p.length/\H'=ext H [.arr 0 3 (ints o)]/\Dg o/\o.length=L/\val o=val (p.take i)*val q) (fun ρ H=>p.length - (iv (ρ 6)).toNat) ?_ ?_
 ·simp only[go_sem];exact⟨0,_,rfl,by omega,rfl,dr,by simp,by simp [Oh,val]⟩
 rintro ρ H' ⟨i,o,h6,hi,rfl,ho,hol,hv⟩;refine af _ _ _ (by rfl) ?_;by_cases hb:(i:Int)<p.length;rotate_left
 ·simp only[go_sem,h6,hb];have hO:aD H.next (ext H [.arr 0 3 (ints o)]) 3 (.own H.next 0 0 L 1) (ints o):=.inr ⟨H.next,0,Nat.le_refl _,by simp [aY],by rw[aR,hol],bR _ _ _⟩;refine ay.lu H.next (args':=[ah o]) aI rfl (fun j hj _=>match j,hj with|0,_=>hO.gE fun i hi=>hi) (ss o ho (by omega) _ _ ⟨trivial,?_⟩);rw[hv,List.take_of_length_le (by omega)];have ov3:Over H ((ext H [.arr 0 3 (ints o)]).cut H.next):=(Over.ext _ _).iX (Nat.le_refl _);simp only[go_sem];exact ar.bB aI hcl ov3 (.dG _) hK
 obtain⟨a,ha⟩:∃ a,p[i]?=some a:=⟨_,List.getElem?_eq_getElem (by omega)⟩
 have ha9:=hp a (List.mem_of_getElem? ha);obtain⟨A,rfl⟩:=Int.eq_ofNat_of_zero_le ha9.1;have pn:¬ p=[]:=by rintro rfl;simp at ha
 have vt:=Cs ha;rw[Int.toNat_natCast]at vt;have w1:=IntWalk.i64_in ((i:Int)+1) (by omega);simp only[go_sem,h6,hb];refine W.aK 9223372036852679040 (by rfl) (fun ρ' H'=>∃ (k c:Nat) (o2:List Int),ρ' 8=aa k/\ρ' 7=aa c/\c<=10000/\k<=L/\H'=ext H [.arr 0 3 (ints o2)]/\Dg o2/\o2.length=L/\val o2+10000 ^ (i+k)*c=val (p.take i)*val q+10000 ^ i*(A*val (q.take k))) (fun ρ' H=>L - (iv (ρ' 8)).toNat) ?_ ?_
 ·simp only[go_sem];exact⟨0,0,o,rfl,rfl,by omega,by omega,rfl,ho,hol,by simp [val,hv]⟩
 rintro ρ' H' ⟨k,c,o2,h8,h7,hc,hk,rfl,ho2,hol2,hv2⟩;refine af _ _ _ (by rfl) ?_;by_cases hend:¬ k<q.length/\c=0
 ·obtain⟨hk2,rfl⟩:=hend;have n1:¬ (k:Int)<q.length:=by omega
  have n2:¬ (0:Int)<((0:Nat):Int):=by omega
  simp only[go_sem,h8,h7,n1,h6,w1];refine⟨⟨i+1,o2,by simp,by omega,rfl,ho2,hol2,?_⟩,by omega⟩;rw[List.take_of_length_le (l:=q) (i:=k) (by omega)]at hv2;rw[vt,Nat.add_mul];simp only[Nat.mul_zero,Nat.add_zero]at hv2;rw[hv2,Nat.mul_assoc]
 have hik:i+k<L:=by
  by_cases hkq:k<q.length
  ·omega
  ·have hc1:1<=c:=(by omega);rw[List.take_of_length_le (l:=q) (i:=k) (by omega)]at hv2;have e:val (p.take i)*val q+10000 ^ i*(A*val q)=val (p.take (i+1))*val q:=(by rw[vt,Nat.add_mul,Nat.mul_assoc]);rw[e]at hv2;have b1:val (p.take (i+1))<10000 ^ (i+1):=by
    have:=nV (l:=p.take (i+1)) fun c hc=>hp c (List.mem_of_mem_take hc)
    rwa [List.length_take,Nat.min_eq_left (by omega)]at this
   have b2:val (p.take (i+1))*val q<10000 ^ (i+1)*10000 ^ q.length:=by
    have p0:0<10000 ^ q.length:=Nat.pow_pos (by decide)
    calc val (p.take (i+1))*val q<=val (p.take (i+1))*10000 ^ q.length:=Nat.mul_le_mul_left _ hqv
     _<10000 ^ (i+1)*10000 ^ q.length:=Nat.mul_lt_mul_of_pos_right b1 p0
   rw[<- Nat.pow_add]at b2;have b3:10000 ^ (i+k)*1<=10000 ^ (i+k)*c:=Nat.mul_le_mul_left _ hc1;have b4:10000 ^ (i+k)<10000 ^ (i+1+q.length):=(by omega);have:=(Nat.pow_lt_pow_iff_right (by decide:1<10000)).1 b4;omega
 obtain⟨b,hbk⟩:∃ b,o2[i+k]?=some b:=⟨_,List.getElem?_eq_getElem (by omega)⟩
 have hb9:=ho2 b (List.mem_of_getElem? hbk);obtain⟨B,rfl⟩:=Int.eq_ofNat_of_zero_le hb9.1;have o2n:¬ o2=[]:=by rintro rfl;simp at hbk
 have w2:=IntWalk.i64_in ((i:Int)+(k:Int)) (by omega);have w3:=IntWalk.i64_in ((k:Int)+1) (by omega);have eik:(i:Int)+(k:Int)=((i+k:Nat):Int):=by omega
 rw[eik]at w2;have bik:((i+k:Nat):Int)<(L:Int):=by omega
 have w4:=IntWalk.i64_in ((c:Int)+(B:Int)) (by omega);by_cases hkq:k<q.length
 ·obtain⟨d,hdk⟩:∃ d,q[k]?=some d:=⟨_,List.getElem?_eq_getElem (by omega)⟩
  have hd9:=hq d (List.mem_of_getElem? hdk);obtain⟨D,rfl⟩:=Int.eq_ofNat_of_zero_le hd9.1;have qn:¬ q=[]:=by rintro rfl;simp at hdk
  have n1:(k:Int)<q.length:=by omega
  have mAD:A*D<=9999*10000:=Nat.mul_le_mul (by omega) (by omega);have cAD:(A:Int)*(D:Int)=((A*D:Nat):Int):=(Int.natCast_mul _ _).symm;obtain⟨t,ht⟩:∃ t,t=c+B+A*D:=⟨_,rfl⟩
  have et:(c:Int)+(B:Int)+((A*D:Nat):Int)=(t:Int):=by omega
  have w5:=IntWalk.i64_in ((A*D:Nat):Int) (by omega);have w6:=IntWalk.i64_in (t:Int) (by omega);have tm:((t:Int)).tmod 10000=((t % 10000:Nat):Int):=by rw[Int.tmod_eq_emod_of_nonneg (by omega)];rfl
  have td:((t:Int)).tdiv 10000=((t / 10000:Nat):Int):=by rw[Int.tdiv_eq_ediv_of_nonneg (by omega)];rfl
  have w7:=IntWalk.i64_in ((t % 10000:Nat):Int) (by omega);have w8:=IntWalk.i64_in ((t / 10000:Nat):Int) (by omega);have hs:=yy ((t % 10000:Nat):Int) hbk;rw[Int.toNat_natCast,Int.toNat_natCast]at hs;have vq:=Cs hdk;rw[Int.toNat_natCast]at vq;have fin:∃ (k' c':Nat) (o3:List Int),AVal.lit (.int .i64 ((k:Int)+1))=aa k'/\AVal.lit (.int .i64 ((t / 10000:Nat):Int))=aa c'/\c'<=10000/\k'<=L/\ext H [.arr 0 3 (ints (o2.set (i+k) ((t % 10000:Nat):Int)))]=ext H [.arr 0 3 (ints o3)]/\Dg o3/\o3.length=L/\val o3+10000 ^ (i+k')*c'=val (p.take i)*val q+10000 ^ i*(A*val (q.take k')):=by
   refine⟨k+1,t / 10000,_,by simp [aa],rfl,by omega,by omega,rfl,fun z hz=>?_,by simp [hol2],?_⟩
   ·rcases List.mem_or_eq_of_mem_set hz with h|h
    ·exact ho2 z h
    ·omega
   ·rw[vq,<- Nat.add_assoc,Nat.pow_succ];have e1:t=t % 10000+10000*(t / 10000):=(by omega);have e2:=congrArg (10000 ^ (i+k)*·) (show c+B+A*D=t % 10000+10000*(t / 10000) by omega);have e3:10000 ^ i*(A*(val (q.take k)+10000 ^ k*D))=10000 ^ i*(A*val (q.take k))+10000 ^ (i+k)*(A*D):=by
     rw[Nat.mul_add,Nat.mul_add,Nat.pow_add];congr 1
     ac_rfl
    rw[e3];simp only[Nat.mul_add,Nat.mul_assoc]at e2 hv2 hs ⊢;omega
  simp only[go_sem,h8,h7,n1,h6,w2,w4,eik,bik,hbk];refine W.draw 10 [0,0,0,6,14,0,0,96,224,510] Tryz.mixed (by kernel_rfl) (by kernel_rfl) ?_;simp only[go_sem,h8,h7,n1,h6,w2,eik,bik,ha,hdk,pn,qn,hb,cAD,w5,et,w6];rw[w3,td,w8,tm,fV _ (by omega)];exact⟨by omega,fin,by omega⟩
 ·have n1:¬ (k:Int)<q.length:=by omega
  have n2:(0:Int)<(c:Int):=by omega
  obtain⟨t,ht⟩:∃ t,t=c+B:=⟨_,rfl⟩
  have et:(c:Int)+(B:Int)=(t:Int):=by omega
  have w6:=IntWalk.i64_in (t:Int) (by omega);have tm:((t:Int)).tmod 10000=((t % 10000:Nat):Int):=by rw[Int.tmod_eq_emod_of_nonneg (by omega)];rfl
  have td:((t:Int)).tdiv 10000=((t / 10000:Nat):Int):=by rw[Int.tdiv_eq_ediv_of_nonneg (by omega)];rfl
  have w7:=IntWalk.i64_in ((t % 10000:Nat):Int) (by omega);have w8:=IntWalk.i64_in ((t / 10000:Nat):Int) (by omega);have hs:=yy ((t % 10000:Nat):Int) hbk;rw[Int.toNat_natCast,Int.toNat_natCast]at hs;have fin:∃ (k' c':Nat) (o3:List Int),AVal.lit (.int .i64 ((k:Int)+1))=aa k'/\AVal.lit (.int .i64 ((t / 10000:Nat):Int))=aa c'/\c'<=10000/\k'<=L/\ext H [.arr 0 3 (ints (o2.set (i+k) ((t % 10000:Nat):Int)))]=ext H [.arr 0 3 (ints o3)]/\Dg o3/\o3.length=L/\val o3+10000 ^ (i+k')*c'=val (p.take i)*val q+10000 ^ i*(A*val (q.take k')):=by
   refine⟨k+1,t / 10000,_,by simp [aa],rfl,by omega,by omega,rfl,fun z hz=>?_,by simp [hol2],?_⟩
   ·rcases List.mem_or_eq_of_mem_set hz with h|h
    ·exact ho2 z h
    ·omega
   ·rw[List.take_of_length_le (l:=q) (i:=k) (by omega)]at hv2;rw[List.take_of_length_le (l:=q) (i:=k+1) (by omega),<- Nat.add_assoc,Nat.pow_succ];have e2:=congrArg (10000 ^ (i+k)*·) (show c+B=t % 10000+10000*(t / 10000) by omega);simp only[Nat.mul_add,Nat.mul_assoc]at e2 hv2 hs ⊢;omega
  simp only[go_sem,h8,h7,n1,n2,h6,w2,eik,bik,hbk,et,w6,hol2];rw[w3,td,w8,tm,fV _ (by omega)];exact⟨by omega,fin,by omega⟩
end Go.Proofs.R01
namespace Go.Proofs.R01
open Go.Hx
theorem yz (x y:Nat)(hx:(aC x).length<=200)(hy:(aC y).length<=200)(H:AHeap)(K:ARes->AHeap->Prop)(hK:K (.ret (ah (aC (x*y)))) H):ae Tryz.prog G0 91 [ah (aC x),ah (aC y)] H K :=
 Ct (aC x) (aC y) (lL x) (fun c hc=>by have:=lL y c hc;omega) (Nat.le_of_lt (nV (lL y))) hx hy H K (by rw[jV,jV];exact hK)
theorem Oj (x d:Nat)(hd:d<=10000)(hx:(aC x).length<=200)(H:AHeap)(K:ARes->AHeap->Prop)(hK:K (.ret (ah (aC (x*d)))) H):ae Tryz.prog G0 91 [ah (aC x),ah [(d:Int)]] H K:=by
 have e:val [(d:Int)]=d:=by simp [val]
 refine Ct (aC x) [(d:Int)] (lL x) (fun c hc=>?_) (by rw[e];simpa using hd) hx (by simp) H K (by rw[jV,e];exact hK);obtain rfl:=List.mem_singleton.1 hc;omega
theorem sv (n:Nat):∀ k:Nat,(aC n).drop k=aC (n / 10000 ^ k)
 | 0=>by simp
 | k+1=>by
  have h:=(qD (sv n k)).2.2;rw[h,Nat.pow_succ,Nat.div_div_eq_div_mul]
theorem uP {n k:Nat}(h:k<(aC n).length):(aC n)[k]?=some ((n / 10000 ^ k % 10000:Nat):Int):=(qD (sv n k)).2.1 ((qD (sv n k)).1.1 h)
theorem Cu {n k:Nat}(h:¬ k<(aC n).length):n / 10000 ^ k=0:=by
 rcases Nat.eq_zero_or_pos (n / 10000 ^ k) with h0|h0
 ·exact h0
 ·exact absurd ((qD (sv n k)).1.2 (by omega)) h
theorem Ol {N y P:Nat}(hP:0<P)(ht:0<y / P):N / y<=N / P / (y / P):=by
 rw[Nat.le_div_iff_mul_le ht,Nat.le_div_iff_mul_le hP]
 calc N / y*(y / P)*P=N / y*(y / P*P):=Nat.mul_assoc ..
  _<=N / y*y:=Nat.mul_le_mul_left _ (Nat.div_mul_le_self _ _)
  _<=N:=Nat.div_mul_le_self _ _
theorem Om {N y P:Nat}(hP:0<P)(hy:0<y):N / P / (y / P+1)<=N / y:=by
 rw[Nat.le_div_iff_mul_le hy];have h1:y<=(y / P+1)*P:=by
  have:=Nat.lt_mul_div_succ y hP;rw[Nat.mul_comm]at this;omega
 calc N / P / (y / P+1)*y<=N / P / (y / P+1)*((y / P+1)*P):=Nat.mul_le_mul_left _ h1
  _=N / P / (y / P+1)*(y / P+1)*P:=(Nat.mul_assoc ..).symm
  _<=N / P*P:=Nat.mul_le_mul_right _ (Nat.div_mul_le_self _ _)
  _<=N:=Nat.div_mul_le_self _ _
theorem On {N y n:Nat}(hN:N<10000*y)(hy:10000 ^ n<=y):N / 10000 ^ (n - 1) / (y / 10000 ^ (n - 1))<=10000:=by
 have hP:0<10000 ^ (n - 1):=Nat.pow_pos (by decide);rcases Nat.eq_zero_or_pos n with h0|h0
 ·subst h0;have hy0:0<y:=by simp at hy;omega
  simp only[Nat.zero_sub,Nat.pow_zero,Nat.div_one];exact Nat.le_of_lt (Nat.div_lt_of_lt_mul (by rw[Nat.mul_comm];exact hN))
 ·have ht:10000<=y / 10000 ^ (n - 1):=by
   rw[Nat.le_div_iff_mul_le hP];have:10000*10000 ^ (n - 1)=10000 ^ n:=(by rw[Nat.mul_comm,<- Nat.pow_succ];congr 1;omega);omega
  generalize 10000 ^ (n - 1)=P at *
  refine Nat.le_of_lt_succ (Nat.div_lt_of_lt_mul ?_);refine Nat.div_lt_of_lt_mul ?_;have h1:=Nat.lt_mul_div_succ y hP;generalize y / P=T at *
  have h2:P*(T+1)*10000<=P*(T*10001):=by
   rw[Nat.mul_assoc];exact Nat.mul_le_mul_left _ (by omega)
  have h3:y<P*(T+1):=h1;generalize P*(T+1)=Z at *
  generalize hW:P*(T*10001)=W at *
  have h4:N<W:=by omega
  first|exact h4|(rw[<- hW]at h4;simpa [Nat.mul_comm,Nat.mul_left_comm,Nat.mul_assoc] using h4)
theorem Oo {X a y Q R:Nat}(hX:X=y*Q+R)(hR:R<y):(a+10000*X) / y=10000*Q+(a+10000*R) / y/\(a+10000*X) % y=(a+10000*R) % y:=by
 have e:a+10000*X=(a+10000*R)+y*(10000*Q):=by
  rw[hX,Nat.mul_add];have:10000*(y*Q)=y*(10000*Q):=by ac_rfl
  omega
 rw[e,Nat.add_mul_div_left _ _ (by omega),Nat.add_mul_mod_self_left];exact⟨Nat.add_comm _ _,rfl⟩
end Go.Proofs.R01
namespace Go.Proofs.R01
open Go.Hx
theorem Cv {a b:Int}(h:a<=b):cK a b<=0:=by
 unfold cK;split
 ·omega
 ·split<;>omega
theorem Cw {a b:Int}(h:b<a):¬ cK a b<=0:=by
 unfold cK;split
 ·omega
 ·split<;>omega
set_option maxHeartbeats 4000000 in
theorem Oq (x y:Nat)(hy:y≠0)(hx:(aC x).length<=100)(hyl:(aC y).length<=100)(H:AHeap)(K:ARes->AHeap->Prop)(hK:K (.ret (.tup [ah (aC (x / y)),ah (aC (x % y))])) H):ae Tryz.prog G0 123 [ah (aC x),ah (aC y)] H K:=by
 refine ae.Ja ⟨_,Tryz.func123,rfl,rfl⟩ fun hcl hbel=>?_;obtain⟨p,hp⟩:∃ p,p=aC x:=⟨_,rfl⟩
 obtain⟨q,hq⟩:∃ q,q=aC y:=⟨_,rfl⟩
 have hqn:q.length≠0:=by intro h;exact hy (yw.1 (by rw[<- hq];exact List.eq_nil_of_length_eq_zero h))
 obtain⟨n,hn⟩:∃ n,q.length=n+1:=⟨q.length - 1,by omega⟩
 have ylb:=Cp y hy;have yub:=yx (n:=y) (k:=n+1) (by rw[<- hq,hn];exact Nat.le_refl _);rw[<- hq,hn,Nat.add_sub_cancel]at ylb;have hx1:=hx;have hy1:=hyl;rw[<- hp]at hx;rw[<- hq]at hyl;have w1:=IntWalk.i64_in ((q.length:Int) - 1) (by omega);have en:(q.length:Int) - 1=(n:Int):=by omega
 rw[en]at w1;rw[<- hp,<- hq]at hbel ⊢;have rep0:∀ v:AVal,List.replicate 0 v=[]:=fun _=>rfl;refine ae.aP (n:=124) (rs:=[.tmp 4,.tmp 5]) Tryz.func123 rfl rfl rfl (by decide) (by kernel_rfl) (by simp) ?_;by_cases hs:(p.length:Int)<=(n:Int)
 ·have hlt:x<y:=qC (by rw[<- hp,<- hq];omega);rw[Nat.div_eq_of_lt hlt,Nat.mod_eq_of_lt hlt,iw,<- hp]at hK;obtain⟨v',H3,hA,hO,hn3,hpr⟩:=rY (P:=Tryz.prog) (H:=ext H [.arr 0 3 []]) (t:=46) (lo:=H.next) (n:=H.next+1) (v:=.own H.next 0 0 0 1) (cs:=[]) (src:=ints p) Tryz.underlying46 Tryz.eU Tryz.eV (kA p) (by rw[Tryz.fG,aR];simp;omega) (.inr ⟨H.next,0,Nat.le_refl _,by simp [aY],rfl,bR _ _ _⟩) (by simp [aY]) (by simp [aY]);rw[aR]at hA;have ov3:Over H H3:=⟨by simp only[aY]at hn3;omega,fun id hid=>by
   rw[hpr id (by simp only[aY];omega) fun g n he=>by have:=AVal.own.inj he;omega,bE hid]⟩
  simp only[go_sem,en,w1,hs,rep0,hA];refine ar.bB (v':=.tup [ah [],ah p]) aI hcl ov3 (.tup rfl fun i hi _=>?_) hK
  match i,hi with
  | 0,_=>exact .nil
  | 1,_=>exact hO.gE fun i hi=>hi
 ·have w2:=IntWalk.i64_in ((p.length:Int) - (n:Int)) (by omega);obtain⟨m,hm⟩:∃ m,p.length=n+m/\1<=m:=⟨p.length - n,by omega,by omega⟩
  have em:(p.length:Int) - (n:Int)=(m:Int):=by omega
  rw[em]at w2;have w3:=IntWalk.i64_in ((m:Int) - 1) (by omega);have esub:p.length - m=n:=by omega
  have ede:List.take n (List.drop m (ints p))=ints (p.drop m):=by rw[zn];exact List.take_of_length_le (by rw[aR,List.length_drop];omega)
  have mle:(m:Int)<=(p.length:Int):=by omega
  have dl:(p.drop m).length=n:=by simp;omega
  have eR:List.replicate m (AVal.lit (.int .i64 0))=ints (List.replicate m 0):=by simp [ints,aa]
  obtain⟨v',H3,hA,hO,hn3,hpr⟩:=rY (P:=Tryz.prog) (H:=ext H [.arr 0 3 (ints (List.replicate m 0)),.arr 0 3 []]) (t:=46) (lo:=H.next+1) (n:=H.next+2) (v:=.own (H.next+1) 0 0 0 1) (cs:=[]) (src:=ints (p.drop m)) Tryz.underlying46 Tryz.eU Tryz.eV (kA _) (by rw[Tryz.fG,aR];simp;omega) (.inr ⟨H.next+1,0,Nat.le_refl _,by simp [aY],rfl,aZ H _ 1 (by simp)⟩) (by show H.next+1<=H.next+2;omega) rfl;rw[aR,dl]at hA;simp only[aY,List.length_cons,List.length_nil]at hn3 hpr;obtain⟨Hq,hHq⟩:∃ Hq,Hq=ext H [.arr 0 3 (ints (List.replicate m 0))]:=⟨_,rfl⟩
  have nq:Hq.next=H.next+1:=by rw[hHq];rfl
  have clq:Clo Hq:=by
   rw[hHq];refine Ox hcl fun b hb=>?_;obtain rfl:=List.mem_singleton.1 hb;exact Oy fun c hc=>by obtain⟨x,_,rfl⟩:=List.mem_map.1 hc;exact⟨_,rfl⟩
  have gq:Hq.get H.next=some (.arr 0 3 (ints (List.replicate m 0))):=by rw[hHq];exact bR _ _ _
  have ovq:Over H Hq:=by rw[hHq];exact Over.ext _ _
  have ov3:Over Hq H3:=⟨by omega,fun id hid=>by
   rw[hpr id (by omega) fun g n he=>by have:=AVal.own.inj he;omega];by_cases h:id=H.next
   ·subst h;rw[gq,bR]
   ·rw[dD _ _ _ (by omega),ovq.old _ (by omega)]⟩
  have n3:=ov3.next;have hvF:Fz (fun id=>Hq.next<=id) H3 H3.next v' (ah (p.drop m)):=hO.gE fun i hi=>by omega
  have hbq:∀ v,v∈[ah p,ah q]->Below Hq.next v:=fun v hv=>(hbel v hv).mono (by omega);have h37:Fz (fun id=>Hq.next<=id) H3 H3.next (.vec n (ints (p.drop m))) (.vec n (ints (p.drop m))):=by rw[<- dl];exact .dG _
  have gq3:=(ov3.old H.next (by omega)).trans gq;have lq3:=ag gq3;simp only[go_sem,en,w1,hs,em,w2,rep0,mle,esub,ede,eR,hA,w3,lq3];refine⟨⟨by omega,by omega⟩,?_⟩;apply W.KF (H:=Hq) aI clq ov3
  ·repeat first|exact Fz.KH hbq (by omega)|(apply Fz.KG;· first|exact .lit _|assumption|exact .dG _|exact .ptr (by omega) (by omega)|exact .own (by omega) (by omega)|exact .deadOwn (by omega) (by show Hq.next<=_;omega))
  ·trivial
  obtain⟨Hg,hHg⟩:∃ Hg,Hg=jd Hq (H3.next - Hq.next):=⟨_,rfl⟩
  rw[<- hHg];have hog:Over Hq Hg:=by rw[hHg];exact .jd _ _
  have ng:=hog.next;have hgg:=(hog.old H.next (by omega)).trans gq;have pdm:p.drop m=aC (x / 10000 ^ m):=by rw[hp];exact sv x m
  have xlt:x / 10000 ^ m<y:=qC (by rw[<- pdm,dl,<- hq];omega);refine W.env fun E hE=>?_;have e0:E 0=ah p:=by rw[hE];rfl
  have e1:E 1=ah q:=by rw[hE];rfl
  have e6:E 6=aa n:=by rw[hE];rfl
  have e7:E 7=.own H.next 0 0 m 1:=by rw[hE];rfl
  have e8:E 8=ah (p.drop m):=by rw[hE];rfl
  have e9:E 9=aa ((m:Int) - 1):=by rw[hE];rfl
  clear hE;refine W.aK 2658455991569831745807609722514243328 (by rfl) (fun ρ H'=>∃ (j:Nat) (qs:List Int),ρ 9=aa ((j:Int) - 1)/\j<=m/\Over H H'/\Hg.next<=H'.next/\H'.get H.next=some (.arr 0 3 (ints qs))/\qs.length=m/\Dg qs/\val (qs.drop j)=x / 10000 ^ j / y/\ρ 8=ah (aC (x / 10000 ^ j % y))) (fun ρ H=>(iv (ρ 9)+1).toNat) ?_ ?_
  ·simp only[go_sem,e9,e8];refine⟨m,List.replicate m 0,by simp,by omega,ovq.trans hog,hgg,by simp,fun c hc=>by obtain⟨_,rfl⟩:=List.mem_replicate.1 hc;omega,?_,?_⟩
   ·rw[Nat.div_eq_of_lt xlt,List.drop_eq_nil_iff.2 (by simp)];rfl
   ·rw[Nat.mod_eq_of_lt xlt,<- pdm]
  rintro ρ H' ⟨j,qs,h9,hj,ov,hnx,hg,hql,hqd,hv,h8⟩;refine af _ _ _ (by rfl) ?_;have lq:=ag hg;by_cases hz:j=0
  ·subst hz;have z1:¬ (0:Int)<=((0:Nat):Int) - 1:=(by omega);simp only[Nat.pow_zero,Nat.div_one,List.drop_zero]at hv h8;simp only[go_sem,h9,e7];have hO2:aD H.next H' 3 (.own H.next 0 0 m 1) (ints qs):=.inr ⟨H.next,0,Nat.le_refl _,by omega,by rw[aR,hql],hg⟩;refine ay.lu H.next (args':=[ah qs]) aI rfl (fun j hj _=>match j,hj with|0,_=>hO2.gE fun i hi=>hi) (ss qs hqd (by omega) _ _ ⟨trivial,?_⟩);rw[hv];simp only[go_sem,h8];have ovc:Over H (H'.cut H.next):=ov.iX (Nat.le_refl _);refine ar.bB (v':=.tup [ah (aC (x / y)),ah (aC (x % y))]) aI hcl ovc (.tup rfl fun i hi _=>?_) hK
   match i,hi with
   | 0,_=>exact .dG _
   | 1,_=>exact .dG _
  obtain⟨i,rfl⟩:∃ i,j=i+1:=⟨j - 1,by omega⟩
  have ei:((i+1:Nat):Int) - 1=(i:Int):=by omega
  rw[ei]at h9;have z1:(0:Int)<=(i:Int):=by omega
  obtain⟨R,hR⟩:∃ R,R=x / 10000 ^ (i+1) % y:=⟨_,rfl⟩
  rw[<- hR]at h8;have hRy:R<y:=by rw[hR];exact Nat.mod_lt _ (by omega)
  have hil:i<p.length:=by omega
  obtain⟨a,ha⟩:∃ a,a=x / 10000 ^ i % 10000:=⟨_,rfl⟩
  have hpi:p[i]?=some ((a:Nat):Int):=by rw[ha,hp];exact uP (by rw[<- hp];exact hil)
  have pn:¬ p=[]:=by rintro rfl;simp at hil
  have bil:(i:Int)<p.length:=by omega
  obtain⟨N,hN⟩:∃ N,N=a+10000*R:=⟨_,rfl⟩
  have yup:y<10000 ^ (n+1):=yub;have rlen:(aC R).length<=n+1:=oZ (by omega);have hNy:N<10000*y:=by omega
  have hN2:N<10000 ^ (n+2):=by
   have:10000 ^ (n+2)=10000*10000 ^ (n+1):=(by rw[Nat.pow_succ,Nat.mul_comm]);omega
  have nlen:(aC N).length<=n+2:=oZ hN2;obtain⟨v',H3,hA,hO,hn3,hpr⟩:=rY (P:=Tryz.prog) (H:=ext H' [.arr 0 3 [.lit (.int .i64 (a:Int))]]) (t:=46) (lo:=H'.next) (n:=H'.next+1) (v:=.own H'.next 0 0 1 1) (cs:=ints [(a:Int)]) (src:=ints (aC R)) Tryz.underlying46 Tryz.eU Tryz.eV (kA _) (by rw[Tryz.fG,aR,aR,List.length_singleton];omega) (.inr ⟨H'.next,0,Nat.le_refl _,by simp [aY],rfl,bR _ _ _⟩) (by simp [aY]) (by simp [aY]);rw[aR]at hA;have ov3:Over H' H3:=⟨by simp only[aY]at hn3;omega,fun id hid=>by
   rw[hpr id (by simp only[aY];omega) fun g n he=>by have:=AVal.own.inj he;omega,bE hid]⟩
  have hcd:Dg ((a:Int) :: aC R):=fun c hc=>by
   rcases List.mem_cons.1 hc with rfl|hc
   ·omega
   ·exact lL R c hc
  have hcv:val ((a:Int) :: aC R)=N:=by rw[val,jV,hN];simp
  simp only[go_sem,h9,z1,h8,e0,hpi,pn,bil,hA];refine ay.lu H'.next (args':=[ah ((a:Int) :: aC R)]) aI rfl (fun j hj _=>match j,hj with|0,_=>hO.gE fun i hi=>hi) (ss _ hcd (by rw[List.length_cons];omega) _ _ ⟨trivial,?_⟩);rw[hcv];have ovc:Over H' (H3.cut H'.next):=ov3.cut;obtain⟨Hc,hHc⟩:∃ Hc,Hc=H3.cut H'.next:=⟨_,rfl⟩
  rw[<- hHc]at ovc ⊢;clear hHc;have w4:=IntWalk.i64_in ((n:Int)+1) (by omega);simp only[go_sem,e6,w4];have gqc:=(ovc.old H.next (by omega)).trans hg;have nc:=ovc.next;refine W.env fun E2 hE2=>?_;have f0:E2 0=ah p:=by rw[hE2];exact e0
  have f1:E2 1=ah q:=by rw[hE2];exact e1
  have f6:E2 6=aa n:=by rw[hE2];exact e6
  have f7:E2 7=.own H.next 0 0 m 1:=by rw[hE2];exact e7
  have f8:E2 8=ah (aC N):=by rw[hE2];rfl
  have f9:E2 9=aa (i:Int):=by rw[hE2];exact h9
  have f10:E2 10=aa 0:=by rw[hE2];rfl
  have f11:E2 11=aa 0:=by rw[hE2];rfl
  have f12:E2 12=aa ((n:Int)+1):=by rw[hE2];rfl
  clear hE2;have hqy:q=aC y:=hq;have emax:(if (n:Int) - 1 > 0 then (n:Int) - 1 else 0)=((n - 1:Nat):Int):=by split<;>omega
  have w5:=IntWalk.i64_in ((n:Int) - 1) (by omega);have yk2:y / 10000 ^ (n+2)=0:=Nat.div_eq_of_lt (by rw[Nat.pow_succ];omega);have Nk2:N / 10000 ^ (n+2)=0:=Nat.div_eq_of_lt hN2;have cube:∀ z k:Nat,z<10000 ^ (n+2)->n - 1<=k->z / 10000 ^ k<1000000000000:=fun z k hz hk=>by
   refine Nat.div_lt_of_lt_mul (Nat.lt_of_lt_of_le hz ?_);rw[show (1000000000000:Nat)=10000 ^ 3 by decide,<- Nat.pow_add];exact Nat.pow_le_pow_right (by decide) (by omega)
  have hy2:y<10000 ^ (n+2):=by rw[Nat.pow_succ];omega
  refine W.aK 38685626155610539552676864 (by rfl) (fun ρ' H2=>∃ k F T:Nat,ρ' 12=aa ((k:Int) - 1)/\n - 1<=k/\k<=n+2/\H2=Hc/\ρ' 11=aa F/\ρ' 10=aa T/\F=N / 10000 ^ k/\T=y / 10000 ^ k) (fun ρ' H=>(iv (ρ' 12)+1).toNat) ?_ ?_
  ·simp only[go_sem,f12,f11,f10];exact⟨n+2,0,0,by simp;omega,by omega,by omega,rfl,rfl,Nk2.symm,yk2.symm⟩
  rintro ρ' H2 ⟨k,F,T,g12,hk1,hk2,rfl,g11,g10,hF,hT⟩;refine af _ _ _ (by rfl) ?_;by_cases hke:k=n - 1
  ·have z2:¬ ((n - 1:Nat):Int)<=((n - 1:Nat):Int) - 1:=(by omega);rw[hke]at g12;simp only[go_sem,g12,f6,w5,emax,z2];rw[hke]at hF hT;have hP:0<10000 ^ (n - 1):=Nat.pow_pos (by decide);have hT0:0<T:=by
    rw[hT];refine Nat.div_pos ?_ hP;exact Nat.le_trans (Nat.pow_le_pow_right (by decide) (by omega)) ylb
   have cF:=cube N (n - 1) hN2 (by omega);have cT:=cube y (n - 1) hy2 (by omega);have qhi:N / y<=F / T:=(by rw[hF,hT];exact Ol hP (by rw[<- hT];exact hT0));have qlo:F / (T+1)<=N / y:=(by rw[hF,hT];exact Om hP (by omega));have qcap:F / T<=10000:=(by rw[hF,hT];exact On hNy ylb);rw[<- hF]at cF;rw[<- hT]at cT;have w6:=IntWalk.i64_in ((T:Int)+1) (by omega);obtain⟨lo,hlo⟩:∃ lo,lo=F / (T+1):=⟨_,rfl⟩
   obtain⟨hi,hhi⟩:∃ hi,hi=F / T:=⟨_,rfl⟩
   have t1:((F:Int)).tdiv ((T:Int)+1)=(lo:Int):=(by rw[Int.tdiv_eq_ediv_of_nonneg (by omega),hlo];rfl);have t2:((F:Int)).tdiv (T:Int)=(hi:Int):=(by rw[Int.tdiv_eq_ediv_of_nonneg (by omega),hhi];rfl);rw[<- hlo]at qlo;rw[<- hhi]at qhi qcap;have w7:=IntWalk.i64_in (lo:Int) (by omega);have w8:=IntWalk.i64_in (hi:Int) (by omega);have n1:¬ (T:Int)+1=0:=(by omega);have n2:¬ (T:Int)=0:=(by omega);refine W.env fun E3 hE3=>?_;have k0:E3 0=ah p:=(by rw[hE3];exact f0);have k1:E3 1=ah q:=(by rw[hE3];exact f1);have k6:E3 6=aa n:=(by rw[hE3];exact f6);have k7:E3 7=.own H.next 0 0 m 1:=(by rw[hE3];exact f7);have k8:E3 8=ah (aC N):=(by rw[hE3];exact f8);have k9:E3 9=aa (i:Int):=(by rw[hE3];exact f9);have k10:E3 10=aa T:=(by rw[hE3];exact g10);have k11:E3 11=aa F:=(by rw[hE3];exact g11);clear hE3;refine W.draw 8 [0,0,2,7,0,0,48,15] Tryz.mixed (by kernel_rfl) (by kernel_rfl) ?_;simp only[go_sem,k11,k10,w6,t1,t2,w7,w8,n1,n2];have gq2:H2.get H.next=some (.arr 0 3 (ints qs)):=gqc;obtain⟨Q,hQ⟩:∃ Q,Q=N / y:=⟨_,rfl⟩
   rw[<- hQ]at qlo qhi;have hyl2:(aC y).length<=100:=hy1;refine W.env fun E4 hE4=>?_;have l1:E4 1=ah q:=(by rw[hE4];exact k1);have l7:E4 7=.own H.next 0 0 m 1:=(by rw[hE4];exact k7);have l8:E4 8=ah (aC N):=(by rw[hE4];exact k8);have l9:E4 9=aa (i:Int):=(by rw[hE4];exact k9);have l13:E4 13=aa (lo:Int):=(by rw[hE4];rfl);have l14:E4 14=aa (hi:Int):=(by rw[hE4];rfl);clear hE4;have Nl:((aC N).length:Int)<2 ^ 40:=(by omega);refine W.aK 1298069262873549765611524485865472 (by rfl) (fun ρ2 H3=>∃ L U:Nat,ρ2 13=aa L/\ρ2 14=aa U/\L<=Q/\Q<=U/\U<=10000/\Over H2 H3) (fun ρ2 H=>(iv (ρ2 14) - iv (ρ2 13)).toNat) ?_ ?_
   ·simp only[go_sem,l13,l14];exact⟨lo,hi,rfl,rfl,qlo,qhi,qcap,.refl _⟩
   rintro ρ2 H4 ⟨L,U,m13,m14,hL,hU,hU2,ov4⟩;refine af _ _ _ (by rfl) ?_;have n4:=ov4.next;by_cases hLU:(L:Int)<(U:Int)
   ·obtain⟨M,hM⟩:∃ M,M=(L+U+1) / 2:=⟨_,rfl⟩
    have eLU:(L:Int)+(U:Int)=((L+U:Nat):Int):=(by omega);have eLU1:((L+U:Nat):Int)+1=((L+U+1:Nat):Int):=(by omega);have v1:=IntWalk.i64_in ((L+U:Nat):Int) (by omega);have v2:=IntWalk.i64_in ((L+U+1:Nat):Int) (by omega);have v3:(((L+U+1:Nat):Int)).tdiv 2=(M:Int):=(by rw[Int.tdiv_eq_ediv_of_nonneg (by omega),hM];rfl);have v4:=IntWalk.i64_in (M:Int) (by omega);have v5:=IntWalk.i64_in ((M:Int) - 1) (by omega);simp only[go_sem,m13,m14,hLU,eLU,eLU1,v1,v2,v3,v4,l1];have hO4:aD H4.next (ext H4 [.arr 0 3 [.lit (.int .i64 (M:Int))]]) 3 (.own H4.next 0 0 1 1) (ints [(M:Int)]):=.inr ⟨H4.next,0,Nat.le_refl _,by simp [aY],rfl,bR _ _ _⟩;rw[hqy];refine ay.lu H4.next (args':=[ah (aC y),ah [(M:Int)]]) aI rfl (fun j hj _=>match j,hj with|0,_=>.dG _|1,_=>hO4.gE fun i hi=>hi) (Oj y M (by omega) (by omega) _ _ ⟨trivial,?_⟩);have ylen:(aC (y*M)).length<=n+2:=oZ (by
     have h1:y*M<=y*10000:=Nat.mul_le_mul_left _ (by omega);rw[Nat.pow_succ];omega)
    have ov5:Over H2 ((ext H4 [.arr 0 3 [.lit (.int .i64 (M:Int))]]).cut H4.next):=ov4.trans ((Over.ext _ _).cut);simp only[go_sem,l8];refine ay.clo (su (y*M) N (by omega) _ _ ⟨trivial,?_⟩);by_cases hc:y*M<=N
    ·have hc1:cK ((y*M:Nat):Int) (N:Int)<=0:=Cv (by omega);have hMQ:M<=Q:=(by rw[hQ,Nat.le_div_iff_mul_le (by omega),Nat.mul_comm];exact hc);simp only[go_sem,hc1];exact⟨ov5.next,⟨M,U,rfl,m14,hMQ,hU,hU2,ov5⟩,by rw[m14];simp only[aa,iv];omega⟩
    ·have hc1:¬ cK ((y*M:Nat):Int) (N:Int)<=0:=Cw (by omega);have hMQ:Q<M:=(by rw[hQ,Nat.div_lt_iff_lt_mul (by omega),Nat.mul_comm];omega);simp only[go_sem,hc1,v5];exact⟨ov5.next,⟨L,M - 1,m13,by simp;omega,hL,by omega,by omega,ov5⟩,by rw[m13];simp only[aa,iv];omega⟩
   ·have LQ:L=Q:=(by omega);subst LQ;have g4:=(ov4.old H.next (by omega)).trans gq2;have lq4:=ag g4;have him:i<m:=(by omega);have zi:(i:Int)<(m:Int):=(by omega);have Q9:L<10000:=(by rw[hQ];exact Nat.div_lt_of_lt_mul (by omega));simp only[go_sem,m13,m14,hLU,l7,l9,zi,lq4];rw[fV _ (by omega)];obtain⟨H5,hH5⟩:∃ H5,H5=H4.upd H.next (.arr 0 3 (ints (qs.set i (L:Int)))):=⟨_,rfl⟩
    rw[<- hH5];have g5:H5.get H.next=some (.arr 0 3 (ints (qs.set i (L:Int)))):=(by rw[hH5,aj,if_pos rfl]);have n5:H5.next=H4.next:=(by rw[hH5];rfl);have ov5:Over H H5:=⟨by have:=ov.next;omega,fun id hid=>by
     rw[hH5,aj,if_neg (by omega),ov4.old _ (by omega),ovc.old _ (by omega),ov.old _ hid]⟩
    clear hH5;refine⟨by omega,?_⟩;have dgL:Dg [(L:Int)]:=fun c hc=>by obtain rfl:=List.mem_singleton.1 hc;omega
    have vL:val [(L:Int)]=L:=(by simp [val]);have hO5:aD H5.next (ext H5 [.arr 0 3 [.lit (.int .i64 (L:Int))]]) 3 (.own H5.next 0 0 1 1) (ints [(L:Int)]):=.inr ⟨H5.next,0,Nat.le_refl _,by simp [aY],rfl,bR _ _ _⟩;refine ay.lu H5.next (args':=[ah [(L:Int)]]) aI rfl (fun j hj _=>match j,hj with|0,_=>hO5.gE fun i hi=>hi) (ss _ dgL (by simp) _ _ ⟨trivial,?_⟩);rw[vL];have ov6:Over H5 ((ext H5 [.arr 0 3 [.lit (.int .i64 (L:Int))]]).cut H5.next):=(Over.ext _ _).cut;obtain⟨H6,hH6⟩:∃ H6,H6=(ext H5 [.arr 0 3 [.lit (.int .i64 (L:Int))]]).cut H5.next:=⟨_,rfl⟩
    rw[<- hH6]at ov6 ⊢;clear hH6;have n6:=ov6.next;have lenL:(aC L).length<=1:=oZ (by omega);have hmul:y*L<=N:=(by rw[hQ];exact Nat.mul_div_le N y);simp only[go_sem,l1,l8];rw[hqy];refine ay.clo (yz y L (by omega) (by omega) _ _ ⟨trivial,?_⟩);simp only[go_sem];refine ay.clo (Oi N (y*L) hmul (by omega) _ _ ⟨trivial,?_⟩);have wi:=IntWalk.i64_in ((i:Int) - 1) (by omega);simp only[go_sem,l9,wi];have eX:=Nat.div_add_mod (x / 10000 ^ (i+1)) y;have eS:x / 10000 ^ i=a+10000*(x / 10000 ^ (i+1)):=by
     rw[Nat.pow_succ,<- Nat.div_div_eq_div_mul,ha];omega
    have qs2:=Oo (X:=x / 10000 ^ (i+1)) (a:=a) (y:=y) (Q:=x / 10000 ^ (i+1) / y) (R:=R) (by rw[hR];exact eX.symm) hRy;rw[<- eS,<- hN]at qs2;have eRN:N - y*L=x / 10000 ^ i % y:=(by rw[qs2.2,hQ];have:=Nat.div_add_mod N y;omega);rw[eRN];refine⟨by omega,⟨i,qs.set i (L:Int),rfl,by omega,ov5.trans ov6,by omega,(ov6.old _ (by omega)).trans g5,by simp [hql],fun c hc=>?_,?_,rfl⟩,by omega⟩
    ·rcases List.mem_or_eq_of_mem_set hc with h|h
     ·exact hqd c h
     ·omega
    ·rw[List.drop_eq_getElem_cons (by simp;omega),val,List.getElem_set_self,Int.toNat_natCast,List.drop_set_of_lt (by omega),hv,qs2.1,hQ];omega
  obtain⟨j,rfl⟩:∃ j,k=j+1:=⟨k - 1,by omega⟩
  have ej:((j+1:Nat):Int) - 1=(j:Int):=by omega
  rw[ej]at g12;have z2:((n - 1:Nat):Int)<=(j:Int):=by omega
  have cF:=cube N j hN2 (by omega);have cT:=cube y j hy2 (by omega);rw[Nat.pow_succ,<- Nat.div_div_eq_div_mul]at hF hT;have nF:N / 10000 ^ j=0\/j<(aC N).length:=by
   by_cases h:j<(aC N).length
   ·exact .inr h
   ·exact .inl (Cu h)
  have nT:y / 10000 ^ j=0\/j<=n:=by
   by_cases h:j<=n
   ·exact .inr h
   ·exact .inl (Cu (by rw[<- hqy,hn];omega))
  have dF:j<(aC N).length->(aC N)[j]?=some ((N / 10000 ^ j % 10000:Nat):Int):=fun h=>uP h;have dT:j<=n->q[j]?=some ((y / 10000 ^ j % 10000:Nat):Int):=fun h=>by rw[hqy];exact uP (by rw[<- hqy,hn];omega)
  obtain⟨F',hF'⟩:∃ F',F'=N / 10000 ^ j:=⟨_,rfl⟩
  obtain⟨T',hT'⟩:∃ T',T'=y / 10000 ^ j:=⟨_,rfl⟩
  rw[<- hF']at cF hF nF dF;rw[<- hT']at cT hT nT dT;obtain⟨cf,hcf⟩:∃ cf,cf=F' % 10000:=⟨_,rfl⟩
  obtain⟨ct,hct⟩:∃ ct,ct=T' % 10000:=⟨_,rfl⟩
  rw[<- hcf]at dF;rw[<- hct]at dT;have w6:=IntWalk.i64_in ((F:Int)*10000) (by omega);have w7:=IntWalk.i64_in ((F:Int)*10000+(cf:Int)) (by omega);have w8:=IntWalk.i64_in ((T:Int)*10000) (by omega);have w9:=IntWalk.i64_in ((T:Int)*10000+(ct:Int)) (by omega);have wj:=IntWalk.i64_in ((j:Int) - 1) (by omega);by_cases hjl:j<(aC N).length
  ·have dF1:=dF hjl;have Nn:¬ aC N=[]:=(by intro h;rw[h]at hjl;simp at hjl);have z3:(j:Int)<(aC N).length:=(by omega);by_cases hjn:j<=n
   ·have dT1:=dT hjn;have qn:¬ q=[]:=(by intro h;rw[h]at hn;simp at hn);have z4:(j:Int)<=(n:Int):=(by omega);have z5:(j:Int)<q.length:=(by omega);simp only[go_sem,g12,f6,w5,emax,z2,g11,w6,f8,z3,Nn,dF1,w7,z4,z5,f1,dT1,qn,g10,w8,w9,wj];exact⟨⟨j,F',T',rfl,by omega,by omega,by simp;omega,by simp;omega,hF',hT'⟩,by omega⟩
   ·have z4:¬ (j:Int)<=(n:Int):=(by omega);simp only[go_sem,g12,f6,w5,emax,z2,g11,w6,f8,z3,Nn,dF1,w7,z4,wj];exact⟨⟨j,F',T',rfl,by omega,by omega,by simp;omega,by rw[g10,aa];simp;omega,hF',hT'⟩,by omega⟩
  ·have z3:¬ (j:Int)<(aC N).length:=(by omega);by_cases hjn:j<=n
   ·have dT1:=dT hjn;have qn:¬ q=[]:=(by intro h;rw[h]at hn;simp at hn);have z4:(j:Int)<=(n:Int):=(by omega);have z5:(j:Int)<q.length:=(by omega);simp only[go_sem,g12,f6,w5,emax,z2,g11,w6,f8,z3,z4,z5,f1,dT1,qn,g10,w8,w9,wj];exact⟨⟨j,F',T',rfl,by omega,by omega,by simp;omega,by simp;omega,hF',hT'⟩,by omega⟩
   ·have z4:¬ (j:Int)<=(n:Int):=(by omega);simp only[go_sem,g12,f6,w5,emax,z2,g11,w6,f8,z3,z4,wj];exact⟨⟨j,F',T',rfl,by omega,by omega,by simp;omega,by rw[g10,aa];simp;omega,hF',hT'⟩,by omega⟩
end Go.Proofs.R01
namespace Go.Proofs.R01
open Go.Hx
def vn:AVal->Nat
 | .vec _ l=>val (l.map iv)
 | _=>0
theorem Cx (n:Nat):vn (ah (aC n))=n:=by
 have:(ints (aC n)).map iv=aC n:=by simp [ints,aa,iv,Function.comp_def]
 show val ((ints (aC n)).map iv)=n;rw[this,jV]
theorem Ot (x y:Nat)(hx:(aC x).length<=100)(hy:(aC y).length<=100)(H:AHeap)(K:ARes->AHeap->Prop)(hK:K (.ret (ah (aC (Nat.gcd x y)))) H):ae Tryz.prog G0 88 [ah (aC x),ah (aC y)] H K:=by
 refine ae.clo ⟨_,Tryz.func88,rfl,rfl⟩ fun hcl=>?_;refine ae.aP (n:=19) (rs:=[.tmp 4]) Tryz.func88 rfl rfl rfl (by decide) (by kernel_rfl) (by simp) ?_;simp only[go_sem];refine W.aK 262115 (by rfl) (fun ρ H'=>∃ X Y:Nat,ρ 0=ah (aC X)/\ρ 1=ah (aC Y)/\(aC X).length<=100/\(aC Y).length<=100/\H'=H/\Nat.gcd X Y=Nat.gcd x y) (fun ρ H=>vn (ρ 1)) ?_ ?_
 ·simp only[go_sem];exact⟨x,y,rfl,rfl,hx,hy,rfl⟩
 rintro ρ H' ⟨X,Y,h0,h1,hX,hY,rfl,hg⟩;refine af _ _ _ (by rfl) ?_;by_cases hz:Y=0
 ·subst hz;have z1:¬ (0:Int)<(aC 0).length:=by rw[iw];simp
  rw[Nat.gcd_zero_right]at hg;simp only[go_sem,h0,h1,z1];rw[<- hg]at hK;exact ar.bB aI hcl (.refl _) (.dG _) hK
 have z1:(0:Int)<(aC Y).length:=by
  have:(aC Y).length≠0:=fun h=>hz (yw.1 (List.eq_nil_of_length_eq_zero h));omega
 simp only[go_sem,h0,h1,z1];refine ay.clo (Oq X Y hz hX hY _ _ ⟨trivial,?_⟩);have hlt:X % Y<Y:=Nat.mod_lt _ (by omega);have hl:(aC (X % Y)).length<=100:=by
  rcases Nat.lt_or_ge (aC Y).length (aC (X % Y)).length with h|h
  ·exact absurd (qC h) (by omega)
  ·omega
 simp only[go_sem,h1];refine⟨⟨Y,X % Y,rfl,rfl,hY,hl,?_⟩,?_⟩
 ·rw[<- hg,Nat.gcd_comm Y,<- Nat.gcd_rec,Nat.gcd_comm]
 ·have e1:=Cx (X % Y);have e2:=Cx Y;rw[show AVal.vec (aC (X % Y)).length (ints (aC (X % Y)))=ah (aC (X % Y)) from rfl,show AVal.vec (aC Y).length (ints (aC Y))=ah (aC Y) from rfl,e1,e2];exact hlt
theorem Cy {S:Nat->Prop}{H:AHeap}{nx:Nat}{n:Int}{b:Bool}:Fz S H nx (.tup [.lit (.int .i64 n),.lit (.bool b)]) (.tup [aa n,.lit (.bool b)]):=.tup rfl fun i hi _=>match i,hi with
 | 0,_=>.lit _
 | 1,_=>.lit _
def mE (n:Nat):AVal:=if n<=4611686018427387903 then .tup [aa n,.lit (.bool true)] else .tup [aa 0,.lit (.bool false)]
theorem uQ (n:Nat)(hn:(aC n).length<=100)(H:AHeap)(K:ARes->AHeap->Prop)(hK:K (.ret (mE n)) H):ae Tryz.prog G0 124 [ah (aC n)] H K:=by
 refine ae.clo ⟨_,Tryz.func124,rfl,rfl⟩ fun hcl=>?_;obtain⟨p,hp⟩:∃ p,p=aC n:=⟨_,rfl⟩
 refine ae.aP (n:=25) (rs:=[.tmp 2,.tmp 3]) Tryz.func124 rfl rfl rfl (by decide) (by kernel_rfl) (by simp) ?_;simp only[go_sem];refine ay.clo (pe 4611686018427387903 (by omega) _ _ ⟨trivial,?_⟩);simp only[go_sem];refine ay.clo (su n 4611686018427387903 (by omega) _ _ ⟨trivial,?_⟩);unfold mE at hK;by_cases hb:n<=4611686018427387903;rotate_left
 ·have c1:0<cK (n:Int) 4611686018427387903:=by have:=Cw (a:=(n:Int)) (b:=4611686018427387903) (by omega);omega
  rw[if_neg hb]at hK;simp only[go_sem,c1];exact ar.bB aI hcl (.refl _) Cy hK
 have c1:¬ 0<cK (n:Int) 4611686018427387903:=by have:=Cv (a:=(n:Int)) (b:=4611686018427387903) (by omega);omega
 rw[if_pos hb]at hK;have w1:=IntWalk.i64_in (((aC n).length:Int) - 1) (by omega);simp only[go_sem,c1,w1];refine W.aK 16769072 (by rfl) (fun ρ H'=>∃ k X:Nat,ρ 5=aa ((k:Int) - 1)/\ρ 4=aa X/\X=n / 10000 ^ k/\k<=(aC n).length/\H'=H) (fun ρ H=>(iv (ρ 5)+1).toNat) ?_ ?_
 ·simp only[go_sem];refine⟨(aC n).length,0,rfl,rfl,?_,by omega⟩;exact(Nat.div_eq_of_lt (by have:=nV (lL n);rwa [jV]at this)).symm
 rintro ρ H' ⟨k,X,h5,h4,hX,hk,rfl⟩;refine af _ _ _ (by rfl) ?_;by_cases hz:k=0
 ·subst hz;have z1:¬ (0:Int)<=((0:Nat):Int) - 1:=by omega
  simp only[Nat.pow_zero,Nat.div_one]at hX;subst hX;simp only[go_sem,h5,h4];exact ar.bB aI hcl (.refl _) Cy hK
 obtain⟨j,rfl⟩:∃ j,k=j+1:=⟨k - 1,by omega⟩
 have ej:((j+1:Nat):Int) - 1=(j:Int):=by omega
 rw[ej]at h5;have z1:(0:Int)<=(j:Int):=by omega
 have hd:=uP (n:=n) (k:=j) (by omega);rw[Nat.pow_succ,<- Nat.div_div_eq_div_mul]at hX;have hle:n / 10000 ^ j<=n:=Nat.div_le_self _ _;obtain⟨Y,hY⟩:∃ Y,Y=n / 10000 ^ j:=⟨_,rfl⟩
 rw[<- hY]at hd hX hle;obtain⟨c,hc⟩:∃ c,c=Y % 10000:=⟨_,rfl⟩
 rw[<- hc]at hd;have w2:=IntWalk.i64_in (10000*(X:Int)) (by omega);have w3:=IntWalk.i64_in (10000*(X:Int)+(c:Int)) (by omega);have w4:=IntWalk.i64_in ((j:Int) - 1) (by omega);have dn:¬ aC n=[]:=by intro h;rw[h]at hd;simp at hd
 have z2:(j:Int)<(aC n).length:=by omega
 simp only[go_sem,h5,h4,z1,w2,hd,dn,z2,w3,w4];exact⟨⟨j,Y,rfl,by simp;omega,hY,by omega⟩,by omega⟩
theorem Ou {a b:Nat}(h:a<=b):(aC a).length<=(aC b).length:=by
 rcases Nat.lt_or_ge (aC b).length (aC a).length with h1|h1
 ·exact absurd (qC h1) (by omega)
 ·exact h1
end Go.Proofs.R01
namespace Go.Proofs.R01
open Go.Hx
abbrev g8 (n:Int):Prop:=-9223372036854775808<=n/\n<=9223372036854775807
theorem nW {n:Int}(h:g8 n):(aC n.natAbs).length<=5:=oZ (by
 have:(10000:Nat) ^ 5=100000000000000000000:=by decide
 have:=h.1;have:=h.2;omega)
theorem Cz {n m:Int}(h:g8 n)(h':g8 m):(aC (n.natAbs*m.natAbs)).length<=10:=oZ (by
 have e:(10000:Nat) ^ 10=10000 ^ 5*10000 ^ 5:=by decide
 rw[e];have:=yx (nW h);have:=yx (nW h');exact Nat.mul_lt_mul_of_lt_of_lt ‹_› ‹_›)
end Go.Proofs.R01
namespace Go.Hx
variable {P:Program} {H H':AHeap}
theorem qw {t e:TypeId}{lo n m:Nat}{v x:AVal}{cs src:List AVal}{z:List AVal}(ht:P.underlying t=some (.slice e))(hz:P.cellsOf e=1)(hzero:bZ P e=some z)(hsrc:cZ H 1 x=some (m,src))(hm:src.length=m)(hx:src.all AVal.one=true)
  (hb:(cs.length+m)*P.bytesOf e<=2 ^ 46/\cs.length+m<=2 ^ 46) (ho:aD lo H e v cs) (hlo:lo<=H.next) (hn:n=H.next):
  ∃ v' H',bO P H n t t v x=some (v',H')/\aD lo H' e v' (cs++src)/\H.next<=H'.next/\(∀ k,k<H.next->(∀ g n,v≠.own k g 0 n 1)->H'.get k=H.get k):=by
 subst hm;obtain⟨v',H',hA,h2⟩:=rY (H:=H) (n:=n) ht hz hzero hx hb ho hlo hn;refine⟨v',H',?_,h2⟩;rw[<- hA];have e2:cZ H 1 (.vec src.length src)=some (src.length,src):=by unfold cZ;simp
 unfold bO;rw[ht];simp only[hz,hsrc,e2]
end Go.Hx
namespace Go.Proofs
open Go.Hx
def ba (l:List Int):List AVal:=l.map fun n=>.lit (.int .u8 n)
def U8 (n:Int):Prop:=0<=n/\n<256
theorem qx {l:List Int}{k:Nat}{a:Int}(h:l[k]?=some a):(ba l)[k]?=some (.lit (.int .u8 a)):=by unfold ba;rw[List.getElem?_map,h];rfl
theorem Ns (n:Nat)(hn:n<=5)(ord:List Int)(H:AHeap)(K:ARes->AHeap->Prop)(hK:K (.ret (ah (List.replicate n 1))) H):
  ae Tryz.prog G0 133 [.agg [.vec n (ba (List.replicate n 0)),(.lit (.int .u16 0)),.vec ord.length (ba ord)]] H K:=by
 refine ae.clo ⟨_,Tryz.func133,rfl,rfl⟩ fun hcl=>?_;refine ae.aP (n:=28) (rs:=[.tmp 2]) Tryz.func133 rfl rfl rfl (by decide) (by kernel_rfl) (by simp) ?_;simp only[go_sem];obtain⟨H1,hH1⟩:∃ H1,H1=ext H [.arr 0 162 [.vec n (ba (List.replicate n 0)),.lit (.int .u16 0),.vec ord.length (ba ord)]]:=⟨_,rfl⟩
 have l1:=ag (show H1.get H.next=some (.arr 0 162 [.vec n (ba (List.replicate n 0)),.lit (.int .u16 0),.vec ord.length (ba ord)]) by rw[hH1];exact bR ..);have n1:H1.next=H.next+1:=by rw[hH1];rfl
 have o1:Over H H1:=by rw[hH1];exact .ext _ _
 rw[<- hH1];refine W.aK 134217720 (by rfl) (fun ρ H'=>∃ k:Nat,ρ 4=aa k/\k<=n/\Over H1 H'/\aD H1.next H' 3 (ρ 3) (ints (List.replicate k 1))) (fun ρ H=>n - (iv (ρ 4)).toNat) ?_ ?_
 ·simp only[go_sem];exact⟨0,rfl,by omega,.refl _,.nil⟩
 rintro ρ H' ⟨k,h4,hk,ov,h3⟩;refine W.env fun E hE=>?_;have e1:E 1=.ptr H.next 0 0:=by rw[hE];simp only[go_sem]
 have e3:E 3=ρ 3:=by rw[hE];simp only[go_sem]
 have e4:E 4=aa k:=by rw[hE];simp only[go_sem,h4]
 clear hE;refine af _ _ _ (by rfl) ?_;have l2:=(ov.live (g:=0) (by omega:H.next<H1.next)).trans l1;by_cases hb:(k:Int)<n
 ·have h5:(k:Int)<5:=by omega
  have hg:(ba (List.replicate n 0))[k]?=some (.lit (.int .u8 0)):=qx (by rw[List.getElem?_replicate,if_pos (by omega)]);have hne:=aL hg;obtain⟨v',H2,hA,ov2,hO,hn2,_⟩:=kh 1 ov h3 (by simp;omega);have w1:=IntWalk.i64_in ((k:Int)+1) (by omega);have hk0:(k:Int) >= 0:=by omega
  have w5:IntKind.i64.wrap (1+IntKind.i64.wrap (Int.tmod 0 4))=1:=by decide
  simp only[go_sem,e1,e3,e4,l2,hb,h5,hk0,hg,hne,w1,w5,hA];refine⟨by have:=ov2.next;omega,⟨k+1,rfl,by omega,ov2,?_⟩,by rw[h4];simp only[aa,aU];omega⟩;rw[List.replicate_succ'];exact hO
 ·simp only[go_sem,e1,e3,e4,l2,hb];obtain rfl:k=n:=by omega
  exact ar.bB aI hcl (o1.trans ov) (h3.gE fun i hi=>by omega) hK
structure IsPerm (n:Nat)(p:List Int):Prop where
 len:p.length=n
 nd:p.Nodup
 rng:∀ x∈p,0<=x/\x<n
theorem Nt {n:Nat}{p:List Int}(h:IsPerm n p)(at':Nat)(ha:at'<=n):IsPerm (n+1) (p.take at'++(n:Int) :: p.drop at'):=by
 have hperm:(p.take at'++(n:Int) :: p.drop at').Perm ((n:Int) :: p):=by
  have:=List.perm_middle (a:=(n:Int)) (l₁:=p.take at') (l₂:=p.drop at')
  rwa [List.take_append_drop]at this
 refine⟨by rw[hperm.length_eq];simp [h.len],(hperm.nodup_iff).2 (List.nodup_cons.2 ⟨fun hm=>?_,h.nd⟩),fun x hx=>?_⟩
 ·have:=h.rng _ hm;omega
 ·rcases List.mem_cons.1 (hperm.mem_iff.1 hx) with rfl|h2
  ·omega
  ·have:=h.rng x h2;omega
def my (ord:List Int)(k:Nat):Nat:=if k<ord.length then (ord.getD k 0 % ((k:Int)+1)).toNat else 0
def ir (ord:List Int):Nat->List Int
 | 0=>[]
 | k+1=>(ir ord k).take (my ord k)++(k:Int) :: (ir ord k).drop (my ord k)
theorem Nu (ord:List Int)(k:Nat):my ord k<=k:=by
 unfold my;split
 ·have:=Int.emod_lt_of_pos (ord.getD k 0) (show 0<(k:Int)+1 by omega);omega
 ·omega
theorem yg (ord:List Int):∀ n:Nat,IsPerm n (ir ord n)
 | 0=>⟨rfl,by simp [ir],by simp [ir]⟩
 | n+1=>Nt (yg ord n) _ (Nu ord n)
set_option maxHeartbeats 1000000 in
theorem Nv (n:Nat)(hn:n<=5)(ord:List Int)(hol:(ord.length:Int)<2 ^ 63)(ho8:∀ x∈ord,U8 x)(H:AHeap)(K:ARes->AHeap->Prop)(hK:∀ v H',Over H H'->aD H.next H' 3 v (ints (ir ord n))->K (.ret v) H'):
  ae Tryz.prog G0 99 [.agg [.vec n (ba (List.replicate n 0)),.lit (.int .u16 0),.vec ord.length (ba ord)]] H K:=by
 refine ae.clo ⟨_,Tryz.func99,rfl,rfl⟩ fun hcl=>?_;refine ae.aP (n:=42) (rs:=[.tmp 2]) Tryz.func99 rfl rfl rfl (by decide) (by kernel_rfl) (by simp) ?_;simp only[go_sem];obtain⟨H1,hH1⟩:∃ H1,H1=ext H [.arr 0 162 [.vec n (ba (List.replicate n 0)),.lit (.int .u16 0),.vec ord.length (ba ord)]]:=⟨_,rfl⟩
 have l1:=ag (show H1.get H.next=some (.arr 0 162 [.vec n (ba (List.replicate n 0)),.lit (.int .u16 0),.vec ord.length (ba ord)]) by rw[hH1];exact bR ..);have n1:H1.next=H.next+1:=by rw[hH1];rfl
 have o1:Over H H1:=by rw[hH1];exact .ext _ _
 rw[<- hH1];refine W.aK 2199023255544 (by rfl) (fun ρ H'=>∃ (k:Nat) (p:List Int),ρ 4=aa k/\k<=n/\p=ir ord k/\Over H1 H'/\aD H1.next H' 3 (ρ 3) (ints p)) (fun ρ H=>n - (iv (ρ 4)).toNat) ?_ ?_
 ·simp only[go_sem];exact⟨0,[],rfl,by omega,rfl,.refl _,.nil⟩
 rintro ρ H' ⟨k,p,h4,hk,hpe,ov,h3⟩;have hp:IsPerm k p:=by rw[hpe];exact yg ord k
 refine W.env fun E hE=>?_;have e1:E 1=.ptr H.next 0 0:=by rw[hE];simp only[go_sem]
 have e3:E 3=ρ 3:=by rw[hE];simp only[go_sem]
 have e4:E 4=aa k:=by rw[hE];simp only[go_sem,h4]
 clear hE;refine af _ _ _ (by rfl) ?_;have l2:=(ov.live (g:=0) (by omega:H.next<H1.next)).trans l1;simp only[go_sem,e1,l2];refine ay.clo (Ns n hn ord _ _ ⟨trivial,?_⟩);by_cases hb:(k:Int)<n;rotate_left
 ·simp only[go_sem,List.length_replicate,e3,e4,hb];obtain rfl:k=n:=by omega
  exact ar.mk (o1.trans ov).next (hK _ _ (o1.trans ov) (by rw[<- hpe];exact h3.keep (by omega) (Nat.le_refl _) fun _ _ _ _ _ _=>rfl))
  -- the place
 rcases h3 with ⟨h3n,hpn⟩|⟨oi,og,hoi1,hoi2,h3o,hog⟩
 ·have p0:p=[]:=by cases p with
   | nil=>rfl
   | cons a l=>simp [ints]at hpn
  have pl:=hp.len;rw[p0]at pl;obtain rfl:k=0:=by simpa using pl.symm
  rw[h3n]at e3;have e4':E 4=aa 0:=e4;have hb':(0:Int)<n:=hb;by_cases ho:(0:Int)<ord.length
  ·obtain⟨b,hbg⟩:=get_of_lt (l:=ord) (i:=0) (by omega);have b8:=ho8 b (List.mem_of_getElem? hbg);have hbg':=qx hbg;have hbne:=aL hbg';have w2:IntKind.i64.wrap b=b:=IntWalk.i64_in b (by have:=b8.1;have:=b8.2;omega);have w1:IntKind.i64.wrap 1=1:=(by decide);have m1:b.tmod 1=0:=(by simp);obtain⟨v2,Hb,hA2,ovB,hO2,hn2,hp2⟩:=kh (H:=H') (H':=H') (l:=[]) (v:=.lit (.slice none 0 0)) (0:Int) (.refl _) aD.nil (by simp);obtain⟨v3,Hc,hA3,hO3,hn3,hp3⟩:=qw (P:=Tryz.prog) (H:=Hb) (t:=46) (n:=Hb.next) (m:=0) (v:=v2) (x:=.lit (.slice none 0 0)) (src:=[]) Tryz.underlying46 Tryz.eU Tryz.eV rfl rfl rfl (by rw[Tryz.fG];exact⟨by decide,by decide⟩) hO2 ovB.next rfl;have ovC:Over H' Hc:=mD ovB hO2 hn3 hp3;have hA1:bO Tryz.prog H' H'.next 46 46 (.lit (.slice none 0 0)) (.lit (.slice none 0 0))=some (.lit (.slice none 0 0),H'):=by
    unfold bO;rw[Tryz.underlying46];simp only[Tryz.eV,Tryz.eU,Option.bind_some,xB,if_true]
   have hO3':aD H1.next Hc 3 v3 (ints [0]):=by
    rw[List.append_nil]at hO3;exact hO3.keep ov.next (Nat.le_refl _) fun _ _ _ _ _ _=>rfl
   simp only[go_sem,List.length_replicate,e1,e3,e4',l2,hb',ho,hbg',hbne,w1,w2,m1,hA1,hA2,hA3];refine⟨by have:=ovC.next;have:=ov.next;omega,⟨1,[0],rfl,by omega,by simp [ir],ov.trans ovC,hO3'⟩,by rw[h4];simp only[aa,aU];omega⟩
  ·have w1:IntKind.i64.wrap 1=1:=(by decide);obtain⟨v2,Hb,hA2,ovB,hO2,hn2,hp2⟩:=kh (H:=H') (H':=H') (l:=[]) (v:=.lit (.slice none 0 0)) (0:Int) (.refl _) aD.nil (by simp);obtain⟨v3,Hc,hA3,hO3,hn3,hp3⟩:=qw (P:=Tryz.prog) (H:=Hb) (t:=46) (n:=Hb.next) (m:=0) (v:=v2) (x:=.lit (.slice none 0 0)) (src:=[]) Tryz.underlying46 Tryz.eU Tryz.eV rfl rfl rfl (by rw[Tryz.fG];exact⟨by decide,by decide⟩) hO2 ovB.next rfl;have ovC:Over H' Hc:=mD ovB hO2 hn3 hp3;have hA1:bO Tryz.prog H' H'.next 46 46 (.lit (.slice none 0 0)) (.lit (.slice none 0 0))=some (.lit (.slice none 0 0),H'):=by
    unfold bO;rw[Tryz.underlying46];simp only[Tryz.eV,Tryz.eU,Option.bind_some,xB,if_true]
   have hO3':aD H1.next Hc 3 v3 (ints [0]):=by
    rw[List.append_nil]at hO3;exact hO3.keep ov.next (Nat.le_refl _) fun _ _ _ _ _ _=>rfl
   simp only[go_sem,List.length_replicate,e1,e3,e4',l2,hb',ho,w1,hA1,hA2,hA3];refine⟨by have:=ovC.next;have:=ov.next;omega,⟨1,[0],rfl,by omega,by simp [ir],ov.trans ovC,hO3'⟩,by rw[h4];simp only[aa,aU];omega⟩
 rw[h3o]at e3;have lo:=ag hog;by_cases ho:(k:Int)<ord.length
 ·obtain⟨b,hbg⟩:=get_of_lt (l:=ord) (i:=k) (by omega);have b8:=ho8 b (List.mem_of_getElem? hbg);have hbg':=qx hbg;have hbne:=aL hbg';have w0:=IntWalk.i64_in ((k:Int)+1) (by omega);have w1:=w0;have w2:IntKind.i64.wrap b=b:=IntWalk.i64_in b (by have:=b8.1;have:=b8.2;omega);have m1:b.tmod ((k:Int)+1)=b % ((k:Int)+1):=Int.tmod_eq_emod_of_nonneg b8.1;have m2:=Int.emod_nonneg b (show (k:Int)+1≠0 by omega);have m3:=Int.emod_lt_of_pos b (show 0<(k:Int)+1 by omega);have hz:¬ (k:Int)+1=0:=by omega
  obtain⟨a,hat⟩:=Int.eq_ofNat_of_zero_le m2;have ha:a<=k:=by omega
  have hac:(0:Int)<=(a:Int):=by omega
  have hap:(a:Int)<=(p.length:Int):=by rw[hp.len];omega
  have hak:(0:Int)<=(a:Int)/\(a:Int)<=(p.length:Int):=⟨hac,hap⟩
  have pl:p.length=k:=hp.len;obtain⟨v1,Ha,hA1,hO1,hn1,hp1⟩:=qw (P:=Tryz.prog) (H:=H') (t:=46) (n:=H'.next) (m:=a) (v:=.lit (.slice none 0 0)) (x:=.own oi og 0 a 1) (src:=(ints p).take a) Tryz.underlying46 Tryz.eU Tryz.eV
   (by rw[rV,if_pos rfl,lo];simp) (by simp [aR]<;>omega) (List.all_eq_true.2 fun c hc=>by
    obtain⟨z,_,rfl⟩:=List.mem_map.1 (List.mem_of_mem_take hc);rfl) (by rw[Tryz.fG];simp<;>omega) aD.nil (Nat.le_refl _) rfl
  have ovA:Over H' Ha:=⟨hn1,fun id hi=>hp1 id hi fun g n h=>by cases h⟩
  rw[List.nil_append,zm]at hO1;obtain⟨v2,Hb,hA2,ovB,hO2,hn2,hp2⟩:=kh (k:Int) ovA hO1 (by simp<;>omega);have hcl2:(ints (p.take a++[(k:Int)])).length<=k+1:=by rw[aR,List.length_append,List.length_take];simp<;>omega
  have hlb:Hb.live oi og=some (3,ints p):=(ovB.live hoi2).trans lo;obtain⟨v3,Hc,hA3,hO3,hn3,hp3⟩:=qw (P:=Tryz.prog) (H:=Hb) (t:=46) (n:=Hb.next) (m:=p.length - a) (v:=v2) (x:=.own oi og a (p.length - a) 1) (src:=(ints p).drop a) Tryz.underlying46 Tryz.eU Tryz.eV
   (by rw[rV,if_pos rfl,hlb];simp [List.take_of_length_le,aR]) (by simp [aR]) (List.all_eq_true.2 fun c hc=>by
    obtain⟨z,_,rfl⟩:=List.mem_map.1 (List.mem_of_mem_drop hc);rfl) (by rw[Tryz.fG];omega) hO2 ovB.next rfl
  have ovC:Over H' Hc:=mD ovB hO2 hn3 hp3;have hla:Ha.live oi og=some (3,ints p):=(ovA.live hoi2).trans lo;rw[zn]at hO3;have hO3':aD H1.next Hc 3 v3 (ints (p.take a++(k:Int) :: p.drop a)):=by
   have:ints (p.take a++[(k:Int)])++ints (p.drop a)=ints (p.take a++(k:Int) :: p.drop a):=(by simp [ints]);rw[this]at hO3;exact hO3.keep ov.next (Nat.le_refl _) fun _ _ _ _ _ _=>rfl
  simp only[go_sem,List.length_replicate,e1,e3,e4,l2,hb,ho,hbg',hbne,w0,w2,m1,hz,hat,hac,hap,Int.toNat_natCast,lo,hlb,hA1,hA2,hA3];refine⟨by have:=ovC.next;omega,⟨k+1,_,rfl,by omega,by rw[ir,<- hpe,show my ord k=a by unfold my;rw[if_pos (by omega),bI hbg,hat];rfl],ov.trans ovC,hO3'⟩,by rw[h4];simp only[aa,aU];omega⟩
 ·have w0:=IntWalk.i64_in ((k:Int)+1) (by omega);have pl:p.length=k:=hp.len;obtain⟨v1,Ha,hA1,hO1,hn1,hp1⟩:=qw (P:=Tryz.prog) (H:=H') (t:=46) (n:=H'.next) (m:=0) (v:=.lit (.slice none 0 0)) (x:=.own oi og 0 0 1) (src:=(ints p).take 0) Tryz.underlying46 Tryz.eU Tryz.eV
   (by rw[rV,if_pos rfl,lo];simp) (by simp [aR]<;>omega) (List.all_eq_true.2 fun c hc=>by
    obtain⟨z,_,rfl⟩:=List.mem_map.1 (List.mem_of_mem_take hc);rfl) (by rw[Tryz.fG];simp<;>omega) aD.nil (Nat.le_refl _) rfl
  have ovA:Over H' Ha:=⟨hn1,fun id hi=>hp1 id hi fun g n h=>by cases h⟩
  rw[List.nil_append,zm]at hO1;obtain⟨v2,Hb,hA2,ovB,hO2,hn2,hp2⟩:=kh (k:Int) ovA hO1 (by simp<;>omega);have hcl2:(ints (p.take 0++[(k:Int)])).length<=k+1:=by rw[aR,List.length_append,List.length_take];simp<;>omega
  have hlb:Hb.live oi og=some (3,ints p):=(ovB.live hoi2).trans lo;obtain⟨v3,Hc,hA3,hO3,hn3,hp3⟩:=qw (P:=Tryz.prog) (H:=Hb) (t:=46) (n:=Hb.next) (m:=p.length) (v:=v2) (x:=.own oi og 0 (p.length) 1) (src:=(ints p).drop 0) Tryz.underlying46 Tryz.eU Tryz.eV
   (by rw[rV,if_pos rfl,hlb];simp [List.take_of_length_le,aR]) (by simp [aR]) (List.all_eq_true.2 fun c hc=>by
    obtain⟨z,_,rfl⟩:=List.mem_map.1 (List.mem_of_mem_drop hc);rfl) (by rw[Tryz.fG];omega) hO2 ovB.next rfl
  have ovC:Over H' Hc:=mD ovB hO2 hn3 hp3;have hla:Ha.live oi og=some (3,ints p):=(ovA.live hoi2).trans lo;rw[zn]at hO3;have hO3':aD H1.next Hc 3 v3 (ints (p.take 0++(k:Int) :: p.drop 0)):=by
   have:ints (p.take 0++[(k:Int)])++ints (p.drop 0)=ints (p.take 0++(k:Int) :: p.drop 0):=(by simp [ints]);rw[this]at hO3;exact hO3.keep ov.next (Nat.le_refl _) fun _ _ _ _ _ _=>rfl
  simp only[go_sem,List.length_replicate,e1,e3,e4,l2,hb,ho,w0,lo,hlb,hA1,hA2,hA3];refine⟨by have:=ovC.next;omega,⟨k+1,_,rfl,by omega,by rw[ir,<- hpe,show my ord k=0 by unfold my;rw[if_neg (by omega)]],ov.trans ovC,hO3'⟩,by rw[h4];simp only[aa,aU];omega⟩
theorem oX {l:List Int}(h:∀ x∈l,0<=x):0<=l.sum:=by
 induction l with
 | nil=>simp
 | cons a l ih =>
  rw[List.sum_cons];have:=h a (by simp);have:=ih fun x hx=>h x (by simp [hx]);omega
theorem BS {l:List Int}{i:Nat}{a b:Int}(h:l[i]?=some a):(l.set i b).sum=l.sum - a+b:=by
 induction l generalizing i with
 | nil=>simp at h
 | cons x l ih =>
  cases i with
  | zero=>simp at h;subst h;simp only[List.set_cons_zero,List.sum_cons];omega
  | succ i =>
   simp only[List.set_cons_succ,List.sum_cons];rw[ih (by simpa using h)];omega
theorem Nw {l:List Int}{b:Int}(h:∀ x∈l,0<=x/\x<=b):l.sum<=b*l.length:=by
 induction l with
 | nil=>simp
 | cons a l ih =>
  rw[List.sum_cons,List.length_cons];have:=(h a (by simp)).2;have:=ih fun x hx=>h x (by simp [hx]);rw[show b*((l.length+1:Nat):Int)=b*l.length+b by rw[Int.natCast_add,Int.mul_add];simp];omega
def wF (n:Nat)(bs:List Int)(from':Int):List Int:=(List.range n).map fun (k:Nat)=>if bs.length=0 then 0 else bs.getD ((from'+(k:Int)) % (bs.length:Int)).toNat 0 % 8
theorem BU (n:Nat)(bs:List Int)(from':Int):(wF n bs from').length=n:=by simp [wF]
theorem BV {n:Nat}(bs:List Int)(from':Int){k:Nat}(h:k<n):(wF n bs from')[k]?=some (if bs.length=0 then 0 else bs.getD ((from'+(k:Int)) % (bs.length:Int)).toNat 0 % 8):=by
 unfold wF;rw[List.getElem?_map,List.getElem?_range h];rfl
theorem Nx (n:Nat)(bs:List Int)(from':Int):∀ x∈wF n bs from',0<=x/\x<=7:=fun x hx=>by
 unfold wF at hx;obtain⟨k,_,rfl⟩:=List.mem_map.1 hx;split<;>omega
def uF (g s:Int)(st:List Int × Nat)(m:Nat):List Int × Nat:=if 0<st.1.getD m 0 then (st.1.set m (g*st.1.getD m 0 / s),m) else st
def jA (g:Int)(c:List Int)(m:Nat):List Int × Nat:=(List.range m).foldl (uF g c.sum) (c,0)
theorem BW (g:Int)(c:List Int)(m:Nat):jA g c (m+1)=uF g c.sum (jA g c m) m:=by unfold jA;rw[List.range_succ,List.foldl_append];rfl
def mz (g:Int)(n:Nat)(bs:List Int)(from':Int):List Int:=(jA g (wF n bs from') n).1.set (jA g (wF n bs from') n).2 ((jA g (wF n bs from') n).1.getD (jA g (wF n bs from') n).2 0+(g - (jA g (wF n bs from') n).1.sum))
structure RInv (g:Int)(c:List Int)(m:Nat)(d:List Int)(last:Nat):Prop where
 dl:d.length=c.length
 d0:∀ x∈d,0<=x
 dd:d.drop m=c.drop m
 dg:(d.take m).sum<=g
 ds:c.sum*(d.take m).sum<=g*(c.take m).sum
 la:last<c.length
theorem BX {g:Int}{c:List Int}(hg:1<=g)(hc:∀ x∈c,0<=x)(hl:0<c.length):∀ m,m<=c.length->RInv g c m (jA g c m).1 (jA g c m).2:=by
 intro m
 induction m with
 | zero=>intro _;exact⟨rfl,hc,rfl,by simp;omega,by simp,hl⟩
 | succ m ih =>
  intro hm;obtain⟨hdl,hd0,hdd,hdg,hds,hla⟩:=ih (by omega);rw[BW];generalize jA g c m=st at *
  obtain⟨d,last⟩:=st;simp only at hdl hd0 hdd hdg hds hla;obtain⟨x,hcx⟩:=get_of_lt (l:=c) (i:=m) (by omega);have hx0:=hc x (List.mem_of_getElem? hcx);have hdx:d[m]?=some x:=by
   have h1:(d.drop m)[0]?=d[m]?:=(by rw[List.getElem?_drop];rfl);have h2:(c.drop m)[0]?=c[m]?:=(by rw[List.getElem?_drop];rfl);rw[<- h1,hdd,h2,hcx]
  have hdd':d.drop (m+1)=c.drop (m+1):=by
   have:=congrArg (List.drop 1) hdd
   rwa [List.drop_drop,List.drop_drop]at this
  have hct:(c.take (m+1)).sum=(c.take m).sum+x:=by rw[aT hcx];simp
  have hcs:(c.take (m+1)).sum+(c.drop (m+1)).sum=c.sum:=by rw[<- List.sum_append,List.take_append_drop]
  have hcd0:=oX (l:=c.drop (m+1)) fun y hy=>hc y (List.mem_of_mem_drop hy);have hc00:=oX (l:=c.take m) fun y hy=>hc y (List.mem_of_mem_take hy);have hd00:=oX (l:=d.take m) fun y hy=>hd0 y (List.mem_of_mem_take hy);unfold uF;rw[bI hdx];by_cases hx:0<x
  ·rw[if_pos hx];have gx:0<=g*x:=Int.mul_nonneg (by omega) hx0;have y0:0<=g*x / c.sum:=Int.ediv_nonneg gx (by omega);have y2:c.sum*(g*x / c.sum)<=g*x:=Int.mul_ediv_self_le (by omega);have dt:((d.set m (g*x / c.sum)).take (m+1)).sum=(d.take m).sum+g*x / c.sum:=by
    rw[aT (List.getElem?_set_self (by omega)),List.take_set_of_le (Nat.le_refl _)];simp
   have hs2:c.sum*((d.take m).sum+g*x / c.sum)<=g*(c.take (m+1)).sum:=by
    rw[Int.mul_add,hct,Int.mul_add];omega
   have hle:(d.take m).sum+g*x / c.sum<=g:=by
    have h1:g*(c.take (m+1)).sum<=g*c.sum:=Int.mul_le_mul_of_nonneg_left (by omega) (by omega);have h2:c.sum*((d.take m).sum+g*x / c.sum)<=c.sum*g:=(by rw[Int.mul_comm c.sum g];omega);exact Int.le_of_mul_le_mul_left h2 (by omega)
   refine⟨by simp [hdl],fun y hy=>?_,?_,by dsimp only;rw[dt];exact hle,by dsimp only;rw[dt];exact hs2,by dsimp only;omega⟩
   ·rcases List.mem_or_eq_of_mem_set hy with h|h
    ·exact hd0 y h
    ·omega
   ·rw[<- hdd',List.drop_set_of_lt (by omega)]
  ·rw[if_neg hx];have x0:x=0:=(by omega);have dt:(d.take (m+1)).sum=(d.take m).sum:=(by rw[aT hdx,x0];simp);rw[x0,Int.add_zero]at hct;exact⟨hdl,hd0,hdd',by dsimp only;rw[dt];exact hdg,by dsimp only;rw[dt,hct];exact hds,hla⟩
theorem Ny {g:Int}{n:Nat}(hg:1<=g)(hn:1<=n)(bs:List Int)(from':Int):j9 g n (mz g n bs from'):=by
 have hw:=BU n bs from';have I:=BX (g:=g) (c:=wF n bs from') hg (fun x hx=>(Nx n bs from' x hx).1) (by omega) n (by omega);unfold mz;generalize jA g (wF n bs from') n=st at *
 obtain⟨d,last⟩:=st;obtain⟨hdl,hd0,hdd,hdg,hds,hla⟩:=I;dsimp only at hdl hd0 hdd hdg hds hla ⊢;obtain⟨y,hy⟩:=get_of_lt (l:=d) (i:=last) (by omega);have y0:=hd0 y (List.mem_of_getElem? hy);rw[bI hy];rw[List.take_of_length_le (by omega)]at hdg;have hs:(d.set last (y+(g - d.sum))).sum=g:=by rw[BS hy];omega
 have h0:∀ w∈d.set last (y+(g - d.sum)),0<=w:=fun w hw=>by
  rcases List.mem_or_eq_of_mem_set hw with h|h
  ·exact hd0 w h
  ·omega
 exact⟨by simp [hdl,hw],fun w hw=>⟨h0 w hw,by have:=yW h0 w hw;omega⟩,hs⟩
set_option maxHeartbeats 2000000 in
theorem Nz (g:Int)(n:Nat)(hg:1<=g/\g<=60)(hn:1<=n/\n<=4)(bs:List Int)(hbl:(bs.length:Int)<2 ^ 63)(hb8:∀ x∈bs,U8 x)(from':Int)(hf:0<=from'/\from'<=1000000)(H:AHeap)(K:ARes->AHeap->Prop)(hK:∀ v H',Over H H'->aD H.next H' 3 v (ints (mz g n bs from'))->K (.ret v) H'):
  ae Tryz.prog G0 101 [aa g,aa n,.vec bs.length (ba bs),aa from'] H K:=by
 refine ae.clo ⟨_,Tryz.func101,rfl,rfl⟩ fun hcl=>?_;refine ae.aP (n:=84) (rs:=[.tmp 8]) Tryz.func101 rfl rfl rfl (by decide) (by kernel_rfl) (by simp) ?_;simp only[go_sem];refine⟨by omega,?_⟩;refine W.aK 35184371960832 (by rfl) (fun ρ H'=>∃ (k:Nat) (c:List Int),ρ 11=aa k/\k<=n/\c.length=n/\(∀ x∈c,0<=x/\x<=7)/\(∀ j x,k<=j->c[j]?=some x->x=0)/\(∀ j,j<k->c[j]?=(wF n bs from')[j]?)/\ρ 10=aa c.sum/\OwnI H H' H.next c) (fun ρ H=>n - (iv (ρ 11)).toNat) ?_ ?_
 ·simp only[go_sem];refine⟨0,List.replicate n 0,rfl,by omega,by simp,fun x hx=>?_,fun j x _ hx=>?_,fun j hj=>by omega,by simp,?_⟩
  ·have:=List.eq_of_mem_replicate hx;omega
  ·exact List.eq_of_mem_replicate (List.mem_of_getElem? hx)
  ·exact .new [] _
 rintro ρ H' ⟨k,c,h11,hk,hcl',hc7,hc0,hcw,h10,ho⟩;refine W.env fun E hE=>?_;have e0:E 0=aa g:=by rw[hE];simp only[go_sem]
 have e1:E 1=aa n:=by rw[hE];simp only[go_sem]
 have e2:E 2=.vec bs.length (ba bs):=by rw[hE];simp only[go_sem]
 have e3:E 3=aa from':=by rw[hE];simp only[go_sem]
 have e9:E 9=.own H.next 0 0 n 1:=by rw[hE];simp only[go_sem]
 have e10:E 10=aa c.sum:=by rw[hE];simp only[go_sem,h10]
 have e11:E 11=aa k:=by rw[hE];simp only[go_sem,h11]
 clear hE;refine af _ _ _ (by rfl) ?_;have lN:=ho.live;have hs0:=oX fun x hx=>(hc7 x hx).1;have hs1:=Nw hc7;by_cases hb:(k:Int)<n
 ·have hck:c[k]?=some 0:=by
   obtain⟨a,ha⟩:=get_of_lt (l:=c) (i:=k) (by omega);rw[ha,hc0 k a (Nat.le_refl _) ha]
  have hcne:=aL hck;have hk0:(k:Int) >= 0:=by omega
  have w1:=IntWalk.i64_in ((k:Int)+1) (by omega);by_cases hz:(0:Int)<bs.length
  ·have hzn:¬ (bs.length:Int)=0:=(by omega);have w2:=IntWalk.i64_in (from'+k) (by omega);have m1:(from'+(k:Int)).tmod bs.length=(from'+k) % bs.length:=Int.tmod_eq_emod_of_nonneg (by omega);have m2:=Int.emod_nonneg (from'+k) hzn;have m3:=Int.emod_lt_of_pos (from'+k) hz;obtain⟨q,hq⟩:=Int.eq_ofNat_of_zero_le m2;have hq0:(q:Int) >= 0:=(by omega);have hql:(q:Int)<bs.length:=(by omega);obtain⟨b,hbg⟩:=get_of_lt (l:=bs) (i:=q) (by omega);have b8:=hb8 b (List.mem_of_getElem? hbg);have hbg':=qx hbg;have hbne:=aL hbg';have t1:b.tmod 8=b % 8:=Int.tmod_eq_emod_of_nonneg b8.1;have w3:IntKind.u8.wrap (b % 8)=b % 8:=IntWalk.u8_in _ (by omega);have w4:IntKind.i64.wrap (b % 8)=b % 8:=IntWalk.i64_in _ (by omega);have w5:=IntWalk.i64_in (c.sum+b % 8) (by omega);have hsg:(setAt (ints c) k [.lit (.int .i64 (b % 8))])[k]?=some (.lit (.int .i64 (b % 8))):=by
    rw[fV (by omega),d9,List.getElem?_set_self (by omega)];rfl
   simp only[go_sem,hsg,e1,e2,e3,e9,e10,e11,hb,hz,hzn,w1,w2,m1,hq,hq0,hql,hbg',hbne,t1,w4,w5,hk0,lN];refine⟨by omega,by have:=ho.hi;rw[aG];omega,⟨k+1,c.set k (b % 8),rfl,by omega,by simp [hcl'],fun x hx=>?_,fun j x hj hx=>?_,fun j hj=>?_,by rw[BS hck,Int.sub_zero],ho.store (by omega) _⟩,by rw[h11];simp only[aa,aU];omega⟩
   ·rcases List.mem_or_eq_of_mem_set hx with h|h
    ·exact hc7 x h
    ·omega
   ·rw[List.getElem?_set_ne (by omega)]at hx;exact hc0 j x (by omega) hx
   ·by_cases hjk:j=k
    ·subst hjk;rw[List.getElem?_set_self (by omega),BV bs from' (by omega),if_neg (by omega),hq,Int.toNat_natCast,bI hbg]
    ·rw[List.getElem?_set_ne (by omega)];exact hcw j (by omega)
  ·have w5:=IntWalk.i64_in (c.sum+0) (by omega);rw[Int.add_zero]at w5;simp only[go_sem,e1,e2,e9,e10,e11,hb,hz,w1,w5,Int.add_zero,hk0,hck,lN];refine⟨by have:=ho.hi;omega,⟨k+1,c,rfl,by omega,hcl',hc7,fun j x hj hx=>hc0 j x (by omega) hx,fun j hj=>by
    by_cases hjk:j=k
    ·subst hjk;rw[hck,BV bs from' (by omega),if_pos (by omega)]
    ·exact hcw j (by omega),rfl,ho⟩,by rw[h11];simp only[aa,aU];omega⟩
 ·obtain rfl:k=n:=by omega
  simp only[go_sem,e1,e11,hb];have hcwF:c=wF k bs from':=by
   apply List.ext_getElem?;intro j;rcases Nat.lt_or_ge j k with h|h
   ·exact hcw j h
   ·rw[List.getElem?_eq_none (by omega),List.getElem?_eq_none (by rw[BU];exact h)]
  have hRI:=fun m (hm:m<=k)=>BX (g:=g) (c:=c) hg.1 (fun x hx=>(hc7 x hx).1) (by omega) m (by omega);refine W.aK 18889465861109836705792 (by rfl) (fun ρ H2=>∃ (m last:Nat) (d:List Int),ρ 14=aa m/\m<=k/\jA g c m=(d,last)/\ρ 12=aa (g - (d.take m).sum)/\ρ 13=aa last/\H'.next<=H2.next/\OwnI H H2 H.next d) (fun ρ H=>k - (iv (ρ 14)).toNat) ?_ ?_
  ·simp only[go_sem,e0];exact⟨0,0,c,rfl,by omega,rfl,by simp,rfl,ho⟩
  rintro ρ2 H2 ⟨m,last,d,h14,hm,hrf,h12,h13,hnn,hod⟩;obtain⟨hdl,hd0,hdd,hdg,hds,hlast⟩:RInv g c m d last:=by have:=hRI m hm;rw[hrf]at this;exact this
  rw[hcl']at hdl hlast;have hrs:=BW g c m;rw[hrf]at hrs;unfold uF at hrs;dsimp only at hrs;refine W.env fun E2 hE2=>?_;have f0:E2 0=aa g:=by rw[hE2];simp only[go_sem,e0]
  have f1:E2 1=aa k:=by rw[hE2];simp only[go_sem,e1]
  have f9:E2 9=.own H.next 0 0 k 1:=by rw[hE2];simp only[go_sem,e9]
  have f10:E2 10=aa c.sum:=by rw[hE2];simp only[go_sem,e10]
  have f12:E2 12=aa (g - (d.take m).sum):=by rw[hE2];simp only[go_sem,h12]
  have f13:E2 13=aa last:=by rw[hE2];simp only[go_sem,h13]
  have f14:E2 14=aa m:=by rw[hE2];simp only[go_sem,h14]
  clear hE2;refine af _ _ _ (by rfl) ?_;have lN2:=hod.live;by_cases hb2:(m:Int)<k
  ·obtain⟨x,hcx⟩:=get_of_lt (l:=c) (i:=m) (by omega);have hx7:=hc7 x (List.mem_of_getElem? hcx);have hdx:d[m]?=some x:=by
    have h1:(d.drop m)[0]?=d[m]?:=(by rw[List.getElem?_drop];rfl);have h2:(c.drop m)[0]?=c[m]?:=(by rw[List.getElem?_drop];rfl);rw[<- h1,hdd,h2,hcx]
   have hdne:=aL hdx;have hm0:(m:Int) >= 0:=(by omega);have w1:=IntWalk.i64_in ((m:Int)+1) (by omega);have hdd':d.drop (m+1)=c.drop (m+1):=by
    have:=congrArg (List.drop 1) hdd
    rwa [List.drop_drop,List.drop_drop]at this
   have hct:(c.take (m+1)).sum=(c.take m).sum+x:=(by rw[aT hcx];simp);have hcs:(c.take (m+1)).sum+(c.drop (m+1)).sum=c.sum:=(by rw[<- List.sum_append,List.take_append_drop]);have hcd0:=oX (l:=c.drop (m+1)) fun y hy=>(hc7 y (List.mem_of_mem_drop hy)).1;have hc00:=oX (l:=c.take m) fun y hy=>(hc7 y (List.mem_of_mem_take hy)).1;have hd00:=oX (l:=d.take m) fun y hy=>hd0 y (List.mem_of_mem_take hy);by_cases hx:0<x
   ·have hsz:¬ c.sum=0:=(by omega);have gx:0<=g*x:=Int.mul_nonneg (by omega) hx7.1;have gx2:g*x<=60*7:=Int.mul_le_mul hg.2 hx7.2 hx7.1 (by omega);have w2:=IntWalk.i64_in (g*x) (by omega);have t1:(g*x).tdiv c.sum=g*x / c.sum:=Int.tdiv_eq_ediv_of_nonneg gx;have y0:0<=g*x / c.sum:=Int.ediv_nonneg gx hs0;have y1:g*x / c.sum<=g*x:=Int.ediv_le_self _ gx;have y2:c.sum*(g*x / c.sum)<=g*x:=Int.mul_ediv_self_le (by omega);have w3:=IntWalk.i64_in (g*x / c.sum) (by omega);have w4:=IntWalk.i64_in (g - (d.take m).sum - g*x / c.sum) (by omega);have hsg:(setAt (ints d) m [.lit (.int .i64 (g*x / c.sum))])[m]?=some (.lit (.int .i64 (g*x / c.sum))):=by
     rw[fV (by omega),d9,List.getElem?_set_self (by omega)];rfl
    have dt:((d.set m (g*x / c.sum)).take (m+1)).sum=(d.take m).sum+g*x / c.sum:=by
     rw[aT (List.getElem?_set_self (by omega)),List.take_set_of_le (Nat.le_refl _)];simp
    have hs2:c.sum*((d.take m).sum+g*x / c.sum)<=g*(c.take (m+1)).sum:=by
     rw[Int.mul_add,hct,Int.mul_add];omega
    have hle:(d.take m).sum+g*x / c.sum<=g:=by
     have h1:g*(c.take (m+1)).sum<=g*c.sum:=Int.mul_le_mul_of_nonneg_left (by omega) (by omega);have h2:c.sum*((d.take m).sum+g*x / c.sum)<=c.sum*g:=(by rw[Int.mul_comm c.sum g];omega);exact Int.le_of_mul_le_mul_left h2 (by omega)
    simp only[go_sem,hsg,f0,f1,f9,f10,f12,f13,f14,hb2,hx,hsz,w1,w2,t1,w3,w4,hm0,hdx,lN2];rw[bI hdx,if_pos hx]at hrs;exact⟨by omega,by rw[aG];exact hnn,⟨m+1,m,d.set m (g*x / c.sum),rfl,by omega,hrs,by rw[dt];congr 2;omega,rfl,by rw[aG];exact hnn,hod.store (by omega) _⟩,by rw[h14];simp only[aa,aU];omega⟩
   ·have x0:x=0:=(by omega);have w4:=IntWalk.i64_in (g - (d.take m).sum) (by omega);simp only[go_sem,f1,f9,f12,f13,f14,hb2,x0,w1,w4,hm0,hdx,Int.sub_zero,lN2];have dt:(d.take (m+1)).sum=(d.take m).sum:=(by rw[aT hdx,x0];simp);rw[x0,Int.add_zero]at hct;rw[bI hdx,if_neg hx]at hrs;exact⟨hnn,⟨m+1,last,d,rfl,by omega,hrs,by rw[dt],rfl,hnn,hod⟩,by rw[h14];simp only[aa,aU];omega⟩
  ·obtain rfl:m=k:=(by omega);obtain⟨y,hy⟩:=get_of_lt (l:=d) (i:=last) (by omega);have hyne:=aL hy;have hl0:(last:Int) >= 0:=(by omega);have hlk:(last:Int)<m:=(by omega);have y0:=hd0 y (List.mem_of_getElem? hy);rw[List.take_of_length_le (by omega)]at hdg hds h12 f12;have hyle:=yW hd0 y (List.mem_of_getElem? hy);have w1:=IntWalk.i64_in (y+(g - d.sum)) (by omega);have hle:last+1<=d.length:=(by omega);simp only[go_sem,f1,f9,f12,f13,f14,hb2,hl0,hlk,hy,lN2,w1];refine⟨hle,?_⟩;have hrow:mz g m bs from'=d.set last (y+(g - d.sum)):=by
    unfold mz;rw[<- hcwF,hrf];dsimp only;rw[bI hy]
   rw[hrow]at hK;have ho2:=hod.store (k:=last) (by omega) (y+(g - d.sum));refine ar.mk ho2.ov.next (hK _ _ ho2.ov (.inr ⟨_,0,ho2.lo,ho2.hi,?_,ho2.get⟩));rw[aR,List.length_set,hdl]
structure DrP where
 card:Int
 par:Int
 w:List Int
def DrP.cells (x:DrP):List AVal:=[.lit (.int .u8 x.card),.lit (.int .u8 x.par),.vec x.w.length (ba x.w)]
def fa (l:List DrP):List AVal:=(l.map DrP.cells).flatten
def DrP.Ok (x:DrP):Prop:=U8 x.card/\U8 x.par/\(x.w.length:Int)<2 ^ 63/\∀ b∈x.w,U8 b
def Cd (g:Int)(ps:List DrP)(ord:List Int):AVal:=.agg [.lit (.int .u8 g),.vec ps.length (fa ps),.vec ord.length (ba ord)]
theorem Ce {l:List DrP}{i:Nat}{x:DrP}(h:l[i]?=some x):((fa l).drop (i*3)).take 3=[.lit (.int .u8 x.card),.lit (.int .u8 x.par),.vec x.w.length (ba x.w)]:=nH (f:=DrP.cells) (z:=3) (fun _=>rfl) l i x h
theorem Cf (l:List DrP):(fa l).length=l.length*3:=lC (f:=DrP.cells) (fun _=>rfl) l
def NodeP.cS (x:NodeP):List AVal:=if x.rows=[] then [aa x.card,.lit (.slice none 0 0),.lit (.slice none 0 0)] else [aa x.card,ah x.parents,aA x.rows]
def bW (l:List NodeP):List AVal:=(l.map NodeP.cS).flatten
theorem kK (x:NodeP):x.cS.length=3:=by unfold NodeP.cS;split<;>rfl
theorem Cg (l:List NodeP):(bW l).length=l.length*3:=lC (f:=NodeP.cS) kK l
theorem Ci {l:List NodeP}{i:Nat}{x:NodeP}(h:l[i]?=some x):(bW l)[i*3]?=some (aa x.card):=by
 have:=je (f:=NodeP.cS) (z:=3) kK l i 0 x h (by omega);rw[Nat.add_zero]at this;rw[show (bW l)[i*3]?=_ from this];unfold NodeP.cS;split<;>rfl
theorem NY {l:List NodeP}(h:∀ x∈l,x.rows≠[]):bW l=aB l:=by
 unfold bW aB;congr 1;exact List.map_congr_left fun x hx=>if_neg (h x hx)
theorem uJ {α:Type}{f:α->List AVal}{z:Nat}(hz:∀ a,(f a).length=z):∀ (l:List α) (i:Nat) (a:α),i<l.length->((l.set i a).map f).flatten=((l.map f).flatten).take (i*z)++f a++((l.map f).flatten).drop (i*z+z):=by
 intro l
 induction l with
 | nil=>intro i a h;simp at h
 | cons b l ih =>
  intro i a h;cases i with
  | zero=>simp [hz]
  | succ i =>
   have hb:=hz b;simp only[List.set_cons_succ,List.map_cons,List.flatten_cons];rw[ih i a (by simpa using h),show (i+1)*z=z+i*z by rw[Nat.add_mul];omega,List.take_append,List.drop_append,hb];rw[List.take_of_length_le (l:=f b) (i:=z+i*z) (by omega),List.drop_of_length_le (l:=f b) (i:=z+i*z+z) (by omega),show z+i*z - z=i*z by omega,show z+i*z+z - z=i*z+z by omega];simp
theorem Cj {S:Nat->Prop}{H:AHeap}{nx:Nat}{A B:List AVal}{i:Nat}{a b:AVal}(h:∀ j (h:j<A.length) (h':j<B.length),Fz S H nx A[j] B[j])(hab:Fz S H nx a b):∀ j (h:j<(A.set i a).length) (h':j<(B.set i b).length),Fz S H nx (A.set i a)[j] (B.set i b)[j]:=by
 intro j h1 h2;rw[List.getElem_set,List.getElem_set];split
 ·exact hab
 ·exact h j (by simpa using h1) (by simpa using h2)
theorem oY {S:Nat->Prop}{H:AHeap}{nx:Nat}(l:List (List Int)):Fz S H nx (aA l) (aA l):=.vec rfl fun i hi _=>by simp only[List.getElem_map];exact .dG _
theorem NZ {S:Nat->Prop}{H:AHeap}{nx:Nat}(x:NodeP):∀ c∈x.cS,Fz S H nx c c:=by
 intro c hc;unfold NodeP.cS at hc;split at hc
 ·simp only[List.mem_cons,List.not_mem_nil,or_false]at hc;rcases hc with rfl|rfl|rfl<;>exact .lit _
 ·simp only[List.mem_cons,List.not_mem_nil,or_false]at hc;rcases hc with rfl|rfl|rfl
  ·exact .lit _
  ·exact .dG _
  ·exact oY _
theorem Ck {S:Nat->Prop}{H:AHeap}{nx:Nat}(l:List NodeP):∀ c∈bW l,Fz S H nx c c:=by
 intro c hc;unfold bW at hc;obtain⟨r,hr,hc⟩:=List.mem_flatten.1 hc;obtain⟨x,_,rfl⟩:=List.mem_map.1 hr;exact NZ x c hc
theorem N0 {S:Nat->Prop}{H:AHeap}{nx:Nat}:∀ (l:List NodeP),(∀ x∈l,x.rows=[]->x.parents=[])->∀ (i:Nat) (h:i<(bW l).length) (h':i<(aB l).length),Fz S H nx (bW l)[i] (aB l)[i]:=by
 intro l
 induction l with
 | nil=>intro _ i h;simp [bW]at h
 | cons x l ih =>
  intro hx i h h';have e1:bW (x :: l)=x.cS++bW l:=by simp [bW]
  have e2:aB (x :: l)=x.cells++aB l:=by simp [aB]
  have l1:=kK x;have l2:x.cells.length=3:=rfl;have hc:∀ (i:Nat) (h:i<x.cS.length) (h':i<x.cells.length),Fz S H nx x.cS[i] x.cells[i]:=by
   intro i h h';by_cases hr:x.rows=[]
   ·have hp:=hx x (by simp) hr;have ez:x.cS=[aa x.card,.lit (.slice none 0 0),.lit (.slice none 0 0)]:=if_pos hr;have ec:x.cells=[aa x.card,ah [],aA []]:=(by unfold NodeP.cells;rw[hr,hp]);simp only[ez,ec]
    match i,h' with
    | 0,_=>exact .lit _
    | 1,_=>exact .nil
    | 2,_=>exact .nil
   ·have ez:x.cS=x.cells:=if_neg hr;simp only[ez]
    match i,h' with
    | 0,_=>exact .lit _
    | 1,_=>exact .dG _
    | 2,_=>exact oY _
  simp only[e1,e2];by_cases hi:i<3
  ·rw[List.getElem_append_left (by omega),List.getElem_append_left (by omega)];exact hc i (by omega) (by omega)
  ·rw[List.getElem_append_right (by omega),List.getElem_append_right (by omega)];simp only[l1,l2];exact ih (fun y hy=>hx y (by simp [hy])) (i - 3) _ _
theorem N1 {l:List NodeP}{i:Nat}{x y:NodeP}(h:l[i]?=some x)(hy:y.card=x.card):aB (l.set i y)=((aB l).set (i*3+1) (ah y.parents)).set (i*3+2) (aA y.rows):=by
 have hl:=get_lt h;have h1:=uJ (f:=NodeP.cells) (z:=3) (fun _=>rfl) l i y hl;have h2:=nH (f:=NodeP.cells) (z:=3) (fun _=>rfl) l i x h;unfold aB;rw[h1];have h3:(l.map NodeP.cells).flatten=((l.map NodeP.cells).flatten).take (i*3)++(x.cells++((l.map NodeP.cells).flatten).drop (i*3+3)):=by
  rw[<- h2,<- List.drop_drop,List.take_append_drop,List.take_append_drop]
 have hlen:(((l.map NodeP.cells).flatten).take (i*3)).length=i*3:=by
  rw[List.length_take,lC (f:=NodeP.cells) (z:=3) (fun _=>rfl)];omega
 conv=>rhs;rw[h3]
 rw[List.set_append_right _ _ (by omega),List.set_append_right _ _ (by omega),hlen,show i*3+1 - i*3=1 by omega,show i*3+2 - i*3=2 by omega];unfold NodeP.cells;simp [hy]
theorem uK {lo:Nat}{H:AHeap}{e:TypeId}{v:AVal}{cs:List AVal}(h:aD lo H e v cs){d:Option TypeDesc}{t:TypeId}(hd:d=some (.slice t)):rS d H v=some (.lit (.int .i64 cs.length)):=by
 subst hd;rcases h with ⟨rfl,rfl⟩|⟨id,g,_,_,rfl,h4⟩
 ·rfl
 ·rw[qg,AN,ag h4];rfl
theorem N2 (l p:List Int)(hl:(l.length:Int)<2 ^ 40)(hp:(p.length:Int)<2 ^ 39)(hin:∀ q∈p,0<=q/\q<l.length)(H:AHeap)(K:ARes->AHeap->Prop)(hK:∀ v H',Over H H'->aD H.next H' 3 v (ints (aH l p))->K (.ret v) H'):ae Tryz.prog G0 77 [ah l,ah p] H K:=by
 refine ae.clo ⟨_,Tryz.func77,rfl,rfl⟩ fun hcl=>?_;refine ae.aP (n:=24) (rs:=[.tmp 4]) Tryz.func77 rfl rfl rfl (by decide) (by kernel_rfl) (by simp) ?_;simp only[go_sem];refine W.aK 8388576 (by rfl) (fun ρ H'=>∃ k:Nat,ρ 6=aa k/\k<=p.length/\Over H H'/\aD H.next H' 3 (ρ 5) (ints (aH l (p.take k)))) (fun ρ H=>p.length - (iv (ρ 6)).toNat) ?_ ?_
 ·simp only[go_sem];exact⟨0,rfl,by omega,.refl _,.nil⟩
 rintro ρ H' ⟨k,h6,hk,ov,h5⟩;refine af _ _ _ (by rfl) ?_;by_cases hb:(k:Int)<p.length
 ·obtain⟨q,hq⟩:=get_of_lt (l:=p) (i:=k) (by omega);obtain⟨j,rfl,a,ha⟩:=mo (hin q (List.mem_of_getElem? hq)).1 (hin q (List.mem_of_getElem? hq)).2;have hne:=aL hq;have hne2:=aL ha;have hj:=get_lt ha;have hj':(j:Int)<l.length:=by omega
  obtain⟨v',H2,hA,ov2,hO,hn2,_⟩:=kh a ov h5 (by simp [aH];omega);have w1:=IntWalk.i64_in ((k:Int)+1) (by omega);simp only[go_sem,h6,hb,hq,hne,ha,hne2,hj',w1,hA];refine⟨by have:=ov2.next;omega,⟨k+1,by simp,by omega,ov2,?_⟩,by omega⟩;rw[Pr hq,Int.toNat_natCast,bI ha];exact hO
 ·simp only[go_sem,h6,hb];rw[List.take_of_length_le (by omega)]at h5;exact ar.mk ov.next (hK _ _ ov h5)
theorem N3 (g:Int)(ns:List NodeP)(v:Nat)(x:NodeP)(hx:ns[v]?=some x)(hl:(ns.length:Int)<2 ^ 39)(hp:(x.parents.length:Int)<2 ^ 39)(hin:fO x.parents ns.length)(H:AHeap)(K:ARes->AHeap->Prop)
  (hK:∀ v H',Over H H'->aD H.next H' 3 v (ints (aQ ns x))->K (.ret v) H'):ae Tryz.prog G0 76 [da g ns,aa v] H K:=by
 refine ae.clo ⟨_,Tryz.func76,rfl,rfl⟩ fun hcl=>?_;have hne:=eA hx;have e1:=lD hx;have hv:(v:Int)<ns.length:=by have:=get_lt hx;omega
 refine ae.aP (n:=14) (rs:=[.tmp 4]) Tryz.func76 rfl rfl rfl (by decide) (by kernel_rfl) (by simp) ?_;simp only[go_sem,da,dB];refine W.draw 8 [0,1,0,4,0,28,60,124] Tryz.mixed (by kernel_rfl) (by kernel_rfl) ?_;simp only[go_sem];refine⟨ah (ak ns),[],bX.pure fun H2=>Ps g ns hl H2 _ ⟨rfl,rfl⟩,?_⟩;simp only[go_sem,hv,hne,e1];refine ay.clo (N2 (ak ns) x.parents (by rw[dc];omega) hp (by rw[dc];exact hin) _ _ fun w H3 ov ho=>⟨trivial,?_⟩);simp only[go_sem];have o1:Over H H3:=(Over.ext _ _).trans ov;exact ar.mk o1.next (hK _ _ o1 (ho.keep (by simp [aY]) (Nat.le_refl _) fun _ _ _ _ _ _=>rfl))
theorem Cl {ns:List NodeP}{P:List Int}(hP:IsPerm ns.length P)(hall:∀ v:Nat,v<ns.length->(v:Int)∈P)(hr:∀ (j v:Nat) (x:NodeP),P[j]?=some (v:Int)->ns[v]?=some x->∀ q∈x.parents,0<=q/\∃ k,k<j/\P[k]?=some q):kF (bd ns):=by
 intro v hv;have hl:(bd ns).length=ns.length:=by simp [bd]
 rw[hl]at hv;obtain⟨j,hj⟩:=List.mem_iff_getElem?.1 (hall v hv);have h0:∀ p∈P.take j,0<=p:=fun p hp=>(hP.rng p (List.mem_of_mem_take hp)).1;have sub:∀ (k u:Nat) (x:NodeP),k<=j->P[k]?=some (u:Int)->ns[u]?=some x->Sub ((bd ns).getD u 0) (cq (P.take j)):=fun k u x hk hu hx i hi=>by
  rw[bI (lT hx)]at hi;have hp0:∀ p∈x.parents,0<=p:=fun p hp=>(hr k u x hu hx p hp).1;rw[lE hp0]at hi;obtain⟨_,k',hk',hq⟩:=hr k u x hu hx _ (of_decide_eq_true hi);rw[lE h0];refine decide_eq_true ?_;exact List.mem_iff_getElem?.2 ⟨k',by rw[List.getElem?_take_of_lt (by omega)];exact hq⟩
 have hcl:nK (bd ns) (cq (P.take j)):=fun u hu ht=>by
  rw[hl]at hu;rw[lE h0]at ht;obtain⟨k,hk⟩:=List.mem_iff_getElem?.1 (of_decide_eq_true ht);have hkl:=get_lt hk;rw[List.length_take]at hkl;rw[List.getElem?_take_of_lt (by omega)]at hk;obtain⟨x,hx⟩:=get_of_lt hu;exact sub k u x (by omega) hk hx
 obtain⟨x,hx⟩:=get_of_lt hv;have h1:=uA hcl (bd ns).length (sub j v x (Nat.le_refl _) hj hx);cases hb:(kE (bd ns) ((bd ns).getD v 0)).testBit v with
 | false=>rfl
 | true =>
  exfalso;have h2:=h1 v hb;rw[lE h0]at h2;obtain⟨k,hk⟩:=List.mem_iff_getElem?.1 (of_decide_eq_true h2);have hkl:=get_lt hk;rw[List.length_take]at hkl;rw[List.getElem?_take_of_lt (by omega)]at hk;have e:P[k]?=P[j]?:=by rw[hk,hj]
  have:=(List.getElem?_inj (get_lt hk) hP.nd).1 e;omega
def mC (H1 H':AHeap)(N:Nat)(cs:List AVal):Prop:=H1.next<=H'.next/\(∀ id,id<H1.next->id≠N->H'.get id=H1.get id)/\H'.get N=some (.arr 0 73 cs)
theorem N4 {l:List NodeP}{i:Nat}{x y:NodeP}(h:l[i]?=some x)(hr:x.rows=[])(hy:y.rows=[]):bW (l.set i y)=(bW l).set (i*3) (aa y.card):=by
 have hl:=get_lt h;have h1:=uJ (f:=NodeP.cS) (z:=3) kK l i y hl;have h2:=nH (f:=NodeP.cS) (z:=3) kK l i x h;have e1:x.cS=[aa x.card,.lit (.slice none 0 0),.lit (.slice none 0 0)]:=if_pos hr;have e2:y.cS=[aa y.card,.lit (.slice none 0 0),.lit (.slice none 0 0)]:=if_pos hy;unfold bW;rw[h1,e2];rw[e1]at h2;have h3:(l.map NodeP.cS).flatten=((l.map NodeP.cS).flatten).take (i*3)++([aa x.card,.lit (.slice none 0 0),.lit (.slice none 0 0)]++((l.map NodeP.cS).flatten).drop (i*3+3)):=by
  rw[<- h2,<- List.drop_drop,List.take_append_drop,List.take_append_drop]
 have hlen:(((l.map NodeP.cS).flatten).take (i*3)).length=i*3:=by
  rw[List.length_take,lC (f:=NodeP.cS) (z:=3) kK];omega
 conv=>rhs;rw[h3]
 rw[List.set_append_right _ _ (by omega),hlen];simp
theorem uL (ord:List Int):∀ (n v:Nat),v<n->(v:Int)∈ir ord n
 | 0,v,h=>by omega
 | n+1,v,h=>by
  unfold ir;by_cases hv:v=n
  ·subst hv;simp
  ·have:=uL ord n v (by omega);rw[<- List.take_append_drop (my ord n) (ir ord n)]at this;rcases List.mem_append.1 this with h|h
   ·exact List.mem_append_left _ h
   ·exact List.mem_append_right _ (List.mem_cons_of_mem _ h)
structure DoneN (g:Int)(cs P:List Int)(n j:Nat)(x:NodeP):Prop where
 pl:cH x.parents n
 p3:x.parents.length<=3
 rk:∀ q∈x.parents,∃ k,k<j/\P[k]?=some q
 rl:(x.rows.length:Int)=az (aH cs x.parents)
 ro:∀ r∈x.rows,j9 g x.card r
 ne:x.rows≠[]
structure LoopN (g:Int)(cs P:List Int)(n i:Nat)(ns:List NodeP):Prop where
 len:ns.length=n
 cards:ak ns=cs
 todo:∀ (j v:Nat) (x:NodeP),i<=j->P[j]?=some (v:Int)->ns[v]?=some x->x.rows=[]/\x.parents=[]
 done:∀ (j v:Nat) (x:NodeP),j<i->P[j]?=some (v:Int)->ns[v]?=some x->DoneN g cs P n j x
theorem N5 {l:List NodeP}{i:Nat}{x y:NodeP}(h:l[i]?=some x)(hy:y.card=x.card)(hr:y.rows≠[]):bW (l.set i y)=((bW l).set (i*3+1) (ah y.parents)).set (i*3+2) (aA y.rows):=by
 have hl:=get_lt h;have h1:=uJ (f:=NodeP.cS) (z:=3) kK l i y hl;have h2:=nH (f:=NodeP.cS) (z:=3) kK l i x h;unfold bW;rw[h1];have h3:(l.map NodeP.cS).flatten=((l.map NodeP.cS).flatten).take (i*3)++(x.cS++((l.map NodeP.cS).flatten).drop (i*3+3)):=by
  rw[<- h2,<- List.drop_drop,List.take_append_drop,List.take_append_drop]
 have hlen:(((l.map NodeP.cS).flatten).take (i*3)).length=i*3:=by
  rw[List.length_take,lC (f:=NodeP.cS) (z:=3) kK];omega
 have ex:∃ b c,x.cS=[aa x.card,b,c]:=by unfold NodeP.cS;split<;>exact⟨_,_,rfl⟩
 obtain⟨b,c,ex⟩:=ex;have ey:y.cS=[aa y.card,ah y.parents,aA y.rows]:=if_neg hr
 conv=>rhs;rw[h3]
 rw[List.set_append_right _ _ (by omega),List.set_append_right _ _ (by omega),hlen,show i*3+1 - i*3=1 by omega,show i*3+2 - i*3=2 by omega,ex,ey];simp [hy]
structure ParU (P:List Int)(i u k:Nat)(l:List Int):Prop where
 pw:l.Pairwise (·<·)
 rng:∀ q∈l,0<=q/\(q<u\/(q=u/\∃ k',k'<k/\P[k']?=some q))
 p3:l.length<=3
 rk:∀ q∈l,∃ k',k'<i/\P[k']?=some q
theorem ParU.skip {P:List Int}{i u k:Nat}{l:List Int}(h:ParU P i u k l):ParU P i u (k+1) l:=⟨h.pw,fun q hq=>⟨(h.rng q hq).1,(h.rng q hq).2.imp id fun ⟨a,k',b,c⟩=>⟨a,k',by omega,c⟩⟩,h.p3,h.rk⟩
theorem ParU.next {P:List Int}{i u k:Nat}{l:List Int}(h:ParU P i u k l):ParU P i (u+1) 0 l:=⟨h.pw,fun q hq=>⟨(h.rng q hq).1,.inl (by rcases(h.rng q hq).2 with h1|h1<;>omega)⟩,h.p3,h.rk⟩
theorem ParU.add {P:List Int}{n i u k:Nat}{l:List Int}(hP:IsPerm n P)(h:ParU P i u k l)(hk:k<i)(hu:P[k]?=some (u:Int))(h3:l.length<3):ParU P i u (k+1) (l++[(u:Int)]):=by
 have lt:∀ q∈l,q<u:=fun q hq=>by
  rcases(h.rng q hq).2 with h1|⟨h1,k',h2,h4⟩
  ·exact h1
  ·exfalso;have e:P[k']?=P[k]?:=(by rw[h4,hu,h1]);have:=(List.getElem?_inj (get_lt h4) hP.nd).1 e;omega
 refine⟨List.pairwise_append.2 ⟨h.pw,by simp,fun a ha b hb=>by obtain rfl:=List.mem_singleton.1 hb;exact lt a ha⟩,fun q hq=>?_,by simp;omega,fun q hq=>?_⟩
 ·rcases List.mem_append.1 hq with h1|h1
  ·exact⟨(h.rng q h1).1,.inl (lt q h1)⟩
  ·obtain rfl:=List.mem_singleton.1 h1;exact⟨by omega,.inr ⟨rfl,k,by omega,hu⟩⟩
 ·rcases List.mem_append.1 hq with h1|h1
  ·exact h.rk q h1
  ·obtain rfl:=List.mem_singleton.1 h1;exact⟨k,hk,hu⟩
def yp (Hz Hx:AHeap)(N at':Nat)(C:List AVal)(pv:AVal)(l:List Int):Prop:=mC Hz Hx N (C.set at' pv)/\aD Hz.next Hx 3 pv (ints l)
set_option maxHeartbeats 4000000 in
theorem N6 (g0:Int)(ps:List DrP)(ord:List Int)(hg0:U8 g0)(hps:∀ x∈ps,x.Ok)(hpl:(ps.length:Int)<2 ^ 63)(hol:(ord.length:Int)<2 ^ 63)(ho8:∀ x∈ord,U8 x)(H:AHeap)(K:ARes->AHeap->Prop)
  (hK:∀ g ns N H',Over H H'->H.next<=N->N<H'.next->H'.get N=some (.arr 0 73 (aB ns))->NetOk g ns->ns.length<=5->(∀ x∈ns,x.parents.length<=3)->K (.ret (.agg [aa g,.own N 0 0 ns.length 3])) H'):
  ae Tryz.prog G0 41 [Cd g0 ps ord] H K:=by
 refine ae.aP (n:=187) (rs:=[.cell 2 103]) Tryz.func41 rfl rfl rfl (by decide) (by kernel_rfl) (by simp) ?_;obtain⟨n,hn⟩:∃ n:Nat,min (max ps.length 1) 5=n:=⟨_,rfl⟩
 have h51:1<=n/\n<=5:=by omega
 have hmn:(if 5<(if (1:Int) > ps.length then 1 else (ps.length:Int)) then 5 else (if (1:Int) > ps.length then 1 else (ps.length:Int)))=(n:Int):=by split<;>split<;>omega
 have t0:g0.tmod 60=g0 % 60:=Int.tmod_eq_emod_of_nonneg hg0.1;have w0:IntKind.u8.wrap (g0 % 60)=g0 % 60:=IntWalk.u8_in _ (by omega);have w1:IntKind.i64.wrap (g0 % 60)=g0 % 60:=IntWalk.i64_in _ (by omega);have w2:=IntWalk.i64_in (1+g0 % 60) (by omega);obtain⟨g,hg⟩:∃ g,1+g0 % 60=g:=⟨_,rfl⟩
 have hg1:1<=g/\g<=60:=by omega
 rw[hg]at w2;simp only[go_sem,Cd];refine W.draw 9 [0,1,3,7,15,0,32,127,0] Tryz.mixed (by kernel_rfl) (by kernel_rfl) ?_;simp only[go_sem,hmn,t0,w1,hg,w2];refine⟨by omega,⟨⟨by omega,by omega⟩,⟨by omega,by omega⟩,?_⟩⟩;obtain⟨H1,hH1⟩:∃ H1,H1=ext (ext H [.arr 0 25 [.lit (.int .u8 g0),.vec ps.length (fa ps),.vec ord.length (ba ord)],.arr 0 103 [.lit (.int .i64 0),.lit (.slice none 0 0)],.arr 0 73 (List.replicate n [AVal.lit (.int .i64 0),.lit (.slice none 0 0),.lit (.slice none 0 0)]).flatten]) [.arr 0 103 [.lit (.int .i64 g),.own (H.next+2) 0 0 n 3]]:=⟨_,rfl⟩
 refine W.env fun E hE=>?_;have e1:E 1=.ptr H.next 0 0:=by rw[hE];simp only[go_sem]
 have e2:E 2=.ptr (H.next+1) 0 0:=by rw[hE];simp only[go_sem]
 have e3:E 3=aa n:=by rw[hE];simp only[go_sem]
 have e4:E 4=.ptr (H.next+3) 0 0:=by rw[hE];simp only[go_sem]
 clear hE;show W _ _ _ _ _ _ ⟨E,ext (ext H [.arr 0 25 [.lit (.int .u8 g0),.vec ps.length (fa ps),.vec ord.length (ba ord)],.arr 0 103 [.lit (.int .i64 0),.lit (.slice none 0 0)],.arr 0 73 (List.replicate n [AVal.lit (.int .i64 0),.lit (.slice none 0 0),.lit (.slice none 0 0)]).flatten]) [.arr 0 103 [.lit (.int .i64 g),.own (H.next+2) 0 0 n 3]]⟩;rw[<- hH1];have n1:H1.next=H.next+4:=by rw[hH1];rfl
 have o1:Over H H1:=by rw[hH1];exact(Over.ext _ _).trans (.ext _ _)
 have g0':H1.get H.next=some (.arr 0 25 [.lit (.int .u8 g0),.vec ps.length (fa ps),.vec ord.length (ba ord)]):=by rw[hH1,dH];exact bR ..
 have g1':H1.get (H.next+1)=some (.arr 0 103 [.lit (.int .i64 0),.lit (.slice none 0 0)]):=by rw[hH1,dH];exact aZ H _ 1 (by simp)
 have g2':H1.get (H.next+2)=some (.arr 0 73 (bW (List.replicate n ⟨0,[],[]⟩))):=by
  rw[hH1,dH,show bW (List.replicate n ⟨0,[],[]⟩)=(List.replicate n [AVal.lit (.int .i64 0),.lit (.slice none 0 0),.lit (.slice none 0 0)]).flatten by unfold bW;rw[List.map_replicate];rfl];exact aZ H _ 2 (by simp)
 have g3':H1.get (H.next+3)=some (.arr 0 103 [.lit (.int .i64 g),.own (H.next+2) 0 0 n 3]):=by rw[hH1,dH];exact aZ H _ 3 (by simp)
 clear hH1;have l0:=ag g0';have l1:=ag (show (ext H1 [.arr 0 5 (List.replicate n (.lit (.int .u8 0)))]).get H.next=some (.arr 0 25 [.lit (.int .u8 g0),.vec ps.length (fa ps),.vec ord.length (ba ord)]) by rw[dD _ _ _ (by omega)];exact g0');refine W.draw 4 [0,1,0,4] Tryz.mixed (by kernel_rfl) (by kernel_rfl) ?_;simp only[go_sem,e1,e3,l1];refine⟨⟨by omega,by omega⟩,by omega,by omega,?_⟩;obtain⟨H2,hH2⟩:∃ H2,H2=ext H1 [.arr 0 5 (List.replicate n (.lit (.int .u8 0)))]:=⟨_,rfl⟩
 have gb:H2.get H1.next=some (.arr 0 5 (List.replicate n (.lit (.int .u8 0)))):=by rw[hH2];exact bL
 rw[<- hH2];refine ay.clo ((ae.frame (H:=H2) (args:=[.agg [.own H1.next 0 0 n 1,.lit (.int .u16 0),.vec ord.length (ba ord)]]) (args':=[.agg [.vec n (ba (List.replicate n 0)),.lit (.int .u16 0),.vec ord.length (ba ord)]]) (v':=ah (ir ord n)) aI rfl (fun i hi _=>?_) (Nv n h51.2 ord hol ho8 dw _ fun v H' _ ho=>⟨_,rfl,ho.pt⟩)).mono fun r H' hr=>?_)
 ·match i,hi with
  | 0,_ =>
   refine .agg rfl fun i hi _=>?_
   match i,hi with
   | 0,_ =>
    have:ba (List.replicate n 0)=List.replicate n (.lit (.int .u8 0)):=(by unfold ba;rw[List.map_replicate]);rw[this];exact Fz.qQ gb (by simp) fun c hc=>⟨_,List.eq_of_mem_replicate hc⟩
   | 1,_=>exact .lit _
   | 2,_=>exact .vec rfl fun i hi _=>by simp only[ba,List.getElem_map];exact .lit _
 obtain⟨rfl,rfl⟩:=hr;refine⟨trivial,?_⟩;have hperm:=yg ord n;obtain⟨P,hP⟩:∃ P,P=ir ord n:=⟨_,rfl⟩
 rw[<- hP]at hperm ⊢;have n2:H'.next=H1.next+1:=by rw[hH2];rfl
 have F0:mC H1 H' (H.next+2) (bW (List.replicate n ⟨0,[],[]⟩)):=by
  rw[hH2];exact⟨by simp [aY],fun id h _=>dD _ _ _ h,by rw[dD _ _ _ (by omega)];exact g2'⟩
 clear hH2 gb;simp only[go_sem,e3];have bs:∀ k:Nat,k<=5->(3:Int) ^ k<=243:=fun k hk=>by
  have:(3:Nat) ^ k<=3 ^ 5:=Nat.pow_le_pow_right (by decide) hk;have h2:((3 ^ k:Nat):Int)<=((3 ^ 5:Nat):Int):=by exact_mod_cast this
  push_cast at h2
  exact h2
 refine W.aK 151115727451794287100864 (by rfl) (fun ρ Hx=>∃ (i:Nat) (ns:List NodeP) (Wd:Int),ρ 7=aa i/\i<=n/\ns.length=n/\(∀ x∈ns,x.rows=[]/\x.parents=[])/\(∀ j v:Nat,j<i->P[j]?=some (v:Int)->∃ x,ns[v]?=some x/\2<=x.card/\x.card<=3)/\ρ 6=aa Wd/\1<=Wd/\Wd<=3 ^ i/\H'.next<=Hx.next/\mC H1 Hx (H.next+2) (bW ns)) (fun ρ H=>n - (iv (ρ 7)).toNat) ?_ ?_
 ·simp only[go_sem];exact⟨0,_,1,rfl,by omega,by simp,fun x hx=>by obtain rfl:=List.eq_of_mem_replicate hx;exact⟨rfl,rfl⟩,fun j v hj=>by omega,rfl,by omega,by simp,F0⟩
 rintro ρ Hx ⟨i,ns,Wd,h7,hi,hnl,hnz,hnc,h6,hW1,hW3,hnx,hF⟩;refine W.env fun E2 hE2=>?_;have f1:E2 1=.ptr H.next 0 0:=by rw[hE2];simp only[go_sem,e1]
 have f2:E2 2=.ptr (H.next+1) 0 0:=by rw[hE2];simp only[go_sem,e2]
 have f3:E2 3=aa n:=by rw[hE2];simp only[go_sem,e3]
 have f4:E2 4=.ptr (H.next+3) 0 0:=by rw[hE2];simp only[go_sem,e4]
 have f5:E2 5=ah P:=by rw[hE2];simp only[go_sem]
 have f6:E2 6=aa Wd:=by rw[hE2];simp only[go_sem,h6]
 have f7:E2 7=aa i:=by rw[hE2];simp only[go_sem,h7]
 clear hE2;refine af _ _ _ (by rfl) ?_;have hPl:=hperm.len;have hFn:=hF.1;have m0:=ag ((hF.2.1 H.next (by omega) (by omega)).trans g0');have m3:=ag ((hF.2.1 (H.next+3) (by omega) (by omega)).trans g3');have mN:=ag hF.2.2;have m0':∀ L,(ext Hx L).live H.next 0=some (25,[.lit (.int .u8 g0),.vec ps.length (fa ps),.vec ord.length (ba ord)]):=fun L=>(eT (by omega)).trans m0;have m3':∀ L,(ext Hx L).live (H.next+3) 0=some (103,[.lit (.int .i64 g),.own (H.next+2) 0 0 n 3]):=fun L=>(eT (by omega)).trans m3;have mN':∀ L,(ext Hx L).live (H.next+2) 0=some (73,bW ns):=fun L=>(eT (by omega)).trans mN;by_cases hb:(i:Int)<n
 ·obtain⟨pv,hpv⟩:=get_of_lt (l:=P) (i:=i) (by omega);have hpr:=hperm.rng pv (List.mem_of_getElem? hpv);obtain⟨v,rfl⟩:=Int.eq_ofNat_of_zero_le hpr.1;obtain⟨x,hx⟩:=get_of_lt (l:=ns) (i:=v) (by omega);have hpne:=aL hpv;have hz0:=Ci hx;have hzne:=aL hz0;have hzl:=Cg ns;have hv:(v:Int)<n:=hpr.2;have hv0:(v:Int) >= 0:=hpr.1;have hiP:(i:Int)<P.length:=by omega
  have w3:=bs i (by omega);have i1:=IntWalk.i64_in ((i:Int)+1) (by omega);have i2:=IntWalk.i64_in ((n:Int) - 1) (by omega);have i3:=IntWalk.i64_in ((n:Int) - 1 - i) (by omega);have i4:=IntWalk.u64_in ((n:Int) - 1 - i) (by omega);have fin:∀ (c:Int) (B:Blk),2<=c/\c<=3->v*3+1<=(bW ns).length/\H'.next<=((ext Hx [B]).upd (H.next+2) (.arr 0 73 (setAt (bW ns) (v*3) [.lit (.int .i64 c)]))).next /\
    (∃ (i_1:Nat) (ns_1:List NodeP) (Wd_1:Int),AVal.lit (.int .i64 ((i:Int)+1))=.lit (.int .i64 i_1)/\i_1<=n/\ns_1.length=n/\(∀ x∈ns_1,x.rows=[]/\x.parents=[])/\(∀ j v:Nat,j<i_1->P[j]?=some (v:Int)->∃ x,ns_1[v]?=some x/\2<=x.card/\x.card<=3) /\
     AVal.lit (.int .i64 (Wd*c))=.lit (.int .i64 Wd_1)/\1<=Wd_1/\Wd_1<=3 ^ i_1/\H'.next<=((ext Hx [B]).upd (H.next+2) (.arr 0 73 (setAt (bW ns) (v*3) [.lit (.int .i64 c)]))).next/\mC H1 ((ext Hx [B]).upd (H.next+2) (.arr 0 73 (setAt (bW ns) (v*3) [.lit (.int .i64 c)]))) (H.next+2) (bW ns_1)) /\
    n - ((i:Int)+1).toNat<n - (iv (ρ 7)).toNat:=by
   intro c B c23;have p1:2<=Wd*c/\Wd*c<=3 ^ i*3:=by
    constructor
    ·have:=Int.mul_le_mul hW1 c23.1 (by omega) (by omega);omega
    ·exact Int.mul_le_mul hW3 c23.2 (by omega) (by omega)
   have nn:((ext Hx [B]).upd (H.next+2) (.arr 0 73 (setAt (bW ns) (v*3) [.lit (.int .i64 c)]))).next=Hx.next+1:=rfl;refine⟨by rw[hzl];have:=get_lt hx;omega,by rw[nn];omega,⟨i+1,ns.set v ⟨c,[],[]⟩,Wd*c,rfl,by omega,by simp [hnl],fun z hz=>?_,fun j u hj hu=>?_,rfl,by omega,by rw[Int.pow_succ];omega,by rw[nn];omega,?_⟩,by rw[h7];simp only[aa,aU];omega⟩
   ·rcases List.mem_or_eq_of_mem_set hz with h|h
    ·exact hnz z h
    ·rw[h];exact⟨rfl,rfl⟩
   ·by_cases huv:u=v
    ·subst huv;exact⟨_,List.getElem?_set_self (get_lt hx),by dsimp only;omega,by dsimp only;omega⟩
    ·rw[List.getElem?_set_ne (by omega)];refine hnc j u ?_ hu;rcases Nat.lt_or_ge j i with h|h
     ·exact h
     ·obtain rfl:j=i:=(by omega);rw[hpv]at hu;exact absurd (by have:=Option.some.inj hu;omega) huv
   ·refine⟨by rw[nn];omega,fun id h1 h2=>by rw[aj,if_neg h2,dD _ _ _ (by omega)];exact hF.2.1 id h1 h2,?_⟩;rw[aj,if_pos rfl,N4 hx (hnz x (List.mem_of_getElem? hx)).1 rfl];congr 2;exact ic (by rw[hzl];have:=get_lt hx;omega)
  by_cases hp:(i:Int)<ps.length
  ·obtain⟨y,hy⟩:=get_of_lt (l:=ps) (i:=i) (by omega);have hyo:=hps y (List.mem_of_getElem? hy);have hc0:=Ce hy;have hc1:i*3+3<=(fa ps).length:=(by rw[Cf];omega);have hcne:¬ fa ps=[]:=fun h=>by rw[h]at hc1;simp at hc1
   have c8:=hyo.1;have t1:y.card.tmod 2=y.card % 2:=Int.tmod_eq_emod_of_nonneg c8.1;have i5:=IntWalk.u8_in (y.card % 2) (by omega);have i6:=IntWalk.i64_in (y.card % 2) (by omega);have i7:=IntWalk.i64_in (2+y.card % 2) (by omega);have c23:2<=(2+y.card % 2)/\(2+y.card % 2)<=3:=(by omega);have p1:2<=Wd*(2+y.card % 2)/\Wd*(2+y.card % 2)<=3 ^ i*3:=by
    constructor
    ·have:=Int.mul_le_mul hW1 c23.1 (by omega) (by omega);omega
    ·exact Int.mul_le_mul hW3 c23.2 (by omega) (by omega)
   have p2:2<=Wd*2/\Wd*2<=3 ^ i*3:=(by omega);have j1:=IntWalk.i64_in (Wd*(2+y.card % 2)) (by omega);have j2:=IntWalk.i64_in (Wd*2) (by omega);obtain⟨q,hq⟩:∃ q,IntKind.i64.wrap (Wd*(2+y.card % 2)*2 ^ (min ((n:Int) - 1 - i).toNat IntKind.i64.bits))=q:=⟨_,rfl⟩
   have hsh:∀ t o1 o2,bp Tryz.prog .shl t o1 o2 (.lit (.int .i64 (Wd*(2+y.card % 2)))) (.lit (.int .u64 ((n:Int) - 1 - i)))=some (.lit (.int .i64 q)):=fun t o1 o2=>by rw[zj (by omega),hq]
   by_cases hq1:q > 100
   ·simp only[go_sem,f1,f3,f6,f7,m0',hb,hp,i2,i3,i4,j1,j2,hsh,hc0,hc1,hcne,t1,i6,i7,hq1];refine W.draw 7 [0,1,0,0,12,28,0] Tryz.mixed (by kernel_rfl) (by kernel_rfl) ?_;simp only[go_sem,f4,f5,f6,f7,m3',mN',i1,hpv,hpne,hv,hv0,hiP];exact fin 2 _ (by omega)
   ·simp only[go_sem,f1,f3,f6,f7,m0',hb,hp,i2,i3,i4,j1,hsh,hc0,hc1,hcne,t1,i6,i7,hq1];refine W.draw 7 [0,1,0,0,12,28,0] Tryz.mixed (by kernel_rfl) (by kernel_rfl) ?_;simp only[go_sem,f4,f5,f6,f7,m3',mN',i1,hpv,hpne,hv,hv0,hiP];exact fin (2+y.card % 2) _ c23
  ·have p2:2<=Wd*2/\Wd*2<=3 ^ i*3:=(by omega);have i5:IntKind.i64.wrap (2+IntKind.i64.wrap (Int.tmod 0 2))=2:=(by decide);have j2:=IntWalk.i64_in (Wd*2) (by omega);obtain⟨q,hq⟩:∃ q,IntKind.i64.wrap (Wd*2*2 ^ (min ((n:Int) - 1 - i).toNat IntKind.i64.bits))=q:=⟨_,rfl⟩
   have hsh:∀ t o1 o2,bp Tryz.prog .shl t o1 o2 (.lit (.int .i64 (Wd*2))) (.lit (.int .u64 ((n:Int) - 1 - i)))=some (.lit (.int .i64 q)):=fun t o1 o2=>by rw[zj (by omega),hq]
   by_cases hq1:q > 100
   ·simp only[go_sem,f1,f3,f6,f7,m0',hb,hp,i2,i3,i4,j2,hsh,i5,hq1];refine W.draw 7 [0,1,0,0,12,28,0] Tryz.mixed (by kernel_rfl) (by kernel_rfl) ?_;simp only[go_sem,f4,f5,f6,f7,m3',mN',i1,hpv,hpne,hv,hv0,hiP];exact fin 2 _ (by omega)
   ·simp only[go_sem,f1,f3,f6,f7,m0',hb,hp,i2,i3,i4,j2,hsh,i5,hq1];refine W.draw 7 [0,1,0,0,12,28,0] Tryz.mixed (by kernel_rfl) (by kernel_rfl) ?_;simp only[go_sem,f4,f5,f6,f7,m3',mN',i1,hpv,hpne,hv,hv0,hiP];exact fin 2 _ (by omega)
 ·obtain rfl:n=i:=by omega
  clear bs hW1 hW3 h6 f6;simp only[go_sem,f3,f7,hb];obtain⟨cs,hcs⟩:∃ cs,cs=ak ns:=⟨_,rfl⟩
  have csl:cs.length=n:=by rw[hcs,dc,hnl]
  have hc23:∀ c∈cs,2<=c/\c<=3:=fun c hc=>by
   obtain⟨v,hv⟩:=List.mem_iff_getElem?.1 hc;have hvn:=get_lt hv;have hm:=uL ord n v (by omega);rw[<- hP]at hm;obtain⟨j,hj⟩:=List.mem_iff_getElem?.1 hm;obtain⟨x,hx,h2,h3⟩:=hnc j v (by have:=get_lt hj;omega) hj;rw[hcs,cU hx]at hv;cases hv;exact⟨h2,h3⟩
  have L0:LoopN g cs P n 0 ns:=⟨hnl,hcs.symm,fun j v x _ _ hx=>hnz x (List.mem_of_getElem? hx),fun j v x h=>by omega⟩
  clear hnc hnz h7;refine W.aK 98079714615416886934934209737619636635871851991103765504 (by rfl) (fun ρ Hy=>∃ (i:Nat) (ns:List NodeP),ρ 10=aa i/\i<=n/\LoopN g cs P n i ns/\Hx.next<=Hy.next/\mC H1 Hy (H.next+2) (bW ns)) (fun ρ H=>n - (iv (ρ 10)).toNat) ?_ ?_
  ·simp only[go_sem];exact⟨0,ns,rfl,by omega,L0,hF⟩
  clear L0 hF m0 m3 mN m0' m3' mN' hFn hnl hcs f7;rintro ρ Hy ⟨i,ns,h10,hi,L,hny,hF⟩;refine W.env fun E hE=>?_;have e1:E 1=.ptr H.next 0 0:=by rw[hE];simp only[go_sem,f1]
  have e2:E 2=.ptr (H.next+1) 0 0:=by rw[hE];simp only[go_sem,f2]
  have e3:E 3=aa n:=by rw[hE];simp only[go_sem,f3]
  have e4:E 4=.ptr (H.next+3) 0 0:=by rw[hE];simp only[go_sem,f4]
  have e5:E 5=ah P:=by rw[hE];simp only[go_sem,f5]
  have e10:E 10=aa i:=by rw[hE];simp only[go_sem,h10]
  clear hE;refine af _ _ _ (by rfl) ?_;have hFn:=hF.1;have m0:=ag ((hF.2.1 H.next (by omega) (by omega)).trans g0');have m1:=ag ((hF.2.1 (H.next+1) (by omega) (by omega)).trans g1');have m3:=ag ((hF.2.1 (H.next+3) (by omega) (by omega)).trans g3');have m0':∀ L,(ext Hy L).live H.next 0=some (25,[.lit (.int .u8 g0),.vec ps.length (fa ps),.vec ord.length (ba ord)]):=fun L=>(eT (by omega)).trans m0;by_cases hb:(i:Int)<n
  ·obtain⟨pv,hpv⟩:=get_of_lt (l:=P) (i:=i) (by omega);have hpr:=hperm.rng pv (List.mem_of_getElem? hpv);obtain⟨v,rfl⟩:=Int.eq_ofNat_of_zero_le hpr.1;have hnl:=L.len;obtain⟨x,hx⟩:=get_of_lt (l:=ns) (i:=v) (by omega);have hpne:=aL hpv;have hiP:(i:Int)<P.length:=(by omega);have hP1:∀ k:Nat,k<n->∃ u:Nat,P[k]?=some (u:Int)/\u<n:=fun k hk=>by
    obtain⟨q,hq⟩:=get_of_lt (l:=P) (i:=k) (by omega);have:=hperm.rng q (List.mem_of_getElem? hq);obtain⟨u,rfl⟩:=Int.eq_ofNat_of_zero_le this.1;exact⟨u,hq,by omega⟩
   have hpc:∀ (B:List AVal),B=(if (i:Int)<ps.length then (fa ps).drop (i*3) |>.take 3 else [.lit (.int .u8 0),.lit (.int .u8 0),.lit (.slice none 0 0)])->∃ (pc par:Int) (bs:List Int) (wv:AVal),B=[.lit (.int .u8 pc),.lit (.int .u8 par),wv]/\U8 par/\(∀ b∈bs,U8 b)/\(bs.length:Int)<2 ^ 63/\wv.one=true/\wv.cells=[wv]/\∀ H0,Fz (fun _=>True) H0 0 wv (.vec bs.length (ba bs)):=by
    rintro B rfl;by_cases hp:(i:Int)<ps.length
    ·obtain⟨y,hy⟩:=get_of_lt (l:=ps) (i:=i) (by omega);have hyo:=hps y (List.mem_of_getElem? hy);rw[if_pos hp,Ce hy];exact⟨y.card,y.par,y.w,_,rfl,hyo.2.1,hyo.2.2.2,hyo.2.2.1,rfl,rfl,fun H0=>.vec rfl fun i hi _=>by simp only[ba,List.getElem_map];exact .lit _⟩
    ·rw[if_neg hp];exact⟨0,0,[],_,rfl,by unfold U8;omega,by simp,by simp,rfl,rfl,fun H0=>.nil⟩
   by_cases hp:(i:Int)<ps.length
   case' pos =>
    have hc1:i*3+3<=(fa ps).length:=(by rw[Cf];omega);have hcne:¬ fa ps=[]:=fun h=>by rw[h]at hc1;simp at hc1
    rw[if_pos hp]at hpc;obtain⟨pc,par,bs,wv,hc0,hpar,hbs,hbl,hwo,hwc,hwf⟩:=hpc _ rfl;simp only[go_sem,e1,e3,e5,e10,m0',hb,hp,hc0,hc1,hcne,hpv,hpne,hiP,hwo,Bool.and_true];obtain⟨Hz,hHz⟩:∃ Hz,Hz=ext Hy [.arr 0 165 [.lit (.int .u8 pc),.lit (.int .u8 par),wv]]:=⟨_,rfl⟩
    clear hpc hc0 hc1 hcne hp
   case' neg =>
    rw[if_neg hp]at hpc;obtain⟨pc,par,bs,wv,hc0,hpar,hbs,hbl,hwo,hwc,hwf⟩:=hpc _ rfl;simp only[go_sem,e1,e3,e5,e10,m0',hb,hp,hpv,hpne,hiP];rw[hc0];obtain⟨Hz,hHz⟩:∃ Hz,Hz=ext Hy [.arr 0 165 [.lit (.int .u8 pc),.lit (.int .u8 par),wv]]:=⟨_,rfl⟩
    clear hpc hc0 hp
   all_goals
    rw[<- hHz];refine W.env fun E3 hE3=>?_;have k1:E3 1=.ptr H.next 0 0:=(by rw[hE3];simp only[go_sem,e1]);have k2:E3 2=.ptr (H.next+1) 0 0:=(by rw[hE3];simp only[go_sem,e2]);have k3:E3 3=aa n:=(by rw[hE3];simp only[go_sem,e3]);have k4:E3 4=.ptr (H.next+3) 0 0:=(by rw[hE3];simp only[go_sem,e4]);have k5:E3 5=ah P:=(by rw[hE3];simp only[go_sem,e5]);have k10:E3 10=aa i:=(by rw[hE3];simp only[go_sem,e10]);have k11:E3 11=.ptr Hy.next 0 0:=(by rw[hE3];simp only[go_sem]);have k12:E3 12=aa v:=(by rw[hE3];simp only[go_sem]);have k13:E3 13=aa 0:=(by rw[hE3];simp only[go_sem]);clear hE3;have nz:Hz.next=Hy.next+1:=(by rw[hHz];rfl);have z3:Hz.get (H.next+3)=some (.arr 0 103 [.lit (.int .i64 g),.own (H.next+2) 0 0 n 3]):=(by rw[hHz,dD _ _ _ (by omega)];exact(hF.2.1 (H.next+3) (by omega) (by omega)).trans g3');have zP:Hz.get Hy.next=some (.arr 0 165 [.lit (.int .u8 pc),.lit (.int .u8 par),wv]):=(by rw[hHz];exact bL);have zN:Hz.get (H.next+2)=some (.arr 0 73 (bW ns)):=(by rw[hHz,dD _ _ _ (by omega)];exact hF.2.2);have zO:∀ id,id<H1.next->id≠H.next+2->Hz.get id=H1.get id:=fun id h1 h2=>by rw[hHz,dD _ _ _ (by omega)];exact hF.2.1 id h1 h2
    obtain⟨xr,xp⟩:=L.todo i v x (Nat.le_refl _) hpv hx;have hzl:=Cg ns;have hvn:=get_lt hx;have hcx:(bW ns)[v*3+1]?=some (.lit (.slice none 0 0)):=by
     have:=je (f:=NodeP.cS) (z:=3) kK ns v 1 x hx (by omega);rw[show (bW ns)[v*3+1]?=_ from this];unfold NodeP.cS;rw[if_pos xr];rfl
    clear hHz e1 e2 e3 e4 e5 e10 f1 f2 f3 f4 f5 m0' m0 m1 m3;have vlt:(v:Int)<n:=hpr.2;have v0:(v:Int) >= 0:=hpr.1;have hset:∀ pv pv',setAt ((bW ns).set (v*3+1) pv) (v*3+1) [pv']=(bW ns).set (v*3+1) pv':=fun pv pv'=>by rw[ic (by rw[List.length_set];omega),List.set_set]
    have hgetc:∀ pv,((bW ns).set (v*3+1) pv)[v*3+1]?=some pv:=fun pv=>List.getElem?_set_self (by omega);refine W.qY (Q':=fun e s2=>e=.exit 4/\∃ pv l,s2.ρ 1=.ptr H.next 0 0/\s2.ρ 2=.ptr (H.next+1) 0 0/\s2.ρ 3=aa n/\s2.ρ 4=.ptr (H.next+3) 0 0/\s2.ρ 5=ah P/\s2.ρ 10=aa i/\s2.ρ 11=.ptr Hy.next 0 0/\s2.ρ 12=aa v/\yp Hz s2.H (H.next+2) (v*3+1) (bW ns) pv l/\ParU P i n 0 l) ?_ ?_
    ·refine W.aK 44601490397061167054908922280959129468035072 (by rfl) (fun ρ Hu=>∃ (u:Nat) (pv:AVal) (l:List Int),ρ 13=aa u/\u<=n/\yp Hz Hu (H.next+2) (v*3+1) (bW ns) pv l/\ParU P i u 0 l) (fun ρ H=>n - (iv (ρ 13)).toNat) ?_ ?_
     ·simp only[go_sem,k13];refine⟨0,.lit (.slice none 0 0),[],rfl,by omega,⟨⟨Nat.le_refl _,fun _ _ _=>rfl,?_⟩,.nil⟩,⟨by simp,by simp,by simp,by simp⟩⟩;rw[zN,sH hcx]
     rintro ρu Hu ⟨u,pv,l,h13,hu,hS,hL⟩;refine W.env fun E4 hE4=>?_;have q3:E4 3=aa n:=(by rw[hE4];simp only[go_sem,k3]);have q4:E4 4=.ptr (H.next+3) 0 0:=(by rw[hE4];simp only[go_sem,k4]);have q5:E4 5=ah P:=(by rw[hE4];simp only[go_sem,k5]);have q10:E4 10=aa i:=(by rw[hE4];simp only[go_sem,k10]);have q11:E4 11=.ptr Hy.next 0 0:=(by rw[hE4];simp only[go_sem,k11]);have q12:E4 12=aa v:=(by rw[hE4];simp only[go_sem,k12]);have q13:E4 13=aa u:=(by rw[hE4];simp only[go_sem,h13]);have q1:E4 1=.ptr H.next 0 0:=(by rw[hE4];simp only[go_sem,k1]);have q2:E4 2=.ptr (H.next+1) 0 0:=(by rw[hE4];simp only[go_sem,k2]);clear hE4;refine af _ _ _ (by rfl) ?_;by_cases hub:(u:Int)<n
     ·have u1:=IntWalk.i64_in ((u:Int)+1) (by omega);simp only[go_sem,q3,q13,hub];refine W.aK 44601490397058710981870980086493729605566464 (by rfl) (fun ρ Hk=>∃ (k:Nat) (pv:AVal) (l:List Int),ρ 14=aa k/\k<=i/\Hu.next<=Hk.next/\yp Hz Hk (H.next+2) (v*3+1) (bW ns) pv l/\ParU P i u k l) (fun ρ H=>i - (iv (ρ 14)).toNat) ?_ ?_
      ·simp only[go_sem];exact⟨0,pv,l,rfl,by omega,hS,hL⟩
      clear hS hL;rintro ρk Hk ⟨k,pv,l,h14,hk,hnk,hS,hL⟩;refine W.env fun E5 hE5=>?_;have r4:E5 4=.ptr (H.next+3) 0 0:=(by rw[hE5];simp only[go_sem,q4]);have r5:E5 5=ah P:=(by rw[hE5];simp only[go_sem,q5]);have r10:E5 10=aa i:=(by rw[hE5];simp only[go_sem,q10]);have r11:E5 11=.ptr Hy.next 0 0:=(by rw[hE5];simp only[go_sem,q11]);have r12:E5 12=aa v:=(by rw[hE5];simp only[go_sem,q12]);have r13:E5 13=aa u:=(by rw[hE5];simp only[go_sem,q13]);have r14:E5 14=aa k:=(by rw[hE5];simp only[go_sem,h14]);clear hE5;refine af _ _ _ (by rfl) ?_;by_cases hki:(k:Int)<i
      ·obtain⟨hFz,hOz⟩:=hS;have hFz1:=hFz.1;obtain⟨a,ha,han⟩:=hP1 k (by omega);have hane:=aL ha;have hkP:(k:Int)<P.length:=(by omega);have s1:=IntWalk.i64_in ((k:Int)+1) (by omega);have s2:=IntWalk.u64_in (k:Int) (by omega);have y3:=ag ((hFz.2.1 (H.next+3) (by omega) (by omega)).trans z3);have yP:=ag ((hFz.2.1 Hy.next (by omega) (by omega)).trans zP);have yN:=ag hFz.2.2;have hgc:=hgetc pv;have hcne2:=aL hgc;obtain⟨r1,hr1⟩:∃ r1,∀ t o1 o2,bp Tryz.prog .shr t o1 o2 (.lit (.int .u8 par)) (.lit (.int .u64 (k:Int)))=some (.lit (.int .u8 r1)):=⟨_,fun _ _ _=>tn (by omega)⟩
       obtain⟨r2,hr2⟩:∃ r2,∀ t o1 o2,bp Tryz.prog .and t o1 o2 (.lit (.int .u8 r1)) (.lit (.int .u8 1))=some (.lit (.int .u8 r2)):=⟨_,fun _ _ _=>tp⟩
       have hlen:=uK hOz (d:=some (.slice 3)) rfl;rw[qg,aR]at hlen;by_cases hau:(a:Int)=u
       ·have hau':a=u:=(by omega);by_cases hr:r2=1
        ·by_cases hl3:(l.length:Int)<3
         ·simp only[go_sem,r4,r5,r10,r11,r12,r13,r14,hki,ha,hane,hkP,s2,y3,yP,yN,hgc,hr1,hr2,hlen,hau,hr,hl3,vlt,v0];obtain⟨pv',Hj,hA,hO',hn',hpr'⟩:=iK (P:=Tryz.prog) (H:=Hk) (t:=46) (x:=aa u) (n:=Hk.next+1) Tryz.underlying46 Tryz.eU Tryz.eV rfl (by rw[Tryz.fG,aR];omega) hOz hFz1 rfl;simp only[aa]at hA;have keep:∀ id,id<Hz.next->Hj.get id=Hk.get id:=fun id h=>hpr' id (by omega) (hOz.ne h);have y3j:=ag ((keep _ (by omega)).trans ((hFz.2.1 (H.next+3) (by omega) (by omega)).trans z3));have yNj:=ag ((keep _ (by omega)).trans hFz.2.2);refine W.draw 12 [0,1,0,0,8,0,56,120,248,0,512,2040] Tryz.mixed (by kernel_rfl) (by kernel_rfl) ?_;simp only[go_sem,r4,r12,r13,r14,y3,yN,yNj,hgc,vlt,v0,hA,s1];have hdj:nD (if lg pv=true then { eff:=aM pv,rs:=aM pv++[Hk.next] } else { eff:=[Hk.next+1],rs:=[Hk.next] }) { eff:=[],rs:=[H.next+3] }:=by
           rcases hOz with ⟨hO1,_⟩|⟨id,gg,hO1,hO2,hO3,_⟩
           ·rw[hO1];show nD { eff:=[Hk.next+1],rs:=[Hk.next] } _;exact⟨fun a ha=>by (obtain rfl:a=Hk.next+1:=by simpa using ha);simp;omega,fun a ha=>by simp at ha⟩
           ·rw[hO3];show nD { eff:=[id],rs:=[id]++[Hk.next] } _;exact⟨fun a ha=>by (obtain rfl:a=id:=by simpa using ha);simp;omega,fun a ha=>by simp at ha⟩
          have hpc1:=hO'.cells;rw[hpc1];refine⟨⟨by omega,by omega,by omega,by omega,by omega,by omega,by omega⟩,⟨hdj,hdj⟩,⟨rfl,by simp [hO'.one],by rw[List.length_set];simp;omega⟩,by rw[aG];omega,⟨k+1,pv',l++[(u:Int)],rfl,by omega,by rw[aG];omega,⟨⟨by rw[aG];omega,fun id h1 h2=>by rw[aj,if_neg h2,keep _ h1];exact hFz.2.1 id h1 h2,?_⟩,?_⟩,hL.add hperm (by omega) (by rw[ha,hau]) (by omega)⟩,by rw[h14];simp only[aa,aU];omega⟩
          ·rw[aj,if_pos rfl,hset]
          ·have:=hO'.keep (lo':=Hz.next) (H':=Hj.upd (H.next+2) (.arr 0 73 (setAt ((bW ns).set (v*3+1) pv) (v*3+1) [pv']))) (Nat.le_refl _) (Nat.le_refl _) fun id _ h1 _ _ _=>by rw[aj,if_neg (by omega)]
           simpa [ints,aa] using this
         ·simp only[go_sem,r4,r5,r10,r11,r12,r13,r14,hki,ha,hane,hkP,s1,s2,y3,yP,yN,hgc,hr1,hr2,hlen,hau,hr,hl3,vlt,v0];exact⟨hnk,⟨k+1,pv,l,rfl,by omega,hnk,⟨hFz,hOz⟩,hL.skip⟩,by rw[h14];simp only[aa,aU];omega⟩
        ·simp only[go_sem,r5,r10,r11,r13,r14,hki,ha,hane,hkP,s1,s2,yP,hr1,hr2,hau,hr];exact⟨hnk,⟨k+1,pv,l,rfl,by omega,hnk,⟨hFz,hOz⟩,hL.skip⟩,by rw[h14];simp only[aa,aU];omega⟩
       ·simp only[go_sem,r5,r10,r13,r14,hki,ha,hane,hkP,s1,hau];exact⟨hnk,⟨k+1,pv,l,rfl,by omega,hnk,⟨hFz,hOz⟩,hL.skip⟩,by rw[h14];simp only[aa,aU];omega⟩
      ·obtain rfl:k=i:=(by omega);simp only[go_sem,r10,r13,r14,hki,u1];exact⟨by have:=hS.1.1;omega,⟨u+1,pv,l,rfl,by omega,hS,hL.next⟩,by rw[h13];simp only[aa,aU];omega⟩
     ·obtain rfl:u=n:=(by omega);simp only[go_sem,q1,q2,q3,q4,q5,q10,q11,q12,q13,hub];exact⟨pv,l,hS,hL⟩
    ·rintro e s2 ⟨rfl,pv,l,a1,a2,a3,a4,a5,a10,a11,a12,⟨hFz,hOz⟩,hL⟩;have hFz1:=hFz.1;obtain⟨rk,hrk,hfz⟩:∃ rk,Hz.next<=rk/\Fz (fun id=>id=rk) s2.H s2.H.next pv (ah l):=by
      rcases hOz with ⟨hO1,hO2⟩|⟨id,gg,hO1,hO2,hO3,hO4⟩
      ·have:l=[]:=by cases l with
        | nil=>rfl
        | cons b l=>simp [ints]at hO2
       rw[hO1,this];exact⟨s2.H.next,hFz1,.nil⟩
      ·refine⟨id,hO1,?_⟩;rw[hO3,aR];refine .frz rfl hO4 (by rw[Nat.mul_one,aR]) fun j hj h2 h'=>?_;simp only[Nat.zero_add,ints,List.getElem_map];exact .lit _
     have hne2:H.next+2≠rk:=(by omega);refine⟨⟨s2.ρ,s2.H.fj rk (H.next+2) (.arr 0 73 ((bW ns).set (v*3+1) (ah l)))⟩,dM.fj aI hFz.2.2 hne2 (by simp) (zp (Ck ns) hfz),Nat.le_refl _,trivial,?_⟩;obtain⟨Hm,hHm⟩:∃ Hm,Hm=s2.H.fj rk (H.next+2) (.arr 0 73 ((bW ns).set (v*3+1) (ah l))):=⟨_,rfl⟩
     rw[<- hHm];have hFm:mC Hz Hm (H.next+2) ((bW ns).set (v*3+1) (ah l)):=by
      rw[hHm];exact⟨hFz1,fun id h1 h2=>(lZ (by omega) h2).trans (hFz.2.1 id h1 h2),vV hne2⟩
     clear hFz hOz hfz hHm hne2 hrk;simp only[go_sem];refine W.env fun E6 hE6=>?_;have y1:E6 1=.ptr H.next 0 0:=(by rw[hE6];simp only[go_sem,a1]);have y2:E6 2=.ptr (H.next+1) 0 0:=(by rw[hE6];simp only[go_sem,a2]);have y3:E6 3=aa n:=(by rw[hE6];simp only[go_sem,a3]);have y4:E6 4=.ptr (H.next+3) 0 0:=(by rw[hE6];simp only[go_sem,a4]);have y5:E6 5=ah P:=(by rw[hE6];simp only[go_sem,a5]);have y10:E6 10=aa i:=(by rw[hE6];simp only[go_sem,a10]);have y11:E6 11=.ptr Hy.next 0 0:=(by rw[hE6];simp only[go_sem,a11]);have y12:E6 12=aa v:=(by rw[hE6];simp only[go_sem,a12]);have y15:E6 15=aa 0:=(by rw[hE6];simp only[go_sem]);clear hE6 a1 a2 a3 a4 a5 a10 a11 a12;have lsm:dS (aH cs l):=mL (by rw[gL];have:=hL.p3;omega) fun c hc=>by
      unfold aH at hc;obtain⟨q,hq,rfl⟩:=List.mem_map.1 hc;have hqr:=hL.rng q hq;obtain⟨c,hc⟩:=get_of_lt (l:=cs) (i:=q.toNat) (by rw[csl];rcases hqr.2 with h|⟨_,k',h,_⟩<;>omega);rw[bI hc];have:=hc23 c (List.mem_of_getElem? hc);omega
     have lpos:0<az (aH cs l)/\az (aH cs l)<=27:=by
      have c3:∀ c∈aH cs l,1<=c/\c<=3:=fun c hc=>by
       unfold aH at hc;obtain⟨q,hq,rfl⟩:=List.mem_map.1 hc;have hqr:=hL.rng q hq;obtain⟨c,hc⟩:=get_of_lt (l:=cs) (i:=q.toNat) (by rw[csl];rcases hqr.2 with h|⟨_,k',h,_⟩<;>omega);rw[bI hc];have:=hc23 c (List.mem_of_getElem? hc);omega
      have h1:=fI fun c hc=>(c3 c hc).1;have h2:=(nI (b:=3) (by omega) fun c hc=>⟨by have:=(c3 c hc).1;omega,(c3 c hc).2⟩).2;have h3:(3:Int) ^ (aH cs l).length<=3 ^ 3:=by
       have:(3:Nat) ^ (aH cs l).length<=3 ^ 3:=Nat.pow_le_pow_right (by decide) (by rw[gL];exact hL.p3)
       exact_mod_cast this
      omega
     obtain⟨R,hR⟩:=Int.eq_ofNat_of_zero_le (show 0<=az (aH cs l) by omega);have hxc:2<=x.card/\x.card<=3:=hc23 x.card (by rw[<- L.cards];exact List.mem_of_getElem? (cU hx));have hFm1:=hFm.1;have w3:Hm.get (H.next+3)=some (.arr 0 103 [.lit (.int .i64 g),.own (H.next+2) 0 0 n 3]):=(hFm.2.1 _ (by omega) (by omega)).trans z3;have wP:Hm.get Hy.next=some (.arr 0 165 [.lit (.int .u8 pc),.lit (.int .u8 par),wv]):=(hFm.2.1 _ (by omega) (by omega)).trans zP;obtain⟨C1,hC1⟩:∃ C1,C1=(bW ns).set (v*3+1) (ah l):=⟨_,rfl⟩
     have c1l:C1.length=ns.length*3:=(by rw[hC1,List.length_set,hzl]);have hcx2:C1[v*3+2]?=some (.lit (.slice none 0 0)):=by
      have:=je (f:=NodeP.cS) (z:=3) kK ns v 2 x hx (by omega);rw[hC1,List.getElem?_set_ne (by omega),show (bW ns)[v*3+2]?=_ from this];unfold NodeP.cS;rw[if_pos xr];rfl
     have hcx0:C1[v*3]?=some (aa x.card):=(by rw[hC1,List.getElem?_set_ne (by omega)];exact Ci hx);rw[<- hC1]at hFm;have hset2:∀ rv rv',setAt (C1.set (v*3+2) rv) (v*3+2) [rv']=C1.set (v*3+2) rv':=fun rv rv'=>by rw[ic (by rw[List.length_set];omega),List.set_set]
     have hgc2:∀ rv,(C1.set (v*3+2) rv)[v*3+2]?=some rv:=fun rv=>List.getElem?_set_self (by omega);have hgc0:∀ rv,(C1.set (v*3+2) rv)[v*3]?=some (aa x.card):=fun rv=>by rw[List.getElem?_set_ne (by omega)];exact hcx0
     refine W.qY (Q':=fun e s2=>e=.exit 8/\∃ (rv:AVal) (rows:List (List Int)),s2.ρ 1=.ptr H.next 0 0/\s2.ρ 2=.ptr (H.next+1) 0 0/\s2.ρ 3=aa n/\s2.ρ 4=.ptr (H.next+3) 0 0/\s2.ρ 5=ah P/\s2.ρ 10=aa i/\rows.length=R/\(∀ r∈rows,j9 g x.card r)/\mC Hm s2.H (H.next+2) (C1.set (v*3+2) rv)/\aD Hm.next s2.H 46 rv (rows.map ah)) ?_ ?_
     ·refine W.aK 98079714615372285444537148491336716315054007096738611200 (by rfl) (fun ρ Hr=>∃ (r:Nat) (rv:AVal) (rows:List (List Int)),ρ 15=aa r/\r<=R/\rows.length=r/\(∀ r∈rows,j9 g x.card r)/\mC Hm Hr (H.next+2) (C1.set (v*3+2) rv)/\aD Hm.next Hr 46 rv (rows.map ah)) (fun ρ H=>R - (iv (ρ 15)).toNat) ?_ ?_
      ·simp only[go_sem,y15];refine⟨0,.lit (.slice none 0 0),[],rfl,by omega,rfl,by simp,⟨Nat.le_refl _,fun _ _ _=>rfl,?_⟩,.nil⟩;rw[hFm.2.2,sH hcx2]
      rintro ρr Hr ⟨r,rv,rows,h15,hr,hrl,hrows,hFr,hOr⟩;refine W.env fun E7 hE7=>?_;have b1:E7 1=.ptr H.next 0 0:=(by rw[hE7];simp only[go_sem,y1]);have b2:E7 2=.ptr (H.next+1) 0 0:=(by rw[hE7];simp only[go_sem,y2]);have b3:E7 3=aa n:=(by rw[hE7];simp only[go_sem,y3]);have b4:E7 4=.ptr (H.next+3) 0 0:=(by rw[hE7];simp only[go_sem,y4]);have b5:E7 5=ah P:=(by rw[hE7];simp only[go_sem,y5]);have b10:E7 10=aa i:=(by rw[hE7];simp only[go_sem,y10]);have b11:E7 11=.ptr Hy.next 0 0:=(by rw[hE7];simp only[go_sem,y11]);have b12:E7 12=aa v:=(by rw[hE7];simp only[go_sem,y12]);have b15:E7 15=aa r:=(by rw[hE7];simp only[go_sem,h15]);clear hE7;refine af _ _ _ (by rfl) ?_;have hFr1:=hFr.1;have v3:=ag ((hFr.2.1 (H.next+3) (by omega) (by omega)).trans w3);have vP:=ag ((hFr.2.1 Hy.next (by omega) (by omega)).trans wP);have vN:=ag hFr.2.2;have hzp:∀ z∈ns,z.rows=[]->z.parents=[]:=fun z hz hz0=>by
       obtain⟨u,hu⟩:=List.mem_iff_getElem?.1 hz;have hm:=uL ord n u (by have:=get_lt hu;omega);rw[<- hP]at hm;obtain⟨j,hj⟩:=List.mem_iff_getElem?.1 hm;rcases Nat.lt_or_ge j i with h|h
       ·exact absurd hz0 (L.done j u z h hj hu).ne
       ·exact(L.todo j u z h hj hu).2
      have hcard:ak (ns.set v ⟨x.card,l,rows⟩)=cs:=by
       have h1:ak (ns.set v ⟨x.card,l,rows⟩)=(ak ns).set v x.card:=(by unfold ak;rw[List.map_set]);rw[h1,sH (cU hx),L.cards]
      have hpar:aQ (ns.set v ⟨x.card,l,rows⟩) ⟨x.card,l,rows⟩=aH cs l:=(by unfold aQ;rw[hcard]);have fzN:Fz (fun _=>True) Hr 0 (.agg [aa g,.own (H.next+2) 0 0 n 3]) (da g (ns.set v ⟨x.card,l,rows⟩)):=by
       refine .agg rfl fun i hi _=>?_
       match i,hi with
       | 0,_=>exact .lit _
       | 1,_ =>
        show Fz _ _ _ _ (.vec (ns.set v ⟨x.card,l,rows⟩).length (aB (ns.set v ⟨x.card,l,rows⟩)));rw[List.length_set,hnl,N1 (y:=⟨x.card,l,rows⟩) hx rfl];refine .frz trivial hFr.2.2 (by rw[List.length_set,List.length_set,jS];omega) fun j hj h2 h'=>?_;simp only[Nat.zero_add];refine Cj (A:=C1) (B:=(aB ns).set (v*3+1) (ah l)) ?_ ?_ j _ _
        ·rw[hC1];exact Cj (N0 ns hzp) (.dG _)
        ·have:=hOr.fz (S:=fun _=>True) (nx:=0) (cs':=rows.map ah) (fun _ _=>trivial) rfl fun i hi _=>by simp only[List.getElem_map];exact .dG _
         rw[List.length_map]at this;exact this
      simp only[go_sem,b4,b12,b15,v3];refine ay.clo ((ae.frame (H:=Hr) (args:=[.agg [aa g,.own (H.next+2) 0 0 n 3],aa v]) (args':=[da g (ns.set v ⟨x.card,l,rows⟩),aa v]) (v':=ah (aH cs l)) aI rfl (fun i hi _=>?_) (N3 g (ns.set v ⟨x.card,l,rows⟩) v ⟨x.card,l,rows⟩ (List.getElem?_set_self hvn) (by rw[List.length_set];omega) (by show (l.length:Int)<_;have:=hL.p3;omega) (fun q hq=>by
        have hqr:=hL.rng q hq;rw[List.length_set];rcases hqr.2 with h|⟨_,k',h,_⟩<;>omega) dw _ fun w Hq _ ho=>⟨_,rfl,by rw[hpar]at ho;exact ho.pt⟩)).mono fun r1 H1' hr1=>?_)
      ·match i,hi with
       | 0,_=>exact fzN
       | 1,_=>exact .lit _
      obtain⟨rfl,rfl⟩:=hr1;refine⟨trivial,?_⟩;simp only[go_sem];refine ay.clo (Pq (aH cs l) lsm _ _ ⟨trivial,?_⟩);rw[hR];by_cases hrR:(r:Int)<R
      ·simp only[go_sem,hrR];obtain⟨xn,hxn⟩:=Int.eq_ofNat_of_zero_le (show 0<=x.card by omega);have rc:0<=(r:Int)*(x.card+1)/\(r:Int)*(x.card+1)<=27*4:=⟨Int.mul_nonneg (by omega) (by omega),Int.mul_le_mul (by omega) (by omega) (by omega) (by omega)⟩
       have c1:=IntWalk.i64_in (x.card+1) (by omega);have c2:=IntWalk.i64_in ((r:Int)*(x.card+1)) (by omega);have c3:=IntWalk.i64_in ((r:Int)+1) (by omega);have hg2:=hgc2 rv;have hg0':=hgc0 rv;have hg2n:=aL hg2;obtain⟨row,hrow⟩:∃ row,row=mz g xn bs ((r:Int)*(x.card+1)):=⟨_,rfl⟩
       have hrok:j9 g x.card row:=(by rw[hrow,hxn];exact Ny hg1.1 (by omega) _ _);have hpc84:∀ Hq,bX Tryz.prog G0 (.clo 101 [] []) [aa g,aa x.card,wv,aa ((r:Int)*(x.card+1))] Hq (ah row) []:=fun Hq=>by
        refine bX.mk (fun i hi=>by cases hi) fun H2 _ _=>?_;refine ae.frame (H:=H2) (args:=[aa g,aa x.card,wv,aa ((r:Int)*(x.card+1))]) (args':=[aa g,aa xn,.vec bs.length (ba bs),aa ((r:Int)*(x.card+1))]) (v':=ah row) aI rfl (fun i hi _=>?_) (Nz g xn hg1 (by omega) bs hbl hbs _ (by omega) dw _ fun w Hw _ ho=>⟨_,rfl,by rw[hrow];exact ho.pt⟩)
        match i,hi with
        | 0,_=>exact .lit _
        | 1,_=>rw[hxn];exact .lit _
        | 2,_=>exact hwf _
        | 3,_=>exact .lit _
       obtain⟨rv',Hj,hA,hO',hn',hpr'⟩:=iK (P:=Tryz.prog) (H:=H1') (t:=33) (x:=ah row) (n:=H1'.next+1) Tryz.underlying33 Tryz.qk Tryz.qo rfl (by rw[Tryz.qm,List.length_map];omega) hOr hFr1 rfl;have keep:∀ id,id<Hm.next->Hj.get id=H1'.get id:=fun id h=>hpr' id (by omega) (hOr.ne h);have v3j:=ag ((keep _ (by omega)).trans ((hFr.2.1 (H.next+3) (by omega) (by omega)).trans w3));have vNj:=ag ((keep _ (by omega)).trans hFr.2.2);have hA':bO Tryz.prog (ext H1' [.arr 0 46 [.vec row.length (ints row)]]) (H1'.next+1) 33 33 rv (.own H1'.next 0 0 1 1)=some (rv',Hj):=hA;refine W.draw 31 [0,1,0,0,8,0,56,120,248,0,512,0,2048,0,14336,30720,63488,0,131072,0,0,1048576,0,7340032,15728640,32505856,66060288,133693440,268434944,536870400,1073741816] Tryz.mixed (by kernel_rfl) (by kernel_rfl) ?_;simp only[go_sem,b4,b11,b12,b15,v3,vP,vN,hg2,hg0',vlt,v0,c1,c2];refine⟨ah row,[],hpc84 _,?_⟩;simp only[go_sem,b4,b11,b12,b15,vNj,vlt,v0,c3,hA'];have hdj:nD (if lg rv=true then { eff:=aM rv,rs:=aM rv++[H1'.next] } else { eff:=[H1'.next+1],rs:=[H1'.next] }) { eff:=[],rs:=[H.next+3] }:=by
        rcases hOr with ⟨hO1,_⟩|⟨id,gg,hO1,hO2,hO3,_⟩
        ·rw[hO1];show nD { eff:=[H1'.next+1],rs:=[H1'.next] } _;exact⟨fun a ha=>by (obtain rfl:a=H1'.next+1:=by simpa using ha);simp;omega,fun a ha=>by simp at ha⟩
        ·rw[hO3];show nD { eff:=[id],rs:=[id]++[H1'.next] } _;exact⟨fun a ha=>by (obtain rfl:a=id:=by simpa using ha);simp;omega,fun a ha=>by simp at ha⟩
       rw[hO'.cells];refine⟨⟨by omega,by omega,by omega,by omega,by omega,by omega,by omega⟩,⟨hdj,hdj⟩,⟨rfl,by simp [hO'.one],by rw[List.length_set,c1l];simp;omega⟩,by rw[aG];omega,⟨r+1,rv',rows++[row],rfl,by omega,by simp [hrl],fun q hq=>?_,⟨by rw[aG];omega,fun id h1 h2=>by rw[aj,if_neg h2,keep _ h1];exact hFr.2.1 id h1 h2,?_⟩,?_⟩,by rw[h15];simp only[aa,aU];omega⟩
       ·rcases List.mem_append.1 hq with h|h
        ·exact hrows q h
        ·obtain rfl:=List.mem_singleton.1 h;exact hrok
       ·rw[aj,if_pos rfl,hset2]
       ·have:=hO'.keep (lo':=Hm.next) (H':=Hj.upd (H.next+2) (.arr 0 73 (setAt (C1.set (v*3+2) rv) (v*3+2) [rv']))) (Nat.le_refl _) (Nat.le_refl _) fun id _ h1 _ _ _=>by rw[aj,if_neg (by omega)]
        simpa using this
      ·simp only[go_sem,b1,b2,b3,b4,b5,b10,hrR];exact⟨rv,rows,by omega,hrows,hFr,hOr⟩
     ·rintro e s3 ⟨rfl,rv,rows,a1,a2,a3,a4,a5,a10,hrl,hrows,hFr,hOr⟩;have hFr1:=hFr.1;obtain⟨rk,hrk,hfz⟩:∃ rk,Hm.next<=rk/\Fz (fun id=>id=rk) s3.H s3.H.next rv (aA rows):=by
       rcases hOr with ⟨hO1,hO2⟩|⟨id,gg,hO1,hO2,hO3,hO4⟩
       ·have:rows=[]:=by cases rows with
         | nil=>rfl
         | cons b l=>simp at hO2
        rw[hO1,this];exact⟨s3.H.next,hFr1,.nil⟩
       ·refine⟨id,hO1,?_⟩;rw[hO3,List.length_map];refine .frz rfl hO4 (by rw[Nat.mul_one,List.length_map]) fun j hj h2 h'=>?_;simp only[Nat.zero_add,List.getElem_map];exact .dG _
      have hne2:H.next+2≠rk:=(by omega);have hC1z:∀ c∈C1,Fz (fun id=>id=rk) s3.H s3.H.next c c:=fun c hc=>by
       rw[hC1]at hc;rcases List.mem_or_eq_of_mem_set hc with h|h
       ·exact Ck ns c h
       ·rw[h];exact .dG _
      refine⟨⟨s3.ρ,s3.H.fj rk (H.next+2) (.arr 0 73 (C1.set (v*3+2) (aA rows)))⟩,dM.fj aI hFr.2.2 hne2 (by simp) (zp hC1z hfz),Nat.le_refl _,trivial,?_⟩;obtain⟨He,hHe⟩:∃ He,He=s3.H.fj rk (H.next+2) (.arr 0 73 (C1.set (v*3+2) (aA rows))):=⟨_,rfl⟩
      rw[<- hHe];have hFe:mC Hm He (H.next+2) (C1.set (v*3+2) (aA rows)):=by
       rw[hHe];exact⟨hFr1,fun id h1 h2=>(lZ (by omega) h2).trans (hFr.2.1 id h1 h2),vV hne2⟩
      clear hFr hOr hfz hHe hne2 hrk;have hFe1:=hFe.1;have i1:=IntWalk.i64_in ((i:Int)+1) (by omega);simp only[go_sem,a10,i1];have hiv:∀ j u:Nat,P[j]?=some (u:Int)->u=v->j=i:=fun j u h1 h2=>by
       subst h2;exact(List.getElem?_inj (get_lt h1) hperm.nd).1 (by rw[h1,hpv])
      have hrne:rows≠[]:=fun h=>by rw[h]at hrl;simp at hrl;omega
      have hdone:DoneN g cs P n i ⟨x.card,l,rows⟩:=⟨⟨hL.pw,fun q hq=>⟨(hL.rng q hq).1,by rcases(hL.rng q hq).2 with h|⟨_,k',h,_⟩<;>omega⟩⟩,hL.p3,hL.rk,by show (rows.length:Int)=_;rw[hrl,hR],hrows,hrne⟩
      refine⟨by omega,⟨i+1,ns.set v ⟨x.card,l,rows⟩,rfl,by omega,⟨by rw[List.length_set];exact hnl,?_,fun j u z hj hu hz=>?_,fun j u z hj hu hz=>?_⟩,by omega,by omega,fun id h1 h2=>?_,?_⟩,by rw[h10];simp only[aa,aU];omega⟩
      ·have h1:ak (ns.set v ⟨x.card,l,rows⟩)=(ak ns).set v x.card:=(by unfold ak;rw[List.map_set]);rw[h1,sH (cU hx),L.cards]
      ·have huv:¬ u=v:=fun h=>by have:=hiv j u hu h;omega
       rw[List.getElem?_set_ne (by omega)]at hz;exact L.todo j u z (by omega) hu hz
      ·by_cases huv:u=v
       ·obtain rfl:=hiv j u hu huv;rw[huv,List.getElem?_set_self hvn]at hz;cases hz;exact hdone
       ·rw[List.getElem?_set_ne (by omega)]at hz;have:j≠i:=fun h=>by
         rw[h,hpv]at hu;exact huv (by have:=Option.some.inj hu;omega)
        exact L.done j u z (by omega) hu hz
      ·rw[hFe.2.1 id (by omega) h2,hFm.2.1 id (by omega) h2];exact zO id h1 h2
      ·rw[hFe.2.2,N5 (y:=⟨x.card,l,rows⟩) hx rfl hrne,hC1]
  ·obtain rfl:i=n:=(by omega);simp only[go_sem,e2,e3,e4,e10,hb,m1,m3];have hnl:=L.len;have hall:∀ v:Nat,v<ns.length->(v:Int)∈P:=fun v hv=>by rw[hP];exact uL ord i v (by omega)
   have hdn:∀ (v:Nat) (x:NodeP),ns[v]?=some x->∃ j,DoneN g cs P i j x:=fun v x hx=>by
    obtain⟨j,hj⟩:=List.mem_iff_getElem?.1 (hall v (get_lt hx));exact⟨j,L.done j v x (by have:=get_lt hj;have:=hperm.len;omega) hj hx⟩
   have hdm:∀ x∈ns,∃ j,DoneN g cs P i j x:=fun x hx=>by
    obtain⟨v,hv⟩:=List.mem_iff_getElem?.1 hx;exact hdn v x hv
   have ov:Over H (Hy.upd (H.next+1) (.arr 0 103 [.lit (.int .i64 g),.own (H.next+2) 0 0 i 3])):=⟨by rw[aG];omega,fun id h=>by rw[aj,if_neg (by omega),hF.2.1 id (by omega) (by omega)];exact o1.old id h⟩
   have hz:bW ns=aB ns:=NY fun x hx=>(hdm x hx).elim fun j hj=>hj.ne;have hcl8:∀ x∈ns,2<=x.card/\x.card<=3:=fun x hx=>hc23 x.card (by rw[<- L.cards];exact List.mem_map.2 ⟨x,hx,rfl⟩);have hnet:NetOk g ns:=by
    refine⟨hg1,by omega,fun x hx=>?_,?_,Cl (P:=P) (by rw[hnl];exact hperm) hall fun j v x hj hx q hq=>?_,fun x hx=>?_⟩
    ·obtain⟨j,hj⟩:=hdm x hx;have:=hcl8 x hx;exact⟨by omega,by rw[hnl];exact hj.pl⟩
    ·have h2:=(nI (b:=3) (by omega) (l:=ak ns) fun c hc=>by have:=hc23 c (by rw[<- L.cards];exact hc);omega).2;have h3:(3:Int) ^ (ak ns).length<=3 ^ 5:=by
      have:(3:Nat) ^ (ak ns).length<=3 ^ 5:=Nat.pow_le_pow_right (by decide) (by rw[dc];omega)
      exact_mod_cast this
     omega
    ·have hd:=L.done j v x (by have:=get_lt hj;have:=hperm.len;omega) hj hx;exact⟨(hd.pl.2 q hq).1,hd.rk q hq⟩
    ·obtain⟨j,hj⟩:=hdm x hx;unfold fX aQ;rw[L.cards];exact⟨hj.rl,hj.ro⟩
   rw[<- hnl];rw[<- hnl]at ov;refine ar.mk ov.next (hK g ns (H.next+2) _ ov (by omega) (by rw[aG];omega) ?_ hnet (by omega) fun x hx=>?_)
   ·rw[aj,if_neg (by omega),hF.2.2,hz]
   ·obtain⟨j,hj⟩:=hdm x hx;exact hj.p3
theorem yq (s v:Nat)(hs:s<2 ^ 64)(H:AHeap)(K:ARes->AHeap->Prop)(hK:K (.ret (.lit (.bool (s.testBit v)))) H):ae Tryz.prog G0 52 [bJ s,aa v] H K:=by
 refine ae.aP (n:=10) (rs:=[.tmp 4]) Tryz.func52 rfl rfl rfl (by decide) (by kernel_rfl) (by simp) ?_;have s1:=fun t x y=>lY (P:=Tryz.prog) (t:=t) (x:=x) (y:=y) (k':=.i64) (s:=v) hs;have s2:=fun t x y=>mW (P:=Tryz.prog) (t:=t) (x:=x) (y:=y) (s:=v) hs;cases hb:s.testBit v
 ·rw[hb]at hK;simp only[go_sem,s1,s2,hb];exact ar.mk (Nat.le_refl _) hK
 ·rw[hb]at hK;simp only[go_sem,s1,s2,hb];exact ar.mk (Nat.le_refl _) hK
def eB (s n:Nat):List Int:=((List.range n).filter fun v=>s.testBit v).map fun (v:Nat)=>(v:Int)
theorem N7 (s n:Nat):eB s (n+1)=if s.testBit n=true then eB s n++[(n:Int)] else eB s n:=by
 unfold eB;rw[List.range_succ,List.filter_append,List.map_append];by_cases h:s.testBit n=true
 ·rw[if_pos h];simp [h]
 ·rw[if_neg h];simp [h]
theorem qA {s n:Nat}{q:Int}:q∈eB s n↔∃ v:Nat,q=v/\v<n/\s.testBit v=true:=by
 unfold eB;simp only[List.mem_map,List.mem_filter,List.mem_range];exact⟨fun ⟨v,⟨h1,h2⟩,h3⟩=>⟨v,h3.symm,h1,h2⟩,fun ⟨v,h1,h2,h3⟩=>⟨v,⟨h2,h3⟩,h1.symm⟩⟩
theorem N8 (s n:Nat):(eB s n).Pairwise (·<·):=by
 unfold eB;refine List.Pairwise.map _ (R:=(·<·)) (fun a b h=>by omega) ?_;exact List.Pairwise.filter _ List.pairwise_lt_range
theorem Cm (s n:Nat):(eB s n).length<=n:=by
 unfold eB;rw[List.length_map];exact Nat.le_trans (List.length_filter_le _ _) (by simp)
theorem Cn (s:Nat)(hs:s<2 ^ 64)(H:AHeap)(K:ARes->AHeap->Prop)(hK:K (.ret (ah (eB s 8))) H):ae Tryz.prog G0 44 [bJ s] H K:=by
 refine ae.clo ⟨_,Tryz.func44,rfl,rfl⟩ fun hcl=>?_;refine ae.aP (n:=17) (rs:=[.tmp 2]) Tryz.func44 rfl rfl rfl (by decide) (by kernel_rfl) (by simp) ?_;simp only[go_sem];refine W.aK 65528 (by rfl) (fun ρ H'=>∃ k:Nat,ρ 4=aa k/\k<=8/\Over H H'/\aD H.next H' 3 (ρ 3) (ints (eB s k))) (fun ρ H=>8 - (iv (ρ 4)).toNat) ?_ ?_
 ·simp only[go_sem];exact⟨0,rfl,by omega,.refl _,.nil⟩
 rintro ρ H' ⟨k,h4,hk,ov,h3⟩;refine W.env fun E hE=>?_;have e0:E 0=bJ s:=by rw[hE];simp only[go_sem]
 have e3:E 3=ρ 3:=by rw[hE];simp only[go_sem]
 have e4:E 4=aa k:=by rw[hE];simp only[go_sem,h4]
 clear hE;refine af _ _ _ (by rfl) ?_;by_cases hb:(k:Int)<8
 ·have w1:=IntWalk.i64_in ((k:Int)+1) (by omega);have hbl:=Cm s k;have hsu:=N7 s k;simp only[go_sem,e0,e4,hb];refine ay.clo (yq s k hs _ _ ⟨trivial,?_⟩);by_cases hbit:s.testBit k=true
  ·obtain⟨v',H2,hA,ov2,hO,hn2,_⟩:=kh (k:Int) ov h3 (by omega);rw[if_pos hbit]at hsu;simp only[go_sem,e3,e4,hbit,w1,hA];exact⟨by have:=ov2.next;omega,⟨k+1,rfl,by omega,ov2,by rw[hsu];exact hO⟩,by rw[h4];simp only[aa,aU];omega⟩
  ·rw[if_neg hbit]at hsu;have hbf:s.testBit k=false:=(by simpa using hbit);simp only[go_sem,e3,e4,hbf,w1];exact⟨ov.next,⟨k+1,rfl,by omega,ov,by rw[hsu];exact h3⟩,by rw[h4];simp only[aa,aU];omega⟩
 ·obtain rfl:k=8:=by omega
  simp only[go_sem,e3,e4];exact ar.bB aI hcl ov (h3.gE fun i hi=>hi) hK
def yr:AVal->Nat
 | .own _ _ _ n _=>n
 | _=>0
theorem uM {lo:Nat}{H:AHeap}{e:TypeId}{v:AVal}{cs:List AVal}(h:aD lo H e v cs):yr v=cs.length:=by
 rcases h with ⟨rfl,rfl⟩|⟨_,_,_,_,rfl,_⟩<;>rfl
def sk (d:InfP):List AVal:=[.lit (.int .i64 d.grain),.vec d.nodes.length (bb d.nodes),.lit (.int .u64 (d.decs:Int)),.vec d.utils.length (aS d.utils)]
def lK (d:InfP):AVal:=.agg (sk d)
def sq (d:InfP)(cs:List AVal):List AVal:=[.lit (.int .i64 d.grain),.vec d.nodes.length cs,.lit (.int .u64 (d.decs:Int)),.vec d.utils.length (aS d.utils)]
def sr (d:InfP)(cs:List AVal):AVal:=.agg (sq d cs)
theorem yt (d:InfP)(cs:List AVal):sr d cs=.agg (sq d cs):=rfl
theorem yu (d:InfP):lK d=.agg (sk d):=rfl
theorem N9 (d:InfP)(cs:List AVal)(hd:d.decs<2 ^ 64)(hl:(d.nodes.length:Int)<2 ^ 39)(H:AHeap)(K:ARes->AHeap->Prop)(hK:K (.ret (ah (aX (aE d)))) H):ae Tryz.prog G0 22 [sr d cs] H K:=by
 refine ae.clo ⟨_,Tryz.func22,rfl,rfl⟩ fun hcl=>?_;refine ae.aP (n:=21) (rs:=[.tmp 2]) Tryz.func22 rfl rfl rfl (by decide) (by kernel_rfl) (by simp) ?_;simp only[go_sem,yt,sq];obtain⟨H1,hH1⟩:∃ H1,H1=ext H [.arr 0 38 [.lit (.int .i64 d.grain),.vec d.nodes.length cs,.lit (.int .u64 (d.decs:Int)),.vec d.utils.length (aS d.utils)]]:=⟨_,rfl⟩
 have l1:=ag (show H1.get H.next=some (.arr 0 38 [.lit (.int .i64 d.grain),.vec d.nodes.length cs,.lit (.int .u64 (d.decs:Int)),.vec d.utils.length (aS d.utils)]) by rw[hH1];exact bR ..);have n1:H1.next=H.next+1:=by rw[hH1];rfl
 have o1:Over H H1:=by rw[hH1];exact .ext _ _
 rw[<- hH1];refine W.aK 1048568 (by rfl) (fun ρ H'=>∃ k:Nat,ρ 4=aa k/\k<=d.nodes.length/\Over H1 H'/\aD H1.next H' 3 (ρ 3) (ints (aX (dX d.decs k)))) (fun ρ H=>d.nodes.length - (iv (ρ 4)).toNat) ?_ ?_
 ·simp only[go_sem];exact⟨0,rfl,by omega,.refl _,.nil⟩
 rintro ρ H' ⟨k,h4,hk,ov,h3⟩;refine W.env fun E hE=>?_;have e1:E 1=.ptr H.next 0 0:=by rw[hE];simp only[go_sem]
 have e3:E 3=ρ 3:=by rw[hE];simp only[go_sem]
 have e4:E 4=aa k:=by rw[hE];simp only[go_sem,h4]
 clear hE;refine af _ _ _ (by rfl) ?_;have l2:=(ov.live (g:=0) (by omega:H.next<H1.next)).trans l1;by_cases hb:(k:Int)<d.nodes.length
 ·have w1:=IntWalk.i64_in ((k:Int)+1) (by omega);have hbl:(aX (dX d.decs k)).length<=k:=by simp only[aX,List.length_map];exact jg
  have hsu:=uB d.decs k;simp only[go_sem,e1,e4,l2,hb];refine ay.clo (yq d.decs k hd _ _ ⟨trivial,?_⟩);by_cases hbit:d.decs.testBit k=true
  ·obtain⟨v',H2,hA,ov2,hO,hn2,_⟩:=kh (k:Int) ov h3 (by omega);rw[if_pos hbit]at hsu;simp only[go_sem,e3,e4,hbit,w1,hA];exact⟨ov2.next,⟨k+1,rfl,by omega,ov2,by rw[hsu,show aX (dX d.decs k++[k])=aX (dX d.decs k)++[(k:Int)] by simp [aX]];exact hO⟩,by rw[h4];simp only[aa,aU];omega⟩
  ·rw[if_neg hbit]at hsu;have hbf:d.decs.testBit k=false:=(by simpa using hbit);simp only[go_sem,e3,e4,hbf,w1];exact⟨ov.next,⟨k+1,rfl,by omega,ov,by rw[hsu];exact h3⟩,by rw[h4];simp only[aa,aU];omega⟩
 ·have hke:k=d.nodes.length:=by omega
  rw[hke]at h3;simp only[go_sem,e1,e3,e4,l2,hb];exact ar.bB aI hcl (o1.trans ov) (h3.gE fun i hi=>by omega) hK
set_option maxHeartbeats 1000000 in
theorem Oc (g:Int)(ns:List NodeP)(hl:(ns.length:Int)<2 ^ 39)(hp:∀ x∈ns,(x.parents.length:Int)<2 ^ 39/\∀ q∈x.parents,0<=q/\q<64)(H:AHeap)(K:ARes->AHeap->Prop)
  (hK:∀ v H',Over H H'->aD H.next H' 35 v ((bd ns).map bJ)->K (.ret v) H'):ae Tryz.prog G0 43 [da g ns] H K:=by
 refine ae.clo ⟨_,Tryz.func43,rfl,rfl⟩ fun hcl=>?_;refine ae.aP (n:=43) (rs:=[.tmp 2]) Tryz.func43 rfl rfl rfl (by decide) (by kernel_rfl) (by simp) ?_;simp only[go_sem,da,dB];obtain⟨H1,hH1⟩:∃ H1,H1=ext H [.arr 0 103 [.lit (.int .i64 g),.vec ns.length (aB ns)]]:=⟨_,rfl⟩
 have l1:H1.live H.next 0=some (103,[.lit (.int .i64 g),.vec ns.length (aB ns)]):=by rw[hH1];exact ag (bR ..)
 have n1:H1.next=H.next+1:=by rw[hH1];rfl
 have o1:Over H H1:=by rw[hH1];exact .ext _ _
 rw[<- hH1];refine W.aK 4398046511096 (by rfl) (fun ρ H'=>∃ k:Nat,ρ 4=aa k/\k<=ns.length/\ρ 1=.ptr H.next 0 0/\Over H1 H'/\aD H1.next H' 35 (ρ 3) (((bd ns).take k).map bJ)) (fun ρ H=>ns.length - (iv (ρ 4)).toNat) ?_ ?_
 ·simp only[go_sem];exact⟨0,rfl,by omega,.refl _,.nil⟩
 rintro ρ H' ⟨k,h4,hk,h1,ov,h3⟩;refine af _ _ _ (by rfl) ?_;have l2:=(ov.live (g:=0) (by omega:H.next<H1.next)).trans l1;by_cases hb:(k:Int)<ns.length
 ·obtain⟨x,hx⟩:=get_of_lt (l:=ns) (i:=k) (by omega);have hne:=eA hx;have e1:=lD hx;obtain⟨xl,xr⟩:=hp x (List.mem_of_getElem? hx);simp only[go_sem,h4,h1,l2,hb];refine W.aK 274877890656 (by rfl) (fun ρ' H2=>H2=H'/\∃ j:Nat,ρ' 6=aa j/\j<=x.parents.length/\ρ' 5=bJ (cq (x.parents.take j))) (fun ρ' H=>x.parents.length - (iv (ρ' 6)).toNat) ?_ ?_
  ·simp only[go_sem];exact⟨0,rfl,by omega,rfl⟩
  rintro ρ' H2 ⟨rfl,j,h6,hj,h5⟩;refine af _ _ _ (by rfl) ?_;by_cases hb2:(j:Int)<x.parents.length
  ·obtain⟨q,hq⟩:=get_of_lt (l:=x.parents) (i:=j) (by omega);obtain⟨q0,q1⟩:=xr q (List.mem_of_getElem? hq);obtain⟨u,rfl⟩:=Int.eq_ofNat_of_zero_le q0;have hne2:=aL hq;have w1:=IntWalk.u64_in (u:Int) (by omega);have w2:=IntWalk.i64_in ((j:Int)+1) (by omega);have b1:cq (x.parents.take j)<2 ^ 64:=nJ fun p hp=>by have:=xr p (List.mem_of_mem_take hp);omega
   have s1:=fun t x y=>mV (P:=Tryz.prog) (t:=t) (x:=x) (y:=y) (k':=.u64) (s:=u) (by omega);have s2:=fun t x y=>kg (P:=Tryz.prog) (t:=t) (x:=x) (y:=y) (b:=2 ^ u) b1 (Nat.pow_lt_pow_right (by decide) (by omega));simp only[go_sem,h4,h1,l2,hb,hne,e1,h6,h5,hb2,hq,hne2,w1,w2,s1,s2];exact⟨⟨j+1,by simp,by omega,by rw[aT hq,uz];rfl⟩,by omega⟩
  ·obtain⟨v',H3,hA,ov2,hO,hn2,_⟩:=Dc (cq x.parents) ov h3 (by simp [bd];omega);have w1:=IntWalk.i64_in ((k:Int)+1) (by omega);rw[List.take_of_length_le (by omega)]at h5;simp only[go_sem,h4,h1,l2,hb,hne,e1,h6,h5,hb2,w1,hA];refine⟨by have:=ov2.next;omega,⟨k+1,by simp,by omega,ov2,?_⟩,by omega⟩;rw[aT (lT hx)];exact hO
 ·simp only[go_sem,h4,h1,l2,hb];rw[List.take_of_length_le (by simp [bd];omega)]at h3;exact ar.mk (o1.trans ov).next (hK _ _ (o1.trans ov) (h3.keep (by omega) (Nat.le_refl _) fun _ _ _ _ _ _=>rfl))
set_option maxHeartbeats 1000000 in
theorem Od (ps:List Nat)(hl:ps.length<=60)(hp:∀ p∈ps,p<2 ^ 64)(r:List Nat)(htp:fw ps=some r)(H:AHeap)(K:ARes->AHeap->Prop)(hK:∀ v H',Over H H'->aD H.next H' 3 v (ints (aX r))->K (.ret v) H'):ae Tryz.prog G0 102 [iT ps] H K:=by
 refine ae.clo ⟨_,Tryz.func102,rfl,rfl⟩ fun hcl=>?_;refine ae.aP (n:=40) (rs:=[.tmp 2]) Tryz.func102 rfl rfl rfl (by decide) (by kernel_rfl) (by simp) ?_;simp only[go_sem];refine W.aK 549755813880 (by rfl) (fun ρ H'=>∃ (out:List Nat) (done:Nat),ρ 4=bJ done/\done<2 ^ 64/\out.length<=ps.length/\Over H H'/\aD H.next H' 3 (ρ 3) (ints (aX out))/\iq ps (ps.length - out.length) out done=some r) (fun ρ H=>ps.length - yr (ρ 3)) ?_ ?_
 ·simp only[go_sem];exact⟨[],0,rfl,by decide,by simp,.refl _,.nil,htp⟩
 rintro ρ H' ⟨out,done,h4,hd,ho,ov,h3,ht⟩;refine W.env fun E hE=>?_;have e0:E 0=iT ps:=by rw[hE];simp only[go_sem]
 have e3:E 3=ρ 3:=by rw[hE];simp only[go_sem]
 have e4:E 4=bJ done:=by rw[hE];simp only[go_sem,h4]
 clear hE;refine af _ _ _ (by rfl) ?_;have hlen:=uK h3 (d:=some (.slice 3)) rfl;have hol:=uM h3;have nl:(aX out).length=out.length:=by simp [aX]
 rw[qg,aR,nl]at hlen;rw[aR,nl]at hol;by_cases hb:(out.length:Int)<ps.length
 ·simp only[go_sem,e0,e3,hlen,hb];have hk1:ps.length - out.length=(ps.length - (out.length+1))+1:=by omega
  refine W.aK 549755811896 (by rfl) (fun ρ2 H2=>H2=H'/\∃ j:Nat,ρ2 5=aa j/\j<=ps.length/\ρ2 3=ρ 3/\ρ2 4=bJ done/\∀ v,v<j->jx ps done v=false) (fun ρ2 H=>ps.length - (iv (ρ2 5)).toNat) ?_ ?_
  ·simp only[go_sem,e3,e4];exact⟨0,rfl,by omega,fun v h=>absurd h (Nat.not_lt_zero _)⟩
  rintro ρ2 H2 ⟨rfl,j,h5,hj,h3',h4',hno⟩;refine W.env fun E2 hE2=>?_;have f0:E2 0=iT ps:=by rw[hE2];simp only[go_sem,e0]
  have f3:E2 3=ρ 3:=by rw[hE2];simp only[go_sem,h3']
  have f4:E2 4=bJ done:=by rw[hE2];simp only[go_sem,h4']
  have f5:E2 5=aa j:=by rw[hE2];simp only[go_sem,h5]
  clear hE2;refine af _ _ _ (by rfl) ?_;by_cases hb2:(j:Int)<ps.length
  ·obtain⟨p,hpj⟩:=get_of_lt (l:=ps) (i:=j) (by omega);have hpj':(ps.map bJ)[j]?=some (bJ p):=(by rw[List.getElem?_map,hpj];rfl);have hne:=aL hpj';have s3:=fun t x y=>zl (P:=Tryz.prog) (t:=t) (x:=x) (y:=y) (a:=p) (b:=done);have w1:=IntWalk.i64_in ((j:Int)+1) (by omega);have w2:=IntWalk.u64_in (j:Int) (by omega);have cont:jx ps done j=false->∀ v,v<j+1->jx ps done v=false:=fun h v hv=>by
    rcases Nat.lt_or_ge v j with h'|h'
    ·exact hno v h'
    ·obtain rfl:v=j:=(by omega);exact h
   have fe:jx ps done j=(!done.testBit j && decide (iF p done=0)):=(by unfold jx;rw[bI hpj]);simp only[go_sem,f0,f4,f5,hb2];refine ay.clo (Pw done j hd (by omega) _ _ ⟨trivial,?_⟩);cases hbit:done.testBit j;rotate_left
   ·simp only[go_sem,f3,f4,f5,w1];exact⟨⟨j+1,rfl,by omega,cont (by rw[fe,hbit];rfl)⟩,by rw[h5];simp only[aa,aU];omega⟩
   by_cases hz:iF p done=0;rotate_left
   ·have hz':¬ ((iF p done:Nat):Int)=0:=(by omega);simp only[go_sem,f0,f3,f4,f5,hb2,hpj',hne,s3,hz',w1];exact⟨⟨j+1,rfl,by omega,cont (by rw[fe,hbit];simp [hz])⟩,by rw[h5];simp only[aa,aU];omega⟩
   have hz':((iF p done:Nat):Int)=0:=(by omega);have hnx:kG ps done=some j:=Dj (by omega) hno (by rw[fe,hbit];simp [hz]);obtain⟨v',H3,hA,ov2,hO,hn2,_⟩:=kh (j:Int) ov h3 (by simp [aX];omega);have b2:(2:Nat) ^ j<2 ^ 64:=Nat.pow_lt_pow_right (by decide) (by omega);have s4:=fun t x y=>mV (P:=Tryz.prog) (t:=t) (x:=x) (y:=y) (k':=.u64) (s:=j) (by omega);have s5:=fun t x y=>kg (P:=Tryz.prog) (t:=t) (x:=x) (y:=y) hd b2;simp only[go_sem,f0,f3,f4,f5,hb2,hpj',hne,s3,s4,s5,hz',w2,hA];have hO':aD H.next H3 3 v' (ints (aX (out++[j]))):=by
    have e:aX (out++[j])=aX out++[(j:Int)]:=(by simp [aX]);rw[e];exact hO
   have hol':=uM hO';have nl':(aX (out++[j])).length=out.length+1:=(by simp [aX]);rw[aR,nl']at hol';refine⟨ov2.next,⟨out++[j],done ||| 2 ^ j,rfl,Nat.or_lt_two_pow hd b2,by simp;omega,ov2,hO',?_⟩,by rw[hol,hol'];omega⟩;rw[<- ht,hk1]
   conv=>rhs;unfold iq
   rw[hnx,List.length_append];rfl
  ·have hnn:kG ps done=none:=Dk fun v hv=>hno v (by omega);rw[hk1]at ht;unfold iq at ht;rw[hnn]at ht;cases ht
 ·simp only[go_sem,e0,e3,hlen,hb];have e:ps.length - out.length=0:=by omega
  rw[e]at ht;unfold iq at ht;cases ht;exact ar.mk ov.next (hK _ _ ov h3)
theorem Oe {lo:Nat}{H:AHeap}{e:TypeId}{v:AVal}{l:List Nat}(h:aD lo H e v (l.map bJ)):Fresh H v (iT l):=by
 rcases h with ⟨rfl,h⟩|⟨id,g,h1,h2,rfl,h4⟩
 ·have:l=[]:=by cases l with
   | nil=>rfl
   | cons a l=>simp at h
  subst this;exact .nil
 ·have e:iT l=.vec (l.map bJ).length (l.map bJ):=by rw[List.length_map];rfl
  rw[e];refine .own h4 (by simp) fun j hj h2 h'=>?_;simp only[Nat.zero_add,List.getElem_map];exact .lit _
theorem Of (g:Int)(ns:List NodeP)(hl:ns.length<=8)(hp:∀ x∈ns,(x.parents.length:Int)<2 ^ 39/\∀ q∈x.parents,0<=q/\q<(ns.length:Int))(r:List Nat)(htp:fw (bd ns)=some r)(H:AHeap)(K:ARes->AHeap->Prop)
  (hK:∀ v H',Over H H'->aD H.next H' 3 v (ints (aX r))->K (.ret v) H'):ae Tryz.prog G0 42 [da g ns] H K:=by
 have hsl:(bd ns).length=ns.length:=by simp [bd]
 have hs64:∀ p∈bd ns,p<2 ^ 64:=fun p h=>Nat.lt_of_lt_of_le (vp (n:=ns.length) (fun x hx q hq=>(hp x hx).2 q hq) p h) (Nat.pow_le_pow_right (by decide) (by omega));refine ae.aP (n:=6) (rs:=[.tmp 2]) Tryz.func42 rfl rfl rfl (by decide) (by kernel_rfl) (by simp) ?_;simp only[go_sem,da,dB];refine ay.clo (Px g ns (by omega) (fun x hx=>⟨(hp x hx).1,fun q hq=>by have:=(hp x hx).2 q hq;omega⟩) _ _ ⟨trivial,?_⟩);simp only[go_sem];refine ay.clo (Od (bd ns) (by omega) hs64 r htp _ _ fun v H' ov ho=>⟨trivial,?_⟩);simp only[go_sem];have o1:Over H H':=(Over.ext _ _).trans ov;exact ar.mk o1.next (hK _ _ o1 (ho.keep (by simp [aY]) (Nat.le_refl _) fun _ _ _ _ _ _=>rfl))
structure UtD where
 vars:Int
 w:List Int
def I8 (n:Int):Prop:=-128<=n/\n<128
def nS (l:List Int):List AVal:=l.map fun n=>.lit (.int .i8 n)
theorem Oa {l:List Int}{k:Nat}{a:Int}(h:l[k]?=some a):(nS l)[k]?=some (.lit (.int .i8 a)):=by unfold nS;rw[List.getElem?_map,h];rfl
def UtD.cells (x:UtD):List AVal:=[.lit (.int .u8 x.vars),.vec x.w.length (nS x.w)]
def UtD.Ok (x:UtD):Prop:=U8 x.vars/\(x.w.length:Int)<2 ^ 63/\∀ b∈x.w,I8 b
def uN (p:Int)(k:Nat):Bool:=decide (IntKind.u8.wrap (((BitVec.ofInt IntKind.u8.bits (p.fdiv (2 ^ (min ((k:Int)).toNat IntKind.u8.bits))) &&& BitVec.ofInt IntKind.u8.bits 1).toNat:Nat):Int)=1)
def dY (p:Int):Nat->List Int
 | 0=>[]
 | v+1=>if uN p v=true/\(dY p v).length<3 then dY p v++[(v:Int)] else dY p v
theorem uO (p:Int):∀ n:Nat,(dY p n).Pairwise (·<·)/\(∀ q∈dY p n,0<=q/\q<n)/\(dY p n).length<=3
 | 0=>⟨by simp [dY],by simp [dY],by simp [dY]⟩
 | n+1=>by
  obtain⟨h1,h2,h3⟩:=uO p n;unfold dY;split
  ·rename_i h;refine⟨List.pairwise_append.2 ⟨h1,by simp,fun a ha b hb=>by obtain rfl:=List.mem_singleton.1 hb;exact(h2 a ha).2⟩,fun q hq=>?_,by simp;omega⟩;rcases List.mem_append.1 hq with h4|h4
   ·have:=h2 q h4;omega
   ·obtain rfl:=List.mem_singleton.1 h4;omega
  ·exact⟨h1,fun q hq=>by have:=h2 q hq;omega,h3⟩
def fg (p:UtD)(ns:List NodeP):UtilP:=⟨dY p.vars ns.length,(List.range (az (aH (ak ns) (dY p.vars ns.length))).toNat).map fun (i:Nat)=>if p.w.length=0 then 0 else (p.w.getD (i % p.w.length) 0).tmod 101⟩
theorem Ob (p:UtD)(ns:List NodeP)(hc:∀ x∈ns,1<=x.card):UtilOk ns (fg p ns):=by
 obtain⟨h1,h2,h3⟩:=uO p.vars ns.length;refine⟨⟨h1,h2⟩,?_,fun x hx=>?_⟩
 ·have hp:1<=az (aH (ak ns) (dY p.vars ns.length)):=fI fun c h=>by
   unfold aH at h;obtain⟨q,hq,rfl⟩:=List.mem_map.1 h;have:=h2 q hq;obtain⟨x,hx⟩:=get_of_lt (l:=ns) (i:=q.toNat) (by omega);rw[bI (cU hx)];exact hc x (List.mem_of_getElem? hx)
  show ((List.map _ _).length:Int)=az (aH (ak ns) (dY p.vars ns.length));rw[List.length_map,List.length_range];omega
 ·unfold fg at hx;obtain⟨i,_,rfl⟩:=List.mem_map.1 hx;split
  ·omega
  ·have h:=Int.natAbs_tmod (p.w.getD (i % p.w.length) 0) 101;have h2:=Nat.mod_lt (p.w.getD (i % p.w.length) 0).natAbs (show (101:Int).natAbs > 0 by decide);have h3:(101:Int).natAbs=101:=rfl;rw[h3]at h h2;omega
set_option maxHeartbeats 1000000 in
theorem Og (p:UtD)(hp:p.Ok)(g:Int)(ns:List NodeP)(h5:1<=ns.length/\ns.length<=8)(hc:∀ x∈ns,1<=x.card/\x.card<=4)(H:AHeap)(K:ARes->AHeap->Prop)
  (hK:∀ v1 v2 H',Over H H'->aD H.next H' 3 v1 (ints (fg p ns).vars)->aD H.next H' 3 v2 (ints (fg p ns).w)->K (.ret (.agg [v1,v2])) H'):ae Tryz.prog G0 45 [.agg p.cells,da g ns] H K:=by
 refine ae.aP (n:=70) (rs:=[.cell 4 82]) Tryz.func45 rfl rfl rfl (by decide) (by kernel_rfl) (by simp) ?_;simp only[go_sem,da,dB,UtD.cells];obtain⟨H1,hH1⟩:∃ H1,H1=ext H [.arr 0 80 [.lit (.int .u8 p.vars),.vec p.w.length (nS p.w)],.arr 0 103 [.lit (.int .i64 g),.vec ns.length (aB ns)],.arr 0 82 [.lit (.slice none 0 0),.lit (.slice none 0 0)],.arr 0 82 [.lit (.slice none 0 0),.lit (.slice none 0 0)]]:=⟨_,rfl⟩
 have g0:H1.get H.next=some (.arr 0 80 [.lit (.int .u8 p.vars),.vec p.w.length (nS p.w)]):=by rw[hH1];exact bR ..
 have g1:H1.get (H.next+1)=some (.arr 0 103 [.lit (.int .i64 g),.vec ns.length (aB ns)]):=by rw[hH1];exact aZ H _ 1 (by simp)
 have g2:H1.get (H.next+2)=some (.arr 0 82 [.lit (.slice none 0 0),.lit (.slice none 0 0)]):=by rw[hH1];exact aZ H _ 2 (by simp)
 have g3:H1.get (H.next+3)=some (.arr 0 82 [.lit (.slice none 0 0),.lit (.slice none 0 0)]):=by rw[hH1];exact aZ H _ 3 (by simp)
 have n1:H1.next=H.next+4:=by rw[hH1];rfl
 have o1:Over H H1:=by rw[hH1];exact .ext _ _
 rw[<- hH1];clear hH1;obtain⟨cs,hcs⟩:∃ cs,cs=ak ns:=⟨_,rfl⟩
 have smk:∀ k,k<=ns.length->dS (aH cs (dY p.vars k)):=fun k hk=>by
  obtain⟨h1,h2,h3⟩:=uO p.vars k;refine mL (by rw[gL];omega) fun c h=>?_;unfold aH at h;obtain⟨q,hq,rfl⟩:=List.mem_map.1 h;have:=h2 q hq;obtain⟨x,hx⟩:=get_of_lt (l:=ns) (i:=q.toNat) (by omega);rw[hcs,bI (cU hx)];exact hc x (List.mem_of_getElem? hx)
 refine W.aK 8796093021376 (by rfl) (fun ρ Hx=>∃ (k:Nat) (v1:AVal),ρ 7=aa k/\k<=ns.length/\ρ 6=aa (az (aH cs (dY p.vars k)))/\H1.next<=Hx.next/\(∀ id,id<H1.next->id≠H.next+3->Hx.get id=H1.get id)/\Hx.get (H.next+3)=some (.arr 0 82 [v1,.lit (.slice none 0 0)])/\aD H1.next Hx 3 v1 (ints (dY p.vars k))) (fun ρ H=>ns.length - (iv (ρ 7)).toNat) ?_ ?_
 ·simp only[go_sem];exact⟨0,_,rfl,by omega,rfl,g3,.nil⟩
 rintro ρ Hx ⟨k,v1,h7,hk,h6,hnx,hold,hu,hO⟩;refine W.env fun E hE=>?_;have e2:E 2=.ptr H.next 0 0:=by rw[hE];simp only[go_sem]
 have e3:E 3=.ptr (H.next+1) 0 0:=by rw[hE];simp only[go_sem]
 have e4:E 4=.ptr (H.next+2) 0 0:=by rw[hE];simp only[go_sem]
 have e5:E 5=.ptr (H.next+3) 0 0:=by rw[hE];simp only[go_sem]
 have e6:E 6=aa (az (aH cs (dY p.vars k))):=by rw[hE];simp only[go_sem,h6]
 have e7:E 7=aa k:=by rw[hE];simp only[go_sem,h7]
 clear hE;refine af _ _ _ (by rfl) ?_;have l0:=ag ((hold _ (by omega) (by omega)).trans g0);have l1:=ag ((hold _ (by omega) (by omega)).trans g1);have l3:=ag hu;by_cases hb:(k:Int)<ns.length
 ·obtain⟨x,hx⟩:=get_of_lt (l:=ns) (i:=k) (by omega);have hne:=eA hx;have c0:=jf hx;have w1:=IntWalk.i64_in ((k:Int)+1) (by omega);obtain⟨r1,hr1⟩:∃ r1,p.vars.fdiv (2 ^ (min ((k:Int)).toNat IntKind.u8.bits))=r1:=⟨_,rfl⟩
  obtain⟨r2,hr2⟩:∃ r2,IntKind.u8.wrap (((BitVec.ofInt IntKind.u8.bits r1 &&& BitVec.ofInt IntKind.u8.bits 1).toNat:Nat):Int)=r2:=⟨_,rfl⟩
  have s1:∀ t o1 o2,bp Tryz.prog .shr t o1 o2 (.lit (.int .u8 p.vars)) (.lit (.int .i64 (k:Int)))=some (.lit (.int .u8 r1)):=fun t o1 o2=>by rw[tn (by omega),hr1]
  have s2:∀ t o1 o2,bp Tryz.prog .and t o1 o2 (.lit (.int .u8 r1)) (.lit (.int .u8 1))=some (.lit (.int .u8 r2)):=fun t o1 o2=>by rw[tp,hr2]
  have hb8:uN p.vars k=decide (r2=1):=by unfold uN;rw[hr1,hr2]
  have hlen:=uK hO (d:=some (.slice 3)) rfl;rw[qg,aR]at hlen;obtain⟨u1,u2,u3⟩:=uO p.vars k;have hstep:dY p.vars (k+1)=if uN p.vars k=true/\(dY p.vars k).length<3 then dY p.vars k++[(k:Int)] else dY p.vars k:=rfl
  by_cases hr:r2=1
  ·by_cases h3:((dY p.vars k).length:Int)<3
   ·rw[if_pos ⟨by rw[hb8,decide_eq_true hr],by omega⟩]at hstep;obtain⟨v',H3,hA,hO3,hn3,hp3⟩:=iK (P:=Tryz.prog) (H:=Hx) (t:=46) (x:=aa k) (n:=Hx.next+1) Tryz.underlying46 Tryz.eU Tryz.eV rfl (by rw[Tryz.fG,aR];omega) hO hnx rfl;simp only[aa]at hA;have keep:∀ id,id<H1.next->H3.get id=Hx.get id:=fun id h=>hp3 id (by omega) (hO.ne h);have l1j:=ag ((keep _ (by omega)).trans ((hold _ (by omega) (by omega)).trans g1));have l3j:=ag ((keep _ (by omega)).trans hu);have hvc:=hO3.cells;have hvo:=hO3.one;have l1u:∀ b,(H3.upd (H.next+3) b).live (H.next+1) 0=some (103,[.lit (.int .i64 g),.vec ns.length (aB ns)]):=fun b=>(om (by omega)).trans l1j;have hpr:az (aH cs (dY p.vars (k+1)))=az (aH cs (dY p.vars k))*x.card:=by
     rw[hstep];unfold aH;rw[List.map_append,hcs];show az (_++[(ak ns).getD ((k:Int)).toNat 0])=_;rw[fH,Int.toNat_natCast,bI (cU hx)]
    have hps:=(smk (k+1) (by omega)).prod;rw[hpr]at hps;have w2:=IntWalk.i64_in (az (aH cs (dY p.vars k))*x.card) (by omega);simp only[go_sem,e2,e3,e5,e6,e7,l0,l1,l3,l3j,hb,s1,s2,hr,hlen,h3,w1,w2,hne,c0,hA,hvc,hvo,l1u];refine⟨by rw[aG];omega,⟨k+1,v',rfl,by omega,by rw[hpr],by rw[aG];omega,fun id h1 h2=>by rw[aj,if_neg h2,keep _ h1];exact hold id h1 h2,by rw[aj,if_pos rfl],?_⟩,by rw[h7];simp only[aa,aU];omega⟩;rw[hstep];have:=hO3.keep (lo':=H1.next) (H':=H3.upd (H.next+3) (.arr 0 82 [v',.lit (.slice none 0 0)])) (Nat.le_refl _) (Nat.le_refl _) fun id _ h1 _ _ _=>by rw[aj,if_neg (by omega)]
    simpa [ints,aa] using this
   ·rw[if_neg (by omega)]at hstep;simp only[go_sem,e2,e3,e5,e6,e7,l0,l1,l3,hb,s1,s2,hr,hlen,h3,w1];exact⟨hnx,⟨k+1,v1,rfl,by omega,by rw[hstep],hnx,hold,hu,by rw[hstep];exact hO⟩,by rw[h7];simp only[aa,aU];omega⟩
  ·rw[if_neg (by rw[hb8,decide_eq_false hr];simp)]at hstep;simp only[go_sem,e2,e3,e6,e7,l0,l1,hb,s1,s2,hr,w1];exact⟨hnx,⟨k+1,v1,rfl,by omega,by rw[hstep],hnx,hold,hu,by rw[hstep];exact hO⟩,by rw[h7];simp only[aa,aU];omega⟩
 ·have hke:k=ns.length:=by omega
  simp only[go_sem,e3,e7,l1,hb];rw[hke]at hO e6;obtain⟨R,hR⟩:=Int.eq_ofNat_of_zero_le (smk ns.length (by omega)).prod.1;have hR2:=(smk ns.length (by omega)).prod.2;rw[hR]at e6 hR2;have hwl:(fg p ns).w=(List.range R).map fun (i:Nat)=>if p.w.length=0 then 0 else (p.w.getD (i % p.w.length) 0).tmod 101:=by
   unfold fg;rw[<- hcs,hR];rfl
  have wget:∀ (i:Nat) (x:Int),i<R->(if p.w.length=0 then 0 else (p.w.getD (i % p.w.length) 0).tmod 101)=x->(fg p ns).w[i]?=some x:=fun i x hi hx=>by
   rw[hwl,List.getElem?_map,List.getElem?_range hi,Option.map_some,hx]
  have wlen:(fg p ns).w.length=R:=by rw[hwl];simp
  refine W.aK 590295801562612630272 (by rfl) (fun ρ H2=>∃ (i:Nat) (v2:AVal),ρ 8=aa i/\i<=R/\Hx.next<=H2.next/\(∀ id,id<Hx.next->id≠H.next+3->H2.get id=Hx.get id)/\H2.get (H.next+3)=some (.arr 0 82 [v1,v2])/\aD Hx.next H2 3 v2 (ints ((fg p ns).w.take i))) (fun ρ H=>R - (iv (ρ 8)).toNat) ?_ ?_
  ·simp only[go_sem];exact⟨0,_,rfl,by omega,hu,.nil⟩
  rintro ρ2 H2 ⟨i,v2,h8,hi,hn2,hold2,hu2,hO2⟩;refine W.env fun E2 hE2=>?_;have f2:E2 2=.ptr H.next 0 0:=by rw[hE2];simp only[go_sem,e2]
  have f4:E2 4=.ptr (H.next+2) 0 0:=by rw[hE2];simp only[go_sem,e4]
  have f5:E2 5=.ptr (H.next+3) 0 0:=by rw[hE2];simp only[go_sem,e5]
  have f6:E2 6=aa R:=by rw[hE2];simp only[go_sem,e6]
  have f8:E2 8=aa i:=by rw[hE2];simp only[go_sem,h8]
  clear hE2;refine af _ _ _ (by rfl) ?_;have o02:∀ id,id<H1.next->id≠H.next+3->H2.get id=H1.get id:=fun id h1 h2=>(hold2 id (by omega) h2).trans (hold id h1 h2);have m0:=ag ((o02 _ (by omega) (by omega)).trans g0);have m3:=ag hu2;by_cases hb2:(i:Int)<R
  ·have w1:=IntWalk.i64_in ((i : Int)+1) (by omega);have hlen:=uK hO2 (d:=some (.slice 3)) rfl;rw [qg,aR] at hlen;have tl : ((fg p ns).w.take i).length=i:=(by rw [List.length_take,wlen];omega);have app : ∀ x : Int,(fg p ns).w[i]?=some x→∃ v' H3,bO Tryz.prog (ext H2 [.arr 0 3 [.lit (.int .i64 x)]]) (H2.next+1) 46 46 v2 (.own H2.next 0 0 1 1)=some (v',H3)∧v'.cells=[v']∧v'.one=true∧H3.live (H.next+3) 0=some (82,[v1,v2])∧H2.next≤H3.next ∧
     ∀ b,b=.arr 0 82 [v1,v']->(∀ id,id<Hx.next->id≠H.next+3->(H3.upd (H.next+3) b).get id=Hx.get id)/\(H3.upd (H.next+3) b).get (H.next+3)=some (.arr 0 82 [v1,v'])/\aD Hx.next (H3.upd (H.next+3) b) 3 v' (ints ((fg p ns).w.take (i+1))):=fun x hx=>by
    obtain⟨v',H3,hA,hO3,hn3,hp3⟩:=iK (P:=Tryz.prog) (H:=H2) (t:=46) (x:=aa x) (n:=H2.next+1) Tryz.underlying46 Tryz.eU Tryz.eV rfl (by rw[Tryz.fG,aR];omega) hO2 hn2 rfl;simp only[aa]at hA;have keep:∀ id,id<Hx.next->H3.get id=H2.get id:=fun id h=>hp3 id (by omega) (hO2.ne h);refine⟨v',H3,hA,hO3.cells,hO3.one,ag ((keep _ (by omega)).trans hu2),hn3,fun b hb=>⟨fun id h1 h2=>by rw[aj,if_neg h2,keep _ h1];exact hold2 id h1 h2,by rw[aj,if_pos rfl,hb],?_⟩⟩;rw[aT hx];have:=hO3.keep (lo':=Hx.next) (H':=H3.upd (H.next+3) b) (Nat.le_refl _) (Nat.le_refl _) fun id _ h1 _ _ _=>by rw[aj,if_neg (by omega)]
    simpa [ints,aa] using this
   by_cases hz:(0:Int)<p.w.length
   ·have hzn:¬ (p.w.length:Int)=0:=(by omega);have m1:(i:Int).tmod p.w.length=((i % p.w.length:Nat):Int):=(by rw[Int.tmod_eq_emod_of_nonneg (by omega)];rfl);have m2:=Nat.mod_lt i (show p.w.length > 0 by omega);obtain⟨q,hq⟩:∃ q,q=i % p.w.length:=⟨_,rfl⟩
    rw[<- hq]at m1 m2;have hq0:(q:Int) >= 0:=(by omega);have hql:(q:Int)<p.w.length:=(by omega);obtain⟨b,hbg⟩:=get_of_lt (l:=p.w) (i:=q) m2;have b8:=hp.2.2 b (List.mem_of_getElem? hbg);have hbg':=Oa hbg;have hbne:=aL hbg';unfold I8 at b8;have w4:IntKind.i64.wrap b=b:=IntWalk.i64_in _ (by omega);have tb:-9223372036854775808<=b.tmod 101/\b.tmod 101<9223372036854775808:=by
     have h:=Int.natAbs_tmod b 101;have h2:=Nat.mod_lt b.natAbs (show (101:Int).natAbs > 0 by decide);have h3:(101:Int).natAbs=101:=rfl;rw[h3]at h h2;omega
    have w5:IntKind.i64.wrap (b.tmod 101)=b.tmod 101:=IntWalk.i64_in _ (by omega);obtain⟨v',H3,hA,hvc,hvo,l3,hn3,fin⟩:=app (b.tmod 101) (wget i _ (by omega) (by rw[if_neg (by omega),<- hq,bI hbg]));simp only[go_sem,f2,f6,f8,m0,hb2,hz];refine W.draw 7 [0,1,0,0,8,24,60] Tryz.mixed (by kernel_rfl) (by kernel_rfl) ?_;simp only[go_sem,f2,f5,f8,m0,m3,hzn,m1,hq0,hql,hbg',hbne,w1,w4,hA,hvc,hvo,l3];refine⟨by rw[aG];omega,⟨i+1,v',rfl,by omega,by rw[aG];omega,(fin _ rfl).1,(fin _ rfl).2.1,(fin _ rfl).2.2⟩,by rw[h8];simp only[aa,aU];omega⟩
   ·have hzn:p.w.length=0:=(by omega);obtain⟨v',H3,hA,hvc,hvo,l3,hn3,fin⟩:=app 0 (wget i _ (by omega) (by rw[if_pos hzn]));simp only[go_sem,f2,f5,f6,f8,m0,m3,hb2,hz,w1,hA,hvc,hvo,l3];refine⟨by rw[aG];omega,⟨i+1,v',rfl,by omega,by rw[aG];omega,(fin _ rfl).1,(fin _ rfl).2.1,(fin _ rfl).2.2⟩,by rw[h8];simp only[aa,aU];omega⟩
  ·have hie:i=R:=(by omega);have m2:=ag ((o02 _ (by omega) (by omega)).trans g2);have hO1:aD H1.next H2 3 v1 (ints (dY p.vars ns.length)):=hO.keep (Nat.le_refl _) hn2 fun id _ h1 h3 _ _=>hold2 id h3 (by omega);have v1o:=hO1.one;have v2o:=hO2.one;have v1c:=hO1.cells;have v2c:=hO2.cells;rw[List.take_of_length_le (by omega)]at hO2;simp only[go_sem,f4,f5,f6,f8,m2,m3,hb2,v1o,v2o];have k1:=hO1.keep (lo':=H.next) (H':=H2.upd (H.next+2) (.arr 0 82 [v1,v2])) (by omega) (by rw[aG];omega) fun id _ h1 _ _ _=>by rw[aj,if_neg (by omega)]
   have k2:=hO2.keep (lo':=H.next) (H':=H2.upd (H.next+2) (.arr 0 82 [v1,v2])) (by omega) (by rw[aG];omega) fun id _ h1 _ _ _=>by rw[aj,if_neg (by omega)]
   refine ar.mk (by rw[aG];omega) (hK v1 v2 _ ⟨by rw[aG];omega,fun id h=>?_⟩ k1 k2);rw[aj,if_neg (by omega),o02 id (by omega) (by omega)];exact o1.old id h
structure TopoR (ps:List Nat)(r:List Nat):Prop where
 len:r.length=ps.length
 nd:r.Nodup
 rng:∀ v∈r,v<ps.length
 rk:∀ (i v:Nat),r[i]?=some v->∀ u,(ps.getD v 0).testBit u=true->∃ j,j<i/\r[j]?=some u
theorem NA {ps:List Nat}(hp:∀ p∈ps,p<2 ^ 64):∀ (k:Nat) (out:List Nat) (done:Nat) (r:List Nat),iq ps k out done=some r->(∀ i,done.testBit i=true↔i∈out)->out.Nodup->(∀ v∈out,v<ps.length)->(∀ (i v:Nat),out[i]?=some v->∀ u,(ps.getD v 0).testBit u=true->∃ j,j<i/\out[j]?=some u) ->
  r.length=out.length+k/\r.Nodup/\(∀ v∈r,v<ps.length)/\(∀ (i v:Nat),r[i]?=some v->∀ u,(ps.getD v 0).testBit u=true->∃ j,j<i/\r[j]?=some u):=by
 intro k
 induction k with
 | zero =>
  intro out done r h h1 h2 h3 h4;unfold iq at h;cases h;exact⟨rfl,h2,h3,h4⟩
 | succ k ih =>
  intro out done r h h1 h2 h3 h4;unfold iq at h;cases hn:kG ps done with
  | none=>rw[hn]at h;cases h
  | some v =>
   rw[hn]at h;obtain⟨a,b,c⟩:=xZ hp hn;have hvo:v ∉ out:=fun hm=>by rw[(h1 v).2 hm]at b;cases b
   obtain⟨e1,e2,e3,e4⟩:=ih (out++[v]) (done ||| 2 ^ v) r h (fun i=>by
    rw[iM,List.mem_append,List.mem_singleton,Bool.or_eq_true,h1,decide_eq_true_eq];exact or_congr Iff.rfl eq_comm) (List.nodup_append.2 ⟨h2,by simp,fun x hx y hy=>by obtain rfl:=List.mem_singleton.1 hy;rintro rfl;exact hvo hx⟩) (fun x hx=>by
    rcases List.mem_append.1 hx with hx|hx
    ·exact h3 x hx
    ·obtain rfl:=List.mem_singleton.1 hx;exact a) (fun i x hx u hu=>by
    have hl:=get_lt hx;rw[List.length_append,List.length_singleton]at hl;rcases Nat.lt_or_ge i out.length with hi|hi
    ·rw[List.getElem?_append_left hi]at hx;obtain⟨j,j1,j2⟩:=h4 i x hx u hu;exact⟨j,j1,by rw[List.getElem?_append_left (by omega)];exact j2⟩
    ·obtain rfl:i=out.length:=(by omega);simp only[List.getElem?_concat_length,Option.some.injEq]at hx;subst hx;obtain⟨j,hj⟩:=List.mem_iff_getElem?.1 ((h1 u).1 (c u hu));exact⟨j,get_lt hj,by rw[List.getElem?_append_left (get_lt hj)];exact hj⟩)
   exact⟨by rw[e1,List.length_append,List.length_singleton];omega,e2,e3,e4⟩
theorem BY {ps:List Nat}(hp:∀ p∈ps,p<2 ^ 64){r:List Nat}(h:fw ps=some r):TopoR ps r:=by
 obtain⟨e1,e2,e3,e4⟩:=NA hp ps.length [] 0 r h (fun i=>by simp) (by simp) (by simp) (by simp);exact⟨by simpa using e1,e2,e3,e4⟩
theorem BZ:∀ (n:Nat) (l:List Nat),l.Nodup->(∀ v∈l,v<n)->l.length<=n:=by
 intro n
 induction n with
 | zero=>intro l _ h;cases l with
  | nil=>simp
  | cons a l=>exact absurd (h a (by simp)) (Nat.not_lt_zero _)
 | succ n ih =>
  intro l hd h;have h1:=ih (l.erase n) (hd.erase n) fun v hv=>by
   have h2:=(hd.mem_erase_iff).1 hv;have:=h v h2.2;omega
  have h3:=List.length_erase (a:=n) (l:=l);split at h3<;>omega
def lJ (r:List Nat)(i v:Nat):Prop:=∃ j,j<i/\r[j]?=some v
theorem lJ.up {r:List Nat}{i k v:Nat}(h:lJ r i v)(hk:i<=k):lJ r k v:=h.imp fun j hj=>⟨by omega,hj.2⟩
structure DrD (ns:List NodeP)(r:List Nat)(rem:Bool)(i known decs:Nat)(os:List Nat)(ms:List NodeP):Prop where
 card:ak ms=ak ns
 old:∀ v,decs.testBit v=false->ms[v]?=ns[v]?
 dec:∀ v x,ms[v]?=some x->decs.testBit v=true->x.rows=[]/\∃ s j,x.parents=eB s 8/\j<i/\r[j]?=some v/\∀ u,s.testBit u=true->lJ r j u
 decsb:∀ v,decs.testBit v=true->lJ r i v
 knownb:∀ v,known.testBit v=true->lJ r i v
 os3:os.length<=3
 osm:∀ v,v∈os↔decs.testBit v=true
 osp:rem=true->os.Pairwise fun u v=>∀ x y,ms[u]?=some x->ms[v]?=some y->Sub (cq x.parents ||| 2 ^ u) (cq y.parents)
 osk:rem=true->∀ u∈os,∀ x,ms[u]?=some x->Sub (cq x.parents ||| 2 ^ u) known
theorem DrD.len {ns ms:List NodeP}{r os:List Nat}{rem:Bool}{i known decs:Nat}(h:DrD ns r rem i known decs os ms):ms.length=ns.length:=by
 have:=congrArg List.length h.card;simpa [ak] using this
theorem DrD.start (ns:List NodeP)(r:List Nat)(rem:Bool):DrD ns r rem 0 0 0 [] ns :=
 ⟨rfl,fun _ _=>rfl,fun v x _ h=>by simp at h,fun v h=>by simp at h,fun v h=>by simp at h,by simp,fun v=>by simp,fun _=>.nil,fun _ u hu=>by cases hu⟩
theorem DrD.skip {ns ms:List NodeP}{r os:List Nat}{rem:Bool}{i known decs:Nat}(h:DrD ns r rem i known decs os ms):DrD ns r rem (i+1) known decs os ms :=
 ⟨h.card,h.old,fun v x hx hb=>by
  obtain⟨a,s,j,b,c,d⟩:=h.dec v x hx hb;exact⟨a,s,j,b,by omega,d⟩,fun v hb=>(h.decsb v hb).up (by omega),fun v hb=>(h.knownb v hb).up (by omega),h.os3,h.osm,h.osp,h.osk⟩
theorem B0 {s:Nat}(h:s<2 ^ 8):cq (eB s 8)=s:=by
 have h0:∀ p∈eB s 8,0<=p:=fun p hp=>by obtain⟨v,rfl,_⟩:=qA.1 hp;omega
 refine Nat.eq_of_testBit_eq fun i=>?_;rw[lE h0];cases hb:s.testBit i with
 | true=>exact decide_eq_true (qA.2 ⟨i,rfl,mr h hb,hb⟩)
 | false =>
  refine decide_eq_false fun hm=>?_;obtain⟨v,e,_,hv⟩:=qA.1 hm;obtain rfl:i=v:=by omega
  rw[hb]at hv;cases hv
theorem B1 {r:List Nat}{n i v:Nat}(hr:∀ v∈r,v<n)(h:lJ r i v):v<n:=h.elim fun _ hj=>hr v (List.mem_of_getElem? hj.2)
theorem uG {r:List Nat}{n i s:Nat}(hr:∀ v∈r,v<n)(h:∀ v,s.testBit v=true->lJ r i v):s<2 ^ n:=xW fun v hv=>B1 hr (h v hv)
theorem DrD.step {ns ms:List NodeP}{r os:List Nat}{rem:Bool}{i known decs:Nat}(h:DrD ns r rem i known decs os ms)(hr:TopoR (bd ns) r)(h8:ns.length<=8)(ho:os.length<3){v:Nat}(hv:r[i]?=some v){x:NodeP}(hx:ns[v]?=some x){s:Nat}(hs:Sub s (cq x.parents)):
  decs.testBit v=false/\v<ns.length/\(if rem then s ||| known else s)<2 ^ ns.length /\
  DrD ns r rem (i+1) (known ||| (if rem then s ||| known else s) ||| 2 ^ v) (decs ||| 2 ^ v) (os++[v]) (ms.set v ⟨x.card,eB (if rem then s ||| known else s) 8,[]⟩):=by
 obtain⟨s',hs'⟩:∃ s',s'=(if rem then s ||| known else s):=⟨_,rfl⟩
 rw[<- hs'];have hsl:(bd ns).length=ns.length:=by simp [bd]
 have hrng:=hr.rng;rw[hsl]at hrng;have hvn:=hrng v (List.mem_of_getElem? hv);have hml:=h.len;have inj:∀ j,r[j]?=some v->j=i:=fun j hj=>(List.getElem?_inj (get_lt hj) hr.nd).1 (by rw[hj,hv]);have hdv:decs.testBit v=false:=by
  cases hb:decs.testBit v with
  | false=>rfl
  | true =>
   obtain⟨j,j1,j2⟩:=h.decsb v hb;have:=inj j j2;omega
 have sb:∀ u,s.testBit u=true->lJ r i u:=fun u hu=>hr.rk i v hv u (by rw[bI (lT hx)];exact hs u hu);have sb':∀ u,s'.testBit u=true->lJ r i u:=fun u hu=>by
  rw[hs']at hu;cases rem with
  | false=>exact sb u hu
  | true =>
   rw[if_pos rfl,Nat.testBit_or,Bool.or_eq_true]at hu;exact hu.elim (sb u) (h.knownb u)
 have hlt:=uG hrng sb';have hlt8:s'<2 ^ 8:=Nat.lt_of_lt_of_le hlt (Nat.pow_le_pow_right (by decide) h8);have selfv:(ms.set v ⟨x.card,eB s' 8,[]⟩)[v]?=some ⟨x.card,eB s' 8,[]⟩:=List.getElem?_set_self (by omega);have othv:∀ u,u≠v->(ms.set v ⟨x.card,eB s' 8,[]⟩)[u]?=ms[u]?:=fun u hu=>List.getElem?_set_ne (fun e=>hu e.symm);have osv:v ∉ os:=fun hm=>by rw[(h.osm v).1 hm]at hdv;cases hdv
 refine⟨hdv,hvn,hlt,⟨?_,fun u hu=>?_,fun u y hy hu=>?_,fun u hu=>?_,fun u hu=>?_,by simp;omega,fun u=>?_,fun hrem=>?_,fun hrem u hu y hy=>?_⟩⟩
 ·rw[<- h.card];unfold ak;rw[List.map_set];apply List.ext_getElem?;intro k;rw[List.getElem?_set];split
  ·rename_i e;subst e;have:=h.card;have h1:(ak ms)[v]?=(ak ns)[v]?:=(by rw[this]);rw[if_pos (by rw[List.length_map];omega)];rw[cU hx]at h1;exact h1.symm
  ·rfl
 ·rw[iM,Bool.or_eq_false_iff,decide_eq_false_iff_not]at hu;rw[othv u (fun e=>hu.2 e.symm)];exact h.old u hu.1
 ·by_cases e:u=v
  ·subst e;rw[selfv]at hy;cases hy;exact⟨rfl,s',i,rfl,by omega,hv,sb'⟩
  ·rw[othv u e]at hy;rw[iM,Bool.or_eq_true,decide_eq_true_eq]at hu;obtain⟨a,s2,j,b,c,d⟩:=h.dec u y hy (hu.resolve_right fun e'=>e e'.symm);exact⟨a,s2,j,b,by omega,d⟩
 ·rw[iM,Bool.or_eq_true,decide_eq_true_eq]at hu;rcases hu with hu|rfl
  ·exact(h.decsb u hu).up (by omega)
  ·exact⟨i,by omega,hv⟩
 ·rw[iM,Nat.testBit_or,Bool.or_eq_true,Bool.or_eq_true,decide_eq_true_eq]at hu;rcases hu with (hu|hu)|rfl
  ·exact(h.knownb u hu).up (by omega)
  ·exact(sb' u hu).up (by omega)
  ·exact⟨i,by omega,hv⟩
 ·rw[iM,List.mem_append,List.mem_singleton,h.osm,Bool.or_eq_true,decide_eq_true_eq];exact or_congr Iff.rfl eq_comm
 ·refine List.pairwise_append.2 ⟨(h.osp hrem).imp_of_mem fun {a b} ha hb hab p q hp hq=>?_,by simp,fun a ha b hb p q hp hq=>?_⟩
  ·rw[othv a (fun e=>osv (e ▸ ha))]at hp;rw[othv b (fun e=>osv (e ▸ hb))]at hq;exact hab p q hp hq
  ·obtain rfl:=List.mem_singleton.1 hb;rw[othv a (fun e=>osv (e ▸ ha))]at hp;rw[selfv]at hq;cases hq;rw[show cq (⟨x.card,eB s' 8,[]⟩:NodeP).parents=s' from B0 hlt8,hs',if_pos hrem];exact(h.osk hrem a ha p hp).trans (Sub.right _ _)
 ·rcases List.mem_append.1 hu with hu|hu
  ·rw[othv u (fun e=>osv (e ▸ hu))]at hy;exact((h.osk hrem u hu y hy).trans (Sub.left _ _)).trans (Sub.left _ _)
  ·obtain rfl:=List.mem_singleton.1 hu;rw[selfv]at hy;cases hy;rw[show cq (⟨x.card,eB s' 8,[]⟩:NodeP).parents=s' from B0 hlt8];exact Sub.or ((Sub.right known s').trans (Sub.left _ _)) (Sub.right _ _)
structure DrI (rem:Bool)(d:InfP):Prop where
 ok:InfOk d
 n5:d.nodes.length<=5
 rows:∀ v x,d.nodes[v]?=some x->d.decs.testBit v=false->x.rows≠[]
 os:∃ os:List Nat,os.length<=3/\(∀ v,v∈os↔d.decs.testBit v=true)/\(rem=true->os.Pairwise fun u v=>∀ x y,d.nodes[u]?=some x->d.nodes[v]?=some y->Sub (cq x.parents ||| 2 ^ u) (cq y.parents))
theorem B2 {g:Int}{ns:List NodeP}(h:NetOk g ns):∀ x∈ns,x.rows≠[]:=fun x hx he=>by
 have h1:=(h.rows x hx).1;have h2:=fI (l:=aQ ns x) fun c hc=>(mM (fun q hq=>by have:=(h.node x hx).2.2 q hq;omega) (fun y hy=>(h.node y hy).1) c hc).1;rw[he]at h1;simp at h1;omega
theorem DrD.fin {g:Int}{ns ms:List NodeP}{r os:List Nat}{rem:Bool}{i known decs:Nat}(h:DrD ns r rem i known decs os ms)(hn:NetOk g ns)(hr:TopoR (bd ns) r)(h5:ns.length<=5){us:List UtilP}(hul:us.length<=4)(hus:∀ u∈us,UtilOk ns u):
  DrI rem ⟨g,ms,decs,us⟩:=by
 have hsl:(bd ns).length=ns.length:=by simp [bd]
 have hrng:=hr.rng;rw[hsl]at hrng;have hml:=h.len;have hdl:decs<2 ^ ns.length:=uG hrng h.decsb;have getN:∀ (v:Nat) (x:NodeP),ms[v]?=some x->∃ y,ns[v]?=some y/\y.card=x.card:=fun v x hx=>by
  obtain⟨y,hy⟩:=get_of_lt (l:=ns) (i:=v) (by have:=get_lt hx;omega);refine⟨y,hy,?_⟩;have h1:(ak ms)[v]?=(ak ns)[v]?:=by rw[h.card]
  rw[cU hx,cU hy]at h1;exact(Option.some.inj h1).symm
 have hcard:∀ x∈ms,1<=x.card/\x.card<=4:=fun x hx=>by
  obtain⟨v,hv⟩:=List.mem_iff_getElem?.1 hx;obtain⟨y,hy,e⟩:=getN v x hv;rw[<- e];exact(hn.node y (List.mem_of_getElem? hy)).1
 have hpl:∀ (v:Nat) (x:NodeP),ms[v]?=some x->cH x.parents ms.length:=fun v x hx=>by
  cases hb:decs.testBit v with
  | false =>
   rw[h.old v hb]at hx;have:=(hn.node x (List.mem_of_getElem? hx)).2;rw[hml];exact this
  | true =>
   obtain⟨_,s,j,e,_,_,hs⟩:=h.dec v x hx hb;rw[e];refine⟨N8 _ _,fun q hq=>?_⟩;obtain⟨u,rfl,_,hu⟩:=qA.1 hq;have:=B1 hrng (hs u hu);rw[hml];omega
 have hR:RightN ⟨g,ms,decs,us⟩:=⟨by show 1<=ms.length/\ms.length<=8;rw[hml];exact hn.n1,by show decs >>> ms.length=0;rw[hml,Nat.shiftRight_eq_div_pow];exact Nat.div_eq_of_lt hdl,hcard,fun v x hx hb=>⟨(h.dec v x hx hb).1,hpl v x hx⟩⟩
 have hperm:IsPerm ns.length (aX r):=⟨by rw[show (aX r).length=r.length by simp [aX],hr.len,hsl],by
  unfold aX;exact List.Pairwise.map _ (R:=(·≠·)) (fun a b h e=>h (by omega)) hr.nd,fun q hq=>by
  obtain⟨v,hv,rfl⟩:=List.mem_map.1 hq;have:=hrng v hv;omega⟩
 have natg:∀ (j v:Nat),(aX r)[j]?=some (v:Int)↔r[j]?=some v:=fun j v=>by
  unfold aX;rw[List.getElem?_map,Option.map_eq_some_iff];exact⟨fun ⟨a,h1,h2⟩=>by rw[h1];congr 1;omega,fun h1=>⟨v,h1,rfl⟩⟩
 have hacy:kF (bd ms):=by
  refine Cl (P:=aX r) (by rw[hml];exact hperm) (fun v hv=>?_) fun j v x hj hx q hq=>?_
  ·refine Classical.byContradiction fun hno=>?_;rw[hml]at hv;have hsub:(v :: r).length<=ns.length:=by
    have hnd:(v :: r).Nodup:=List.nodup_cons.2 ⟨fun hm=>hno (List.mem_map.2 ⟨v,hm,rfl⟩),hr.nd⟩;exact BZ ns.length _ hnd fun u hu=>by
     rcases List.mem_cons.1 hu with rfl|hu
     ·exact hv
     ·exact hrng u hu
   rw[List.length_cons,hr.len,hsl]at hsub;omega
  ·have q0:=((hpl v x hx).2 q hq).1;refine⟨q0,?_⟩;have hj':=(natg j v).1 hj;obtain⟨u,rfl⟩:=Int.eq_ofNat_of_zero_le q0;cases hb:decs.testBit v with
   | false =>
    rw[h.old v hb]at hx;obtain⟨k,k1,k2⟩:=hr.rk j v hj' u (by
     rw[bI (lT hx),lE fun p hp=>((hn.node x (List.mem_of_getElem? hx)).2.2 p hp).1];exact decide_eq_true hq)
    exact⟨k,k1,(natg k u).2 k2⟩
   | true =>
    obtain⟨_,s,j',e,_,hj2,hs⟩:=h.dec v x hx hb;rw[e]at hq;obtain⟨u',eu,_,hu⟩:=qA.1 hq;obtain rfl:u=u':=(by omega);obtain rfl:j'=j:=(List.getElem?_inj (get_lt hj2) hr.nd).1 (by rw[hj2,hj']);obtain⟨k,k1,k2⟩:=hs u hu;exact⟨k,k1,(natg k u).2 k2⟩
 have hpc:∀ x,aQ ms x=aQ ns x:=fun x=>by unfold aQ;rw[h.card]
 refine⟨⟨hR,⟨hn.g1,by rw[hZ];exact hR.n1,fun y hy=>?_,?_,by rw[yQ];exact hacy,fun y hy=>?_⟩,hul,fun u hu=>?_⟩,by show ms.length<=5;omega,fun v x hx hb=>?_,os,h.os3,h.osm,h.osp⟩
 ·obtain⟨v,x,hx,rfl⟩:=sJ hy;rw[(jy ..).1,(jy ..).2,hZ];exact⟨hcard x (List.mem_of_getElem? hx),hpl v x hx⟩
 ·rw[j8];show az (ak ms)<=1024;rw[h.card];exact hn.size
 ·obtain⟨v,x,hx,rfl⟩:=sJ hy;have hcx:=hcard x (List.mem_of_getElem? hx);have hx':ms[v]?=some x:=hx;unfold fX;rw[sF];by_cases hb:decs.testBit v=true
  ·rw[sG hx hb];have x1:=(hR.dec v x hx hb).1;have hsm:=(lU (x:=x) (ns:=ms) hR.n1.2 (hpl v x hx) hcard).prod;refine⟨?_,fun q hq=>?_⟩
   ·show ((x.rows++dP g ms (fun _ _=>0) _ x).length:Int)=az (aQ ms x);rw[x1];simp only[dP,List.nil_append,List.length_map,List.length_range,bF];omega
   ·rw[show ({ x with rows:=x.rows++dP g ms (fun _ _=>0) (bA decs v) x }:NodeP).rows=x.rows++dP g ms (fun _ _=>0) (bA decs v) x from rfl,x1,List.nil_append]at hq;unfold dP at hq;obtain⟨i,hi,rfl⟩:=List.mem_map.1 hq;have:=hn.g1;exact C0 (by show 0<=g;omega) ⟨Int.le_refl 0,by show (0:Int)<x.card;omega⟩
  ·rw[pj hb];have hb':decs.testBit v=false:=(by simpa using hb);rw[h.old v hb']at hx';have:=hn.rows x (List.mem_of_getElem? hx');unfold fX at this;show (x.rows.length:Int)=az (aQ ms x)/\_;rw[hpc];exact this
 ·have:=hus u hu;exact⟨by show cH u.vars ms.length;rw[hml];exact this.vars,by show _=az (aH (ak ms) u.vars);rw[h.card];exact this.size,this.w⟩
 ·have hx':ms[v]?=some x:=hx;rw[h.old v hb]at hx';exact B2 hn x (List.mem_of_getElem? hx')
end Go.Proofs
