/- Own work: contracts. -/
import Derived.Test.YtakancljiekbhaaDoorConH
import Derived.Test.YtakancljiekbhaaDoorConE
set_option linter.all false
set_option maxRecDepth 100000
namespace Go.Proofs
open Go.Hx
theorem UQ {S:Nat->Prop}{H:AHeap}{nx n:Nat}(ws:List Int):Fz S H nx (.vec n (eM ws)) (.vec n (eM ws)):=by
 have key:∀ c,c∈eM ws->Fz S H nx c c:=fun c hc=>by
  unfold eM at hc;obtain⟨_,_,rfl⟩:=VN.1 hc;exact .lit _
 exact .vec rfl fun i h _=>key _ (Wh h)
theorem UR {g:Int}{ns:List NodeP}{cs:List Int}{xs:List (List Int)}(hl:cb g ns cs xs=0){v:Nat}{x:NodeP}(hx:ns[v]?=some x):
  vO g ns cs xs v=(if jI ns xs=true then 0 else 7)/\vQ g ns cs xs v=(if jI ns xs=true then cJ ns x v xs else []):=by
 have hv:=get_lt hx;constructor
 ·unfold vO;rw[Vw (fun h=>h hl),Vw (by omega)]
 ·unfold vQ;rw[Vw (fun h=>h hl),Vw (by omega),Int.toNat_natCast,bf hx]
theorem US (l:List Int)(hl:l.length<=2048)(hb:∀ y∈l,0<=y/\y<=46080)(H:AHeap)(K:ARes->AHeap->Prop)(hK:K (.ret (aa l.sum)) H):ae Tryd.prog G0 13 [ab l] H K:=by
 refine Qa l (by omega) (fun k hk=>?_) H K hK;have:∀ l:List Int,(∀ y∈l,0<=y/\y<=46080)->0<=l.sum/\l.sum<=46080*l.length:=by
  intro l
  induction l with
  | nil=>intro _;simp
  | cons a l ih =>
   intro hh;have h1:=hh a (by simp);have h2:=ih fun y hy=>hh y (by simp [hy]);rw[V5,List.length_cons];omega
 have h1:=this (l.take k) fun y hy=>hb y (VW hy);rw[VC]at h1;omega
set_option maxHeartbeats 8000000 in
theorem UT (g0:Int)(ps:List DrP)(ord:List Int)(hg0:U8 g0)(hps:∀ x∈ps,x.Ok)(hpl:(ps.length:Int)<2 ^ 63)(hol:(ord.length:Int)<2 ^ 63)(ho8:∀ x∈ord,U8 x)
  (cw ca cr cn:Int) (hcw:U8 cw) (hca:U8 ca) (hcr:U8 cr) (ws ms:List Int) (hws:∀ x∈ws,0<=x/\x<65536) (hms:∀ x∈ms,0<=x/\x<256) (hwl:(ws.length:Int)<2 ^ 63) (hml:(ms.length:Int)<2 ^ 63)
  (bw ba bn:Int) (H:AHeap) (K:ARes->AHeap->Prop) (hK:∀ H',H.next<=H'.next->K (.ret (.lit (.bool true))) H'):
  ae Tryd.prog G0 3 [.agg (sU g0 ps ord cw ca cr cn ws ms bw ba bn)] H K:=by
 refine ae.cX (n:=227) (rs:=[.tmp 2]) Tryd.func3 rfl rfl rfl (by decide) (by simp) ?_;refine W.sq ?_;simp only[go_sem,sU];obtain⟨H1,hH1⟩:∃ H1,H1=ext H [.arr 0 32 (sU g0 ps ord cw ca cr cn ws ms bw ba bn)]:=⟨_,rfl⟩
 have b0:H1.get H.next=some (.arr 0 32 [.lit (.int .u8 g0),.vec ps.length (fH ps),.vec ord.length (bh ord),.lit (.int .u8 cw),.lit (.int .u8 ca),.lit (.int .u8 cr),.lit (.int .i64 cn),.vec ws.length (eM ws),.vec ms.length (bh ms),.lit (.int .u8 bw),.lit (.int .u8 ba),.lit (.int .i64 bn)]):=by rw[hH1];exact dN ..
 have n1:H1.next=H.next+1:=by rw[hH1];rfl
 have o1:Over H H1:=by rw[hH1];exact .ext _ _
 refine W.en (fun E=>E 1=.ptr H.next 0 0) (by simp only[go_sem]) fun E e1=>?_
 show W _ _ _ _ _ _ ⟨E,ext H [.arr 0 32 (sU g0 ps ord cw ca cr cn ws ms bw ba bn)]⟩;rw[<- hH1];clear hH1;have l0:=ak b0;refine W.sq ?_;simp only[go_sem];refine aw.clo (Vj _ _ ⟨trivial,?_⟩);simp only[go_sem];refine W.sq ?_;simp only[go_sem,e1,l0];refine aw.clo (TL g0 ps ord hg0 hps hpl hol ho8 _ _ fun g ns N H2 o2 hN1 hN2 hN hok hn5 hp3 hc2=>⟨trivial,?_⟩);simp only[go_sem];have o2n:=o2.next;have hob:(ext H2 [.arr 0 36 [.lit (.int .i64 g),.own N 0 0 ns.length 3]]).get H2.next=some (.arr 0 36 [.lit (.int .i64 g),.own N 0 0 ns.length 3]):=cS;refine W.BS (dD.fq aT (rk:=N) (ob:=H2.next) (cells':=[.lit (.int .i64 g),.vec ns.length (au ns)]) hob (by omega) rfl (fun i hi _=>?_)) (Nat.le_refl _) trivial ?_
 ·match i,hi with
  | 0,_=>exact .lit _
  | 1,_=>exact .frz (cells:=au ns) rfl (by show (ext H2 _).get N=_;rw[dV _ _ _ hN2];exact hN) (fT ns) fun j h1 h2 h3=>by simp only[Nat.zero_add];exact Ps ns _ (Wh _)
 obtain⟨H3,hH3⟩:∃ H3,H3=(ext H2 [.arr 0 36 [.lit (.int .i64 g),.own N 0 0 ns.length 3]]).fq N H2.next (.arr 0 36 [.lit (.int .i64 g),.vec ns.length (au ns)]):=⟨_,rfl⟩
 have n3:H3.next=H2.next+1:=by rw[hH3];rfl
 have g3:H3.get H.next=H1.get H.next:=by
  rw[hH3,Be (by omega) (by omega),dV _ _ _ (by omega)];exact o2.old _ (by omega)
 have gn:H3.get H2.next=some (.arr 0 36 [.lit (.int .i64 g),.vec ns.length (au ns)]):=by rw[hH3];exact Bd (by omega)
 refine W.en (fun E1=>E1 1=.ptr H.next 0 0 /\ E1 3=.ptr H2.next 0 0) (by simp only[go_sem,e1]) fun E1 ⟨f1,f3⟩=>?_
 clear e1;rw[<- hH3];clear hH3 hob;have ln:=ak gn;have ls:=ak (g3.trans b0);have nn8:=hok.n1.2;have nn1:=hok.n1.1;have sm:=Pu hok hp3;have h6:ns.length<=6:=by omega
 have hc4:∀ y∈ns,1<=y.card/\y.card<=4:=fun y hy=>(hok.node y hy).1;refine W.sq ?_;simp only[go_sem,f1,f3,ls,ln];refine aw.clo (PL cw ca cr cn (by unfold U8 at hcw;omega) (by unfold U8 at hca;omega) (by unfold U8 at hcr;omega) g ns 600 (by omega) sm _ _ fun gm mm cm hB bS bQ bL=>⟨trivial,?_⟩);simp only[go_sem];obtain⟨H4,hH4⟩:∃ H4,H4=ext H3 [.arr 0 36 [.lit (.int .i64 gm),.vec mm.length cm]]:=⟨_,rfl⟩
 have n4:H4.next=H3.next+1:=by rw[hH4];rfl
 have o4:Over H3 H4:=by rw[hH4];exact .ext _ _
 have gM:H4.get H3.next=some (.arr 0 36 [.lit (.int .i64 gm),.vec mm.length cm]):=by rw[hH4];exact cS
 have ln4:=ak ((o4.old _ (by omega)).trans gn);have ls4:=ak ((o4.old _ (by omega)).trans (g3.trans b0));rw[<- hH4];clear hH4;refine W.sq ?_;simp only[go_sem,f1,f3,ls4,ln4];have fzA:∀ (Hq:AHeap) (i:Nat) (h:i<[AVal.agg [.lit (.int .i64 g),.vec ns.length (au ns)],.vec ws.length (eM ws),.lit (.slice none 0 0)].length) (h':i<[aZ g ns,.vec ws.length (eM ws),.vec 0 (bh [])].length),Fz (fun _=>False) Hq Hq.next [AVal.agg [.lit (.int .i64 g),.vec ns.length (au ns)],.vec ws.length (eM ws),.lit (.slice none 0 0)][i] [aZ g ns,.vec ws.length (eM ws),.vec 0 (bh [])][i]:=fun Hq i h h' =>
  match i,h with
  | 0,_=>.agg rfl fun i hi _=>match i,hi with
   | 0,_=>.lit _
   | 1,_=>rq _
  | 1,_=>UQ _
  | 2,_=>.nil
 refine aw.clo (ae.tD (args':=[aZ g ns,.vec ws.length (eM ws),.vec 0 (bh [])]) aT rfl (fzA _) (DU g ns hok.n1 hc4 hok.size ws [] hws (by simp) hwl (by simp) _ _ ⟨trivial,?_⟩));have hlw:=Em hok hn5 hc2 ws [];have hls:=Em hok hn5 hc2 ws ms;have hfw:=P9 hok ws;obtain⟨xw,hxw⟩:∃ xs,xs=jJ ns ws []:=⟨_,rfl⟩
 obtain⟨xs,hxs⟩:∃ xs,xs=jJ ns ws ms:=⟨_,rfl⟩
 rw[<- hxw]at hlw hfw ⊢;rw[<- hxs]at hls;have xwl:xw.length<=12:=by rw[hxw];unfold jJ;rw[VD,WB];omega
 have xsl:xs.length<=12:=by rw[hxs];unfold jJ;rw[VD,WB];omega
 obtain⟨_,dkw,_⟩:=oC hlw;obtain⟨_,dks,_⟩:=oC hls;obtain⟨_,_,hrw⟩:=qy hlw;obtain⟨_,_,hrs⟩:=qy hls;have fitN:gi ns:=sm.fit (by omega);have fitM:gi mm:=bS.fit (by omega);have fitW:ku (af ns) xw:=EF (by rw[bK];omega) (by omega) fun r hr=>by rw[hrw r hr];omega
 have fitS:ku (af ns) xs:=EF (by rw[bK];omega) (by omega) fun r hr=>by rw[hrs r hr];omega
 simp only[go_sem,da,aB];obtain⟨H5,hH5⟩:∃ H5,H5=ext H4 [.arr 0 42 [.vec (af ns).length (ints (af ns)),.vec xw.length (xw.map ab)]]:=⟨_,rfl⟩
 have n5:H5.next=H4.next+1:=by rw[hH5];rfl
 have o5:Over H4 H5:=by rw[hH5];exact .ext _ _
 have gD:H5.get H4.next=some (.arr 0 42 [.vec (af ns).length (ints (af ns)),.vec xw.length (xw.map ab)]):=by rw[hH5];exact cS
 have gN5:=(o5.old _ (by omega)).trans ((o4.old _ (by omega)).trans gn);have gM5:=(o5.old _ (by omega)).trans gM;have gS5:=(o5.old _ (by omega)).trans ((o4.old _ (by omega)).trans (g3.trans b0));refine W.en (fun E2=>E2 1=.ptr H.next 0 0 /\ E2 3=.ptr H2.next 0 0 /\ E2 4=.ptr H3.next 0 0 /\ E2 5=.ptr H4.next 0 0) (by simp only[go_sem,f1,f3]) fun E2 ⟨a1,a3,a4,a5⟩=>?_
 rw[<- hH5];clear hH5;have lN5:=ak gN5;have lS5:=ak gS5;obtain⟨y1,hy1⟩:∃ y,y=(oG g ns (af ns) xs 0).1:=⟨_,rfl⟩
 obtain⟨y2,hy2⟩:∃ y,y=(oG g ns (af ns) xs 0).2:=⟨_,rfl⟩
 obtain⟨e,he⟩:∃ e,e=ld g ns (af ns) xs 0:=⟨_,rfl⟩
 have he2:e=if jI ns xs=true then 0 else 7:=by
  rw[he];unfold ld;rw[Vw (fun h=>h hls),Vx (An hok)]
 have pcC:∀ Hz,ae Tryd.prog G0 7 [.agg [.lit (.int .i64 g),.vec ns.length (au ns)],.vec ws.length (eM ws),.vec ms.length (bh ms)] Hz fun r H'=>r=.ret (.agg [.vec (af ns).length (ints (af ns)),.vec xs.length (xs.map ab)])/\H'=Hz:=fun Hz=>DU g ns hok.n1 hc4 hok.size ws ms hws hms hwl hml Hz _ ⟨by rw[<- hxs];rfl,rfl⟩;have pcS:∀ Hz,ae Tryd.prog G0 8 [.agg [.lit (.int .i64 g),.vec ns.length (au ns)],.agg [.vec (af ns).length (ints (af ns)),.vec xs.length (xs.map ab)],aa 0] Hz fun r H'=>r=.ret (.tup [.agg [.lit (.int .i64 y1),.vec y2.length (au y2)],aa e])/\H'=Hz:=fun Hz=>PE g ns (af ns) xs fitN fitS 0 Hz _ ⟨by rw[hy1,hy2,he];rfl,rfl⟩;refine W.seq ?_;refine W.draw 13 [0,0,0,4,0,16,62,127,255,511,511,0,3071] Tryd.mixed (by kernel_rfl) (by kernel_rfl) ?_;simp only[go_sem,a1,a3,lN5,lS5];refine⟨_,[],df.pure pcC,?_⟩;simp only[go_sem];refine⟨_,[],df.pure pcS,?_⟩;simp only[go_sem,a1,a3];refine⟨⟨fun _ h=>by omega,fun _ h=>by omega,fun _ h=>by omega,fun _ h=>by omega,fun _ h=>by omega,fun _ h=>by omega⟩,?_⟩;obtain⟨H6,hH6⟩:∃ H6,H6=ext H5 [.arr 0 36 [.lit (.int .i64 y1),.vec y2.length (au y2)]]:=⟨_,rfl⟩
 have n6:H6.next=H5.next+1:=by rw[hH6];rfl
 have o6:Over H5 H6:=by rw[hH6];exact .ext _ _
 have gY:H6.get H5.next=some (.arr 0 36 [.lit (.int .i64 y1),.vec y2.length (au y2)]):=by rw[hH6];exact cS
 have gN6:=(o6.old _ (by omega)).trans gN5;have gM6:=(o6.old _ (by omega)).trans gM5;have gD6:=(o6.old _ (by omega)).trans gD;have gS6:=(o6.old _ (by omega)).trans gS5;refine W.en (fun E3=>E3 1=.ptr H.next 0 0 /\ E3 3=.ptr H2.next 0 0 /\ E3 4=.ptr H3.next 0 0 /\ E3 5=.ptr H4.next 0 0 /\ E3 6=.ptr H5.next 0 0 /\ E3 7=aa e) (by simp only[go_sem,a1,a3,a4,a5]) fun E3 ⟨b1,b3,b4,b5,b6,b7⟩=>?_
 clear a1 a3 a4 a5;rw[<- hH6];clear hH6;have lN:=ak gN6;have lS:=ak gS6;have lY:=ak gY;refine W.cP (fun s'=>s'.ρ 3=.ptr H2.next 0 0/\s'.ρ 4=.ptr H3.next 0 0/\s'.ρ 5=.ptr H4.next 0 0/\s'.H=H6) ?_ ?_
 ·cases hP:jI ns xs
  ·rw[hP,Vw (by decide)]at he2;rw[he2]at b7;refine W.sq ?_;simp only[go_sem,b7];refine W.cond (t:=false) (by simp only[go_sem]) ?_;refine W.vs ?_;simp only[go_sem,b3,b4,b5]
  rw[hP,Vx rfl]at he2;rw[he2]at b7;have hs0:ld g ns (af ns) xs 0=0:=by rw[<- he,he2]
  have hy:y1=g/\y2=ji g 0 ns xs:=by rw[hy1,hy2];unfold oG;rw[Vx hs0];exact⟨rfl,rfl⟩
  rw[hy.1,hy.2]at lY;have hfr:=(sX hok).1 (An hok);obtain⟨N2,hN2⟩:∃ N,N=ji g 0 ns xs:=⟨_,rfl⟩
  have fitY:gi N2:=by rw[hN2];exact PC hok h6 hfr (by omega) hrs fitN
  have okY:NetOk g N2:=by rw[hN2];exact UC hok h6 hfr (by omega) hrs
  have cY:af N2=af ns:=by rw[hN2];exact A8 ..
  have Yl:N2.length=ns.length:=by rw[hN2,nr]
  have hmS:∀ r∈xs,dz ns r≠0:=fun r hr h0=>by
   unfold jI at hP;exact of_decide_eq_true hP (h0 ▸ VN.2 ⟨r,hr,rfl⟩)
  rw[<- hN2]at lY;have pY:∀ Hz,ae Tryd.prog G0 9 [.agg [.lit (.int .i64 g),.vec N2.length (au N2)]] Hz fun r H'=>r=.ret (.lit (.bool true))/\H'=Hz:=fun Hz=>Gq g N2 fitY Hz _ ⟨by rw[tv okY],rfl⟩;have pC1:∀ Hz,ae Tryd.prog G0 11 [.agg [.lit (.int .i64 g),.vec N2.length (au N2)]] Hz fun r H'=>r=.ret (ab (af ns))/\H'=Hz:=fun Hz=>mA g N2 (by omega) Hz _ ⟨by rw[cY],rfl⟩;have pC2:∀ Hz,ae Tryd.prog G0 11 [.agg [.lit (.int .i64 g),.vec ns.length (au ns)]] Hz fun r H'=>r=.ret (ab (af ns))/\H'=Hz:=fun Hz=>mA g ns (by omega) Hz _ ⟨rfl,rfl⟩;have cl6:((af ns).length:Int)<2 ^ 62:=by rw[bK];omega
  refine W.sq ?_;simp only[go_sem,b7];refine W.cond (t:=true) (by simp only[go_sem]) ?_;rw[Vx rfl];refine W.seq (W.seq ?_);refine W.draw 7 [0,1,3,7,15,31,15] Tryd.mixed (by kernel_rfl) (by kernel_rfl) ?_;simp only[go_sem,b6,lY];refine⟨_,[],df.pure pY,?_⟩;simp only[go_sem,b3,b6,lN,lY];refine⟨_,[],df.pure pC1,?_⟩;simp only[go_sem];refine aw.clo ((pC2 H6).mono ?_);rintro rr Hq ⟨hr,hH⟩;rw[hr,hH];refine⟨trivial,?_⟩;simp only[go_sem];refine aw.clo (A2 (af ns) (af ns) cl6 _ _ ⟨trivial,?_⟩);rw[VM (rfl:af ns=af ns)];simp only[go_sem];refine W.vs ?_;simp only[go_sem];refine W.sq ?_;simp only[go_sem,b3,lN];refine W.block ?_;refine W.en (fun E4=>E4 1=.ptr H.next 0 0 /\ E4 3=.ptr H2.next 0 0 /\ E4 4=.ptr H3.next 0 0 /\ E4 5=.ptr H4.next 0 0 /\ E4 6=.ptr H5.next 0 0 /\ E4 62=aa ns.length /\ E4 63=aa 0) (by simp only[go_sem,b1,b3,b4,b5,b6]) fun E4 ⟨d1,d3,d4,d5,d6,d62,d63⟩=>?_
  refine W.aG 1496577676626844588240573268701464588755638069264132 (by kernel_rfl) (fun ρ Hx=>Hx=H6/\∃ v:Nat,ρ 63=aa v/\v<=ns.length) (fun ρ H=>ns.length - (iv (ρ 63)).toNat) ?_ ?_
  ·exact⟨rfl,0,d63,by omega⟩
  rintro ρ Hx ⟨hHx,v,h63,hv⟩;obtain rfl:H6=Hx:=hHx.symm;refine W.en (fun E5=>E5 1=.ptr H.next 0 0 /\ E5 3=.ptr H2.next 0 0 /\ E5 4=.ptr H3.next 0 0 /\ E5 5=.ptr H4.next 0 0 /\ E5 6=.ptr H5.next 0 0 /\ E5 62=aa ns.length /\ E5 63=aa v) (by simp only[go_sem,d1,d3,d4,d5,d6,d62,h63]) fun E5 ⟨q1,q3,q4,q5,q6,q62,q63⟩=>?_
  have wv:=Vt ((v:Int)+1) (by omega);by_cases hb:(v:Int)<ns.length;rotate_left
  ·refine W.vs ?_;simp only[go_sem,q3,q4,q5,q62,q63,hb]
  obtain⟨x,hx⟩:=get_of_lt (l:=ns) (i:=v) (by omega);have hxm:=Vs hx;have hc:=(hok.node x hxm).1;obtain⟨L,hL⟩:∃ L,L=cJ ns x v xs:=⟨_,rfl⟩
  have hYx:N2[v]?=some (iI g 0 L x):=by rw[hN2,hL];exact sW hx
  have h0:=nG hx;have h2:=wJ hx;have pne:=eP hx;have y2':=wJ hYx;have yne:=eP hYx;have hbY:(v:Int)<N2.length:=by omega
  have yrl:(iI g 0 L x).rows.length=x.rows.length:=by show ((List.range _).map _).length=_;simp
  obtain⟨hLe,hLb⟩:=sS hok h6 hx xs hrs;have hLl:=qE hok h6 hx xs hrs;rw[<- hL]at hLe hLb hLl;have hrc:=vK hok hx;have wR:=Vt ((x.rows.length:Int)*x.card) (by omega);obtain⟨eS,lS'⟩:=UR hls hx;rw[hP,Vx rfl]at eS lS';have pcE:∀ Hz,ae Tryd.prog G0 12 [.agg [.lit (.int .i64 g),.vec ns.length (au ns)],.agg [.vec (af ns).length (ints (af ns)),.vec xs.length (xs.map ab)],aa v] Hz fun r H'=>r=.ret (.tup [.vec L.length (ints L),aa 0])/\H'=Hz:=fun Hz=>Pk g ns (af ns) xs fitN fitS v Hz _ ⟨by rw[Pt,eS,lS',<- hL];rfl,rfl⟩;refine W.sq ?_;simp only[go_sem,q62,q63,hb];refine W.sq ?_;simp only[go_sem];refine W.seq (W.block ?_);refine W.sq ?_;simp only[go_sem,q63];refine W.seq ?_;refine W.draw 13 [0,0,0,4,0,16,62,0,255,511,1023,1023,2047] Tryd.mixed (by kernel_rfl) (by kernel_rfl) ?_;simp only[go_sem,q1,q3,lN,lS];refine⟨_,[],df.pure pcC,?_⟩;simp only[go_sem];refine⟨_,[],df.pure pcE,?_⟩;simp only[go_sem];refine W.en (fun E6=>E6 1=.ptr H.next 0 0 /\ E6 3=.ptr H2.next 0 0 /\ E6 4=.ptr H3.next 0 0 /\ E6 5=.ptr H4.next 0 0 /\ E6 6=.ptr H5.next 0 0 /\ E6 8=aa v /\ E6 9=.vec L.length (ints L) /\ E6 10=aa 0 /\ E6 62=aa ns.length /\ E6 63=aa v) (by simp only[go_sem,q1,q3,q4,q5,q6,q62,q63]) fun E6 ⟨r1,r3,r4,r5,r6,r8,r9,r10,r62,r63⟩=>?_
  clear q1 q3 q4 q5 q6 q62 q63;refine W.seq (W.seq ?_);refine W.draw 36 [0,1,3,7,15,7,63,127,255,511,7,1031,7,7175,15367,31751,64519,131071,262143,524287,1048575,2097151,1048575,5242879,1048575,30408703,63963135,131071999,265289727,1048575,537919487,1048575,3759144959,8054112255,16644046847,34356592639] Tryd.mixed (by kernel_rfl) (by kernel_rfl) ?_;simp only[go_sem,r3,r6,r8,r9,r10,lN,lY,hb,hbY,h0,h2,pne,y2',yne,yrl,aB,wR,hLe];refine W.vs ?_;simp only[go_sem];refine W.sq ?_;simp only[go_sem,r3,r8,lN,hb,h2,pne,aB];refine W.block ?_;refine W.env fun F hF=>?_;have s3:F 3=.ptr H2.next 0 0:=by rw[hF];simp only[go_sem,r3]
  have s4:F 4=.ptr H3.next 0 0:=by rw[hF];simp only[go_sem,r4]
  have s5:F 5=.ptr H4.next 0 0:=by rw[hF];simp only[go_sem,r5]
  have s6:F 6=.ptr H5.next 0 0:=by rw[hF];simp only[go_sem,r6]
  have s8:F 8=aa v:=by rw[hF];simp only[go_sem,r8]
  have s9:F 9=.vec L.length (ints L):=by rw[hF];simp only[go_sem,r9]
  have s62:F 62=aa ns.length:=by rw[hF];simp only[go_sem,r62]
  have s63:F 63=aa v:=by rw[hF];simp only[go_sem,r63]
  have s121:F 121=.vec x.rows.length (x.rows.map ab):=by rw[hF];simp only[go_sem]
  have s122:F 122=aa x.rows.length:=by rw[hF];simp only[go_sem]
  have s123:F 123=aa 0:=by rw[hF];simp only[go_sem]
  clear hF r1 r3 r4 r5 r6 r8 r9 r10 r62 r63;refine W.aG 748288838313411660296320355023753675607355219277828 (by kernel_rfl) (fun ρ2 Hx=>Hx=H6/\∃ j:Nat,ρ2 123=aa j/\j<=x.rows.length) (fun ρ2 H=>x.rows.length - (iv (ρ2 123)).toNat) ?_ ?_
  ·exact⟨rfl,0,s123,by omega⟩
  rintro ρ2 Hx ⟨hHx,j,h123,hj⟩;obtain rfl:H6=Hx:=hHx.symm;refine W.en (fun F2=>F2 3=.ptr H2.next 0 0 /\ F2 4=.ptr H3.next 0 0 /\ F2 5=.ptr H4.next 0 0 /\ F2 6=.ptr H5.next 0 0 /\ F2 8=aa v /\ F2 9=.vec L.length (ints L) /\ F2 62=aa ns.length /\ F2 63=aa v /\ F2 121=.vec x.rows.length (x.rows.map ab) /\ F2 122=aa x.rows.length /\ F2 123=aa j) (by simp only[go_sem,s3,s4,s5,s6,s8,s9,s62,s63,s121,s122,h123]) fun F2 ⟨t3,t4,t5,t6,t8,t9,t62,t63,t121,t122,t123⟩=>?_
  have mR1:(x.rows.length:Int)*1<=x.rows.length*x.card:=V8 (by omega) (by omega);have wj:=Vt ((j:Int)+1) (by omega);by_cases hb2:(j:Int)<x.rows.length;rotate_left
  ·refine W.vs ?_;simp only[go_sem,t3,t4,t5,t122,t123,hb2];refine W.vs ?_;simp only[go_sem,t63,wv];exact⟨⟨v+1,rfl,by omega⟩,by rw[h63];simp only[aa,aN];omega⟩
  obtain⟨row,hrow⟩:=get_of_lt (l:=x.rows) (i:=j) (by omega);have hrow':=mg hrow;have hrown:=aJ hrow';have hrowl:=((hok.rows x hxm).2 row (Vs hrow)).1;obtain⟨c,hcc⟩:∃ c:Nat,x.card=c:=⟨x.card.toNat,by omega⟩
  have hct:x.card.toNat=c:=by omega
  have hrc':row.length=c:=by omega
  refine W.sq ?_;simp only[go_sem,t122,t123,hb2];refine W.sq ?_;simp only[go_sem];refine W.seq (W.block ?_);refine W.sq ?_;simp only[go_sem,t121,t123,hrow',hrown,hb2];refine W.sq ?_;simp only[go_sem];refine W.block ?_;refine W.en (fun F3=>F3 3=.ptr H2.next 0 0 /\ F3 4=.ptr H3.next 0 0 /\ F3 5=.ptr H4.next 0 0 /\ F3 6=.ptr H5.next 0 0 /\ F3 8=aa v /\ F3 9=.vec L.length (ints L) /\ F3 11=aa j /\ F3 12=.vec row.length (ints row) /\ F3 62=aa ns.length /\ F3 63=aa v /\ F3 121=.vec x.rows.length (x.rows.map ab) /\ F3 122=aa x.rows.length /\ F3 123=aa j /\ F3 128=.vec row.length (ints row) /\ F3 129=aa row.length /\ F3 130=aa 0) (by simp only[go_sem,t3,t4,t5,t6,t8,t9,t62,t63,t121,t122,t123]) fun F3 ⟨u3,u4,u5,u6,u8,u9,u11,u12,u62,u63,u121,u122,u123,u128,u129,u130⟩=>?_
  clear t3 t4 t5 t6 t8 t9 t62 t63 t121 t122 t123;refine W.aG 374144419155350017592459563321514954602191658180612 (by kernel_rfl) (fun ρ3 Hx=>Hx=H6/\∃ k:Nat,ρ3 130=aa k/\k<=row.length) (fun ρ3 H=>row.length - (iv (ρ3 130)).toNat) ?_ ?_
  ·exact⟨rfl,0,u130,by omega⟩
  rintro ρ3 Hx ⟨hHx,k,h130,hk⟩;obtain rfl:H6=Hx:=hHx.symm;have wk:=Vt ((k:Int)+1) (by omega);refine W.en (fun F4=>F4 3=.ptr H2.next 0 0 /\ F4 4=.ptr H3.next 0 0 /\ F4 5=.ptr H4.next 0 0 /\ F4 6=.ptr H5.next 0 0 /\ F4 8=aa v /\ F4 9=.vec L.length (ints L) /\ F4 11=aa j /\ F4 12=.vec row.length (ints row) /\ F4 62=aa ns.length /\ F4 63=aa v /\ F4 121=.vec x.rows.length (x.rows.map ab) /\ F4 122=aa x.rows.length /\ F4 123=aa j /\ F4 128=.vec row.length (ints row) /\ F4 129=aa row.length /\ F4 130=aa k) (by simp only[go_sem,u3,u4,u5,u6,u8,u9,u11,u12,u62,u63,u121,u122,u123,u128,u129,h130]) fun F4 ⟨v3,v4,v5,v6,v8,v9,v11,v12,v62,v63,v121,v122,v123,v128,v129,v130⟩=>?_
  refine W.vs ?_;by_cases hb3:(k:Int)<row.length;rotate_left
  ·simp only[go_sem,v3,v4,v5,v129,v130,hb3];refine W.vs ?_;simp only[go_sem,v123,wj];exact⟨⟨j+1,rfl,by omega⟩,by rw[h123];simp only[aa,aN];omega⟩
  obtain⟨w,hw⟩:=get_of_lt (l:=row) (i:=k) (by omega);have hwn:=aJ hw;by_cases hw0:w=0;rotate_left
  ·simp only[go_sem,v128,v129,v130,hb3,hw,hwn,hw0,wk];exact⟨⟨k+1,rfl,by omega⟩,by rw[h130];simp only[aa,aN];omega⟩
  obtain⟨q,hq⟩:∃ q,q=nq g 0 L c j:=⟨_,rfl⟩
  have hqr:(iI g 0 L x).rows[j]?=some q:=by
   show ((List.range _).map _)[j]?=_;rw[List.getElem?_map,Wu (by omega),hct,hq];rfl
  have hql:q.length=c:=by
   have:=((okY.rows _ (Vs hYx)).2 q (Vs hqr)).1;have e:(iI g 0 L x).card=x.card:=rfl;omega
  obtain⟨b,hbq⟩:=get_of_lt (l:=q) (i:=k) (by omega);have hqr':=mg hqr;have hqrn:=aJ hqr';have hbn:=aJ hbq;have hbj:(j:Int)<(iI g 0 L x).rows.length:=by omega
  have hbk:(k:Int)<q.length:=by omega
  by_cases hb0:b=0
  ·simp only[go_sem,v6,v8,v11,v128,v129,v130,lY,hbY,y2',yne,aB,hqr',hqrn,hbj,hbk,hbq,hbn,hb0,hb3,hw,hwn,hw0,wk];exact⟨⟨k+1,rfl,by omega⟩,by rw[h130];simp only[aa,aN];omega⟩
  have hns:¬ 0<(fC L c j).sum:=fun hpos=>by
   have:=UI hok h6 hx (xs:=xs) (by omega) hrs hmS hrow (k:=k) (by rw[hw,hw0]) (by rw[<- hL,hct];exact hpos);rw[<- hL,hct,<- hq,bf hbq]at this;exact hb0 this
  have mR:((x.rows.length:Int))*c<=1024:=by rw[<- hcc];exact hrc.2
  have m0:0<=(j:Int)*c:=WE (by omega) (by omega);have m1':((j:Int)+1)*c<=x.rows.length*c:=Wv (by omega) (by omega);have m2':((j:Int)+1)*c=j*c+c:=by rw[XN,XM]
  have w1:=Vt ((j:Int)*c) (by omega);have w3:=Vt (((j:Int)+1)*c) (by omega);have tn2:((j:Int)*c).toNat=j*c:=by rw[<- Wx,Int.toNat_natCast]
  have tn1:(((j:Int)+1)*c).toNat=j*c+c:=by rw[m2',<- Wx,<- Yu,Int.toNat_natCast]
  have tn3:j*c+c - j*c=c:=by omega
  have hb3c:(k:Int)<c:=by omega
  rw[hct]at hLl;have sl:=D6 hLl (show j<x.rows.length by omega);have rl:=qD hLl (show j<x.rows.length by omega);have hLi:(L.length:Int)=x.rows.length*c:=by rw[hLl,Wx]
  simp only[go_sem,v6,v8,v9,v11,v12,v128,v129,v130,lY,hbY,y2',yne,aB,hqr',hqrn,hbj,hbk,hbq,hbn,hb0,hb3c,hw,hwn,hw0,hrc',w1,w3,wj,tn1,tn2,tn3,sl];have tn4:((j*c+c:Nat):Int)=j*c+c:=by push_cast;rfl
  refine⟨⟨by omega,by omega⟩,⟨by omega,by omega⟩,?_⟩;rw[show AVal.vec c (ints (fC L c j))=ab (fC L c j) by unfold ab;rw[rl]];refine aw.clo (US (fC L c j) (by omega) (fun y hy=>by have:=hLb y (D4 y hy);omega) _ _ ⟨trivial,?_⟩);simp only[go_sem,hns,v130,wk];exact⟨⟨k+1,rfl,by omega⟩,by rw[h130];simp only[aa,aN];omega⟩
 rintro⟨E4,H7⟩ ⟨c3,c4,c5,cH⟩;simp only at c3 c4 c5 cH;obtain rfl:H6=H7:=cH.symm;have lM:=ak gM6;have lD:=ak gD6;have fin:∀ Hx,H6.next<=Hx.next->av Tryd.prog G0 H K (.lit (.bool true)) Hx:=fun Hx h=>av.mk (by have:=o1.next;have:=o4.next;have:=o5.next;omega) (hK Hx (by have:=o1.next;have:=o4.next;have:=o5.next;omega));have fzM:∀ (Hq:AHeap) (i:Nat) (h:i<[AVal.agg [.lit (.int .i64 gm),.vec mm.length cm]].length) (h':i<[aZ gm mm].length),Fz (fun _=>False) Hq Hq.next [AVal.agg [.lit (.int .i64 gm),.vec mm.length cm]][i] [aZ gm mm][i]:=fun Hq i h h' =>
  match i,h with
  | 0,_=>Az bQ gm
 have pR:∀ Hz,ae Tryd.prog G0 9 [.agg [.lit (.int .i64 gm),.vec mm.length cm]] Hz fun r H'=>r=.ret (.lit (.bool (eG gm mm)))/\H'=Hz:=fun Hz=>ae.tD (args':=[aZ gm mm]) aT rfl (fzM _) (Gq gm mm fitM Hz _ ⟨rfl,rfl⟩);have pC:∀ Hz,ae Tryd.prog G0 11 [.agg [.lit (.int .i64 gm),.vec mm.length cm]] Hz fun r H'=>r=.ret (ab (af mm))/\H'=Hz:=fun Hz=>ae.tD (args':=[aZ gm mm]) aT rfl (fzM _) (mA gm mm (by have:=fitM.1;omega) Hz _ ⟨rfl,rfl⟩);have pN:∀ Hz,ae Tryd.prog G0 11 [.agg [.lit (.int .i64 g),.vec ns.length (au ns)]] Hz fun r H'=>r=.ret (ab (af ns))/\H'=Hz:=fun Hz=>mA g ns (by omega) Hz _ ⟨rfl,rfl⟩;have cl9:((af ns).length:Int)<2 ^ 62:=by rw[bK];omega
 refine W.seq (W.seq ?_);cases hR:eG gm mm
 ·refine W.draw 7 [0,1,3,7,15,31,15] Tryd.mixed (by kernel_rfl) (by kernel_rfl) ?_;simp only[go_sem,c4,lM];refine⟨_,[],df.pure pR,?_⟩;rw[hR];simp only[go_sem,c4];refine W.vs ?_;simp only[go_sem];exact fin H6 (Nat.le_refl _)
 by_cases hcd:af ns=af mm;rotate_left
 ·refine W.draw 7 [0,1,3,7,15,31,15] Tryd.mixed (by kernel_rfl) (by kernel_rfl) ?_;simp only[go_sem,c4,lM];refine⟨_,[],df.pure pR,?_⟩;rw[hR];simp only[go_sem,c3,c4,lN,lM];refine⟨_,[],df.pure pN,?_⟩;simp only[go_sem];refine aw.clo ((pC H6).mono ?_);rintro rr Hq ⟨hr,hH⟩;rw[hr,hH];refine⟨trivial,?_⟩;simp only[go_sem];refine aw.clo (A2 (af ns) (af mm) cl9 _ _ ⟨trivial,?_⟩);rw[VZ hcd];simp only[go_sem];refine W.vs ?_;simp only[go_sem];exact fin H6 (Nat.le_refl _)
 refine W.draw 7 [0,1,3,7,15,31,15] Tryd.mixed (by kernel_rfl) (by kernel_rfl) ?_;simp only[go_sem,c4,lM];refine⟨_,[],df.pure pR,?_⟩;rw[hR];simp only[go_sem,c3,c4,lN,lM];refine⟨_,[],df.pure pN,?_⟩;simp only[go_sem];refine aw.clo ((pC H6).mono ?_);rintro rr Hq ⟨hr,hH⟩;rw[hr,hH];refine⟨trivial,?_⟩;simp only[go_sem];refine aw.clo (A2 (af ns) (af mm) cl9 _ _ ⟨trivial,?_⟩);rw[VM hcd];simp only[go_sem,c5,lD];refine aw.clo (Ap (af ns) xw fitW _ _ ⟨trivial,?_⟩);rw[Vx (vY dkw)];simp only[go_sem];refine W.vs ?_;simp only[go_sem];have mok:=xd.1 hR;have hlm:cb gm mm (af ns) xw=0:=by unfold cb;rw[Vx hR,Vx (vY dkw),Vx hcd.symm]
 have hfm:∀ r∈xw,bP (af mm) r:=by rw[<- hcd];exact hfw
 have mml:mm.length=ns.length:=by rw[<- bK mm,<- hcd,bK]
 obtain⟨A,hA⟩:∃ q,q=iK ns gm mm xw:=⟨_,rfl⟩
 obtain⟨B,hB⟩:∃ q,q=iK mm g ns xw:=⟨_,rfl⟩
 have zA:=GF hok mok.g1.1 mml hfw;have zB:=GF mok hok.g1.1 mml.symm hfm;rw[<- hA]at zA;rw[<- hB]at zB;obtain⟨la,fe,hla,hLa,hfe⟩:∃ (la:List Int) (fe:Int),la.length=18/\iM g ns (af ns) xw=.tup [.agg (ints la),aa fe]/\((0<A/\fe=0/\la=bV g bt (bg ns xw))\/(A=0/\fe=7)):=by
  rw[GG hlw hfw];by_cases hz:∀ w∈bg ns xw,w≠0
  ·exact⟨_,0,(xh h6 (by omega)).1,Vx hz,.inl ⟨zA.2 hz,rfl,rfl⟩⟩
  ·exact⟨bt,7,rfl,Vw hz,.inr ⟨by have:=mt zA.1 hz;omega,rfl⟩⟩
 obtain⟨lb,ge,hlb,hLb',hge⟩:∃ (lb:List Int) (ge:Int),lb.length=18/\iM gm mm (af ns) xw=.tup [.agg (ints lb),aa ge]/\((0<B/\ge=0/\lb=bV gm bt (bg mm xw))\/(B=0/\ge=7)):=by
  rw[GG hlm hfm];by_cases hz:∀ w∈bg mm xw,w≠0
  ·exact⟨_,0,(xh (by omega) (by omega)).1,Vx hz,.inl ⟨zB.2 hz,rfl,rfl⟩⟩
  ·exact⟨bt,7,rfl,Vw hz,.inr ⟨by have:=mt zB.1 hz;omega,rfl⟩⟩
 have fz2:∀ (Hq:AHeap) (i:Nat) (h:i<[AVal.agg [.lit (.int .i64 gm),.vec mm.length cm],.agg [.vec (af ns).length (ints (af ns)),.vec xw.length (xw.map ab)]].length) (h':i<[aZ gm mm,da (af ns) xw].length),Fz (fun _=>False) Hq Hq.next [AVal.agg [.lit (.int .i64 gm),.vec mm.length cm],.agg [.vec (af ns).length (ints (af ns)),.vec xw.length (xw.map ab)]][i] [aZ gm mm,da (af ns) xw][i]:=fun Hq i h h' =>
  match i,h with
  | 0,_=>Az bQ gm
  | 1,_=>Aq (.ef _) (qZ xw)
 have fz3:∀ (Hq:AHeap) (i:Nat) (h:i<[AVal.agg [.lit (.int .i64 g),.vec ns.length (au ns)],AVal.agg [.lit (.int .i64 gm),.vec mm.length cm],.agg [.vec (af ns).length (ints (af ns)),.vec xw.length (xw.map ab)]].length) (h':i<[aZ g ns,aZ gm mm,da (af ns) xw].length),Fz (fun _=>False) Hq Hq.next [AVal.agg [.lit (.int .i64 g),.vec ns.length (au ns)],AVal.agg [.lit (.int .i64 gm),.vec mm.length cm],.agg [.vec (af ns).length (ints (af ns)),.vec xw.length (xw.map ab)]][i] [aZ g ns,aZ gm mm,da (af ns) xw][i]:=fun Hq i h h' =>
  match i,h with
  | 0,_=>.agg rfl fun i hi _=>match i,hi with
   | 0,_=>.lit _
   | 1,_=>rq _
  | 1,_=>Az bQ gm
  | 2,_=>Aq (.ef _) (qZ xw)
 have la1:=wo hla;have la2:(ints la).length=18:=by rw[aR,hla]
 have la3:=oc la;have lb1:=wo hlb;have lb2:(ints lb).length=18:=by rw[aR,hlb]
 have lb3:=oc lb;refine W.sq ?_;simp only[go_sem,c3,c5,lN,lD];refine aw.clo (ED g ns (af ns) xw fitN fitW _ _ ⟨trivial,?_⟩);rw[hLa];simp only[go_sem,la2,la3];obtain⟨H7,hH7⟩:∃ H7,H7=ext H6 [.arr 0 57 (ints la)]:=⟨_,rfl⟩
 have n7:H7.next=H6.next+1:=by rw[hH7];rfl
 have o7:Over H6 H7:=by rw[hH7];exact .ext _ _
 have gA:H7.get H6.next=some (.arr 0 57 (ints la)):=by rw[hH7];exact cS
 have lM7:=ak ((o7.old _ (by omega)).trans gM6);have lD7:=ak ((o7.old _ (by omega)).trans gD6);rw[<- hH7];clear hH7;refine W.sq ?_;simp only[go_sem,c4,c5,lM7,lD7];refine aw.clo (ae.tD (args':=[aZ gm mm,da (af ns) xw]) aT rfl (fz2 _) (ED gm mm (af ns) xw fitM fitW _ _ ⟨trivial,?_⟩));rw[hLb'];simp only[go_sem,lb2,lb3];obtain⟨H8,hH8⟩:∃ H8,H8=ext H7 [.arr 0 57 (ints lb)]:=⟨_,rfl⟩
 have n8:H8.next=H7.next+1:=by rw[hH8];rfl
 have o8:Over H7 H8:=by rw[hH8];exact .ext _ _
 have gB:H8.get H7.next=some (.arr 0 57 (ints lb)):=by rw[hH8];exact cS
 have lN8:=ak ((o8.old _ (by omega)).trans ((o7.old _ (by omega)).trans gN6));have lM8:=ak ((o8.old _ (by omega)).trans ((o7.old _ (by omega)).trans gM6));have lD8:=ak ((o8.old _ (by omega)).trans ((o7.old _ (by omega)).trans gD6));have lA8:=ak ((o8.old _ (by omega)).trans gA);have lB8:=ak gB;refine W.en (fun E5=>E5 3=.ptr H2.next 0 0 /\ E5 4=.ptr H3.next 0 0 /\ E5 5=.ptr H4.next 0 0 /\ E5 15=.ptr H6.next 0 0 /\ E5 16=aa fe /\ E5 17=.ptr H7.next 0 0 /\ E5 18=aa ge) (by simp only[go_sem,c3,c4,c5]) fun E5 ⟨k3,k4,k5,k15,k16,k17,k18⟩=>?_
 rw[<- hH8];clear hH8;have v1:vX g ns gm mm (af ns) xw=.tup [aa (gh A B),aa 0]:=by
  unfold vX;rw[P4 hok,Vx hlm,Vx hlw,<- hA,<- hB]
 refine W.sq ?_;simp only[go_sem,k3,k4,k5,lN8,lM8,lD8];refine aw.clo (ae.tD (args':=[aZ g ns,aZ gm mm,da (af ns) xw]) aT rfl (fz3 _) (P5 g ns gm mm (af ns) xw fitN fitM fitW _ _ ⟨trivial,?_⟩));rw[v1];simp only[go_sem];refine W.sq ?_;simp only[go_sem];rcases hfe with ⟨pA,rfl,hA2⟩|⟨pA,rfl⟩
 ·rcases hge with ⟨pB,rfl,hB2⟩|⟨pB,rfl⟩
  ·refine W.sq ?_;simp only[go_sem,k16,k18];refine W.vs ?_;simp only[go_sem,k15,k17,lA8,lB8,la1,la2,lb1,lb2];refine aw.clo (Sr la lb hla hlb (by rw[hA2];exact(xh h6 (by omega)).2) (by rw[hB2];exact(xh (by omega) (by omega)).2) _ _ ⟨trivial,?_⟩);rw[hA2,hB2,UP hok mok hcd hfw (zA.1 pA) (zB.1 pB),<- hA,<- hB];simp only[go_sem];exact fin H8 (by omega)
  ·have hc1:gh A B=1:=(by unfold gh;rw[Vw (by omega),Vw (by omega)]);refine W.sq ?_;simp only[go_sem,k16,k18,hc1];exact fin H8 (by omega)
 ·rcases hge with ⟨pB,rfl,hB2⟩|⟨pB,rfl⟩
  ·have hc1:gh A B=-1:=(by unfold gh;rw[Vx (by omega)]);refine W.sq ?_;simp only[go_sem,k16,k18,hc1];exact fin H8 (by omega)
  ·have hc1:gh A B=0:=(by unfold gh;rw[Vw (by omega),Vx (by omega)]);refine W.sq ?_;simp only[go_sem,k16,k18,hc1];exact fin H8 (by omega)
end Go.Proofs
