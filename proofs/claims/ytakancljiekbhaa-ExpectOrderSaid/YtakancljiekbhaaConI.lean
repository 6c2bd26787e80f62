/- Own work: contracts. -/
import Derived.Test.YtakancljiekbhaaConH
import Derived.Test.YtakancljiekbhaaConE
set_option linter.all false
set_option maxRecDepth 100000
namespace Go.Proofs
open Go.Hx
set_option maxHeartbeats 8000000 in
theorem Ov (g0:Int)(ps:List DrP)(ord:List Int)(hg0:U8 g0)(hps:∀ x∈ps,x.Ok)(hpl:(ps.length:Int)<2 ^ 63)(hol:(ord.length:Int)<2 ^ 63)(ho8:∀ x∈ord,U8 x)
  (cw ca cr cn:Int) (hcw:U8 cw) (hca:U8 ca) (hcr:U8 cr) (ws ms:List Int) (hws:∀ x∈ws,0<=x/\x<65536) (hms:∀ x∈ms,0<=x/\x<256) (hwl:(ws.length:Int)<2 ^ 63) (hml:(ms.length:Int)<2 ^ 63)
  (bw ba bn:Int) (H:AHeap) (K:ARes->AHeap->Prop) (hK:∀ H',H.next<=H'.next->K (.ret (.lit (.bool true))) H'):
  ae Try.prog G0 7 [.agg (qY g0 ps ord cw ca cr cn ws ms bw ba bn)] H K:=by
 refine ae.cD (n:=145) (rs:=[.tmp 2]) Try.func7 rfl rfl rfl (by decide) (by simp) ?_;refine W.seq (ab _ _ _ (by rfl) ?_);simp only[go_sem,qY];obtain⟨H1,hH1⟩:∃ H1,H1=ext H [.arr 0 32 (qY g0 ps ord cw ca cr cn ws ms bw ba bn)]:=⟨_,rfl⟩
 have b0:H1.get H.next=some (.arr 0 32 [.lit (.int .u8 g0),.vec ps.length (fg ps),.vec ord.length (bA ord),.lit (.int .u8 cw),.lit (.int .u8 ca),.lit (.int .u8 cr),.lit (.int .i64 cn),.vec ws.length (jv ws),.vec ms.length (bA ms),.lit (.int .u8 bw),.lit (.int .u8 ba),.lit (.int .i64 bn)]):=by rw[hH1];exact dp ..
 have n1:H1.next=H.next+1:=by rw[hH1];rfl
 have o1:Over H H1:=by rw[hH1];exact .ext _ _
 refine W.env fun E hE=>?_;have e1:E 1=.ptr H.next 0 0:=by rw[hE];simp only[go_sem]
 clear hE;show W _ _ _ _ _ _ ⟨E,ext H [.arr 0 32 (qY g0 ps ord cw ca cr cn ws ms bw ba bn)]⟩;rw[<- hH1];clear hH1;have l0:=ak b0;refine W.seq (ab _ _ _ (by rfl) ?_);simp only[go_sem];refine aw.clo (Sq _ _ ⟨trivial,?_⟩);simp only[go_sem];refine W.seq (ab _ _ _ (by rfl) ?_);simp only[go_sem,e1,l0];refine aw.clo (QY g0 ps ord hg0 hps hpl hol ho8 _ _ fun g ns N H2 o2 hN1 hN2 hN hok hn5 hp3 hc2=>⟨trivial,?_⟩);simp only[go_sem];have o2n:=o2.next;have hob:(ext H2 [.arr 0 35 [.lit (.int .i64 g),.own N 0 0 ns.length 3]]).get H2.next=some (.arr 0 35 [.lit (.int .i64 g),.own N 0 0 ns.length 3]):=cu;refine W.Af (dv.dB aV (rk:=N) (ob:=H2.next) (cells':=[.lit (.int .i64 g),.vec ns.length (ar ns)]) hob (by omega) rfl (fun i hi _=>?_)) (Nat.le_refl _) trivial ?_
 ·match i,hi with
  | 0,_=>exact .lit _
  | 1,_=>exact .frz (cells:=ar ns) rfl (by show (ext H2 _).get N=_;rw[dF _ _ _ hN2];exact hN) (fD ns) fun j h1 h2 h3=>by simp only[Nat.zero_add];exact Nt ns _ (List.getElem_mem _)
 obtain⟨H3,hH3⟩:∃ H3,H3=(ext H2 [.arr 0 35 [.lit (.int .i64 g),.own N 0 0 ns.length 3]]).dB N H2.next (.arr 0 35 [.lit (.int .i64 g),.vec ns.length (ar ns)]):=⟨_,rfl⟩
 have n3:H3.next=H2.next+1:=by rw[hH3];rfl
 have g3:H3.get H.next=H1.get H.next:=by
  rw[hH3,pO (by omega) (by omega),dF _ _ _ (by omega)];exact o2.old _ (by omega)
 have gn:H3.get H2.next=some (.arr 0 35 [.lit (.int .i64 g),.vec ns.length (ar ns)]):=by rw[hH3];exact rI (by omega)
 refine W.env fun E1 hE1=>?_;have f1:E1 1=.ptr H.next 0 0:=by rw[hE1];simp only[go_sem,e1]
 have f3:E1 3=.ptr H2.next 0 0:=by rw[hE1];simp only[go_sem]
 clear hE1 e1;rw[<- hH3];clear hH3 hob;have ln:=ak gn;have ls:=ak (g3.trans b0);have nn8:=hok.n1.2;have nn1:=hok.n1.1;have sm:=Nu hok hp3;have h6:ns.length<=6:=by omega
 have hc4:∀ y∈ns,1<=y.card/\y.card<=4:=fun y hy=>(hok.node y hy).1;refine W.seq (ab _ _ _ (by rfl) ?_);simp only[go_sem,f1,f3,ls,ln];refine aw.clo (NM cw ca cr cn (by unfold U8 at hcw;omega) (by unfold U8 at hca;omega) (by unfold U8 at hcr;omega) g ns 600 (by omega) sm _ _ fun gm mm cm hB bS bQ bL=>⟨trivial,?_⟩);simp only[go_sem];obtain⟨H4,hH4⟩:∃ H4,H4=ext H3 [.arr 0 35 [.lit (.int .i64 gm),.vec mm.length cm]]:=⟨_,rfl⟩
 have n4:H4.next=H3.next+1:=by rw[hH4];rfl
 have o4:Over H3 H4:=by rw[hH4];exact .ext _ _
 have gM:H4.get H3.next=some (.arr 0 35 [.lit (.int .i64 gm),.vec mm.length cm]):=by rw[hH4];exact cu
 have ln4:=ak ((o4.old _ (by omega)).trans gn);have ls4:=ak ((o4.old _ (by omega)).trans (g3.trans b0));rw[<- hH4];clear hH4;refine W.seq (ab _ _ _ (by rfl) ?_);simp only[go_sem,f1,f3,ls4,ln4];refine aw.clo (Ns g ns hok.n1 hc4 hok.size ws ms hws hms hwl hml _ _ ⟨trivial,?_⟩);have hlik:=Oj hok hn5 hc2 ws ms;obtain⟨cs,hcs⟩:∃ cs,cs=au ns:=⟨_,rfl⟩
 obtain⟨xs,hxs⟩:∃ xs,xs=lY ns ws ms:=⟨_,rfl⟩
 rw[<- hcs,<- hxs]at hlik ⊢;have xl:xs.length<=12:=by rw[hxs];unfold lY;rw[List.length_map,List.length_range];omega
 obtain⟨_,dok,hca'⟩:=mW hlik;obtain⟨_,h40,hrow⟩:=mX hlik;have fitN:fj ns:=sm.fit (by omega);have fitM:fj mm:=bS.fit (by omega);have fitD:kL cs xs:=CU (by have:=dok.c1;omega) (by omega) fun r hr=>by rw[hrow r hr];omega
 simp only[go_sem,cO,aE];obtain⟨H5,hH5⟩:∃ H5,H5=ext H4 [.arr 0 42 [.vec cs.length (ints cs),.vec xs.length (xs.map af)]]:=⟨_,rfl⟩
 have n5:H5.next=H4.next+1:=by rw[hH5];rfl
 have o5:Over H4 H5:=by rw[hH5];exact .ext _ _
 have gD:H5.get H4.next=some (.arr 0 42 [.vec cs.length (ints cs),.vec xs.length (xs.map af)]):=by rw[hH5];exact cu
 have gN5:=(o5.old _ (by omega)).trans ((o4.old _ (by omega)).trans gn);have gM5:=(o5.old _ (by omega)).trans gM;refine W.env fun E2 hE2=>?_;have a3:E2 3=.ptr H2.next 0 0:=by rw[hE2];simp only[go_sem,f3]
 have a4:E2 4=.ptr H3.next 0 0:=by rw[hE2];simp only[go_sem]
 have a5:E2 5=.ptr H4.next 0 0:=by rw[hE2];simp only[go_sem]
 clear hE2;rw[<- hH5];clear hH5;have lD:=ak gD;refine W.cL (fun s'=>s'.ρ 3=.ptr H2.next 0 0/\s'.ρ 4=.ptr H3.next 0 0/\s'.ρ 5=.ptr H4.next 0 0/\∃ (b6:Nat) (sl:AVal),s'.ρ 6=.ptr b6 0 0/\Over H5 s'.H/\(H5.next<=b6/\b6<s'.H.next)/\s'.H.get b6=some (.arr 0 42 [.vec cs.length (ints cs),sl])/\((xs=[]/\sl=.vec 0 [])\/(∃ id,sl=.own id 1 0 xs.length 1/\H5.next<=id/\id≠b6/\s'.H.get id=some (.arr 1 39 (xs.map af))))) ?_ ?_
 ·by_cases hx0:xs=[]
  ·subst hx0;refine W.draw 7 [0,1,0,4,12,31,0] Try.mixed (by kernel_rfl) (by kernel_rfl) ?_;simp only[go_sem,a3,a4,a5,lD];refine⟨.vec 0 [],[],dx.pure (fun Hz=>Ot Hz _ ⟨rfl,rfl⟩),?_⟩;simp only[go_sem];exact⟨⟨fun _ h=>by omega,fun _ h=>by omega,fun _ h=>by omega,fun _ h=>by omega⟩,H5.next,_,rfl,.ext _ _,⟨by omega,by omega⟩,cu,.inl rfl⟩
  ·refine Ev.W.vt 7 [0,1,0,4,12,31,0] Try.mixed (by kernel_rfl) (by kernel_rfl) ?_;simp only[go_sem,a3,a4,a5,lD,CV,CW,CX,CY,ON,OO,C2];refine⟨_,_,_,_,Oq (by omega) (List.length_pos_iff.2 hx0),?_⟩;simp only[go_sem,C0,CZ];refine⟨⟨fun _ h=>by omega,fun _ h=>by omega⟩,⟨fun _ h=>by omega,fun _ h=>by omega,fun _ h=>by omega,fun _ h=>by omega⟩,H5.next+1,_,rfl,(Over.ext _ _).trans (.ext _ _),⟨by omega,by omega⟩,cu (H:=ext H5 [_]),.inr ⟨H5.next,rfl,Nat.le_refl _,by omega,?_⟩⟩;rw[dz (by rw[bI];simp)];exact cu
 rintro⟨E3,H6⟩ ⟨b3,b4,b5,b6,sl,q6,o6,hb6,g6,hsl⟩;simp only at b3 b4 b5 q6 o6 hb6 g6 hsl;have o6n:=o6.next;have l6:=ak g6;refine W.cL (fun s'=>s'.ρ 3=.ptr H2.next 0 0/\s'.ρ 4=.ptr H3.next 0 0/\s'.ρ 5=.ptr H4.next 0 0/\s'.ρ 6=.ptr b6 0 0/\Over H5 s'.H/\b6<s'.H.next/\∃ ys:List (List Int),ys.Perm xs/\s'.H.get b6=some (.arr 0 42 [.vec cs.length (ints cs),.vec ys.length (ys.map af)])) ?_ ?_
 ·rcases hsl with ⟨hx0,rfl⟩|⟨id,rfl,i1,i2,gi⟩
  ·refine ab _ _ _ (by rfl) ?_;simp only[go_sem,q6,l6];refine aw.clo (Ou _ _ ⟨trivial,?_⟩);simp only[go_sem,b3,b4,b5,q6];exact⟨o6,hb6.2,[],by rw[hx0],g6⟩
  ·refine W.rJ (Q':=fun e s'=>e=.normal/\s'.ρ 3=.ptr H2.next 0 0/\s'.ρ 4=.ptr H3.next 0 0/\s'.ρ 5=.ptr H4.next 0 0/\s'.ρ 6=.ptr b6 0 0/\∃ ys:List (List Int),ys.Perm xs/\s'.H=H6.upd id (.arr 1 39 (ys.map af))) ?_ ?_
   ·refine ab _ _ _ (by rfl) ?_;simp only[go_sem,q6,l6];refine aw.clo (On (by omega) H6 gi _ fun ys hys=>⟨trivial,?_⟩);simp only[go_sem,b3,b4,b5,q6];exact⟨ys,hys,rfl⟩
   ·rintro e ⟨ρ2,Hb⟩ ⟨rfl,r3,r4,r5,r6,ys,hys,hHb⟩;simp only at r3 r4 r5 r6 hHb;have gb6:Hb.get b6=some (.arr 0 42 [.vec cs.length (ints cs),.own id 1 0 xs.length 1]):=(by rw[hHb,ag,if_neg (fun e=>i2 e.symm)];exact g6);have gid:Hb.get id=some (.arr 1 39 (ys.map af)):=(by rw[hHb,ag,if_pos rfl]);have nb:Hb.next=H6.next:=(by rw[hHb,aA]);refine⟨⟨ρ2,Hb.dB id b6 (.arr 0 42 [.vec cs.length (ints cs),.vec ys.length (ys.map af)])⟩,dv.dB aV gb6 (fun e=>i2 e.symm) rfl (fun i hi _=>?_),Nat.le_refl _,trivial,rfl,r3,r4,r5,r6,⟨by show H5.next<=Hb.next;omega,fun k hk=>?_⟩,by show b6<Hb.next;omega,ys,hys,rI (fun e=>i2 e.symm)⟩
    ·match i,hi with
     | 0,_=>exact .dJ _
     | 1,_ =>
      have:=Fz.frz (S:=fun i=>i=id) (H:=Hb) (nx:=Hb.next) (o:=0) (l:=(ys.map af).length) (z:=1) (c':=ys.map af) rfl gid (Nat.mul_one _).symm fun j h1 h2 h3=>by simp only[Nat.zero_add,List.getElem_map];exact .dJ _
      rw[List.length_map]at this;rw[<- hys.length_eq];exact this
    ·show (Hb.dB _ _ _).get k=_;rw[pO (by omega) (by omega),hHb,ag,if_neg (by omega)];exact o6.old k hk
 rintro⟨E4,H7⟩ ⟨c3,c4,c5,c6,o7,hb7,ys,hys,g7⟩;simp only at c3 c4 c5 c6 o7 hb7 g7;have o7n:=o7.next;have lN:=ak ((o7.old _ (by omega)).trans gN5);have lM:=ak ((o7.old _ (by omega)).trans gM5);have lD:=ak ((o7.old _ (by omega)).trans gD);have lT:=ak g7;have fitY:kL cs ys:=CU (by have:=dok.c1;omega) (by rw[hys.length_eq];omega) fun r hr=>by rw[hrow r (hys.mem_iff.1 hr)];omega
 obtain⟨y1,hy1⟩:∃ y,y=(j5 g ns cs xs 0).1:=⟨_,rfl⟩
 obtain⟨y2,hy2⟩:∃ y,y=(j5 g ns cs xs 0).2:=⟨_,rfl⟩
 obtain⟨e,he⟩:∃ e,e=iW g ns cs xs 0:=⟨_,rfl⟩
 have he2:e=if iV ns xs=true then 0 else 7:=by
  rw[he];unfold iW;rw[if_neg (fun h=>h hlik),if_pos (CO hok)]
 have hy2f:fj y2:=by
  rw[hy2];unfold j5;split
  ·exact NC hok h6 ((uf hok).1 (CO hok)) (by omega) hrow fitN
  ·exact⟨by simp,fun x hx=>by cases hx⟩
 have z3:∀ L,(ext H7 L).live H2.next 0=_:=fun L=>(eP (by omega)).trans lN;have z6:∀ L,(ext H7 L).live b6 0=_:=fun L=>(eP (by omega)).trans lT;refine W.seq (ab _ _ _ (by rfl) ?_);simp only[go_sem,c3,c5,lN,lD];refine aw.clo (Cv g ns cs xs fitN fitD 0 _ _ ⟨trivial,?_⟩);rw[<- hy1,<- hy2,<- he];simp only[go_sem,aO,cM];refine W.seq (ab _ _ _ (by rfl) ?_);simp only[go_sem,c3,c6,z3,z6];refine aw.clo (Cv g ns cs ys fitN fitY 0 _ _ ⟨trivial,?_⟩);rw[CN g ns cs hys,Oh g ns cs hys,<- hy1,<- hy2,<- he];simp only[go_sem,aO,cM];obtain⟨H8,hH8⟩:∃ H8,H8=ext H7 [.arr 0 35 [.lit (.int .i64 y1),.vec y2.length (ar y2)],.arr 0 35 [.lit (.int .i64 y1),.vec y2.length (ar y2)]]:=⟨_,rfl⟩
 have n8:H8.next=H7.next+2:=by rw[hH8];rfl
 have o8:Over H7 H8:=by rw[hH8];exact .ext _ _
 have lA:H8.live H7.next 0=some (35,[.lit (.int .i64 y1),.vec y2.length (ar y2)]):=by rw[hH8];exact ak (dp ..)
 have lB:H8.live (H7.next+1) 0=some (35,[.lit (.int .i64 y1),.vec y2.length (ar y2)]):=by rw[hH8];exact ak (bg H7 _ 1 (by simp))
 refine W.env fun E5 hE5=>?_;have d3:E5 3=.ptr H2.next 0 0:=by rw[hE5];simp only[go_sem,c3]
 have d4:E5 4=.ptr H3.next 0 0:=by rw[hE5];simp only[go_sem,c4]
 have d5:E5 5=.ptr H4.next 0 0:=by rw[hE5];simp only[go_sem,c5]
 have d6:E5 6=.ptr b6 0 0:=by rw[hE5];simp only[go_sem,c6]
 have d7:E5 7=.ptr H7.next 0 0:=by rw[hE5];simp only[go_sem]
 have d8:E5 8=aa e:=by rw[hE5];simp only[go_sem]
 have d9:E5 9=.ptr (H7.next+1) 0 0:=by rw[hE5];simp only[go_sem]
 have d10:E5 10=aa e:=by rw[hE5];simp only[go_sem]
 clear hE5;rw[<- hH8];clear hH8;refine W.cL (fun s'=>s'.ρ 3=.ptr H2.next 0 0/\s'.ρ 4=.ptr H3.next 0 0/\s'.ρ 5=.ptr H4.next 0 0/\s'.ρ 6=.ptr b6 0 0/\s'.ρ 8=aa e/\Over H8 s'.H) ?_ ?_
 ·have e07:e=0\/e=7:=by rw[he2];split<;>simp
  refine ab _ _ _ (by rfl) ?_;rcases e07 with h0|h0
  ·rw[h0]at d8 d10;simp only[go_sem,d7,d8,d9,d10,lA,lB];refine aw.clo (Es y1 y2 hy2f _ _ ⟨trivial,?_⟩);simp only[go_sem,d3,d4,d5,d6,d8];exact⟨by rw[h0],.refl _⟩
  ·rw[h0]at d8 d10;simp only[go_sem,d7,d8,d9,d10,lA,lB];refine aw.clo (Es y1 y2 hy2f _ _ ⟨trivial,?_⟩);simp only[go_sem,d3,d4,d5,d6,d8];exact⟨by rw[h0],.refl _⟩
 clear d3 d4 d5 d6 d7 d8 d9 d10;rintro⟨E6,H9⟩ ⟨d3,d4,d5,d6,d8,o9⟩;simp only at d3 d4 d5 d6 d8 o9;have o9n:=o9.next;have o79:=o8.trans o9;have lN:=ak ((o79.old _ (by omega)).trans ((o7.old _ (by omega)).trans gN5));have lM:=ak ((o79.old _ (by omega)).trans ((o7.old _ (by omega)).trans gM5));have lD:=ak ((o79.old _ (by omega)).trans ((o7.old _ (by omega)).trans gD));have lT:=ak ((o79.old _ (by omega)).trans g7);have fin:∀ Hx,H9.next<=Hx.next->av Try.prog G0 H K (.lit (.bool true)) Hx:=fun Hx h=>av.mk (by have:=o1.next;have:=o4.next;have:=o5.next;omega) (hK Hx (by have:=o1.next;have:=o4.next;have:=o5.next;omega));have fzM:∀ (Hq:AHeap) (i:Nat) (h:i<[AVal.agg [.lit (.int .i64 gm),.vec mm.length cm]].length) (h':i<[aO gm mm].length),Fz (fun _=>False) Hq Hq.next [AVal.agg [.lit (.int .i64 gm),.vec mm.length cm]][i] [aO gm mm][i]:=fun Hq i h h' =>
  match i,h with
  | 0,_=>yB bQ gm
 have pR:∀ Hz,ae Try.prog G0 30 [.agg [.lit (.int .i64 gm),.vec mm.length cm]] Hz fun r H'=>r=.ret (.lit (.bool (fJ gm mm)))/\H'=Hz:=fun Hz=>ae.rK (args':=[aO gm mm]) aV rfl (fzM _) (RE gm mm fitM Hz _ ⟨rfl,rfl⟩);have pC:∀ Hz,ae Try.prog G0 31 [.agg [.lit (.int .i64 gm),.vec mm.length cm]] Hz fun r H'=>r=.ret (af (au mm))/\H'=Hz:=fun Hz=>ae.rK (args':=[aO gm mm]) aV rfl (fzM _) (nC gm mm (by have:=fitM.1;omega) Hz _ ⟨rfl,rfl⟩);have pN:∀ Hz,ae Try.prog G0 31 [.agg [.lit (.int .i64 g),.vec ns.length (ar ns)]] Hz fun r H'=>r=.ret (af (au ns))/\H'=Hz:=fun Hz=>nC g ns (by omega) Hz _ ⟨rfl,rfl⟩;have cl9:((au ns).length:Int)<2 ^ 62:=by rw[cG];omega
 refine W.seq (W.seq ?_);cases hR:fJ gm mm
 ·refine W.draw 7 [0,1,3,7,15,31,15] Try.mixed (by kernel_rfl) (by kernel_rfl) ?_;simp only[go_sem,d4,lM];refine⟨_,[],dx.pure pR,?_⟩;rw[hR];simp only[go_sem,d4];refine ab _ _ _ (by rfl) ?_;simp only[go_sem];exact fin H9 (Nat.le_refl _)
 by_cases hcd:au ns=au mm;rotate_left
 ·refine W.draw 7 [0,1,3,7,15,31,15] Try.mixed (by kernel_rfl) (by kernel_rfl) ?_;simp only[go_sem,d4,lM];refine⟨_,[],dx.pure pR,?_⟩;rw[hR];simp only[go_sem,d3,d4,lN,lM];refine⟨_,[],dx.pure pN,?_⟩;simp only[go_sem];refine aw.clo ((pC H9).mono ?_);rintro rr Hq ⟨hr,hH⟩;rw[hr,hH];refine⟨trivial,?_⟩;simp only[go_sem];refine aw.clo (Eh (au ns) (au mm) cl9 _ _ ⟨trivial,?_⟩);rw[decide_eq_false hcd];simp only[go_sem];refine ab _ _ _ (by rfl) ?_;simp only[go_sem];exact fin H9 (Nat.le_refl _)
 refine W.draw 7 [0,1,3,7,15,31,15] Try.mixed (by kernel_rfl) (by kernel_rfl) ?_;simp only[go_sem,d4,lM];refine⟨_,[],dx.pure pR,?_⟩;rw[hR];simp only[go_sem,d3,d4,lN,lM];refine⟨_,[],dx.pure pN,?_⟩;simp only[go_sem];refine aw.clo ((pC H9).mono ?_);rintro rr Hq ⟨hr,hH⟩;rw[hr,hH];refine⟨trivial,?_⟩;simp only[go_sem];refine aw.clo (Eh (au ns) (au mm) cl9 _ _ ⟨trivial,?_⟩);rw[decide_eq_true hcd];simp only[go_sem];refine ab _ _ _ (by rfl) ?_;simp only[go_sem];have mok:=zg.1 hR;have hlm:dU gm mm cs xs=0:=by unfold dU;rw[if_pos hR,if_pos (yw dok),if_pos (by rw[<- hcd,hcs])]
 obtain⟨m6,_,mrow⟩:=mX hlm;refine W.env fun E7 hE7=>?_;have k3:E7 3=.ptr H2.next 0 0:=by rw[hE7];simp only[go_sem,d3]
 have k4:E7 4=.ptr H3.next 0 0:=by rw[hE7];simp only[go_sem,d4]
 have k5:E7 5=.ptr H4.next 0 0:=by rw[hE7];simp only[go_sem,d5]
 have k6:E7 6=.ptr b6 0 0:=by rw[hE7];simp only[go_sem,d6]
 have k8:E7 8=aa e:=by rw[hE7];simp only[go_sem,d8]
 clear hE7;obtain⟨a,ha⟩:∃ q,q=fC ns gm mm xs:=⟨_,rfl⟩
 obtain⟨b,hb⟩:∃ q,q=fC mm g ns xs:=⟨_,rfl⟩
 obtain⟨c,hc⟩:∃ q,q=eY a b:=⟨_,rfl⟩
 have hback:eY b a=-c:=by rw[hc,Nx b a]
 have cr:-1<=c/\c<=1:=by rw[hc];unfold eY;split<;>(try split)<;>omega
 have fz3:∀ (Hq:AHeap) (i:Nat) (h:i<[AVal.agg [.lit (.int .i64 g),.vec ns.length (ar ns)],AVal.agg [.lit (.int .i64 gm),.vec mm.length cm],.agg [.vec cs.length (ints cs),.vec xs.length (xs.map af)]].length) (h':i<[aO g ns,aO gm mm,cO cs xs].length),Fz (fun _=>False) Hq Hq.next [AVal.agg [.lit (.int .i64 g),.vec ns.length (ar ns)],AVal.agg [.lit (.int .i64 gm),.vec mm.length cm],.agg [.vec cs.length (ints cs),.vec xs.length (xs.map af)]][i] [aO g ns,aO gm mm,cO cs xs][i]:=fun Hq i h h' =>
  match i,h with
  | 0,_=>.agg rfl fun i hi _=>match i,hi with
   | 0,_=>.lit _
   | 1,_=>pK _
  | 1,_=>yB bQ gm
  | 2,_=>yy (.dJ _) (pE xs)
 have fz4:∀ (Hq:AHeap) (i:Nat) (h:i<[AVal.agg [.lit (.int .i64 gm),.vec mm.length cm],AVal.agg [.lit (.int .i64 g),.vec ns.length (ar ns)],.agg [.vec cs.length (ints cs),.vec xs.length (xs.map af)]].length) (h':i<[aO gm mm,aO g ns,cO cs xs].length),Fz (fun _=>False) Hq Hq.next [AVal.agg [.lit (.int .i64 gm),.vec mm.length cm],AVal.agg [.lit (.int .i64 g),.vec ns.length (ar ns)],.agg [.vec cs.length (ints cs),.vec xs.length (xs.map af)]][i] [aO gm mm,aO g ns,cO cs xs][i]:=fun Hq i h h' =>
  match i,h with
  | 1,_=>.agg rfl fun i hi _=>match i,hi with
   | 0,_=>.lit _
   | 1,_=>pK _
  | 0,_=>yB bQ gm
  | 2,_=>yy (.dJ _) (pE xs)
 have v1:l8 g ns gm mm cs xs=.tup [aa c,aa 0]:=by
  unfold l8;rw[uo hok,if_pos hlm,if_pos hlik,<- ha,<- hb,<- hc]
 have v2:l8 gm mm g ns cs xs=.tup [aa (-c),aa 0]:=by
  unfold l8;rw[uo mok,if_pos hlik,if_pos hlm,<- ha,<- hb,hback]
 have v3:l8 g ns g ns cs ys=.tup [aa 0,aa 0]:=by
  unfold l8;rw[uo hok,CM g ns cs hys,if_pos hlik,if_pos hlik,Cn]
 obtain⟨k,hk⟩:∃ k,k=if iV ns xs=true then ma a (b*1000) else 0:=⟨_,rfl⟩
 have v4:ur g ns gm mm cs xs=.tup [aa k,aa e]:=by
  unfold ur;rw[uo hok,if_pos hlm,if_pos hlik,<- ha,<- hb,he2,hk];split<;>rfl
 have kr:k<=1000000:=by rw[hk];unfold ma;split<;>omega
 have w5:=IntWalk.i64_in (-(-c)) (by omega);refine W.seq (ab _ _ _ (by rfl) ?_);simp only[go_sem,k3,k4,k5,lN,lM,lD];refine aw.clo (ae.rK (args':=[aO g ns,aO gm mm,cO cs xs]) aV rfl (fz3 _) (yq g ns gm mm cs xs fitN fitM fitD _ _ ⟨trivial,?_⟩));rw[v1];simp only[go_sem];refine W.seq (ab _ _ _ (by rfl) ?_);simp only[go_sem,k3,k4,k5,lN,lM,lD];refine aw.clo (ae.rK (args':=[aO gm mm,aO g ns,cO cs xs]) aV rfl (fz4 _) (yq gm mm g ns cs xs fitM fitN fitD _ _ ⟨trivial,?_⟩));rw[v2];simp only[go_sem];refine W.seq (ab _ _ _ (by rfl) ?_);simp only[go_sem,k3,k6,lN,lT];refine aw.clo (yq g ns g ns cs ys fitN fitN fitY _ _ ⟨trivial,?_⟩);rw[v3];simp only[go_sem];refine W.seq (ab _ _ _ (by rfl) ?_);simp only[go_sem,k3,k4,k5,lN,lM,lD];refine aw.clo (ae.rK (args':=[aO g ns,aO gm mm,cO cs xs]) aV rfl (fz3 _) (Ob g ns gm mm cs xs fitN fitM fitD _ _ ⟨trivial,?_⟩));rw[v4];simp only[go_sem];refine W.env fun E8 hE8=>?_;have m8:E8 8=aa e:=by rw[hE8];simp only[go_sem,k8]
 have m11:E8 11=aa c:=by rw[hE8];simp only[go_sem]
 have m12:E8 12=aa 0:=by rw[hE8];simp only[go_sem]
 have m13:E8 13=aa (-c):=by rw[hE8];simp only[go_sem]
 have m14:E8 14=aa 0:=by rw[hE8];simp only[go_sem]
 have m15:E8 15=aa 0:=by rw[hE8];simp only[go_sem]
 have m16:E8 16=aa 0:=by rw[hE8];simp only[go_sem]
 have m17:E8 17=aa k:=by rw[hE8];simp only[go_sem]
 have m18:E8 18=aa e:=by rw[hE8];simp only[go_sem]
 clear hE8;have wn:IntKind.i64.wrap (0 - -c)=c:=by rw[show 0 - -c=c by omega];exact IntWalk.i64_in c (by omega)
 refine W.seq (ab _ _ _ (by rfl) ?_);simp only[go_sem,m8,m11,m12,m13,m14,m15,m16,m18,wn];refine ab _ _ _ (by rfl) ?_;cases hP:iV ns xs
 ·rw[hP,if_neg (by decide)]at he2;rw[he2]at m18;simp only[go_sem,m18];exact fin H9 (Nat.le_refl _)
 rw[hP,if_pos rfl]at he2;rw[he2]at m18;rw[hP,if_pos rfl]at hk;have hpos:0<a:=by
  rw[ha];refine CK hok mok.g1.1 mm hrow ?_;unfold iV at hP;exact of_decide_eq_true hP
 have hkc:1000<=k↔c<=0:=by rw[hk,Ol hpos,hc,CL]
 have eb:∀ (x y:Operand) (p:Bool),aQ Try.prog .eql 4 x y (.lit (.bool p)) (.lit (.bool p))=some (.lit (.bool true)):=fun x y p=>by rw[R01.Q1 Try.underlying4];simp
 by_cases hc0:c<=0
 ·have hk0:(k:Int) >= 1000:=by have:=hkc.2 hc0;omega
  simp only[go_sem,m11,m17,m18,hc0,hk0,eb];exact fin H9 (Nat.le_refl _)
 ·have hk0:¬ (k:Int) >= 1000:=fun h=>hc0 (hkc.1 (by omega));simp only[go_sem,m11,m17,m18,hc0,hk0,eb];exact fin H9 (Nat.le_refl _)
end Go.Proofs
