/- Own work: contracts. -/
import Derived.Test.YteolcdbjdgimhaaConC
import Derived.Test.YteolcdbjdgimhaaConB
import Derived.Test.YteolcdbjdgimhaaProg
import Derived.Test.YteolcdbjdgimhaaLibC
import Derived.Test.YteolcdbjdgimhaaConA
set_option linter.all false
set_option linter.unusedSimpArgs false
set_option maxRecDepth 100000
namespace Go.Proofs
open Go.Hx
def cellN (b:Option Blk):Nat:=match b with
 | some (.arr _ _ [.lit (.int _ n)])=>n.toNat
 | _=>0
set_option maxHeartbeats 8000000 in
theorem improve_spec (d:InfP)(hok:InfOk d)(h6:d.nodes.length≤6)(p:List (List Int))(hp:PolOk d p)(H:AHeap)(K:ARes→AHeap→Prop)
  (hK:∀ q n,Imp d p q n→isLocal d q→K (.ret (.tup [vecV q,ratioV (sumP d q) (d.grain ^ d.nodes.length),lin n,lin 0])) H):
  ACall Try.prog G0 10 [infV d,vecV p] H K:=by
 refine ACall.clo ⟨_,Try.func10,rfl,rfl⟩ fun hcl=>?_
 have hf:=fit_ok hok
 have hpf:=polFit_ok hok hp
 have n8:=hok.n.n1
 have hpl:p.length≤8:=by rw[hp.len];have:=decK_len (D:=d.decs) (n:=d.nodes.length);unfold decL;omega
 refine ACall.of_body (n:=76) (rs:=[.cell 4 36,.cell 5 42,.cell 6 3,.cell 7 38]) Try.func10 rfl rfl rfl (by decide) (by kernel_rfl) (by simp) ?_
 simp only[go_sem,infV_eq,infC]
 refine AApply.clo (checkPolicy_spec d hf p hpf _ _ ⟨trivial,?_⟩)
 rw[polErr_ok hok hp]
 simp only[go_sem,vecV]
 obtain⟨R,hR⟩:∃ R,R=ext H [.arr 0 34 [.lit (.int .i64 d.grain),.vec d.nodes.length (nodesC d.nodes),.lit (.int .u64 (d.decs:Int)),.vec d.utils.length (utilsC d.utils)],.arr 0 36 [.lit (.slice none 0 0)],.arr 0 42 [.lit (.int .i64 0),.lit (.int .i64 0)],.arr 0 3 [.lit (.int .i64 0)],.arr 0 38 [.lit (.int .i64 0)]]:=⟨_,rfl⟩
 have nR:R.next=H.next+5:=by rw[hR];rfl
 have oR:Over H R:=by rw[hR];exact .ext _ _
 have g0:R.get H.next=some (infB d):=by rw[hR];exact get_ext H _ 0 (by simp)
 have g1:R.get (H.next+1)=some (.arr 0 36 [.lit (.slice none 0 0)]):=by rw[hR];exact get_ext H _ 1 (by simp)
 have g2:R.get (H.next+2)=some (.arr 0 42 [.lit (.int .i64 0),.lit (.int .i64 0)]):=by rw[hR];exact get_ext H _ 2 (by simp)
 have g3:R.get (H.next+3)=some (.arr 0 3 [.lit (.int .i64 0)]):=by rw[hR];exact get_ext H _ 3 (by simp)
 have g4:R.get (H.next+4)=some (.arr 0 38 [.lit (.int .i64 0)]):=by rw[hR];exact get_ext H _ 4 (by simp)
 rw[← hR]
 refine W.env fun E hE=>?_
 have e2:E 2=.ptr H.next 0 0:=by rw[hE];simp only[go_sem]
 have e4:E 4=.ptr (H.next+1) 0 0:=by rw[hE];simp only[go_sem]
 have e5:E 5=.ptr (H.next+2) 0 0:=by rw[hE];simp only[go_sem]
 have e6:E 6=.ptr (H.next+3) 0 0:=by rw[hE];simp only[go_sem]
 have e7:E 7=.ptr (H.next+4) 0 0:=by rw[hE];simp only[go_sem]
 have e24:E 24=.vec p.length (p.map vecI):=by rw[hE];simp only[go_sem]
 have e25:E 25=lin p.length:=by rw[hE];simp only[go_sem]
 have e26:E 26=lin 0:=by rw[hE];simp only[go_sem]
 clear hE
 let S:AHeap→Prop:=fun Hx=>R.next≤Hx.next∧∀ id,id<R.next→id≠H.next+1→id≠H.next+3→Hx.get id=R.get id
 refine W.loop0 68652368896 (by rfl) (fun ρ Hx=>∃ k:Nat,ρ 26=lin k∧k≤p.length∧S Hx∧Hx.get (H.next+3)=some (.arr 0 3 [.lit (.int .i64 0)])∧∃ qv,Hx.get (H.next+1)=some (.arr 0 36 [qv])∧OwnG R.next Hx 52 qv ((p.take k).map vecI)) (fun ρ H=>p.length - (iv (ρ 26)).toNat) ?_ ?_
 ·simp only[go_sem,e26]
  exact⟨0,rfl,by omega,⟨Nat.le_refl _,fun _ _ _ _=>rfl⟩,g3,_,g1,.nil⟩
 rintro ρ Hx ⟨k,h26,hk,hS,hx3,qv,hx1,hq⟩
 refine W.env fun E2 hE2=>?_
 have p2:E2 2=.ptr H.next 0 0:=by rw[hE2];simp only[go_sem,e2]
 have p4:E2 4=.ptr (H.next+1) 0 0:=by rw[hE2];simp only[go_sem,e4]
 have p5:E2 5=.ptr (H.next+2) 0 0:=by rw[hE2];simp only[go_sem,e5]
 have p6:E2 6=.ptr (H.next+3) 0 0:=by rw[hE2];simp only[go_sem,e6]
 have p7:E2 7=.ptr (H.next+4) 0 0:=by rw[hE2];simp only[go_sem,e7]
 have p24:E2 24=.vec p.length (p.map vecI):=by rw[hE2];simp only[go_sem,e24]
 have p25:E2 25=lin p.length:=by rw[hE2];simp only[go_sem,e25]
 have p26:E2 26=lin k:=by rw[hE2];simp only[go_sem,h26]
 clear hE2
 have hSn:=hS.1
 refine vc_sound _ _ _ (by rfl) ?_
 by_cases hb:(k:Int)<p.length
 ·obtain⟨l,hl⟩:=get_of_lt (l:=p) (i:=k) (by omega)
  have hlg:(p.map vecI)[k]?=some (vecI l):=by rw[List.getElem?_map,hl];rfl
  have hne:=ne_of_get hl
  have hll:=(hpf.2 l (List.mem_of_getElem? hl))
  have w1:=IntWalk.i64_in ((k:Int)+1) (by omega)
  obtain⟨qv',H2,hA,hO,hn2,hp2⟩:=app_oneG (P:=Try.prog) (H:=Hx) (t:=36) (x:=vecI l) (n:=Hx.next+1) Try.underlying36 Try.cells52 Try.zero52 rfl (by rw[Try.bytes52,List.length_map,List.length_take];omega) hq hSn rfl
  have hqlo:∀ i,i<R.next→∀ g n,qv≠.own i g 0 n 1:=fun i hi g n he=>by
   rcases hq with ⟨h,_⟩|⟨j,g2,a1,_,h,_⟩
   ·rw[h]at he;cases he
   ·rw[h]at he;have:=(AVal.own.inj he).1;omega
  have l1:=get_live hx1
  have l1j:H2.live (H.next+1) 0=_:=get_live ((hp2 _ (by omega) (hqlo _ (by omega))).trans hx1)
  have hA':=hA
  unfold vecI at hA'
  have tc:=hO.cells
  have to:=hO.one
  have qc:=hq.cells
  simp only[go_sem,p24,p25,p26,hb,hlg,hne]
  refine W.draw 4 [0,0,2,6] Try.mixed (by kernel_rfl) (by kernel_rfl) ?_
  simp only[go_sem,p4,l1]
  refine⟨vecI l,[],PCall.pure fun H2=>clone_spec l (by omega) H2 _ ⟨rfl,rfl⟩,?_⟩
  simp only[go_sem,p4,p26,hA',l1j,tc,to,w1]
  refine⟨fun x h=>by omega,by rw[upd_next];omega,⟨k+1,by simp,by omega,⟨by rw[upd_next];omega,fun id h1 h2 h3=>by rw[upd_get,if_neg h2,hp2 id (by omega) (hqlo id h1)];exact hS.2 id h1 h2 h3⟩,by rw[upd_get,if_neg (by omega),hp2 _ (by omega) (hqlo _ (by omega))];exact hx3,qv',by rw[upd_get,if_pos rfl],?_⟩,by rw[h26];simp only[lin,iv_int];omega⟩
  rw[take_succ_get hl,List.map_append]
  exact hO.keep (Nat.le_refl _) (by rw[upd_next];exact Nat.le_refl _) fun id g h1 _ _ _=>by rw[upd_get,if_neg (by omega)]
 ·simp only[go_sem,p25,p26,hb]
  rw[List.take_of_length_le (by omega)]at hq
  refine W.env fun E3 hE3=>?_
  have r2:E3 2=.ptr H.next 0 0:=by rw[hE3];simp only[go_sem,p2]
  have r4:E3 4=.ptr (H.next+1) 0 0:=by rw[hE3];simp only[go_sem,p4]
  have r5:E3 5=.ptr (H.next+2) 0 0:=by rw[hE3];simp only[go_sem,p5]
  have r6:E3 6=.ptr (H.next+3) 0 0:=by rw[hE3];simp only[go_sem,p6]
  have r7:E3 7=.ptr (H.next+4) 0 0:=by rw[hE3];simp only[go_sem,p7]
  clear hE3
  refine W.loop0 8646911490709784576 (by rfl) (fun ρ Hy=>∃ (n:Nat) (q:List (List Int)) (qv:AVal),Hx.next≤Hy.next∧S Hy∧Hy.get (H.next+3)=some (.arr 0 3 [.lit (.int .i64 (n:Int))])∧Hy.get (H.next+1)=some (.arr 0 36 [qv])∧OwnG R.next Hy 52 qv (q.map vecI)∧Imp d p q n) (fun ρ Hy=>50000000000000000 - cellN (Hy.get (H.next+3))) ?_ ?_
  ·exact⟨0,p,qv,Nat.le_refl _,hS,hx3,hx1,hq,.start hp⟩
  rintro ρ Hy ⟨n,q,qv,hxy,hS,hy3,hy1,hq,hI⟩
  have hSn:=hS.1
  refine W.env fun E4 hE4=>?_
  have s2:E4 2=.ptr H.next 0 0:=by rw[hE4];simp only[go_sem,r2]
  have s4:E4 4=.ptr (H.next+1) 0 0:=by rw[hE4];simp only[go_sem,r4]
  have s5:E4 5=.ptr (H.next+2) 0 0:=by rw[hE4];simp only[go_sem,r5]
  have s6:E4 6=.ptr (H.next+3) 0 0:=by rw[hE4];simp only[go_sem,r6]
  have s7:E4 7=.ptr (H.next+4) 0 0:=by rw[hE4];simp only[go_sem,r7]
  clear hE4
  have l0:=get_live ((hS.2 H.next (by omega) (by omega) (by omega)).trans g0)
  unfold infC at l0
  have l0e:∀ L,(ext Hy L).live H.next 0=_:=fun L=>(ext_live_old (by omega)).trans l0
  refine vc_sound _ _ _ (by rfl) ?_
  simp only[go_sem,s2,l0e]
  refine AApply.clo (lists_clo d _ _ ⟨trivial,?_⟩)
  simp only[go_sem]
  obtain⟨R',hR'⟩:∃ R',R'=ext (ext Hy [.arr 0 4 [.lit (.bool false)]]) [infB d]:=⟨_,rfl⟩
  have nR':R'.next=Hy.next+2:=by rw[hR'];rfl
  have oR':Over Hy R':=by rw[hR'];exact(Over.ext _ _).trans (.ext _ _)
  have gr:R'.get Hy.next=some (.arr 0 4 [.lit (.bool false)]):=by rw[hR',ext_ext];exact get_ext Hy _ 0 (by simp)
  have gx:R'.get (Hy.next+1)=some (infB d):=by rw[hR',ext_ext];exact get_ext Hy _ 1 (by simp)
  rw[← hR']
  have hqlt:∀ i g m,qv=.own i g 0 m 1→R.next≤i∧i<Hy.next:=fun i g m he=>by
   rcases hq with ⟨h,_⟩|⟨j,g2,a1,a2,h,_⟩
   ·rw[h]at he;cases he
   ·rw[h]at he;have:=(AVal.own.inj he).1;omega
  have hqR:∀ i,i<R.next→∀ g m,qv≠.own i g 0 m 1:=fun i hi g m he=>by have:=hqlt i g m he;omega
  have hqN:∀ i,Hy.next≤i→∀ g m,qv≠.own i g 0 m 1:=fun i hi g m he=>by have:=hqlt i g m he;omega
  refine W.env fun E5 hE5=>?_
  have u2:E5 2=.ptr H.next 0 0:=by rw[hE5];simp only[go_sem,s2]
  have u4:E5 4=.ptr (H.next+1) 0 0:=by rw[hE5];simp only[go_sem,s4]
  have u5:E5 5=.ptr (H.next+2) 0 0:=by rw[hE5];simp only[go_sem,s5]
  have u6:E5 6=.ptr (H.next+3) 0 0:=by rw[hE5];simp only[go_sem,s6]
  have u7:E5 7=.ptr (H.next+4) 0 0:=by rw[hE5];simp only[go_sem,s7]
  have u11:E5 11=.ptr Hy.next 0 0:=by rw[hE5];simp only[go_sem]
  have u37:E5 37=.clo 55 [] [.ptr (Hy.next+1) 0 0]:=by rw[hE5];rfl
  clear hE5
  refine W.rangeIt (f:=55) (first:=[]) (cap:=[.ptr (Hy.next+1) 0 0]) (by show E5 37=_;exact u37) (lists_it d (by omega) hf.decs (Hy.next+1))
   (fun k Hz=>R'.next≤Hz.next∧(∀ id,id<R'.next→id≠Hy.next→(∀ g m,qv≠.own id g 0 m 1)→Hz.get id=R'.get id)∧∃ b r,Hz.get Hy.next=some (.arr 0 4 [.lit (.bool b)])∧OwnG R.next Hz 52 qv (r.map vecI)∧Rnd d q k b r)
   (fun c Hz=>False)
   (fun k Hz h=>by rw[h.2.1 _ (by omega) (by omega) (hqN _ (by omega))];exact gx)
   (fun k Hz b h=>⟨h.1,fun id h1 h2 h3=>by rw[upd_get,if_neg (by omega)];exact h.2.1 id h1 h2 h3,by
    obtain⟨b',r,a1,a2,a3⟩:=h.2.2
    exact⟨b',r,by rw[upd_get,if_neg (by omega)];exact a1,a2.keep (Nat.le_refl _) (by rw[upd_next];exact Nat.le_refl _) fun id g _ _ _ he=>by have:=hqlt _ _ _ he;rw[upd_get,if_neg (by omega)],a3⟩⟩)
   (fun c Hz b h=>h)
   (fun b=>⟨by rw[ext_next];omega,fun id h1 h2 h3=>ext1_get_old h1,false,q,by rw[ext1_get_old (by omega)];exact gr,(hq.over oR').over (.ext _ _),.start hI.ok⟩)
   (by decide) decX_two (fun _ _ _=>trivial) (fun _ _ _=>trivial) (fun k y Hz B Bb hy hj hn hB hBb=>?_) (fun Hz hj hn=>?_) (fun Hz hs hn=>hs.elim) (fun i Hz hs hn=>hs.elim)
  ·obtain⟨v,hv,rfl⟩:=decX_get hy
   have hvm:v∈decL d:=List.mem_of_getElem? hv
   obtain⟨v1,v2,v3⟩:=decK_place hv
   obtain⟨hzn,hzo,b,r,hzr,hzq,hRn⟩:=hj
   refine vc_sound _ _ _ (by rfl) ?_
   simp only[go_sem,setPs,envN,asgIt,List.foldl_cons,List.foldl_nil,List.zip_cons_cons,List.zip_nil_right,hB]
   obtain⟨H3,hH3⟩:∃ H3,H3=Hz.upd R'.next Bb:=⟨_,rfl⟩
   rw[← hH3]
   obtain⟨st,pd,n',en,ps',as',bo,hBe⟩:=hBb
   have n3:H3.next=Hz.next:=by rw[hH3];rfl
   have o3:∀ id,id≠R'.next→H3.get id=Hz.get id:=fun id h=>by rw[hH3,upd_get,if_neg h]
   have jB:H3.get R'.next=some Bb:=by rw[hH3,upd_get,if_pos rfl]
   have kold:∀ id,id<R.next→id≠H.next+3→H3.get id=Hy.get id:=fun id h h2=>by rw[o3 _ (by omega),hzo _ (by omega) (by omega) (hqR _ h),oR'.old _ (by omega)]
   have j0:=get_live ((kold H.next (by omega) (by omega)).trans ((hS.2 H.next (by omega) (by omega) (by omega)).trans g0))
   have j1:=get_live ((kold (H.next+1) (by omega) (by omega)).trans hy1)
   have jr:=get_live ((o3 _ (by omega)).trans hzr)
   unfold infC at j0
   have hq3:OwnG R.next H3 52 qv (r.map vecI):=hzq.keep (Nat.le_refl _) (by omega) fun id g _ _ _ he=>by have:=hqlt _ _ _ he;exact o3 id (by omega)
   have hpr:=place_lt hRn.ok hvm
   obtain⟨id,g,hqv,i1,i2,i3,i4⟩:=hq3.storeG (k:=k) (by rw[List.length_map,← v3];exact hpr)
   have hidy:=hqlt _ _ _ hqv
   rw[List.length_map]at hqv
   refine W.env fun E6 hE6=>?_
   have m2:E6 2=.ptr H.next 0 0:=by rw[hE6];simp only[go_sem,envN,u2]
   have m4:E6 4=.ptr (H.next+1) 0 0:=by rw[hE6];simp only[go_sem,envN,u4]
   have m11:E6 11=.ptr Hy.next 0 0:=by rw[hE6];simp only[go_sem,envN,u11]
   have m12:E6 12=lin k:=by rw[hE6];simp only[go_sem,envN]
   have m13:E6 13=lin v:=by rw[hE6];simp only[go_sem,envN]
   clear hE6
   refine vc_sound _ _ _ (by rfl) ?_
   simp only[go_sem,m2,m4,m12,m13,j0,j1]
   have hbf:=bestList_frame d hok hf h6 r hRn.ok (polFit_ok hok hRn.ok) v hvm H3 R.next qv hq3
   rw[v3]at hbf
   refine AApply.clo (hbf _ ⟨⟨st,pd,n',en,ps',as',bo,by rw[jB,hBe]⟩,?_⟩)
   by_cases hbest:isBest d r v
   ·rw[decide_eq_true hbest]
    simp only[go_sem,bodyIt]
    exact⟨jB,by omega,by omega,fun id h1 h2 h3=>(o3 _ (by omega)).trans (hzo id h1 h2 h3),b,r,(o3 _ (by omega)).trans hzr,hq3,hRn.best hv hbest⟩
   ·rw[decide_eq_false hbest]
    have jid:=get_live i3
    have hkr:(k:Int)<r.length:=by omega
    rw[hqv]at j1
    have hset:setAt (r.map vecI) k [.vec (bestL d (fixC r) v).length (ints (bestL d (fixC r) v))]=(r.set k (bestL d (fixC r) v)).map vecI:=by
     rw[setAt_one (by rw[List.length_map];omega),List.map_set]
     rfl
    have jru:∀ b,(H3.upd id b).live Hy.next 0=_:=fun b=>(live_upd_other (by omega)).trans jr
    simp only[go_sem,m4,m11,m12,j1,jid,hkr]
    have jb:=i4 (vecI (bestL d (fixC r) v))
    have hset2:(r.map vecI).set k (vecI (bestL d (fixC r) v))=(r.set k (bestL d (fixC r) v)).map vecI:=by rw[List.map_set]
    rw[hset2]at jb
    refine⟨by rw[List.length_map];omega,?_⟩
    simp only[go_sem,hset,jru,bodyIt]
    refine⟨by rw[upd_get,if_neg (by omega),upd_get,if_neg (by omega)];exact jB,by simp only[upd_next];omega,by simp only[upd_next];omega,fun id' h1 h2 h3=>by rw[upd_get,if_neg h2,upd_get,if_neg (fun e=>h3 g r.length (by rw[hqv,e])),o3 _ (by omega)];exact hzo id' h1 h2 h3,true,_,by rw[upd_get,if_pos rfl],jb.keep (Nat.le_refl _) (by simp only[upd_next];exact Nat.le_refl _) fun id' g' _ _ _ he=>by have:=hqlt _ _ _ he;rw[upd_get,if_neg (by omega)],?_⟩
    have:=hRn.step hok hv hbest
    rw[v3]at this
    exact this
  ·rw[decX_len]at hj
   obtain⟨hzn,hzo,b,r,hzr,hzq,hRn⟩:=hj
   have lr:=get_live hzr
   cases b with
   | true =>
    simp only[go_sem,u11,lr]
    have z3:=get_live ((hzo (H.next+3) (by omega) (by omega) (hqR _ (by omega))).trans ((oR'.old _ (by omega)).trans hy3))
    have hnb:=(hI.round hRn).bound hok h6
    have w1:=IntWalk.i64_in ((n:Int)+1) (by omega)
    simp only[go_sem,u6,z3,w1]
    refine⟨by rw[upd_next];omega,⟨n+1,r,qv,by rw[upd_next];omega,⟨by rw[upd_next];omega,fun id h1 h2 h3=>by rw[upd_get,if_neg h3,hzo id (by omega) (by omega) (hqR _ h1),oR'.old _ (by omega)];exact hS.2 id h1 h2 h3⟩,by rw[upd_get,if_pos rfl];rfl,by rw[upd_get,if_neg (by omega),hzo _ (by omega) (by omega) (hqR _ (by omega)),oR'.old _ (by omega)];exact hy1,hzq.keep (Nat.le_refl _) (by rw[upd_next];exact Nat.le_refl _) fun id g _ _ _ he=>by have:=hqlt _ _ _ he;rw[upd_get,if_neg (by omega)],hI.round hRn⟩,?_⟩
    rw[upd_get,if_pos rfl,hy3]
    show 50000000000000000 - ((n:Int)+1).toNat<50000000000000000 - ((n:Int)).toNat
    omega
   | false =>
    simp only[go_sem,u11,lr]
    obtain⟨rfl,hloc⟩:=hRn.done
    have zold:∀ id,id<R.next→Hz.get id=Hy.get id:=fun id h=>by rw[hzo id (by omega) (by omega) (hqR _ h),oR'.old _ (by omega)]
    have z0:=get_live ((zold H.next (by omega)).trans ((hS.2 H.next (by omega) (by omega) (by omega)).trans g0))
    have z1:=get_live ((zold (H.next+1) (by omega)).trans hy1)
    have z2:=get_live ((zold (H.next+2) (by omega)).trans ((hS.2 _ (by omega) (by omega) (by omega)).trans g2))
    have z3:=get_live ((zold (H.next+3) (by omega)).trans hy3)
    have z4:=get_live ((zold (H.next+4) (by omega)).trans ((hS.2 _ (by omega) (by omega) (by omega)).trans g4))
    unfold infC at z0
    simp only[go_sem,u2,u4,z0,z1]
    refine AApply.clo (value_frame d hok h6 r hRn.ok Hz R.next qv hzq _ ⟨trivial,?_⟩)
    obtain⟨qa,qb,hqa⟩:∃ qa qb,ratioV (sumP d r) (d.grain ^ d.nodes.length)=.agg [.lit (.int .i64 qa),.lit (.int .i64 qb)]:=⟨_,_,rfl⟩
    rw[hqa]
    have hKK:=hK r n hI hloc
    rw[hqa]at hKK
    have z4u:∀ b,(Hz.upd (H.next+2) b).live (H.next+4) 0=_:=fun b=>(live_upd_other (by omega)).trans z4
    simp only[go_sem,u5,u7,z2,z4u]
    obtain⟨Z,hZ⟩:∃ Z,Z=(Hz.upd (H.next+2) (.arr 0 42 [.lit (.int .i64 qa),.lit (.int .i64 qb)])).upd (H.next+4) (.arr 0 38 [.lit (.int .i64 0)]):=⟨_,rfl⟩
    have nZ:Z.next=Hz.next:=by rw[hZ];rfl
    have y1:=get_live (show Z.get (H.next+1)=some (.arr 0 36 [qv]) by rw[hZ,upd_get,if_neg (by omega),upd_get,if_neg (by omega),zold _ (by omega)];exact hy1)
    have y2:=get_live (show Z.get (H.next+2)=some (.arr 0 42 [.lit (.int .i64 qa),.lit (.int .i64 qb)]) by rw[hZ,upd_get,if_neg (by omega),upd_get,if_pos rfl])
    have y3:=get_live (show Z.get (H.next+3)=some (.arr 0 3 [.lit (.int .i64 n)]) by rw[hZ,upd_get,if_neg (by omega),upd_get,if_neg (by omega),zold _ (by omega)];exact hy3)
    have y4:=get_live (show Z.get (H.next+4)=some (.arr 0 38 [.lit (.int .i64 0)]) by rw[hZ,upd_get,if_pos rfl])
    have qZ:OwnG R.next Z 52 qv (r.map vecI):=hzq.keep (Nat.le_refl _) (by omega) fun id g _ _ _ he=>by have:=hqlt _ _ _ he;rw[hZ,upd_get,if_neg (by omega),upd_get,if_neg (by omega)]
    have oZ:Over H Z:=⟨by omega,fun id h=>by rw[hZ,upd_get,if_neg (by omega),upd_get,if_neg (by omega),zold _ (by omega),hS.2 _ (by omega) (by omega) (by omega),oR.old _ h]⟩
    rw[← hZ]
    have qc:=qZ.cells
    have qo:=qZ.one
    refine W.env fun E7 hE7=>?_
    have w4:E7 4=.ptr (H.next+1) 0 0:=by rw[hE7];simp only[go_sem,u4]
    have w5:E7 5=.ptr (H.next+2) 0 0:=by rw[hE7];simp only[go_sem,u5]
    have w6:E7 6=.ptr (H.next+3) 0 0:=by rw[hE7];simp only[go_sem,u6]
    have w7:E7 7=.ptr (H.next+4) 0 0:=by rw[hE7];simp only[go_sem,u7]
    clear hE7
    refine W.draw 5 [0,0,0,1,11] Try.mixed (by kernel_rfl) (by kernel_rfl) ?_
    have y2u:∀ b,(Z.upd (H.next+1) b).live (H.next+2) 0=_:=fun b=>(live_upd_other (by omega)).trans y2
    have y3u:∀ b b',((Z.upd (H.next+1) b).upd (H.next+2) b').live (H.next+3) 0=_:=fun b b'=>(live_upd_other (by omega)).trans ((live_upd_other (by omega)).trans y3)
    have y4u:∀ b b' b'',(((Z.upd (H.next+1) b).upd (H.next+2) b').upd (H.next+3) b'').live (H.next+4) 0=_:=fun b b' b''=>(live_upd_other (by omega)).trans ((live_upd_other (by omega)).trans ((live_upd_other (by omega)).trans y4))
    have f1:∀ c b b' b'',((((Z.upd (H.next+1) (.arr 0 36 [c])).upd (H.next+2) b).upd (H.next+3) b').upd (H.next+4) b'').live (H.next+1) 0=some (36,[c]):=fun c b b' b''=>(live_upd_other (by omega)).trans ((live_upd_other (by omega)).trans ((live_upd_other (by omega)).trans live_upd_same))
    have f2:∀ b c b' b'',((((Z.upd (H.next+1) b).upd (H.next+2) (.arr 0 42 c)).upd (H.next+3) b').upd (H.next+4) b'').live (H.next+2) 0=some (42,c):=fun b c b' b''=>(live_upd_other (by omega)).trans ((live_upd_other (by omega)).trans live_upd_same)
    have f3:∀ b b' c b'',((((Z.upd (H.next+1) b).upd (H.next+2) b').upd (H.next+3) (.arr 0 3 c)).upd (H.next+4) b'').live (H.next+3) 0=some (3,c):=fun b b' c b''=>(live_upd_other (by omega)).trans live_upd_same
    simp only[go_sem,w4,w5,w6,w7,y1,y2,y3,y2u,y3u,y4u,f1,f2,f3,qc,qo]
    refine⟨⟨fun x h=>by omega,fun x h=>by omega⟩,fun x h=>by omega,?_⟩
    obtain⟨Zf,hZf⟩:∃ Zf,Zf=((((Z.upd (H.next+1) (.arr 0 36 [qv])).upd (H.next+2) (.arr 0 42 [.lit (.int .i64 qa),.lit (.int .i64 qb)])).upd (H.next+3) (.arr 0 3 [.lit (.int .i64 (n:Int))])).upd (H.next+4) (.arr 0 38 [.lit (.int .i64 0)])):=⟨_,rfl⟩
    rw[← hZf]
    have oZf:Over H Zf:=by rw[hZf];exact(((oZ.upd (by omega) _).upd (by omega) _).upd (by omega) _).upd (by omega) _
    have qZf:OwnG R.next Zf 52 qv (r.map vecI):=qZ.keep (Nat.le_refl _) (by rw[hZf];exact Nat.le_refl _) fun id g _ _ _ he=>by have:=hqlt _ _ _ he;rw[hZf,upd_get,if_neg (by omega),upd_get,if_neg (by omega),upd_get,if_neg (by omega),upd_get,if_neg (by omega)]
    refine FinV.dropO G0_ok hcl oZf ?_ hKK
    have hfz:=qZf.fz (S:=fun id=>H.next≤id) (nx:=H.next) (cs':=r.map vecI) (fun i hi=>by show H.next≤i;omega) rfl fun i hi _=>by simp only[List.getElem_map];exact .keepInts _
    rw[List.length_map]at hfz
    exact .tup rfl fun i hi _=>match i,hi with
     | 0,_=>hfz
     | 1,_=>.agg rfl fun i hi _=>match i,hi with|0,_=>.lit _|1,_=>.lit _
     | 2,_=>.lit _
     | 3,_=>.lit _
end Go.Proofs
set_option linter.unusedSimpArgs false
set_option maxRecDepth 100000
namespace Go.Proofs.R01
open Go.Hx
def maxN:Int := 4611686018427387903
def checkQ (n d:Int):Int := if d < 1 ∨ d > maxN ∨ n < -maxN ∨ n > maxN then 5 else if Int.gcd n d ≠ 1 then 5 else 0
def cmpR (a b c d:Int):Int := if (a < 0 ∧ ¬ c < 0) then -1 else if (¬ a < 0 ∧ c < 0) then 1 else if a.natAbs * d.natAbs = c.natAbs * b.natAbs then 0 else if (a.natAbs * d.natAbs < c.natAbs * b.natAbs ↔ 0 ≤ a) then -1 else 1
theorem cmpR_eq {a b c d:Int}(hb:1 ≤ b)(hd:1 ≤ d):cmpR a b c d = cmpI (a * d) (c * b) := by
  unfold cmpR cmpI
  obtain⟨B, rfl⟩ := Int.eq_ofNat_of_zero_le (show 0 ≤ b by omega)
  obtain⟨D, rfl⟩ := Int.eq_ofNat_of_zero_le (show 0 ≤ d by omega)
  simp only[Int.natAbs_natCast]
  have pos:∀ x:Nat, ∀ E:Nat, ((x:Int) * (E:Int)) = ((x * E:Nat):Int) := fun x E => (Int.natCast_mul x E).symm
  have neg:∀ x:Nat, ∀ E:Nat, (-(x:Int) * (E:Int)) = -((x * E:Nat):Int) := fun x E => by rw[Int.neg_mul, Int.natCast_mul]
  have pp:∀ x E:Nat, 0 < x → 1 ≤ (E:Int) → 0 < x * E := fun x E h1 h2 => Nat.mul_pos h1 (by omega)
  by_cases h1:a < 0
  · obtain⟨A, hA, hA0⟩:∃ A:Nat, a = -(A:Int) ∧ 0 < A := ⟨a.natAbs, by omega, by omega⟩
    subst hA
    have p1 := pp A D hA0 hd
    by_cases h2:c < 0
    · obtain⟨C, hC, hC0⟩:∃ C:Nat, c = -(C:Int) ∧ 0 < C := ⟨c.natAbs, by omega, by omega⟩
      subst hC
      simp only[Int.natAbs_neg, Int.natAbs_natCast, neg]
      generalize A * D = P at *
      generalize C * B = Q at *
      repeat' split
      all_goals omega
    · obtain⟨C, hC⟩ := Int.eq_ofNat_of_zero_le (show 0 ≤ c by omega)
      subst hC
      simp only[Int.natAbs_neg, Int.natAbs_natCast, neg, pos]
      generalize A * D = P at *
      generalize C * B = Q at *
      repeat' split
      all_goals omega
  · obtain⟨A, hA⟩ := Int.eq_ofNat_of_zero_le (show 0 ≤ a by omega)
    subst hA
    by_cases h2:c < 0
    · obtain⟨C, hC, hC0⟩:∃ C:Nat, c = -(C:Int) ∧ 0 < C := ⟨c.natAbs, by omega, by omega⟩
      subst hC
      have p2 := pp C B hC0 hb
      simp only[Int.natAbs_neg, Int.natAbs_natCast, neg, pos]
      generalize A * D = P at *
      generalize C * B = Q at *
      repeat' split
      all_goals omega
    · obtain⟨C, hC⟩ := Int.eq_ofNat_of_zero_le (show 0 ≤ c by omega)
      subst hC
      simp only[Int.natAbs_natCast, pos]
      repeat' split
      all_goals omega
theorem dig_one:dig 1 = [1] := by rw[dig_pos (by decide), dig_zero]; rfl
theorem Right_spec (n d:Int)(hn:I64 n)(hd:I64 d)(H:AHeap)(K:ARes → AHeap → Prop)(hK:K (.ret (.lit (.bool (decide (checkQ n d = 0))))) H):ACall Try.prog G0 12 [qV n d] H K := by
  refine ACall.clo ⟨_, Try.func12, rfl, rfl⟩ fun hcl => ?_
  refine ACall.of_body (n := 31) (rs := [.tmp 2]) Try.func12 rfl rfl rfl (by decide) (by kernel_rfl) (by simp) ?_
  have bad:∀ L, checkQ n d = 5 → FinV Try.prog G0 H K (.lit (.bool false)) (ext H L) := fun L h => by
    rw[h]at hK
    exact FinV.drop G0_ok hcl (.lit _) hK
  by_cases h1:d < 1
  · simp only[go_sem, qV, h1, appendA_U]
    exact bad _ (by unfold checkQ; rw[if_pos (.inl h1)])
  by_cases h2:4611686018427387903 < d
  · simp only[go_sem, qV, h1, h2, appendA_U]
    exact bad _ (by unfold checkQ; rw[if_pos (.inr (.inl h2))])
  by_cases h4:4611686018427387903 < n
  · simp only[go_sem, qV, h1, h2, h4, appendA_U]
    exact bad _ (by unfold checkQ; rw[if_pos (.inr (.inr (.inr h4)))])
  by_cases h3:n < -4611686018427387903
  · simp only[go_sem, qV, h1, h2, h3, h4, appendA_U]
    exact bad _ (by unfold checkQ; rw[if_pos (.inr (.inr (.inl h3)))])
  simp only[go_sem, qV, h1, h2, h3, h4, appendA_U]
  refine W.draw 8 [0, 1, 3, 0, 8, 31, 63, 0] Try.mixed (by kernel_rfl) (by kernel_rfl) ?_
  simp only[go_sem, qV, appendA_U]
  have l1 := dl5 hn
  have l2 := dl5 hd
  refine⟨_, [], PCall.pure fun H2 => digits_spec n hn H2 _ ⟨rfl, rfl⟩, ?_⟩
  simp only[go_sem, appendA_U]
  refine⟨_, [], PCall.pure fun H2 => digits_spec d hd H2 _ ⟨rfl, rfl⟩, ?_⟩
  simp only[go_sem, appendA_U]
  refine⟨_, [], PCall.pure fun H2 => rgcd_spec n.natAbs d.natAbs (by omega) (by omega) H2 _ ⟨rfl, rfl⟩, ?_⟩
  simp only[go_sem, appendA_U]
  refine⟨by refine⟨?_, ?_, ?_, ?_⟩ <;> (intro x hx; omega), ?_⟩
  have gl:(dig (n.natAbs.gcd d.natAbs)).length ≤ 100 := by
    have:n.natAbs.gcd d.natAbs ≤ d.natAbs := Nat.le_of_dvd (by omega) (Nat.gcd_dvd_right _ _)
    have := dig_mono this
    omega
  have ck:checkQ n d = if Int.gcd n d ≠ 1 then 5 else 0 := by unfold checkQ; rw[if_neg (by unfold maxN; omega)]
  have eg:Int.gcd n d = n.natAbs.gcd d.natAbs := rfl
  obtain⟨H1, hH1⟩:∃ H1, H1 = ext H [.arr 0 42 [.lit (.int .i64 n), .lit (.int .i64 d)]] := ⟨_, rfl⟩
  have ov1:Over H H1 := by rw[hH1]; exact .ext _ _
  have e1:H.next + 1 = H1.next := by rw[hH1]; rfl
  rw[← hH1, e1]
  have hO:OwnG H1.next (ext H1 [.arr 0 3 [.lit (.int .i64 1)]]) 3 (.own H1.next 0 0 1 1) (ints [1]) := .inr ⟨H1.next, 0, Nat.le_refl _, by simp [ext_next], rfl, get_ext0 _ _ _⟩
  refine AApply.cutArgs H1.next (args' := [vecI (dig (n.natAbs.gcd d.natAbs)), vecI (dig 1)]) G0_ok rfl (fun j hj _ => match j, hj with | 0, _ => .keepInts _ | 1, _ => by rw[dig_one]; exact hO.fzI fun i hi => hi) (compare_spec _ 1 (by omega) _ _ ⟨trivial, ?_⟩)
  have ov2:Over H ((ext H1 [.arr 0 3 [.lit (.int .i64 1)]]).cut H1.next) := ov1.trans (Over.ext _ _).cut
  rw[ck, eg]at hK
  by_cases hg:n.natAbs.gcd d.natAbs = 1
  · rw[hg]at hK ⊢
    have c1:cmpI ((1:Nat):Int) ((1:Nat):Int) = 0 := by decide
    rw[c1]
    simp only[go_sem, appendA_U]
    exact FinV.dropO G0_ok hcl ov2 (.lit _) hK
  · have c1 : ¬ cmpI ((n.natAbs.gcd d.natAbs : Nat) : Int) ((1 : Nat) : Int) = 0 := by
      unfold cmpI
      split
      · omega
      · split <;> omega
    obtain⟨c, hc⟩:∃ c, c = cmpI ((n.natAbs.gcd d.natAbs:Nat):Int) ((1:Nat):Int) := ⟨_, rfl⟩
    rw[← hc]at c1 ⊢
    simp only[go_sem, c1, appendA_U]
    rw[if_pos hg]at hK
    exact FinV.dropO G0_ok hcl ov2 (.lit _) (by simpa using hK)
theorem cmpR_nn {a b c d:Int}(h1:a < 0)(h2:c < 0):cmpR a b c d = cmpI ((c.natAbs * b.natAbs:Nat):Int) ((a.natAbs * d.natAbs:Nat):Int) := by
  unfold cmpR cmpI
  generalize a.natAbs * d.natAbs = P
  generalize c.natAbs * b.natAbs = Q
  repeat' split
  all_goals omega
theorem cmpR_pp {a b c d:Int}(h1:¬ a < 0)(h2:¬ c < 0):cmpR a b c d = cmpI ((a.natAbs * d.natAbs:Nat):Int) ((c.natAbs * b.natAbs:Nat):Int) := by
  unfold cmpR cmpI
  generalize a.natAbs * d.natAbs = P
  generalize c.natAbs * b.natAbs = Q
  repeat' split
  all_goals omega
theorem cmpR_np {a b c d:Int}(h1:a < 0)(h2:¬ c < 0):cmpR a b c d = -1 := by unfold cmpR; rw[if_pos ⟨h1, h2⟩]
theorem cmpR_pn {a b c d:Int}(h1:¬ a < 0)(h2:c < 0):cmpR a b c d = 1 := by unfold cmpR; rw[if_neg (by omega), if_pos ⟨h1, h2⟩]
set_option maxHeartbeats 1000000 in
theorem rCmp_spec (a b c d : Int) (ha : I64 a) (hb : I64 b) (hc : I64 c) (hd : I64 d) (hb0 : 1 ≤ b) (hd0 : 1 ≤ d) (H : AHeap) (K : ARes → AHeap → Prop) (hK : K (.ret (.lit (.int .i64 (cmpI (a * d) (c * b))))) H) :
    ACall Try.prog G0 13 [qV a b, qV c d] H K := by
  refine ACall.clo ⟨_, Try.func13, rfl, rfl⟩ fun hcl => ?_
  have la := dl5 ha
  have lb := dl5 hb
  have lc := dl5 hc
  have ld := dl5 hd
  have l1 := dl10 ha hd
  have l2 := dl10 hc hb
  rw[← cmpR_eq hb0 hd0]at hK
  refine ACall.of_body (n := 44) (rs := [.tmp 4]) Try.func13 rfl rfl rfl (by decide) (by kernel_rfl) (by simp) ?_
  simp only[go_sem, qV, appendA_U]
  refine W.draw 12 [0, 1, 3, 0, 8, 31, 63, 0, 128, 511, 0, 1024] Try.mixed (by kernel_rfl) (by kernel_rfl) ?_
  simp only[go_sem, appendA_U]
  refine⟨_, [], PCall.pure fun H2 => digits_spec a ha H2 _ ⟨rfl, rfl⟩, ?_⟩
  simp only[go_sem, appendA_U]
  refine⟨_, [], PCall.pure fun H2 => digits_spec d hd H2 _ ⟨rfl, rfl⟩, ?_⟩
  simp only[go_sem, appendA_U]
  refine⟨_, [], PCall.pure fun H2 => dtimes_dig a.natAbs d.natAbs (by omega) (by omega) H2 _ ⟨rfl, rfl⟩, ?_⟩
  simp only[go_sem, appendA_U]
  refine⟨_, [], PCall.pure fun H2 => digits_spec c hc H2 _ ⟨rfl, rfl⟩, ?_⟩
  simp only[go_sem, appendA_U]
  refine AApply.clo (digits_spec b hb _ _ ⟨trivial, ?_⟩)
  simp only[go_sem, appendA_U]
  refine AApply.clo (dtimes_dig c.natAbs b.natAbs (by omega) (by omega) _ _ ⟨trivial, ?_⟩)
  by_cases h1:a < 0
  · by_cases h2:c < 0
    · rw[cmpR_nn h1 h2]at hK
      simp only[go_sem, h1, h2, appendA_U]
      refine AApply.clo (compare_spec _ _ (by omega) _ _ ⟨trivial, ?_⟩)
      simp only[go_sem, appendA_U]
      exact FinV.drop G0_ok hcl (.lit _) hK
    · rw[cmpR_np h1 h2]at hK
      simp only[go_sem, h1, h2, appendA_U]
      exact FinV.drop G0_ok hcl (.lit _) hK
  · by_cases h2:c < 0
    · rw[cmpR_pn h1 h2]at hK
      simp only[go_sem, h1, h2, appendA_U]
      exact FinV.drop G0_ok hcl (.lit _) hK
    · rw[cmpR_pp h1 h2]at hK
      simp only[go_sem, h1, h2, appendA_U]
      refine AApply.clo (compare_spec _ _ (by omega) _ _ ⟨trivial, ?_⟩)
      simp only[go_sem, appendA_U]
      exact FinV.drop G0_ok hcl (.lit _) hK
end Go.Proofs.R01
set_option linter.unusedSimpArgs false
set_option maxRecDepth 100000
namespace Go.Proofs
open Go.Hx
theorem take_eq_step {α:Type}{a b:List α}{k:Nat}{x:α}(h:a.take k=b.take k)(ha:a[k]?=some x)(hb:b[k]?=some x):a.take (k+1)=b.take (k+1):=by
 rw[take_succ_get ha,take_succ_get hb,h]
theorem take_eq_all {α:Type}{a b:List α}{k:Nat}(h:a.take k=b.take k)(ha:a.length≤k)(hb:b.length≤k):a=b:=by
 rw[List.take_of_length_le ha,List.take_of_length_le hb]at h;exact h
set_option maxHeartbeats 1000000 in
theorem samePol_spec (a b:List (List Int))(ha:(a.length:Int)<2 ^ 62)(har:∀ r∈a,(r.length:Int)<2 ^ 62)(H:AHeap)(K:ARes→AHeap→Prop)(hK:K (.ret (.lit (.bool (decide (a=b))))) H):ACall Try.prog G0 14 [vecV a,vecV b] H K:=by
 refine ACall.of_body (n:=53) (rs:=[.tmp 4]) Try.func14 rfl rfl rfl (by decide) (by kernel_rfl) (by simp) ?_
 have no:a≠b→FinV Try.prog G0 H K (.lit (.bool false)) H:=fun h=>by
  rw[decide_eq_false h]at hK
  exact FinV.mk (Nat.le_refl _) hK
 by_cases hl:(a.length:Int)=b.length
 rotate_left
 ·simp only[go_sem,vecV,hl]
  exact no fun h=>hl (by rw[h])
 simp only[go_sem,vecV,hl]
 refine W.loop0 9007199254737008 (by rfl) (fun ρ Hx=>Hx=H∧∃ k:Nat,ρ 5=lin k∧k≤a.length∧a.take k=b.take k) (fun ρ H=>a.length - (iv (ρ 5)).toNat) ?_ ?_
 ·simp only[go_sem]
  exact⟨0,rfl,by omega,rfl⟩
 rintro ρ Hx ⟨rfl,k,h5,hk,he⟩
 refine vc_sound _ _ _ (by rfl) ?_
 by_cases hb:(k:Int)<a.length
 rotate_left
 ·simp only[go_sem,h5,hl]
  have hab:a=b:=take_eq_all he (by omega) (by omega)
  rw[decide_eq_true hab]at hK
  have hb2:¬ (k:Int)<b.length:=by omega
  simp only[go_sem,hb2]
  exact FinV.mk (Nat.le_refl _) hK
 obtain⟨x,hx⟩:=get_of_lt (l:=a) (i:=k) (by omega)
 obtain⟨y,hy⟩:=get_of_lt (l:=b) (i:=k) (by omega)
 have hx':(a.map vecI)[k]?=some (vecI x):=by rw[List.getElem?_map,hx];rfl
 have hy':(b.map vecI)[k]?=some (vecI y):=by rw[List.getElem?_map,hy];rfl
 have hxn:=ne_of_get hx
 have hyn:=ne_of_get hy
 have hb2:(k:Int)<b.length:=by omega
 have hxr:=har x (List.mem_of_getElem? hx)
 have w1:=IntWalk.i64_in ((k:Int)+1) (by omega)
 have nxy:x≠y→a≠b:=fun h e=>h (by subst e;rw[hx]at hy;exact Option.some.inj hy)
 simp only[go_sem,h5,hl,hb2]
 refine W.draw 10 [0,0,3,7,15,0,0,96,224,480] Try.mixed (by kernel_rfl) (by kernel_rfl) ?_
 by_cases hxy:(x.length:Int)=y.length
 rotate_left
 ·simp only[go_sem,h5,hb,hb2,hx',hy',hxn,hyn,hxy]
  exact no (nxy fun e=>hxy (by rw[e]))
 simp only[go_sem,h5,hb,hb2,hx',hy',hxn,hyn,hxy]
 refine W.loop0 9007198717870160 (by rfl) (fun ρ2 Hz=>Hz=Hx∧∃ j:Nat,ρ2 6=lin j∧j≤x.length∧x.take j=y.take j) (fun ρ2 H=>x.length - (iv (ρ2 6)).toNat) ?_ ?_
 ·simp only[go_sem]
  exact⟨0,rfl,by omega,rfl⟩
 rintro ρ2 Hz ⟨rfl,j,h6,hj,he2⟩
 refine vc_sound _ _ _ (by rfl) ?_
 by_cases hc:(j:Int)<y.length
 rotate_left
 ·simp only[go_sem,h5,h6,hb,hx',hxn,hxy,hc,w1]
  have hxy2:x=y:=take_eq_all he2 (by omega) (by omega)
  exact⟨⟨k+1,by simp,by omega,take_eq_step he hx (by rw[hxy2];exact hy)⟩,by omega⟩
 obtain⟨u,hu⟩:=get_of_lt (l:=x) (i:=j) (by omega)
 obtain⟨v,hv⟩:=get_of_lt (l:=y) (i:=j) (by omega)
 have hun:=ne_of_get hu
 have hvn:=ne_of_get hv
 have hc2:(j:Int)<x.length:=by omega
 have w2:=IntWalk.i64_in ((j:Int)+1) (by omega)
 simp only[go_sem,h5,h6,hb,hx',hxn,hxy,hc]
 refine W.draw 14 [0,0,3,7,0,31,63,0,0,384,896,0,3968,8064] Try.mixed (by kernel_rfl) (by kernel_rfl) ?_
 by_cases huv:u=v
 ·subst huv
  simp only[go_sem,h5,h6,hb,hb2,hx',hy',hxn,hyn,hxy,hc,hu,hv,hun,hvn,w2]
  exact⟨⟨j+1,by simp,by omega,take_eq_step he2 hu hv⟩,by omega⟩
 ·simp only[go_sem,h5,h6,hb,hb2,hx',hy',hxn,hyn,hxy,hc,hu,hv,hun,hvn,huv]
  exact no (nxy fun e=>huv (by subst e;rw[hu]at hv;exact Option.some.inj hv))
end Go.Proofs
set_option linter.unusedSimpArgs false
set_option maxRecDepth 100000
namespace Go.Proofs
open Go.Hx
structure RatF (S D a b g:Int):Prop where
 g1:1≤g
 n:a*g=S
 d:b*g=D
 b1:1≤b
 cop:Int.gcd a b=1
theorem ratio_facts {S D:Int}(hD:1≤D):∃ a b g:Int,ratioV S D=.agg [.lit (.int .i64 a),.lit (.int .i64 b)]∧RatF S D a b g:=by
 obtain⟨G,hG⟩:∃ G,G=Int.gcd S D:=⟨_,rfl⟩
 have g0:0<G:=by rw[hG];exact Int.gcd_pos_of_ne_zero_right _ (by omega)
 obtain⟨a,ha⟩:(G:Int) ∣ S:=by rw[hG];exact Int.gcd_dvd_left ..
 obtain⟨b,hb⟩:(G:Int) ∣ D:=by rw[hG];exact Int.gcd_dvd_right ..
 have gne:(G:Int)≠0:=by omega
 have hgc:G=G*Int.gcd a b:=by
  have h:=Int.gcd_mul_left (G:Int) a b
  rw[← ha,← hb,← hG,Int.natAbs_natCast]at h
  exact h
 have hc:Int.gcd a b=1:=by
  have:G*1=G*Int.gcd a b:=by omega
  exact(Nat.eq_of_mul_eq_mul_left g0 this).symm
 have hb1:1≤b:=by
  rcases Int.lt_or_le b 1 with h|h
  ·have:(G:Int)*b≤(G:Int)*0:=Int.mul_le_mul_of_nonneg_left (by omega) (by omega)
   omega
  ·exact h
 refine⟨a,b,G,?_,by omega,by rw[Int.mul_comm];exact ha.symm,by rw[Int.mul_comm];exact hb.symm,hb1,hc⟩
 unfold ratioV
 rw[← hG]
 have e1:S.tdiv (G:Int)=a:=by rw[ha];exact Int.mul_tdiv_cancel_left a gne
 have e2:D.tdiv (G:Int)=b:=by rw[hb];exact Int.mul_tdiv_cancel_left b gne
 rw[e1,e2]
theorem RatF.bound {S D a b g:Int}(h:RatF S D a b g):a.natAbs≤S.natAbs∧b≤D:=by
 have h1:S.natAbs=a.natAbs*g.natAbs:=by rw[← h.n,Int.natAbs_mul]
 have h2:D.natAbs=b.natAbs*g.natAbs:=by rw[← h.d,Int.natAbs_mul]
 have hg:0<g.natAbs:=by have:=h.g1;omega
 have l1:=Nat.le_mul_of_pos_right a.natAbs hg
 have l2:=Nat.le_mul_of_pos_right b.natAbs hg
 have l3:b.natAbs≤D.natAbs:=by omega
 have hb:=h.b1
 have hD:0≤D:=by rw[← h.d];exact Int.mul_nonneg (by omega) (by have:=h.g1;omega)
 omega
theorem cmpI_mul {x y m:Int}(hm:1≤m):R01.cmpI (x*m) (y*m)=R01.cmpI x y:=by
 have h1:x*m<y*m↔x<y:=Int.mul_lt_mul_right (by omega)
 have h2:x*m=y*m↔x=y:=⟨fun h=>Int.eq_of_mul_eq_mul_right (by omega) h,fun h=>by rw[h]⟩
 unfold R01.cmpI
 simp only[h1,h2]
theorem RatF.cmp {S1 S2 D a1 b1 g1 a2 b2 g2:Int}(hD:1≤D)(h1:RatF S1 D a1 b1 g1)(h2:RatF S2 D a2 b2 g2):R01.cmpI (a1*b2) (a2*b1)=R01.cmpI S1 S2:=by
 have hg:1≤g1*g2:=by
  have:=Int.mul_le_mul h1.g1 h2.g1 (by omega) (by have:=h1.g1;omega)
  omega
 rw[← cmpI_mul hg,← cmpI_mul (x:=S1) (y:=S2) hD]
 congr 1
 ·rw[← h1.n,← h2.d]
  simp only[Int.mul_assoc,Int.mul_comm,Int.mul_left_comm]
 ·rw[← h2.n,← h1.d]
  simp only[Int.mul_assoc,Int.mul_comm,Int.mul_left_comm]
theorem RatF.check {S D a b g:Int}(h:RatF S D a b g)(hS:S.natAbs≤4611686018427387903)(hD:D≤4611686018427387903):R01.checkQ a b=0:=by
 have hb:=h.bound
 have:=h.b1
 unfold R01.checkQ R01.maxN
 rw[if_neg (by omega),if_neg (by rw[h.cop];simp)]
theorem grain_pow {x:InfP}(hok:InfOk x):1≤x.grain ^ x.nodes.length∧x.grain ^ x.nodes.length≤167961600000000:=by
 have hg:=hok.net.g1
 refine⟨Int.pow_pos (by omega),?_⟩
 have h1:=prodL_le_pow (b:=60) (by omega) (l:=List.replicate x.nodes.length x.grain) fun c hc=>by rw[List.eq_of_mem_replicate hc];omega
 rw[List.length_replicate]at h1
 have h2:=pow_le_pow60 x.nodes.length (by have:=hok.n.n1;omega)
 have h3:∀ k:Nat,prodL (List.replicate k x.grain)=x.grain ^ k:=fun k=>by
  induction k with
  | zero=>rw[List.replicate_zero,prodL_nil,Int.pow_zero]
  | succ k ih=>rw[List.replicate_succ,prodL_cons,ih,Int.pow_succ,Int.mul_comm]
 rw[h3]at h1
 omega
end Go.Proofs
/-
  Calls of this seat's program, reckoned out by the evaluator: what each of them gives. Laid by a program of ours.
-/
namespace Go.Proofs
open Go.Hx
set_option maxRecDepth 100000
theorem Try.mixedK:Try.prog.follows .mixedOrders=true:=by kernel_rfl
def Try.kn18:KTab:=[([.vec 0 []],.vec 0 [])]
theorem Try.kn18_ok:KOk Try.prog noGl 18 Try.kn18:=.cons (clone_spec [] (by decide) noH _ ⟨_,rfl,.vec0⟩) .nil
noncomputable def Try.ep0:EP:={ P:=Try.prog,G:=noGl,gd:=fun _=>none,known:=knownOf [(18,Try.kn18)] }
theorem Try.ep0_ok:EOk Try.ep0:=.of_known (l:=[(18,Try.kn18)]) rfl noGl_ok Try.mixedK (fun _ _ h=>by cases h) ⟨Try.kn18_ok,trivial⟩
def Try.ka20_0:List AVal:=[]
def Try.kv20_0:AVal:=.agg [.lit (.int .i64 2),.vec 3 [.lit (.int .i64 2),.lit (.slice none 0 0),.vec 1 [.vec 2 [.lit (.int .i64 1),.lit (.int .i64 1)]],.lit (.int .i64 2),.vec 1 [.lit (.int .i64 0)],.lit (.slice none 0 0),.lit (.int .i64 2),.vec 1 [.lit (.int .i64 1)],.lit (.slice none 0 0)],.lit (.int .u64 6),.vec 1 [.vec 2 [.lit (.int .i64 0),.lit (.int .i64 2)],.vec 4 [.lit (.int .i64 10),.lit (.int .i64 0),.lit (.int .i64 0),.lit (.int .i64 10)]]]
theorem Try.kc20_0:chk Try.ep0 1000000 20 Try.ka20_0 Try.kv20_0=true:=by kernel_rfl
def Try.kn20:KTab:=[(Try.ka20_0,Try.kv20_0)]
theorem Try.kn20_ok:KOk Try.prog noGl 20 Try.kn20:=.cons (chk_ok Try.ep0_ok Try.kc20_0) .nil
noncomputable def Try.ep1:EP:={ P:=Try.prog,G:=noGl,gd:=fun _=>none,known:=knownOf [(18,Try.kn18),(20,Try.kn20)] }
theorem Try.ep1_ok:EOk Try.ep1:=.of_known (l:=[(18,Try.kn18),(20,Try.kn20)]) rfl noGl_ok Try.mixedK (fun _ _ h=>by cases h) ⟨Try.kn18_ok,⟨Try.kn20_ok,trivial⟩⟩
def Try.ka28_0:List AVal:=[.agg [.lit (.int .i64 2),.vec 3 [.lit (.int .i64 2),.lit (.slice none 0 0),.vec 1 [.vec 2 [.lit (.int .i64 1),.lit (.int .i64 1)]],.lit (.int .i64 2),.vec 1 [.lit (.int .i64 0)],.lit (.slice none 0 0),.lit (.int .i64 2),.vec 1 [.lit (.int .i64 1)],.lit (.slice none 0 0)],.lit (.int .u64 6),.vec 1 [.vec 2 [.lit (.int .i64 0),.lit (.int .i64 2)],.vec 4 [.lit (.int .i64 10),.lit (.int .i64 0),.lit (.int .i64 0),.lit (.int .i64 10)]]],.vec 2 [.vec 2 [.lit (.int .i64 0),.lit (.int .i64 0)],.vec 2 [.lit (.int .i64 0),.lit (.int .i64 0)]]]
def Try.kv28_0:AVal:=.lit (.int .i64 0)
theorem Try.kc28_0:chk Try.ep1 1000000 28 Try.ka28_0 Try.kv28_0=true:=by kernel_rfl
def Try.ka28_1:List AVal:=[.agg [.lit (.int .i64 2),.vec 3 [.lit (.int .i64 2),.lit (.slice none 0 0),.vec 1 [.vec 2 [.lit (.int .i64 1),.lit (.int .i64 1)]],.lit (.int .i64 2),.vec 1 [.lit (.int .i64 0)],.lit (.slice none 0 0),.lit (.int .i64 2),.vec 1 [.lit (.int .i64 1)],.lit (.slice none 0 0)],.lit (.int .u64 6),.vec 1 [.vec 2 [.lit (.int .i64 0),.lit (.int .i64 2)],.vec 4 [.lit (.int .i64 10),.lit (.int .i64 0),.lit (.int .i64 0),.lit (.int .i64 10)]]],.vec 2 [.vec 2 [.lit (.int .i64 0),.lit (.int .i64 1)],.vec 2 [.lit (.int .i64 0),.lit (.int .i64 0)]]]
def Try.kv28_1:AVal:=.lit (.int .i64 0)
theorem Try.kc28_1:chk Try.ep1 1000000 28 Try.ka28_1 Try.kv28_1=true:=by kernel_rfl
def Try.ka28_2:List AVal:=[.agg [.lit (.int .i64 2),.vec 3 [.lit (.int .i64 2),.lit (.slice none 0 0),.vec 1 [.vec 2 [.lit (.int .i64 1),.lit (.int .i64 1)]],.lit (.int .i64 2),.vec 1 [.lit (.int .i64 0)],.lit (.slice none 0 0),.lit (.int .i64 2),.vec 1 [.lit (.int .i64 1)],.lit (.slice none 0 0)],.lit (.int .u64 6),.vec 1 [.vec 2 [.lit (.int .i64 0),.lit (.int .i64 2)],.vec 4 [.lit (.int .i64 10),.lit (.int .i64 0),.lit (.int .i64 0),.lit (.int .i64 10)]]],.vec 1 [.vec 2 [.lit (.int .i64 0),.lit (.int .i64 0)]]]
def Try.kv28_2:AVal:=.lit (.int .i64 201)
theorem Try.kc28_2:chk Try.ep1 1000000 28 Try.ka28_2 Try.kv28_2=true:=by kernel_rfl
def Try.ka28_3:List AVal:=[.agg [.lit (.int .i64 2),.vec 3 [.lit (.int .i64 2),.lit (.slice none 0 0),.vec 1 [.vec 2 [.lit (.int .i64 1),.lit (.int .i64 1)]],.lit (.int .i64 2),.vec 1 [.lit (.int .i64 0)],.lit (.slice none 0 0),.lit (.int .i64 2),.vec 1 [.lit (.int .i64 1)],.lit (.slice none 0 0)],.lit (.int .u64 6),.vec 1 [.vec 2 [.lit (.int .i64 0),.lit (.int .i64 2)],.vec 4 [.lit (.int .i64 10),.lit (.int .i64 0),.lit (.int .i64 0),.lit (.int .i64 10)]]],.vec 2 [.vec 2 [.lit (.int .i64 0),.lit (.int .i64 1)],.vec 2 [.lit (.int .i64 0),.lit (.int .i64 1)]]]
def Try.kv28_3:AVal:=.lit (.int .i64 0)
theorem Try.kc28_3:chk Try.ep1 1000000 28 Try.ka28_3 Try.kv28_3=true:=by kernel_rfl
def Try.ka28_4:List AVal:=[.agg [.lit (.int .i64 2),.vec 3 [.lit (.int .i64 2),.lit (.slice none 0 0),.vec 1 [.vec 2 [.lit (.int .i64 1),.lit (.int .i64 1)]],.lit (.int .i64 2),.vec 1 [.lit (.int .i64 0)],.lit (.slice none 0 0),.lit (.int .i64 2),.vec 1 [.lit (.int .i64 1)],.lit (.slice none 0 0)],.lit (.int .u64 6),.vec 1 [.vec 2 [.lit (.int .i64 0),.lit (.int .i64 2)],.vec 4 [.lit (.int .i64 10),.lit (.int .i64 0),.lit (.int .i64 0),.lit (.int .i64 10)]]],.vec 2 [.vec 2 [.lit (.int .i64 1),.lit (.int .i64 1)],.vec 2 [.lit (.int .i64 1),.lit (.int .i64 0)]]]
def Try.kv28_4:AVal:=.lit (.int .i64 0)
theorem Try.kc28_4:chk Try.ep1 1000000 28 Try.ka28_4 Try.kv28_4=true:=by kernel_rfl
def Try.ka28_5:List AVal:=[.agg [.lit (.int .i64 2),.vec 3 [.lit (.int .i64 2),.lit (.slice none 0 0),.vec 1 [.vec 2 [.lit (.int .i64 1),.lit (.int .i64 1)]],.lit (.int .i64 2),.vec 1 [.lit (.int .i64 0)],.lit (.slice none 0 0),.lit (.int .i64 2),.vec 1 [.lit (.int .i64 1)],.lit (.slice none 0 0)],.lit (.int .u64 6),.vec 1 [.vec 2 [.lit (.int .i64 0),.lit (.int .i64 2)],.vec 4 [.lit (.int .i64 10),.lit (.int .i64 0),.lit (.int .i64 0),.lit (.int .i64 10)]]],.vec 2 [.vec 2 [.lit (.int .i64 1),.lit (.int .i64 0)],.vec 2 [.lit (.int .i64 1),.lit (.int .i64 0)]]]
def Try.kv28_5:AVal:=.lit (.int .i64 0)
theorem Try.kc28_5:chk Try.ep1 1000000 28 Try.ka28_5 Try.kv28_5=true:=by kernel_rfl
def Try.kn28:KTab:=[(Try.ka28_0,Try.kv28_0),(Try.ka28_1,Try.kv28_1),(Try.ka28_2,Try.kv28_2),(Try.ka28_3,Try.kv28_3),(Try.ka28_4,Try.kv28_4),(Try.ka28_5,Try.kv28_5)]
theorem Try.kn28_ok:KOk Try.prog noGl 28 Try.kn28:=.cons (chk_ok Try.ep1_ok Try.kc28_0) (.cons (chk_ok Try.ep1_ok Try.kc28_1) (.cons (chk_ok Try.ep1_ok Try.kc28_2) (.cons (chk_ok Try.ep1_ok Try.kc28_3) (.cons (chk_ok Try.ep1_ok Try.kc28_4) (.cons (chk_ok Try.ep1_ok Try.kc28_5) .nil)))))
noncomputable def Try.ep2:EP:={ P:=Try.prog,G:=noGl,gd:=fun _=>none,known:=knownOf [(18,Try.kn18),(20,Try.kn20),(28,Try.kn28)] }
theorem Try.ep2_ok:EOk Try.ep2:=.of_known (l:=[(18,Try.kn18),(20,Try.kn20),(28,Try.kn28)]) rfl noGl_ok Try.mixedK (fun _ _ h=>by cases h) ⟨Try.kn18_ok,⟨Try.kn20_ok,⟨Try.kn28_ok,trivial⟩⟩⟩
def Try.ka66_0:List AVal:=[.agg [.lit (.int .i64 2),.vec 3 [.lit (.int .i64 2),.lit (.slice none 0 0),.vec 1 [.vec 2 [.lit (.int .i64 1),.lit (.int .i64 1)]],.lit (.int .i64 2),.vec 1 [.lit (.int .i64 0)],.lit (.slice none 0 0),.lit (.int .i64 2),.vec 1 [.lit (.int .i64 1)],.lit (.slice none 0 0)],.lit (.int .u64 6),.vec 1 [.vec 2 [.lit (.int .i64 0),.lit (.int .i64 2)],.vec 4 [.lit (.int .i64 10),.lit (.int .i64 0),.lit (.int .i64 0),.lit (.int .i64 10)]]]]
def Try.kv66_0:AVal:=.tup [.vec 8 [.lit (.int .i64 4),.lit (.int .i64 4),.lit (.int .i64 4),.lit (.int .i64 4),.lit (.int .i64 4),.lit (.int .i64 4),.lit (.int .i64 4),.lit (.int .i64 4)],.vec 8 [.lit (.int .i64 40),.lit (.int .i64 0),.lit (.int .i64 40),.lit (.int .i64 0),.lit (.int .i64 0),.lit (.int .i64 40),.lit (.int .i64 0),.lit (.int .i64 40)]]
theorem Try.kc66_0:chk Try.ep2 1000000 66 Try.ka66_0 Try.kv66_0=true:=by kernel_rfl
def Try.kn66:KTab:=[(Try.ka66_0,Try.kv66_0)]
theorem Try.kn66_ok:KOk Try.prog noGl 66 Try.kn66:=.cons (chk_ok Try.ep2_ok Try.kc66_0) .nil
noncomputable def Try.ep3:EP:={ P:=Try.prog,G:=noGl,gd:=fun _=>none,known:=knownOf [(18,Try.kn18),(20,Try.kn20),(28,Try.kn28),(66,Try.kn66)] }
theorem Try.ep3_ok:EOk Try.ep3:=.of_known (l:=[(18,Try.kn18),(20,Try.kn20),(28,Try.kn28),(66,Try.kn66)]) rfl noGl_ok Try.mixedK (fun _ _ h=>by cases h) ⟨Try.kn18_ok,⟨Try.kn20_ok,⟨Try.kn28_ok,⟨Try.kn66_ok,trivial⟩⟩⟩⟩
def Try.ka56_0:List AVal:=[.agg [.lit (.int .i64 2),.vec 3 [.lit (.int .i64 2),.lit (.slice none 0 0),.vec 1 [.vec 2 [.lit (.int .i64 1),.lit (.int .i64 1)]],.lit (.int .i64 2),.vec 1 [.lit (.int .i64 0)],.lit (.slice none 0 0),.lit (.int .i64 2),.vec 1 [.lit (.int .i64 1)],.lit (.slice none 0 0)],.lit (.int .u64 6),.vec 1 [.vec 2 [.lit (.int .i64 0),.lit (.int .i64 2)],.vec 4 [.lit (.int .i64 10),.lit (.int .i64 0),.lit (.int .i64 0),.lit (.int .i64 10)]]],.vec 2 [.vec 2 [.lit (.int .i64 0),.lit (.int .i64 0)],.vec 2 [.lit (.int .i64 0),.lit (.int .i64 0)]],.lit (.int .i64 1)]
def Try.kv56_0:AVal:=.tup [.vec 2 [.vec 2 [.lit (.int .i64 40),.lit (.int .i64 40)],.vec 2 [.lit (.int .i64 0),.lit (.int .i64 0)]],.lit (.int .i64 0)]
theorem Try.kc56_0:chk Try.ep3 1000000 56 Try.ka56_0 Try.kv56_0=true:=by kernel_rfl
def Try.ka56_1:List AVal:=[.agg [.lit (.int .i64 2),.vec 3 [.lit (.int .i64 2),.lit (.slice none 0 0),.vec 1 [.vec 2 [.lit (.int .i64 1),.lit (.int .i64 1)]],.lit (.int .i64 2),.vec 1 [.lit (.int .i64 0)],.lit (.slice none 0 0),.lit (.int .i64 2),.vec 1 [.lit (.int .i64 1)],.lit (.slice none 0 0)],.lit (.int .u64 6),.vec 1 [.vec 2 [.lit (.int .i64 0),.lit (.int .i64 2)],.vec 4 [.lit (.int .i64 10),.lit (.int .i64 0),.lit (.int .i64 0),.lit (.int .i64 10)]]],.vec 2 [.vec 2 [.lit (.int .i64 0),.lit (.int .i64 0)],.vec 2 [.lit (.int .i64 0),.lit (.int .i64 0)]],.lit (.int .i64 2)]
def Try.kv56_1:AVal:=.tup [.vec 2 [.vec 2 [.lit (.int .i64 40),.lit (.int .i64 40)],.vec 2 [.lit (.int .i64 0),.lit (.int .i64 0)]],.lit (.int .i64 0)]
theorem Try.kc56_1:chk Try.ep3 1000000 56 Try.ka56_1 Try.kv56_1=true:=by kernel_rfl
def Try.ka56_2:List AVal:=[.agg [.lit (.int .i64 2),.vec 3 [.lit (.int .i64 2),.lit (.slice none 0 0),.vec 1 [.vec 2 [.lit (.int .i64 1),.lit (.int .i64 1)]],.lit (.int .i64 2),.vec 1 [.lit (.int .i64 0)],.lit (.slice none 0 0),.lit (.int .i64 2),.vec 1 [.lit (.int .i64 1)],.lit (.slice none 0 0)],.lit (.int .u64 6),.vec 1 [.vec 2 [.lit (.int .i64 0),.lit (.int .i64 2)],.vec 4 [.lit (.int .i64 10),.lit (.int .i64 0),.lit (.int .i64 0),.lit (.int .i64 10)]]],.vec 2 [.vec 2 [.lit (.int .i64 0),.lit (.int .i64 1)],.vec 2 [.lit (.int .i64 0),.lit (.int .i64 0)]],.lit (.int .i64 1)]
def Try.kv56_2:AVal:=.tup [.vec 2 [.vec 2 [.lit (.int .i64 40),.lit (.int .i64 40)],.vec 2 [.lit (.int .i64 0),.lit (.int .i64 0)]],.lit (.int .i64 0)]
theorem Try.kc56_2:chk Try.ep3 1000000 56 Try.ka56_2 Try.kv56_2=true:=by kernel_rfl
def Try.ka56_3:List AVal:=[.agg [.lit (.int .i64 2),.vec 3 [.lit (.int .i64 2),.lit (.slice none 0 0),.vec 1 [.vec 2 [.lit (.int .i64 1),.lit (.int .i64 1)]],.lit (.int .i64 2),.vec 1 [.lit (.int .i64 0)],.lit (.slice none 0 0),.lit (.int .i64 2),.vec 1 [.lit (.int .i64 1)],.lit (.slice none 0 0)],.lit (.int .u64 6),.vec 1 [.vec 2 [.lit (.int .i64 0),.lit (.int .i64 2)],.vec 4 [.lit (.int .i64 10),.lit (.int .i64 0),.lit (.int .i64 0),.lit (.int .i64 10)]]],.vec 2 [.vec 2 [.lit (.int .i64 0),.lit (.int .i64 1)],.vec 2 [.lit (.int .i64 0),.lit (.int .i64 0)]],.lit (.int .i64 2)]
def Try.kv56_3:AVal:=.tup [.vec 2 [.vec 2 [.lit (.int .i64 40),.lit (.int .i64 0)],.vec 2 [.lit (.int .i64 0),.lit (.int .i64 40)]],.lit (.int .i64 0)]
theorem Try.kc56_3:chk Try.ep3 1000000 56 Try.ka56_3 Try.kv56_3=true:=by kernel_rfl
def Try.ka56_4:List AVal:=[.agg [.lit (.int .i64 2),.vec 3 [.lit (.int .i64 2),.lit (.slice none 0 0),.vec 1 [.vec 2 [.lit (.int .i64 1),.lit (.int .i64 1)]],.lit (.int .i64 2),.vec 1 [.lit (.int .i64 0)],.lit (.slice none 0 0),.lit (.int .i64 2),.vec 1 [.lit (.int .i64 1)],.lit (.slice none 0 0)],.lit (.int .u64 6),.vec 1 [.vec 2 [.lit (.int .i64 0),.lit (.int .i64 2)],.vec 4 [.lit (.int .i64 10),.lit (.int .i64 0),.lit (.int .i64 0),.lit (.int .i64 10)]]],.vec 2 [.vec 2 [.lit (.int .i64 0),.lit (.int .i64 1)],.vec 2 [.lit (.int .i64 0),.lit (.int .i64 1)]],.lit (.int .i64 1)]
def Try.kv56_4:AVal:=.tup [.vec 2 [.vec 2 [.lit (.int .i64 40),.lit (.int .i64 0)],.vec 2 [.lit (.int .i64 0),.lit (.int .i64 40)]],.lit (.int .i64 0)]
theorem Try.kc56_4:chk Try.ep3 1000000 56 Try.ka56_4 Try.kv56_4=true:=by kernel_rfl
def Try.ka56_5:List AVal:=[.agg [.lit (.int .i64 2),.vec 3 [.lit (.int .i64 2),.lit (.slice none 0 0),.vec 1 [.vec 2 [.lit (.int .i64 1),.lit (.int .i64 1)]],.lit (.int .i64 2),.vec 1 [.lit (.int .i64 0)],.lit (.slice none 0 0),.lit (.int .i64 2),.vec 1 [.lit (.int .i64 1)],.lit (.slice none 0 0)],.lit (.int .u64 6),.vec 1 [.vec 2 [.lit (.int .i64 0),.lit (.int .i64 2)],.vec 4 [.lit (.int .i64 10),.lit (.int .i64 0),.lit (.int .i64 0),.lit (.int .i64 10)]]],.vec 2 [.vec 2 [.lit (.int .i64 0),.lit (.int .i64 1)],.vec 2 [.lit (.int .i64 0),.lit (.int .i64 1)]],.lit (.int .i64 2)]
def Try.kv56_5:AVal:=.tup [.vec 2 [.vec 2 [.lit (.int .i64 40),.lit (.int .i64 0)],.vec 2 [.lit (.int .i64 0),.lit (.int .i64 40)]],.lit (.int .i64 0)]
theorem Try.kc56_5:chk Try.ep3 1000000 56 Try.ka56_5 Try.kv56_5=true:=by kernel_rfl
def Try.ka56_6:List AVal:=[.agg [.lit (.int .i64 2),.vec 3 [.lit (.int .i64 2),.lit (.slice none 0 0),.vec 1 [.vec 2 [.lit (.int .i64 1),.lit (.int .i64 1)]],.lit (.int .i64 2),.vec 1 [.lit (.int .i64 0)],.lit (.slice none 0 0),.lit (.int .i64 2),.vec 1 [.lit (.int .i64 1)],.lit (.slice none 0 0)],.lit (.int .u64 6),.vec 1 [.vec 2 [.lit (.int .i64 0),.lit (.int .i64 2)],.vec 4 [.lit (.int .i64 10),.lit (.int .i64 0),.lit (.int .i64 0),.lit (.int .i64 10)]]],.vec 2 [.vec 2 [.lit (.int .i64 1),.lit (.int .i64 1)],.vec 2 [.lit (.int .i64 1),.lit (.int .i64 0)]],.lit (.int .i64 1)]
def Try.kv56_6:AVal:=.tup [.vec 2 [.vec 2 [.lit (.int .i64 0),.lit (.int .i64 40)],.vec 2 [.lit (.int .i64 40),.lit (.int .i64 0)]],.lit (.int .i64 0)]
theorem Try.kc56_6:chk Try.ep3 1000000 56 Try.ka56_6 Try.kv56_6=true:=by kernel_rfl
def Try.ka56_7:List AVal:=[.agg [.lit (.int .i64 2),.vec 3 [.lit (.int .i64 2),.lit (.slice none 0 0),.vec 1 [.vec 2 [.lit (.int .i64 1),.lit (.int .i64 1)]],.lit (.int .i64 2),.vec 1 [.lit (.int .i64 0)],.lit (.slice none 0 0),.lit (.int .i64 2),.vec 1 [.lit (.int .i64 1)],.lit (.slice none 0 0)],.lit (.int .u64 6),.vec 1 [.vec 2 [.lit (.int .i64 0),.lit (.int .i64 2)],.vec 4 [.lit (.int .i64 10),.lit (.int .i64 0),.lit (.int .i64 0),.lit (.int .i64 10)]]],.vec 2 [.vec 2 [.lit (.int .i64 1),.lit (.int .i64 0)],.vec 2 [.lit (.int .i64 1),.lit (.int .i64 0)]],.lit (.int .i64 2)]
def Try.kv56_7:AVal:=.tup [.vec 2 [.vec 2 [.lit (.int .i64 0),.lit (.int .i64 40)],.vec 2 [.lit (.int .i64 40),.lit (.int .i64 0)]],.lit (.int .i64 0)]
theorem Try.kc56_7:chk Try.ep3 1000000 56 Try.ka56_7 Try.kv56_7=true:=by kernel_rfl
def Try.ka56_8:List AVal:=[.agg [.lit (.int .i64 2),.vec 3 [.lit (.int .i64 2),.lit (.slice none 0 0),.vec 1 [.vec 2 [.lit (.int .i64 1),.lit (.int .i64 1)]],.lit (.int .i64 2),.vec 1 [.lit (.int .i64 0)],.lit (.slice none 0 0),.lit (.int .i64 2),.vec 1 [.lit (.int .i64 1)],.lit (.slice none 0 0)],.lit (.int .u64 6),.vec 1 [.vec 2 [.lit (.int .i64 0),.lit (.int .i64 2)],.vec 4 [.lit (.int .i64 10),.lit (.int .i64 0),.lit (.int .i64 0),.lit (.int .i64 10)]]],.vec 2 [.vec 2 [.lit (.int .i64 1),.lit (.int .i64 0)],.vec 2 [.lit (.int .i64 1),.lit (.int .i64 0)]],.lit (.int .i64 1)]
def Try.kv56_8:AVal:=.tup [.vec 2 [.vec 2 [.lit (.int .i64 0),.lit (.int .i64 40)],.vec 2 [.lit (.int .i64 40),.lit (.int .i64 0)]],.lit (.int .i64 0)]
theorem Try.kc56_8:chk Try.ep3 1000000 56 Try.ka56_8 Try.kv56_8=true:=by kernel_rfl
def Try.kn56:KTab:=[(Try.ka56_0,Try.kv56_0),(Try.ka56_1,Try.kv56_1),(Try.ka56_2,Try.kv56_2),(Try.ka56_3,Try.kv56_3),(Try.ka56_4,Try.kv56_4),(Try.ka56_5,Try.kv56_5),(Try.ka56_6,Try.kv56_6),(Try.ka56_7,Try.kv56_7),(Try.ka56_8,Try.kv56_8)]
theorem Try.kn56_ok:KOk Try.prog noGl 56 Try.kn56:=.cons (chk_ok Try.ep3_ok Try.kc56_0) (.cons (chk_ok Try.ep3_ok Try.kc56_1) (.cons (chk_ok Try.ep3_ok Try.kc56_2) (.cons (chk_ok Try.ep3_ok Try.kc56_3) (.cons (chk_ok Try.ep3_ok Try.kc56_4) (.cons (chk_ok Try.ep3_ok Try.kc56_5) (.cons (chk_ok Try.ep3_ok Try.kc56_6) (.cons (chk_ok Try.ep3_ok Try.kc56_7) (.cons (chk_ok Try.ep3_ok Try.kc56_8) .nil))))))))
noncomputable def Try.ep4:EP:={ P:=Try.prog,G:=noGl,gd:=fun _=>none,known:=knownOf [(18,Try.kn18),(20,Try.kn20),(28,Try.kn28),(66,Try.kn66),(56,Try.kn56)] }
theorem Try.ep4_ok:EOk Try.ep4:=.of_known (l:=[(18,Try.kn18),(20,Try.kn20),(28,Try.kn28),(66,Try.kn66),(56,Try.kn56)]) rfl noGl_ok Try.mixedK (fun _ _ h=>by cases h) ⟨Try.kn18_ok,⟨Try.kn20_ok,⟨Try.kn28_ok,⟨Try.kn66_ok,⟨Try.kn56_ok,trivial⟩⟩⟩⟩⟩
def Try.ka11_0:List AVal:=[.agg [.lit (.int .i64 2),.vec 3 [.lit (.int .i64 2),.lit (.slice none 0 0),.vec 1 [.vec 2 [.lit (.int .i64 1),.lit (.int .i64 1)]],.lit (.int .i64 2),.vec 1 [.lit (.int .i64 0)],.lit (.slice none 0 0),.lit (.int .i64 2),.vec 1 [.lit (.int .i64 1)],.lit (.slice none 0 0)],.lit (.int .u64 6),.vec 1 [.vec 2 [.lit (.int .i64 0),.lit (.int .i64 2)],.vec 4 [.lit (.int .i64 10),.lit (.int .i64 0),.lit (.int .i64 0),.lit (.int .i64 10)]]],.vec 2 [.vec 2 [.lit (.int .i64 0),.lit (.int .i64 1)],.vec 2 [.lit (.int .i64 0),.lit (.int .i64 1)]]]
def Try.kv11_0:AVal:=.tup [.agg [.lit (.int .i64 10),.lit (.int .i64 1)],.lit (.int .i64 0)]
theorem Try.kc11_0:chk Try.ep4 1000000 11 Try.ka11_0 Try.kv11_0=true:=by kernel_rfl
def Try.ka11_1:List AVal:=[.agg [.lit (.int .i64 2),.vec 3 [.lit (.int .i64 2),.lit (.slice none 0 0),.vec 1 [.vec 2 [.lit (.int .i64 1),.lit (.int .i64 1)]],.lit (.int .i64 2),.vec 1 [.lit (.int .i64 0)],.lit (.slice none 0 0),.lit (.int .i64 2),.vec 1 [.lit (.int .i64 1)],.lit (.slice none 0 0)],.lit (.int .u64 6),.vec 1 [.vec 2 [.lit (.int .i64 0),.lit (.int .i64 2)],.vec 4 [.lit (.int .i64 10),.lit (.int .i64 0),.lit (.int .i64 0),.lit (.int .i64 10)]]],.vec 2 [.vec 2 [.lit (.int .i64 0),.lit (.int .i64 0)],.vec 2 [.lit (.int .i64 0),.lit (.int .i64 0)]]]
def Try.kv11_1:AVal:=.tup [.agg [.lit (.int .i64 5),.lit (.int .i64 1)],.lit (.int .i64 0)]
theorem Try.kc11_1:chk Try.ep4 1000000 11 Try.ka11_1 Try.kv11_1=true:=by kernel_rfl
def Try.ka11_2:List AVal:=[.agg [.lit (.int .i64 2),.vec 3 [.lit (.int .i64 2),.lit (.slice none 0 0),.vec 1 [.vec 2 [.lit (.int .i64 1),.lit (.int .i64 1)]],.lit (.int .i64 2),.vec 1 [.lit (.int .i64 0)],.lit (.slice none 0 0),.lit (.int .i64 2),.vec 1 [.lit (.int .i64 1)],.lit (.slice none 0 0)],.lit (.int .u64 6),.vec 1 [.vec 2 [.lit (.int .i64 0),.lit (.int .i64 2)],.vec 4 [.lit (.int .i64 10),.lit (.int .i64 0),.lit (.int .i64 0),.lit (.int .i64 10)]]],.vec 2 [.vec 2 [.lit (.int .i64 1),.lit (.int .i64 0)],.vec 2 [.lit (.int .i64 1),.lit (.int .i64 0)]]]
def Try.kv11_2:AVal:=.tup [.agg [.lit (.int .i64 10),.lit (.int .i64 1)],.lit (.int .i64 0)]
theorem Try.kc11_2:chk Try.ep4 1000000 11 Try.ka11_2 Try.kv11_2=true:=by kernel_rfl
def Try.kn11:KTab:=[(Try.ka11_0,Try.kv11_0),(Try.ka11_1,Try.kv11_1),(Try.ka11_2,Try.kv11_2)]
theorem Try.kn11_ok:KOk Try.prog noGl 11 Try.kn11:=.cons (chk_ok Try.ep4_ok Try.kc11_0) (.cons (chk_ok Try.ep4_ok Try.kc11_1) (.cons (chk_ok Try.ep4_ok Try.kc11_2) .nil))
noncomputable def Try.ep5:EP:={ P:=Try.prog,G:=noGl,gd:=fun _=>none,known:=knownOf [(18,Try.kn18),(20,Try.kn20),(28,Try.kn28),(66,Try.kn66),(56,Try.kn56),(11,Try.kn11)] }
theorem Try.ep5_ok:EOk Try.ep5:=.of_known (l:=[(18,Try.kn18),(20,Try.kn20),(28,Try.kn28),(66,Try.kn66),(56,Try.kn56),(11,Try.kn11)]) rfl noGl_ok Try.mixedK (fun _ _ h=>by cases h) ⟨Try.kn18_ok,⟨Try.kn20_ok,⟨Try.kn28_ok,⟨Try.kn66_ok,⟨Try.kn56_ok,⟨Try.kn11_ok,trivial⟩⟩⟩⟩⟩⟩
def Try.ka9_0:List AVal:=[.agg [.lit (.int .i64 2),.vec 3 [.lit (.int .i64 2),.lit (.slice none 0 0),.vec 1 [.vec 2 [.lit (.int .i64 1),.lit (.int .i64 1)]],.lit (.int .i64 2),.vec 1 [.lit (.int .i64 0)],.lit (.slice none 0 0),.lit (.int .i64 2),.vec 1 [.lit (.int .i64 1)],.lit (.slice none 0 0)],.lit (.int .u64 6),.vec 1 [.vec 2 [.lit (.int .i64 0),.lit (.int .i64 2)],.vec 4 [.lit (.int .i64 10),.lit (.int .i64 0),.lit (.int .i64 0),.lit (.int .i64 10)]]],.vec 2 [.vec 2 [.lit (.int .i64 0),.lit (.int .i64 0)],.vec 2 [.lit (.int .i64 0),.lit (.int .i64 0)]]]
def Try.kv9_0:AVal:=.tup [.lit (.bool true),.lit (.int .i64 0)]
theorem Try.kc9_0:chk Try.ep5 1000000 9 Try.ka9_0 Try.kv9_0=true:=by kernel_rfl
def Try.ka9_1:List AVal:=[.agg [.lit (.int .i64 2),.vec 3 [.lit (.int .i64 2),.lit (.slice none 0 0),.vec 1 [.vec 2 [.lit (.int .i64 1),.lit (.int .i64 1)]],.lit (.int .i64 2),.vec 1 [.lit (.int .i64 0)],.lit (.slice none 0 0),.lit (.int .i64 2),.vec 1 [.lit (.int .i64 1)],.lit (.slice none 0 0)],.lit (.int .u64 6),.vec 1 [.vec 2 [.lit (.int .i64 0),.lit (.int .i64 2)],.vec 4 [.lit (.int .i64 10),.lit (.int .i64 0),.lit (.int .i64 0),.lit (.int .i64 10)]]],.vec 2 [.vec 2 [.lit (.int .i64 0),.lit (.int .i64 1)],.vec 2 [.lit (.int .i64 0),.lit (.int .i64 0)]]]
def Try.kv9_1:AVal:=.tup [.lit (.bool false),.lit (.int .i64 0)]
theorem Try.kc9_1:chk Try.ep5 1000000 9 Try.ka9_1 Try.kv9_1=true:=by kernel_rfl
def Try.ka9_2:List AVal:=[.agg [.lit (.int .i64 2),.vec 3 [.lit (.int .i64 2),.lit (.slice none 0 0),.vec 1 [.vec 2 [.lit (.int .i64 1),.lit (.int .i64 1)]],.lit (.int .i64 2),.vec 1 [.lit (.int .i64 0)],.lit (.slice none 0 0),.lit (.int .i64 2),.vec 1 [.lit (.int .i64 1)],.lit (.slice none 0 0)],.lit (.int .u64 6),.vec 1 [.vec 2 [.lit (.int .i64 0),.lit (.int .i64 2)],.vec 4 [.lit (.int .i64 10),.lit (.int .i64 0),.lit (.int .i64 0),.lit (.int .i64 10)]]],.vec 1 [.vec 2 [.lit (.int .i64 0),.lit (.int .i64 0)]]]
def Try.kv9_2:AVal:=.tup [.lit (.bool false),.lit (.int .i64 201)]
theorem Try.kc9_2:chk Try.ep5 1000000 9 Try.ka9_2 Try.kv9_2=true:=by kernel_rfl
def Try.kn9:KTab:=[(Try.ka9_0,Try.kv9_0),(Try.ka9_1,Try.kv9_1),(Try.ka9_2,Try.kv9_2)]
theorem Try.kn9_ok:KOk Try.prog noGl 9 Try.kn9:=.cons (chk_ok Try.ep5_ok Try.kc9_0) (.cons (chk_ok Try.ep5_ok Try.kc9_1) (.cons (chk_ok Try.ep5_ok Try.kc9_2) .nil))
noncomputable def Try.ep6:EP:={ P:=Try.prog,G:=noGl,gd:=fun _=>none,known:=knownOf [(18,Try.kn18),(20,Try.kn20),(28,Try.kn28),(66,Try.kn66),(56,Try.kn56),(11,Try.kn11),(9,Try.kn9)] }
theorem Try.ep6_ok:EOk Try.ep6:=.of_known (l:=[(18,Try.kn18),(20,Try.kn20),(28,Try.kn28),(66,Try.kn66),(56,Try.kn56),(11,Try.kn11),(9,Try.kn9)]) rfl noGl_ok Try.mixedK (fun _ _ h=>by cases h) ⟨Try.kn18_ok,⟨Try.kn20_ok,⟨Try.kn28_ok,⟨Try.kn66_ok,⟨Try.kn56_ok,⟨Try.kn11_ok,⟨Try.kn9_ok,trivial⟩⟩⟩⟩⟩⟩⟩
def Try.ka10_0:List AVal:=[.agg [.lit (.int .i64 2),.vec 3 [.lit (.int .i64 2),.lit (.slice none 0 0),.vec 1 [.vec 2 [.lit (.int .i64 1),.lit (.int .i64 1)]],.lit (.int .i64 2),.vec 1 [.lit (.int .i64 0)],.lit (.slice none 0 0),.lit (.int .i64 2),.vec 1 [.lit (.int .i64 1)],.lit (.slice none 0 0)],.lit (.int .u64 6),.vec 1 [.vec 2 [.lit (.int .i64 0),.lit (.int .i64 2)],.vec 4 [.lit (.int .i64 10),.lit (.int .i64 0),.lit (.int .i64 0),.lit (.int .i64 10)]]],.vec 2 [.vec 2 [.lit (.int .i64 0),.lit (.int .i64 1)],.vec 2 [.lit (.int .i64 0),.lit (.int .i64 0)]]]
def Try.kv10_0:AVal:=.tup [.vec 2 [.vec 2 [.lit (.int .i64 0),.lit (.int .i64 1)],.vec 2 [.lit (.int .i64 0),.lit (.int .i64 1)]],.agg [.lit (.int .i64 10),.lit (.int .i64 1)],.lit (.int .i64 1),.lit (.int .i64 0)]
theorem Try.kc10_0:chk Try.ep6 1000000 10 Try.ka10_0 Try.kv10_0=true:=by kernel_rfl
def Try.ka10_1:List AVal:=[.agg [.lit (.int .i64 2),.vec 3 [.lit (.int .i64 2),.lit (.slice none 0 0),.vec 1 [.vec 2 [.lit (.int .i64 1),.lit (.int .i64 1)]],.lit (.int .i64 2),.vec 1 [.lit (.int .i64 0)],.lit (.slice none 0 0),.lit (.int .i64 2),.vec 1 [.lit (.int .i64 1)],.lit (.slice none 0 0)],.lit (.int .u64 6),.vec 1 [.vec 2 [.lit (.int .i64 0),.lit (.int .i64 2)],.vec 4 [.lit (.int .i64 10),.lit (.int .i64 0),.lit (.int .i64 0),.lit (.int .i64 10)]]],.vec 2 [.vec 2 [.lit (.int .i64 0),.lit (.int .i64 0)],.vec 2 [.lit (.int .i64 0),.lit (.int .i64 0)]]]
def Try.kv10_1:AVal:=.tup [.vec 2 [.vec 2 [.lit (.int .i64 0),.lit (.int .i64 0)],.vec 2 [.lit (.int .i64 0),.lit (.int .i64 0)]],.agg [.lit (.int .i64 5),.lit (.int .i64 1)],.lit (.int .i64 0),.lit (.int .i64 0)]
theorem Try.kc10_1:chk Try.ep6 1000000 10 Try.ka10_1 Try.kv10_1=true:=by kernel_rfl
def Try.ka10_2:List AVal:=[.agg [.lit (.int .i64 2),.vec 3 [.lit (.int .i64 2),.lit (.slice none 0 0),.vec 1 [.vec 2 [.lit (.int .i64 1),.lit (.int .i64 1)]],.lit (.int .i64 2),.vec 1 [.lit (.int .i64 0)],.lit (.slice none 0 0),.lit (.int .i64 2),.vec 1 [.lit (.int .i64 1)],.lit (.slice none 0 0)],.lit (.int .u64 6),.vec 1 [.vec 2 [.lit (.int .i64 0),.lit (.int .i64 2)],.vec 4 [.lit (.int .i64 10),.lit (.int .i64 0),.lit (.int .i64 0),.lit (.int .i64 10)]]],.vec 2 [.vec 2 [.lit (.int .i64 1),.lit (.int .i64 1)],.vec 2 [.lit (.int .i64 1),.lit (.int .i64 0)]]]
def Try.kv10_2:AVal:=.tup [.vec 2 [.vec 2 [.lit (.int .i64 1),.lit (.int .i64 0)],.vec 2 [.lit (.int .i64 1),.lit (.int .i64 0)]],.agg [.lit (.int .i64 10),.lit (.int .i64 1)],.lit (.int .i64 1),.lit (.int .i64 0)]
theorem Try.kc10_2:chk Try.ep6 1000000 10 Try.ka10_2 Try.kv10_2=true:=by kernel_rfl
def Try.kn10:KTab:=[(Try.ka10_0,Try.kv10_0),(Try.ka10_1,Try.kv10_1),(Try.ka10_2,Try.kv10_2)]
theorem Try.kn10_ok:KOk Try.prog noGl 10 Try.kn10:=.cons (chk_ok Try.ep6_ok Try.kc10_0) (.cons (chk_ok Try.ep6_ok Try.kc10_1) (.cons (chk_ok Try.ep6_ok Try.kc10_2) .nil))
noncomputable def Try.ep7:EP:={ P:=Try.prog,G:=noGl,gd:=fun _=>none,known:=knownOf [(18,Try.kn18),(20,Try.kn20),(28,Try.kn28),(66,Try.kn66),(56,Try.kn56),(11,Try.kn11),(9,Try.kn9),(10,Try.kn10)] }
theorem Try.ep7_ok:EOk Try.ep7:=.of_known (l:=[(18,Try.kn18),(20,Try.kn20),(28,Try.kn28),(66,Try.kn66),(56,Try.kn56),(11,Try.kn11),(9,Try.kn9),(10,Try.kn10)]) rfl noGl_ok Try.mixedK (fun _ _ h=>by cases h) ⟨Try.kn18_ok,⟨Try.kn20_ok,⟨Try.kn28_ok,⟨Try.kn66_ok,⟨Try.kn56_ok,⟨Try.kn11_ok,⟨Try.kn9_ok,⟨Try.kn10_ok,trivial⟩⟩⟩⟩⟩⟩⟩⟩
def Try.ka21_0:List AVal:=[.agg [.lit (.int .i64 0),.lit (.int .i64 1)],.agg [.lit (.int .i64 0),.lit (.int .i64 0)],.agg [.lit (.int .i64 0),.lit (.int .i64 1)],.agg [.lit (.int .i64 0),.lit (.int .i64 1)],.lit (.int .i64 10),.lit (.int .i64 1)]
def Try.kv21_0:AVal:=.lit (.bool true)
theorem Try.kc21_0:chk Try.ep7 1000000 21 Try.ka21_0 Try.kv21_0=true:=by kernel_rfl
def Try.ka21_1:List AVal:=[.agg [.lit (.int .i64 0),.lit (.int .i64 0)],.agg [.lit (.int .i64 0),.lit (.int .i64 0)],.agg [.lit (.int .i64 0),.lit (.int .i64 0)],.agg [.lit (.int .i64 0),.lit (.int .i64 0)],.lit (.int .i64 5),.lit (.int .i64 0)]
def Try.kv21_1:AVal:=.lit (.bool true)
theorem Try.kc21_1:chk Try.ep7 1000000 21 Try.ka21_1 Try.kv21_1=true:=by kernel_rfl
def Try.ka21_2:List AVal:=[.agg [.lit (.int .i64 1),.lit (.int .i64 1)],.agg [.lit (.int .i64 1),.lit (.int .i64 0)],.agg [.lit (.int .i64 1),.lit (.int .i64 0)],.agg [.lit (.int .i64 1),.lit (.int .i64 0)],.lit (.int .i64 10),.lit (.int .i64 1)]
def Try.kv21_2:AVal:=.lit (.bool true)
theorem Try.kc21_2:chk Try.ep7 1000000 21 Try.ka21_2 Try.kv21_2=true:=by kernel_rfl
def Try.kn21:KTab:=[(Try.ka21_0,Try.kv21_0),(Try.ka21_1,Try.kv21_1),(Try.ka21_2,Try.kv21_2)]
theorem Try.kn21_ok:KOk Try.prog noGl 21 Try.kn21:=.cons (chk_ok Try.ep7_ok Try.kc21_0) (.cons (chk_ok Try.ep7_ok Try.kc21_1) (.cons (chk_ok Try.ep7_ok Try.kc21_2) .nil))
noncomputable def Try.ep8:EP:={ P:=Try.prog,G:=noGl,gd:=fun _=>none,known:=knownOf [(18,Try.kn18),(20,Try.kn20),(28,Try.kn28),(66,Try.kn66),(56,Try.kn56),(11,Try.kn11),(9,Try.kn9),(10,Try.kn10),(21,Try.kn21)] }
theorem Try.ep8_ok:EOk Try.ep8:=.of_known (l:=[(18,Try.kn18),(20,Try.kn20),(28,Try.kn28),(66,Try.kn66),(56,Try.kn56),(11,Try.kn11),(9,Try.kn9),(10,Try.kn10),(21,Try.kn21)]) rfl noGl_ok Try.mixedK (fun _ _ h=>by cases h) ⟨Try.kn18_ok,⟨Try.kn20_ok,⟨Try.kn28_ok,⟨Try.kn66_ok,⟨Try.kn56_ok,⟨Try.kn11_ok,⟨Try.kn9_ok,⟨Try.kn10_ok,⟨Try.kn21_ok,trivial⟩⟩⟩⟩⟩⟩⟩⟩⟩
def Try.ka19_0:List AVal:=[.agg [.lit (.int .i64 2),.vec 3 [.lit (.int .i64 2),.lit (.slice none 0 0),.vec 1 [.vec 2 [.lit (.int .i64 1),.lit (.int .i64 1)]],.lit (.int .i64 2),.vec 1 [.lit (.int .i64 0)],.lit (.slice none 0 0),.lit (.int .i64 2),.vec 1 [.lit (.int .i64 1)],.lit (.slice none 0 0)],.lit (.int .u64 6),.vec 1 [.vec 2 [.lit (.int .i64 0),.lit (.int .i64 2)],.vec 4 [.lit (.int .i64 10),.lit (.int .i64 0),.lit (.int .i64 0),.lit (.int .i64 10)]]]]
def Try.kv19_0:AVal:=.tup [.vec 2 [.vec 2 [.lit (.int .i64 0),.lit (.int .i64 1)],.vec 2 [.lit (.int .i64 0),.lit (.int .i64 1)]],.agg [.lit (.int .i64 10),.lit (.int .i64 1)],.lit (.int .i64 0)]
theorem Try.kc19_0:chk Try.ep8 1000000 19 Try.ka19_0 Try.kv19_0=true:=by kernel_rfl
def Try.kn19:KTab:=[(Try.ka19_0,Try.kv19_0)]
theorem Try.kn19_ok:KOk Try.prog noGl 19 Try.kn19:=.cons (chk_ok Try.ep8_ok Try.kc19_0) .nil
noncomputable def Try.ep9:EP:={ P:=Try.prog,G:=noGl,gd:=fun _=>none,known:=knownOf [(18,Try.kn18),(20,Try.kn20),(28,Try.kn28),(66,Try.kn66),(56,Try.kn56),(11,Try.kn11),(9,Try.kn9),(10,Try.kn10),(21,Try.kn21),(19,Try.kn19)] }
theorem Try.ep9_ok:EOk Try.ep9:=.of_known (l:=[(18,Try.kn18),(20,Try.kn20),(28,Try.kn28),(66,Try.kn66),(56,Try.kn56),(11,Try.kn11),(9,Try.kn9),(10,Try.kn10),(21,Try.kn21),(19,Try.kn19)]) rfl noGl_ok Try.mixedK (fun _ _ h=>by cases h) ⟨Try.kn18_ok,⟨Try.kn20_ok,⟨Try.kn28_ok,⟨Try.kn66_ok,⟨Try.kn56_ok,⟨Try.kn11_ok,⟨Try.kn9_ok,⟨Try.kn10_ok,⟨Try.kn21_ok,⟨Try.kn19_ok,trivial⟩⟩⟩⟩⟩⟩⟩⟩⟩⟩
def Try.ka6_0:List AVal:=[]
def Try.kv6_0:AVal:=.lit (.bool true)
theorem Try.kc6_0:chk Try.ep9 1000000 6 Try.ka6_0 Try.kv6_0=true:=by kernel_rfl
theorem works_ok (H:AHeap)(K:ARes→AHeap→Prop)(hK:K (.ret (.lit (.bool true))) H):ACall Try.prog G0 6 [] H K :=
 (ACall.frame (args':=[]) G0_ok rfl (fun i h _=>absurd h (Nat.not_lt_zero _)) (chk_ok Try.ep9_ok Try.kc6_0)).mono fun r H' ⟨h1,h2⟩=>by rw[h1,h2];exact hK
end Go.Proofs
set_option linter.unusedSimpArgs false
set_option maxRecDepth 100000
namespace Go.Proofs
open Go.Hx
theorem weak2 {f:FuncId}{H:AHeap}{K:ARes→AHeap→Prop}(d:InfP)(p:List (List Int))(h:ACall Try.prog G0 f [infV d,vecV p] H K):ACall Try.prog G0 f [infE d,vecV p] H K :=
 ACall.weakArgs (args':=[infV d,vecV p]) G0_ok rfl (fun i hi _=>match i,hi with|0,_=>fz_infE d|1,_=>fz_vecV p) h
set_option maxHeartbeats 8000000 in
theorem ends_spec (d:D20)(hd:d.Ok)(bs:List Int)(hbl:(bs.length:Int)<2 ^ 63)(hb8:∀ x∈bs,U8 x)(H:AHeap)(K:ARes→AHeap→Prop)(hK:∀ H',H.next≤H'.next→K (.ret (.lit (.bool true))) H'):
  ACall Try.prog G0 3 [.agg d.cells,.vec bs.length (bytesL bs)] H K:=by
 refine ACall.of_bodyW (n:=123) (rs:=[.tmp 4]) Try.func3 rfl rfl rfl (by decide) (by simp) ?_
 refine W.seq (vc_sound _ _ _ (by rfl) ?_)
 simp only[go_sem,D20.cells]
 obtain⟨H1,hH1⟩:∃ H1,H1=ext H [.arr 0 28 [.lit (.int .u8 d.g),.vec d.ps.length (drC d.ps),.vec d.ord.length (bytesL d.ord),.lit (.int .u8 d.decs),.lit (.bool d.rem),.vec d.us.length (utC d.us)]]:=⟨_,rfl⟩
 have g2:H1.get H.next=some (.arr 0 28 [.lit (.int .u8 d.g),.vec d.ps.length (drC d.ps),.vec d.ord.length (bytesL d.ord),.lit (.int .u8 d.decs),.lit (.bool d.rem),.vec d.us.length (utC d.us)]):=by rw[hH1];exact get_ext0 ..
 have n1:H1.next=H.next+1:=by rw[hH1];rfl
 rw[← hH1]
 clear hH1
 have l2:=get_live g2
 refine W.seq (vc_sound _ _ _ (by rfl) ?_)
 simp only[go_sem]
 refine AApply.clo (works_ok _ _ ⟨trivial,?_⟩)
 simp only[go_sem]
 refine W.seq (vc_sound _ _ _ (by rfl) ?_)
 simp only[go_sem,l2]
 refine AApply.clo (influence20_spec d hd _ _ fun x hx=>⟨trivial,?_⟩)
 have hok:=hx.ok
 have hf:=fit_ok hok
 have n8:=hok.n.n1
 have h6:x.nodes.length≤6:=by have:=hx.n5;omega
 simp only[go_sem,infE_eq,infEC]
 obtain⟨H2,hH2⟩:∃ H2,H2=ext H1 [.arr 0 34 [.lit (.int .i64 x.grain),.vec x.nodes.length (nodesE x.nodes),.lit (.int .u64 (x.decs:Int)),.vec x.utils.length (utilsC x.utils)]]:=⟨_,rfl⟩
 have g5:H2.get H1.next=some (.arr 0 34 [.lit (.int .i64 x.grain),.vec x.nodes.length (nodesE x.nodes),.lit (.int .u64 (x.decs:Int)),.vec x.utils.length (utilsC x.utils)]):=by rw[hH2];exact ext1_get_new
 have n2:H2.next=H1.next+1:=by rw[hH2];rfl
 rw[← hH2]
 clear hH2
 have l5:=get_live g5
 refine W.seq (vc_sound _ _ _ (by rfl) ?_)
 simp only[go_sem,l5]
 refine AApply.clo (choose20_spec x hf hok bs hbl hb8 _ _ fun p hp=>⟨trivial,?_⟩)
 have hpf:=polFit_ok hok hp
 have hpe:=polErr_ok hok hp
 simp only[go_sem]
 refine W.env fun E hE=>?_
 have e5:E 5=.ptr H1.next 0 0:=by rw[hE];simp only[go_sem]
 have e6:E 6=vecV p:=by rw[hE];simp only[go_sem]
 clear hE
 refine W.seq (vc_sound _ _ _ (by rfl) ?_)
 simp only[go_sem,e5,e6,l5]
 refine AApply.clo (weak2 x p (local_spec x hf h6 p hpf _ _ ⟨trivial,?_⟩))
 have hlp:locB x p=decide (isLocal x p):=if_pos hpe
 rw[hpe,hlp]
 simp only[go_sem]
 refine W.env fun E1 hE1=>?_
 have a5:E1 5=.ptr H1.next 0 0:=by rw[hE1];simp only[go_sem,e5]
 have a6:E1 6=vecV p:=by rw[hE1];simp only[go_sem,e6]
 have a7:E1 7=.lit (.bool (decide (isLocal x p))):=by rw[hE1];simp only[go_sem]
 have a8:E1 8=lin 0:=by rw[hE1];simp only[go_sem]
 clear hE1
 refine W.seq (vc_sound _ _ _ (by rfl) ?_)
 simp only[go_sem,a5,a6,l5]
 refine AApply.clo (weak2 x p (improve_spec x hok h6 p hp _ _ fun q n hI hlq=>⟨trivial,?_⟩))
 have gp:=grain_pow hok
 obtain⟨D,hD⟩:∃ D,D=x.grain ^ x.nodes.length:=⟨_,rfl⟩
 rw[← hD]at gp
 obtain⟨va,vb,vg,hv,hvF⟩:=ratio_facts (S:=sumP x q) (D:=D) gp.1
 rw[← hD,hv]
 have hqo:=hI.ok
 have hqf:=polFit_ok hok hqo
 have hqe:=polErr_ok hok hqo
 simp only[go_sem]
 obtain⟨H3,hH3⟩:∃ H3,H3=ext H2 [.arr 0 42 [.lit (.int .i64 va),.lit (.int .i64 vb)]]:=⟨_,rfl⟩
 have g10:H3.get H2.next=some (.arr 0 42 [.lit (.int .i64 va),.lit (.int .i64 vb)]):=by rw[hH3];exact ext1_get_new
 have o3:Over H2 H3:=by rw[hH3];exact .ext _ _
 have g5:=(o3.old _ (by omega)).trans g5
 have n3:H3.next=H2.next+1:=by rw[hH3];rfl
 rw[← hH3]
 clear hH3
 have l5:=get_live g5
 refine W.env fun E2 hE2=>?_
 have b5:E2 5=.ptr H1.next 0 0:=by rw[hE2];simp only[go_sem,a5]
 have b6:E2 6=vecV p:=by rw[hE2];simp only[go_sem,a6]
 have b7:E2 7=.lit (.bool (decide (isLocal x p))):=by rw[hE2];simp only[go_sem,a7]
 have b8:E2 8=lin 0:=by rw[hE2];simp only[go_sem,a8]
 have b9:E2 9=vecV q:=by rw[hE2];simp only[go_sem]
 have b10:E2 10=.ptr H2.next 0 0:=by rw[hE2];simp only[go_sem]
 have b11:E2 11=lin n:=by rw[hE2];simp only[go_sem]
 have b12:E2 12=lin 0:=by rw[hE2];simp only[go_sem]
 clear hE2
 refine W.seq (vc_sound _ _ _ (by rfl) ?_)
 simp only[go_sem,b8,b12]
 refine W.seq (vc_sound _ _ _ (by rfl) ?_)
 simp only[go_sem,b5,b9,l5]
 refine AApply.clo (weak2 x q (local_spec x hf h6 q hqf _ _ ⟨trivial,?_⟩))
 have hlq2:locB x q=true:=by unfold locB;rw[if_pos hqe];exact decide_eq_true hlq
 rw[hqe,hlq2]
 simp only[go_sem]
 refine W.env fun E3 hE3=>?_
 have c5:E3 5=.ptr H1.next 0 0:=by rw[hE3];simp only[go_sem,b5]
 have c6:E3 6=vecV p:=by rw[hE3];simp only[go_sem,b6]
 have c7:E3 7=.lit (.bool (decide (isLocal x p))):=by rw[hE3];simp only[go_sem,b7]
 have c9:E3 9=vecV q:=by rw[hE3];simp only[go_sem,b9]
 have c10:E3 10=.ptr H2.next 0 0:=by rw[hE3];simp only[go_sem,b10]
 have c11:E3 11=lin n:=by rw[hE3];simp only[go_sem,b11]
 have c13:E3 13=.lit (.bool true):=by rw[hE3];simp only[go_sem]
 have c14:E3 14=lin 0:=by rw[hE3];simp only[go_sem]
 clear hE3
 refine W.seq (vc_sound _ _ _ (by rfl) ?_)
 simp only[go_sem,c5,c6,l5]
 refine AApply.clo (weak2 x p (value_spec x hf p hpf (sumsOk6 h6 p) _ _ ⟨trivial,?_⟩))
 obtain⟨ua,ub,ug,hu,huF⟩:=ratio_facts (S:=sumP x p) (D:=D) gp.1
 rw[hpe,valR_ok hok hp,← hD,hu]
 simp only[go_sem]
 obtain⟨H4,hH4⟩:∃ H4,H4=ext H3 [.arr 0 42 [.lit (.int .i64 ua),.lit (.int .i64 ub)]]:=⟨_,rfl⟩
 have g15:H4.get H3.next=some (.arr 0 42 [.lit (.int .i64 ua),.lit (.int .i64 ub)]):=by rw[hH4];exact ext1_get_new
 have o4:Over H3 H4:=by rw[hH4];exact .ext _ _
 have g5:=(o4.old _ (by omega)).trans g5
 have g10:=(o4.old _ (by omega)).trans g10
 have n4:H4.next=H3.next+1:=by rw[hH4];rfl
 rw[← hH4]
 clear hH4
 have l5:=get_live g5
 refine W.env fun E4 hE4=>?_
 have d5:E4 5=.ptr H1.next 0 0:=by rw[hE4];simp only[go_sem,c5]
 have d6:E4 6=vecV p:=by rw[hE4];simp only[go_sem,c6]
 have d7:E4 7=.lit (.bool (decide (isLocal x p))):=by rw[hE4];simp only[go_sem,c7]
 have d9:E4 9=vecV q:=by rw[hE4];simp only[go_sem,c9]
 have d10:E4 10=.ptr H2.next 0 0:=by rw[hE4];simp only[go_sem,c10]
 have d11:E4 11=lin n:=by rw[hE4];simp only[go_sem,c11]
 have d13:E4 13=.lit (.bool true):=by rw[hE4];simp only[go_sem,c13]
 have d14:E4 14=lin 0:=by rw[hE4];simp only[go_sem,c14]
 have d15:E4 15=.ptr H3.next 0 0:=by rw[hE4];simp only[go_sem]
 have d16:E4 16=lin 0:=by rw[hE4];simp only[go_sem]
 clear hE4
 refine W.seq (vc_sound _ _ _ (by rfl) ?_)
 simp only[go_sem,d5,d9,l5]
 refine AApply.clo (weak2 x q (value_spec x hf q hqf (sumsOk6 h6 q) _ _ ⟨trivial,?_⟩))
 rw[hqe,valR_ok hok hqo,← hD,hv]
 simp only[go_sem]
 obtain⟨H5,hH5⟩:∃ H5,H5=ext H4 [.arr 0 42 [.lit (.int .i64 va),.lit (.int .i64 vb)]]:=⟨_,rfl⟩
 have g17:H5.get H4.next=some (.arr 0 42 [.lit (.int .i64 va),.lit (.int .i64 vb)]):=by rw[hH5];exact ext1_get_new
 have o5:Over H4 H5:=by rw[hH5];exact .ext _ _
 have g10:=(o5.old _ (by omega)).trans g10
 have g15:=(o5.old _ (by omega)).trans g15
 have n5:H5.next=H4.next+1:=by rw[hH5];rfl
 rw[← hH5]
 clear hH5
 have l10:=get_live g10
 have l15:=get_live g15
 have l17:=get_live g17
 refine W.env fun E5 hE5=>?_
 have f6:E5 6=vecV p:=by rw[hE5];simp only[go_sem,d6]
 have f7:E5 7=.lit (.bool (decide (isLocal x p))):=by rw[hE5];simp only[go_sem,d7]
 have f9:E5 9=vecV q:=by rw[hE5];simp only[go_sem,d9]
 have f10:E5 10=.ptr H2.next 0 0:=by rw[hE5];simp only[go_sem,d10]
 have f11:E5 11=lin n:=by rw[hE5];simp only[go_sem,d11]
 have f13:E5 13=.lit (.bool true):=by rw[hE5];simp only[go_sem,d13]
 have f14:E5 14=lin 0:=by rw[hE5];simp only[go_sem,d14]
 have f15:E5 15=.ptr H3.next 0 0:=by rw[hE5];simp only[go_sem,d15]
 have f16:E5 16=lin 0:=by rw[hE5];simp only[go_sem,d16]
 have f17:E5 17=.ptr H4.next 0 0:=by rw[hE5];simp only[go_sem]
 have f18:E5 18=lin 0:=by rw[hE5];simp only[go_sem]
 clear hE5
 have nq:∀ o1 o2,binA Try.prog .neq 42 o1 o2 (.agg [.lit (.int .i64 va),.lit (.int .i64 vb)]) (.agg [.lit (.int .i64 va),.lit (.int .i64 vb)])=some (.lit (.bool false)):=fun o1 o2=>by rw[neqQ];simp
 have sP:=sumG_bound hok h6 (fixC p)
 have sQ:=sumG_bound hok h6 (fixC q)
 have eP:=sumP_eq hok hp
 have eQ:=sumP_eq hok hqo
 have hcv:=hvF.check (by omega) (by omega)
 have hcu:=huF.check (by omega) (by omega)
 have hvb:=hvF.bound
 have hub:=huF.bound
 have hv1:=hvF.b1
 have hu1:=huF.b1
 have hn0:¬ (n:Int)<0:=by omega
 refine W.seq (vc_sound _ _ _ (by rfl) ?_)
 simp only[go_sem,f10,f13,f14,f16,f17,f18,l10,l17,nq]
 refine AApply.clo (R01.Right_spec va vb (by unfold R01.I64;omega) (by unfold R01.I64;omega) _ _ ⟨trivial,?_⟩)
 rw[decide_eq_true hcv]
 simp only[go_sem,f15,l15]
 refine AApply.clo (R01.Right_spec ua ub (by unfold R01.I64;omega) (by unfold R01.I64;omega) _ _ ⟨trivial,?_⟩)
 rw[decide_eq_true hcu]
 simp only[go_sem,f11,hn0]
 have hcmp:=huF.cmp gp.1 hvF
 refine W.env fun E6 hE6=>?_
 have h6':E6 6=vecV p:=by rw[hE6];simp only[go_sem,f6]
 have h7':E6 7=.lit (.bool (decide (isLocal x p))):=by rw[hE6];simp only[go_sem,f7]
 have h9':E6 9=vecV q:=by rw[hE6];simp only[go_sem,f9]
 have h10':E6 10=.ptr H2.next 0 0:=by rw[hE6];simp only[go_sem,f10]
 have h11':E6 11=lin n:=by rw[hE6];simp only[go_sem,f11]
 have h15':E6 15=.ptr H3.next 0 0:=by rw[hE6];simp only[go_sem,f15]
 clear hE6
 refine W.seq (vc_sound _ _ _ (by rfl) ?_)
 simp only[go_sem,h10',h15',l10,l15]
 refine AApply.clo (R01.rCmp_spec ua ub va vb (by unfold R01.I64;omega) (by unfold R01.I64;omega) (by unfold R01.I64;omega) (by unfold R01.I64;omega) hu1 hv1 _ _ ⟨trivial,?_⟩)
 rw[hcmp]
 have hplen:(p.length:Int)<2 ^ 62:=by have:=hpf.1;omega
 have hprow:∀ r∈p,(r.length:Int)<2 ^ 62:=fun r hr=>by have:=hpf.2 r hr;omega
 have hfin:=hK H5 (by omega)
 rcases Nat.eq_zero_or_pos n with hn|hn
 ·have hqp:=hI.same hn
  rw[hqp]at hlq
  have hc:R01.cmpI (sumP x p) (sumP x q)=0:=by rw[hqp];unfold R01.cmpI;simp
  rw[hc]
  rw[decide_eq_true hlq]at h7'
  rw[hn]at h11'
  simp only[go_sem]
  refine W.seq (vc_sound _ _ _ (by rfl) ?_)
  simp only[go_sem,h6',h7',h9',h11',R01.bin_eql_bool Try.underlying4]
  refine AApply.clo (samePol_spec p q hplen hprow _ _ ⟨trivial,?_⟩)
  rw[decide_eq_true hqp.symm]
  simp only[go_sem,h11',R01.bin_eql_bool Try.underlying4]
  refine vc_sound _ _ _ (by rfl) ?_
  simp only[go_sem]
  exact FinV.mk (show H.next≤H5.next by omega) hfin
 ·have hlt:sumP x p<sumP x q:=by have:=hI.sum;omega
  have hc:R01.cmpI (sumP x p) (sumP x q)=-1:=by unfold R01.cmpI;rw[if_pos hlt]
  have hnl:¬ isLocal x p:=fun h=>by have:=hI.loc h;omega
  have hne:p≠q:=fun h=>by rw[h]at hlt;omega
  have hn1:¬ (n:Int)=0:=by omega
  have hn2:(n:Int) > 0:=by omega
  rw[hc]
  rw[decide_eq_false hnl]at h7'
  simp only[go_sem]
  refine W.seq (vc_sound _ _ _ (by rfl) ?_)
  simp only[go_sem,h6',h7',h9',h11',hn1,R01.bin_eql_bool Try.underlying4]
  refine AApply.clo (samePol_spec p q hplen hprow _ _ ⟨trivial,?_⟩)
  rw[decide_eq_false hne]
  simp only[go_sem,h11',hn2,R01.bin_eql_bool Try.underlying4]
  refine vc_sound _ _ _ (by rfl) ?_
  simp only[go_sem]
  exact FinV.mk (show H.next≤H5.next by omega) hfin
end Go.Proofs
