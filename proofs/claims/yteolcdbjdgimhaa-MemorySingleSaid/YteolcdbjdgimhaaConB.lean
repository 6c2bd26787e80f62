/- Own work: contracts. -/
import Derived.Test.YteolcdbjdgimhaaConA
set_option linter.all false
set_option maxRecDepth 100000
namespace Go.Proofs
open Go.Hx
theorem fits_par {ns:List NodeP}{x:NodeP}{vals:List Int}(hin:InRange x.parents ns.length)(hf:FitsC (cardsL ns) vals):FitsC (parC ns x) (atL vals x.parents):=by
 refine⟨by unfold parC;rw[atL_len,atL_len],fun k c v h1 h2=>?_⟩
 obtain⟨q,hq⟩:=get_of_lt (l:=x.parents) (i:=k) (by have:=get_lt h2;rw[atL_len]at this;exact this)
 obtain⟨j,rfl,y,hy⟩:=get_of_int (l:=ns) (hin q (List.mem_of_getElem? hq)).1 (hin q (List.mem_of_getElem? hq)).2
 obtain⟨b,hb⟩:=get_of_lt (l:=vals) (i:=j) (by rw[hf.1,cards_len];exact get_lt hy)
 have e1:(parC ns x)[k]?=some y.card:=by rw[show (parC ns x)[k]?=_ from atL_get hq,Int.toNat_natCast,getD_of_get (cards_get hy)]
 have e2:(atL vals x.parents)[k]?=some b:=by rw[atL_get hq,Int.toNat_natCast,getD_of_get hb]
 rw[h1]at e1;rw[h2]at e2
 cases e1;cases e2
 exact hf.2 j y.card _ (cards_get hy) hb
structure RowAtW (g:Int)(ns:List NodeP)(x:NodeP)(vals:List Int)(v:Nat)(i:Nat)(r:List Int)(a w:Int):Prop where
 idx:idxL (parC ns x) (atL vals x.parents)=i
 row:x.rows[i]?=some r
 val:vals[v]?=some a
 a0:0<=a
 hw:r[a.toNat]?=some w
 wb:0<=w/\w<=g
 eq:wgtN ns vals v=w
 rv:rowV ns x vals=r
 len:(r.length:Int)=x.card
 al:a<r.length
theorem row_at {g:Int}{ns:List NodeP}(h:NetOk g ns){v:Nat}{x:NodeP}(hx:ns[v]?=some x){vals:List Int}(hf:FitsC (cardsL ns) vals):∃ i r a w,RowAtW g ns x vals v i r a w:=by
 have hxm:=List.mem_of_getElem? hx
 have hin:InRange x.parents ns.length:=fun q hq=>by have:=(h.node x hxm).2.2 q hq;omega
 have hr:=idxL_range (fits_par hin hf)
 obtain⟨r1,r2⟩:=h.rows x hxm
 obtain⟨i,hi⟩:=Int.eq_ofNat_of_zero_le hr.1
 obtain⟨r,hrr⟩:=get_of_lt (l:=x.rows) (i:=i) (by rw[<- r1,hi]at hr;omega)
 obtain⟨s1,s2,s3⟩:=r2 r (List.mem_of_getElem? hrr)
 obtain⟨a,ha⟩:=get_of_lt (l:=vals) (i:=v) (by rw[hf.1,cards_len];exact get_lt hx)
 have hb:=hf.2 v x.card a (cards_get hx) ha
 obtain⟨w,hw⟩:=get_of_lt (l:=r) (i:=a.toNat) (by omega)
 have rv:rowV ns x vals=r:=by unfold rowV;rw[hi,Int.toNat_natCast,getD_of_get hrr]
 exact⟨i,r,a,w,hi,hrr,ha,hb.1,hw,s2 w (List.mem_of_getElem? hw),by unfold wgtN;rw[hx];simp only;rw[rv,getD_of_get ha,getD_of_get hw],rv,s1,by omega⟩
theorem pow_le_pow60 (k:Nat)(h:k<=8):(60:Int) ^ k<=167961600000000:=by
 have h1:(60:Nat) ^ k<=60 ^ 8:=Nat.pow_le_pow_right (by decide) h
 have h2:(60:Nat) ^ 8=167961600000000:=by decide
 rw[h2]at h1
 have h3:=Int.ofNat_le.2 h1
 rw[Int.natCast_pow]at h3
 exact h3
theorem wgt_take {g:Int}{ns:List NodeP}(h:NetOk g ns){vals:List Int}(hf:FitsC (cardsL ns) vals)(k:Nat):0<=prodL ((wgtL ns vals).take k)/\prodL ((wgtL ns vals).take k)<=167961600000000:=by
 have hb:∀ w∈wgtL ns vals,0<=w/\w<=60:=fun w hw=>by
  obtain⟨v,hv,rfl⟩:=List.mem_map.1 hw
  obtain⟨x,hx⟩:=get_of_lt (List.mem_range.1 hv)
  obtain⟨i,r,a,w,hR⟩:=row_at h hx hf
  rw[hR.eq]
  have:=hR.wb
  have:=h.g1
  omega
 have h1:=prodL_le_pow (b:=60) (by omega) (l:=(wgtL ns vals).take k) fun x hx=>hb x (List.mem_of_mem_take hx)
 have h2:=pow_le_pow60 ((wgtL ns vals).take k).length (by have:=h.n1;rw[List.length_take,wgtL_len];omega)
 omega
theorem rowW_pcall (ns:List NodeP)(v:Nat)(x:NodeP)(vals:List Int)(hx:ns[v]?=some x)(hin:InRange x.parents ns.length)(hs:SmallC (parC ns x))(hf:FitsC (cardsL ns) vals)(H:AHeap)(N n:Nat)(hN:N<H.next)
  (hg:H.get N=some (.arr 0 3 (ints vals))) (hn:n=vals.length):PCall Try.prog G0 (.clo 68 [] []) [.vec ns.length (nodesC ns),.lit (.int .i64 v),.own N 0 0 n 1] H (.lit (.int .i64 (idxL (parC ns x) (atL vals x.parents)))) [N]:=by
 subst hn
 refine PCall.mk (fun i hi=>by obtain rfl:=List.mem_singleton.1 hi;exact hN) fun H2 h2 _=>?_
 refine(ACall.frame (H:=H2) (args:=[.vec ns.length (nodesC ns),.lit (.int .i64 v),.own N 0 0 vals.length 1]) (args':=[nodesV ns,.lit (.int .i64 v),vecI vals]) (v':=.lit (.int .i64 (idxL (parC ns x) (atL vals x.parents)))) G0_ok rfl (fun i hi _=>?_) (rowW_spec ns v x vals hx hin hs hf noH _ ⟨_,rfl,.lit _⟩))
 match i,hi with
 | 0,_=>exact fz_nodes _
 | 1,_=>exact .lit _
 | 2,_=>exact Fz.ownRead ((h2 N (by simp)).trans hg) (by rw[ints_length]) fun c hc=>by obtain⟨z,_,rfl⟩:=List.mem_map.1 hc;exact⟨_,rfl⟩
set_option maxHeartbeats 2000000 in
theorem weights_spec (g:Int)(ns:List NodeP)(h:NetOk g ns)(H:AHeap)(K:ARes->AHeap->Prop)(hK:K (.ret (vecI (wtsL ns))) H):ACall Try.prog G0 61 [netV g ns] H K:=by
 refine ACall.clo ⟨_,Try.func61,rfl,rfl⟩ fun hcl=>?_
 have n8:=h.n1
 have hcards:∀ c∈cardsL ns,1<=c/\c<=4:=fun c hc=>by
  obtain⟨x,hx,rfl⟩:=List.mem_map.1 hc
  exact(h.node x hx).1
 have sm:SmallC (cardsL ns):=smallC_of (by rw[cards_len];omega) hcards
 have hp:=prodL_pos fun c hc=>(hcards c hc).1
 have hsz:=h.size
 have hw:((worlds ns:Nat):Int)=prodL (cardsL ns):=by unfold worlds;omega
 refine ACall.of_body (n:=51) (rs:=[.tmp 2]) Try.func61 rfl rfl rfl (by decide) (by kernel_rfl) (by simp) ?_
 simp only[go_sem,netV,nodesV]
 refine AApply.clo (cardsW_spec ns (by omega) _ _ ⟨trivial,?_⟩)
 simp only[go_sem]
 refine AApply.clo (sizeW_spec (cardsL ns) sm _ _ ⟨trivial,?_⟩)
 rw[<- hw]
 simp only[go_sem]
 refine⟨by omega,?_⟩
 refine AApply.clo (comb_clo (cardsL ns) _ _ ⟨trivial,?_⟩)
 simp only[go_sem]
 obtain⟨H2,hH2⟩:∃ H2,H2=ext (ext H [.arr 0 66 [.lit (.int .i64 g),.vec ns.length (nodesC ns)],.arr 0 3 (List.replicate 0 (.lit (.int .i64 0))),.arr 0 52 [.own (H.next+1) 0 0 0 1]]) [.arr 0 52 [vecI (cardsL ns)]]:=⟨_,rfl⟩
 have n2:H2.next=H.next+4:=by rw[hH2];rfl
 have o2:Over H H2:=by rw[hH2];exact(Over.ext _ _).trans (.ext _ _)
 have g0:H2.get H.next=some (.arr 0 66 [.lit (.int .i64 g),.vec ns.length (nodesC ns)]):=by rw[hH2,ext_ext];exact get_ext H _ 0 (by simp)
 have g1:H2.get (H.next+1)=some (.arr 0 3 []):=by rw[hH2,ext_ext];exact get_ext H _ 1 (by simp)
 have g2:H2.get (H.next+2)=some (.arr 0 52 [.own (H.next+1) 0 0 0 1]):=by rw[hH2,ext_ext];exact get_ext H _ 2 (by simp)
 have g3:H2.get (H.next+3)=some (.arr 0 52 [vecI (cardsL ns)]):=by rw[hH2,ext_ext];exact get_ext H _ 3 (by simp)
 refine W.env fun E hE=>?_
 have e1:E 1=.ptr H.next 0 0:=by rw[hE];simp only[go_sem]
 have e4:E 4=.ptr (H.next+2) 0 0:=by rw[hE];simp only[go_sem]
 have e17:E 17=.clo 82 [] [.ptr (H.next+3) 0 0]:=by rw[hE];rfl
 clear hE
 show W _ _ _ _ _ _ ⟨E,ext (ext H [.arr 0 66 [.lit (.int .i64 g),.vec ns.length (nodesC ns)],.arr 0 3 (List.replicate 0 (.lit (.int .i64 0))),.arr 0 52 [.own (H.next+1) 0 0 0 1]]) [.arr 0 52 [vecI (cardsL ns)]]⟩
 rw[<- hH2]
 have hit:=comb_it (cardsL ns) (fun c hc=>(hcards c hc).1) sm (H.next+3) (H2.next+1) (by omega)
 refine W.rangeItG (f:=82) (first:=[]) (cap:=[.ptr (H.next+3) 0 0]) (by show E 17=_;exact e17) hit
  (fun k Hx=>H2.next<Hx.next/\(∀ id,id<H2.next->id≠H.next+1->id≠H.next+2->Hx.get id=H2.get id)/\∃ gn,Hx.get (H.next+2)=some (.arr 0 52 [.own (H.next+1) gn 0 k 1])/\Hx.get (H.next+1)=some (.arr gn 3 (ints ((wtsL ns).take k))))
  (fun _ _=>False)
  (fun k Hx h=>(h.2.1 _ (by omega) (by omega) (by omega)).trans g3)
  (fun k H1 H3 h hw=>⟨by have:=hw.1;omega,fun id h1 h2 h3=>(hw.2 _ (by omega) (by have:=h.1;omega)).trans (h.2.1 id h1 h2 h3),by
   obtain⟨gn,a1,a2⟩:=h.2.2
   exact⟨gn,(hw.2 _ (by omega) (by have:=h.1;omega)).trans a1,(hw.2 _ (by omega) (by have:=h.1;omega)).trans a2⟩⟩)
  (fun k Hx h=>h.1)
  (fun k H1 b h=>⟨h.1,fun id h1 h2 h3=>by rw[upd_get,if_neg (by omega)];exact h.2.1 id h1 h2 h3,by
   obtain⟨gn,a1,a2⟩:=h.2.2
   exact⟨gn,by rw[upd_get,if_neg (by omega)];exact a1,by rw[upd_get,if_neg (by omega)];exact a2⟩⟩)
  (fun _ _ _ h=>h) (fun k H1 b h=>by unfold CombS at h ⊢;rw[upd_get,if_neg (by omega)];exact h)
  (fun b=>⟨by rw[ext_next];simp,fun id h1 h2 h3=>ext1_get_old h1,0,by rw[ext1_get_old (by omega)];exact g2,by rw[ext1_get_old (by omega)];exact g1⟩) (by decide)
  (fun x hx=>by
   obtain⟨k,hk⟩:=List.mem_iff_getElem?.1 hx
   obtain⟨_,rfl⟩:=combX_get hk
   rfl) (fun _ _ _=>trivial) (fun _ _ _=>trivial) (fun k y Hx B Bb hy hj hcs hn hB hBb=>?_) (fun Hx hj hn=>?_) (fun _ hs _=>hs.elim) (fun _ _ hs _=>hs.elim)
 ·obtain⟨hk,rfl⟩:=combX_get hy
  refine vc_sound _ _ _ (by rfl) ?_
  simp only[go_sem,setPs,envN,asgIt,List.foldl_cons,List.foldl_nil,List.zip_cons_cons,List.zip_nil_right,hB]
  obtain⟨H3,hH3⟩:∃ H3,H3=Hx.upd H2.next Bb:=⟨_,rfl⟩
  rw[<- hH3]
  obtain⟨st,pd,n',en,ps',as',bo,hBe⟩:=hBb
  have n3:H3.next=Hx.next:=by rw[hH3];rfl
  have o3:∀ id,id≠H2.next->H3.get id=Hx.get id:=fun id h=>by rw[hH3,upd_get,if_neg h]
  have jB:H3.get H2.next=some Bb:=by rw[hH3,upd_get,if_pos rfl]
  obtain⟨gn,a1,a2⟩:=hj.2.2
  have k0:=(o3 _ (by omega)).trans ((hj.2.1 H.next (by omega) (by omega) (by omega)).trans g0)
  have k1:=(o3 _ (by omega)).trans a2
  have k2:=(o3 _ (by omega)).trans a1
  have kN:H3.get (H2.next+1)=some (.arr 0 3 (ints (valsL (cardsL ns) k))):=(o3 _ (by omega)).trans hcs
  obtain⟨vals,hvals⟩:∃ vals,vals=valsL (cardsL ns) k:=⟨_,rfl⟩
  have hfit:FitsC (cardsL ns) vals:=by rw[hvals];exact fits_vals (fun c hc=>(hcards c hc).1) _
  rw[<- hvals]at kN
  have hvl:vals.length=ns.length:=by rw[hfit.1,cards_len]
  refine W.env fun E1 hE1=>?_
  have m1:E1 1=.ptr H.next 0 0:=by rw[hE1];simp only[go_sem,envN,e1]
  have m4:E1 4=.ptr (H.next+2) 0 0:=by rw[hE1];simp only[go_sem,envN,e4]
  have m6:E1 6=.own (H2.next+1) 0 0 ns.length 1:=by rw[hE1];simp only[go_sem,envN,cards_len]
  clear hE1
  have l0:=get_live k0
  refine vc_sound _ _ _ (by rfl) ?_
  simp only[go_sem,m1,l0]
  refine W.loop0 70368735789952 (by rfl) (fun ρ2 H4=>∃ v:Nat,ρ2 23=lin v/\v<=ns.length/\Over H3 H4/\ρ2 7=lin (prodL ((wgtL ns vals).take v))) (fun ρ2 H=>ns.length - (iv (ρ2 23)).toNat) ?_ ?_
  ·simp only[go_sem]
   exact⟨0,rfl,by omega,.refl _,by simp [prodL_nil]⟩
  rintro ρ2 H4 ⟨v,h23,hv,o4,h7⟩
  refine W.env fun E2 hE2=>?_
  have p1:E2 1=.ptr H.next 0 0:=by rw[hE2];simp only[go_sem,m1]
  have p4:E2 4=.ptr (H.next+2) 0 0:=by rw[hE2];simp only[go_sem,m4]
  have p6:E2 6=.own (H2.next+1) 0 0 ns.length 1:=by rw[hE2];simp only[go_sem,m6]
  have p7:E2 7=lin (prodL ((wgtL ns vals).take v)):=by rw[hE2];simp only[go_sem,h7]
  have p21:E2 21=.vec ns.length (nodesC ns):=by rw[hE2];simp only[go_sem]
  have p22:E2 22=lin ns.length:=by rw[hE2];simp only[go_sem]
  have p23:E2 23=lin v:=by rw[hE2];simp only[go_sem,h23]
  clear hE2
  have o4n:=o4.next
  have q0:=get_live ((o4.old _ (by omega)).trans k0)
  have q1:=get_live ((o4.old _ (by omega)).trans k1)
  have q2:=get_live ((o4.old _ (by omega)).trans k2)
  have gN4:=(o4.old _ (by omega)).trans kN
  refine vc_sound _ _ _ (by rfl) ?_
  by_cases hb:(v:Int)<ns.length
  ·obtain⟨x,hx⟩:=get_of_lt (l:=ns) (i:=v) (by omega)
   have hxm:=List.mem_of_getElem? hx
   obtain⟨i,r,a,w,hR⟩:=row_at h hx hfit
   obtain⟨a',rfl⟩:=Int.eq_ofNat_of_zero_le hR.a0
   have hin:InRange x.parents ns.length:=fun q hq=>by have:=(h.node x hxm).2.2 q hq;omega
   have hne:=nodesC_ne hx
   have c0:=nodesC_part hx
   have c1:v*3+3<=(nodesC ns).length:=by rw[nodesC_len];omega
   obtain⟨H5,hH5⟩:∃ H5,H5=ext H4 [.arr 0 56 [.lit (.int .i64 x.card),.vec x.parents.length (ints x.parents),vecV x.rows]]:=⟨_,rfl⟩
   have hpc:PCall Try.prog G0 (.clo 68 [] []) [.vec ns.length (nodesC ns),.lit (.int .i64 v),.own (H2.next+1) 0 0 ns.length 1] H5 (.lit (.int .i64 i)) [H2.next+1]:=by
    have:=rowW_pcall ns v x vals hx hin (parC_small n8.2 (h.node x hxm).2 fun y hy=>(h.node y hy).1) hfit H5 (H2.next+1) ns.length (by rw[hH5,ext_next];omega) (by rw[hH5,get_ext_old _ _ _ (by omega)];exact gN4) hvl.symm
    rw[hR.idx]at this
    exact this
   have f0:=get_live (show H5.get H.next=some (.arr 0 66 [.lit (.int .i64 g),.vec ns.length (nodesC ns)]) by rw[hH5,get_ext_old _ _ _ (by omega)];exact(o4.old _ (by omega)).trans k0)
   have f4:=get_live (show H5.get H4.next=some (.arr 0 56 [.lit (.int .i64 x.card),.vec x.parents.length (ints x.parents),vecV x.rows]) by rw[hH5];exact ext1_get_new)
   have fN:=get_live (show H5.get (H2.next+1)=some (.arr 0 3 (ints vals)) by rw[hH5,get_ext_old _ _ _ (by omega)];exact gN4)
   have hri:=hR.row
   have hrne:=ne_of_get hri
   have hrl:(i:Int)<x.rows.length:=by have:=get_lt hri;omega
   have hva:=hR.val
   have hvne:=ne_of_get hva
   have hra:r[a']?=some w:=by have:=hR.hw;rw[Int.toNat_natCast]at this;exact this
   have hrane:=ne_of_get hra
   have hal:=hR.al
   have wt:=wgt_take h hfit (v+1)
   rw[take_succ_get (wgtL_get (vals:=vals) (v:=v) (by omega)),prodL_snoc,hR.eq]at wt
   have w1:=IntWalk.i64_in ((v:Int)+1) (by omega)
   have w2:=IntWalk.i64_in (prodL ((wgtL ns vals).take v)*w) (by omega)
   simp only[go_sem,p21,p22,p23,hb,hne,c0,c1]
   rw[<- hH5]
   refine W.draw 16 [0,0,2,0,8,0,0,120,254,510,0,0,3072,7168,16382,32766] Try.mixed (by kernel_rfl) (by kernel_rfl) ?_
   simp only[go_sem,p1,p6,p7,f0,f4,vecV]
   refine⟨.lit (.int .i64 i),[H2.next+1],hpc,?_⟩
   have hvn:(v:Int)<ns.length:=hb
   simp only[go_sem,p1,p6,p7,p23,fN,hri,hrne,hrl,hra,hrane,hva,hal,hvn,w1,w2]
   have n5:H5.next=H4.next+1:=by rw[hH5];rfl
   exact⟨by omega,⟨_,_,_,_,_,_,_,by rw[hH5,get_ext_old _ _ _ (by omega),o4.old _ (by omega),jB,hBe]⟩,⟨v+1,by simp,by omega,by rw[hH5];exact o4.trans (.ext _ _),by rw[take_succ_get (wgtL_get (vals:=vals) (v:=v) (by omega)),prodL_snoc,hR.eq]⟩,by rw[h23];simp only[lin,iv_int];omega⟩
  ·rw[List.take_of_length_le (by rw[wgtL_len];omega)]at p7
   have hwk:(wtsL ns)[k]?=some (weight ns vals):=by
    unfold wtsL
    rw[List.getElem?_map,List.getElem?_range (show k<worlds ns from hk),hvals];rfl
   have hkl:((wtsL ns).take k).length=k:=by
    have:(wtsL ns).length=worlds ns:=by simp [wtsL]
    have:k<worlds ns:=hk
    simp;omega
   have hkw:k<worlds ns:=hk
   have nn:¬ H.next+1=H4.next:=by omega
   have nn2:¬ H.next+2=H4.next:=by omega
   have hbd:(k+1)*8<=2 ^ 46/\k+1<=2 ^ 46:=by omega
   have q1e:∀ L,(ext H4 L).live (H.next+1) gn=some (3,ints ((wtsL ns).take k)):=fun L=>(ext_live_old (by omega)).trans q1
   have q2e:∀ L b,((ext H4 L).upd (H.next+1) b).live (H.next+2) 0=some (52,[.own (H.next+1) gn 0 k 1]):=fun L b=>(live_upd_other (by omega)).trans ((ext_live_old (by omega)).trans q2)
   simp only[go_sem,p4,p7,p22,p23,hb,q2,q1e,q2e,hkl,hbd,bodyIt,appendA_U]
   obtain⟨Hf,hHf⟩:∃ Hf,Hf=((ext H4 [.arr 0 3 [.lit (.int .i64 (prodL (wgtL ns vals)))]]).upd (H.next+1) (.arr (gn+1) 3 (ints ((wtsL ns).take k)++[.lit (.int .i64 (prodL (wgtL ns vals)))]))).upd (H.next+2) (.arr 0 52 [.own (H.next+1) (gn+1) 0 (k+1) 1]):=⟨_,rfl⟩
   rw[<- hHf]
   have hget:∀ id,id<H4.next->id≠H.next+1->id≠H.next+2->Hf.get id=H4.get id:=fun id h1 h2 h3=>by rw[hHf,upd_get,if_neg h3,upd_get,if_neg h2,ext1_get_old h1]
   have nf:Hf.next=H4.next+1:=by rw[hHf];rfl
   have eint:ints ((wtsL ns).take (k+1))=ints ((wtsL ns).take k)++[.lit (.int .i64 (prodL (wgtL ns vals)))]:=by rw[take_succ_get hwk];simp [ints,lin,weight]
   refine⟨by rw[hget _ (by omega) (by omega) (by omega),o4.old _ (by omega)];exact jB,by omega,⟨by omega,fun id h1 h2 h3=>by rw[hget _ (by omega) h2 h3,o4.old _ (by omega),o3 _ (by omega)];exact hj.2.1 id h1 h2 h3,gn+1,by rw[hHf,upd_get,if_pos rfl],by rw[hHf,upd_get,if_neg (by omega),upd_get,if_pos rfl,eint]⟩,?_⟩
   show Hf.get (H2.next+1)=_
   rw[hget _ (by omega) (by omega) (by omega),gN4,hvals]
 ·rw[combX_len]at hj
  obtain⟨gn,a1,a2⟩:=hj.2.2
  have l2:=get_live a1
  simp only[go_sem,e4,l2]
  have ovx:Over H Hx:=⟨by omega,fun id hi=>(hj.2.1 id (by omega) (by omega) (by omega)).trans (o2.old id hi)⟩
  have hlen:(wtsL ns).length=(prodL (cardsL ns)).toNat:=by simp [wtsL,worlds]
  rw[List.take_of_length_le (by omega)]at a2
  refine FinV.dropO G0_ok hcl ovx ?_ hK
  show Fz (fun id=>H.next<=id) Hx H.next (.own (H.next+1) gn 0 (prodL (cardsL ns)).toNat 1) (vecI (wtsL ns))
  exact .ints (S:=fun id=>H.next<=id) (o:=0) (by show H.next<=_;omega) a2 hlen.symm fun i hi=>by simp [ints_get,hi]
end Go.Proofs
namespace Go.Proofs
open Go.Hx
def fixV (g:Int)(ns:List NodeP)(us:List UtilP):AVal:=.agg [.lit (.int .i64 g),.vec ns.length (nodesC ns),.vec us.length (utilsC us)]
theorem utils_bound {ns:List NodeP}{us:List UtilP}(hu:∀ u∈us,UtilOk ns u)(h4:us.length<=4)(vals:List Int)(k:Nat):-400<=utilV ns (us.take k) vals/\utilV ns (us.take k) vals<=400:=by
 have key:∀ l:List UtilP,(∀ u∈l,UtilOk ns u)->-(100*l.length:Int)<=utilV ns l vals/\utilV ns l vals<=100*l.length:=by
  intro l
  induction l with
  | nil=>intro _;simp [utilV]
  | cons u l ih =>
   intro h
   have h1:=ih fun u hu=>h u (by simp [hu])
   have h2:-100<=utilU ns vals u/\utilU ns vals u<=100:=by
    unfold utilU
    rw[List.getD_eq_getElem?_getD]
    cases hg:u.w[(idxL (atL (cardsL ns) u.vars) (atL vals u.vars)).toNat]? with
    | none=>simp
    | some w=>exact(h u (by simp)).w w (List.mem_of_getElem? hg)
   simp only[utilV,List.map_cons,List.sum_cons,List.length_cons]at h1 ⊢
   push_cast
   omega
 have:=key (us.take k) fun u hk=>hu u (List.mem_of_mem_take hk)
 have h5:(us.take k).length<=4:=by simp;omega
 omega
set_option maxHeartbeats 1000000 in
theorem utility_spec (g:Int)(ns:List NodeP)(us:List UtilP)(vals:List Int)(h8:ns.length<=8)(hc:∀ y∈ns,1<=y.card/\y.card<=4)(hu:∀ u∈us,UtilOk ns u)(h4:us.length<=4)(hf:FitsC (cardsL ns) vals)(H:AHeap)(K:ARes->AHeap->Prop)
  (hK:K (.ret (lin (utilV ns us vals))) H):ACall Try.prog G0 34 [fixV g ns us,vecI vals] H K:=by
 refine ACall.clo ⟨_,Try.func34,rfl,rfl⟩ fun hcl=>?_
 have hfl:vals.length=ns.length:=by rw[hf.1,cards_len]
 refine ACall.of_body (n:=49) (rs:=[.tmp 4]) Try.func34 rfl rfl rfl (by decide) (by kernel_rfl) (by simp) ?_
 simp only[go_sem,fixV]
 obtain⟨H1,hH1⟩:∃ H1,H1=ext H [.arr 0 87 [.lit (.int .i64 g),.vec ns.length (nodesC ns),.vec us.length (utilsC us)]]:=⟨_,rfl⟩
 have l1:H1.live H.next 0=some (87,[.lit (.int .i64 g),.vec ns.length (nodesC ns),.vec us.length (utilsC us)]):=by rw[hH1];exact get_live (get_ext0 ..)
 have n1:H1.next=H.next+1:=by rw[hH1];rfl
 have o1:Over H H1:=by rw[hH1];exact .ext _ _
 rw[<- hH1]
 refine W.loop0 281474976695712 (by rfl) (fun ρ H'=>∃ k:Nat,ρ 14=lin k/\k<=us.length/\Over H1 H'/\ρ 5=lin (utilV ns (us.take k) vals)) (fun ρ H=>us.length - (iv (ρ 14)).toNat) ?_ ?_
 ·simp only[go_sem]
  exact⟨0,rfl,by omega,.refl _,by simp [utilV]⟩
 rintro ρ H' ⟨k,h14,hk,ov,h5⟩
 refine W.env fun E hE=>?_
 have e1:E 1=vecI vals:=by rw[hE];simp only[go_sem]
 have e2:E 2=.ptr H.next 0 0:=by rw[hE];simp only[go_sem]
 have e5:E 5=lin (utilV ns (us.take k) vals):=by rw[hE];simp only[go_sem,h5]
 have e12:E 12=.vec us.length (utilsC us):=by rw[hE];simp only[go_sem]
 have e13:E 13=lin us.length:=by rw[hE];simp only[go_sem]
 have e14:E 14=lin k:=by rw[hE];simp only[go_sem,h14]
 clear hE
 refine vc_sound _ _ _ (by rfl) ?_
 have ovn:=ov.next
 by_cases hb:(k:Int)<us.length
 rotate_left
 ·simp only[go_sem,e5,e13,e14,hb]
  rw[List.take_of_length_le (by omega)]
  exact FinV.dropO G0_ok hcl (o1.trans ov) (.lit _) hK
 obtain⟨u,hku⟩:=get_of_lt (l:=us) (i:=k) (by omega)
 have hum:=List.mem_of_getElem? hku
 obtain⟨u1,u2,u3⟩:=hu u hum
 have hne:=utilsC_ne hku
 have p0:=utilsC_part hku
 have p1:k*2+2<=(utilsC us).length:=by rw[utilsC_len];omega
 have v8:=u1.len
 obtain⟨H2,hH2⟩:∃ H2,H2=ext H' [.arr 0 60 [.vec u.vars.length (ints u.vars),.vec u.w.length (ints u.w)]]:=⟨_,rfl⟩
 have m1:=get_live (show H2.get H'.next=some (.arr 0 60 [.vec u.vars.length (ints u.vars),.vec u.w.length (ints u.w)]) by rw[hH2];exact ext1_get_new)
 have m2:H2.live H.next 0=some (87,[.lit (.int .i64 g),.vec ns.length (nodesC ns),.vec us.length (utilsC us)]):=by rw[hH2];exact(ext_live_old (by omega)).trans ((ov.live (by omega)).trans l1)
 have n2:H2.next=H'.next+1:=by rw[hH2];rfl
 have sm:=vars_small h8 u1 hc
 have hin:InRange u.vars ns.length:=fun q hq=>by have:=u1.2 q hq;omega
 have fp:FitsC (atL (cardsL ns) u.vars) (atL vals u.vars):=fits_par (x:=⟨0,u.vars,[]⟩) hin hf
 have pl:(atL (cardsL ns) u.vars).length=u.vars.length:=atL_len _ _
 have vl:(atL vals u.vars).length=u.vars.length:=atL_len _ _
 have ft:∀ j,FitsC ((atL (cardsL ns) u.vars).take j) ((atL vals u.vars).take j):=fun j=>⟨by simp [pl,vl],fun i c b h1 h2=>by
  rw[List.getElem?_take]at h1 h2
  split at h1
  ·rename_i hik
   rw[if_pos hik]at h2
   exact fp.2 i c b h1 h2
  ·cases h1⟩
 have hr:∀ j,0<=hornL ((atL (cardsL ns) u.vars).take j) ((atL vals u.vars).take j)/\hornL ((atL (cardsL ns) u.vars).take j) ((atL vals u.vars).take j)<68719476737:=fun j=>by
  rw[hornL_eq (ft j).1]
  have a:=idxL_range (ft j)
  have b:=(sm.take j).prod
  omega
 simp only[go_sem,e12,e13,e14,hb,hne,p0,p1]
 rw[<- hH2]
 refine W.loop0 1099509531904 (by rfl) (fun ρ2 H3=>H3=H2/\∃ j:Nat,ρ2 21=lin j/\j<=u.vars.length/\ρ2 8=lin (hornL ((atL (cardsL ns) u.vars).take j) ((atL vals u.vars).take j))) (fun ρ2 H=>u.vars.length - (iv (ρ2 21)).toNat) ?_ ?_
 ·simp only[go_sem]
  exact⟨0,rfl,by omega,rfl⟩
 rintro ρ2 H3 ⟨rfl,j,h21,hj,h8'⟩
 refine vc_sound _ _ _ (by rfl) ?_
 by_cases hb2:(j:Int)<u.vars.length
 ·obtain⟨q,hq⟩:=get_of_lt (l:=u.vars) (i:=j) (by omega)
  obtain⟨i,rfl,y,hy⟩:=get_of_int (l:=ns) (hin q (List.mem_of_getElem? hq)).1 (hin q (List.mem_of_getElem? hq)).2
  obtain⟨b,hbv⟩:=get_of_lt (l:=vals) (i:=i) (by rw[hfl];exact get_lt hy)
  have hyb:=hf.2 i y.card b (cards_get hy) hbv
  have a1:(atL (cardsL ns) u.vars)[j]?=some y.card:=by rw[atL_get hq,Int.toNat_natCast,getD_of_get (cards_get hy)]
  have a2:(atL vals u.vars)[j]?=some b:=by rw[atL_get hq,Int.toNat_natCast,getD_of_get hbv]
  have hne2:=ne_of_get hq
  have hne3:=ne_of_get hbv
  have hne4:=nodesC_ne hy
  have ey:=nodesC_0 hy
  have hi:(i:Int)<ns.length:=by have:=get_lt hy;omega
  have hi2:(i:Int)<vals.length:=by omega
  have w1:=IntWalk.i64_in ((j:Int)+1) (by omega)
  have r1:=hr (j+1)
  rw[hornL_snoc a1 a2]at r1
  have r0:=hr j
  have m0:0<=hornL ((atL (cardsL ns) u.vars).take j) ((atL vals u.vars).take j)*y.card:=Int.mul_nonneg r0.1 (by omega)
  have w2:=IntWalk.i64_in (hornL ((atL (cardsL ns) u.vars).take j) ((atL vals u.vars).take j)*y.card) (by omega)
  have w3:=IntWalk.i64_in (hornL ((atL (cardsL ns) u.vars).take j) ((atL vals u.vars).take j)*y.card+b) (by omega)
  simp only[go_sem,h21,hb2,hq,hne2]
  refine W.draw 13 [0,0,2,6,0,30,62,126,255,0,0,1536,3584] Try.mixed (by kernel_rfl) (by kernel_rfl) ?_
  simp only[go_sem,h21,h8',e1,e2,m2,hne3,hne4,hi,hi2,hbv,ey,w1,w2,w3]
  exact⟨⟨j+1,by simp,by omega,by rw[hornL_snoc a1 a2]⟩,by omega⟩
 ·rw[List.take_of_length_le (by omega),List.take_of_length_le (by omega),hornL_eq (by rw[pl,vl])]at h8'
  have hx:=idxL_range fp
  obtain⟨ix,hix⟩:=Int.eq_ofNat_of_zero_le hx.1
  obtain⟨w,hw⟩:=get_of_lt (l:=u.w) (i:=ix) (by omega)
  have hwne:=ne_of_get hw
  have hwl:(ix:Int)<u.w.length:=by have:=get_lt hw;omega
  have eu:utilU ns vals u=w:=by unfold utilU;rw[hix,Int.toNat_natCast,getD_of_get hw]
  have us1:utilV ns (us.take (k+1)) vals=utilV ns (us.take k) vals+w:=by rw[take_succ_get hku];unfold utilV;simp [eu]
  have b1:=utils_bound hu h4 vals k
  have b2:=utils_bound hu h4 vals (k+1)
  rw[us1]at b2
  have w1:=IntWalk.i64_in ((k:Int)+1) (by omega)
  have w2:=IntWalk.i64_in (utilV ns (us.take k) vals+w) (by omega)
  rw[hix]at h8'
  simp only[go_sem,h21,h8',e5,e14,m1,hb2,hw,hwne,hwl,w1,w2]
  exact⟨by omega,⟨k+1,by simp,by omega,by rw[hH2];exact ov.trans (.ext _ _),by rw[us1]⟩,by rw[h14];simp only[lin,iv_int];omega⟩
theorem utility_pcall (g:Int)(ns:List NodeP)(us:List UtilP)(vals:List Int)(h8:ns.length<=8)(hc:∀ y∈ns,1<=y.card/\y.card<=4)(hu:∀ u∈us,UtilOk ns u)(h4:us.length<=4)(hf:FitsC (cardsL ns) vals)(H:AHeap)(N n:Nat)(hN:N<H.next)
  (hg:H.get N=some (.arr 0 3 (ints vals))) (hn:n=vals.length):PCall Try.prog G0 (.clo 34 [] []) [.agg [.lit (.int .i64 g),.vec ns.length (nodesC ns),.vec us.length (utilsC us)],.own N 0 0 n 1] H (.lit (.int .i64 (utilV ns us vals))) [N]:=by
 subst hn
 refine PCall.mk (fun i hi=>by obtain rfl:=List.mem_singleton.1 hi;exact hN) fun H2 h2 _=>?_
 refine(ACall.frame (H:=H2) (args:=[.agg [.lit (.int .i64 g),.vec ns.length (nodesC ns),.vec us.length (utilsC us)],.own N 0 0 vals.length 1]) (args':=[fixV g ns us,vecI vals]) (v':=.lit (.int .i64 (utilV ns us vals))) G0_ok rfl (fun i hi _=>?_) (utility_spec g ns us vals h8 hc hu h4 hf noH _ ⟨_,rfl,.lit _⟩))
 match i,hi with
 | 0,_ =>
  refine .agg rfl fun i hi _=>?_
  match i,hi with
  | 0,_=>exact .lit _
  | 1,_=>exact fz_nodes _
  | 2,_ =>
   refine .vec rfl fun i hi _=>?_
   have:∀ c∈utilsC us,Fz (fun _=>True) H2 0 c c:=by
    intro c hc
    unfold utilsC at hc
    obtain⟨r,hr,hc⟩:=List.mem_flatten.1 hc
    obtain⟨x,_,rfl⟩:=List.mem_map.1 hr
    unfold UtilP.cells at hc
    simp only[List.mem_cons,List.not_mem_nil,or_false]at hc
    rcases hc with rfl|rfl
    ·exact .keepInts _
    ·exact .keepInts _
   exact this _ (List.getElem_mem _)
 | 1,_=>exact Fz.ownRead ((h2 N (by simp)).trans hg) (by rw[ints_length]) fun c hc=>by obtain⟨z,_,rfl⟩:=List.mem_map.1 hc;exact⟨_,rfl⟩
theorem value1_spec (g:Int)(ns:List NodeP)(us:List UtilP)(vals:List Int)(h8:ns.length<=8)(hc:∀ y∈ns,1<=y.card/\y.card<=4)(hu:∀ u∈us,UtilOk ns u)(h4:us.length<=4)(hf:FitsC (cardsL ns) vals)(w a:Int)(hw:0<=w/\w<=167961600000000)(ha:-1000000000000000000<=a/\a<=1000000000000000000)
  (H:AHeap) (N n sb fb:Nat) (hg:H.get N=some (.arr 0 3 (ints vals))) (hn:n=vals.length) (hsb:H.get sb=some (.arr 0 3 [.lit (.int .i64 a)])) (hfb:H.get fb=some (.arr 0 87 [.lit (.int .i64 g),.vec ns.length (nodesC ns),.vec us.length (utilsC us)])) (hN:N<H.next) (hNs:N≠sb) (hfs:fb≠sb)
  (K:ARes->AHeap->Prop) (hK:K (.ret (.tup [])) (H.upd sb (.arr 0 3 [.lit (.int .i64 (a+w*utilV ns us vals))]))):ACall Try.prog G0 33 [.own N 0 0 n 1,.lit (.int .i64 w),.ptr sb 0 0,.ptr fb 0 0] H K:=by
 have ls:=get_live hsb
 have lf:=get_live hfb
 have hpc:=utility_pcall g ns us vals h8 hc hu h4 hf H N n hN hg hn
 have b:=utils_bound hu h4 vals us.length
 rw[List.take_of_length_le (Nat.le_refl _)]at b
 have m1:-67184640000000000<=w*utilV ns us vals/\w*utilV ns us vals<=67184640000000000:=by
  constructor
  ·have h1:w*(-400)<=w*utilV ns us vals:=Int.mul_le_mul_of_nonneg_left b.1 hw.1
   omega
  ·have h1:w*utilV ns us vals<=w*400:=Int.mul_le_mul_of_nonneg_left b.2 hw.1
   omega
 have w1:=IntWalk.i64_in (w*utilV ns us vals) (by omega)
 have w2:=IntWalk.i64_in (a+w*utilV ns us vals) (by omega)
 refine ACall.of_body (n:=13) (rs:=[]) Try.func33 rfl rfl rfl (by decide) (by kernel_rfl) (by simp) ?_
 simp only[go_sem]
 refine W.draw 6 [0,0,0,0,12,30] Try.mixed (by kernel_rfl) (by kernel_rfl) ?_
 simp only[go_sem,ls,lf]
 refine⟨_,[N],hpc,?_⟩
 simp only[go_sem,ls,w1,w2]
 exact FinV.mk (Nat.le_refl _) hK
end Go.Proofs
namespace Go.Proofs
open Go.Hx
theorem wtsL_get {ns:List NodeP}{k:Nat}(h:k<worlds ns):(wtsL ns)[k]?=some (weight ns (valsL (cardsL ns) k)):=by
 unfold wtsL;rw[List.getElem?_map,List.getElem?_range h];rfl
theorem wtsL_len (ns:List NodeP):(wtsL ns).length=worlds ns:=by simp [wtsL]
theorem weight_bound {g:Int}{ns:List NodeP}(h:NetOk g ns){vals:List Int}(hf:FitsC (cardsL ns) vals):0<=weight ns vals/\weight ns vals<=167961600000000:=by
 have:=wgt_take h hf ns.length
 rw[List.take_of_length_le (by rw[wgtL_len];omega)]at this
 exact this
set_option maxHeartbeats 1000000 in
theorem each_spec (g:Int)(ns:List NodeP)(us:List UtilP)(h:NetOk g ns)(hu:∀ u∈us,UtilOk ns u)(h4:us.length<=4)(hBd:∀ k,k<=worlds ns->-1000000000000000000<=sumW ns us k/\sumW ns us k<=1000000000000000000)
  (H:AHeap) (sb fb:Nat) (hsb:H.get sb=some (.arr 0 3 [.lit (.int .i64 0)])) (hfb:H.get fb=some (.arr 0 87 [.lit (.int .i64 g),.vec ns.length (nodesC ns),.vec us.length (utilsC us)])) (hlt:sb<H.next) (hltf:fb<H.next) (hfs:fb≠sb)
  (K:ARes->AHeap->Prop) (hK:∀ H',H.next<=H'.next->(∀ id,id<H.next->id≠sb->H'.get id=H.get id)->H'.get sb=some (.arr 0 3 [.lit (.int .i64 (sumW ns us (worlds ns)))])->K (.ret (.tup [])) H'):
  ACall Try.prog G0 32 [fixV g ns us,.clo 33 [] [.ptr sb 0 0,.ptr fb 0 0]] H K:=by
 have n8:=h.n1
 have hcards:∀ c∈cardsL ns,1<=c/\c<=4:=fun c hc=>by
  obtain⟨x,hx,rfl⟩:=List.mem_map.1 hc
  exact(h.node x hx).1
 have sm:SmallC (cardsL ns):=smallC_of (by rw[cards_len];omega) hcards
 have hp:=prodL_pos fun c hc=>(hcards c hc).1
 refine ACall.of_body (n:=24) (rs:=[]) Try.func32 rfl rfl rfl (by decide) (by kernel_rfl) (by simp) ?_
 simp only[go_sem,fixV]
 refine AApply.clo (weights_spec g ns h _ _ ⟨trivial,?_⟩)
 simp only[go_sem]
 refine AApply.clo (cardsW_spec ns (by omega) _ _ ⟨trivial,?_⟩)
 simp only[go_sem]
 refine AApply.clo (comb_clo (cardsL ns) _ _ ⟨trivial,?_⟩)
 simp only[go_sem]
 obtain⟨H2,hH2⟩:∃ H2,H2=ext (ext H [.arr 0 87 [.lit (.int .i64 g),.vec ns.length (nodesC ns),.vec us.length (utilsC us)],.arr 0 90 (AVal.clo 33 [] [.ptr sb 0 0,.ptr fb 0 0]).cells,.arr 0 52 [vecI (wtsL ns)]]) [.arr 0 52 [vecI (cardsL ns)]]:=⟨_,rfl⟩
 have n2:H2.next=H.next+4:=by rw[hH2];rfl
 have o2:Over H H2:=by rw[hH2];exact(Over.ext _ _).trans (.ext _ _)
 have g1:H2.get (H.next+1)=some (.arr 0 90 [.clo 33 [] [.ptr sb 0 0,.ptr fb 0 0]]):=by rw[hH2,ext_ext];exact get_ext H _ 1 (by simp)
 have g2:H2.get (H.next+2)=some (.arr 0 52 [vecI (wtsL ns)]):=by rw[hH2,ext_ext];exact get_ext H _ 2 (by simp)
 have g3:H2.get (H.next+3)=some (.arr 0 52 [vecI (cardsL ns)]):=by rw[hH2,ext_ext];exact get_ext H _ 3 (by simp)
 have gsb:=(o2.old _ hlt).trans hsb
 have gfb:=(o2.old _ hltf).trans hfb
 refine W.env fun E hE=>?_
 have e3:E 3=.ptr (H.next+1) 0 0:=by rw[hE];simp only[go_sem]
 have e4:E 4=.ptr (H.next+2) 0 0:=by rw[hE];simp only[go_sem]
 have e14:E 14=.clo 82 [] [.ptr (H.next+3) 0 0]:=by rw[hE];rfl
 clear hE
 show W _ _ _ _ _ _ ⟨E,ext (ext H [.arr 0 87 [.lit (.int .i64 g),.vec ns.length (nodesC ns),.vec us.length (utilsC us)],.arr 0 90 (AVal.clo 33 [] [.ptr sb 0 0,.ptr fb 0 0]).cells,.arr 0 52 [vecI (wtsL ns)]]) [.arr 0 52 [vecI (cardsL ns)]]⟩
 rw[<- hH2]
 have hit:=comb_it (cardsL ns) (fun c hc=>(hcards c hc).1) sm (H.next+3) (H2.next+1) (by omega)
 refine W.rangeItG (f:=82) (first:=[]) (cap:=[.ptr (H.next+3) 0 0]) (by show E 14=_;exact e14) hit
  (fun k Hx=>H2.next<Hx.next/\(∀ id,id<H2.next->id≠sb->Hx.get id=H2.get id)/\Hx.get sb=some (.arr 0 3 [.lit (.int .i64 (sumW ns us k))]))
  (fun _ _=>False)
  (fun k Hx h=>(h.2.1 _ (by omega) (by omega)).trans g3)
  (fun k H1 H3 h hw=>⟨by have:=hw.1;omega,fun id h1 h2=>(hw.2 _ (by omega) (by have:=h.1;omega)).trans (h.2.1 id h1 h2),(hw.2 _ (by omega) (by have:=h.1;omega)).trans h.2.2⟩)
  (fun k Hx h=>h.1)
  (fun k H1 b h=>⟨h.1,fun id h1 h2=>by rw[upd_get,if_neg (by omega)];exact h.2.1 id h1 h2,by rw[upd_get,if_neg (by omega)];exact h.2.2⟩)
  (fun _ _ _ h=>h) (fun k H1 b h=>by unfold CombS at h ⊢;rw[upd_get,if_neg (by omega)];exact h)
  (fun b=>⟨by rw[ext_next];simp,fun id h1 h2=>ext1_get_old h1,by rw[ext1_get_old (by omega)];exact gsb⟩) (by decide)
  (fun x hx=>by
   obtain⟨k,hk⟩:=List.mem_iff_getElem?.1 hx
   obtain⟨_,rfl⟩:=combX_get hk
   rfl) (fun _ _ _=>trivial) (fun _ _ _=>trivial) (fun k y Hx B Bb hy hj hcs hn hB hBb=>?_) (fun Hx hj hn=>?_) (fun _ hs _=>hs.elim) (fun _ _ hs _=>hs.elim)
 ·obtain⟨hk,rfl⟩:=combX_get hy
  refine vc_sound _ _ _ (by rfl) ?_
  simp only[go_sem,setPs,envN,asgIt,List.foldl_cons,List.foldl_nil,List.zip_cons_cons,List.zip_nil_right,hB]
  obtain⟨H3,hH3⟩:∃ H3,H3=Hx.upd H2.next Bb:=⟨_,rfl⟩
  rw[<- hH3]
  obtain⟨st,pd,n',en,ps',as',bo,hBe⟩:=hBb
  have n3:H3.next=Hx.next:=by rw[hH3];rfl
  have o3:∀ id,id≠H2.next->H3.get id=Hx.get id:=fun id h=>by rw[hH3,upd_get,if_neg h]
  have jB:H3.get H2.next=some Bb:=by rw[hH3,upd_get,if_pos rfl]
  have k1:=(o3 _ (by omega)).trans ((hj.2.1 (H.next+1) (by omega) (by omega)).trans g1)
  have k2:=(o3 _ (by omega)).trans ((hj.2.1 (H.next+2) (by omega) (by omega)).trans g2)
  have kf:=(o3 _ (by omega)).trans ((hj.2.1 fb (by omega) hfs).trans gfb)
  have ks:=(o3 _ (by omega)).trans hj.2.2
  have kN:H3.get (H2.next+1)=some (.arr 0 3 (ints (valsL (cardsL ns) k))):=(o3 _ (by omega)).trans hcs
  obtain⟨vals,hvals⟩:∃ vals,vals=valsL (cardsL ns) k:=⟨_,rfl⟩
  have hfit:FitsC (cardsL ns) vals:=by rw[hvals];exact fits_vals (fun c hc=>(hcards c hc).1) _
  rw[<- hvals]at kN
  have hvl:vals.length=ns.length:=by rw[hfit.1,cards_len]
  refine W.env fun E1 hE1=>?_
  have m3:E1 3=.ptr (H.next+1) 0 0:=by rw[hE1];simp only[go_sem,envN,e3]
  have m4:E1 4=.ptr (H.next+2) 0 0:=by rw[hE1];simp only[go_sem,envN,e4]
  have m5:E1 5=lin k:=by rw[hE1];simp only[go_sem,envN]
  have m6:E1 6=.own (H2.next+1) 0 0 ns.length 1:=by rw[hE1];simp only[go_sem,envN,cards_len]
  clear hE1
  have l1:=get_live k1
  have l2:=get_live k2
  have hkw:k<worlds ns:=hk
  have hwk:=wtsL_get hkw
  rw[<- hvals]at hwk
  have hwne:=ne_of_get hwk
  have hkl:(k:Int)<(wtsL ns).length:=by rw[wtsL_len];omega
  have hs1:=sumW_succ ns us k
  rw[<- hvals]at hs1
  refine vc_sound _ _ _ (by rfl) ?_
  simp only[go_sem]
  refine W.draw 6 [0,0,0,0,12,28] Try.mixed (by kernel_rfl) (by kernel_rfl) ?_
  simp only[go_sem,m3,m4,m5,m6,l1,l2,hwk,hwne,hkl]
  refine AApply.clo (value1_spec g ns us vals (by omega) (fun y hy=>(h.node y hy).1) hu h4 hfit (weight ns vals) (sumW ns us k) (weight_bound h hfit) (hBd k (by omega)) H3 (H2.next+1) ns.length sb fb kN hvl.symm ks kf (by omega) (by omega) hfs _ ⟨⟨_,_,_,_,_,_,_,by rw[upd_get,if_neg (by omega),jB,hBe]⟩,?_⟩)
  simp only[go_sem]
  refine⟨by rw[upd_get,if_neg (by omega)];exact jB,by rw[upd_next];omega,⟨⟨by rw[upd_next];omega,fun id h1 h2=>by rw[upd_get,if_neg h2,o3 _ (by omega)];exact hj.2.1 id h1 h2,by rw[upd_get,if_pos rfl,hs1]⟩,?_⟩⟩
  unfold CombS
  rw[upd_get,if_neg (by omega),kN,hvals]
 ·simp only[go_sem]
  exact FinV.mk (by omega) (hK Hx (by omega) (fun id h1 h2=>(hj.2.1 id (by omega) h2).trans (o2.old _ h1)) (by have:=hj.2.2;rw[combX_len]at this;exact this))
end Go.Proofs
namespace Go.Proofs
open Go.Hx
theorem gcd_step (x y:Int)(hx:0<=x)(hy:0<=y):Int.gcd y (x % y)=Int.gcd y x:=by
 obtain⟨a,rfl⟩:=Int.eq_ofNat_of_zero_le hx
 obtain⟨b,rfl⟩:=Int.eq_ofNat_of_zero_le hy
 rw[<- Int.natCast_emod]
 show Nat.gcd b (a % b)=Nat.gcd b a
 rw[Nat.gcd_comm b (a % b),<- Nat.gcd_rec]
theorem whole_spec (g:Int)(n:Nat)(hg:1<=g/\g<=60)(hn:n<=8)(H:AHeap)(K:ARes->AHeap->Prop)(hK:K (.ret (lin (g ^ n))) H):ACall Try.prog G0 36 [lin g,lin n] H K:=by
 refine ACall.of_body (n:=14) (rs:=[.tmp 4]) Try.func36 rfl rfl rfl (by decide) (by kernel_rfl) (by simp) ?_
 simp only[go_sem]
 refine W.loop0 8096 (by rfl) (fun ρ H'=>H'=H/\∃ k:Nat,ρ 7=lin k/\k<=n/\ρ 5=lin (g ^ k)) (fun ρ H=>n - (iv (ρ 7)).toNat) ?_ ?_
 ·simp only[go_sem]
  exact⟨0,rfl,by omega,by rw[Int.pow_zero]⟩
 rintro ρ H' ⟨rfl,k,h7,hk,h5⟩
 refine vc_sound _ _ _ (by rfl) ?_
 have hpow:∀ k:Nat,0<=g ^ k/\g ^ k<=60 ^ k:=fun k=>by
  induction k with
  | zero=>simp
  | succ k ih =>
   rw[Int.pow_succ,Int.pow_succ]
   exact⟨Int.mul_nonneg ih.1 (by omega),Int.mul_le_mul ih.2 hg.2 (by omega) (by have:=Int.pow_pos (n:=60) (m:=k) (by decide);omega)⟩
 by_cases hb:(k:Int)<n
 ·have h1:=hpow (k+1)
  have h2:=pow_le_pow60 (k+1) (by omega)
  rw[Int.pow_succ]at h1
  have w1:=IntWalk.i64_in (g ^ k*g) (by omega)
  have w2:=IntWalk.i64_in ((k:Int)+1) (by omega)
  simp only[go_sem,h7,h5,hb,w1,w2]
  exact⟨⟨k+1,rfl,by omega,by rw[Int.pow_succ]⟩,by omega⟩
 ·have e:k=n:=by omega
  subst e
  simp only[go_sem,h7,h5,hb]
  exact FinV.mk (Nat.le_refl _) hK
def ratioV (n d:Int):AVal:=.agg [.lit (.int .i64 (n.tdiv (Int.gcd n d:Int))),.lit (.int .i64 (d.tdiv (Int.gcd n d:Int)))]
theorem ratio_spec (n d:Int)(hn:-4611686018427387904<=n/\n<=4611686018427387904)(hd:1<=d/\d<=4611686018427387904)(H:AHeap)(K:ARes->AHeap->Prop)(hK:K (.ret (ratioV n d)) H):ACall Try.prog G0 35 [lin n,lin d] H K:=by
 refine ACall.clo ⟨_,Try.func35,rfl,rfl⟩ fun hcl=>?_
 have w1:=IntWalk.i64_in (0 - n) (by omega)
 have w2:(if 0 - n > n then 0 - n else n)=(n.natAbs:Int):=by split<;>omega
 have w3:(if n<0 - n then 0 - n else n)=(n.natAbs:Int):=w2
 refine ACall.of_body (n:=25) (rs:=[.cell 4 42]) Try.func35 rfl rfl rfl (by decide) (by kernel_rfl) (by simp) ?_
 simp only[go_sem,w1,w2]
 refine W.loop0 258144 (by rfl) (fun ρ H'=>H'=ext H [.arr 0 42 [.lit (.int .i64 0),.lit (.int .i64 0)]]/\∃ x y:Int,ρ 5=lin x/\ρ 6=lin y/\0<=x/\0<=y/\Int.gcd x y=Int.gcd n d) (fun ρ H=>(iv (ρ 6)).toNat) ?_ ?_
 ·simp only[go_sem]
  exact⟨n.natAbs,d,rfl,rfl,by omega,by omega,by simp [Int.gcd]⟩
 rintro ρ H' ⟨rfl,x,y,h5,h6,hx,hy,hg⟩
 refine W.env fun E hE=>?_
 have e0:E 0=lin n:=by rw[hE];simp only[go_sem]
 have e1:E 1=lin d:=by rw[hE];simp only[go_sem]
 have e4:E 4=.ptr H.next 0 0:=by rw[hE];simp only[go_sem]
 have e5:E 5=lin x:=by rw[hE];simp only[go_sem,h5]
 have e6:E 6=lin y:=by rw[hE];simp only[go_sem,h6]
 clear hE
 refine vc_sound _ _ _ (by rfl) ?_
 by_cases hz:y=0
 ·subst hz
  have e:x=(Int.gcd n d:Int):=by rw[<- hg,Int.gcd_zero_right];omega
  have g0:0<Int.gcd n d:=Int.gcd_pos_of_ne_zero_right _ (by omega)
  have hxz:¬ x=0:=by omega
  have hgn:(Int.gcd n d:Int)≠0:=by omega
  simp only[go_sem,e6]
  refine W.draw 6 [0,0,3,0,0,24] Try.mixed (by kernel_rfl) (by kernel_rfl) ?_
  have b1:-4611686018427387904<=n.tdiv x/\n.tdiv x<=4611686018427387904:=by
   have h2:(n.tdiv x).natAbs<=n.natAbs:=by rw[Int.natAbs_tdiv];exact Nat.div_le_self _ _
   omega
  have b2:-4611686018427387904<=d.tdiv x/\d.tdiv x<=4611686018427387904:=by
   have h2:(d.tdiv x).natAbs<=d.natAbs:=by rw[Int.natAbs_tdiv];exact Nat.div_le_self _ _
   omega
  have u1:=IntWalk.i64_in (n.tdiv x) (by omega)
  have u2:=IntWalk.i64_in (d.tdiv x) (by omega)
  simp only[go_sem,e0,e1,e4,e5,hxz,u1,u2]
  refine FinV.drop G0_ok hcl (v':=ratioV n d) ?_ hK
  rw[e]
  refine .agg rfl fun i hi _=>?_
  match i,hi with
  | 0,_=>exact .lit _
  | 1,_=>exact .lit _
 ·have m1:x.tmod y=x % y:=Int.tmod_eq_emod_of_nonneg hx
  have m2:=Int.emod_nonneg x hz
  have m3:=Int.emod_lt_of_pos x (show 0<y by omega)
  simp only[go_sem,e6,hz]
  refine W.draw 5 [0,0,0,6,3] Try.mixed (by kernel_rfl) (by kernel_rfl) ?_
  simp only[go_sem,e5,e6,hz,m1]
  refine⟨⟨y,x % y,rfl,rfl,hy,m2,?_⟩,by rw[h6];simp only[lin,iv_int];omega⟩
  rw[<- hg,Int.gcd_comm x y]
  exact gcd_step x y hx (by omega)
end Go.Proofs
namespace Go.Proofs
open Go.Hx
theorem unitRow_ok {g card a:Int}(hg:0<=g)(ha:0<=a/\a<card):RowOk g card (unitRow g card a):=by
 refine⟨by rw[unitRow_len];omega,fun w hw=>?_,?_⟩
 ·unfold unitRow at hw
  rcases List.mem_or_eq_of_mem_set hw with h|h
  ·have:=List.eq_of_mem_replicate h;omega
  ·omega
 ·unfold unitRow
  have key:∀ (n i:Nat),i<n->((List.replicate n (0:Int)).set i g).sum=g:=by
   intro n
   induction n with
   | zero=>intro i h;omega
   | succ n ih =>
    intro i h
    cases i with
    | zero=>simp [List.replicate_succ]
    | succ i=>rw[List.replicate_succ,List.set_cons_succ,List.sum_cons,ih i (by omega)];omega
  exact key _ _ (by omega)
theorem fillL_card (d:InfP)(c:Nat->Nat->Int):cardsL (fillL d c)=cardsL d.nodes:=fillK_card
theorem fillL_len (d:InfP)(c:Nat->Nat->Int):(fillL d c).length=d.nodes.length:=fillK_len _ _ _
theorem fillL_get {d:InfP}{c:Nat->Nat->Int}{v:Nat}{x:NodeP}(h:d.nodes[v]?=some x):(fillL d c)[v]?=some (fillN d c (decL d).length v x):=fillK_get h
theorem parC_fill (d:InfP)(c:Nat->Nat->Int)(x:NodeP):parC (fillL d c) x=parC d.nodes x:=by unfold parC;rw[fillL_card]
theorem fillL_sets (d:InfP)(c:Nat->Nat->Int):setsL (fillL d c)=setsL d.nodes:=by
 apply List.ext_getElem?
 intro v
 unfold setsL
 rw[List.getElem?_map,List.getElem?_map]
 rcases Nat.lt_or_ge v d.nodes.length with h|h
 ·obtain⟨x,hx⟩:=get_of_lt h
  rw[fillL_get hx,hx]
  simp only[Option.map_some,(fillN_card d c _ v x).2]
 ·rw[List.getElem?_eq_none (by rw[fillL_len];exact h),List.getElem?_eq_none h]
theorem dec_place {d:InfP}{v:Nat}{x:NodeP}(hx:d.nodes[v]?=some x)(hb:d.decs.testBit v=true):(decL d)[placeD d.decs v]?=some v:=decK_get (get_lt hx) hb
theorem fillN_dec {d:InfP}{c:Nat->Nat->Int}{v:Nat}{x:NodeP}(hx:d.nodes[v]?=some x)(hb:d.decs.testBit v=true):fillN d c (decL d).length v x={ x with rows:=x.rows++decRows d.grain d.nodes c (placeD d.decs v) x } :=
 if_pos ⟨hb,get_lt (dec_place hx hb)⟩
theorem fillN_no {d:InfP}{c:Nat->Nat->Int}{v k:Nat}{x:NodeP}(hb:¬ d.decs.testBit v=true):fillN d c k v x=x:=if_neg fun h=>hb h.1
def ChoiceOk (d:InfP)(c:Nat->Nat->Int):Prop:=∀ (k v r:Nat) (x:NodeP),(decL d)[k]?=some v->d.nodes[v]?=some x->r<rowsN d.nodes x->0<=c k r/\c k r<x.card
theorem netOk_fill {d:InfP}(h:InfOk d){c:Nat->Nat->Int}(hc:ChoiceOk d c):NetOk d.grain (fillL d c):=by
 have h0:=h.net
 refine⟨h0.g1,by rw[fillL_len];exact h.n.n1,fun y hy=>?_,by have:=h0.size;rw[fillL_card]at this ⊢;exact this,by have:=h0.acyc;rw[fillL_sets]at this ⊢;exact this,fun y hy=>?_⟩
 ·obtain⟨v,x,hx,rfl⟩:=fillL_mem hy
  have:=h0.node _ (List.mem_of_getElem? (fillL_get (c:=fun _ _=>0) hx))
  rw[(fillN_card ..).1,(fillN_card ..).2,fillL_len]at this ⊢
  exact this
 ·obtain⟨v,x,hx,rfl⟩:=fillL_mem hy
  have h1:=h0.rows _ (List.mem_of_getElem? (fillL_get (c:=fun _ _=>0) hx))
  unfold NodeOk at h1 ⊢
  rw[parC_fill]at h1 ⊢
  by_cases hb:d.decs.testBit v=true
  ·rw[fillN_dec hx hb]at h1 ⊢
   have x1:=(h.n.dec v x hx hb).1
   refine⟨?_,fun r hr=>?_⟩
   ·have:=h1.1
    rw[show ({ x with rows:=x.rows++decRows d.grain d.nodes (fun _ _=>0) (placeD d.decs v) x }:NodeP).rows.length=rowsN d.nodes x by simp [x1,decRows]]at this
    rw[show ({ x with rows:=x.rows++decRows d.grain d.nodes c (placeD d.decs v) x }:NodeP).rows.length=rowsN d.nodes x by simp [x1,decRows]]
    exact this
   ·rw[show ({ x with rows:=x.rows++decRows d.grain d.nodes c (placeD d.decs v) x }:NodeP).rows=x.rows++decRows d.grain d.nodes c (placeD d.decs v) x from rfl,x1,List.nil_append]at hr
    unfold decRows at hr
    obtain⟨i,hi,rfl⟩:=List.mem_map.1 hr
    have:=h0.g1
    exact unitRow_ok (by omega) (hc _ _ _ x (dec_place hx hb) hx (List.mem_range.1 hi))
  ·rw[fillN_no hb]at h1 ⊢
   exact h1
theorem utilOk_fill {d:InfP}{c:Nat->Nat->Int}{u:UtilP}(h:UtilOk d.nodes u):UtilOk (fillL d c) u:=⟨by rw[fillL_len];exact h.vars,by rw[fillL_card];exact h.size,h.w⟩
theorem choiceOk_pol {d:InfP}{p:List (List Int)}(h:PolOk d p):ChoiceOk d (fixC p):=fun k v r x hv hx hr=>by
 obtain⟨l,a,hl,ha,he,hb⟩:=polOk_get h hv hx hr
 rw[he];exact hb
def sumP (d:InfP)(p:List (List Int)):Int:=sumW (fillL d (fixC p)) d.utils (worlds d.nodes)
noncomputable def valR (d:InfP)(p:List (List Int)):AVal:=if polErr d p=0 then ratioV (sumP d p) (d.grain ^ d.nodes.length) else .agg [.lit (.int .i64 0),.lit (.int .i64 0)]
theorem worlds_fill (d:InfP)(c:Nat->Nat->Int):worlds (fillL d c)=worlds d.nodes:=by unfold worlds;rw[fillL_card]
def SumsOk (d:InfP)(p:List (List Int)):Prop:=InfOk d->PolOk d p->∀ k,k<=worlds d.nodes->-1000000000000000000<=sumW (fillL d (fixC p)) d.utils k/\sumW (fillL d (fixC p)) d.utils k<=1000000000000000000
set_option maxHeartbeats 1000000 in
theorem value_spec (d:InfP)(hf:InfFit d)(p:List (List Int))(hp:PolFit p)(hs:SumsOk d p)(H:AHeap)(K:ARes->AHeap->Prop)(hK:K (.ret (.tup [valR d p,lin (polErr d p)])) H):ACall Try.prog G0 11 [infV d,vecV p] H K:=by
 refine ACall.clo ⟨_,Try.func11,rfl,rfl⟩ fun hcl=>?_
 refine ACall.of_body (n:=37) (rs:=[.cell 4 42,.tmp 5]) Try.func11 rfl rfl rfl (by decide) (by kernel_rfl) (by simp) ?_
 simp only[go_sem,infV_eq,infC]
 obtain⟨H1,hH1⟩:∃ H1,H1=ext H [.arr 0 34 [.lit (.int .i64 d.grain),.vec d.nodes.length (nodesC d.nodes),.lit (.int .u64 (d.decs:Int)),.vec d.utils.length (utilsC d.utils)],.arr 0 42 [.lit (.int .i64 0),.lit (.int .i64 0)]]:=⟨_,rfl⟩
 have g1:H1.get H.next=some (.arr 0 34 [.lit (.int .i64 d.grain),.vec d.nodes.length (nodesC d.nodes),.lit (.int .u64 (d.decs:Int)),.vec d.utils.length (utilsC d.utils)]):=by rw[hH1];exact get_ext0 ..
 have g2:H1.get (H.next+1)=some (.arr 0 42 [.lit (.int .i64 0),.lit (.int .i64 0)]):=by rw[hH1];exact get_ext H _ 1 (by simp)
 have l1:=get_live g1
 have l2:=get_live g2
 have n1:H1.next=H.next+2:=by rw[hH1];rfl
 have o1:Over H H1:=by rw[hH1];exact .ext _ _
 rw[<- hH1]
 refine AApply.clo (fix_spec d hf p hp _ _ ⟨trivial,?_⟩)
 by_cases hz:polErr d p=0
 rotate_left
 ·have hcell:(AVal.lit (.int .i64 (polErr d p))).cells=[.lit (.int .i64 (polErr d p))]:=rfl
  have ef:fixR d p=netNil:=if_neg hz
  have ev:valR d p=.agg [.lit (.int .i64 0),.lit (.int .i64 0)]:=if_neg hz
  have l2':=get_live (show (ext H1 [.arr 0 66 [.lit (.int .i64 0),.vec 0 []]]).get (H.next+1)=some (.arr 0 42 [.lit (.int .i64 0),.lit (.int .i64 0)]) by rw[get_ext_old _ _ _ (by omega)];exact g2)
  rw[ef]
  simp only[go_sem,hz,l2',netNil]
  rw[ev]at hK
  refine FinV.dropO (v':=.tup [.agg [.lit (.int .i64 0),.lit (.int .i64 0)],lin (polErr d p)]) G0_ok hcl (Over.upd (id:=H.next+1) (o1.trans (.ext _ _)) (Nat.le_succ _) _) (.tup rfl fun i hi _=>?_) hK
  match i,hi with
  | 0,_ =>
   refine .agg rfl fun i hi _=>?_
   match i,hi with
   | 0,_=>exact .lit _
   | 1,_=>exact .lit _
  | 1,_=>exact .lit _
 obtain⟨hok,hpo⟩:=polErr_zero.1 hz
 have ef:fixR d p=netV d.grain (fillL d (fixC p)):=if_pos hz
 have ev:valR d p=ratioV (sumP d p) (d.grain ^ d.nodes.length):=if_pos hz
 rw[hz,ef,netV,nodesV]
 rw[hz,ev]at hK
 have hnet:=netOk_fill hok (choiceOk_pol hpo)
 have hsum:=hs hok hpo
 have hw:=worlds_fill d (fixC p)
 have hfl:=fillL_len d (fixC p)
 obtain⟨ns,hns⟩:∃ ns,ns=fillL d (fixC p):=⟨_,rfl⟩
 rw[<- hns]at hnet hsum hw hfl ⊢
 obtain⟨H2,hH2⟩:∃ H2,H2=ext H1 [.arr 0 66 [.lit (.int .i64 d.grain),.vec ns.length (nodesC ns)]]:=⟨_,rfl⟩
 have n2:H2.next=H1.next+1:=by rw[hH2];rfl
 have o2:Over H1 H2:=by rw[hH2];exact .ext _ _
 have q1:=get_live ((o2.old _ (by omega)).trans g1)
 have q3:=get_live (show H2.get H1.next=some (.arr 0 66 [.lit (.int .i64 d.grain),.vec ns.length (nodesC ns)]) by rw[hH2];exact ext1_get_new)
 rw[hH2]at q1 q3
 simp only[go_sem,q1,q3]
 obtain⟨H3,hH3⟩:∃ H3,H3=ext H1 [.arr 0 66 [.lit (.int .i64 d.grain),.vec ns.length (nodesC ns)],.arr 0 87 [.lit (.int .i64 d.grain),.vec ns.length (nodesC ns),.vec d.utils.length (utilsC d.utils)],.arr 0 3 [.lit (.int .i64 0)]]:=⟨_,rfl⟩
 have n3:H3.next=H1.next+3:=by rw[hH3];rfl
 have o3:Over H H3:=by rw[hH3];exact o1.trans (.ext _ _)
 have r1:H3.get (H1.next+1)=some (.arr 0 87 [.lit (.int .i64 d.grain),.vec ns.length (nodesC ns),.vec d.utils.length (utilsC d.utils)]):=by rw[hH3];exact get_ext H1 _ 1 (by simp)
 have r2:H3.get (H1.next+2)=some (.arr 0 3 [.lit (.int .i64 0)]):=by rw[hH3];exact get_ext H1 _ 2 (by simp)
 have r0:H3.get (H.next+1)=some (.arr 0 42 [.lit (.int .i64 0),.lit (.int .i64 0)]):=by rw[hH3,get_ext_old _ _ _ (by omega)];exact g2
 rw[<- hH3]
 refine AApply.clo (each_spec d.grain ns d.utils hnet (fun u hu=>by rw[hns];exact utilOk_fill (hok.utils.2 u hu)) hok.utils.1 (fun k hk=>hsum k (by omega)) H3 (H1.next+2) (H1.next+1) r2 r1 (by omega) (by omega) (by omega) _ fun H4 h4 old hsb=>⟨trivial,?_⟩)
 have s1:=get_live ((old (H1.next+1) (by omega) (by omega)).trans r1)
 have s2:=get_live hsb
 have s0:=get_live ((old (H.next+1) (by omega) (by omega)).trans r0)
 rw[hw]at s2
 simp only[go_sem]
 refine W.draw 9 [0,0,2,6,0,16,48,112,254] Try.mixed (by kernel_rfl) (by kernel_rfl) ?_
 simp only[go_sem,s1,s2]
 have gp:=hok.net.g1
 have gn:=hok.n.n1
 have pw0:1<=d.grain ^ ns.length:=Int.pow_pos (by omega)
 have pw1:d.grain ^ ns.length<=167961600000000:=by
  have key:∀ k:Nat,d.grain ^ k<=60 ^ k:=fun k=>by
   induction k with
   | zero=>simp
   | succ k ih =>
    rw[Int.pow_succ,Int.pow_succ]
    exact Int.mul_le_mul ih gp.2 (by omega) (by have:=Int.pow_pos (n:=60) (m:=k) (by decide);omega)
  have:=key ns.length
  have:=pow_le_pow60 ns.length (by omega)
  omega
 have hsw:=hsum (worlds d.nodes) (Nat.le_refl _)
 refine⟨lin (d.grain ^ ns.length),[],PCall.pure (fun H2=>whole_spec d.grain ns.length gp (by omega) H2 _ ⟨rfl,rfl⟩),?_⟩
 refine AApply.clo (ratio_spec _ _ (by omega) (by omega) _ _ ⟨trivial,?_⟩)
 simp only[go_sem,s0,ratioV]
 have o4:Over H H4:=⟨by have:=o3.next;omega,fun id h=>(old id (by omega) (by omega)).trans (o3.old id h)⟩
 refine FinV.dropO (v':=.tup [ratioV (sumP d p) (d.grain ^ d.nodes.length),lin 0]) G0_ok hcl (Over.upd (id:=H.next+1) o4 (Nat.le_succ _) _) (.tup rfl fun i hi _=>?_) hK
 match i,hi with
 | 0,_ =>
  unfold sumP ratioV
  rw[<- hns,hfl]
  refine .agg rfl fun i hi _=>?_
  match i,hi with
  | 0,_=>exact .lit _
  | 1,_=>exact .lit _
 | 1,_=>exact .lit _
end Go.Proofs
namespace Go.Proofs
open Go.Hx
end Go.Proofs
namespace Go.Proofs
open Go.Hx
end Go.Proofs
namespace Go.Proofs.R01
open Go.Hx
section
variable {P:Program} {t:TypeId} {x y:Operand} {k k':IntKind} {a b:Int}
theorem pureRun_bind {α β:Type}{s:Sem α}{f:α->Sem β}{a:α}(h:pureRun P s=some a):pureRun P (s >>= f)=pureRun P (f a):=by
 induction s with
 | pure b=>simp only[pureRun,Option.some.injEq]at h;subst h;rfl
 | program k ih=>exact ih P h
 | mark m k ih=>exact ih h
 | _=>simp [pureRun]at h
theorem equalIn_bool {t:TypeId}{a b:Bool}(n:Nat)(ht:P.underlying t=some .bool):pureRun P (Op.equalIn (n+1) t (.bool a) (.bool b))=some (a == b):=by
 unfold Op.equalIn
 simp [underlying,program,ht,pureRun,bind,Sem.bind,pure]
theorem bin_eql_bool {t:TypeId}{x y:Operand}{a b:Bool}(ht:P.underlying t=some .bool):binA P .eql t x y (.lit (.bool a)) (.lit (.bool b))=some (.lit (.bool (a == b))):=by
 have h1:(do eqGuard .eql t x y (.bool a) (.bool b);binOp .eql t (.bool a) (.bool b))=(Op.equalIn (9999+1) t (.bool a) (.bool b) >>= fun r=>pure (Value.bool r)):=rfl
 show (pureRun P _).map _=_
 rw[h1,pureRun_bind (equalIn_bool 9999 ht)]
 rfl
end
section
variable {P:Program} {G:Nat->Option (List AVal)}
theorem below_mono {n m:Nat}{v:AVal}(h:Below n v)(hm:n<=m):Below m v:=by
 induction h with
 | lit v=>exact .lit v
 | vec h ih=>exact .vec ih
 | vptr h ih=>exact .vptr ih
 | agg h ih=>exact .agg ih
 | tup h ih=>exact .tup ih
 | clo h1 h2 ih1 ih2=>exact .clo ih1 ih2
 | own h=>exact .own (by omega)
 | ptr h=>exact .ptr (by omega)
 | yld h=>exact .yld (by omega)
theorem belowB_mono {n m:Nat}{b:Blk}(h:BelowB n b)(hm:n<=m):BelowB m b:=by
 cases b with
 | arr g e cells=>exact fun i hi=>below_mono (h i hi) hm
 | loop st pend n env ps asg body=>exact fun t ht=>below_mono (h t ht) hm
 | rsv=>trivial
 | mp=>exact h
theorem clo_ext {H:AHeap}(hc:Clo H){L:List Blk}(h:∀ b,b∈L->BelowB (H.next+L.length) b):Clo (ext H L):=by
 have key:∀ id b,(ext H L).get id=some b->(id<H.next/\H.get id=some b)\/(id<H.next+L.length/\b∈L):=by
  intro id b hb
  by_cases h1:id<H.next
  ·rw[get_ext_old _ _ _ h1]at hb;exact .inl ⟨h1,hb⟩
  ·by_cases h2:id<H.next+L.length
   ·have:=get_ext H L (id - H.next) (by omega)
    rw[show H.next+(id - H.next)=id by omega,hb]at this
    exact .inr ⟨h2,List.mem_of_getElem? this.symm⟩
   ·have:(ext H L).get id=H.get id:=by unfold ext;simp only;rw[if_neg (by omega)]
    rw[this]at hb
    exact absurd (hc.lt _ _ hb) h1
 refine⟨fun id b hb=>?_,fun id b hb=>?_⟩
 ·rw[ext_next];rcases key id b hb with ⟨h1,_⟩|⟨h1,_⟩<;>omega
 ·rw[ext_next]
  rcases key id b hb with ⟨_,h1⟩|⟨_,h1⟩
  ·exact belowB_mono (hc.below _ _ h1) (by omega)
  ·exact h b h1
theorem belowB_lits {n g:Nat}{e:TypeId}{cells:List AVal}(h:∀ c,c∈cells->∃ v,c=.lit v):BelowB n (.arr g e cells):=fun i hi=>by
 obtain⟨v,hv⟩:=h _ (List.getElem_mem hi)
 rw[hv];exact .lit v
end
def qV (n d:Int):AVal:=.agg [.lit (.int .i64 n),.lit (.int .i64 d)]
def cmpI (p q:Int):Int:=if p<q then -1 else if p=q then 0 else 1
end Go.Proofs.R01
namespace Go.Proofs.R01
open Go.Hx
def val:List Int -> Nat
  | [] => 0
  | a :: l => a.toNat + 10000 * val l
def dig (n:Nat):List Int := if h:n = 0 then [] else ((n % 10000:Nat):Int) :: dig (n / 10000)
termination_by n
decreasing_by omega
theorem dig_zero:dig 0 = [] := by rw[dig]; rfl
theorem dig_pos {n:Nat}(h:n ≠ 0):dig n = ((n % 10000:Nat):Int) :: dig (n / 10000) := by
  conv => lhs; rw[dig]
  rw[dif_neg h]
theorem val_dig:∀ n:Nat, val (dig n) = n := by
  intro n
  induction n using Nat.strongRecOn with
  | _ n ih =>
    by_cases h:n = 0
    · subst h; rw[dig_zero]; rfl
    · rw[dig_pos h, val, ih _ (by omega)]
      omega
def Dg (l:List Int):Prop := ∀ c, c ∈ l -> 0 <= c /\ c <= 9999
theorem dg_dig:∀ n:Nat, Dg (dig n) := by
  intro n
  induction n using Nat.strongRecOn with
  | _ n ih =>
    by_cases h:n = 0
    · subst h; rw[dig_zero]; intro c hc; cases hc
    · rw[dig_pos h]
      intro c hc
      rcases List.mem_cons.1 hc with rfl | hc
      · omega
      · exact ih _ (by omega) c hc
theorem val_append:∀ (l m:List Int), val (l ++ m) = val l + 10000 ^ l.length * val m
  | [], m => by simp [val]
  | a :: l, m => by
    simp only[List.cons_append, val, val_append l m, List.length_cons, Nat.pow_succ, Nat.mul_add]
    rw[show 10000 * (10000 ^ l.length * val m) = 10000 ^ l.length * 10000 * val m by ac_rfl]
    omega
theorem val_lt:∀ {l:List Int}, Dg l -> val l < 10000 ^ l.length
  | [], _ => by simp [val]
  | a :: l, h => by
    have ih := val_lt (l := l) fun c hc => h c (by simp [hc])
    have ha := h a (by simp)
    simp only[val, List.length_cons, Nat.pow_succ]
    omega
theorem dig_len {n k:Nat}(h:n < 10000 ^ k):(dig n).length <= k := by
  induction k generalizing n with
  | zero => have : n = 0 := by simpa using h
            subst this; rw[dig_zero]; simp
  | succ k ih =>
    by_cases h0:n = 0
    · subst h0; rw[dig_zero]; simp
    · rw[dig_pos h0, List.length_cons]
      have:n / 10000 < 10000 ^ k := by
        rw[Nat.pow_succ]at h
        exact Nat.div_lt_of_lt_mul (by rw[Nat.mul_comm]; exact h)
      have := ih this
      omega
theorem dig_of:∀ {l:List Int}, Dg l -> (∀ a, l.getLast? = some a -> a ≠ 0) -> dig (val l) = l
  | [], _, _ => dig_zero
  | a :: l, h, hl => by
    have ha := h a (by simp)
    have hd:Dg l := fun c hc => h c (by simp [hc])
    have ih := dig_of (l := l) hd fun b hb => hl b (by
      cases l with
      | nil => cases hb
      | cons c l => simpa [List.getLast?_cons_cons] using hb)
    by_cases h0:val (a :: l) = 0
    · exfalso
      simp only[val]at h0
      have a0:a = 0 := by omega
      have v0:val l = 0 := by omega
      rw[v0, dig_zero]at ih
      exact hl a (by rw[<- ih]; rfl) a0
    · rw[dig_pos h0]
      have e1:val (a :: l) % 10000 = a.toNat := by simp only[val]; omega
      have e2:val (a :: l) / 10000 = val l := by simp only[val]; omega
      rw[e1, e2, ih]
      congr 1
      omega
theorem val_zeros (k:Nat):val (List.replicate k 0) = 0 := by
  induction k with
  | zero => rfl
  | succ k ih => simp [List.replicate_succ, val, ih]
theorem dig_nil {n:Nat}:dig n = [] ↔ n = 0 := by
  constructor
  · intro h
    have := val_dig n
    rw[h]at this
    exact this.symm
  · rintro rfl; exact dig_zero
theorem dig_lb (b:Nat):b ≠ 0 -> 10000 ^ ((dig b).length - 1) <= b := by
  induction b using Nat.strongRecOn with
  | _ b ih =>
    intro hb
    rw[dig_pos hb, List.length_cons, Nat.add_sub_cancel]
    by_cases h1:b / 10000 = 0
    · rw[h1, dig_zero]; simp; omega
    · have := ih _ (by omega) h1
      have hl:(dig (b / 10000)).length ≠ 0 := by
        intro h
        exact h1 (dig_nil.1 (List.eq_nil_of_length_eq_zero h))
      obtain⟨k, hk⟩:∃ k, (dig (b / 10000)).length = k + 1 := ⟨_, (Nat.succ_pred_eq_of_ne_zero hl).symm⟩
      rw[hk]at this ⊢
      rw[Nat.add_sub_cancel]at this
      rw[Nat.pow_succ]
      omega
theorem dig_lt_len {a b:Nat}(h:(dig a).length < (dig b).length):a < b := by
  rcases Nat.lt_or_ge a b with h1 | h1
  · exact h1
  · exfalso
    have h2 := dig_lb b (by intro h0; rw[h0, dig_zero]at h; simp at h)
    have h3 := val_lt (dg_dig a)
    rw[val_dig]at h3
    have h4:10000 ^ (dig a).length <= 10000 ^ ((dig b).length - 1) := Nat.pow_le_pow_right (by decide) (by omega)
    omega
end Go.Proofs.R01
namespace Go.Proofs.R01
open Go.Hx
theorem take_succ_of {α:Type}{l:List α}{i:Nat}{a:α}(h:l[i]? = some a):l.take (i + 1) = l.take i ++ [a] := by
  rw[List.take_add_one, h]; rfl
theorem over_app {H H' H2:AHeap}{v:AVal}{cs:List AVal}{e:TypeId}(ov:Over H H')(h:OwnG H.next H' e v cs)(hn:H'.next <= H2.next)(hp:∀ k, k < H'.next -> (∀ g n, v ≠ .own k g 0 n 1) -> H2.get k = H'.get k):Over H H2 :=
  ⟨by have := ov.next; omega, fun id hid => by
    rw[hp id (by have := ov.next; omega) fun g n he => ?_, ov.old id hid]
    rcases h with ⟨h, _⟩ | ⟨i2, g2, a1, _, h, _⟩
    · rw[h]at he; cases he
    · rw[h]at he; have := AVal.own.inj he; omega⟩
theorem digits_spec (n:Int)(hn:-9223372036854775808 <= n /\ n <= 9223372036854775807)(H:AHeap)(K:ARes -> AHeap -> Prop)(hK:K (.ret (vecI (dig n.natAbs))) H):ACall Try.prog G0 39 [.lit (.int .i64 n)] H K := by
  refine ACall.clo ⟨_, Try.func39, rfl, rfl⟩ fun hcl => ?_
  refine ACall.of_body (n := 19) (rs := [.tmp 2]) Try.func39 rfl rfl rfl (by decide) (by kernel_rfl) (by simp) ?_
  simp only[go_sem, appendA_U]
  refine W.loop0 262137 (by rfl) (fun ρ H' => ∃ (c:Int) (done:List Int), ρ 0 = lin c /\ Over H H' /\ OwnG H.next H' 3 (ρ 3) (ints done) /\ dig n.natAbs = done ++ dig c.natAbs /\ c.natAbs <= n.natAbs) (fun ρ H => (iv (ρ 0)).natAbs) ?_ ?_
  · simp only[go_sem, appendA_U]
    exact⟨n, [], rfl, .refl _, .nil, by simp, by omega⟩
  rintro ρ H' ⟨c, done, h0, ov, h3, hd, hc⟩
  refine vc_sound _ _ _ (by rfl) ?_
  by_cases hz:c = 0
  · subst hz
    simp only[go_sem, h0, appendA_U]
    rw[show (0:Int).natAbs = 0 from rfl, dig_zero, List.append_nil]at hd
    rw[hd]at hK
    exact FinV.dropO G0_ok hcl ov (h3.fzI fun i hi => hi) hK
  · have hq:(c.tdiv 10000).natAbs = c.natAbs / 10000 := by rw[Int.natAbs_tdiv]; rfl
    have hr:(c.tmod 10000).natAbs = c.natAbs % 10000 := by rw[Int.natAbs_tmod]; rfl
    have w1 := IntWalk.i64_in (c.tmod 10000) (by omega)
    have w2 := IntWalk.i64_in (0 - c.tmod 10000) (by omega)
    have w3 := IntWalk.i64_in (c.tdiv 10000) (by omega)
    have hmax:(if 0 - c.tmod 10000 > c.tmod 10000 then 0 - c.tmod 10000 else c.tmod 10000) = ((c.natAbs % 10000:Nat):Int) := by split <;> omega
    have h5 : (dig n.natAbs).length ≤ 5 := dig_len (by have : (10000 : Nat) ^ 5 = 100000000000000000000 := by decide
                                                       omega)
    have hlen:done.length <= 5 := by rw[hd, List.length_append]at h5; omega
    have hdc := dig_pos (n := c.natAbs) (by omega)
    obtain⟨v', H2, hA, hO, hn2, hp⟩ := app_oneG (P := Try.prog) (H := H') (t := 52) (x := lin (c.natAbs % 10000:Nat)) (n := H'.next + 1) Try.underlying52 Try.cells3 Try.zero3 rfl (by rw[Try.bytes3, ints_length]; omega) h3 ov.next rfl
    simp only[lin]at hA
    simp only[go_sem, h0, hz, w1, w2, w3, hmax, hA]
    have ov2:Over H H2 := over_app ov h3 hn2 hp
    refine⟨ov2.next, ⟨c.tdiv 10000, done ++ [((c.natAbs % 10000:Nat):Int)], rfl, ov2, ?_, ?_, by omega⟩, by omega⟩
    · simpa [ints, lin] using hO
    · rw[hd, hdc, hq]; simp
theorem cut_spec (l:List Int)(hl:Dg l)(hn:(l.length:Int) < 2 ^ 40)(H:AHeap)(K:ARes -> AHeap -> Prop)(hK:K (.ret (vecI (dig (val l)))) H):ACall Try.prog G0 65 [vecI l] H K := by
  refine ACall.of_body (n := 21) (rs := [.tmp 2]) Try.func65 rfl rfl rfl (by decide) (by kernel_rfl) (by simp) ?_
  simp only[go_sem, appendA_U]
  refine W.loop0 1048569 (by rfl) (fun ρ H' => H = H' /\ ∃ (m:List Int), ρ 0 = vecI m /\ Dg m /\ val m = val l /\ m.length <= l.length) (fun ρ H => (match ρ 0 with | .vec n _ => n | _ => 0)) ?_ ?_
  · simp only[go_sem, appendA_U]
    exact⟨l, rfl, hl, rfl, Nat.le_refl _⟩
  rintro ρ H' ⟨rfl, m, h0, hd, hv, hm⟩
  refine vc_sound _ _ _ (by rfl) ?_
  unfold vecI at h0
  by_cases hz:m.length = 0
  · have hm0:m = [] := List.eq_nil_of_length_eq_zero hz
    subst hm0
    have z1:¬ (0:Int) < ((0:Nat):Int) := by omega
    simp only[go_sem, h0, guardA_undef, List.length_nil, appendA_U]
    rw[<- hv]at hK
    have:dig (val []) = [] := dig_zero
    rw[this]at hK
    exact FinV.mk (Nat.le_refl _) hK
  · obtain⟨a, ha⟩:∃ a, m[m.length - 1]? = some a := ⟨_, List.getElem?_eq_getElem (by omega)⟩
    have hmn:¬ m = [] := by rintro rfl; simp at hz
    have z1:(0:Int) < (m.length:Int) := by omega
    have w1:IntKind.i64.wrap ((m.length:Int) - 1) = ((m.length - 1:Nat):Int) := by rw[IntWalk.i64_in _ (by omega)]; omega
    have b1:((m.length - 1:Nat):Int) < (m.length:Int) := by omega
    have b2:((m.length - 1:Nat):Int) <= (m.length:Int) := by omega
    by_cases h0a:a = 0
    · subst h0a
      simp only[go_sem, h0, z1, w1, b1, b2, ha, hmn, appendA_U]
      have hs:m.take (m.length - 1) ++ [0] = m := by
        have h := take_succ_of ha
        rw[Nat.sub_add_cancel (by omega), List.take_length]at h
        exact h.symm
      refine⟨⟨m.take (m.length - 1), ?_, fun c hc => hd c (List.mem_of_mem_take hc), ?_, by simp; omega⟩, by omega⟩
      · simp only[List.length_take, ints_take]; congr 1; omega
      · rw[<- hv]
        conv => rhs; rw[<- hs]
        rw[val_append]; simp [val]
    · simp only[go_sem, h0, z1, w1, b1, b2, ha, hmn, h0a, appendA_U]
      have hlast:m.getLast? = some a := by rw[List.getLast?_eq_getElem?]; exact ha
      have := dig_of hd fun b hb => by rw[hlast]at hb; cases hb; exact h0a
      rw[<- hv, this]at hK
      exact FinV.mk (Nat.le_refl _) hK
theorem val_cmp {x y:List Int}(hx:Dg x)(hy:Dg y)(hl:x.length = y.length){k:Nat}{a b:Int}(ha:x[k]? = some a)(hb:y[k]? = some b)(he:∀ j, k < j -> x[j]? = y[j]?)(hab:a < b):val x < val y := by
  have sp:∀ {l:List Int} {c:Int}, l[k]? = some c -> l = l.take k ++ c :: l.drop (k + 1) := fun {l c} h => by
    have hk := (List.getElem?_eq_some_iff.1 h).1
    have h2 := (List.getElem?_eq_some_iff.1 h).2
    conv => lhs; rw[<- List.take_append_drop k l]
    rw[List.drop_eq_getElem_cons hk, h2]
  have e1:x.drop (k + 1) = y.drop (k + 1) := by
    apply List.ext_getElem?
    intro i
    rw[List.getElem?_drop, List.getElem?_drop]
    exact he _ (by omega)
  have hk := (List.getElem?_eq_some_iff.1 ha).1
  have hk2 := (List.getElem?_eq_some_iff.1 hb).1
  rw[sp ha, sp hb, val_append, val_append, e1]
  have l1:(x.take k).length = k := by simp; omega
  have l2:(y.take k).length = k := by simp; omega
  rw[l1, l2]
  have v1 := val_lt (l := x.take k) fun c hc => hx c (List.mem_of_mem_take hc)
  have v2:0 <= val (y.take k) := Nat.zero_le _
  rw[l1]at v1
  have pa := hx a (List.mem_of_getElem? ha)
  have pb := hy b (List.mem_of_getElem? hb)
  simp only[val]
  have h3:10000 ^ k * (a.toNat + 10000 * val (y.drop (k + 1))) + 10000 ^ k <= 10000 ^ k * (b.toNat + 10000 * val (y.drop (k + 1))) := by
    have:a.toNat + 10000 * val (y.drop (k + 1)) + 1 <= b.toNat + 10000 * val (y.drop (k + 1)) := by omega
    calc _ = 10000 ^ k * (a.toNat + 10000 * val (y.drop (k + 1)) + 1) := (Nat.mul_succ _ _).symm
      _ <= _ := Nat.mul_le_mul_left _ this
  omega
theorem compare_spec (x y:Nat)(hx:((dig x).length:Int) < 2 ^ 40)(H:AHeap)(K:ARes -> AHeap -> Prop)(hK:K (.ret (.lit (.int .i64 (cmpI x y)))) H):ACall Try.prog G0 37 [vecI (dig x), vecI (dig y)] H K := by
  obtain⟨p, hp⟩:∃ p, p = dig x := ⟨_, rfl⟩
  obtain⟨q, hq⟩:∃ q, q = dig y := ⟨_, rfl⟩
  have dx := dg_dig x
  have dy := dg_dig y
  have vx := val_dig x
  have vy := val_dig y
  have lt1:p.length < q.length -> x < y := fun h => dig_lt_len (by rw[<- hp, <- hq]; exact h)
  have lt2:q.length < p.length -> y < x := fun h => dig_lt_len (by rw[<- hp, <- hq]; exact h)
  rw[<- hp]at hx dx vx ⊢
  rw[<- hq]at dy vy ⊢
  refine ACall.of_body (n := 41) (rs := [.tmp 4]) Try.func37 rfl rfl rfl (by decide) (by kernel_rfl) (by simp) ?_
  by_cases hl:(p.length:Int) = q.length
  rotate_left
  · by_cases hl2:(p.length:Int) < q.length
    · have:cmpI x y = -1 := by unfold cmpI; rw[if_pos (by have := lt1 (by omega); omega)]
      rw[this]at hK
      simp only[go_sem, hl, hl2, appendA_U]
      exact FinV.mk (Nat.le_refl _) hK
    · have := lt2 (by omega)
      have:cmpI x y = 1 := by unfold cmpI; rw[if_neg (by omega), if_neg (by omega)]
      rw[this]at hK
      simp only[go_sem, hl, hl2, appendA_U]
      exact FinV.mk (Nat.le_refl _) hK
  have hln:p.length = q.length := by omega
  have w0 := IntWalk.i64_in ((p.length:Int) - 1) (by omega)
  simp only[go_sem, hl, w0, appendA_U]
  rw[<- hl, w0]
  refine W.loop0 2199022731312 (by rfl) (fun ρ H' => H = H' /\ ∃ (k:Nat), ρ 5 = lin ((k:Int) - 1) /\ k <= p.length /\ ∀ j, k <= j -> p[j]? = q[j]?) (fun ρ H => (iv (ρ 5) + 1).toNat) ?_ ?_
  · simp only[go_sem, appendA_U]
    exact⟨p.length, by simp, Nat.le_refl _, fun j hj => by rw[List.getElem?_eq_none hj, List.getElem?_eq_none (by omega)]⟩
  rintro ρ H' ⟨rfl, k, h5, hk, he⟩
  refine vc_sound _ _ _ (by rfl) ?_
  by_cases hz:k = 0
  · subst hz
    have z1:¬ (0:Int) <= ((0:Nat):Int) - 1 := by omega
    have e0:p = q := List.ext_getElem? fun j => he j (Nat.zero_le _)
    have:x = y := by rw[<- vx, <- vy, e0]
    have:cmpI x y = 0 := by unfold cmpI; rw[if_neg (by omega), if_pos (by omega)]
    rw[this]at hK
    simp only[go_sem, h5, z1, appendA_U]
    exact FinV.mk (Nat.le_refl _) hK
  · obtain⟨j, rfl⟩:∃ j, k = j + 1 := ⟨k - 1, by omega⟩
    obtain⟨a, ha⟩:∃ a, p[j]? = some a := ⟨_, List.getElem?_eq_getElem (by omega)⟩
    obtain⟨b, hb⟩:∃ b, q[j]? = some b := ⟨_, List.getElem?_eq_getElem (by omega)⟩
    have hpn:¬ p = [] := by rintro rfl; simp at ha
    have hqn:¬ q = [] := by rintro rfl; simp at hb
    have ej:((j + 1:Nat):Int) - 1 = (j:Int) := by omega
    rw[ej]at h5
    have z1:(0:Int) <= (j:Int) := by omega
    have b1:(j:Int) < p.length := by omega
    have b2:(j:Int) < q.length := by omega
    have w2 := IntWalk.i64_in ((j:Int) - 1) (by omega)
    simp only[go_sem, h5, z1, appendA_U]
    refine W.draw 8 [0, 0, 3, 7, 0, 0, 48, 112] Try.mixed (by kernel_rfl) (by kernel_rfl) ?_
    by_cases hab:a = b
    · subst hab
      simp only[go_sem, h5, z1, b1, b2, ha, hb, hpn, hqn, w2, appendA_U]
      exact⟨⟨j, rfl, by omega, fun i hi => by
        rcases Nat.lt_or_ge j i with h | h
        · exact he i (by omega)
        · obtain rfl:i = j := by omega
          rw[ha, hb]⟩, by omega⟩
    · simp only[go_sem, h5, z1, b1, b2, ha, hb, hpn, hqn, hab, appendA_U]
      refine W.draw 8 [0, 0, 3, 7, 0, 0, 48, 112] Try.mixed (by kernel_rfl) (by kernel_rfl) ?_
      by_cases hlt:a < b
      · have h1 := val_cmp dx dy hln ha hb (fun i hi => he i (by omega)) hlt
        rw[vx, vy]at h1
        have:cmpI x y = -1 := by unfold cmpI; rw[if_pos (by omega)]
        rw[this]at hK
        simp only[go_sem, h5, z1, b1, b2, ha, hb, hpn, hqn, hlt, appendA_U]
        exact FinV.mk (Nat.le_refl _) hK
      · have h1 := val_cmp dy dx hln.symm hb ha (fun i hi => (he i (by omega)).symm) (by omega)
        rw[vx, vy]at h1
        have:cmpI x y = 1 := by unfold cmpI; rw[if_neg (by omega), if_neg (by omega)]
        rw[this]at hK
        simp only[go_sem, h5, z1, b1, b2, ha, hb, hpn, hqn, hlt, appendA_U]
        exact FinV.mk (Nat.le_refl _) hK
end Go.Proofs.R01
namespace Go.Proofs.R01
open Go.Hx
theorem dig_get {l:List Int}{i X:Nat}(h:l.drop i=dig X):(i<l.length↔X≠0)/\(X≠0->l[i]?=some ((X % 10000:Nat):Int))/\l.drop (i+1)=dig (X / 10000):=by
 have hl:l.length - i=(dig X).length:=by rw[<- h,List.length_drop]
 by_cases h0:X=0
 ·subst h0
  rw[dig_zero]at h hl
  simp only[List.length_nil]at hl
  refine⟨⟨fun h=>by omega,fun h=>absurd rfl h⟩,fun h=>absurd rfl h,?_⟩
  rw[dig_zero,List.drop_eq_nil_iff.2 (by omega)]
 ·rw[dig_pos h0]at h hl
  simp only[List.length_cons]at hl
  refine⟨⟨fun _=>h0,fun _=>by omega⟩,fun _=>?_,?_⟩
  ·have:=congrArg (fun m=>m[0]?) h
   simpa [List.getElem?_drop] using this
  ·have:=congrArg List.tail h
   simpa [List.tail_drop] using this
theorem len_of_dig {n:Nat}{k:Nat}(h:(dig n).length<=k):n<10000 ^ k:=by
 have:=val_lt (dg_dig n)
 rw[val_dig]at this
 exact Nat.lt_of_lt_of_le this (Nat.pow_le_pow_right (by decide) h)
set_option maxHeartbeats 1000000 in
theorem minus_spec (x y:Nat)(hxy:y<=x)(hx:(dig x).length<=200)(H:AHeap)(K:ARes->AHeap->Prop)(hK:K (.ret (vecI (dig (x - y)))) H):ACall Try.prog G0 83 [vecI (dig x),vecI (dig y)] H K:=by
 refine ACall.clo ⟨_,Try.func83,rfl,rfl⟩ fun hcl=>?_
 have vx:=val_dig x
 obtain⟨p,hp⟩:∃ p,p=dig x:=⟨_,rfl⟩
 obtain⟨q,hq⟩:∃ q,q=dig y:=⟨_,rfl⟩
 rw[<- hp]at hx vx ⊢
 rw[<- hq]
 refine ACall.of_body (n:=41) (rs:=[.tmp 4]) Try.func83 rfl rfl rfl (by decide) (by kernel_rfl) (by simp) ?_
 simp only[go_sem]
 refine W.loop0 549755813856 (by rfl) (fun ρ H'=>∃ (i c X Y:Nat) (done:List Int),ρ 7=lin i/\ρ 6=lin c/\c<=1/\i<=p.length/\Over H H'/\OwnG H.next H' 3 (ρ 5) (ints done)/\done.length=i/\Dg done/\p.drop i=dig X/\q.drop i=dig Y/\val done+10000 ^ i*X=(x - y)+10000 ^ i*(Y+c)) (fun ρ H=>p.length - (iv (ρ 7)).toNat) ?_ ?_
 ·simp only[go_sem]
  exact⟨0,0,x,y,[],rfl,rfl,by omega,by omega,.refl _,.nil,rfl,(fun c hc=>by cases hc),by simpa using hp,by simpa using hq,by simp [val];omega⟩
 rintro ρ H' ⟨i,c,X,Y,done,h7,h6,hc,hi,ov,h5,hl,hdg,hX,hY,he⟩
 refine vc_sound _ _ _ (by rfl) ?_
 obtain⟨a1,a2,a3⟩:=dig_get hX
 obtain⟨b1,b2,b3⟩:=dig_get hY
 by_cases hb:(i:Int)<p.length
 rotate_left
 ·simp only[go_sem,h7,hb]
  have hX0:X=0:=by
   rcases Nat.eq_zero_or_pos X with h|h
   ·exact h
   ·have:=a1.2 (by omega);omega
  have hv:=val_lt hdg
  rw[hl]at hv
  have hYc:Y+c=0:=by
   rcases Nat.eq_zero_or_pos (Y+c) with h|h
   ·exact h
   ·have:10000 ^ i*1<=10000 ^ i*(Y+c):=Nat.mul_le_mul_left _ h
    rw[hX0]at he
    omega
  have hvd:val done=x - y:=by rw[hX0,hYc]at he;omega
  refine AApply.cutArgs H.next (args':=[vecI done]) G0_ok rfl (fun j hj _=>match j,hj with|0,_=>h5.fzI fun i hi=>hi) (cut_spec done hdg (by omega) _ _ ⟨trivial,?_⟩)
  rw[hvd]
  have ov3:Over H (H'.cut H.next):=ov.cutO (Nat.le_refl _)
  simp only[go_sem]
  exact FinV.dropO G0_ok hcl ov3 (.keepInts _) hK
 have hx0:X≠0:=a1.1 (by omega)
 have g1:=a2 hx0
 have pn:¬ p=[]:=by rintro rfl;simp at hb;omega
 have w3:=IntWalk.i64_in ((i:Int)+1) (by omega)
 obtain⟨d,c',hd,hd2,hc'⟩:∃ d c':Nat,(d:Int)=((X % 10000:Nat):Int) - c - ((Y % 10000:Nat):Int)+10000*(c':Int)/\d<=9999/\c'<=1:=by
  by_cases h:((X % 10000:Nat):Int) - c - ((Y % 10000:Nat):Int)<0
  ·exact⟨(((X % 10000:Nat):Int) - c - ((Y % 10000:Nat):Int)+10000).toNat,1,by omega,by omega,by omega⟩
  ·exact⟨(((X % 10000:Nat):Int) - c - ((Y % 10000:Nat):Int)).toNat,0,by omega,by omega,by omega⟩
 obtain⟨v',H2,hA,hO,hn2,hpr⟩:=app_oneG (P:=Try.prog) (H:=H') (t:=52) (x:=lin (d:Nat)) (n:=H'.next+1) Try.underlying52 Try.cells3 Try.zero3 rfl (by rw[Try.bytes3,ints_length];omega) h5 ov.next rfl
 simp only[lin]at hA
 have ov2:Over H H2:=over_app ov h5 hn2 hpr
 have fin:∃ (i' c'' X' Y':Nat) (done':List Int),AVal.lit (.int .i64 ((i:Int)+1))=lin i'/\AVal.lit (.int .i64 (c':Int))=lin c''/\c''<=1/\i'<=p.length/\Over H H2/\OwnG H.next H2 3 v' (ints done')/\done'.length=i'/\Dg done'/\p.drop i'=dig X'/\q.drop i'=dig Y'/\val done'+10000 ^ i'*X'=(x - y)+10000 ^ i'*(Y'+c''):=by
  refine⟨i+1,c',X / 10000,Y / 10000,done++[(d:Int)],by simp [lin],rfl,hc',by omega,ov2,by simpa [ints,lin] using hO,by simp [hl],fun z hz=>?_,a3,b3,?_⟩
  ·rcases List.mem_append.1 hz with hz|hz
   ·exact hdg z hz
   ·obtain rfl:=List.mem_singleton.1 hz;omega
  ·rw[val_append,hl,Nat.pow_succ]
   have e:d+10000*(X / 10000)+(Y+c)=X+10000*(Y / 10000+c'):=by omega
   have e2:=congrArg (10000 ^ i*·) e
   simp only[Nat.mul_add,val,Int.toNat_natCast,Nat.mul_zero,Nat.add_zero,Nat.mul_assoc]at e2 he ⊢
   generalize 10000 ^ i*d=P1 at *
   generalize 10000 ^ i*(10000*(X / 10000))=P2 at *
   generalize 10000 ^ i*Y=P3 at *
   generalize 10000 ^ i*c=P4 at *
   generalize 10000 ^ i*X=P5 at *
   generalize 10000 ^ i*(10000*(Y / 10000))=P6 at *
   generalize 10000 ^ i*(10000*c')=P7 at *
   omega
 have w4:=IntWalk.i64_in (((X % 10000:Nat):Int) - (c:Int)) (by omega)
 have w5:=IntWalk.i64_in (((X % 10000:Nat):Int) - (c:Int) - ((Y % 10000:Nat):Int)) (by omega)
 by_cases hy0:Y=0
 ·have n2:¬ (i:Int)<q.length:=by have:=fun h=>b1.1 h;omega
  by_cases hneg:((X % 10000:Nat):Int) - (c:Int)<0
  ·obtain rfl:c'=1:=by omega
   have ed:((X % 10000:Nat):Int) - (c:Int)+10000=(d:Int):=by omega
   have w6:=IntWalk.i64_in (d:Int) (by omega)
   simp only[go_sem,h7,h6,hb,n2,g1,pn,w4,hneg,ed,w6,w3,hA]
   exact⟨ov2.next,fin,by omega⟩
  ·obtain rfl:c'=0:=by omega
   have ed:((X % 10000:Nat):Int) - (c:Int)=(d:Int):=by omega
   rw[ed]at hneg w4
   simp only[go_sem,h7,h6,hb,n2,g1,pn,ed,w4,hneg,w3,hA]
   exact⟨ov2.next,fin,by omega⟩
 ·have n2:(i:Int)<q.length:=by have:=b1.2 hy0;omega
  have g2:=b2 hy0
  have qn:¬ q=[]:=by rintro rfl;simp at n2;omega
  by_cases hneg:((X % 10000:Nat):Int) - (c:Int) - ((Y % 10000:Nat):Int)<0
  ·obtain rfl:c'=1:=by omega
   have ed:((X % 10000:Nat):Int) - (c:Int) - ((Y % 10000:Nat):Int)+10000=(d:Int):=by omega
   have w6:=IntWalk.i64_in (d:Int) (by omega)
   simp only[go_sem,h7,h6,hb,n2,g1,g2,pn,qn,w4,w5,hneg,ed,w6,w3,hA]
   exact⟨ov2.next,fin,by omega⟩
  ·obtain rfl:c'=0:=by omega
   have ed:((X % 10000:Nat):Int) - (c:Int) - ((Y % 10000:Nat):Int)=(d:Int):=by omega
   rw[ed]at hneg w5
   simp only[go_sem,h7,h6,hb,n2,g1,g2,pn,qn,w4,ed,w5,hneg,w3,hA]
   exact⟨ov2.next,fin,by omega⟩
end Go.Proofs.R01
namespace Go.Proofs.R01
open Go.Hx
theorem setAt_ints {l:List Int}{k:Nat}(v:Int)(h:k<l.length):setAt (ints l) k [.lit (.int .i64 v)]=ints (l.set k v):=by
 unfold setAt ints
 rw[List.map_set,List.set_eq_take_append_cons_drop,if_pos (by simpa using h)]
 simp [lin]
theorem val_set:∀ {l:List Int} {j:Nat} {a:Int} (v:Int),l[j]?=some a->val (l.set j v)+10000 ^ j*a.toNat=val l+10000 ^ j*v.toNat
 | b :: l,0,a,v,h=>by
  simp only[List.getElem?_cons_zero,Option.some.injEq]at h
  subst h
  simp only[List.set_cons_zero,val,Nat.pow_zero,Nat.one_mul]
  omega
 | b :: l,j+1,a,v,h=>by
  simp only[List.getElem?_cons_succ]at h
  have ih:=val_set (l:=l) v h
  simp only[List.set_cons_succ,val,Nat.pow_succ]
  have e1:10000 ^ j*10000*a.toNat=10000*(10000 ^ j*a.toNat):=by ac_rfl
  have e2:10000 ^ j*10000*v.toNat=10000*(10000 ^ j*v.toNat):=by ac_rfl
  rw[e1,e2]
  omega
theorem val_take_succ {l:List Int}{i:Nat}{a:Int}(h:l[i]?=some a):val (l.take (i+1))=val (l.take i)+10000 ^ i*a.toNat:=by
 have hi:=(List.getElem?_eq_some_iff.1 h).1
 rw[take_succ_of h,val_append,List.length_take,Nat.min_eq_left (by omega)]
 simp [val]
set_option maxHeartbeats 2000000 in
theorem dtimes_spec (p q:List Int)(hp:Dg p)(hq:∀ c,c∈q->0<=c/\c<=10000)(hqv:val q<=10000 ^ q.length)(lp:p.length<=200)(lq:q.length<=200)(H:AHeap)(K:ARes->AHeap->Prop)(hK:K (.ret (vecI (dig (val p*val q)))) H):ACall Try.prog G0 40 [vecI p,vecI q] H K:=by
 refine ACall.clo ⟨_,Try.func40,rfl,rfl⟩ fun hcl=>?_
 have w0:=IntWalk.i64_in ((p.length:Int)+(q.length:Int)) (by omega)
 refine ACall.of_body (n:=65) (rs:=[.tmp 4]) Try.func40 rfl rfl rfl (by decide) (by kernel_rfl) (by simp) ?_
 simp only[go_sem,w0]
 obtain⟨L,hL⟩:∃ L,L=p.length+q.length:=⟨_,rfl⟩
 have eL:((p.length:Int)+(q.length:Int)).toNat=L:=by omega
 have eL2:(p.length:Int)+(q.length:Int)=(L:Int):=by omega
 rw[eL,eL2]
 have eR:List.replicate L (AVal.lit (.int .i64 0))=ints (List.replicate L 0):=by simp [ints,lin]
 rw[eR]
 refine⟨⟨by omega,by omega,by omega⟩,?_⟩
 have dr:Dg (List.replicate L 0):=fun c hc=>by obtain⟨_,rfl⟩:=List.mem_replicate.1 hc;omega
 refine W.loop0 9223372036854743488 (by rfl) (fun ρ H'=>∃ (i:Nat) (o:List Int),ρ 6=lin i/\i<=p.length/\H'=ext H [.arr 0 3 (ints o)]/\Dg o/\o.length=L/\val o=val (p.take i)*val q) (fun ρ H=>p.length - (iv (ρ 6)).toNat) ?_ ?_
 ·simp only[go_sem]
  exact⟨0,_,rfl,by omega,rfl,dr,by simp,by simp [val_zeros,val]⟩
 rintro ρ H' ⟨i,o,h6,hi,rfl,ho,hol,hv⟩
 refine vc_sound _ _ _ (by rfl) ?_
 by_cases hb:(i:Int)<p.length
 rotate_left
 ·simp only[go_sem,h6,hb]
  have hO:OwnG H.next (ext H [.arr 0 3 (ints o)]) 3 (.own H.next 0 0 L 1) (ints o):=.inr ⟨H.next,0,Nat.le_refl _,by simp [ext_next],by rw[ints_length,hol],get_ext0 _ _ _⟩
  refine AApply.cutArgs H.next (args':=[vecI o]) G0_ok rfl (fun j hj _=>match j,hj with|0,_=>hO.fzI fun i hi=>hi) (cut_spec o ho (by omega) _ _ ⟨trivial,?_⟩)
  rw[hv,List.take_of_length_le (by omega)]
  have ov3:Over H ((ext H [.arr 0 3 (ints o)]).cut H.next):=(Over.ext _ _).cutO (Nat.le_refl _)
  simp only[go_sem]
  exact FinV.dropO G0_ok hcl ov3 (.keepInts _) hK
 obtain⟨a,ha⟩:∃ a,p[i]?=some a:=⟨_,List.getElem?_eq_getElem (by omega)⟩
 have ha9:=hp a (List.mem_of_getElem? ha)
 obtain⟨A,rfl⟩:=Int.eq_ofNat_of_zero_le ha9.1
 have pn:¬ p=[]:=by rintro rfl;simp at ha
 have vt:=val_take_succ ha
 rw[Int.toNat_natCast]at vt
 have w1:=IntWalk.i64_in ((i:Int)+1) (by omega)
 simp only[go_sem,h6,hb]
 refine W.loop0 9223372036852679040 (by rfl) (fun ρ' H'=>∃ (k c:Nat) (o2:List Int),ρ' 8=lin k/\ρ' 7=lin c/\c<=10000/\k<=L/\H'=ext H [.arr 0 3 (ints o2)]/\Dg o2/\o2.length=L/\val o2+10000 ^ (i+k)*c=val (p.take i)*val q+10000 ^ i*(A*val (q.take k))) (fun ρ' H=>L - (iv (ρ' 8)).toNat) ?_ ?_
 ·simp only[go_sem]
  exact⟨0,0,o,rfl,rfl,by omega,by omega,rfl,ho,hol,by simp [val,hv]⟩
 rintro ρ' H' ⟨k,c,o2,h8,h7,hc,hk,rfl,ho2,hol2,hv2⟩
 refine vc_sound _ _ _ (by rfl) ?_
 by_cases hend:¬ k<q.length/\c=0
 ·obtain⟨hk2,rfl⟩:=hend
  have n1:¬ (k:Int)<q.length:=by omega
  have n2:¬ (0:Int)<((0:Nat):Int):=by omega
  simp only[go_sem,h8,h7,n1,h6,w1]
  refine⟨⟨i+1,o2,by simp,by omega,rfl,ho2,hol2,?_⟩,by omega⟩
  rw[List.take_of_length_le (l:=q) (i:=k) (by omega)]at hv2
  rw[vt,Nat.add_mul]
  simp only[Nat.mul_zero,Nat.add_zero]at hv2
  rw[hv2,Nat.mul_assoc]
 have hik:i+k<L:=by
  by_cases hkq:k<q.length
  ·omega
  ·have hc1:1<=c:=by omega
   rw[List.take_of_length_le (l:=q) (i:=k) (by omega)]at hv2
   have e:val (p.take i)*val q+10000 ^ i*(A*val q)=val (p.take (i+1))*val q:=by rw[vt,Nat.add_mul,Nat.mul_assoc]
   rw[e]at hv2
   have b1:val (p.take (i+1))<10000 ^ (i+1):=by
    have:=val_lt (l:=p.take (i+1)) fun c hc=>hp c (List.mem_of_mem_take hc)
    rwa [List.length_take,Nat.min_eq_left (by omega)]at this
   have b2:val (p.take (i+1))*val q<10000 ^ (i+1)*10000 ^ q.length:=by
    have p0:0<10000 ^ q.length:=Nat.pow_pos (by decide)
    calc val (p.take (i+1))*val q<=val (p.take (i+1))*10000 ^ q.length:=Nat.mul_le_mul_left _ hqv
     _<10000 ^ (i+1)*10000 ^ q.length:=Nat.mul_lt_mul_of_pos_right b1 p0
   rw[<- Nat.pow_add]at b2
   have b3:10000 ^ (i+k)*1<=10000 ^ (i+k)*c:=Nat.mul_le_mul_left _ hc1
   have b4:10000 ^ (i+k)<10000 ^ (i+1+q.length):=by omega
   have:=(Nat.pow_lt_pow_iff_right (by decide:1<10000)).1 b4
   omega
 obtain⟨b,hbk⟩:∃ b,o2[i+k]?=some b:=⟨_,List.getElem?_eq_getElem (by omega)⟩
 have hb9:=ho2 b (List.mem_of_getElem? hbk)
 obtain⟨B,rfl⟩:=Int.eq_ofNat_of_zero_le hb9.1
 have o2n:¬ o2=[]:=by rintro rfl;simp at hbk
 have w2:=IntWalk.i64_in ((i:Int)+(k:Int)) (by omega)
 have w3:=IntWalk.i64_in ((k:Int)+1) (by omega)
 have eik:(i:Int)+(k:Int)=((i+k:Nat):Int):=by omega
 rw[eik]at w2
 have bik:((i+k:Nat):Int)<(L:Int):=by omega
 have w4:=IntWalk.i64_in ((c:Int)+(B:Int)) (by omega)
 by_cases hkq:k<q.length
 ·obtain⟨d,hdk⟩:∃ d,q[k]?=some d:=⟨_,List.getElem?_eq_getElem (by omega)⟩
  have hd9:=hq d (List.mem_of_getElem? hdk)
  obtain⟨D,rfl⟩:=Int.eq_ofNat_of_zero_le hd9.1
  have qn:¬ q=[]:=by rintro rfl;simp at hdk
  have n1:(k:Int)<q.length:=by omega
  have mAD:A*D<=9999*10000:=Nat.mul_le_mul (by omega) (by omega)
  have cAD:(A:Int)*(D:Int)=((A*D:Nat):Int):=(Int.natCast_mul _ _).symm
  obtain⟨t,ht⟩:∃ t,t=c+B+A*D:=⟨_,rfl⟩
  have et:(c:Int)+(B:Int)+((A*D:Nat):Int)=(t:Int):=by omega
  have w5:=IntWalk.i64_in ((A*D:Nat):Int) (by omega)
  have w6:=IntWalk.i64_in (t:Int) (by omega)
  have tm:((t:Int)).tmod 10000=((t % 10000:Nat):Int):=by rw[Int.tmod_eq_emod_of_nonneg (by omega)];rfl
  have td:((t:Int)).tdiv 10000=((t / 10000:Nat):Int):=by rw[Int.tdiv_eq_ediv_of_nonneg (by omega)];rfl
  have w7:=IntWalk.i64_in ((t % 10000:Nat):Int) (by omega)
  have w8:=IntWalk.i64_in ((t / 10000:Nat):Int) (by omega)
  have hs:=val_set ((t % 10000:Nat):Int) hbk
  rw[Int.toNat_natCast,Int.toNat_natCast]at hs
  have vq:=val_take_succ hdk
  rw[Int.toNat_natCast]at vq
  have fin:∃ (k' c':Nat) (o3:List Int),AVal.lit (.int .i64 ((k:Int)+1))=lin k'/\AVal.lit (.int .i64 ((t / 10000:Nat):Int))=lin c'/\c'<=10000/\k'<=L/\ext H [.arr 0 3 (ints (o2.set (i+k) ((t % 10000:Nat):Int)))]=ext H [.arr 0 3 (ints o3)]/\Dg o3/\o3.length=L/\val o3+10000 ^ (i+k')*c'=val (p.take i)*val q+10000 ^ i*(A*val (q.take k')):=by
   refine⟨k+1,t / 10000,_,by simp [lin],rfl,by omega,by omega,rfl,fun z hz=>?_,by simp [hol2],?_⟩
   ·rcases List.mem_or_eq_of_mem_set hz with h|h
    ·exact ho2 z h
    ·omega
   ·rw[vq,<- Nat.add_assoc,Nat.pow_succ]
    have e1:t=t % 10000+10000*(t / 10000):=by omega
    have e2:=congrArg (10000 ^ (i+k)*·) (show c+B+A*D=t % 10000+10000*(t / 10000) by omega)
    have e3:10000 ^ i*(A*(val (q.take k)+10000 ^ k*D))=10000 ^ i*(A*val (q.take k))+10000 ^ (i+k)*(A*D):=by
     rw[Nat.mul_add,Nat.mul_add,Nat.pow_add]
     congr 1
     ac_rfl
    rw[e3]
    simp only[Nat.mul_add,Nat.mul_assoc]at e2 hv2 hs ⊢
    omega
  simp only[go_sem,h8,h7,n1,h6,w2,w4,eik,bik,hbk]
  refine W.draw 10 [0,0,0,6,14,0,0,96,224,510] Try.mixed (by kernel_rfl) (by kernel_rfl) ?_
  simp only[go_sem,h8,h7,n1,h6,w2,eik,bik,ha,hdk,pn,qn,hb,cAD,w5,et,w6]
  rw[w3,td,w8,tm,setAt_ints _ (by omega)]
  exact⟨by omega,fin,by omega⟩
 ·have n1:¬ (k:Int)<q.length:=by omega
  have n2:(0:Int)<(c:Int):=by omega
  obtain⟨t,ht⟩:∃ t,t=c+B:=⟨_,rfl⟩
  have et:(c:Int)+(B:Int)=(t:Int):=by omega
  have w6:=IntWalk.i64_in (t:Int) (by omega)
  have tm:((t:Int)).tmod 10000=((t % 10000:Nat):Int):=by rw[Int.tmod_eq_emod_of_nonneg (by omega)];rfl
  have td:((t:Int)).tdiv 10000=((t / 10000:Nat):Int):=by rw[Int.tdiv_eq_ediv_of_nonneg (by omega)];rfl
  have w7:=IntWalk.i64_in ((t % 10000:Nat):Int) (by omega)
  have w8:=IntWalk.i64_in ((t / 10000:Nat):Int) (by omega)
  have hs:=val_set ((t % 10000:Nat):Int) hbk
  rw[Int.toNat_natCast,Int.toNat_natCast]at hs
  have fin:∃ (k' c':Nat) (o3:List Int),AVal.lit (.int .i64 ((k:Int)+1))=lin k'/\AVal.lit (.int .i64 ((t / 10000:Nat):Int))=lin c'/\c'<=10000/\k'<=L/\ext H [.arr 0 3 (ints (o2.set (i+k) ((t % 10000:Nat):Int)))]=ext H [.arr 0 3 (ints o3)]/\Dg o3/\o3.length=L/\val o3+10000 ^ (i+k')*c'=val (p.take i)*val q+10000 ^ i*(A*val (q.take k')):=by
   refine⟨k+1,t / 10000,_,by simp [lin],rfl,by omega,by omega,rfl,fun z hz=>?_,by simp [hol2],?_⟩
   ·rcases List.mem_or_eq_of_mem_set hz with h|h
    ·exact ho2 z h
    ·omega
   ·rw[List.take_of_length_le (l:=q) (i:=k) (by omega)]at hv2
    rw[List.take_of_length_le (l:=q) (i:=k+1) (by omega),<- Nat.add_assoc,Nat.pow_succ]
    have e2:=congrArg (10000 ^ (i+k)*·) (show c+B=t % 10000+10000*(t / 10000) by omega)
    simp only[Nat.mul_add,Nat.mul_assoc]at e2 hv2 hs ⊢
    omega
  simp only[go_sem,h8,h7,n1,n2,h6,w2,eik,bik,hbk,et,w6,hol2]
  rw[w3,td,w8,tm,setAt_ints _ (by omega)]
  exact⟨by omega,fin,by omega⟩
end Go.Proofs.R01
namespace Go.Proofs.R01
open Go.Hx
theorem dtimes_dig (x y:Nat)(hx:(dig x).length<=200)(hy:(dig y).length<=200)(H:AHeap)(K:ARes->AHeap->Prop)(hK:K (.ret (vecI (dig (x*y)))) H):ACall Try.prog G0 40 [vecI (dig x),vecI (dig y)] H K :=
 dtimes_spec (dig x) (dig y) (dg_dig x) (fun c hc=>by have:=dg_dig y c hc;omega) (Nat.le_of_lt (val_lt (dg_dig y))) hx hy H K (by rw[val_dig,val_dig];exact hK)
theorem dtimes_one (x d:Nat)(hd:d<=10000)(hx:(dig x).length<=200)(H:AHeap)(K:ARes->AHeap->Prop)(hK:K (.ret (vecI (dig (x*d)))) H):ACall Try.prog G0 40 [vecI (dig x),vecI [(d:Int)]] H K:=by
 have e:val [(d:Int)]=d:=by simp [val]
 refine dtimes_spec (dig x) [(d:Int)] (dg_dig x) (fun c hc=>?_) (by rw[e];simpa using hd) hx (by simp) H K (by rw[val_dig,e];exact hK)
 obtain rfl:=List.mem_singleton.1 hc
 omega
theorem dig_drop (n:Nat):∀ k:Nat,(dig n).drop k=dig (n / 10000 ^ k)
 | 0=>by simp
 | k+1=>by
  have h:=(dig_get (dig_drop n k)).2.2
  rw[h,Nat.pow_succ,Nat.div_div_eq_div_mul]
theorem dig_nth {n k:Nat}(h:k<(dig n).length):(dig n)[k]?=some ((n / 10000 ^ k % 10000:Nat):Int):=(dig_get (dig_drop n k)).2.1 ((dig_get (dig_drop n k)).1.1 h)
theorem dig_out {n k:Nat}(h:¬ k<(dig n).length):n / 10000 ^ k=0:=by
 rcases Nat.eq_zero_or_pos (n / 10000 ^ k) with h0|h0
 ·exact h0
 ·exact absurd ((dig_get (dig_drop n k)).1.2 (by omega)) h
theorem quo_hi {N y P:Nat}(hP:0<P)(ht:0<y / P):N / y<=N / P / (y / P):=by
 rw[Nat.le_div_iff_mul_le ht,Nat.le_div_iff_mul_le hP]
 calc N / y*(y / P)*P=N / y*(y / P*P):=Nat.mul_assoc ..
  _<=N / y*y:=Nat.mul_le_mul_left _ (Nat.div_mul_le_self _ _)
  _<=N:=Nat.div_mul_le_self _ _
theorem quo_lo {N y P:Nat}(hP:0<P)(hy:0<y):N / P / (y / P+1)<=N / y:=by
 rw[Nat.le_div_iff_mul_le hy]
 have h1:y<=(y / P+1)*P:=by
  have:=Nat.lt_mul_div_succ y hP
  rw[Nat.mul_comm]at this
  omega
 calc N / P / (y / P+1)*y<=N / P / (y / P+1)*((y / P+1)*P):=Nat.mul_le_mul_left _ h1
  _=N / P / (y / P+1)*(y / P+1)*P:=(Nat.mul_assoc ..).symm
  _<=N / P*P:=Nat.mul_le_mul_right _ (Nat.div_mul_le_self _ _)
  _<=N:=Nat.div_mul_le_self _ _
theorem quo_cap {N y n:Nat}(hN:N<10000*y)(hy:10000 ^ n<=y):N / 10000 ^ (n - 1) / (y / 10000 ^ (n - 1))<=10000:=by
 have hP:0<10000 ^ (n - 1):=Nat.pow_pos (by decide)
 rcases Nat.eq_zero_or_pos n with h0|h0
 ·subst h0
  have hy0:0<y:=by simp at hy;omega
  simp only[Nat.zero_sub,Nat.pow_zero,Nat.div_one]
  exact Nat.le_of_lt (Nat.div_lt_of_lt_mul (by rw[Nat.mul_comm];exact hN))
 ·have ht:10000<=y / 10000 ^ (n - 1):=by
   rw[Nat.le_div_iff_mul_le hP]
   have:10000*10000 ^ (n - 1)=10000 ^ n:=by rw[Nat.mul_comm,<- Nat.pow_succ];congr 1;omega
   omega
  generalize 10000 ^ (n - 1)=P at *
  refine Nat.le_of_lt_succ (Nat.div_lt_of_lt_mul ?_)
  refine Nat.div_lt_of_lt_mul ?_
  have h1:=Nat.lt_mul_div_succ y hP
  generalize y / P=T at *
  have h2:P*(T+1)*10000<=P*(T*10001):=by
   rw[Nat.mul_assoc]
   exact Nat.mul_le_mul_left _ (by omega)
  have h3:y<P*(T+1):=h1
  generalize P*(T+1)=Z at *
  generalize hW:P*(T*10001)=W at *
  have h4:N<W:=by omega
  first|exact h4|(rw[<- hW]at h4;simpa [Nat.mul_comm,Nat.mul_left_comm,Nat.mul_assoc] using h4)
theorem quo_step {X a y Q R:Nat}(hX:X=y*Q+R)(hR:R<y):(a+10000*X) / y=10000*Q+(a+10000*R) / y/\(a+10000*X) % y=(a+10000*R) % y:=by
 have e:a+10000*X=(a+10000*R)+y*(10000*Q):=by
  rw[hX,Nat.mul_add]
  have:10000*(y*Q)=y*(10000*Q):=by ac_rfl
  omega
 rw[e,Nat.add_mul_div_left _ _ (by omega),Nat.add_mul_mod_self_left]
 exact⟨Nat.add_comm _ _,rfl⟩
end Go.Proofs.R01
namespace Go.Proofs.R01
open Go.Hx
theorem cmpI_le {a b:Int}(h:a<=b):cmpI a b<=0:=by
 unfold cmpI
 split
 ·omega
 ·split<;>omega
theorem cmpI_gt {a b:Int}(h:b<a):¬ cmpI a b<=0:=by
 unfold cmpI
 split
 ·omega
 ·split<;>omega
set_option maxHeartbeats 4000000 in
theorem divide_spec (x y:Nat)(hy:y≠0)(hx:(dig x).length<=100)(hyl:(dig y).length<=100)(H:AHeap)(K:ARes->AHeap->Prop)(hK:K (.ret (.tup [vecI (dig (x / y)),vecI (dig (x % y))])) H):ACall Try.prog G0 64 [vecI (dig x),vecI (dig y)] H K:=by
 refine ACall.argsBelow ⟨_,Try.func64,rfl,rfl⟩ fun hcl hbel=>?_
 obtain⟨p,hp⟩:∃ p,p=dig x:=⟨_,rfl⟩
 obtain⟨q,hq⟩:∃ q,q=dig y:=⟨_,rfl⟩
 have hqn:q.length≠0:=by intro h;exact hy (dig_nil.1 (by rw[<- hq];exact List.eq_nil_of_length_eq_zero h))
 obtain⟨n,hn⟩:∃ n,q.length=n+1:=⟨q.length - 1,by omega⟩
 have ylb:=dig_lb y hy
 have yub:=len_of_dig (n:=y) (k:=n+1) (by rw[<- hq,hn];exact Nat.le_refl _)
 rw[<- hq,hn,Nat.add_sub_cancel]at ylb
 have hx1:=hx
 have hy1:=hyl
 rw[<- hp]at hx
 rw[<- hq]at hyl
 have w1:=IntWalk.i64_in ((q.length:Int) - 1) (by omega)
 have en:(q.length:Int) - 1=(n:Int):=by omega
 rw[en]at w1
 rw[<- hp,<- hq]at hbel ⊢
 have rep0:∀ v:AVal,List.replicate 0 v=[]:=fun _=>rfl
 refine ACall.of_body (n:=124) (rs:=[.tmp 4,.tmp 5]) Try.func64 rfl rfl rfl (by decide) (by kernel_rfl) (by simp) ?_
 by_cases hs:(p.length:Int)<=(n:Int)
 ·have hlt:x<y:=dig_lt_len (by rw[<- hp,<- hq];omega)
  rw[Nat.div_eq_of_lt hlt,Nat.mod_eq_of_lt hlt,dig_zero,<- hp]at hK
  obtain⟨v',H3,hA,hO,hn3,hpr⟩:=app_vecG (P:=Try.prog) (H:=ext H [.arr 0 3 []]) (t:=52) (lo:=H.next) (n:=H.next+1) (v:=.own H.next 0 0 0 1) (cs:=[]) (src:=ints p) Try.underlying52 Try.cells3 Try.zero3 (all_one_ints p) (by rw[Try.bytes3,ints_length];simp;omega) (.inr ⟨H.next,0,Nat.le_refl _,by simp [ext_next],rfl,get_ext0 _ _ _⟩) (by simp [ext_next]) (by simp [ext_next])
  rw[ints_length]at hA
  have ov3:Over H H3:=⟨by simp only[ext_next]at hn3;omega,fun id hid=>by
   rw[hpr id (by simp only[ext_next];omega) fun g n he=>by have:=AVal.own.inj he;omega,ext1_get_old hid]⟩
  simp only[go_sem,en,w1,hs,rep0,hA]
  refine FinV.dropO (v':=.tup [vecI [],vecI p]) G0_ok hcl ov3 (.tup rfl fun i hi _=>?_) hK
  match i,hi with
  | 0,_=>exact .nil
  | 1,_=>exact hO.fzI fun i hi=>hi
 ·have w2:=IntWalk.i64_in ((p.length:Int) - (n:Int)) (by omega)
  obtain⟨m,hm⟩:∃ m,p.length=n+m/\1<=m:=⟨p.length - n,by omega,by omega⟩
  have em:(p.length:Int) - (n:Int)=(m:Int):=by omega
  rw[em]at w2
  have w3:=IntWalk.i64_in ((m:Int) - 1) (by omega)
  have esub:p.length - m=n:=by omega
  have ede:List.take n (List.drop m (ints p))=ints (p.drop m):=by rw[ints_drop];exact List.take_of_length_le (by rw[ints_length,List.length_drop];omega)
  have mle:(m:Int)<=(p.length:Int):=by omega
  have dl:(p.drop m).length=n:=by simp;omega
  have eR:List.replicate m (AVal.lit (.int .i64 0))=ints (List.replicate m 0):=by simp [ints,lin]
  obtain⟨v',H3,hA,hO,hn3,hpr⟩:=app_vecG (P:=Try.prog) (H:=ext H [.arr 0 3 (ints (List.replicate m 0)),.arr 0 3 []]) (t:=52) (lo:=H.next+1) (n:=H.next+2) (v:=.own (H.next+1) 0 0 0 1) (cs:=[]) (src:=ints (p.drop m)) Try.underlying52 Try.cells3 Try.zero3 (all_one_ints _) (by rw[Try.bytes3,ints_length];simp;omega) (.inr ⟨H.next+1,0,Nat.le_refl _,by simp [ext_next],rfl,get_ext H _ 1 (by simp)⟩) (by show H.next+1<=H.next+2;omega) rfl
  rw[ints_length,dl]at hA
  simp only[ext_next,List.length_cons,List.length_nil]at hn3 hpr
  obtain⟨Hq,hHq⟩:∃ Hq,Hq=ext H [.arr 0 3 (ints (List.replicate m 0))]:=⟨_,rfl⟩
  have nq:Hq.next=H.next+1:=by rw[hHq];rfl
  have clq:Clo Hq:=by
   rw[hHq]
   refine clo_ext hcl fun b hb=>?_
   obtain rfl:=List.mem_singleton.1 hb
   exact belowB_lits fun c hc=>by obtain⟨x,_,rfl⟩:=List.mem_map.1 hc;exact⟨_,rfl⟩
  have gq:Hq.get H.next=some (.arr 0 3 (ints (List.replicate m 0))):=by rw[hHq];exact get_ext0 _ _ _
  have ovq:Over H Hq:=by rw[hHq];exact Over.ext _ _
  have ov3:Over Hq H3:=⟨by omega,fun id hid=>by
   rw[hpr id (by omega) fun g n he=>by have:=AVal.own.inj he;omega]
   by_cases h:id=H.next
   ·subst h;rw[gq,get_ext0]
   ·rw[get_ext_old _ _ _ (by omega),ovq.old _ (by omega)]⟩
  have n3:=ov3.next
  have hvF:Fz (fun id=>Hq.next<=id) H3 H3.next v' (vecI (p.drop m)):=hO.fzI fun i hi=>by omega
  have hbq:∀ v,v∈[vecI p,vecI q]->Below Hq.next v:=fun v hv=>(hbel v hv).mono (by omega)
  have h37:Fz (fun id=>Hq.next<=id) H3 H3.next (.vec n (ints (p.drop m))) (.vec n (ints (p.drop m))):=by rw[<- dl];exact .keepInts _
  have gq3:=(ov3.old H.next (by omega)).trans gq
  have lq3:=get_live gq3
  simp only[go_sem,en,w1,hs,em,w2,rep0,mle,esub,ede,eR,hA,w3,lq3]
  refine⟨⟨by omega,by omega⟩,?_⟩
  apply W.letGo (H:=Hq) G0_ok clq ov3
  ·repeat first|exact Fz.envOld hbq (by omega)|(apply Fz.put';· first|exact .lit _|assumption|exact .keepInts _|exact .ptr (by omega) (by omega)|exact .own (by omega) (by omega)|exact .deadOwn (by omega) (by show Hq.next<=_;omega))
  ·trivial
  obtain⟨Hg,hHg⟩:∃ Hg,Hg=gap Hq (H3.next - Hq.next):=⟨_,rfl⟩
  rw[<- hHg]
  have hog:Over Hq Hg:=by rw[hHg];exact .gap _ _
  have ng:=hog.next
  have hgg:=(hog.old H.next (by omega)).trans gq
  have pdm:p.drop m=dig (x / 10000 ^ m):=by rw[hp];exact dig_drop x m
  have xlt:x / 10000 ^ m<y:=dig_lt_len (by rw[<- pdm,dl,<- hq];omega)
  refine W.env fun E hE=>?_
  have e0:E 0=vecI p:=by rw[hE];rfl
  have e1:E 1=vecI q:=by rw[hE];rfl
  have e6:E 6=lin n:=by rw[hE];rfl
  have e7:E 7=.own H.next 0 0 m 1:=by rw[hE];rfl
  have e8:E 8=vecI (p.drop m):=by rw[hE];rfl
  have e9:E 9=lin ((m:Int) - 1):=by rw[hE];rfl
  clear hE
  refine W.loop0 2658455991569831745807609722514243328 (by rfl) (fun ρ H'=>∃ (j:Nat) (qs:List Int),ρ 9=lin ((j:Int) - 1)/\j<=m/\Over H H'/\Hg.next<=H'.next/\H'.get H.next=some (.arr 0 3 (ints qs))/\qs.length=m/\Dg qs/\val (qs.drop j)=x / 10000 ^ j / y/\ρ 8=vecI (dig (x / 10000 ^ j % y))) (fun ρ H=>(iv (ρ 9)+1).toNat) ?_ ?_
  ·simp only[go_sem,e9,e8]
   refine⟨m,List.replicate m 0,by simp,by omega,ovq.trans hog,hgg,by simp,fun c hc=>by obtain⟨_,rfl⟩:=List.mem_replicate.1 hc;omega,?_,?_⟩
   ·rw[Nat.div_eq_of_lt xlt,List.drop_eq_nil_iff.2 (by simp)];rfl
   ·rw[Nat.mod_eq_of_lt xlt,<- pdm]
  rintro ρ H' ⟨j,qs,h9,hj,ov,hnx,hg,hql,hqd,hv,h8⟩
  refine vc_sound _ _ _ (by rfl) ?_
  have lq:=get_live hg
  by_cases hz:j=0
  ·subst hz
   have z1:¬ (0:Int)<=((0:Nat):Int) - 1:=by omega
   simp only[Nat.pow_zero,Nat.div_one,List.drop_zero]at hv h8
   simp only[go_sem,h9,e7]
   have hO2:OwnG H.next H' 3 (.own H.next 0 0 m 1) (ints qs):=.inr ⟨H.next,0,Nat.le_refl _,by omega,by rw[ints_length,hql],hg⟩
   refine AApply.cutArgs H.next (args':=[vecI qs]) G0_ok rfl (fun j hj _=>match j,hj with|0,_=>hO2.fzI fun i hi=>hi) (cut_spec qs hqd (by omega) _ _ ⟨trivial,?_⟩)
   rw[hv]
   simp only[go_sem,h8]
   have ovc:Over H (H'.cut H.next):=ov.cutO (Nat.le_refl _)
   refine FinV.dropO (v':=.tup [vecI (dig (x / y)),vecI (dig (x % y))]) G0_ok hcl ovc (.tup rfl fun i hi _=>?_) hK
   match i,hi with
   | 0,_=>exact .keepInts _
   | 1,_=>exact .keepInts _
  obtain⟨i,rfl⟩:∃ i,j=i+1:=⟨j - 1,by omega⟩
  have ei:((i+1:Nat):Int) - 1=(i:Int):=by omega
  rw[ei]at h9
  have z1:(0:Int)<=(i:Int):=by omega
  obtain⟨R,hR⟩:∃ R,R=x / 10000 ^ (i+1) % y:=⟨_,rfl⟩
  rw[<- hR]at h8
  have hRy:R<y:=by rw[hR];exact Nat.mod_lt _ (by omega)
  have hil:i<p.length:=by omega
  obtain⟨a,ha⟩:∃ a,a=x / 10000 ^ i % 10000:=⟨_,rfl⟩
  have hpi:p[i]?=some ((a:Nat):Int):=by rw[ha,hp];exact dig_nth (by rw[<- hp];exact hil)
  have pn:¬ p=[]:=by rintro rfl;simp at hil
  have bil:(i:Int)<p.length:=by omega
  obtain⟨N,hN⟩:∃ N,N=a+10000*R:=⟨_,rfl⟩
  have yup:y<10000 ^ (n+1):=yub
  have rlen:(dig R).length<=n+1:=dig_len (by omega)
  have hNy:N<10000*y:=by omega
  have hN2:N<10000 ^ (n+2):=by
   have:10000 ^ (n+2)=10000*10000 ^ (n+1):=by rw[Nat.pow_succ,Nat.mul_comm]
   omega
  have nlen:(dig N).length<=n+2:=dig_len hN2
  obtain⟨v',H3,hA,hO,hn3,hpr⟩:=app_vecG (P:=Try.prog) (H:=ext H' [.arr 0 3 [.lit (.int .i64 (a:Int))]]) (t:=52) (lo:=H'.next) (n:=H'.next+1) (v:=.own H'.next 0 0 1 1) (cs:=ints [(a:Int)]) (src:=ints (dig R)) Try.underlying52 Try.cells3 Try.zero3 (all_one_ints _) (by rw[Try.bytes3,ints_length,ints_length,List.length_singleton];omega) (.inr ⟨H'.next,0,Nat.le_refl _,by simp [ext_next],rfl,get_ext0 _ _ _⟩) (by simp [ext_next]) (by simp [ext_next])
  rw[ints_length]at hA
  have ov3:Over H' H3:=⟨by simp only[ext_next]at hn3;omega,fun id hid=>by
   rw[hpr id (by simp only[ext_next];omega) fun g n he=>by have:=AVal.own.inj he;omega,ext1_get_old hid]⟩
  have hcd:Dg ((a:Int) :: dig R):=fun c hc=>by
   rcases List.mem_cons.1 hc with rfl|hc
   ·omega
   ·exact dg_dig R c hc
  have hcv:val ((a:Int) :: dig R)=N:=by rw[val,val_dig,hN];simp
  simp only[go_sem,h9,z1,h8,e0,hpi,pn,bil,hA]
  refine AApply.cutArgs H'.next (args':=[vecI ((a:Int) :: dig R)]) G0_ok rfl (fun j hj _=>match j,hj with|0,_=>hO.fzI fun i hi=>hi) (cut_spec _ hcd (by rw[List.length_cons];omega) _ _ ⟨trivial,?_⟩)
  rw[hcv]
  have ovc:Over H' (H3.cut H'.next):=ov3.cut
  obtain⟨Hc,hHc⟩:∃ Hc,Hc=H3.cut H'.next:=⟨_,rfl⟩
  rw[<- hHc]at ovc ⊢
  clear hHc
  have w4:=IntWalk.i64_in ((n:Int)+1) (by omega)
  simp only[go_sem,e6,w4]
  have gqc:=(ovc.old H.next (by omega)).trans hg
  have nc:=ovc.next
  refine W.env fun E2 hE2=>?_
  have f0:E2 0=vecI p:=by rw[hE2];exact e0
  have f1:E2 1=vecI q:=by rw[hE2];exact e1
  have f6:E2 6=lin n:=by rw[hE2];exact e6
  have f7:E2 7=.own H.next 0 0 m 1:=by rw[hE2];exact e7
  have f8:E2 8=vecI (dig N):=by rw[hE2];rfl
  have f9:E2 9=lin (i:Int):=by rw[hE2];exact h9
  have f10:E2 10=lin 0:=by rw[hE2];rfl
  have f11:E2 11=lin 0:=by rw[hE2];rfl
  have f12:E2 12=lin ((n:Int)+1):=by rw[hE2];rfl
  clear hE2
  have hqy:q=dig y:=hq
  have emax:(if (n:Int) - 1 > 0 then (n:Int) - 1 else 0)=((n - 1:Nat):Int):=by split<;>omega
  have w5:=IntWalk.i64_in ((n:Int) - 1) (by omega)
  have yk2:y / 10000 ^ (n+2)=0:=Nat.div_eq_of_lt (by rw[Nat.pow_succ];omega)
  have Nk2:N / 10000 ^ (n+2)=0:=Nat.div_eq_of_lt hN2
  have cube:∀ z k:Nat,z<10000 ^ (n+2)->n - 1<=k->z / 10000 ^ k<1000000000000:=fun z k hz hk=>by
   refine Nat.div_lt_of_lt_mul (Nat.lt_of_lt_of_le hz ?_)
   rw[show (1000000000000:Nat)=10000 ^ 3 by decide,<- Nat.pow_add]
   exact Nat.pow_le_pow_right (by decide) (by omega)
  have hy2:y<10000 ^ (n+2):=by rw[Nat.pow_succ];omega
  refine W.loop0 38685626155610539552676864 (by rfl) (fun ρ' H2=>∃ k F T:Nat,ρ' 12=lin ((k:Int) - 1)/\n - 1<=k/\k<=n+2/\H2=Hc/\ρ' 11=lin F/\ρ' 10=lin T/\F=N / 10000 ^ k/\T=y / 10000 ^ k) (fun ρ' H=>(iv (ρ' 12)+1).toNat) ?_ ?_
  ·simp only[go_sem,f12,f11,f10]
   exact⟨n+2,0,0,by simp;omega,by omega,by omega,rfl,rfl,Nk2.symm,yk2.symm⟩
  rintro ρ' H2 ⟨k,F,T,g12,hk1,hk2,rfl,g11,g10,hF,hT⟩
  refine vc_sound _ _ _ (by rfl) ?_
  by_cases hke:k=n - 1
  ·have z2:¬ ((n - 1:Nat):Int)<=((n - 1:Nat):Int) - 1:=by omega
   rw[hke]at g12
   simp only[go_sem,g12,f6,w5,emax,z2]
   rw[hke]at hF hT
   have hP:0<10000 ^ (n - 1):=Nat.pow_pos (by decide)
   have hT0:0<T:=by
    rw[hT]
    refine Nat.div_pos ?_ hP
    exact Nat.le_trans (Nat.pow_le_pow_right (by decide) (by omega)) ylb
   have cF:=cube N (n - 1) hN2 (by omega)
   have cT:=cube y (n - 1) hy2 (by omega)
   have qhi:N / y<=F / T:=by rw[hF,hT];exact quo_hi hP (by rw[<- hT];exact hT0)
   have qlo:F / (T+1)<=N / y:=by rw[hF,hT];exact quo_lo hP (by omega)
   have qcap:F / T<=10000:=by rw[hF,hT];exact quo_cap hNy ylb
   rw[<- hF]at cF
   rw[<- hT]at cT
   have w6:=IntWalk.i64_in ((T:Int)+1) (by omega)
   obtain⟨lo,hlo⟩:∃ lo,lo=F / (T+1):=⟨_,rfl⟩
   obtain⟨hi,hhi⟩:∃ hi,hi=F / T:=⟨_,rfl⟩
   have t1:((F:Int)).tdiv ((T:Int)+1)=(lo:Int):=by rw[Int.tdiv_eq_ediv_of_nonneg (by omega),hlo];rfl
   have t2:((F:Int)).tdiv (T:Int)=(hi:Int):=by rw[Int.tdiv_eq_ediv_of_nonneg (by omega),hhi];rfl
   rw[<- hlo]at qlo
   rw[<- hhi]at qhi qcap
   have w7:=IntWalk.i64_in (lo:Int) (by omega)
   have w8:=IntWalk.i64_in (hi:Int) (by omega)
   have n1:¬ (T:Int)+1=0:=by omega
   have n2:¬ (T:Int)=0:=by omega
   refine W.env fun E3 hE3=>?_
   have k0:E3 0=vecI p:=by rw[hE3];exact f0
   have k1:E3 1=vecI q:=by rw[hE3];exact f1
   have k6:E3 6=lin n:=by rw[hE3];exact f6
   have k7:E3 7=.own H.next 0 0 m 1:=by rw[hE3];exact f7
   have k8:E3 8=vecI (dig N):=by rw[hE3];exact f8
   have k9:E3 9=lin (i:Int):=by rw[hE3];exact f9
   have k10:E3 10=lin T:=by rw[hE3];exact g10
   have k11:E3 11=lin F:=by rw[hE3];exact g11
   clear hE3
   refine W.draw 8 [0,0,2,7,0,0,48,15] Try.mixed (by kernel_rfl) (by kernel_rfl) ?_
   simp only[go_sem,k11,k10,w6,t1,t2,w7,w8,n1,n2]
   have gq2:H2.get H.next=some (.arr 0 3 (ints qs)):=gqc
   obtain⟨Q,hQ⟩:∃ Q,Q=N / y:=⟨_,rfl⟩
   rw[<- hQ]at qlo qhi
   have hyl2:(dig y).length<=100:=hy1
   refine W.env fun E4 hE4=>?_
   have l1:E4 1=vecI q:=by rw[hE4];exact k1
   have l7:E4 7=.own H.next 0 0 m 1:=by rw[hE4];exact k7
   have l8:E4 8=vecI (dig N):=by rw[hE4];exact k8
   have l9:E4 9=lin (i:Int):=by rw[hE4];exact k9
   have l13:E4 13=lin (lo:Int):=by rw[hE4];rfl
   have l14:E4 14=lin (hi:Int):=by rw[hE4];rfl
   clear hE4
   have Nl:((dig N).length:Int)<2 ^ 40:=by omega
   refine W.loop0 1298069262873549765611524485865472 (by rfl) (fun ρ2 H3=>∃ L U:Nat,ρ2 13=lin L/\ρ2 14=lin U/\L<=Q/\Q<=U/\U<=10000/\Over H2 H3) (fun ρ2 H=>(iv (ρ2 14) - iv (ρ2 13)).toNat) ?_ ?_
   ·simp only[go_sem,l13,l14]
    exact⟨lo,hi,rfl,rfl,qlo,qhi,qcap,.refl _⟩
   rintro ρ2 H4 ⟨L,U,m13,m14,hL,hU,hU2,ov4⟩
   refine vc_sound _ _ _ (by rfl) ?_
   have n4:=ov4.next
   by_cases hLU:(L:Int)<(U:Int)
   ·obtain⟨M,hM⟩:∃ M,M=(L+U+1) / 2:=⟨_,rfl⟩
    have eLU:(L:Int)+(U:Int)=((L+U:Nat):Int):=by omega
    have eLU1:((L+U:Nat):Int)+1=((L+U+1:Nat):Int):=by omega
    have v1:=IntWalk.i64_in ((L+U:Nat):Int) (by omega)
    have v2:=IntWalk.i64_in ((L+U+1:Nat):Int) (by omega)
    have v3:(((L+U+1:Nat):Int)).tdiv 2=(M:Int):=by rw[Int.tdiv_eq_ediv_of_nonneg (by omega),hM];rfl
    have v4:=IntWalk.i64_in (M:Int) (by omega)
    have v5:=IntWalk.i64_in ((M:Int) - 1) (by omega)
    simp only[go_sem,m13,m14,hLU,eLU,eLU1,v1,v2,v3,v4,l1]
    have hO4:OwnG H4.next (ext H4 [.arr 0 3 [.lit (.int .i64 (M:Int))]]) 3 (.own H4.next 0 0 1 1) (ints [(M:Int)]):=.inr ⟨H4.next,0,Nat.le_refl _,by simp [ext_next],rfl,get_ext0 _ _ _⟩
    rw[hqy]
    refine AApply.cutArgs H4.next (args':=[vecI (dig y),vecI [(M:Int)]]) G0_ok rfl (fun j hj _=>match j,hj with|0,_=>.keepInts _|1,_=>hO4.fzI fun i hi=>hi) (dtimes_one y M (by omega) (by omega) _ _ ⟨trivial,?_⟩)
    have ylen:(dig (y*M)).length<=n+2:=dig_len (by
     have h1:y*M<=y*10000:=Nat.mul_le_mul_left _ (by omega)
     rw[Nat.pow_succ];omega)
    have ov5:Over H2 ((ext H4 [.arr 0 3 [.lit (.int .i64 (M:Int))]]).cut H4.next):=ov4.trans ((Over.ext _ _).cut)
    simp only[go_sem,l8]
    refine AApply.clo (compare_spec (y*M) N (by omega) _ _ ⟨trivial,?_⟩)
    by_cases hc:y*M<=N
    ·have hc1:cmpI ((y*M:Nat):Int) (N:Int)<=0:=cmpI_le (by omega)
     have hMQ:M<=Q:=by rw[hQ,Nat.le_div_iff_mul_le (by omega),Nat.mul_comm];exact hc
     simp only[go_sem,hc1]
     exact⟨ov5.next,⟨M,U,rfl,m14,hMQ,hU,hU2,ov5⟩,by rw[m14];simp only[lin,iv];omega⟩
    ·have hc1:¬ cmpI ((y*M:Nat):Int) (N:Int)<=0:=cmpI_gt (by omega)
     have hMQ:Q<M:=by rw[hQ,Nat.div_lt_iff_lt_mul (by omega),Nat.mul_comm];omega
     simp only[go_sem,hc1,v5]
     exact⟨ov5.next,⟨L,M - 1,m13,by simp;omega,hL,by omega,by omega,ov5⟩,by rw[m13];simp only[lin,iv];omega⟩
   ·have LQ:L=Q:=by omega
    subst LQ
    have g4:=(ov4.old H.next (by omega)).trans gq2
    have lq4:=get_live g4
    have him:i<m:=by omega
    have zi:(i:Int)<(m:Int):=by omega
    have Q9:L<10000:=by rw[hQ];exact Nat.div_lt_of_lt_mul (by omega)
    simp only[go_sem,m13,m14,hLU,l7,l9,zi,lq4]
    rw[setAt_ints _ (by omega)]
    obtain⟨H5,hH5⟩:∃ H5,H5=H4.upd H.next (.arr 0 3 (ints (qs.set i (L:Int)))):=⟨_,rfl⟩
    rw[<- hH5]
    have g5:H5.get H.next=some (.arr 0 3 (ints (qs.set i (L:Int)))):=by rw[hH5,upd_get,if_pos rfl]
    have n5:H5.next=H4.next:=by rw[hH5];rfl
    have ov5:Over H H5:=⟨by have:=ov.next;omega,fun id hid=>by
     rw[hH5,upd_get,if_neg (by omega),ov4.old _ (by omega),ovc.old _ (by omega),ov.old _ hid]⟩
    clear hH5
    refine⟨by omega,?_⟩
    have dgL:Dg [(L:Int)]:=fun c hc=>by obtain rfl:=List.mem_singleton.1 hc;omega
    have vL:val [(L:Int)]=L:=by simp [val]
    have hO5:OwnG H5.next (ext H5 [.arr 0 3 [.lit (.int .i64 (L:Int))]]) 3 (.own H5.next 0 0 1 1) (ints [(L:Int)]):=.inr ⟨H5.next,0,Nat.le_refl _,by simp [ext_next],rfl,get_ext0 _ _ _⟩
    refine AApply.cutArgs H5.next (args':=[vecI [(L:Int)]]) G0_ok rfl (fun j hj _=>match j,hj with|0,_=>hO5.fzI fun i hi=>hi) (cut_spec _ dgL (by simp) _ _ ⟨trivial,?_⟩)
    rw[vL]
    have ov6:Over H5 ((ext H5 [.arr 0 3 [.lit (.int .i64 (L:Int))]]).cut H5.next):=(Over.ext _ _).cut
    obtain⟨H6,hH6⟩:∃ H6,H6=(ext H5 [.arr 0 3 [.lit (.int .i64 (L:Int))]]).cut H5.next:=⟨_,rfl⟩
    rw[<- hH6]at ov6 ⊢
    clear hH6
    have n6:=ov6.next
    have lenL:(dig L).length<=1:=dig_len (by omega)
    have hmul:y*L<=N:=by rw[hQ];exact Nat.mul_div_le N y
    simp only[go_sem,l1,l8]
    rw[hqy]
    refine AApply.clo (dtimes_dig y L (by omega) (by omega) _ _ ⟨trivial,?_⟩)
    simp only[go_sem]
    refine AApply.clo (minus_spec N (y*L) hmul (by omega) _ _ ⟨trivial,?_⟩)
    have wi:=IntWalk.i64_in ((i:Int) - 1) (by omega)
    simp only[go_sem,l9,wi]
    have eX:=Nat.div_add_mod (x / 10000 ^ (i+1)) y
    have eS:x / 10000 ^ i=a+10000*(x / 10000 ^ (i+1)):=by
     rw[Nat.pow_succ,<- Nat.div_div_eq_div_mul,ha];omega
    have qs2:=quo_step (X:=x / 10000 ^ (i+1)) (a:=a) (y:=y) (Q:=x / 10000 ^ (i+1) / y) (R:=R) (by rw[hR];exact eX.symm) hRy
    rw[<- eS,<- hN]at qs2
    have eRN:N - y*L=x / 10000 ^ i % y:=by rw[qs2.2,hQ];have:=Nat.div_add_mod N y;omega
    rw[eRN]
    refine⟨by omega,⟨i,qs.set i (L:Int),rfl,by omega,ov5.trans ov6,by omega,(ov6.old _ (by omega)).trans g5,by simp [hql],fun c hc=>?_,?_,rfl⟩,by omega⟩
    ·rcases List.mem_or_eq_of_mem_set hc with h|h
     ·exact hqd c h
     ·omega
    ·rw[List.drop_eq_getElem_cons (by simp;omega),val,List.getElem_set_self,Int.toNat_natCast,List.drop_set_of_lt (by omega),hv,qs2.1,hQ]
     omega
  obtain⟨j,rfl⟩:∃ j,k=j+1:=⟨k - 1,by omega⟩
  have ej:((j+1:Nat):Int) - 1=(j:Int):=by omega
  rw[ej]at g12
  have z2:((n - 1:Nat):Int)<=(j:Int):=by omega
  have cF:=cube N j hN2 (by omega)
  have cT:=cube y j hy2 (by omega)
  rw[Nat.pow_succ,<- Nat.div_div_eq_div_mul]at hF hT
  have nF:N / 10000 ^ j=0\/j<(dig N).length:=by
   by_cases h:j<(dig N).length
   ·exact .inr h
   ·exact .inl (dig_out h)
  have nT:y / 10000 ^ j=0\/j<=n:=by
   by_cases h:j<=n
   ·exact .inr h
   ·exact .inl (dig_out (by rw[<- hqy,hn];omega))
  have dF:j<(dig N).length->(dig N)[j]?=some ((N / 10000 ^ j % 10000:Nat):Int):=fun h=>dig_nth h
  have dT:j<=n->q[j]?=some ((y / 10000 ^ j % 10000:Nat):Int):=fun h=>by rw[hqy];exact dig_nth (by rw[<- hqy,hn];omega)
  obtain⟨F',hF'⟩:∃ F',F'=N / 10000 ^ j:=⟨_,rfl⟩
  obtain⟨T',hT'⟩:∃ T',T'=y / 10000 ^ j:=⟨_,rfl⟩
  rw[<- hF']at cF hF nF dF
  rw[<- hT']at cT hT nT dT
  obtain⟨cf,hcf⟩:∃ cf,cf=F' % 10000:=⟨_,rfl⟩
  obtain⟨ct,hct⟩:∃ ct,ct=T' % 10000:=⟨_,rfl⟩
  rw[<- hcf]at dF
  rw[<- hct]at dT
  have w6:=IntWalk.i64_in ((F:Int)*10000) (by omega)
  have w7:=IntWalk.i64_in ((F:Int)*10000+(cf:Int)) (by omega)
  have w8:=IntWalk.i64_in ((T:Int)*10000) (by omega)
  have w9:=IntWalk.i64_in ((T:Int)*10000+(ct:Int)) (by omega)
  have wj:=IntWalk.i64_in ((j:Int) - 1) (by omega)
  by_cases hjl:j<(dig N).length
  ·have dF1:=dF hjl
   have Nn:¬ dig N=[]:=by intro h;rw[h]at hjl;simp at hjl
   have z3:(j:Int)<(dig N).length:=by omega
   by_cases hjn:j<=n
   ·have dT1:=dT hjn
    have qn:¬ q=[]:=by intro h;rw[h]at hn;simp at hn
    have z4:(j:Int)<=(n:Int):=by omega
    have z5:(j:Int)<q.length:=by omega
    simp only[go_sem,g12,f6,w5,emax,z2,g11,w6,f8,z3,Nn,dF1,w7,z4,z5,f1,dT1,qn,g10,w8,w9,wj]
    exact⟨⟨j,F',T',rfl,by omega,by omega,by simp;omega,by simp;omega,hF',hT'⟩,by omega⟩
   ·have z4:¬ (j:Int)<=(n:Int):=by omega
    simp only[go_sem,g12,f6,w5,emax,z2,g11,w6,f8,z3,Nn,dF1,w7,z4,wj]
    exact⟨⟨j,F',T',rfl,by omega,by omega,by simp;omega,by rw[g10,lin];simp;omega,hF',hT'⟩,by omega⟩
  ·have z3:¬ (j:Int)<(dig N).length:=by omega
   by_cases hjn:j<=n
   ·have dT1:=dT hjn
    have qn:¬ q=[]:=by intro h;rw[h]at hn;simp at hn
    have z4:(j:Int)<=(n:Int):=by omega
    have z5:(j:Int)<q.length:=by omega
    simp only[go_sem,g12,f6,w5,emax,z2,g11,w6,f8,z3,z4,z5,f1,dT1,qn,g10,w8,w9,wj]
    exact⟨⟨j,F',T',rfl,by omega,by omega,by simp;omega,by simp;omega,hF',hT'⟩,by omega⟩
   ·have z4:¬ (j:Int)<=(n:Int):=by omega
    simp only[go_sem,g12,f6,w5,emax,z2,g11,w6,f8,z3,z4,wj]
    exact⟨⟨j,F',T',rfl,by omega,by omega,by simp;omega,by rw[g10,lin];simp;omega,hF',hT'⟩,by omega⟩
end Go.Proofs.R01
namespace Go.Proofs.R01
open Go.Hx
def vn:AVal->Nat
 | .vec _ l=>val (l.map iv)
 | _=>0
theorem vn_dig (n:Nat):vn (vecI (dig n))=n:=by
 have:(ints (dig n)).map iv=dig n:=by simp [ints,lin,iv,Function.comp_def]
 show val ((ints (dig n)).map iv)=n
 rw[this,val_dig]
theorem rgcd_spec (x y:Nat)(hx:(dig x).length<=100)(hy:(dig y).length<=100)(H:AHeap)(K:ARes->AHeap->Prop)(hK:K (.ret (vecI (dig (Nat.gcd x y)))) H):ACall Try.prog G0 38 [vecI (dig x),vecI (dig y)] H K:=by
 refine ACall.clo ⟨_,Try.func38,rfl,rfl⟩ fun hcl=>?_
 refine ACall.of_body (n:=19) (rs:=[.tmp 4]) Try.func38 rfl rfl rfl (by decide) (by kernel_rfl) (by simp) ?_
 simp only[go_sem]
 refine W.loop0 262115 (by rfl) (fun ρ H'=>∃ X Y:Nat,ρ 0=vecI (dig X)/\ρ 1=vecI (dig Y)/\(dig X).length<=100/\(dig Y).length<=100/\H'=H/\Nat.gcd X Y=Nat.gcd x y) (fun ρ H=>vn (ρ 1)) ?_ ?_
 ·simp only[go_sem]
  exact⟨x,y,rfl,rfl,hx,hy,rfl⟩
 rintro ρ H' ⟨X,Y,h0,h1,hX,hY,rfl,hg⟩
 refine vc_sound _ _ _ (by rfl) ?_
 by_cases hz:Y=0
 ·subst hz
  have z1:¬ (0:Int)<(dig 0).length:=by rw[dig_zero];simp
  rw[Nat.gcd_zero_right]at hg
  simp only[go_sem,h0,h1,z1]
  rw[<- hg]at hK
  exact FinV.dropO G0_ok hcl (.refl _) (.keepInts _) hK
 have z1:(0:Int)<(dig Y).length:=by
  have:(dig Y).length≠0:=fun h=>hz (dig_nil.1 (List.eq_nil_of_length_eq_zero h))
  omega
 simp only[go_sem,h0,h1,z1]
 refine AApply.clo (divide_spec X Y hz hX hY _ _ ⟨trivial,?_⟩)
 have hlt:X % Y<Y:=Nat.mod_lt _ (by omega)
 have hl:(dig (X % Y)).length<=100:=by
  rcases Nat.lt_or_ge (dig Y).length (dig (X % Y)).length with h|h
  ·exact absurd (dig_lt_len h) (by omega)
  ·omega
 simp only[go_sem,h1]
 refine⟨⟨Y,X % Y,rfl,rfl,hY,hl,?_⟩,?_⟩
 ·rw[<- hg,Nat.gcd_comm Y,<- Nat.gcd_rec,Nat.gcd_comm]
 ·have e1:=vn_dig (X % Y)
  have e2:=vn_dig Y
  rw[show AVal.vec (dig (X % Y)).length (ints (dig (X % Y)))=vecI (dig (X % Y)) from rfl,show AVal.vec (dig Y).length (ints (dig Y))=vecI (dig Y) from rfl,e1,e2]
  exact hlt
def valR (n:Nat):AVal:=if n<=4611686018427387903 then .tup [lin n,.lit (.bool true)] else .tup [lin 0,.lit (.bool false)]
theorem dig_mono {a b:Nat}(h:a<=b):(dig a).length<=(dig b).length:=by
 rcases Nat.lt_or_ge (dig b).length (dig a).length with h1|h1
 ·exact absurd (dig_lt_len h1) (by omega)
 ·exact h1
end Go.Proofs.R01
namespace Go.Proofs.R01
open Go.Hx
abbrev I64 (n:Int):Prop:=-9223372036854775808<=n/\n<=9223372036854775807
theorem dl5 {n:Int}(h:I64 n):(dig n.natAbs).length<=5:=dig_len (by
 have:(10000:Nat) ^ 5=100000000000000000000:=by decide
 have:=h.1
 have:=h.2
 omega)
theorem dl10 {n m:Int}(h:I64 n)(h':I64 m):(dig (n.natAbs*m.natAbs)).length<=10:=dig_len (by
 have e:(10000:Nat) ^ 10=10000 ^ 5*10000 ^ 5:=by decide
 rw[e]
 have:=len_of_dig (dl5 h)
 have:=len_of_dig (dl5 h')
 exact Nat.mul_lt_mul_of_lt_of_lt ‹_› ‹_›)
end Go.Proofs.R01
namespace Go.Hx
variable {P:Program} {H H':AHeap}
theorem app_srcG {t e:TypeId}{lo n m:Nat}{v x:AVal}{cs src:List AVal}{z:List AVal}(ht:P.underlying t=some (.slice e))(hz:P.cellsOf e=1)(hzero:zeroA P e=some z)(hsrc:sourceA H 1 x=some (m,src))(hm:src.length=m)(hx:src.all AVal.one=true)
  (hb:(cs.length+m)*P.bytesOf e<=2 ^ 46/\cs.length+m<=2 ^ 46) (ho:OwnG lo H e v cs) (hlo:lo<=H.next) (hn:n=H.next):
  ∃ v' H',appendA P H n t t v x=some (v',H')/\OwnG lo H' e v' (cs++src)/\H.next<=H'.next/\(∀ k,k<H.next->(∀ g n,v≠.own k g 0 n 1)->H'.get k=H.get k):=by
 subst hm
 obtain⟨v',H',hA,h2⟩:=app_vecG (H:=H) (n:=n) ht hz hzero hx hb ho hlo hn
 refine⟨v',H',?_,h2⟩
 rw[<- hA]
 have e2:sourceA H 1 (.vec src.length src)=some (src.length,src):=by unfold sourceA;simp
 unfold appendA
 rw[ht]
 simp only[hz,hsrc,e2]
end Go.Hx
namespace Go.Proofs
open Go.Hx
def bytesL (l:List Int):List AVal:=l.map fun n=>.lit (.int .u8 n)
def U8 (n:Int):Prop:=0<=n/\n<256
theorem bytesL_get {l:List Int}{k:Nat}{a:Int}(h:l[k]?=some a):(bytesL l)[k]?=some (.lit (.int .u8 a)):=by unfold bytesL;rw[List.getElem?_map,h];rfl
theorem cardsD_spec (n:Nat)(hn:n<=5)(ord:List Int)(H:AHeap)(K:ARes->AHeap->Prop)(hK:K (.ret (vecI (List.replicate n 1))) H):
  ACall Try.prog G0 69 [.agg [.vec n (bytesL (List.replicate n 0)),(.lit (.int .u16 0)),.vec ord.length (bytesL ord)]] H K:=by
 refine ACall.clo ⟨_,Try.func69,rfl,rfl⟩ fun hcl=>?_
 refine ACall.of_body (n:=28) (rs:=[.tmp 2]) Try.func69 rfl rfl rfl (by decide) (by kernel_rfl) (by simp) ?_
 simp only[go_sem]
 obtain⟨H1,hH1⟩:∃ H1,H1=ext H [.arr 0 107 [.vec n (bytesL (List.replicate n 0)),.lit (.int .u16 0),.vec ord.length (bytesL ord)]]:=⟨_,rfl⟩
 have l1:=get_live (show H1.get H.next=some (.arr 0 107 [.vec n (bytesL (List.replicate n 0)),.lit (.int .u16 0),.vec ord.length (bytesL ord)]) by rw[hH1];exact get_ext0 ..)
 have n1:H1.next=H.next+1:=by rw[hH1];rfl
 have o1:Over H H1:=by rw[hH1];exact .ext _ _
 rw[<- hH1]
 refine W.loop0 134217720 (by rfl) (fun ρ H'=>∃ k:Nat,ρ 4=lin k/\k<=n/\Over H1 H'/\OwnG H1.next H' 3 (ρ 3) (ints (List.replicate k 1))) (fun ρ H=>n - (iv (ρ 4)).toNat) ?_ ?_
 ·simp only[go_sem]
  exact⟨0,rfl,by omega,.refl _,.nil⟩
 rintro ρ H' ⟨k,h4,hk,ov,h3⟩
 refine W.env fun E hE=>?_
 have e1:E 1=.ptr H.next 0 0:=by rw[hE];simp only[go_sem]
 have e3:E 3=ρ 3:=by rw[hE];simp only[go_sem]
 have e4:E 4=lin k:=by rw[hE];simp only[go_sem,h4]
 clear hE
 refine vc_sound _ _ _ (by rfl) ?_
 have l2:=(ov.live (g:=0) (by omega:H.next<H1.next)).trans l1
 by_cases hb:(k:Int)<n
 ·have h5:(k:Int)<5:=by omega
  have hg:(bytesL (List.replicate n 0))[k]?=some (.lit (.int .u8 0)):=bytesL_get (by rw[List.getElem?_replicate,if_pos (by omega)])
  have hne:=ne_of_get hg
  obtain⟨v',H2,hA,ov2,hO,hn2,_⟩:=app_int 1 ov h3 (by simp;omega)
  have w1:=IntWalk.i64_in ((k:Int)+1) (by omega)
  have hk0:(k:Int) >= 0:=by omega
  have w5:IntKind.i64.wrap (1+IntKind.i64.wrap (Int.tmod 0 4))=1:=by decide
  simp only[go_sem,e1,e3,e4,l2,hb,h5,hk0,hg,hne,w1,w5,hA]
  refine⟨by have:=ov2.next;omega,⟨k+1,rfl,by omega,ov2,?_⟩,by rw[h4];simp only[lin,iv_int];omega⟩
  rw[List.replicate_succ']
  exact hO
 ·simp only[go_sem,e1,e3,e4,l2,hb]
  obtain rfl:k=n:=by omega
  exact FinV.dropO G0_ok hcl (o1.trans ov) (h3.fzI fun i hi=>by omega) hK
structure IsPerm (n:Nat)(p:List Int):Prop where
 len:p.length=n
 nd:p.Nodup
 rng:∀ x∈p,0<=x/\x<n
theorem isPerm_ins {n:Nat}{p:List Int}(h:IsPerm n p)(at':Nat)(ha:at'<=n):IsPerm (n+1) (p.take at'++(n:Int) :: p.drop at'):=by
 have hperm:(p.take at'++(n:Int) :: p.drop at').Perm ((n:Int) :: p):=by
  have:=List.perm_middle (a:=(n:Int)) (l₁:=p.take at') (l₂:=p.drop at')
  rwa [List.take_append_drop]at this
 refine⟨by rw[hperm.length_eq];simp [h.len],(hperm.nodup_iff).2 (List.nodup_cons.2 ⟨fun hm=>?_,h.nd⟩),fun x hx=>?_⟩
 ·have:=h.rng _ hm;omega
 ·rcases List.mem_cons.1 (hperm.mem_iff.1 hx) with rfl|h2
  ·omega
  ·have:=h.rng x h2;omega
def permAt (ord:List Int)(k:Nat):Nat:=if k<ord.length then (ord.getD k 0 % ((k:Int)+1)).toNat else 0
def permF (ord:List Int):Nat->List Int
 | 0=>[]
 | k+1=>(permF ord k).take (permAt ord k)++(k:Int) :: (permF ord k).drop (permAt ord k)
theorem permAt_le (ord:List Int)(k:Nat):permAt ord k<=k:=by
 unfold permAt
 split
 ·have:=Int.emod_lt_of_pos (ord.getD k 0) (show 0<(k:Int)+1 by omega)
  omega
 ·omega
theorem permF_ok (ord:List Int):∀ n:Nat,IsPerm n (permF ord n)
 | 0=>⟨rfl,by simp [permF],by simp [permF]⟩
 | n+1=>isPerm_ins (permF_ok ord n) _ (permAt_le ord n)
set_option maxHeartbeats 1000000 in
theorem perm_spec (n:Nat)(hn:n<=5)(ord:List Int)(hol:(ord.length:Int)<2 ^ 63)(ho8:∀ x∈ord,U8 x)(H:AHeap)(K:ARes->AHeap->Prop)(hK:∀ v H',Over H H'->OwnG H.next H' 3 v (ints (permF ord n))->K (.ret v) H'):
  ACall Try.prog G0 47 [.agg [.vec n (bytesL (List.replicate n 0)),.lit (.int .u16 0),.vec ord.length (bytesL ord)]] H K:=by
 refine ACall.clo ⟨_,Try.func47,rfl,rfl⟩ fun hcl=>?_
 refine ACall.of_body (n:=42) (rs:=[.tmp 2]) Try.func47 rfl rfl rfl (by decide) (by kernel_rfl) (by simp) ?_
 simp only[go_sem]
 obtain⟨H1,hH1⟩:∃ H1,H1=ext H [.arr 0 107 [.vec n (bytesL (List.replicate n 0)),.lit (.int .u16 0),.vec ord.length (bytesL ord)]]:=⟨_,rfl⟩
 have l1:=get_live (show H1.get H.next=some (.arr 0 107 [.vec n (bytesL (List.replicate n 0)),.lit (.int .u16 0),.vec ord.length (bytesL ord)]) by rw[hH1];exact get_ext0 ..)
 have n1:H1.next=H.next+1:=by rw[hH1];rfl
 have o1:Over H H1:=by rw[hH1];exact .ext _ _
 rw[<- hH1]
 refine W.loop0 2199023255544 (by rfl) (fun ρ H'=>∃ (k:Nat) (p:List Int),ρ 4=lin k/\k<=n/\p=permF ord k/\Over H1 H'/\OwnG H1.next H' 3 (ρ 3) (ints p)) (fun ρ H=>n - (iv (ρ 4)).toNat) ?_ ?_
 ·simp only[go_sem]
  exact⟨0,[],rfl,by omega,rfl,.refl _,.nil⟩
 rintro ρ H' ⟨k,p,h4,hk,hpe,ov,h3⟩
 have hp:IsPerm k p:=by rw[hpe];exact permF_ok ord k
 refine W.env fun E hE=>?_
 have e1:E 1=.ptr H.next 0 0:=by rw[hE];simp only[go_sem]
 have e3:E 3=ρ 3:=by rw[hE];simp only[go_sem]
 have e4:E 4=lin k:=by rw[hE];simp only[go_sem,h4]
 clear hE
 refine vc_sound _ _ _ (by rfl) ?_
 have l2:=(ov.live (g:=0) (by omega:H.next<H1.next)).trans l1
 simp only[go_sem,e1,l2]
 refine AApply.clo (cardsD_spec n hn ord _ _ ⟨trivial,?_⟩)
 by_cases hb:(k:Int)<n
 rotate_left
 ·simp only[go_sem,List.length_replicate,e3,e4,hb]
  obtain rfl:k=n:=by omega
  exact FinV.mk (o1.trans ov).next (hK _ _ (o1.trans ov) (by rw[<- hpe];exact h3.keep (by omega) (Nat.le_refl _) fun _ _ _ _ _ _=>rfl))
  -- the place
 rcases h3 with ⟨h3n,hpn⟩|⟨oi,og,hoi1,hoi2,h3o,hog⟩
 ·have p0:p=[]:=by cases p with
   | nil=>rfl
   | cons a l=>simp [ints]at hpn
  have pl:=hp.len
  rw[p0]at pl
  obtain rfl:k=0:=by simpa using pl.symm
  rw[h3n]at e3
  have e4':E 4=lin 0:=e4
  have hb':(0:Int)<n:=hb
  by_cases ho:(0:Int)<ord.length
  ·obtain⟨b,hbg⟩:=get_of_lt (l:=ord) (i:=0) (by omega)
   have b8:=ho8 b (List.mem_of_getElem? hbg)
   have hbg':=bytesL_get hbg
   have hbne:=ne_of_get hbg'
   have w2:IntKind.i64.wrap b=b:=IntWalk.i64_in b (by have:=b8.1;have:=b8.2;omega)
   have w1:IntKind.i64.wrap 1=1:=by decide
   have m1:b.tmod 1=0:=by simp
   obtain⟨v2,Hb,hA2,ovB,hO2,hn2,hp2⟩:=app_int (H:=H') (H':=H') (l:=[]) (v:=.lit (.slice none 0 0)) (0:Int) (.refl _) OwnG.nil (by simp)
   obtain⟨v3,Hc,hA3,hO3,hn3,hp3⟩:=app_srcG (P:=Try.prog) (H:=Hb) (t:=52) (n:=Hb.next) (m:=0) (v:=v2) (x:=.lit (.slice none 0 0)) (src:=[]) Try.underlying52 Try.cells3 Try.zero3 rfl rfl rfl (by rw[Try.bytes3];exact⟨by decide,by decide⟩) hO2 ovB.next rfl
   have ovC:Over H' Hc:=over_app ovB hO2 hn3 hp3
   have hA1:appendA Try.prog H' H'.next 52 52 (.lit (.slice none 0 0)) (.lit (.slice none 0 0))=some (.lit (.slice none 0 0),H'):=by
    unfold appendA;rw[Try.underlying52]
    simp only[Try.zero3,Try.cells3,Option.bind_some,sourceA_nil,if_true]
   have hO3':OwnG H1.next Hc 3 v3 (ints [0]):=by
    rw[List.append_nil]at hO3
    exact hO3.keep ov.next (Nat.le_refl _) fun _ _ _ _ _ _=>rfl
   simp only[go_sem,List.length_replicate,e1,e3,e4',l2,hb',ho,hbg',hbne,w1,w2,m1,hA1,hA2,hA3]
   refine⟨by have:=ovC.next;have:=ov.next;omega,⟨1,[0],rfl,by omega,by simp [permF],ov.trans ovC,hO3'⟩,by rw[h4];simp only[lin,iv_int];omega⟩
  ·have w1:IntKind.i64.wrap 1=1:=by decide
   obtain⟨v2,Hb,hA2,ovB,hO2,hn2,hp2⟩:=app_int (H:=H') (H':=H') (l:=[]) (v:=.lit (.slice none 0 0)) (0:Int) (.refl _) OwnG.nil (by simp)
   obtain⟨v3,Hc,hA3,hO3,hn3,hp3⟩:=app_srcG (P:=Try.prog) (H:=Hb) (t:=52) (n:=Hb.next) (m:=0) (v:=v2) (x:=.lit (.slice none 0 0)) (src:=[]) Try.underlying52 Try.cells3 Try.zero3 rfl rfl rfl (by rw[Try.bytes3];exact⟨by decide,by decide⟩) hO2 ovB.next rfl
   have ovC:Over H' Hc:=over_app ovB hO2 hn3 hp3
   have hA1:appendA Try.prog H' H'.next 52 52 (.lit (.slice none 0 0)) (.lit (.slice none 0 0))=some (.lit (.slice none 0 0),H'):=by
    unfold appendA;rw[Try.underlying52]
    simp only[Try.zero3,Try.cells3,Option.bind_some,sourceA_nil,if_true]
   have hO3':OwnG H1.next Hc 3 v3 (ints [0]):=by
    rw[List.append_nil]at hO3
    exact hO3.keep ov.next (Nat.le_refl _) fun _ _ _ _ _ _=>rfl
   simp only[go_sem,List.length_replicate,e1,e3,e4',l2,hb',ho,w1,hA1,hA2,hA3]
   refine⟨by have:=ovC.next;have:=ov.next;omega,⟨1,[0],rfl,by omega,by simp [permF],ov.trans ovC,hO3'⟩,by rw[h4];simp only[lin,iv_int];omega⟩
 rw[h3o]at e3
 have lo:=get_live hog
 by_cases ho:(k:Int)<ord.length
 ·obtain⟨b,hbg⟩:=get_of_lt (l:=ord) (i:=k) (by omega)
  have b8:=ho8 b (List.mem_of_getElem? hbg)
  have hbg':=bytesL_get hbg
  have hbne:=ne_of_get hbg'
  have w0:=IntWalk.i64_in ((k:Int)+1) (by omega)
  have w1:=w0
  have w2:IntKind.i64.wrap b=b:=IntWalk.i64_in b (by have:=b8.1;have:=b8.2;omega)
  have m1:b.tmod ((k:Int)+1)=b % ((k:Int)+1):=Int.tmod_eq_emod_of_nonneg b8.1
  have m2:=Int.emod_nonneg b (show (k:Int)+1≠0 by omega)
  have m3:=Int.emod_lt_of_pos b (show 0<(k:Int)+1 by omega)
  have hz:¬ (k:Int)+1=0:=by omega
  obtain⟨a,hat⟩:=Int.eq_ofNat_of_zero_le m2
  have ha:a<=k:=by omega
  have hac:(0:Int)<=(a:Int):=by omega
  have hap:(a:Int)<=(p.length:Int):=by rw[hp.len];omega
  have hak:(0:Int)<=(a:Int)/\(a:Int)<=(p.length:Int):=⟨hac,hap⟩
  have pl:p.length=k:=hp.len
  obtain⟨v1,Ha,hA1,hO1,hn1,hp1⟩:=app_srcG (P:=Try.prog) (H:=H') (t:=52) (n:=H'.next) (m:=a) (v:=.lit (.slice none 0 0)) (x:=.own oi og 0 a 1) (src:=(ints p).take a) Try.underlying52 Try.cells3 Try.zero3
   (by rw[sourceA_own,if_pos rfl,lo];simp) (by simp [ints_length]<;>omega) (List.all_eq_true.2 fun c hc=>by
    obtain⟨z,_,rfl⟩:=List.mem_map.1 (List.mem_of_mem_take hc);rfl) (by rw[Try.bytes3];simp<;>omega) OwnG.nil (Nat.le_refl _) rfl
  have ovA:Over H' Ha:=⟨hn1,fun id hi=>hp1 id hi fun g n h=>by cases h⟩
  rw[List.nil_append,ints_take]at hO1
  obtain⟨v2,Hb,hA2,ovB,hO2,hn2,hp2⟩:=app_int (k:Int) ovA hO1 (by simp<;>omega)
  have hcl2:(ints (p.take a++[(k:Int)])).length<=k+1:=by rw[ints_length,List.length_append,List.length_take];simp<;>omega
  have hlb:Hb.live oi og=some (3,ints p):=(ovB.live hoi2).trans lo
  obtain⟨v3,Hc,hA3,hO3,hn3,hp3⟩:=app_srcG (P:=Try.prog) (H:=Hb) (t:=52) (n:=Hb.next) (m:=p.length - a) (v:=v2) (x:=.own oi og a (p.length - a) 1) (src:=(ints p).drop a) Try.underlying52 Try.cells3 Try.zero3
   (by rw[sourceA_own,if_pos rfl,hlb];simp [List.take_of_length_le,ints_length]) (by simp [ints_length]) (List.all_eq_true.2 fun c hc=>by
    obtain⟨z,_,rfl⟩:=List.mem_map.1 (List.mem_of_mem_drop hc);rfl) (by rw[Try.bytes3];omega) hO2 ovB.next rfl
  have ovC:Over H' Hc:=over_app ovB hO2 hn3 hp3
  have hla:Ha.live oi og=some (3,ints p):=(ovA.live hoi2).trans lo
  rw[ints_drop]at hO3
  have hO3':OwnG H1.next Hc 3 v3 (ints (p.take a++(k:Int) :: p.drop a)):=by
   have:ints (p.take a++[(k:Int)])++ints (p.drop a)=ints (p.take a++(k:Int) :: p.drop a):=by simp [ints]
   rw[this]at hO3
   exact hO3.keep ov.next (Nat.le_refl _) fun _ _ _ _ _ _=>rfl
  simp only[go_sem,List.length_replicate,e1,e3,e4,l2,hb,ho,hbg',hbne,w0,w2,m1,hz,hat,hac,hap,Int.toNat_natCast,lo,hlb,hA1,hA2,hA3]
  refine⟨by have:=ovC.next;omega,⟨k+1,_,rfl,by omega,by rw[permF,<- hpe,show permAt ord k=a by unfold permAt;rw[if_pos (by omega),getD_of_get hbg,hat];rfl],ov.trans ovC,hO3'⟩,by rw[h4];simp only[lin,iv_int];omega⟩
 ·have w0:=IntWalk.i64_in ((k:Int)+1) (by omega)
  have pl:p.length=k:=hp.len
  obtain⟨v1,Ha,hA1,hO1,hn1,hp1⟩:=app_srcG (P:=Try.prog) (H:=H') (t:=52) (n:=H'.next) (m:=0) (v:=.lit (.slice none 0 0)) (x:=.own oi og 0 0 1) (src:=(ints p).take 0) Try.underlying52 Try.cells3 Try.zero3
   (by rw[sourceA_own,if_pos rfl,lo];simp) (by simp [ints_length]<;>omega) (List.all_eq_true.2 fun c hc=>by
    obtain⟨z,_,rfl⟩:=List.mem_map.1 (List.mem_of_mem_take hc);rfl) (by rw[Try.bytes3];simp<;>omega) OwnG.nil (Nat.le_refl _) rfl
  have ovA:Over H' Ha:=⟨hn1,fun id hi=>hp1 id hi fun g n h=>by cases h⟩
  rw[List.nil_append,ints_take]at hO1
  obtain⟨v2,Hb,hA2,ovB,hO2,hn2,hp2⟩:=app_int (k:Int) ovA hO1 (by simp<;>omega)
  have hcl2:(ints (p.take 0++[(k:Int)])).length<=k+1:=by rw[ints_length,List.length_append,List.length_take];simp<;>omega
  have hlb:Hb.live oi og=some (3,ints p):=(ovB.live hoi2).trans lo
  obtain⟨v3,Hc,hA3,hO3,hn3,hp3⟩:=app_srcG (P:=Try.prog) (H:=Hb) (t:=52) (n:=Hb.next) (m:=p.length) (v:=v2) (x:=.own oi og 0 (p.length) 1) (src:=(ints p).drop 0) Try.underlying52 Try.cells3 Try.zero3
   (by rw[sourceA_own,if_pos rfl,hlb];simp [List.take_of_length_le,ints_length]) (by simp [ints_length]) (List.all_eq_true.2 fun c hc=>by
    obtain⟨z,_,rfl⟩:=List.mem_map.1 (List.mem_of_mem_drop hc);rfl) (by rw[Try.bytes3];omega) hO2 ovB.next rfl
  have ovC:Over H' Hc:=over_app ovB hO2 hn3 hp3
  have hla:Ha.live oi og=some (3,ints p):=(ovA.live hoi2).trans lo
  rw[ints_drop]at hO3
  have hO3':OwnG H1.next Hc 3 v3 (ints (p.take 0++(k:Int) :: p.drop 0)):=by
   have:ints (p.take 0++[(k:Int)])++ints (p.drop 0)=ints (p.take 0++(k:Int) :: p.drop 0):=by simp [ints]
   rw[this]at hO3
   exact hO3.keep ov.next (Nat.le_refl _) fun _ _ _ _ _ _=>rfl
  simp only[go_sem,List.length_replicate,e1,e3,e4,l2,hb,ho,w0,lo,hlb,hA1,hA2,hA3]
  refine⟨by have:=ovC.next;omega,⟨k+1,_,rfl,by omega,by rw[permF,<- hpe,show permAt ord k=0 by unfold permAt;rw[if_neg (by omega)]],ov.trans ovC,hO3'⟩,by rw[h4];simp only[lin,iv_int];omega⟩
end Go.Proofs
namespace Go.Proofs
open Go.Hx
theorem sum_nonneg {l:List Int}(h:∀ x∈l,0<=x):0<=l.sum:=by
 induction l with
 | nil=>simp
 | cons a l ih =>
  rw[List.sum_cons]
  have:=h a (by simp)
  have:=ih fun x hx=>h x (by simp [hx])
  omega
theorem sum_set {l:List Int}{i:Nat}{a b:Int}(h:l[i]?=some a):(l.set i b).sum=l.sum - a+b:=by
 induction l generalizing i with
 | nil=>simp at h
 | cons x l ih =>
  cases i with
  | zero=>simp at h;subst h;simp only[List.set_cons_zero,List.sum_cons];omega
  | succ i =>
   simp only[List.set_cons_succ,List.sum_cons]
   rw[ih (by simpa using h)];omega
theorem sum_bound {l:List Int}{b:Int}(h:∀ x∈l,0<=x/\x<=b):l.sum<=b*l.length:=by
 induction l with
 | nil=>simp
 | cons a l ih =>
  rw[List.sum_cons,List.length_cons]
  have:=(h a (by simp)).2
  have:=ih fun x hx=>h x (by simp [hx])
  rw[show b*((l.length+1:Nat):Int)=b*l.length+b by rw[Int.natCast_add,Int.mul_add];simp]
  omega
def wF (n:Nat)(bs:List Int)(from':Int):List Int:=(List.range n).map fun (k:Nat)=>if bs.length=0 then 0 else bs.getD ((from'+(k:Int)) % (bs.length:Int)).toNat 0 % 8
theorem wF_len (n:Nat)(bs:List Int)(from':Int):(wF n bs from').length=n:=by simp [wF]
theorem wF_get {n:Nat}(bs:List Int)(from':Int){k:Nat}(h:k<n):(wF n bs from')[k]?=some (if bs.length=0 then 0 else bs.getD ((from'+(k:Int)) % (bs.length:Int)).toNat 0 % 8):=by
 unfold wF;rw[List.getElem?_map,List.getElem?_range h];rfl
theorem wF_rng (n:Nat)(bs:List Int)(from':Int):∀ x∈wF n bs from',0<=x/\x<=7:=fun x hx=>by
 unfold wF at hx
 obtain⟨k,_,rfl⟩:=List.mem_map.1 hx
 split<;>omega
def rstep (g s:Int)(st:List Int × Nat)(m:Nat):List Int × Nat:=if 0<st.1.getD m 0 then (st.1.set m (g*st.1.getD m 0 / s),m) else st
def rfold (g:Int)(c:List Int)(m:Nat):List Int × Nat:=(List.range m).foldl (rstep g c.sum) (c,0)
theorem rfold_succ (g:Int)(c:List Int)(m:Nat):rfold g c (m+1)=rstep g c.sum (rfold g c m) m:=by unfold rfold;rw[List.range_succ,List.foldl_append];rfl
def rowF (g:Int)(n:Nat)(bs:List Int)(from':Int):List Int:=(rfold g (wF n bs from') n).1.set (rfold g (wF n bs from') n).2 ((rfold g (wF n bs from') n).1.getD (rfold g (wF n bs from') n).2 0+(g - (rfold g (wF n bs from') n).1.sum))
structure RInv (g:Int)(c:List Int)(m:Nat)(d:List Int)(last:Nat):Prop where
 dl:d.length=c.length
 d0:∀ x∈d,0<=x
 dd:d.drop m=c.drop m
 dg:(d.take m).sum<=g
 ds:c.sum*(d.take m).sum<=g*(c.take m).sum
 la:last<c.length
theorem rinv {g:Int}{c:List Int}(hg:1<=g)(hc:∀ x∈c,0<=x)(hl:0<c.length):∀ m,m<=c.length->RInv g c m (rfold g c m).1 (rfold g c m).2:=by
 intro m
 induction m with
 | zero=>intro _;exact⟨rfl,hc,rfl,by simp;omega,by simp,hl⟩
 | succ m ih =>
  intro hm
  obtain⟨hdl,hd0,hdd,hdg,hds,hla⟩:=ih (by omega)
  rw[rfold_succ]
  generalize rfold g c m=st at *
  obtain⟨d,last⟩:=st
  simp only at hdl hd0 hdd hdg hds hla
  obtain⟨x,hcx⟩:=get_of_lt (l:=c) (i:=m) (by omega)
  have hx0:=hc x (List.mem_of_getElem? hcx)
  have hdx:d[m]?=some x:=by
   have h1:(d.drop m)[0]?=d[m]?:=by rw[List.getElem?_drop];rfl
   have h2:(c.drop m)[0]?=c[m]?:=by rw[List.getElem?_drop];rfl
   rw[<- h1,hdd,h2,hcx]
  have hdd':d.drop (m+1)=c.drop (m+1):=by
   have:=congrArg (List.drop 1) hdd
   rwa [List.drop_drop,List.drop_drop]at this
  have hct:(c.take (m+1)).sum=(c.take m).sum+x:=by rw[take_succ_get hcx];simp
  have hcs:(c.take (m+1)).sum+(c.drop (m+1)).sum=c.sum:=by rw[<- List.sum_append,List.take_append_drop]
  have hcd0:=sum_nonneg (l:=c.drop (m+1)) fun y hy=>hc y (List.mem_of_mem_drop hy)
  have hc00:=sum_nonneg (l:=c.take m) fun y hy=>hc y (List.mem_of_mem_take hy)
  have hd00:=sum_nonneg (l:=d.take m) fun y hy=>hd0 y (List.mem_of_mem_take hy)
  unfold rstep
  rw[getD_of_get hdx]
  by_cases hx:0<x
  ·rw[if_pos hx]
   have gx:0<=g*x:=Int.mul_nonneg (by omega) hx0
   have y0:0<=g*x / c.sum:=Int.ediv_nonneg gx (by omega)
   have y2:c.sum*(g*x / c.sum)<=g*x:=Int.mul_ediv_self_le (by omega)
   have dt:((d.set m (g*x / c.sum)).take (m+1)).sum=(d.take m).sum+g*x / c.sum:=by
    rw[take_succ_get (List.getElem?_set_self (by omega)),List.take_set_of_le (Nat.le_refl _)];simp
   have hs2:c.sum*((d.take m).sum+g*x / c.sum)<=g*(c.take (m+1)).sum:=by
    rw[Int.mul_add,hct,Int.mul_add];omega
   have hle:(d.take m).sum+g*x / c.sum<=g:=by
    have h1:g*(c.take (m+1)).sum<=g*c.sum:=Int.mul_le_mul_of_nonneg_left (by omega) (by omega)
    have h2:c.sum*((d.take m).sum+g*x / c.sum)<=c.sum*g:=by rw[Int.mul_comm c.sum g];omega
    exact Int.le_of_mul_le_mul_left h2 (by omega)
   refine⟨by simp [hdl],fun y hy=>?_,?_,by dsimp only;rw[dt];exact hle,by dsimp only;rw[dt];exact hs2,by dsimp only;omega⟩
   ·rcases List.mem_or_eq_of_mem_set hy with h|h
    ·exact hd0 y h
    ·omega
   ·rw[<- hdd',List.drop_set_of_lt (by omega)]
  ·rw[if_neg hx]
   have x0:x=0:=by omega
   have dt:(d.take (m+1)).sum=(d.take m).sum:=by rw[take_succ_get hdx,x0];simp
   rw[x0,Int.add_zero]at hct
   exact⟨hdl,hd0,hdd',by dsimp only;rw[dt];exact hdg,by dsimp only;rw[dt,hct];exact hds,hla⟩
theorem rowF_ok {g:Int}{n:Nat}(hg:1<=g)(hn:1<=n)(bs:List Int)(from':Int):RowOk g n (rowF g n bs from'):=by
 have hw:=wF_len n bs from'
 have I:=rinv (g:=g) (c:=wF n bs from') hg (fun x hx=>(wF_rng n bs from' x hx).1) (by omega) n (by omega)
 unfold rowF
 generalize rfold g (wF n bs from') n=st at *
 obtain⟨d,last⟩:=st
 obtain⟨hdl,hd0,hdd,hdg,hds,hla⟩:=I
 dsimp only at hdl hd0 hdd hdg hds hla ⊢
 obtain⟨y,hy⟩:=get_of_lt (l:=d) (i:=last) (by omega)
 have y0:=hd0 y (List.mem_of_getElem? hy)
 rw[getD_of_get hy]
 rw[List.take_of_length_le (by omega)]at hdg
 have hs:(d.set last (y+(g - d.sum))).sum=g:=by rw[sum_set hy];omega
 have h0:∀ w∈d.set last (y+(g - d.sum)),0<=w:=fun w hw=>by
  rcases List.mem_or_eq_of_mem_set hw with h|h
  ·exact hd0 w h
  ·omega
 exact⟨by simp [hdl,hw],fun w hw=>⟨h0 w hw,by have:=mem_le_sum h0 w hw;omega⟩,hs⟩
set_option maxHeartbeats 2000000 in
theorem rowD_spec (g:Int)(n:Nat)(hg:1<=g/\g<=60)(hn:1<=n/\n<=4)(bs:List Int)(hbl:(bs.length:Int)<2 ^ 63)(hb8:∀ x∈bs,U8 x)(from':Int)(hf:0<=from'/\from'<=1000000)(H:AHeap)(K:ARes->AHeap->Prop)(hK:∀ v H',Over H H'->OwnG H.next H' 3 v (ints (rowF g n bs from'))->K (.ret v) H'):
  ACall Try.prog G0 50 [lin g,lin n,.vec bs.length (bytesL bs),lin from'] H K:=by
 refine ACall.clo ⟨_,Try.func50,rfl,rfl⟩ fun hcl=>?_
 refine ACall.of_body (n:=84) (rs:=[.tmp 8]) Try.func50 rfl rfl rfl (by decide) (by kernel_rfl) (by simp) ?_
 simp only[go_sem]
 refine⟨by omega,?_⟩
 refine W.loop0 35184371960832 (by rfl) (fun ρ H'=>∃ (k:Nat) (c:List Int),ρ 11=lin k/\k<=n/\c.length=n/\(∀ x∈c,0<=x/\x<=7)/\(∀ j x,k<=j->c[j]?=some x->x=0)/\(∀ j,j<k->c[j]?=(wF n bs from')[j]?)/\ρ 10=lin c.sum/\OwnI H H' H.next c) (fun ρ H=>n - (iv (ρ 11)).toNat) ?_ ?_
 ·simp only[go_sem]
  refine⟨0,List.replicate n 0,rfl,by omega,by simp,fun x hx=>?_,fun j x _ hx=>?_,fun j hj=>by omega,by simp,?_⟩
  ·have:=List.eq_of_mem_replicate hx;omega
  ·exact List.eq_of_mem_replicate (List.mem_of_getElem? hx)
  ·exact .new [] _
 rintro ρ H' ⟨k,c,h11,hk,hcl',hc7,hc0,hcw,h10,ho⟩
 refine W.env fun E hE=>?_
 have e0:E 0=lin g:=by rw[hE];simp only[go_sem]
 have e1:E 1=lin n:=by rw[hE];simp only[go_sem]
 have e2:E 2=.vec bs.length (bytesL bs):=by rw[hE];simp only[go_sem]
 have e3:E 3=lin from':=by rw[hE];simp only[go_sem]
 have e9:E 9=.own H.next 0 0 n 1:=by rw[hE];simp only[go_sem]
 have e10:E 10=lin c.sum:=by rw[hE];simp only[go_sem,h10]
 have e11:E 11=lin k:=by rw[hE];simp only[go_sem,h11]
 clear hE
 refine vc_sound _ _ _ (by rfl) ?_
 have lN:=ho.live
 have hs0:=sum_nonneg fun x hx=>(hc7 x hx).1
 have hs1:=sum_bound hc7
 by_cases hb:(k:Int)<n
 ·have hck:c[k]?=some 0:=by
   obtain⟨a,ha⟩:=get_of_lt (l:=c) (i:=k) (by omega)
   rw[ha,hc0 k a (Nat.le_refl _) ha]
  have hcne:=ne_of_get hck
  have hk0:(k:Int) >= 0:=by omega
  have w1:=IntWalk.i64_in ((k:Int)+1) (by omega)
  by_cases hz:(0:Int)<bs.length
  ·have hzn:¬ (bs.length:Int)=0:=by omega
   have w2:=IntWalk.i64_in (from'+k) (by omega)
   have m1:(from'+(k:Int)).tmod bs.length=(from'+k) % bs.length:=Int.tmod_eq_emod_of_nonneg (by omega)
   have m2:=Int.emod_nonneg (from'+k) hzn
   have m3:=Int.emod_lt_of_pos (from'+k) hz
   obtain⟨q,hq⟩:=Int.eq_ofNat_of_zero_le m2
   have hq0:(q:Int) >= 0:=by omega
   have hql:(q:Int)<bs.length:=by omega
   obtain⟨b,hbg⟩:=get_of_lt (l:=bs) (i:=q) (by omega)
   have b8:=hb8 b (List.mem_of_getElem? hbg)
   have hbg':=bytesL_get hbg
   have hbne:=ne_of_get hbg'
   have t1:b.tmod 8=b % 8:=Int.tmod_eq_emod_of_nonneg b8.1
   have w3:IntKind.u8.wrap (b % 8)=b % 8:=IntWalk.u8_in _ (by omega)
   have w4:IntKind.i64.wrap (b % 8)=b % 8:=IntWalk.i64_in _ (by omega)
   have w5:=IntWalk.i64_in (c.sum+b % 8) (by omega)
   have hsg:(setAt (ints c) k [.lit (.int .i64 (b % 8))])[k]?=some (.lit (.int .i64 (b % 8))):=by
    rw[setAt_ints (by omega),ints_get,List.getElem?_set_self (by omega)];rfl
   simp only[go_sem,hsg,e1,e2,e3,e9,e10,e11,hb,hz,hzn,w1,w2,m1,hq,hq0,hql,hbg',hbne,t1,w4,w5,hk0,lN]
   refine⟨by omega,by have:=ho.hi;rw[upd_next];omega,⟨k+1,c.set k (b % 8),rfl,by omega,by simp [hcl'],fun x hx=>?_,fun j x hj hx=>?_,fun j hj=>?_,by rw[sum_set hck,Int.sub_zero],ho.store (by omega) _⟩,by rw[h11];simp only[lin,iv_int];omega⟩
   ·rcases List.mem_or_eq_of_mem_set hx with h|h
    ·exact hc7 x h
    ·omega
   ·rw[List.getElem?_set_ne (by omega)]at hx
    exact hc0 j x (by omega) hx
   ·by_cases hjk:j=k
    ·subst hjk
     rw[List.getElem?_set_self (by omega),wF_get bs from' (by omega),if_neg (by omega),hq,Int.toNat_natCast,getD_of_get hbg]
    ·rw[List.getElem?_set_ne (by omega)]
     exact hcw j (by omega)
  ·have w5:=IntWalk.i64_in (c.sum+0) (by omega)
   rw[Int.add_zero]at w5
   simp only[go_sem,e1,e2,e9,e10,e11,hb,hz,w1,w5,Int.add_zero,hk0,hck,lN]
   refine⟨by have:=ho.hi;omega,⟨k+1,c,rfl,by omega,hcl',hc7,fun j x hj hx=>hc0 j x (by omega) hx,fun j hj=>by
    by_cases hjk:j=k
    ·subst hjk
     rw[hck,wF_get bs from' (by omega),if_pos (by omega)]
    ·exact hcw j (by omega),rfl,ho⟩,by rw[h11];simp only[lin,iv_int];omega⟩
 ·obtain rfl:k=n:=by omega
  simp only[go_sem,e1,e11,hb]
  have hcwF:c=wF k bs from':=by
   apply List.ext_getElem?
   intro j
   rcases Nat.lt_or_ge j k with h|h
   ·exact hcw j h
   ·rw[List.getElem?_eq_none (by omega),List.getElem?_eq_none (by rw[wF_len];exact h)]
  have hRI:=fun m (hm:m<=k)=>rinv (g:=g) (c:=c) hg.1 (fun x hx=>(hc7 x hx).1) (by omega) m (by omega)
  refine W.loop0 18889465861109836705792 (by rfl) (fun ρ H2=>∃ (m last:Nat) (d:List Int),ρ 14=lin m/\m<=k/\rfold g c m=(d,last)/\ρ 12=lin (g - (d.take m).sum)/\ρ 13=lin last/\H'.next<=H2.next/\OwnI H H2 H.next d) (fun ρ H=>k - (iv (ρ 14)).toNat) ?_ ?_
  ·simp only[go_sem,e0]
   exact⟨0,0,c,rfl,by omega,rfl,by simp,rfl,ho⟩
  rintro ρ2 H2 ⟨m,last,d,h14,hm,hrf,h12,h13,hnn,hod⟩
  obtain⟨hdl,hd0,hdd,hdg,hds,hlast⟩:RInv g c m d last:=by have:=hRI m hm;rw[hrf]at this;exact this
  rw[hcl']at hdl hlast
  have hrs:=rfold_succ g c m
  rw[hrf]at hrs
  unfold rstep at hrs
  dsimp only at hrs
  refine W.env fun E2 hE2=>?_
  have f0:E2 0=lin g:=by rw[hE2];simp only[go_sem,e0]
  have f1:E2 1=lin k:=by rw[hE2];simp only[go_sem,e1]
  have f9:E2 9=.own H.next 0 0 k 1:=by rw[hE2];simp only[go_sem,e9]
  have f10:E2 10=lin c.sum:=by rw[hE2];simp only[go_sem,e10]
  have f12:E2 12=lin (g - (d.take m).sum):=by rw[hE2];simp only[go_sem,h12]
  have f13:E2 13=lin last:=by rw[hE2];simp only[go_sem,h13]
  have f14:E2 14=lin m:=by rw[hE2];simp only[go_sem,h14]
  clear hE2
  refine vc_sound _ _ _ (by rfl) ?_
  have lN2:=hod.live
  by_cases hb2:(m:Int)<k
  ·obtain⟨x,hcx⟩:=get_of_lt (l:=c) (i:=m) (by omega)
   have hx7:=hc7 x (List.mem_of_getElem? hcx)
   have hdx:d[m]?=some x:=by
    have h1:(d.drop m)[0]?=d[m]?:=by rw[List.getElem?_drop];rfl
    have h2:(c.drop m)[0]?=c[m]?:=by rw[List.getElem?_drop];rfl
    rw[<- h1,hdd,h2,hcx]
   have hdne:=ne_of_get hdx
   have hm0:(m:Int) >= 0:=by omega
   have w1:=IntWalk.i64_in ((m:Int)+1) (by omega)
   have hdd':d.drop (m+1)=c.drop (m+1):=by
    have:=congrArg (List.drop 1) hdd
    rwa [List.drop_drop,List.drop_drop]at this
   have hct:(c.take (m+1)).sum=(c.take m).sum+x:=by rw[take_succ_get hcx];simp
   have hcs:(c.take (m+1)).sum+(c.drop (m+1)).sum=c.sum:=by rw[<- List.sum_append,List.take_append_drop]
   have hcd0:=sum_nonneg (l:=c.drop (m+1)) fun y hy=>(hc7 y (List.mem_of_mem_drop hy)).1
   have hc00:=sum_nonneg (l:=c.take m) fun y hy=>(hc7 y (List.mem_of_mem_take hy)).1
   have hd00:=sum_nonneg (l:=d.take m) fun y hy=>hd0 y (List.mem_of_mem_take hy)
   by_cases hx:0<x
   ·have hsz:¬ c.sum=0:=by omega
    have gx:0<=g*x:=Int.mul_nonneg (by omega) hx7.1
    have gx2:g*x<=60*7:=Int.mul_le_mul hg.2 hx7.2 hx7.1 (by omega)
    have w2:=IntWalk.i64_in (g*x) (by omega)
    have t1:(g*x).tdiv c.sum=g*x / c.sum:=Int.tdiv_eq_ediv_of_nonneg gx
    have y0:0<=g*x / c.sum:=Int.ediv_nonneg gx hs0
    have y1:g*x / c.sum<=g*x:=Int.ediv_le_self _ gx
    have y2:c.sum*(g*x / c.sum)<=g*x:=Int.mul_ediv_self_le (by omega)
    have w3:=IntWalk.i64_in (g*x / c.sum) (by omega)
    have w4:=IntWalk.i64_in (g - (d.take m).sum - g*x / c.sum) (by omega)
    have hsg:(setAt (ints d) m [.lit (.int .i64 (g*x / c.sum))])[m]?=some (.lit (.int .i64 (g*x / c.sum))):=by
     rw[setAt_ints (by omega),ints_get,List.getElem?_set_self (by omega)];rfl
    have dt:((d.set m (g*x / c.sum)).take (m+1)).sum=(d.take m).sum+g*x / c.sum:=by
     rw[take_succ_get (List.getElem?_set_self (by omega)),List.take_set_of_le (Nat.le_refl _)];simp
    have hs2:c.sum*((d.take m).sum+g*x / c.sum)<=g*(c.take (m+1)).sum:=by
     rw[Int.mul_add,hct,Int.mul_add];omega
    have hle:(d.take m).sum+g*x / c.sum<=g:=by
     have h1:g*(c.take (m+1)).sum<=g*c.sum:=Int.mul_le_mul_of_nonneg_left (by omega) (by omega)
     have h2:c.sum*((d.take m).sum+g*x / c.sum)<=c.sum*g:=by rw[Int.mul_comm c.sum g];omega
     exact Int.le_of_mul_le_mul_left h2 (by omega)
    simp only[go_sem,hsg,f0,f1,f9,f10,f12,f13,f14,hb2,hx,hsz,w1,w2,t1,w3,w4,hm0,hdx,lN2]
    rw[getD_of_get hdx,if_pos hx]at hrs
    exact⟨by omega,by rw[upd_next];exact hnn,⟨m+1,m,d.set m (g*x / c.sum),rfl,by omega,hrs,by rw[dt];congr 2;omega,rfl,by rw[upd_next];exact hnn,hod.store (by omega) _⟩,by rw[h14];simp only[lin,iv_int];omega⟩
   ·have x0:x=0:=by omega
    have w4:=IntWalk.i64_in (g - (d.take m).sum) (by omega)
    simp only[go_sem,f1,f9,f12,f13,f14,hb2,x0,w1,w4,hm0,hdx,Int.sub_zero,lN2]
    have dt:(d.take (m+1)).sum=(d.take m).sum:=by rw[take_succ_get hdx,x0];simp
    rw[x0,Int.add_zero]at hct
    rw[getD_of_get hdx,if_neg hx]at hrs
    exact⟨hnn,⟨m+1,last,d,rfl,by omega,hrs,by rw[dt],rfl,hnn,hod⟩,by rw[h14];simp only[lin,iv_int];omega⟩
  ·obtain rfl:m=k:=by omega
   obtain⟨y,hy⟩:=get_of_lt (l:=d) (i:=last) (by omega)
   have hyne:=ne_of_get hy
   have hl0:(last:Int) >= 0:=by omega
   have hlk:(last:Int)<m:=by omega
   have y0:=hd0 y (List.mem_of_getElem? hy)
   rw[List.take_of_length_le (by omega)]at hdg hds h12 f12
   have hyle:=mem_le_sum hd0 y (List.mem_of_getElem? hy)
   have w1:=IntWalk.i64_in (y+(g - d.sum)) (by omega)
   have hle:last+1<=d.length:=by omega
   simp only[go_sem,f1,f9,f12,f13,f14,hb2,hl0,hlk,hy,lN2,w1]
   refine⟨hle,?_⟩
   have hrow:rowF g m bs from'=d.set last (y+(g - d.sum)):=by
    unfold rowF
    rw[<- hcwF,hrf]
    dsimp only
    rw[getD_of_get hy]
   rw[hrow]at hK
   have ho2:=hod.store (k:=last) (by omega) (y+(g - d.sum))
   refine FinV.mk ho2.ov.next (hK _ _ ho2.ov (.inr ⟨_,0,ho2.lo,ho2.hi,?_,ho2.get⟩))
   rw[ints_length,List.length_set,hdl]
end Go.Proofs
namespace Go.Proofs
open Go.Hx
structure DrP where
 card:Int
 par:Int
 w:List Int
def DrP.cells (x:DrP):List AVal:=[.lit (.int .u8 x.card),.lit (.int .u8 x.par),.vec x.w.length (bytesL x.w)]
def drC (l:List DrP):List AVal:=(l.map DrP.cells).flatten
def DrP.Ok (x:DrP):Prop:=U8 x.card/\U8 x.par/\(x.w.length:Int)<2 ^ 63/\∀ b∈x.w,U8 b
def draft05V (g:Int)(ps:List DrP)(ord:List Int):AVal:=.agg [.lit (.int .u8 g),.vec ps.length (drC ps),.vec ord.length (bytesL ord)]
theorem drC_part {l:List DrP}{i:Nat}{x:DrP}(h:l[i]?=some x):((drC l).drop (i*3)).take 3=[.lit (.int .u8 x.card),.lit (.int .u8 x.par),.vec x.w.length (bytesL x.w)]:=flat_part (f:=DrP.cells) (z:=3) (fun _=>rfl) l i x h
theorem drC_len (l:List DrP):(drC l).length=l.length*3:=flat_len (f:=DrP.cells) (fun _=>rfl) l
def NodeP.cellsZ (x:NodeP):List AVal:=if x.rows=[] then [lin x.card,.lit (.slice none 0 0),.lit (.slice none 0 0)] else [lin x.card,vecI x.parents,vecV x.rows]
def nodesZ (l:List NodeP):List AVal:=(l.map NodeP.cellsZ).flatten
theorem cellsZ_len (x:NodeP):x.cellsZ.length=3:=by unfold NodeP.cellsZ;split<;>rfl
theorem nodesZ_len (l:List NodeP):(nodesZ l).length=l.length*3:=flat_len (f:=NodeP.cellsZ) cellsZ_len l
theorem nodesZ_0 {l:List NodeP}{i:Nat}{x:NodeP}(h:l[i]?=some x):(nodesZ l)[i*3]?=some (lin x.card):=by
 have:=flat_get (f:=NodeP.cellsZ) (z:=3) cellsZ_len l i 0 x h (by omega)
 rw[Nat.add_zero]at this
 rw[show (nodesZ l)[i*3]?=_ from this]
 unfold NodeP.cellsZ;split<;>rfl
theorem nodesZ_eq {l:List NodeP}(h:∀ x∈l,x.rows≠[]):nodesZ l=nodesC l:=by
 unfold nodesZ nodesC
 congr 1
 exact List.map_congr_left fun x hx=>if_neg (h x hx)
theorem flat_set {α:Type}{f:α->List AVal}{z:Nat}(hz:∀ a,(f a).length=z):∀ (l:List α) (i:Nat) (a:α),i<l.length->((l.set i a).map f).flatten=((l.map f).flatten).take (i*z)++f a++((l.map f).flatten).drop (i*z+z):=by
 intro l
 induction l with
 | nil=>intro i a h;simp at h
 | cons b l ih =>
  intro i a h
  cases i with
  | zero=>simp [hz]
  | succ i =>
   have hb:=hz b
   simp only[List.set_cons_succ,List.map_cons,List.flatten_cons]
   rw[ih i a (by simpa using h),show (i+1)*z=z+i*z by rw[Nat.add_mul];omega,List.take_append,List.drop_append,hb]
   rw[List.take_of_length_le (l:=f b) (i:=z+i*z) (by omega),List.drop_of_length_le (l:=f b) (i:=z+i*z+z) (by omega),show z+i*z - z=i*z by omega,show z+i*z+z - z=i*z+z by omega]
   simp
theorem fzl_set {S:Nat->Prop}{H:AHeap}{nx:Nat}{A B:List AVal}{i:Nat}{a b:AVal}(h:∀ j (h:j<A.length) (h':j<B.length),Fz S H nx A[j] B[j])(hab:Fz S H nx a b):∀ j (h:j<(A.set i a).length) (h':j<(B.set i b).length),Fz S H nx (A.set i a)[j] (B.set i b)[j]:=by
 intro j h1 h2
 rw[List.getElem_set,List.getElem_set]
 split
 ·exact hab
 ·exact h j (by simpa using h1) (by simpa using h2)
theorem fz_vecV {S:Nat->Prop}{H:AHeap}{nx:Nat}(l:List (List Int)):Fz S H nx (vecV l) (vecV l):=.vec rfl fun i hi _=>by simp only[List.getElem_map];exact .keepInts _
theorem fz_cellsZ {S:Nat->Prop}{H:AHeap}{nx:Nat}(x:NodeP):∀ c∈x.cellsZ,Fz S H nx c c:=by
 intro c hc
 unfold NodeP.cellsZ at hc
 split at hc
 ·simp only[List.mem_cons,List.not_mem_nil,or_false]at hc
  rcases hc with rfl|rfl|rfl<;>exact .lit _
 ·simp only[List.mem_cons,List.not_mem_nil,or_false]at hc
  rcases hc with rfl|rfl|rfl
  ·exact .lit _
  ·exact .keepInts _
  ·exact fz_vecV _
theorem fz_nodesZ' {S:Nat->Prop}{H:AHeap}{nx:Nat}(l:List NodeP):∀ c∈nodesZ l,Fz S H nx c c:=by
 intro c hc
 unfold nodesZ at hc
 obtain⟨r,hr,hc⟩:=List.mem_flatten.1 hc
 obtain⟨x,_,rfl⟩:=List.mem_map.1 hr
 exact fz_cellsZ x c hc
theorem fz_nodesZ {S:Nat->Prop}{H:AHeap}{nx:Nat}:∀ (l:List NodeP),(∀ x∈l,x.rows=[]->x.parents=[])->∀ (i:Nat) (h:i<(nodesZ l).length) (h':i<(nodesC l).length),Fz S H nx (nodesZ l)[i] (nodesC l)[i]:=by
 intro l
 induction l with
 | nil=>intro _ i h;simp [nodesZ]at h
 | cons x l ih =>
  intro hx i h h'
  have e1:nodesZ (x :: l)=x.cellsZ++nodesZ l:=by simp [nodesZ]
  have e2:nodesC (x :: l)=x.cells++nodesC l:=by simp [nodesC]
  have l1:=cellsZ_len x
  have l2:x.cells.length=3:=rfl
  have hc:∀ (i:Nat) (h:i<x.cellsZ.length) (h':i<x.cells.length),Fz S H nx x.cellsZ[i] x.cells[i]:=by
   intro i h h'
   by_cases hr:x.rows=[]
   ·have hp:=hx x (by simp) hr
    have ez:x.cellsZ=[lin x.card,.lit (.slice none 0 0),.lit (.slice none 0 0)]:=if_pos hr
    have ec:x.cells=[lin x.card,vecI [],vecV []]:=by unfold NodeP.cells;rw[hr,hp]
    simp only[ez,ec]
    match i,h' with
    | 0,_=>exact .lit _
    | 1,_=>exact .nil
    | 2,_=>exact .nil
   ·have ez:x.cellsZ=x.cells:=if_neg hr
    simp only[ez]
    match i,h' with
    | 0,_=>exact .lit _
    | 1,_=>exact .keepInts _
    | 2,_=>exact fz_vecV _
  simp only[e1,e2]
  by_cases hi:i<3
  ·rw[List.getElem_append_left (by omega),List.getElem_append_left (by omega)]
   exact hc i (by omega) (by omega)
  ·rw[List.getElem_append_right (by omega),List.getElem_append_right (by omega)]
   simp only[l1,l2]
   exact ih (fun y hy=>hx y (by simp [hy])) (i - 3) _ _
theorem nodesC_set {l:List NodeP}{i:Nat}{x y:NodeP}(h:l[i]?=some x)(hy:y.card=x.card):nodesC (l.set i y)=((nodesC l).set (i*3+1) (vecI y.parents)).set (i*3+2) (vecV y.rows):=by
 have hl:=get_lt h
 have h1:=flat_set (f:=NodeP.cells) (z:=3) (fun _=>rfl) l i y hl
 have h2:=flat_part (f:=NodeP.cells) (z:=3) (fun _=>rfl) l i x h
 unfold nodesC
 rw[h1]
 have h3:(l.map NodeP.cells).flatten=((l.map NodeP.cells).flatten).take (i*3)++(x.cells++((l.map NodeP.cells).flatten).drop (i*3+3)):=by
  rw[<- h2,<- List.drop_drop,List.take_append_drop,List.take_append_drop]
 have hlen:(((l.map NodeP.cells).flatten).take (i*3)).length=i*3:=by
  rw[List.length_take,flat_len (f:=NodeP.cells) (z:=3) (fun _=>rfl)];omega
 conv=>rhs;rw[h3]
 rw[List.set_append_right _ _ (by omega),List.set_append_right _ _ (by omega),hlen,show i*3+1 - i*3=1 by omega,show i*3+2 - i*3=2 by omega]
 unfold NodeP.cells
 simp [hy]
theorem own_len {lo:Nat}{H:AHeap}{e:TypeId}{v:AVal}{cs:List AVal}(h:OwnG lo H e v cs){d:Option TypeDesc}{t:TypeId}(hd:d=some (.slice t)):lenU d H v=some (.lit (.int .i64 cs.length)):=by
 subst hd
 rcases h with ⟨rfl,rfl⟩|⟨id,g,_,_,rfl,h4⟩
 ·rfl
 ·rw[lenU_slice,lenS_own,get_live h4];rfl
theorem at02_own (l p:List Int)(hl:(l.length:Int)<2 ^ 40)(hp:(p.length:Int)<2 ^ 39)(hin:∀ q∈p,0<=q/\q<l.length)(H:AHeap)(K:ARes->AHeap->Prop)(hK:∀ v H',Over H H'->OwnG H.next H' 3 v (ints (atL l p))->K (.ret v) H'):ACall Try.prog G0 70 [vecI l,vecI p] H K:=by
 refine ACall.clo ⟨_,Try.func70,rfl,rfl⟩ fun hcl=>?_
 refine ACall.of_body (n:=24) (rs:=[.tmp 4]) Try.func70 rfl rfl rfl (by decide) (by kernel_rfl) (by simp) ?_
 simp only[go_sem]
 refine W.loop0 8388576 (by rfl) (fun ρ H'=>∃ k:Nat,ρ 6=lin k/\k<=p.length/\Over H H'/\OwnG H.next H' 3 (ρ 5) (ints (atL l (p.take k)))) (fun ρ H=>p.length - (iv (ρ 6)).toNat) ?_ ?_
 ·simp only[go_sem]
  exact⟨0,rfl,by omega,.refl _,.nil⟩
 rintro ρ H' ⟨k,h6,hk,ov,h5⟩
 refine vc_sound _ _ _ (by rfl) ?_
 by_cases hb:(k:Int)<p.length
 ·obtain⟨q,hq⟩:=get_of_lt (l:=p) (i:=k) (by omega)
  obtain⟨j,rfl,a,ha⟩:=get_of_int (hin q (List.mem_of_getElem? hq)).1 (hin q (List.mem_of_getElem? hq)).2
  have hne:=ne_of_get hq
  have hne2:=ne_of_get ha
  have hj:=get_lt ha
  have hj':(j:Int)<l.length:=by omega
  obtain⟨v',H2,hA,ov2,hO,hn2,_⟩:=app_int a ov h5 (by simp [atL];omega)
  have w1:=IntWalk.i64_in ((k:Int)+1) (by omega)
  simp only[go_sem,h6,hb,hq,hne,ha,hne2,hj',w1,hA]
  refine⟨by have:=ov2.next;omega,⟨k+1,by simp,by omega,ov2,?_⟩,by omega⟩
  rw[atL_take hq,Int.toNat_natCast,getD_of_get ha]
  exact hO
 ·simp only[go_sem,h6,hb]
  rw[List.take_of_length_le (by omega)]at h5
  exact FinV.mk ov.next (hK _ _ ov h5)
theorem parentCards_own (g:Int)(ns:List NodeP)(v:Nat)(x:NodeP)(hx:ns[v]?=some x)(hl:(ns.length:Int)<2 ^ 39)(hp:(x.parents.length:Int)<2 ^ 39)(hin:InRange x.parents ns.length)(H:AHeap)(K:ARes->AHeap->Prop)
  (hK:∀ v H',Over H H'->OwnG H.next H' 3 v (ints (parC ns x))->K (.ret v) H'):ACall Try.prog G0 49 [netV g ns,lin v] H K:=by
 refine ACall.clo ⟨_,Try.func49,rfl,rfl⟩ fun hcl=>?_
 have hne:=nodesC_ne hx
 have e1:=nodesC_1 hx
 have hv:(v:Int)<ns.length:=by have:=get_lt hx;omega
 refine ACall.of_body (n:=14) (rs:=[.tmp 4]) Try.func49 rfl rfl rfl (by decide) (by kernel_rfl) (by simp) ?_
 simp only[go_sem,netV,nodesV]
 refine W.draw 8 [0,1,0,4,0,28,60,124] Try.mixed (by kernel_rfl) (by kernel_rfl) ?_
 simp only[go_sem]
 refine⟨vecI (cardsL ns),[],PCall.pure fun H2=>cards05_spec g ns hl H2 _ ⟨rfl,rfl⟩,?_⟩
 simp only[go_sem,hv,hne,e1]
 refine AApply.clo (at02_own (cardsL ns) x.parents (by rw[cards_len];omega) hp (by rw[cards_len];exact hin) _ _ fun w H3 ov ho=>⟨trivial,?_⟩)
 simp only[go_sem]
 have o1:Over H H3:=(Over.ext _ _).trans ov
 exact FinV.mk o1.next (hK _ _ o1 (ho.keep (by simp [ext_next]) (Nat.le_refl _) fun _ _ _ _ _ _=>rfl))
theorem acyc_of_order {ns:List NodeP}{P:List Int}(hP:IsPerm ns.length P)(hall:∀ v:Nat,v<ns.length->(v:Int)∈P)(hr:∀ (j v:Nat) (x:NodeP),P[j]?=some (v:Int)->ns[v]?=some x->∀ q∈x.parents,0<=q/\∃ k,k<j/\P[k]?=some q):AcycB (setsL ns):=by
 intro v hv
 have hl:(setsL ns).length=ns.length:=by simp [setsL]
 rw[hl]at hv
 obtain⟨j,hj⟩:=List.mem_iff_getElem?.1 (hall v hv)
 have h0:∀ p∈P.take j,0<=p:=fun p hp=>(hP.rng p (List.mem_of_mem_take hp)).1
 have sub:∀ (k u:Nat) (x:NodeP),k<=j->P[k]?=some (u:Int)->ns[u]?=some x->Sub ((setsL ns).getD u 0) (setN (P.take j)):=fun k u x hk hu hx i hi=>by
  rw[getD_of_get (setsL_get hx)]at hi
  have hp0:∀ p∈x.parents,0<=p:=fun p hp=>(hr k u x hu hx p hp).1
  rw[setN_bit hp0]at hi
  obtain⟨_,k',hk',hq⟩:=hr k u x hu hx _ (of_decide_eq_true hi)
  rw[setN_bit h0]
  refine decide_eq_true ?_
  exact List.mem_iff_getElem?.2 ⟨k',by rw[List.getElem?_take_of_lt (by omega)];exact hq⟩
 have hcl:Closed (setsL ns) (setN (P.take j)):=fun u hu ht=>by
  rw[hl]at hu
  rw[setN_bit h0]at ht
  obtain⟨k,hk⟩:=List.mem_iff_getElem?.1 (of_decide_eq_true ht)
  have hkl:=get_lt hk
  rw[List.length_take]at hkl
  rw[List.getElem?_take_of_lt (by omega)]at hk
  obtain⟨x,hx⟩:=get_of_lt hu
  exact sub k u x (by omega) hk hx
 obtain⟨x,hx⟩:=get_of_lt hv
 have h1:=upN_closed hcl (setsL ns).length (sub j v x (Nat.le_refl _) hj hx)
 cases hb:(upL (setsL ns) ((setsL ns).getD v 0)).testBit v with
 | false=>rfl
 | true =>
  exfalso
  have h2:=h1 v hb
  rw[setN_bit h0]at h2
  obtain⟨k,hk⟩:=List.mem_iff_getElem?.1 (of_decide_eq_true h2)
  have hkl:=get_lt hk
  rw[List.length_take]at hkl
  rw[List.getElem?_take_of_lt (by omega)]at hk
  have e:P[k]?=P[j]?:=by rw[hk,hj]
  have:=(List.getElem?_inj (get_lt hk) hP.nd).1 e
  omega
end Go.Proofs
namespace Go.Proofs
open Go.Hx
def FrN (H1 H':AHeap)(N:Nat)(cs:List AVal):Prop:=H1.next<=H'.next/\(∀ id,id<H1.next->id≠N->H'.get id=H1.get id)/\H'.get N=some (.arr 0 56 cs)
theorem nodesZ_set0 {l:List NodeP}{i:Nat}{x y:NodeP}(h:l[i]?=some x)(hr:x.rows=[])(hy:y.rows=[]):nodesZ (l.set i y)=(nodesZ l).set (i*3) (lin y.card):=by
 have hl:=get_lt h
 have h1:=flat_set (f:=NodeP.cellsZ) (z:=3) cellsZ_len l i y hl
 have h2:=flat_part (f:=NodeP.cellsZ) (z:=3) cellsZ_len l i x h
 have e1:x.cellsZ=[lin x.card,.lit (.slice none 0 0),.lit (.slice none 0 0)]:=if_pos hr
 have e2:y.cellsZ=[lin y.card,.lit (.slice none 0 0),.lit (.slice none 0 0)]:=if_pos hy
 unfold nodesZ
 rw[h1,e2]
 rw[e1]at h2
 have h3:(l.map NodeP.cellsZ).flatten=((l.map NodeP.cellsZ).flatten).take (i*3)++([lin x.card,.lit (.slice none 0 0),.lit (.slice none 0 0)]++((l.map NodeP.cellsZ).flatten).drop (i*3+3)):=by
  rw[<- h2,<- List.drop_drop,List.take_append_drop,List.take_append_drop]
 have hlen:(((l.map NodeP.cellsZ).flatten).take (i*3)).length=i*3:=by
  rw[List.length_take,flat_len (f:=NodeP.cellsZ) (z:=3) cellsZ_len];omega
 conv=>rhs;rw[h3]
 rw[List.set_append_right _ _ (by omega),hlen]
 simp
theorem permF_mem (ord:List Int):∀ (n v:Nat),v<n->(v:Int)∈permF ord n
 | 0,v,h=>by omega
 | n+1,v,h=>by
  unfold permF
  by_cases hv:v=n
  ·subst hv;simp
  ·have:=permF_mem ord n v (by omega)
   rw[<- List.take_append_drop (permAt ord n) (permF ord n)]at this
   rcases List.mem_append.1 this with h|h
   ·exact List.mem_append_left _ h
   ·exact List.mem_append_right _ (List.mem_cons_of_mem _ h)
structure DoneN (g:Int)(cs P:List Int)(n j:Nat)(x:NodeP):Prop where
 pl:PlacesOk x.parents n
 p3:x.parents.length<=3
 rk:∀ q∈x.parents,∃ k,k<j/\P[k]?=some q
 rl:(x.rows.length:Int)=prodL (atL cs x.parents)
 ro:∀ r∈x.rows,RowOk g x.card r
 ne:x.rows≠[]
structure LoopN (g:Int)(cs P:List Int)(n i:Nat)(ns:List NodeP):Prop where
 len:ns.length=n
 cards:cardsL ns=cs
 todo:∀ (j v:Nat) (x:NodeP),i<=j->P[j]?=some (v:Int)->ns[v]?=some x->x.rows=[]/\x.parents=[]
 done:∀ (j v:Nat) (x:NodeP),j<i->P[j]?=some (v:Int)->ns[v]?=some x->DoneN g cs P n j x
theorem nodesZ_set {l:List NodeP}{i:Nat}{x y:NodeP}(h:l[i]?=some x)(hy:y.card=x.card)(hr:y.rows≠[]):nodesZ (l.set i y)=((nodesZ l).set (i*3+1) (vecI y.parents)).set (i*3+2) (vecV y.rows):=by
 have hl:=get_lt h
 have h1:=flat_set (f:=NodeP.cellsZ) (z:=3) cellsZ_len l i y hl
 have h2:=flat_part (f:=NodeP.cellsZ) (z:=3) cellsZ_len l i x h
 unfold nodesZ
 rw[h1]
 have h3:(l.map NodeP.cellsZ).flatten=((l.map NodeP.cellsZ).flatten).take (i*3)++(x.cellsZ++((l.map NodeP.cellsZ).flatten).drop (i*3+3)):=by
  rw[<- h2,<- List.drop_drop,List.take_append_drop,List.take_append_drop]
 have hlen:(((l.map NodeP.cellsZ).flatten).take (i*3)).length=i*3:=by
  rw[List.length_take,flat_len (f:=NodeP.cellsZ) (z:=3) cellsZ_len];omega
 have ex:∃ b c,x.cellsZ=[lin x.card,b,c]:=by unfold NodeP.cellsZ;split<;>exact⟨_,_,rfl⟩
 obtain⟨b,c,ex⟩:=ex
 have ey:y.cellsZ=[lin y.card,vecI y.parents,vecV y.rows]:=if_neg hr
 conv=>rhs;rw[h3]
 rw[List.set_append_right _ _ (by omega),List.set_append_right _ _ (by omega),hlen,show i*3+1 - i*3=1 by omega,show i*3+2 - i*3=2 by omega,ex,ey]
 simp [hy]
structure ParU (P:List Int)(i u k:Nat)(l:List Int):Prop where
 pw:l.Pairwise (·<·)
 rng:∀ q∈l,0<=q/\(q<u\/(q=u/\∃ k',k'<k/\P[k']?=some q))
 p3:l.length<=3
 rk:∀ q∈l,∃ k',k'<i/\P[k']?=some q
theorem ParU.skip {P:List Int}{i u k:Nat}{l:List Int}(h:ParU P i u k l):ParU P i u (k+1) l:=⟨h.pw,fun q hq=>⟨(h.rng q hq).1,(h.rng q hq).2.imp id fun ⟨a,k',b,c⟩=>⟨a,k',by omega,c⟩⟩,h.p3,h.rk⟩
theorem ParU.next {P:List Int}{i u k:Nat}{l:List Int}(h:ParU P i u k l):ParU P i (u+1) 0 l:=⟨h.pw,fun q hq=>⟨(h.rng q hq).1,.inl (by rcases(h.rng q hq).2 with h1|h1<;>omega)⟩,h.p3,h.rk⟩
theorem ParU.add {P:List Int}{n i u k:Nat}{l:List Int}(hP:IsPerm n P)(h:ParU P i u k l)(hk:k<i)(hu:P[k]?=some (u:Int))(h3:l.length<3):ParU P i u (k+1) (l++[(u:Int)]):=by
 have lt:∀ q∈l,q<u:=fun q hq=>by
  rcases(h.rng q hq).2 with h1|⟨h1,k',h2,h4⟩
  ·exact h1
  ·exfalso
   have e:P[k']?=P[k]?:=by rw[h4,hu,h1]
   have:=(List.getElem?_inj (get_lt h4) hP.nd).1 e
   omega
 refine⟨List.pairwise_append.2 ⟨h.pw,by simp,fun a ha b hb=>by obtain rfl:=List.mem_singleton.1 hb;exact lt a ha⟩,fun q hq=>?_,by simp;omega,fun q hq=>?_⟩
 ·rcases List.mem_append.1 hq with h1|h1
  ·exact⟨(h.rng q h1).1,.inl (lt q h1)⟩
  ·obtain rfl:=List.mem_singleton.1 h1
   exact⟨by omega,.inr ⟨rfl,k,by omega,hu⟩⟩
 ·rcases List.mem_append.1 hq with h1|h1
  ·exact h.rk q h1
  ·obtain rfl:=List.mem_singleton.1 h1
   exact⟨k,hk,hu⟩
def PSt (Hz Hx:AHeap)(N at':Nat)(C:List AVal)(pv:AVal)(l:List Int):Prop:=FrN Hz Hx N (C.set at' pv)/\OwnG Hz.next Hx 3 pv (ints l)
set_option maxHeartbeats 4000000 in
theorem net05_spec (g0:Int)(ps:List DrP)(ord:List Int)(hg0:U8 g0)(hps:∀ x∈ps,x.Ok)(hpl:(ps.length:Int)<2 ^ 63)(hol:(ord.length:Int)<2 ^ 63)(ho8:∀ x∈ord,U8 x)(H:AHeap)(K:ARes->AHeap->Prop)
  (hK:∀ g ns N H',Over H H'->H.next<=N->N<H'.next->H'.get N=some (.arr 0 56 (nodesC ns))->NetOk g ns->ns.length<=5->(∀ x∈ns,x.parents.length<=3)->K (.ret (.agg [lin g,.own N 0 0 ns.length 3])) H'):
  ACall Try.prog G0 22 [draft05V g0 ps ord] H K:=by
 refine ACall.of_body (n:=187) (rs:=[.cell 2 66]) Try.func22 rfl rfl rfl (by decide) (by kernel_rfl) (by simp) ?_
 obtain⟨n,hn⟩:∃ n:Nat,min (max ps.length 1) 5=n:=⟨_,rfl⟩
 have h51:1<=n/\n<=5:=by omega
 have hmn:(if 5<(if (1:Int) > ps.length then 1 else (ps.length:Int)) then 5 else (if (1:Int) > ps.length then 1 else (ps.length:Int)))=(n:Int):=by split<;>split<;>omega
 have t0:g0.tmod 60=g0 % 60:=Int.tmod_eq_emod_of_nonneg hg0.1
 have w0:IntKind.u8.wrap (g0 % 60)=g0 % 60:=IntWalk.u8_in _ (by omega)
 have w1:IntKind.i64.wrap (g0 % 60)=g0 % 60:=IntWalk.i64_in _ (by omega)
 have w2:=IntWalk.i64_in (1+g0 % 60) (by omega)
 obtain⟨g,hg⟩:∃ g,1+g0 % 60=g:=⟨_,rfl⟩
 have hg1:1<=g/\g<=60:=by omega
 rw[hg]at w2
 simp only[go_sem,draft05V]
 refine W.draw 9 [0,1,3,7,15,0,32,127,0] Try.mixed (by kernel_rfl) (by kernel_rfl) ?_
 simp only[go_sem,hmn,t0,w1,hg,w2]
 refine⟨by omega,⟨⟨by omega,by omega⟩,⟨by omega,by omega⟩,?_⟩⟩
 obtain⟨H1,hH1⟩:∃ H1,H1=ext (ext H [.arr 0 25 [.lit (.int .u8 g0),.vec ps.length (drC ps),.vec ord.length (bytesL ord)],.arr 0 66 [.lit (.int .i64 0),.lit (.slice none 0 0)],.arr 0 56 (List.replicate n [AVal.lit (.int .i64 0),.lit (.slice none 0 0),.lit (.slice none 0 0)]).flatten]) [.arr 0 66 [.lit (.int .i64 g),.own (H.next+2) 0 0 n 3]]:=⟨_,rfl⟩
 refine W.env fun E hE=>?_
 have e1:E 1=.ptr H.next 0 0:=by rw[hE];simp only[go_sem]
 have e2:E 2=.ptr (H.next+1) 0 0:=by rw[hE];simp only[go_sem]
 have e3:E 3=lin n:=by rw[hE];simp only[go_sem]
 have e4:E 4=.ptr (H.next+3) 0 0:=by rw[hE];simp only[go_sem]
 clear hE
 show W _ _ _ _ _ _ ⟨E,ext (ext H [.arr 0 25 [.lit (.int .u8 g0),.vec ps.length (drC ps),.vec ord.length (bytesL ord)],.arr 0 66 [.lit (.int .i64 0),.lit (.slice none 0 0)],.arr 0 56 (List.replicate n [AVal.lit (.int .i64 0),.lit (.slice none 0 0),.lit (.slice none 0 0)]).flatten]) [.arr 0 66 [.lit (.int .i64 g),.own (H.next+2) 0 0 n 3]]⟩
 rw[<- hH1]
 have n1:H1.next=H.next+4:=by rw[hH1];rfl
 have o1:Over H H1:=by rw[hH1];exact(Over.ext _ _).trans (.ext _ _)
 have g0':H1.get H.next=some (.arr 0 25 [.lit (.int .u8 g0),.vec ps.length (drC ps),.vec ord.length (bytesL ord)]):=by rw[hH1,ext_ext];exact get_ext0 ..
 have g1':H1.get (H.next+1)=some (.arr 0 66 [.lit (.int .i64 0),.lit (.slice none 0 0)]):=by rw[hH1,ext_ext];exact get_ext H _ 1 (by simp)
 have g2':H1.get (H.next+2)=some (.arr 0 56 (nodesZ (List.replicate n ⟨0,[],[]⟩))):=by
  rw[hH1,ext_ext,show nodesZ (List.replicate n ⟨0,[],[]⟩)=(List.replicate n [AVal.lit (.int .i64 0),.lit (.slice none 0 0),.lit (.slice none 0 0)]).flatten by unfold nodesZ;rw[List.map_replicate];rfl]
  exact get_ext H _ 2 (by simp)
 have g3':H1.get (H.next+3)=some (.arr 0 66 [.lit (.int .i64 g),.own (H.next+2) 0 0 n 3]):=by rw[hH1,ext_ext];exact get_ext H _ 3 (by simp)
 clear hH1
 have l0:=get_live g0'
 have l1:=get_live (show (ext H1 [.arr 0 5 (List.replicate n (.lit (.int .u8 0)))]).get H.next=some (.arr 0 25 [.lit (.int .u8 g0),.vec ps.length (drC ps),.vec ord.length (bytesL ord)]) by rw[get_ext_old _ _ _ (by omega)];exact g0')
 refine W.draw 4 [0,1,0,4] Try.mixed (by kernel_rfl) (by kernel_rfl) ?_
 simp only[go_sem,e1,e3,l1]
 refine⟨⟨by omega,by omega⟩,by omega,by omega,?_⟩
 obtain⟨H2,hH2⟩:∃ H2,H2=ext H1 [.arr 0 5 (List.replicate n (.lit (.int .u8 0)))]:=⟨_,rfl⟩
 have gb:H2.get H1.next=some (.arr 0 5 (List.replicate n (.lit (.int .u8 0)))):=by rw[hH2];exact ext1_get_new
 rw[<- hH2]
 refine AApply.clo ((ACall.frame (H:=H2) (args:=[.agg [.own H1.next 0 0 n 1,.lit (.int .u16 0),.vec ord.length (bytesL ord)]]) (args':=[.agg [.vec n (bytesL (List.replicate n 0)),.lit (.int .u16 0),.vec ord.length (bytesL ord)]]) (v':=vecI (permF ord n)) G0_ok rfl (fun i hi _=>?_) (perm_spec n h51.2 ord hol ho8 noH _ fun v H' _ ho=>⟨_,rfl,ho.freshI⟩)).mono fun r H' hr=>?_)
 ·match i,hi with
  | 0,_ =>
   refine .agg rfl fun i hi _=>?_
   match i,hi with
   | 0,_ =>
    have:bytesL (List.replicate n 0)=List.replicate n (.lit (.int .u8 0)):=by unfold bytesL;rw[List.map_replicate]
    rw[this]
    exact Fz.ownRead gb (by simp) fun c hc=>⟨_,List.eq_of_mem_replicate hc⟩
   | 1,_=>exact .lit _
   | 2,_=>exact .vec rfl fun i hi _=>by simp only[bytesL,List.getElem_map];exact .lit _
 obtain⟨rfl,rfl⟩:=hr
 refine⟨trivial,?_⟩
 have hperm:=permF_ok ord n
 obtain⟨P,hP⟩:∃ P,P=permF ord n:=⟨_,rfl⟩
 rw[<- hP]at hperm ⊢
 have n2:H'.next=H1.next+1:=by rw[hH2];rfl
 have F0:FrN H1 H' (H.next+2) (nodesZ (List.replicate n ⟨0,[],[]⟩)):=by
  rw[hH2]
  exact⟨by simp [ext_next],fun id h _=>get_ext_old _ _ _ h,by rw[get_ext_old _ _ _ (by omega)];exact g2'⟩
 clear hH2 gb
 simp only[go_sem,e3]
 have bs:∀ k:Nat,k<=5->(3:Int) ^ k<=243:=fun k hk=>by
  have:(3:Nat) ^ k<=3 ^ 5:=Nat.pow_le_pow_right (by decide) hk
  have h2:((3 ^ k:Nat):Int)<=((3 ^ 5:Nat):Int):=by exact_mod_cast this
  push_cast at h2
  exact h2
 refine W.loop0 151115727451794287100864 (by rfl) (fun ρ Hx=>∃ (i:Nat) (ns:List NodeP) (Wd:Int),ρ 7=lin i/\i<=n/\ns.length=n/\(∀ x∈ns,x.rows=[]/\x.parents=[])/\(∀ j v:Nat,j<i->P[j]?=some (v:Int)->∃ x,ns[v]?=some x/\2<=x.card/\x.card<=3)/\ρ 6=lin Wd/\1<=Wd/\Wd<=3 ^ i/\H'.next<=Hx.next/\FrN H1 Hx (H.next+2) (nodesZ ns)) (fun ρ H=>n - (iv (ρ 7)).toNat) ?_ ?_
 ·simp only[go_sem]
  exact⟨0,_,1,rfl,by omega,by simp,fun x hx=>by obtain rfl:=List.eq_of_mem_replicate hx;exact⟨rfl,rfl⟩,fun j v hj=>by omega,rfl,by omega,by simp,F0⟩
 rintro ρ Hx ⟨i,ns,Wd,h7,hi,hnl,hnz,hnc,h6,hW1,hW3,hnx,hF⟩
 refine W.env fun E2 hE2=>?_
 have f1:E2 1=.ptr H.next 0 0:=by rw[hE2];simp only[go_sem,e1]
 have f2:E2 2=.ptr (H.next+1) 0 0:=by rw[hE2];simp only[go_sem,e2]
 have f3:E2 3=lin n:=by rw[hE2];simp only[go_sem,e3]
 have f4:E2 4=.ptr (H.next+3) 0 0:=by rw[hE2];simp only[go_sem,e4]
 have f5:E2 5=vecI P:=by rw[hE2];simp only[go_sem]
 have f6:E2 6=lin Wd:=by rw[hE2];simp only[go_sem,h6]
 have f7:E2 7=lin i:=by rw[hE2];simp only[go_sem,h7]
 clear hE2
 refine vc_sound _ _ _ (by rfl) ?_
 have hPl:=hperm.len
 have hFn:=hF.1
 have m0:=get_live ((hF.2.1 H.next (by omega) (by omega)).trans g0')
 have m3:=get_live ((hF.2.1 (H.next+3) (by omega) (by omega)).trans g3')
 have mN:=get_live hF.2.2
 have m0':∀ L,(ext Hx L).live H.next 0=some (25,[.lit (.int .u8 g0),.vec ps.length (drC ps),.vec ord.length (bytesL ord)]):=fun L=>(ext_live_old (by omega)).trans m0
 have m3':∀ L,(ext Hx L).live (H.next+3) 0=some (66,[.lit (.int .i64 g),.own (H.next+2) 0 0 n 3]):=fun L=>(ext_live_old (by omega)).trans m3
 have mN':∀ L,(ext Hx L).live (H.next+2) 0=some (56,nodesZ ns):=fun L=>(ext_live_old (by omega)).trans mN
 by_cases hb:(i:Int)<n
 ·obtain⟨pv,hpv⟩:=get_of_lt (l:=P) (i:=i) (by omega)
  have hpr:=hperm.rng pv (List.mem_of_getElem? hpv)
  obtain⟨v,rfl⟩:=Int.eq_ofNat_of_zero_le hpr.1
  obtain⟨x,hx⟩:=get_of_lt (l:=ns) (i:=v) (by omega)
  have hpne:=ne_of_get hpv
  have hz0:=nodesZ_0 hx
  have hzne:=ne_of_get hz0
  have hzl:=nodesZ_len ns
  have hv:(v:Int)<n:=hpr.2
  have hv0:(v:Int) >= 0:=hpr.1
  have hiP:(i:Int)<P.length:=by omega
  have w3:=bs i (by omega)
  have i1:=IntWalk.i64_in ((i:Int)+1) (by omega)
  have i2:=IntWalk.i64_in ((n:Int) - 1) (by omega)
  have i3:=IntWalk.i64_in ((n:Int) - 1 - i) (by omega)
  have i4:=IntWalk.u64_in ((n:Int) - 1 - i) (by omega)
  have fin:∀ (c:Int) (B:Blk),2<=c/\c<=3->v*3+1<=(nodesZ ns).length/\H'.next<=((ext Hx [B]).upd (H.next+2) (.arr 0 56 (setAt (nodesZ ns) (v*3) [.lit (.int .i64 c)]))).next /\
    (∃ (i_1:Nat) (ns_1:List NodeP) (Wd_1:Int),AVal.lit (.int .i64 ((i:Int)+1))=.lit (.int .i64 i_1)/\i_1<=n/\ns_1.length=n/\(∀ x∈ns_1,x.rows=[]/\x.parents=[])/\(∀ j v:Nat,j<i_1->P[j]?=some (v:Int)->∃ x,ns_1[v]?=some x/\2<=x.card/\x.card<=3) /\
     AVal.lit (.int .i64 (Wd*c))=.lit (.int .i64 Wd_1)/\1<=Wd_1/\Wd_1<=3 ^ i_1/\H'.next<=((ext Hx [B]).upd (H.next+2) (.arr 0 56 (setAt (nodesZ ns) (v*3) [.lit (.int .i64 c)]))).next/\FrN H1 ((ext Hx [B]).upd (H.next+2) (.arr 0 56 (setAt (nodesZ ns) (v*3) [.lit (.int .i64 c)]))) (H.next+2) (nodesZ ns_1)) /\
    n - ((i:Int)+1).toNat<n - (iv (ρ 7)).toNat:=by
   intro c B c23
   have p1:2<=Wd*c/\Wd*c<=3 ^ i*3:=by
    constructor
    ·have:=Int.mul_le_mul hW1 c23.1 (by omega) (by omega);omega
    ·exact Int.mul_le_mul hW3 c23.2 (by omega) (by omega)
   have nn:((ext Hx [B]).upd (H.next+2) (.arr 0 56 (setAt (nodesZ ns) (v*3) [.lit (.int .i64 c)]))).next=Hx.next+1:=rfl
   refine⟨by rw[hzl];have:=get_lt hx;omega,by rw[nn];omega,⟨i+1,ns.set v ⟨c,[],[]⟩,Wd*c,rfl,by omega,by simp [hnl],fun z hz=>?_,fun j u hj hu=>?_,rfl,by omega,by rw[Int.pow_succ];omega,by rw[nn];omega,?_⟩,by rw[h7];simp only[lin,iv_int];omega⟩
   ·rcases List.mem_or_eq_of_mem_set hz with h|h
    ·exact hnz z h
    ·rw[h];exact⟨rfl,rfl⟩
   ·by_cases huv:u=v
    ·subst huv
     exact⟨_,List.getElem?_set_self (get_lt hx),by dsimp only;omega,by dsimp only;omega⟩
    ·rw[List.getElem?_set_ne (by omega)]
     refine hnc j u ?_ hu
     rcases Nat.lt_or_ge j i with h|h
     ·exact h
     ·obtain rfl:j=i:=by omega
      rw[hpv]at hu
      exact absurd (by have:=Option.some.inj hu;omega) huv
   ·refine⟨by rw[nn];omega,fun id h1 h2=>by rw[upd_get,if_neg h2,get_ext_old _ _ _ (by omega)];exact hF.2.1 id h1 h2,?_⟩
    rw[upd_get,if_pos rfl,nodesZ_set0 hx (hnz x (List.mem_of_getElem? hx)).1 rfl]
    congr 2
    exact setAt_one (by rw[hzl];have:=get_lt hx;omega)
  by_cases hp:(i:Int)<ps.length
  ·obtain⟨y,hy⟩:=get_of_lt (l:=ps) (i:=i) (by omega)
   have hyo:=hps y (List.mem_of_getElem? hy)
   have hc0:=drC_part hy
   have hc1:i*3+3<=(drC ps).length:=by rw[drC_len];omega
   have hcne:¬ drC ps=[]:=fun h=>by rw[h]at hc1;simp at hc1
   have c8:=hyo.1
   have t1:y.card.tmod 2=y.card % 2:=Int.tmod_eq_emod_of_nonneg c8.1
   have i5:=IntWalk.u8_in (y.card % 2) (by omega)
   have i6:=IntWalk.i64_in (y.card % 2) (by omega)
   have i7:=IntWalk.i64_in (2+y.card % 2) (by omega)
   have c23:2<=(2+y.card % 2)/\(2+y.card % 2)<=3:=by omega
   have p1:2<=Wd*(2+y.card % 2)/\Wd*(2+y.card % 2)<=3 ^ i*3:=by
    constructor
    ·have:=Int.mul_le_mul hW1 c23.1 (by omega) (by omega);omega
    ·exact Int.mul_le_mul hW3 c23.2 (by omega) (by omega)
   have p2:2<=Wd*2/\Wd*2<=3 ^ i*3:=by omega
   have j1:=IntWalk.i64_in (Wd*(2+y.card % 2)) (by omega)
   have j2:=IntWalk.i64_in (Wd*2) (by omega)
   obtain⟨q,hq⟩:∃ q,IntKind.i64.wrap (Wd*(2+y.card % 2)*2 ^ (min ((n:Int) - 1 - i).toNat IntKind.i64.bits))=q:=⟨_,rfl⟩
   have hsh:∀ t o1 o2,binA Try.prog .shl t o1 o2 (.lit (.int .i64 (Wd*(2+y.card % 2)))) (.lit (.int .u64 ((n:Int) - 1 - i)))=some (.lit (.int .i64 q)):=fun t o1 o2=>by rw[bin_shl (by omega),hq]
   by_cases hq1:q > 100
   ·simp only[go_sem,f1,f3,f6,f7,m0',hb,hp,i2,i3,i4,j1,j2,hsh,hc0,hc1,hcne,t1,i6,i7,hq1]
    refine W.draw 7 [0,1,0,0,12,28,0] Try.mixed (by kernel_rfl) (by kernel_rfl) ?_
    simp only[go_sem,f4,f5,f6,f7,m3',mN',i1,hpv,hpne,hv,hv0,hiP]
    exact fin 2 _ (by omega)
   ·simp only[go_sem,f1,f3,f6,f7,m0',hb,hp,i2,i3,i4,j1,hsh,hc0,hc1,hcne,t1,i6,i7,hq1]
    refine W.draw 7 [0,1,0,0,12,28,0] Try.mixed (by kernel_rfl) (by kernel_rfl) ?_
    simp only[go_sem,f4,f5,f6,f7,m3',mN',i1,hpv,hpne,hv,hv0,hiP]
    exact fin (2+y.card % 2) _ c23
  ·have p2:2<=Wd*2/\Wd*2<=3 ^ i*3:=by omega
   have i5:IntKind.i64.wrap (2+IntKind.i64.wrap (Int.tmod 0 2))=2:=by decide
   have j2:=IntWalk.i64_in (Wd*2) (by omega)
   obtain⟨q,hq⟩:∃ q,IntKind.i64.wrap (Wd*2*2 ^ (min ((n:Int) - 1 - i).toNat IntKind.i64.bits))=q:=⟨_,rfl⟩
   have hsh:∀ t o1 o2,binA Try.prog .shl t o1 o2 (.lit (.int .i64 (Wd*2))) (.lit (.int .u64 ((n:Int) - 1 - i)))=some (.lit (.int .i64 q)):=fun t o1 o2=>by rw[bin_shl (by omega),hq]
   by_cases hq1:q > 100
   ·simp only[go_sem,f1,f3,f6,f7,m0',hb,hp,i2,i3,i4,j2,hsh,i5,hq1]
    refine W.draw 7 [0,1,0,0,12,28,0] Try.mixed (by kernel_rfl) (by kernel_rfl) ?_
    simp only[go_sem,f4,f5,f6,f7,m3',mN',i1,hpv,hpne,hv,hv0,hiP]
    exact fin 2 _ (by omega)
   ·simp only[go_sem,f1,f3,f6,f7,m0',hb,hp,i2,i3,i4,j2,hsh,i5,hq1]
    refine W.draw 7 [0,1,0,0,12,28,0] Try.mixed (by kernel_rfl) (by kernel_rfl) ?_
    simp only[go_sem,f4,f5,f6,f7,m3',mN',i1,hpv,hpne,hv,hv0,hiP]
    exact fin 2 _ (by omega)
 ·obtain rfl:n=i:=by omega
  clear bs hW1 hW3 h6 f6
  simp only[go_sem,f3,f7,hb]
  obtain⟨cs,hcs⟩:∃ cs,cs=cardsL ns:=⟨_,rfl⟩
  have csl:cs.length=n:=by rw[hcs,cards_len,hnl]
  have hc23:∀ c∈cs,2<=c/\c<=3:=fun c hc=>by
   obtain⟨v,hv⟩:=List.mem_iff_getElem?.1 hc
   have hvn:=get_lt hv
   have hm:=permF_mem ord n v (by omega)
   rw[<- hP]at hm
   obtain⟨j,hj⟩:=List.mem_iff_getElem?.1 hm
   obtain⟨x,hx,h2,h3⟩:=hnc j v (by have:=get_lt hj;omega) hj
   rw[hcs,cards_get hx]at hv
   cases hv
   exact⟨h2,h3⟩
  have L0:LoopN g cs P n 0 ns:=⟨hnl,hcs.symm,fun j v x _ _ hx=>hnz x (List.mem_of_getElem? hx),fun j v x h=>by omega⟩
  clear hnc hnz h7
  refine W.loop0 98079714615416886934934209737619636635871851991103765504 (by rfl) (fun ρ Hy=>∃ (i:Nat) (ns:List NodeP),ρ 10=lin i/\i<=n/\LoopN g cs P n i ns/\Hx.next<=Hy.next/\FrN H1 Hy (H.next+2) (nodesZ ns)) (fun ρ H=>n - (iv (ρ 10)).toNat) ?_ ?_
  ·simp only[go_sem]
   exact⟨0,ns,rfl,by omega,L0,hF⟩
  clear L0 hF m0 m3 mN m0' m3' mN' hFn hnl hcs f7
  rintro ρ Hy ⟨i,ns,h10,hi,L,hny,hF⟩
  refine W.env fun E hE=>?_
  have e1:E 1=.ptr H.next 0 0:=by rw[hE];simp only[go_sem,f1]
  have e2:E 2=.ptr (H.next+1) 0 0:=by rw[hE];simp only[go_sem,f2]
  have e3:E 3=lin n:=by rw[hE];simp only[go_sem,f3]
  have e4:E 4=.ptr (H.next+3) 0 0:=by rw[hE];simp only[go_sem,f4]
  have e5:E 5=vecI P:=by rw[hE];simp only[go_sem,f5]
  have e10:E 10=lin i:=by rw[hE];simp only[go_sem,h10]
  clear hE
  refine vc_sound _ _ _ (by rfl) ?_
  have hFn:=hF.1
  have m0:=get_live ((hF.2.1 H.next (by omega) (by omega)).trans g0')
  have m1:=get_live ((hF.2.1 (H.next+1) (by omega) (by omega)).trans g1')
  have m3:=get_live ((hF.2.1 (H.next+3) (by omega) (by omega)).trans g3')
  have m0':∀ L,(ext Hy L).live H.next 0=some (25,[.lit (.int .u8 g0),.vec ps.length (drC ps),.vec ord.length (bytesL ord)]):=fun L=>(ext_live_old (by omega)).trans m0
  by_cases hb:(i:Int)<n
  ·obtain⟨pv,hpv⟩:=get_of_lt (l:=P) (i:=i) (by omega)
   have hpr:=hperm.rng pv (List.mem_of_getElem? hpv)
   obtain⟨v,rfl⟩:=Int.eq_ofNat_of_zero_le hpr.1
   have hnl:=L.len
   obtain⟨x,hx⟩:=get_of_lt (l:=ns) (i:=v) (by omega)
   have hpne:=ne_of_get hpv
   have hiP:(i:Int)<P.length:=by omega
   have hP1:∀ k:Nat,k<n->∃ u:Nat,P[k]?=some (u:Int)/\u<n:=fun k hk=>by
    obtain⟨q,hq⟩:=get_of_lt (l:=P) (i:=k) (by omega)
    have:=hperm.rng q (List.mem_of_getElem? hq)
    obtain⟨u,rfl⟩:=Int.eq_ofNat_of_zero_le this.1
    exact⟨u,hq,by omega⟩
   have hpc:∀ (B:List AVal),B=(if (i:Int)<ps.length then (drC ps).drop (i*3) |>.take 3 else [.lit (.int .u8 0),.lit (.int .u8 0),.lit (.slice none 0 0)])->∃ (pc par:Int) (bs:List Int) (wv:AVal),B=[.lit (.int .u8 pc),.lit (.int .u8 par),wv]/\U8 par/\(∀ b∈bs,U8 b)/\(bs.length:Int)<2 ^ 63/\wv.one=true/\wv.cells=[wv]/\∀ H0,Fz (fun _=>True) H0 0 wv (.vec bs.length (bytesL bs)):=by
    rintro B rfl
    by_cases hp:(i:Int)<ps.length
    ·obtain⟨y,hy⟩:=get_of_lt (l:=ps) (i:=i) (by omega)
     have hyo:=hps y (List.mem_of_getElem? hy)
     rw[if_pos hp,drC_part hy]
     exact⟨y.card,y.par,y.w,_,rfl,hyo.2.1,hyo.2.2.2,hyo.2.2.1,rfl,rfl,fun H0=>.vec rfl fun i hi _=>by simp only[bytesL,List.getElem_map];exact .lit _⟩
    ·rw[if_neg hp]
     exact⟨0,0,[],_,rfl,by unfold U8;omega,by simp,by simp,rfl,rfl,fun H0=>.nil⟩
   by_cases hp:(i:Int)<ps.length
   case' pos =>
    have hc1:i*3+3<=(drC ps).length:=by rw[drC_len];omega
    have hcne:¬ drC ps=[]:=fun h=>by rw[h]at hc1;simp at hc1
    rw[if_pos hp]at hpc
    obtain⟨pc,par,bs,wv,hc0,hpar,hbs,hbl,hwo,hwc,hwf⟩:=hpc _ rfl
    simp only[go_sem,e1,e3,e5,e10,m0',hb,hp,hc0,hc1,hcne,hpv,hpne,hiP,hwo,Bool.and_true]
    obtain⟨Hz,hHz⟩:∃ Hz,Hz=ext Hy [.arr 0 110 [.lit (.int .u8 pc),.lit (.int .u8 par),wv]]:=⟨_,rfl⟩
    clear hpc hc0 hc1 hcne hp
   case' neg =>
    rw[if_neg hp]at hpc
    obtain⟨pc,par,bs,wv,hc0,hpar,hbs,hbl,hwo,hwc,hwf⟩:=hpc _ rfl
    simp only[go_sem,e1,e3,e5,e10,m0',hb,hp,hpv,hpne,hiP]
    rw[hc0]
    obtain⟨Hz,hHz⟩:∃ Hz,Hz=ext Hy [.arr 0 110 [.lit (.int .u8 pc),.lit (.int .u8 par),wv]]:=⟨_,rfl⟩
    clear hpc hc0 hp
   all_goals
    rw[<- hHz]
    refine W.env fun E3 hE3=>?_
    have k1:E3 1=.ptr H.next 0 0:=by rw[hE3];simp only[go_sem,e1]
    have k2:E3 2=.ptr (H.next+1) 0 0:=by rw[hE3];simp only[go_sem,e2]
    have k3:E3 3=lin n:=by rw[hE3];simp only[go_sem,e3]
    have k4:E3 4=.ptr (H.next+3) 0 0:=by rw[hE3];simp only[go_sem,e4]
    have k5:E3 5=vecI P:=by rw[hE3];simp only[go_sem,e5]
    have k10:E3 10=lin i:=by rw[hE3];simp only[go_sem,e10]
    have k11:E3 11=.ptr Hy.next 0 0:=by rw[hE3];simp only[go_sem]
    have k12:E3 12=lin v:=by rw[hE3];simp only[go_sem]
    have k13:E3 13=lin 0:=by rw[hE3];simp only[go_sem]
    clear hE3
    have nz:Hz.next=Hy.next+1:=by rw[hHz];rfl
    have z3:Hz.get (H.next+3)=some (.arr 0 66 [.lit (.int .i64 g),.own (H.next+2) 0 0 n 3]):=by rw[hHz,get_ext_old _ _ _ (by omega)];exact(hF.2.1 (H.next+3) (by omega) (by omega)).trans g3'
    have zP:Hz.get Hy.next=some (.arr 0 110 [.lit (.int .u8 pc),.lit (.int .u8 par),wv]):=by rw[hHz];exact ext1_get_new
    have zN:Hz.get (H.next+2)=some (.arr 0 56 (nodesZ ns)):=by rw[hHz,get_ext_old _ _ _ (by omega)];exact hF.2.2
    have zO:∀ id,id<H1.next->id≠H.next+2->Hz.get id=H1.get id:=fun id h1 h2=>by rw[hHz,get_ext_old _ _ _ (by omega)];exact hF.2.1 id h1 h2
    obtain⟨xr,xp⟩:=L.todo i v x (Nat.le_refl _) hpv hx
    have hzl:=nodesZ_len ns
    have hvn:=get_lt hx
    have hcx:(nodesZ ns)[v*3+1]?=some (.lit (.slice none 0 0)):=by
     have:=flat_get (f:=NodeP.cellsZ) (z:=3) cellsZ_len ns v 1 x hx (by omega)
     rw[show (nodesZ ns)[v*3+1]?=_ from this]
     unfold NodeP.cellsZ;rw[if_pos xr];rfl
    clear hHz e1 e2 e3 e4 e5 e10 f1 f2 f3 f4 f5 m0' m0 m1 m3
    have vlt:(v:Int)<n:=hpr.2
    have v0:(v:Int) >= 0:=hpr.1
    have hset:∀ pv pv',setAt ((nodesZ ns).set (v*3+1) pv) (v*3+1) [pv']=(nodesZ ns).set (v*3+1) pv':=fun pv pv'=>by rw[setAt_one (by rw[List.length_set];omega),List.set_set]
    have hgetc:∀ pv,((nodesZ ns).set (v*3+1) pv)[v*3+1]?=some pv:=fun pv=>List.getElem?_set_self (by omega)
    refine W.postWeak (Q':=fun e s2=>e=.exit 4/\∃ pv l,s2.ρ 1=.ptr H.next 0 0/\s2.ρ 2=.ptr (H.next+1) 0 0/\s2.ρ 3=lin n/\s2.ρ 4=.ptr (H.next+3) 0 0/\s2.ρ 5=vecI P/\s2.ρ 10=lin i/\s2.ρ 11=.ptr Hy.next 0 0/\s2.ρ 12=lin v/\PSt Hz s2.H (H.next+2) (v*3+1) (nodesZ ns) pv l/\ParU P i n 0 l) ?_ ?_
    ·refine W.loop0 44601490397061167054908922280959129468035072 (by rfl) (fun ρ Hu=>∃ (u:Nat) (pv:AVal) (l:List Int),ρ 13=lin u/\u<=n/\PSt Hz Hu (H.next+2) (v*3+1) (nodesZ ns) pv l/\ParU P i u 0 l) (fun ρ H=>n - (iv (ρ 13)).toNat) ?_ ?_
     ·simp only[go_sem,k13]
      refine⟨0,.lit (.slice none 0 0),[],rfl,by omega,⟨⟨Nat.le_refl _,fun _ _ _=>rfl,?_⟩,.nil⟩,⟨by simp,by simp,by simp,by simp⟩⟩
      rw[zN,set_get_self hcx]
     rintro ρu Hu ⟨u,pv,l,h13,hu,hS,hL⟩
     refine W.env fun E4 hE4=>?_
     have q3:E4 3=lin n:=by rw[hE4];simp only[go_sem,k3]
     have q4:E4 4=.ptr (H.next+3) 0 0:=by rw[hE4];simp only[go_sem,k4]
     have q5:E4 5=vecI P:=by rw[hE4];simp only[go_sem,k5]
     have q10:E4 10=lin i:=by rw[hE4];simp only[go_sem,k10]
     have q11:E4 11=.ptr Hy.next 0 0:=by rw[hE4];simp only[go_sem,k11]
     have q12:E4 12=lin v:=by rw[hE4];simp only[go_sem,k12]
     have q13:E4 13=lin u:=by rw[hE4];simp only[go_sem,h13]
     have q1:E4 1=.ptr H.next 0 0:=by rw[hE4];simp only[go_sem,k1]
     have q2:E4 2=.ptr (H.next+1) 0 0:=by rw[hE4];simp only[go_sem,k2]
     clear hE4
     refine vc_sound _ _ _ (by rfl) ?_
     by_cases hub:(u:Int)<n
     ·have u1:=IntWalk.i64_in ((u:Int)+1) (by omega)
      simp only[go_sem,q3,q13,hub]
      refine W.loop0 44601490397058710981870980086493729605566464 (by rfl) (fun ρ Hk=>∃ (k:Nat) (pv:AVal) (l:List Int),ρ 14=lin k/\k<=i/\Hu.next<=Hk.next/\PSt Hz Hk (H.next+2) (v*3+1) (nodesZ ns) pv l/\ParU P i u k l) (fun ρ H=>i - (iv (ρ 14)).toNat) ?_ ?_
      ·simp only[go_sem]
       exact⟨0,pv,l,rfl,by omega,hS,hL⟩
      clear hS hL
      rintro ρk Hk ⟨k,pv,l,h14,hk,hnk,hS,hL⟩
      refine W.env fun E5 hE5=>?_
      have r4:E5 4=.ptr (H.next+3) 0 0:=by rw[hE5];simp only[go_sem,q4]
      have r5:E5 5=vecI P:=by rw[hE5];simp only[go_sem,q5]
      have r10:E5 10=lin i:=by rw[hE5];simp only[go_sem,q10]
      have r11:E5 11=.ptr Hy.next 0 0:=by rw[hE5];simp only[go_sem,q11]
      have r12:E5 12=lin v:=by rw[hE5];simp only[go_sem,q12]
      have r13:E5 13=lin u:=by rw[hE5];simp only[go_sem,q13]
      have r14:E5 14=lin k:=by rw[hE5];simp only[go_sem,h14]
      clear hE5
      refine vc_sound _ _ _ (by rfl) ?_
      by_cases hki:(k:Int)<i
      ·obtain⟨hFz,hOz⟩:=hS
       have hFz1:=hFz.1
       obtain⟨a,ha,han⟩:=hP1 k (by omega)
       have hane:=ne_of_get ha
       have hkP:(k:Int)<P.length:=by omega
       have s1:=IntWalk.i64_in ((k:Int)+1) (by omega)
       have s2:=IntWalk.u64_in (k:Int) (by omega)
       have y3:=get_live ((hFz.2.1 (H.next+3) (by omega) (by omega)).trans z3)
       have yP:=get_live ((hFz.2.1 Hy.next (by omega) (by omega)).trans zP)
       have yN:=get_live hFz.2.2
       have hgc:=hgetc pv
       have hcne2:=ne_of_get hgc
       obtain⟨r1,hr1⟩:∃ r1,∀ t o1 o2,binA Try.prog .shr t o1 o2 (.lit (.int .u8 par)) (.lit (.int .u64 (k:Int)))=some (.lit (.int .u8 r1)):=⟨_,fun _ _ _=>bin_shr (by omega)⟩
       obtain⟨r2,hr2⟩:∃ r2,∀ t o1 o2,binA Try.prog .and t o1 o2 (.lit (.int .u8 r1)) (.lit (.int .u8 1))=some (.lit (.int .u8 r2)):=⟨_,fun _ _ _=>bin_and⟩
       have hlen:=own_len hOz (d:=some (.slice 3)) rfl
       rw[lenU_slice,ints_length]at hlen
       by_cases hau:(a:Int)=u
       ·have hau':a=u:=by omega
        by_cases hr:r2=1
        ·by_cases hl3:(l.length:Int)<3
         ·simp only[go_sem,r4,r5,r10,r11,r12,r13,r14,hki,ha,hane,hkP,s2,y3,yP,yN,hgc,hr1,hr2,hlen,hau,hr,hl3,vlt,v0]
          obtain⟨pv',Hj,hA,hO',hn',hpr'⟩:=app_oneG (P:=Try.prog) (H:=Hk) (t:=52) (x:=lin u) (n:=Hk.next+1) Try.underlying52 Try.cells3 Try.zero3 rfl (by rw[Try.bytes3,ints_length];omega) hOz hFz1 rfl
          simp only[lin]at hA
          have keep:∀ id,id<Hz.next->Hj.get id=Hk.get id:=fun id h=>hpr' id (by omega) (hOz.ne h)
          have y3j:=get_live ((keep _ (by omega)).trans ((hFz.2.1 (H.next+3) (by omega) (by omega)).trans z3))
          have yNj:=get_live ((keep _ (by omega)).trans hFz.2.2)
          refine W.draw 12 [0,1,0,0,8,0,56,120,248,0,512,2040] Try.mixed (by kernel_rfl) (by kernel_rfl) ?_
          simp only[go_sem,r4,r12,r13,r14,y3,yN,yNj,hgc,vlt,v0,hA,s1]
          have hdj:djF (if isOwn pv=true then { eff:=idsV pv,rs:=idsV pv++[Hk.next] } else { eff:=[Hk.next+1],rs:=[Hk.next] }) { eff:=[],rs:=[H.next+3] }:=by
           rcases hOz with ⟨hO1,_⟩|⟨id,gg,hO1,hO2,hO3,_⟩
           ·rw[hO1]
            show djF { eff:=[Hk.next+1],rs:=[Hk.next] } _
            exact⟨fun a ha=>by (obtain rfl:a=Hk.next+1:=by simpa using ha);simp;omega,fun a ha=>by simp at ha⟩
           ·rw[hO3]
            show djF { eff:=[id],rs:=[id]++[Hk.next] } _
            exact⟨fun a ha=>by (obtain rfl:a=id:=by simpa using ha);simp;omega,fun a ha=>by simp at ha⟩
          have hpc1:=hO'.cells
          rw[hpc1]
          refine⟨⟨by omega,by omega,by omega,by omega,by omega,by omega,by omega⟩,⟨hdj,hdj⟩,⟨rfl,by simp [hO'.one],by rw[List.length_set];simp;omega⟩,by rw[upd_next];omega,⟨k+1,pv',l++[(u:Int)],rfl,by omega,by rw[upd_next];omega,⟨⟨by rw[upd_next];omega,fun id h1 h2=>by rw[upd_get,if_neg h2,keep _ h1];exact hFz.2.1 id h1 h2,?_⟩,?_⟩,hL.add hperm (by omega) (by rw[ha,hau]) (by omega)⟩,by rw[h14];simp only[lin,iv_int];omega⟩
          ·rw[upd_get,if_pos rfl,hset]
          ·have:=hO'.keep (lo':=Hz.next) (H':=Hj.upd (H.next+2) (.arr 0 56 (setAt ((nodesZ ns).set (v*3+1) pv) (v*3+1) [pv']))) (Nat.le_refl _) (Nat.le_refl _) fun id _ h1 _ _ _=>by rw[upd_get,if_neg (by omega)]
           simpa [ints,lin] using this
         ·simp only[go_sem,r4,r5,r10,r11,r12,r13,r14,hki,ha,hane,hkP,s1,s2,y3,yP,yN,hgc,hr1,hr2,hlen,hau,hr,hl3,vlt,v0]
          exact⟨hnk,⟨k+1,pv,l,rfl,by omega,hnk,⟨hFz,hOz⟩,hL.skip⟩,by rw[h14];simp only[lin,iv_int];omega⟩
        ·simp only[go_sem,r5,r10,r11,r13,r14,hki,ha,hane,hkP,s1,s2,yP,hr1,hr2,hau,hr]
         exact⟨hnk,⟨k+1,pv,l,rfl,by omega,hnk,⟨hFz,hOz⟩,hL.skip⟩,by rw[h14];simp only[lin,iv_int];omega⟩
       ·simp only[go_sem,r5,r10,r13,r14,hki,ha,hane,hkP,s1,hau]
        exact⟨hnk,⟨k+1,pv,l,rfl,by omega,hnk,⟨hFz,hOz⟩,hL.skip⟩,by rw[h14];simp only[lin,iv_int];omega⟩
      ·obtain rfl:k=i:=by omega
       simp only[go_sem,r10,r13,r14,hki,u1]
       exact⟨by have:=hS.1.1;omega,⟨u+1,pv,l,rfl,by omega,hS,hL.next⟩,by rw[h13];simp only[lin,iv_int];omega⟩
     ·obtain rfl:u=n:=by omega
      simp only[go_sem,q1,q2,q3,q4,q5,q10,q11,q12,q13,hub]
      exact⟨pv,l,hS,hL⟩
    ·rintro e s2 ⟨rfl,pv,l,a1,a2,a3,a4,a5,a10,a11,a12,⟨hFz,hOz⟩,hL⟩
     have hFz1:=hFz.1
     obtain⟨rk,hrk,hfz⟩:∃ rk,Hz.next<=rk/\Fz (fun id=>id=rk) s2.H s2.H.next pv (vecI l):=by
      rcases hOz with ⟨hO1,hO2⟩|⟨id,gg,hO1,hO2,hO3,hO4⟩
      ·have:l=[]:=by cases l with
        | nil=>rfl
        | cons b l=>simp [ints]at hO2
       rw[hO1,this]
       exact⟨s2.H.next,hFz1,.nil⟩
      ·refine⟨id,hO1,?_⟩
       rw[hO3,ints_length]
       refine .frz rfl hO4 (by rw[Nat.mul_one,ints_length]) fun j hj h2 h'=>?_
       simp only[Nat.zero_add,ints,List.getElem_map]
       exact .lit _
     have hne2:H.next+2≠rk:=by omega
     refine⟨⟨s2.ρ,s2.H.melt rk (H.next+2) (.arr 0 56 ((nodesZ ns).set (v*3+1) (vecI l)))⟩,WeakS.melt G0_ok hFz.2.2 hne2 (by simp) (fz_set (fz_nodesZ' ns) hfz),Nat.le_refl _,trivial,?_⟩
     obtain⟨Hm,hHm⟩:∃ Hm,Hm=s2.H.melt rk (H.next+2) (.arr 0 56 ((nodesZ ns).set (v*3+1) (vecI l))):=⟨_,rfl⟩
     rw[<- hHm]
     have hFm:FrN Hz Hm (H.next+2) ((nodesZ ns).set (v*3+1) (vecI l)):=by
      rw[hHm]
      exact⟨hFz1,fun id h1 h2=>(melt_other (by omega) h2).trans (hFz.2.1 id h1 h2),melt_ob hne2⟩
     clear hFz hOz hfz hHm hne2 hrk
     simp only[go_sem]
     refine W.env fun E6 hE6=>?_
     have y1:E6 1=.ptr H.next 0 0:=by rw[hE6];simp only[go_sem,a1]
     have y2:E6 2=.ptr (H.next+1) 0 0:=by rw[hE6];simp only[go_sem,a2]
     have y3:E6 3=lin n:=by rw[hE6];simp only[go_sem,a3]
     have y4:E6 4=.ptr (H.next+3) 0 0:=by rw[hE6];simp only[go_sem,a4]
     have y5:E6 5=vecI P:=by rw[hE6];simp only[go_sem,a5]
     have y10:E6 10=lin i:=by rw[hE6];simp only[go_sem,a10]
     have y11:E6 11=.ptr Hy.next 0 0:=by rw[hE6];simp only[go_sem,a11]
     have y12:E6 12=lin v:=by rw[hE6];simp only[go_sem,a12]
     have y15:E6 15=lin 0:=by rw[hE6];simp only[go_sem]
     clear hE6 a1 a2 a3 a4 a5 a10 a11 a12
     have lsm:SmallC (atL cs l):=smallC_of (by rw[atL_len];have:=hL.p3;omega) fun c hc=>by
      unfold atL at hc
      obtain⟨q,hq,rfl⟩:=List.mem_map.1 hc
      have hqr:=hL.rng q hq
      obtain⟨c,hc⟩:=get_of_lt (l:=cs) (i:=q.toNat) (by rw[csl];rcases hqr.2 with h|⟨_,k',h,_⟩<;>omega)
      rw[getD_of_get hc]
      have:=hc23 c (List.mem_of_getElem? hc)
      omega
     have lpos:0<prodL (atL cs l)/\prodL (atL cs l)<=27:=by
      have c3:∀ c∈atL cs l,1<=c/\c<=3:=fun c hc=>by
       unfold atL at hc
       obtain⟨q,hq,rfl⟩:=List.mem_map.1 hc
       have hqr:=hL.rng q hq
       obtain⟨c,hc⟩:=get_of_lt (l:=cs) (i:=q.toNat) (by rw[csl];rcases hqr.2 with h|⟨_,k',h,_⟩<;>omega)
       rw[getD_of_get hc]
       have:=hc23 c (List.mem_of_getElem? hc)
       omega
      have h1:=prodL_pos fun c hc=>(c3 c hc).1
      have h2:=(prodL_le_pow (b:=3) (by omega) fun c hc=>⟨by have:=(c3 c hc).1;omega,(c3 c hc).2⟩).2
      have h3:(3:Int) ^ (atL cs l).length<=3 ^ 3:=by
       have:(3:Nat) ^ (atL cs l).length<=3 ^ 3:=Nat.pow_le_pow_right (by decide) (by rw[atL_len];exact hL.p3)
       exact_mod_cast this
      omega
     obtain⟨R,hR⟩:=Int.eq_ofNat_of_zero_le (show 0<=prodL (atL cs l) by omega)
     have hxc:2<=x.card/\x.card<=3:=hc23 x.card (by rw[<- L.cards];exact List.mem_of_getElem? (cards_get hx))
     have hFm1:=hFm.1
     have w3:Hm.get (H.next+3)=some (.arr 0 66 [.lit (.int .i64 g),.own (H.next+2) 0 0 n 3]):=(hFm.2.1 _ (by omega) (by omega)).trans z3
     have wP:Hm.get Hy.next=some (.arr 0 110 [.lit (.int .u8 pc),.lit (.int .u8 par),wv]):=(hFm.2.1 _ (by omega) (by omega)).trans zP
     obtain⟨C1,hC1⟩:∃ C1,C1=(nodesZ ns).set (v*3+1) (vecI l):=⟨_,rfl⟩
     have c1l:C1.length=ns.length*3:=by rw[hC1,List.length_set,hzl]
     have hcx2:C1[v*3+2]?=some (.lit (.slice none 0 0)):=by
      have:=flat_get (f:=NodeP.cellsZ) (z:=3) cellsZ_len ns v 2 x hx (by omega)
      rw[hC1,List.getElem?_set_ne (by omega),show (nodesZ ns)[v*3+2]?=_ from this]
      unfold NodeP.cellsZ;rw[if_pos xr];rfl
     have hcx0:C1[v*3]?=some (lin x.card):=by rw[hC1,List.getElem?_set_ne (by omega)];exact nodesZ_0 hx
     rw[<- hC1]at hFm
     have hset2:∀ rv rv',setAt (C1.set (v*3+2) rv) (v*3+2) [rv']=C1.set (v*3+2) rv':=fun rv rv'=>by rw[setAt_one (by rw[List.length_set];omega),List.set_set]
     have hgc2:∀ rv,(C1.set (v*3+2) rv)[v*3+2]?=some rv:=fun rv=>List.getElem?_set_self (by omega)
     have hgc0:∀ rv,(C1.set (v*3+2) rv)[v*3]?=some (lin x.card):=fun rv=>by rw[List.getElem?_set_ne (by omega)];exact hcx0
     refine W.postWeak (Q':=fun e s2=>e=.exit 8/\∃ (rv:AVal) (rows:List (List Int)),s2.ρ 1=.ptr H.next 0 0/\s2.ρ 2=.ptr (H.next+1) 0 0/\s2.ρ 3=lin n/\s2.ρ 4=.ptr (H.next+3) 0 0/\s2.ρ 5=vecI P/\s2.ρ 10=lin i/\rows.length=R/\(∀ r∈rows,RowOk g x.card r)/\FrN Hm s2.H (H.next+2) (C1.set (v*3+2) rv)/\OwnG Hm.next s2.H 52 rv (rows.map vecI)) ?_ ?_
     ·refine W.loop0 98079714615372285444537148491336716315054007096738611200 (by rfl) (fun ρ Hr=>∃ (r:Nat) (rv:AVal) (rows:List (List Int)),ρ 15=lin r/\r<=R/\rows.length=r/\(∀ r∈rows,RowOk g x.card r)/\FrN Hm Hr (H.next+2) (C1.set (v*3+2) rv)/\OwnG Hm.next Hr 52 rv (rows.map vecI)) (fun ρ H=>R - (iv (ρ 15)).toNat) ?_ ?_
      ·simp only[go_sem,y15]
       refine⟨0,.lit (.slice none 0 0),[],rfl,by omega,rfl,by simp,⟨Nat.le_refl _,fun _ _ _=>rfl,?_⟩,.nil⟩
       rw[hFm.2.2,set_get_self hcx2]
      rintro ρr Hr ⟨r,rv,rows,h15,hr,hrl,hrows,hFr,hOr⟩
      refine W.env fun E7 hE7=>?_
      have b1:E7 1=.ptr H.next 0 0:=by rw[hE7];simp only[go_sem,y1]
      have b2:E7 2=.ptr (H.next+1) 0 0:=by rw[hE7];simp only[go_sem,y2]
      have b3:E7 3=lin n:=by rw[hE7];simp only[go_sem,y3]
      have b4:E7 4=.ptr (H.next+3) 0 0:=by rw[hE7];simp only[go_sem,y4]
      have b5:E7 5=vecI P:=by rw[hE7];simp only[go_sem,y5]
      have b10:E7 10=lin i:=by rw[hE7];simp only[go_sem,y10]
      have b11:E7 11=.ptr Hy.next 0 0:=by rw[hE7];simp only[go_sem,y11]
      have b12:E7 12=lin v:=by rw[hE7];simp only[go_sem,y12]
      have b15:E7 15=lin r:=by rw[hE7];simp only[go_sem,h15]
      clear hE7
      refine vc_sound _ _ _ (by rfl) ?_
      have hFr1:=hFr.1
      have v3:=get_live ((hFr.2.1 (H.next+3) (by omega) (by omega)).trans w3)
      have vP:=get_live ((hFr.2.1 Hy.next (by omega) (by omega)).trans wP)
      have vN:=get_live hFr.2.2
      have hzp:∀ z∈ns,z.rows=[]->z.parents=[]:=fun z hz hz0=>by
       obtain⟨u,hu⟩:=List.mem_iff_getElem?.1 hz
       have hm:=permF_mem ord n u (by have:=get_lt hu;omega)
       rw[<- hP]at hm
       obtain⟨j,hj⟩:=List.mem_iff_getElem?.1 hm
       rcases Nat.lt_or_ge j i with h|h
       ·exact absurd hz0 (L.done j u z h hj hu).ne
       ·exact(L.todo j u z h hj hu).2
      have hcard:cardsL (ns.set v ⟨x.card,l,rows⟩)=cs:=by
       have h1:cardsL (ns.set v ⟨x.card,l,rows⟩)=(cardsL ns).set v x.card:=by unfold cardsL;rw[List.map_set]
       rw[h1,set_get_self (cards_get hx),L.cards]
      have hpar:parC (ns.set v ⟨x.card,l,rows⟩) ⟨x.card,l,rows⟩=atL cs l:=by unfold parC;rw[hcard]
      have fzN:Fz (fun _=>True) Hr 0 (.agg [lin g,.own (H.next+2) 0 0 n 3]) (netV g (ns.set v ⟨x.card,l,rows⟩)):=by
       refine .agg rfl fun i hi _=>?_
       match i,hi with
       | 0,_=>exact .lit _
       | 1,_ =>
        show Fz _ _ _ _ (.vec (ns.set v ⟨x.card,l,rows⟩).length (nodesC (ns.set v ⟨x.card,l,rows⟩)))
        rw[List.length_set,hnl,nodesC_set (y:=⟨x.card,l,rows⟩) hx rfl]
        refine .frz trivial hFr.2.2 (by rw[List.length_set,List.length_set,nodesC_len];omega) fun j hj h2 h'=>?_
        simp only[Nat.zero_add]
        refine fzl_set (A:=C1) (B:=(nodesC ns).set (v*3+1) (vecI l)) ?_ ?_ j _ _
        ·rw[hC1]
         exact fzl_set (fz_nodesZ ns hzp) (.keepInts _)
        ·have:=hOr.fz (S:=fun _=>True) (nx:=0) (cs':=rows.map vecI) (fun _ _=>trivial) rfl fun i hi _=>by simp only[List.getElem_map];exact .keepInts _
         rw[List.length_map]at this
         exact this
      simp only[go_sem,b4,b12,b15,v3]
      refine AApply.clo ((ACall.frame (H:=Hr) (args:=[.agg [lin g,.own (H.next+2) 0 0 n 3],lin v]) (args':=[netV g (ns.set v ⟨x.card,l,rows⟩),lin v]) (v':=vecI (atL cs l)) G0_ok rfl (fun i hi _=>?_) (parentCards_own g (ns.set v ⟨x.card,l,rows⟩) v ⟨x.card,l,rows⟩ (List.getElem?_set_self hvn) (by rw[List.length_set];omega) (by show (l.length:Int)<_;have:=hL.p3;omega) (fun q hq=>by
        have hqr:=hL.rng q hq
        rw[List.length_set]
        rcases hqr.2 with h|⟨_,k',h,_⟩<;>omega) noH _ fun w Hq _ ho=>⟨_,rfl,by rw[hpar]at ho;exact ho.freshI⟩)).mono fun r1 H1' hr1=>?_)
      ·match i,hi with
       | 0,_=>exact fzN
       | 1,_=>exact .lit _
      obtain⟨rfl,rfl⟩:=hr1
      refine⟨trivial,?_⟩
      simp only[go_sem]
      refine AApply.clo (size02_spec (atL cs l) lsm _ _ ⟨trivial,?_⟩)
      rw[hR]
      by_cases hrR:(r:Int)<R
      ·simp only[go_sem,hrR]
       obtain⟨xn,hxn⟩:=Int.eq_ofNat_of_zero_le (show 0<=x.card by omega)
       have rc:0<=(r:Int)*(x.card+1)/\(r:Int)*(x.card+1)<=27*4:=⟨Int.mul_nonneg (by omega) (by omega),Int.mul_le_mul (by omega) (by omega) (by omega) (by omega)⟩
       have c1:=IntWalk.i64_in (x.card+1) (by omega)
       have c2:=IntWalk.i64_in ((r:Int)*(x.card+1)) (by omega)
       have c3:=IntWalk.i64_in ((r:Int)+1) (by omega)
       have hg2:=hgc2 rv
       have hg0':=hgc0 rv
       have hg2n:=ne_of_get hg2
       obtain⟨row,hrow⟩:∃ row,row=rowF g xn bs ((r:Int)*(x.card+1)):=⟨_,rfl⟩
       have hrok:RowOk g x.card row:=by rw[hrow,hxn];exact rowF_ok hg1.1 (by omega) _ _
       have hpc84:∀ Hq,PCall Try.prog G0 (.clo 50 [] []) [lin g,lin x.card,wv,lin ((r:Int)*(x.card+1))] Hq (vecI row) []:=fun Hq=>by
        refine PCall.mk (fun i hi=>by cases hi) fun H2 _ _=>?_
        refine ACall.frame (H:=H2) (args:=[lin g,lin x.card,wv,lin ((r:Int)*(x.card+1))]) (args':=[lin g,lin xn,.vec bs.length (bytesL bs),lin ((r:Int)*(x.card+1))]) (v':=vecI row) G0_ok rfl (fun i hi _=>?_) (rowD_spec g xn hg1 (by omega) bs hbl hbs _ (by omega) noH _ fun w Hw _ ho=>⟨_,rfl,by rw[hrow];exact ho.freshI⟩)
        match i,hi with
        | 0,_=>exact .lit _
        | 1,_=>rw[hxn];exact .lit _
        | 2,_=>exact hwf _
        | 3,_=>exact .lit _
       obtain⟨rv',Hj,hA,hO',hn',hpr'⟩:=app_oneG (P:=Try.prog) (H:=H1') (t:=36) (x:=vecI row) (n:=H1'.next+1) Try.underlying36 Try.cells52 Try.zero52 rfl (by rw[Try.bytes52,List.length_map];omega) hOr hFr1 rfl
       have keep:∀ id,id<Hm.next->Hj.get id=H1'.get id:=fun id h=>hpr' id (by omega) (hOr.ne h)
       have v3j:=get_live ((keep _ (by omega)).trans ((hFr.2.1 (H.next+3) (by omega) (by omega)).trans w3))
       have vNj:=get_live ((keep _ (by omega)).trans hFr.2.2)
       have hA':appendA Try.prog (ext H1' [.arr 0 52 [.vec row.length (ints row)]]) (H1'.next+1) 36 36 rv (.own H1'.next 0 0 1 1)=some (rv',Hj):=hA
       refine W.draw 31 [0,1,0,0,8,0,56,120,248,0,512,0,2048,0,14336,30720,63488,0,131072,0,0,1048576,0,7340032,15728640,32505856,66060288,133693440,268434944,536870400,1073741816] Try.mixed (by kernel_rfl) (by kernel_rfl) ?_
       simp only[go_sem,b4,b11,b12,b15,v3,vP,vN,hg2,hg0',vlt,v0,c1,c2]
       refine⟨vecI row,[],hpc84 _,?_⟩
       simp only[go_sem,b4,b11,b12,b15,vNj,vlt,v0,c3,hA']
       have hdj:djF (if isOwn rv=true then { eff:=idsV rv,rs:=idsV rv++[H1'.next] } else { eff:=[H1'.next+1],rs:=[H1'.next] }) { eff:=[],rs:=[H.next+3] }:=by
        rcases hOr with ⟨hO1,_⟩|⟨id,gg,hO1,hO2,hO3,_⟩
        ·rw[hO1]
         show djF { eff:=[H1'.next+1],rs:=[H1'.next] } _
         exact⟨fun a ha=>by (obtain rfl:a=H1'.next+1:=by simpa using ha);simp;omega,fun a ha=>by simp at ha⟩
        ·rw[hO3]
         show djF { eff:=[id],rs:=[id]++[H1'.next] } _
         exact⟨fun a ha=>by (obtain rfl:a=id:=by simpa using ha);simp;omega,fun a ha=>by simp at ha⟩
       rw[hO'.cells]
       refine⟨⟨by omega,by omega,by omega,by omega,by omega,by omega,by omega⟩,⟨hdj,hdj⟩,⟨rfl,by simp [hO'.one],by rw[List.length_set,c1l];simp;omega⟩,by rw[upd_next];omega,⟨r+1,rv',rows++[row],rfl,by omega,by simp [hrl],fun q hq=>?_,⟨by rw[upd_next];omega,fun id h1 h2=>by rw[upd_get,if_neg h2,keep _ h1];exact hFr.2.1 id h1 h2,?_⟩,?_⟩,by rw[h15];simp only[lin,iv_int];omega⟩
       ·rcases List.mem_append.1 hq with h|h
        ·exact hrows q h
        ·obtain rfl:=List.mem_singleton.1 h;exact hrok
       ·rw[upd_get,if_pos rfl,hset2]
       ·have:=hO'.keep (lo':=Hm.next) (H':=Hj.upd (H.next+2) (.arr 0 56 (setAt (C1.set (v*3+2) rv) (v*3+2) [rv']))) (Nat.le_refl _) (Nat.le_refl _) fun id _ h1 _ _ _=>by rw[upd_get,if_neg (by omega)]
        simpa using this
      ·simp only[go_sem,b1,b2,b3,b4,b5,b10,hrR]
       exact⟨rv,rows,by omega,hrows,hFr,hOr⟩
     ·rintro e s3 ⟨rfl,rv,rows,a1,a2,a3,a4,a5,a10,hrl,hrows,hFr,hOr⟩
      have hFr1:=hFr.1
      obtain⟨rk,hrk,hfz⟩:∃ rk,Hm.next<=rk/\Fz (fun id=>id=rk) s3.H s3.H.next rv (vecV rows):=by
       rcases hOr with ⟨hO1,hO2⟩|⟨id,gg,hO1,hO2,hO3,hO4⟩
       ·have:rows=[]:=by cases rows with
         | nil=>rfl
         | cons b l=>simp at hO2
        rw[hO1,this]
        exact⟨s3.H.next,hFr1,.nil⟩
       ·refine⟨id,hO1,?_⟩
        rw[hO3,List.length_map]
        refine .frz rfl hO4 (by rw[Nat.mul_one,List.length_map]) fun j hj h2 h'=>?_
        simp only[Nat.zero_add,List.getElem_map]
        exact .keepInts _
      have hne2:H.next+2≠rk:=by omega
      have hC1z:∀ c∈C1,Fz (fun id=>id=rk) s3.H s3.H.next c c:=fun c hc=>by
       rw[hC1]at hc
       rcases List.mem_or_eq_of_mem_set hc with h|h
       ·exact fz_nodesZ' ns c h
       ·rw[h];exact .keepInts _
      refine⟨⟨s3.ρ,s3.H.melt rk (H.next+2) (.arr 0 56 (C1.set (v*3+2) (vecV rows)))⟩,WeakS.melt G0_ok hFr.2.2 hne2 (by simp) (fz_set hC1z hfz),Nat.le_refl _,trivial,?_⟩
      obtain⟨He,hHe⟩:∃ He,He=s3.H.melt rk (H.next+2) (.arr 0 56 (C1.set (v*3+2) (vecV rows))):=⟨_,rfl⟩
      rw[<- hHe]
      have hFe:FrN Hm He (H.next+2) (C1.set (v*3+2) (vecV rows)):=by
       rw[hHe]
       exact⟨hFr1,fun id h1 h2=>(melt_other (by omega) h2).trans (hFr.2.1 id h1 h2),melt_ob hne2⟩
      clear hFr hOr hfz hHe hne2 hrk
      have hFe1:=hFe.1
      have i1:=IntWalk.i64_in ((i:Int)+1) (by omega)
      simp only[go_sem,a10,i1]
      have hiv:∀ j u:Nat,P[j]?=some (u:Int)->u=v->j=i:=fun j u h1 h2=>by
       subst h2
       exact(List.getElem?_inj (get_lt h1) hperm.nd).1 (by rw[h1,hpv])
      have hrne:rows≠[]:=fun h=>by rw[h]at hrl;simp at hrl;omega
      have hdone:DoneN g cs P n i ⟨x.card,l,rows⟩:=⟨⟨hL.pw,fun q hq=>⟨(hL.rng q hq).1,by rcases(hL.rng q hq).2 with h|⟨_,k',h,_⟩<;>omega⟩⟩,hL.p3,hL.rk,by show (rows.length:Int)=_;rw[hrl,hR],hrows,hrne⟩
      refine⟨by omega,⟨i+1,ns.set v ⟨x.card,l,rows⟩,rfl,by omega,⟨by rw[List.length_set];exact hnl,?_,fun j u z hj hu hz=>?_,fun j u z hj hu hz=>?_⟩,by omega,by omega,fun id h1 h2=>?_,?_⟩,by rw[h10];simp only[lin,iv_int];omega⟩
      ·have h1:cardsL (ns.set v ⟨x.card,l,rows⟩)=(cardsL ns).set v x.card:=by unfold cardsL;rw[List.map_set]
       rw[h1,set_get_self (cards_get hx),L.cards]
      ·have huv:¬ u=v:=fun h=>by have:=hiv j u hu h;omega
       rw[List.getElem?_set_ne (by omega)]at hz
       exact L.todo j u z (by omega) hu hz
      ·by_cases huv:u=v
       ·obtain rfl:=hiv j u hu huv
        rw[huv,List.getElem?_set_self hvn]at hz
        cases hz
        exact hdone
       ·rw[List.getElem?_set_ne (by omega)]at hz
        have:j≠i:=fun h=>by
         rw[h,hpv]at hu
         exact huv (by have:=Option.some.inj hu;omega)
        exact L.done j u z (by omega) hu hz
      ·rw[hFe.2.1 id (by omega) h2,hFm.2.1 id (by omega) h2]
       exact zO id h1 h2
      ·rw[hFe.2.2,nodesZ_set (y:=⟨x.card,l,rows⟩) hx rfl hrne,hC1]
  ·obtain rfl:i=n:=by omega
   simp only[go_sem,e2,e3,e4,e10,hb,m1,m3]
   have hnl:=L.len
   have hall:∀ v:Nat,v<ns.length->(v:Int)∈P:=fun v hv=>by rw[hP];exact permF_mem ord i v (by omega)
   have hdn:∀ (v:Nat) (x:NodeP),ns[v]?=some x->∃ j,DoneN g cs P i j x:=fun v x hx=>by
    obtain⟨j,hj⟩:=List.mem_iff_getElem?.1 (hall v (get_lt hx))
    exact⟨j,L.done j v x (by have:=get_lt hj;have:=hperm.len;omega) hj hx⟩
   have hdm:∀ x∈ns,∃ j,DoneN g cs P i j x:=fun x hx=>by
    obtain⟨v,hv⟩:=List.mem_iff_getElem?.1 hx
    exact hdn v x hv
   have ov:Over H (Hy.upd (H.next+1) (.arr 0 66 [.lit (.int .i64 g),.own (H.next+2) 0 0 i 3])):=⟨by rw[upd_next];omega,fun id h=>by rw[upd_get,if_neg (by omega),hF.2.1 id (by omega) (by omega)];exact o1.old id h⟩
   have hz:nodesZ ns=nodesC ns:=nodesZ_eq fun x hx=>(hdm x hx).elim fun j hj=>hj.ne
   have hcl8:∀ x∈ns,2<=x.card/\x.card<=3:=fun x hx=>hc23 x.card (by rw[<- L.cards];exact List.mem_map.2 ⟨x,hx,rfl⟩)
   have hnet:NetOk g ns:=by
    refine⟨hg1,by omega,fun x hx=>?_,?_,acyc_of_order (P:=P) (by rw[hnl];exact hperm) hall fun j v x hj hx q hq=>?_,fun x hx=>?_⟩
    ·obtain⟨j,hj⟩:=hdm x hx
     have:=hcl8 x hx
     exact⟨by omega,by rw[hnl];exact hj.pl⟩
    ·have h2:=(prodL_le_pow (b:=3) (by omega) (l:=cardsL ns) fun c hc=>by have:=hc23 c (by rw[<- L.cards];exact hc);omega).2
     have h3:(3:Int) ^ (cardsL ns).length<=3 ^ 5:=by
      have:(3:Nat) ^ (cardsL ns).length<=3 ^ 5:=Nat.pow_le_pow_right (by decide) (by rw[cards_len];omega)
      exact_mod_cast this
     omega
    ·have hd:=L.done j v x (by have:=get_lt hj;have:=hperm.len;omega) hj hx
     exact⟨(hd.pl.2 q hq).1,hd.rk q hq⟩
    ·obtain⟨j,hj⟩:=hdm x hx
     unfold NodeOk parC
     rw[L.cards]
     exact⟨hj.rl,hj.ro⟩
   rw[<- hnl]
   rw[<- hnl]at ov
   refine FinV.mk ov.next (hK g ns (H.next+2) _ ov (by omega) (by rw[upd_next];omega) ?_ hnet (by omega) fun x hx=>?_)
   ·rw[upd_get,if_neg (by omega),hF.2.2,hz]
   ·obtain⟨j,hj⟩:=hdm x hx
    exact hj.p3
end Go.Proofs
namespace Go.Proofs
open Go.Hx
theorem in20_spec (s v:Nat)(hs:s<2 ^ 64)(H:AHeap)(K:ARes->AHeap->Prop)(hK:K (.ret (.lit (.bool (s.testBit v)))) H):ACall Try.prog G0 41 [bitV s,lin v] H K:=by
 refine ACall.of_body (n:=10) (rs:=[.tmp 4]) Try.func41 rfl rfl rfl (by decide) (by kernel_rfl) (by simp) ?_
 have s1:=fun t x y=>shrB (P:=Try.prog) (t:=t) (x:=x) (y:=y) (k':=.i64) (s:=v) hs
 have s2:=fun t x y=>bit1 (P:=Try.prog) (t:=t) (x:=x) (y:=y) (s:=v) hs
 cases hb:s.testBit v
 ·rw[hb]at hK
  simp only[go_sem,s1,s2,hb]
  exact FinV.mk (Nat.le_refl _) hK
 ·rw[hb]at hK
  simp only[go_sem,s1,s2,hb]
  exact FinV.mk (Nat.le_refl _) hK
def bitsL (s n:Nat):List Int:=((List.range n).filter fun v=>s.testBit v).map fun (v:Nat)=>(v:Int)
theorem bitsL_succ (s n:Nat):bitsL s (n+1)=if s.testBit n=true then bitsL s n++[(n:Int)] else bitsL s n:=by
 unfold bitsL
 rw[List.range_succ,List.filter_append,List.map_append]
 by_cases h:s.testBit n=true
 ·rw[if_pos h];simp [h]
 ·rw[if_neg h];simp [h]
theorem mem_bitsL {s n:Nat}{q:Int}:q∈bitsL s n↔∃ v:Nat,q=v/\v<n/\s.testBit v=true:=by
 unfold bitsL
 simp only[List.mem_map,List.mem_filter,List.mem_range]
 exact⟨fun ⟨v,⟨h1,h2⟩,h3⟩=>⟨v,h3.symm,h1,h2⟩,fun ⟨v,h1,h2,h3⟩=>⟨v,⟨h2,h3⟩,h1.symm⟩⟩
theorem bitsL_pw (s n:Nat):(bitsL s n).Pairwise (·<·):=by
 unfold bitsL
 refine List.Pairwise.map _ (R:=(·<·)) (fun a b h=>by omega) ?_
 exact List.Pairwise.filter _ List.pairwise_lt_range
theorem bitsL_len (s n:Nat):(bitsL s n).length<=n:=by
 unfold bitsL
 rw[List.length_map]
 exact Nat.le_trans (List.length_filter_le _ _) (by simp)
theorem list20_spec (s:Nat)(hs:s<2 ^ 64)(H:AHeap)(K:ARes->AHeap->Prop)(hK:K (.ret (vecI (bitsL s 8))) H):ACall Try.prog G0 25 [bitV s] H K:=by
 refine ACall.clo ⟨_,Try.func25,rfl,rfl⟩ fun hcl=>?_
 refine ACall.of_body (n:=17) (rs:=[.tmp 2]) Try.func25 rfl rfl rfl (by decide) (by kernel_rfl) (by simp) ?_
 simp only[go_sem]
 refine W.loop0 65528 (by rfl) (fun ρ H'=>∃ k:Nat,ρ 4=lin k/\k<=8/\Over H H'/\OwnG H.next H' 3 (ρ 3) (ints (bitsL s k))) (fun ρ H=>8 - (iv (ρ 4)).toNat) ?_ ?_
 ·simp only[go_sem]
  exact⟨0,rfl,by omega,.refl _,.nil⟩
 rintro ρ H' ⟨k,h4,hk,ov,h3⟩
 refine W.env fun E hE=>?_
 have e0:E 0=bitV s:=by rw[hE];simp only[go_sem]
 have e3:E 3=ρ 3:=by rw[hE];simp only[go_sem]
 have e4:E 4=lin k:=by rw[hE];simp only[go_sem,h4]
 clear hE
 refine vc_sound _ _ _ (by rfl) ?_
 by_cases hb:(k:Int)<8
 ·have w1:=IntWalk.i64_in ((k:Int)+1) (by omega)
  have hbl:=bitsL_len s k
  have hsu:=bitsL_succ s k
  simp only[go_sem,e0,e4,hb]
  refine AApply.clo (in20_spec s k hs _ _ ⟨trivial,?_⟩)
  by_cases hbit:s.testBit k=true
  ·obtain⟨v',H2,hA,ov2,hO,hn2,_⟩:=app_int (k:Int) ov h3 (by omega)
   rw[if_pos hbit]at hsu
   simp only[go_sem,e3,e4,hbit,w1,hA]
   exact⟨by have:=ov2.next;omega,⟨k+1,rfl,by omega,ov2,by rw[hsu];exact hO⟩,by rw[h4];simp only[lin,iv_int];omega⟩
  ·rw[if_neg hbit]at hsu
   have hbf:s.testBit k=false:=by simpa using hbit
   simp only[go_sem,e3,e4,hbf,w1]
   exact⟨ov.next,⟨k+1,rfl,by omega,ov,by rw[hsu];exact h3⟩,by rw[h4];simp only[lin,iv_int];omega⟩
 ·obtain rfl:k=8:=by omega
  simp only[go_sem,e3,e4]
  exact FinV.dropO G0_ok hcl ov (h3.fzI fun i hi=>hi) hK
end Go.Proofs
namespace Go.Proofs
open Go.Hx
def ownLen:AVal->Nat
 | .own _ _ _ n _=>n
 | _=>0
theorem own_ownLen {lo:Nat}{H:AHeap}{e:TypeId}{v:AVal}{cs:List AVal}(h:OwnG lo H e v cs):ownLen v=cs.length:=by
 rcases h with ⟨rfl,rfl⟩|⟨_,_,_,_,rfl,_⟩<;>rfl
end Go.Proofs
namespace Go.Proofs
open Go.Hx
def infEC (d:InfP):List AVal:=[.lit (.int .i64 d.grain),.vec d.nodes.length (nodesE d.nodes),.lit (.int .u64 (d.decs:Int)),.vec d.utils.length (utilsC d.utils)]
def infE (d:InfP):AVal:=.agg (infEC d)
theorem infE_eq (d:InfP):infE d=.agg (infEC d):=rfl
theorem decisions20_spec (d:InfP)(hd:d.decs<2 ^ 64)(hl:(d.nodes.length:Int)<2 ^ 39)(H:AHeap)(K:ARes->AHeap->Prop)(hK:K (.ret (vecI (natsI (decL d)))) H):ACall Try.prog G0 16 [infE d] H K:=by
 refine ACall.clo ⟨_,Try.func16,rfl,rfl⟩ fun hcl=>?_
 refine ACall.of_body (n:=21) (rs:=[.tmp 2]) Try.func16 rfl rfl rfl (by decide) (by kernel_rfl) (by simp) ?_
 simp only[go_sem,infE_eq,infEC]
 obtain⟨H1,hH1⟩:∃ H1,H1=ext H [.arr 0 34 [.lit (.int .i64 d.grain),.vec d.nodes.length (nodesE d.nodes),.lit (.int .u64 (d.decs:Int)),.vec d.utils.length (utilsC d.utils)]]:=⟨_,rfl⟩
 have l1:=get_live (show H1.get H.next=some (.arr 0 34 [.lit (.int .i64 d.grain),.vec d.nodes.length (nodesE d.nodes),.lit (.int .u64 (d.decs:Int)),.vec d.utils.length (utilsC d.utils)]) by rw[hH1];exact get_ext0 ..)
 have n1:H1.next=H.next+1:=by rw[hH1];rfl
 have o1:Over H H1:=by rw[hH1];exact .ext _ _
 rw[<- hH1]
 refine W.loop0 1048568 (by rfl) (fun ρ H'=>∃ k:Nat,ρ 4=lin k/\k<=d.nodes.length/\Over H1 H'/\OwnG H1.next H' 3 (ρ 3) (ints (natsI (decK d.decs k)))) (fun ρ H=>d.nodes.length - (iv (ρ 4)).toNat) ?_ ?_
 ·simp only[go_sem]
  exact⟨0,rfl,by omega,.refl _,.nil⟩
 rintro ρ H' ⟨k,h4,hk,ov,h3⟩
 refine W.env fun E hE=>?_
 have e1:E 1=.ptr H.next 0 0:=by rw[hE];simp only[go_sem]
 have e3:E 3=ρ 3:=by rw[hE];simp only[go_sem]
 have e4:E 4=lin k:=by rw[hE];simp only[go_sem,h4]
 clear hE
 refine vc_sound _ _ _ (by rfl) ?_
 have l2:=(ov.live (g:=0) (by omega:H.next<H1.next)).trans l1
 by_cases hb:(k:Int)<d.nodes.length
 ·have w1:=IntWalk.i64_in ((k:Int)+1) (by omega)
  have hbl:(natsI (decK d.decs k)).length<=k:=by simp only[natsI,List.length_map];exact decK_len
  have hsu:=decK_succ d.decs k
  simp only[go_sem,e1,e4,l2,hb]
  refine AApply.clo (in20_spec d.decs k hd _ _ ⟨trivial,?_⟩)
  by_cases hbit:d.decs.testBit k=true
  ·obtain⟨v',H2,hA,ov2,hO,hn2,_⟩:=app_int (k:Int) ov h3 (by omega)
   rw[if_pos hbit]at hsu
   simp only[go_sem,e3,e4,hbit,w1,hA]
   exact⟨ov2.next,⟨k+1,rfl,by omega,ov2,by rw[hsu,show natsI (decK d.decs k++[k])=natsI (decK d.decs k)++[(k:Int)] by simp [natsI]];exact hO⟩,by rw[h4];simp only[lin,iv_int];omega⟩
  ·rw[if_neg hbit]at hsu
   have hbf:d.decs.testBit k=false:=by simpa using hbit
   simp only[go_sem,e3,e4,hbf,w1]
   exact⟨ov.next,⟨k+1,rfl,by omega,ov,by rw[hsu];exact h3⟩,by rw[h4];simp only[lin,iv_int];omega⟩
 ·have hke:k=d.nodes.length:=by omega
  rw[hke]at h3
  simp only[go_sem,e1,e3,e4,l2,hb]
  exact FinV.dropO G0_ok hcl (o1.trans ov) (h3.fzI fun i hi=>by omega) hK
end Go.Proofs
namespace Go.Proofs
open Go.Hx
set_option maxHeartbeats 1000000 in
theorem parentSets_own (g:Int)(ns:List NodeP)(hl:(ns.length:Int)<2 ^ 39)(hp:∀ x∈ns,(x.parents.length:Int)<2 ^ 39/\∀ q∈x.parents,0<=q/\q<64)(H:AHeap)(K:ARes->AHeap->Prop)
  (hK:∀ v H',Over H H'->OwnG H.next H' 31 v ((setsL ns).map bitV)->K (.ret v) H'):ACall Try.prog G0 24 [netV g ns] H K:=by
 refine ACall.clo ⟨_,Try.func24,rfl,rfl⟩ fun hcl=>?_
 refine ACall.of_body (n:=43) (rs:=[.tmp 2]) Try.func24 rfl rfl rfl (by decide) (by kernel_rfl) (by simp) ?_
 simp only[go_sem,netV,nodesV]
 obtain⟨H1,hH1⟩:∃ H1,H1=ext H [.arr 0 66 [.lit (.int .i64 g),.vec ns.length (nodesC ns)]]:=⟨_,rfl⟩
 have l1:H1.live H.next 0=some (66,[.lit (.int .i64 g),.vec ns.length (nodesC ns)]):=by rw[hH1];exact get_live (get_ext0 ..)
 have n1:H1.next=H.next+1:=by rw[hH1];rfl
 have o1:Over H H1:=by rw[hH1];exact .ext _ _
 rw[<- hH1]
 refine W.loop0 4398046511096 (by rfl) (fun ρ H'=>∃ k:Nat,ρ 4=lin k/\k<=ns.length/\ρ 1=.ptr H.next 0 0/\Over H1 H'/\OwnG H1.next H' 31 (ρ 3) (((setsL ns).take k).map bitV)) (fun ρ H=>ns.length - (iv (ρ 4)).toNat) ?_ ?_
 ·simp only[go_sem]
  exact⟨0,rfl,by omega,.refl _,.nil⟩
 rintro ρ H' ⟨k,h4,hk,h1,ov,h3⟩
 refine vc_sound _ _ _ (by rfl) ?_
 have l2:=(ov.live (g:=0) (by omega:H.next<H1.next)).trans l1
 by_cases hb:(k:Int)<ns.length
 ·obtain⟨x,hx⟩:=get_of_lt (l:=ns) (i:=k) (by omega)
  have hne:=nodesC_ne hx
  have e1:=nodesC_1 hx
  obtain⟨xl,xr⟩:=hp x (List.mem_of_getElem? hx)
  simp only[go_sem,h4,h1,l2,hb]
  refine W.loop0 274877890656 (by rfl) (fun ρ' H2=>H2=H'/\∃ j:Nat,ρ' 6=lin j/\j<=x.parents.length/\ρ' 5=bitV (setN (x.parents.take j))) (fun ρ' H=>x.parents.length - (iv (ρ' 6)).toNat) ?_ ?_
  ·simp only[go_sem]
   exact⟨0,rfl,by omega,rfl⟩
  rintro ρ' H2 ⟨rfl,j,h6,hj,h5⟩
  refine vc_sound _ _ _ (by rfl) ?_
  by_cases hb2:(j:Int)<x.parents.length
  ·obtain⟨q,hq⟩:=get_of_lt (l:=x.parents) (i:=j) (by omega)
   obtain⟨q0,q1⟩:=xr q (List.mem_of_getElem? hq)
   obtain⟨u,rfl⟩:=Int.eq_ofNat_of_zero_le q0
   have hne2:=ne_of_get hq
   have w1:=IntWalk.u64_in (u:Int) (by omega)
   have w2:=IntWalk.i64_in ((j:Int)+1) (by omega)
   have b1:setN (x.parents.take j)<2 ^ 64:=setN_lt fun p hp=>by have:=xr p (List.mem_of_mem_take hp);omega
   have s1:=fun t x y=>shlB (P:=Try.prog) (t:=t) (x:=x) (y:=y) (k':=.u64) (s:=u) (by omega)
   have s2:=fun t x y=>orB (P:=Try.prog) (t:=t) (x:=x) (y:=y) (b:=2 ^ u) b1 (Nat.pow_lt_pow_right (by decide) (by omega))
   simp only[go_sem,h4,h1,l2,hb,hne,e1,h6,h5,hb2,hq,hne2,w1,w2,s1,s2]
   exact⟨⟨j+1,by simp,by omega,by rw[take_succ_get hq,setN_snoc];rfl⟩,by omega⟩
  ·obtain⟨v',H3,hA,ov2,hO,hn2,_⟩:=app_bits (setN x.parents) ov h3 (by simp [setsL];omega)
   have w1:=IntWalk.i64_in ((k:Int)+1) (by omega)
   rw[List.take_of_length_le (by omega)]at h5
   simp only[go_sem,h4,h1,l2,hb,hne,e1,h6,h5,hb2,w1,hA]
   refine⟨by have:=ov2.next;omega,⟨k+1,by simp,by omega,ov2,?_⟩,by omega⟩
   rw[take_succ_get (setsL_get hx)]
   exact hO
 ·simp only[go_sem,h4,h1,l2,hb]
  rw[List.take_of_length_le (by simp [setsL];omega)]at h3
  exact FinV.mk (o1.trans ov).next (hK _ _ (o1.trans ov) (h3.keep (by omega) (Nat.le_refl _) fun _ _ _ _ _ _=>rfl))
set_option maxHeartbeats 1000000 in
theorem order05_own (ps:List Nat)(hl:ps.length<=60)(hp:∀ p∈ps,p<2 ^ 64)(r:List Nat)(htp:topo ps=some r)(H:AHeap)(K:ARes->AHeap->Prop)(hK:∀ v H',Over H H'->OwnG H.next H' 3 v (ints (natsI r))->K (.ret v) H'):ACall Try.prog G0 51 [vecB ps] H K:=by
 refine ACall.clo ⟨_,Try.func51,rfl,rfl⟩ fun hcl=>?_
 refine ACall.of_body (n:=40) (rs:=[.tmp 2]) Try.func51 rfl rfl rfl (by decide) (by kernel_rfl) (by simp) ?_
 simp only[go_sem]
 refine W.loop0 549755813880 (by rfl) (fun ρ H'=>∃ (out:List Nat) (done:Nat),ρ 4=bitV done/\done<2 ^ 64/\out.length<=ps.length/\Over H H'/\OwnG H.next H' 3 (ρ 3) (ints (natsI out))/\topoGo ps (ps.length - out.length) out done=some r) (fun ρ H=>ps.length - ownLen (ρ 3)) ?_ ?_
 ·simp only[go_sem]
  exact⟨[],0,rfl,by decide,by simp,.refl _,.nil,htp⟩
 rintro ρ H' ⟨out,done,h4,hd,ho,ov,h3,ht⟩
 refine W.env fun E hE=>?_
 have e0:E 0=vecB ps:=by rw[hE];simp only[go_sem]
 have e3:E 3=ρ 3:=by rw[hE];simp only[go_sem]
 have e4:E 4=bitV done:=by rw[hE];simp only[go_sem,h4]
 clear hE
 refine vc_sound _ _ _ (by rfl) ?_
 have hlen:=own_len h3 (d:=some (.slice 3)) rfl
 have hol:=own_ownLen h3
 have nl:(natsI out).length=out.length:=by simp [natsI]
 rw[lenU_slice,ints_length,nl]at hlen
 rw[ints_length,nl]at hol
 by_cases hb:(out.length:Int)<ps.length
 ·simp only[go_sem,e0,e3,hlen,hb]
  have hk1:ps.length - out.length=(ps.length - (out.length+1))+1:=by omega
  refine W.loop0 549755811896 (by rfl) (fun ρ2 H2=>H2=H'/\∃ j:Nat,ρ2 5=lin j/\j<=ps.length/\ρ2 3=ρ 3/\ρ2 4=bitV done/\∀ v,v<j->freeB ps done v=false) (fun ρ2 H=>ps.length - (iv (ρ2 5)).toNat) ?_ ?_
  ·simp only[go_sem,e3,e4]
   exact⟨0,rfl,by omega,fun v h=>absurd h (Nat.not_lt_zero _)⟩
  rintro ρ2 H2 ⟨rfl,j,h5,hj,h3',h4',hno⟩
  refine W.env fun E2 hE2=>?_
  have f0:E2 0=vecB ps:=by rw[hE2];simp only[go_sem,e0]
  have f3:E2 3=ρ 3:=by rw[hE2];simp only[go_sem,h3']
  have f4:E2 4=bitV done:=by rw[hE2];simp only[go_sem,h4']
  have f5:E2 5=lin j:=by rw[hE2];simp only[go_sem,h5]
  clear hE2
  refine vc_sound _ _ _ (by rfl) ?_
  by_cases hb2:(j:Int)<ps.length
  ·obtain⟨p,hpj⟩:=get_of_lt (l:=ps) (i:=j) (by omega)
   have hpj':(ps.map bitV)[j]?=some (bitV p):=by rw[List.getElem?_map,hpj];rfl
   have hne:=ne_of_get hpj'
   have s3:=fun t x y=>subB (P:=Try.prog) (t:=t) (x:=x) (y:=y) (a:=p) (b:=done)
   have w1:=IntWalk.i64_in ((j:Int)+1) (by omega)
   have w2:=IntWalk.u64_in (j:Int) (by omega)
   have cont:freeB ps done j=false->∀ v,v<j+1->freeB ps done v=false:=fun h v hv=>by
    rcases Nat.lt_or_ge v j with h'|h'
    ·exact hno v h'
    ·obtain rfl:v=j:=by omega
     exact h
   have fe:freeB ps done j=(!done.testBit j && decide (subN p done=0)):=by unfold freeB;rw[getD_of_get hpj]
   simp only[go_sem,f0,f4,f5,hb2]
   refine AApply.clo (in05_spec done j hd (by omega) _ _ ⟨trivial,?_⟩)
   cases hbit:done.testBit j
   rotate_left
   ·simp only[go_sem,f3,f4,f5,w1]
    exact⟨⟨j+1,rfl,by omega,cont (by rw[fe,hbit];rfl)⟩,by rw[h5];simp only[lin,iv_int];omega⟩
   by_cases hz:subN p done=0
   rotate_left
   ·have hz':¬ ((subN p done:Nat):Int)=0:=by omega
    simp only[go_sem,f0,f3,f4,f5,hb2,hpj',hne,s3,hz',w1]
    exact⟨⟨j+1,rfl,by omega,cont (by rw[fe,hbit];simp [hz])⟩,by rw[h5];simp only[lin,iv_int];omega⟩
   have hz':((subN p done:Nat):Int)=0:=by omega
   have hnx:nextT ps done=some j:=find_range (by omega) hno (by rw[fe,hbit];simp [hz])
   obtain⟨v',H3,hA,ov2,hO,hn2,_⟩:=app_int (j:Int) ov h3 (by simp [natsI];omega)
   have b2:(2:Nat) ^ j<2 ^ 64:=Nat.pow_lt_pow_right (by decide) (by omega)
   have s4:=fun t x y=>shlB (P:=Try.prog) (t:=t) (x:=x) (y:=y) (k':=.u64) (s:=j) (by omega)
   have s5:=fun t x y=>orB (P:=Try.prog) (t:=t) (x:=x) (y:=y) hd b2
   simp only[go_sem,f0,f3,f4,f5,hb2,hpj',hne,s3,s4,s5,hz',w2,hA]
   have hO':OwnG H.next H3 3 v' (ints (natsI (out++[j]))):=by
    have e:natsI (out++[j])=natsI out++[(j:Int)]:=by simp [natsI]
    rw[e];exact hO
   have hol':=own_ownLen hO'
   have nl':(natsI (out++[j])).length=out.length+1:=by simp [natsI]
   rw[ints_length,nl']at hol'
   refine⟨ov2.next,⟨out++[j],done ||| 2 ^ j,rfl,Nat.or_lt_two_pow hd b2,by simp;omega,ov2,hO',?_⟩,by rw[hol,hol'];omega⟩
   rw[<- ht,hk1]
   conv=>rhs;unfold topoGo
   rw[hnx,List.length_append]
   rfl
  ·have hnn:nextT ps done=none:=find_range_none fun v hv=>hno v (by omega)
   rw[hk1]at ht
   unfold topoGo at ht
   rw[hnn]at ht
   cases ht
 ·simp only[go_sem,e0,e3,hlen,hb]
  have e:ps.length - out.length=0:=by omega
  rw[e]at ht
  unfold topoGo at ht
  cases ht
  exact FinV.mk ov.next (hK _ _ ov h3)
theorem freshB {lo:Nat}{H:AHeap}{e:TypeId}{v:AVal}{l:List Nat}(h:OwnG lo H e v (l.map bitV)):Fresh H v (vecB l):=by
 rcases h with ⟨rfl,h⟩|⟨id,g,h1,h2,rfl,h4⟩
 ·have:l=[]:=by cases l with
   | nil=>rfl
   | cons a l=>simp at h
  subst this
  exact .nil
 ·have e:vecB l=.vec (l.map bitV).length (l.map bitV):=by rw[List.length_map];rfl
  rw[e]
  refine .own h4 (by simp) fun j hj h2 h'=>?_
  simp only[Nat.zero_add,List.getElem_map]
  exact .lit _
theorem order20_own (g:Int)(ns:List NodeP)(hl:ns.length<=8)(hp:∀ x∈ns,(x.parents.length:Int)<2 ^ 39/\∀ q∈x.parents,0<=q/\q<(ns.length:Int))(r:List Nat)(htp:topo (setsL ns)=some r)(H:AHeap)(K:ARes->AHeap->Prop)
  (hK:∀ v H',Over H H'->OwnG H.next H' 3 v (ints (natsI r))->K (.ret v) H'):ACall Try.prog G0 23 [netV g ns] H K:=by
 have hsl:(setsL ns).length=ns.length:=by simp [setsL]
 have hs64:∀ p∈setsL ns,p<2 ^ 64:=fun p h=>Nat.lt_of_lt_of_le (setsL_lt (n:=ns.length) (fun x hx q hq=>(hp x hx).2 q hq) p h) (Nat.pow_le_pow_right (by decide) (by omega))
 refine ACall.of_body (n:=6) (rs:=[.tmp 2]) Try.func23 rfl rfl rfl (by decide) (by kernel_rfl) (by simp) ?_
 simp only[go_sem,netV,nodesV]
 refine AApply.clo (parentSets_spec g ns (by omega) (fun x hx=>⟨(hp x hx).1,fun q hq=>by have:=(hp x hx).2 q hq;omega⟩) _ _ ⟨trivial,?_⟩)
 simp only[go_sem]
 refine AApply.clo (order05_own (setsL ns) (by omega) hs64 r htp _ _ fun v H' ov ho=>⟨trivial,?_⟩)
 simp only[go_sem]
 have o1:Over H H':=(Over.ext _ _).trans ov
 exact FinV.mk o1.next (hK _ _ o1 (ho.keep (by simp [ext_next]) (Nat.le_refl _) fun _ _ _ _ _ _=>rfl))
end Go.Proofs
namespace Go.Proofs
open Go.Hx
structure UtD where
 vars:Int
 w:List Int
def I8 (n:Int):Prop:=-128<=n/\n<128
def i8L (l:List Int):List AVal:=l.map fun n=>.lit (.int .i8 n)
theorem i8L_get {l:List Int}{k:Nat}{a:Int}(h:l[k]?=some a):(i8L l)[k]?=some (.lit (.int .i8 a)):=by unfold i8L;rw[List.getElem?_map,h];rfl
def UtD.cells (x:UtD):List AVal:=[.lit (.int .u8 x.vars),.vec x.w.length (i8L x.w)]
def UtD.Ok (x:UtD):Prop:=U8 x.vars/\(x.w.length:Int)<2 ^ 63/\∀ b∈x.w,I8 b
def bit8 (p:Int)(k:Nat):Bool:=decide (IntKind.u8.wrap (((BitVec.ofInt IntKind.u8.bits (p.fdiv (2 ^ (min ((k:Int)).toNat IntKind.u8.bits))) &&& BitVec.ofInt IntKind.u8.bits 1).toNat:Nat):Int)=1)
def utVars (p:Int):Nat->List Int
 | 0=>[]
 | v+1=>if bit8 p v=true/\(utVars p v).length<3 then utVars p v++[(v:Int)] else utVars p v
theorem utVars_ok (p:Int):∀ n:Nat,(utVars p n).Pairwise (·<·)/\(∀ q∈utVars p n,0<=q/\q<n)/\(utVars p n).length<=3
 | 0=>⟨by simp [utVars],by simp [utVars],by simp [utVars]⟩
 | n+1=>by
  obtain⟨h1,h2,h3⟩:=utVars_ok p n
  unfold utVars
  split
  ·rename_i h
   refine⟨List.pairwise_append.2 ⟨h1,by simp,fun a ha b hb=>by obtain rfl:=List.mem_singleton.1 hb;exact(h2 a ha).2⟩,fun q hq=>?_,by simp;omega⟩
   rcases List.mem_append.1 hq with h4|h4
   ·have:=h2 q h4;omega
   ·obtain rfl:=List.mem_singleton.1 h4;omega
  ·exact⟨h1,fun q hq=>by have:=h2 q hq;omega,h3⟩
def utilF (p:UtD)(ns:List NodeP):UtilP:=⟨utVars p.vars ns.length,(List.range (prodL (atL (cardsL ns) (utVars p.vars ns.length))).toNat).map fun (i:Nat)=>if p.w.length=0 then 0 else (p.w.getD (i % p.w.length) 0).tmod 101⟩
theorem utilF_ok (p:UtD)(ns:List NodeP)(hc:∀ x∈ns,1<=x.card):UtilOk ns (utilF p ns):=by
 obtain⟨h1,h2,h3⟩:=utVars_ok p.vars ns.length
 refine⟨⟨h1,h2⟩,?_,fun x hx=>?_⟩
 ·have hp:1<=prodL (atL (cardsL ns) (utVars p.vars ns.length)):=prodL_pos fun c h=>by
   unfold atL at h
   obtain⟨q,hq,rfl⟩:=List.mem_map.1 h
   have:=h2 q hq
   obtain⟨x,hx⟩:=get_of_lt (l:=ns) (i:=q.toNat) (by omega)
   rw[getD_of_get (cards_get hx)]
   exact hc x (List.mem_of_getElem? hx)
  show ((List.map _ _).length:Int)=prodL (atL (cardsL ns) (utVars p.vars ns.length))
  rw[List.length_map,List.length_range]
  omega
 ·unfold utilF at hx
  obtain⟨i,_,rfl⟩:=List.mem_map.1 hx
  split
  ·omega
  ·have h:=Int.natAbs_tmod (p.w.getD (i % p.w.length) 0) 101
   have h2:=Nat.mod_lt (p.w.getD (i % p.w.length) 0).natAbs (show (101:Int).natAbs > 0 by decide)
   have h3:(101:Int).natAbs=101:=rfl
   rw[h3]at h h2
   omega
end Go.Proofs
namespace Go.Proofs
open Go.Hx
set_option maxHeartbeats 1000000 in
theorem pieceOf_own (p:UtD)(hp:p.Ok)(g:Int)(ns:List NodeP)(h5:1<=ns.length/\ns.length<=8)(hc:∀ x∈ns,1<=x.card/\x.card<=4)(H:AHeap)(K:ARes->AHeap->Prop)
  (hK:∀ v1 v2 H',Over H H'->OwnG H.next H' 3 v1 (ints (utilF p ns).vars)->OwnG H.next H' 3 v2 (ints (utilF p ns).w)->K (.ret (.agg [v1,v2])) H'):ACall Try.prog G0 26 [.agg p.cells,netV g ns] H K:=by
 refine ACall.of_body (n:=70) (rs:=[.cell 4 60]) Try.func26 rfl rfl rfl (by decide) (by kernel_rfl) (by simp) ?_
 simp only[go_sem,netV,nodesV,UtD.cells]
 obtain⟨H1,hH1⟩:∃ H1,H1=ext H [.arr 0 74 [.lit (.int .u8 p.vars),.vec p.w.length (i8L p.w)],.arr 0 66 [.lit (.int .i64 g),.vec ns.length (nodesC ns)],.arr 0 60 [.lit (.slice none 0 0),.lit (.slice none 0 0)],.arr 0 60 [.lit (.slice none 0 0),.lit (.slice none 0 0)]]:=⟨_,rfl⟩
 have g0:H1.get H.next=some (.arr 0 74 [.lit (.int .u8 p.vars),.vec p.w.length (i8L p.w)]):=by rw[hH1];exact get_ext0 ..
 have g1:H1.get (H.next+1)=some (.arr 0 66 [.lit (.int .i64 g),.vec ns.length (nodesC ns)]):=by rw[hH1];exact get_ext H _ 1 (by simp)
 have g2:H1.get (H.next+2)=some (.arr 0 60 [.lit (.slice none 0 0),.lit (.slice none 0 0)]):=by rw[hH1];exact get_ext H _ 2 (by simp)
 have g3:H1.get (H.next+3)=some (.arr 0 60 [.lit (.slice none 0 0),.lit (.slice none 0 0)]):=by rw[hH1];exact get_ext H _ 3 (by simp)
 have n1:H1.next=H.next+4:=by rw[hH1];rfl
 have o1:Over H H1:=by rw[hH1];exact .ext _ _
 rw[<- hH1]
 clear hH1
 obtain⟨cs,hcs⟩:∃ cs,cs=cardsL ns:=⟨_,rfl⟩
 have smk:∀ k,k<=ns.length->SmallC (atL cs (utVars p.vars k)):=fun k hk=>by
  obtain⟨h1,h2,h3⟩:=utVars_ok p.vars k
  refine smallC_of (by rw[atL_len];omega) fun c h=>?_
  unfold atL at h
  obtain⟨q,hq,rfl⟩:=List.mem_map.1 h
  have:=h2 q hq
  obtain⟨x,hx⟩:=get_of_lt (l:=ns) (i:=q.toNat) (by omega)
  rw[hcs,getD_of_get (cards_get hx)]
  exact hc x (List.mem_of_getElem? hx)
 refine W.loop0 8796093021376 (by rfl) (fun ρ Hx=>∃ (k:Nat) (v1:AVal),ρ 7=lin k/\k<=ns.length/\ρ 6=lin (prodL (atL cs (utVars p.vars k)))/\H1.next<=Hx.next/\(∀ id,id<H1.next->id≠H.next+3->Hx.get id=H1.get id)/\Hx.get (H.next+3)=some (.arr 0 60 [v1,.lit (.slice none 0 0)])/\OwnG H1.next Hx 3 v1 (ints (utVars p.vars k))) (fun ρ H=>ns.length - (iv (ρ 7)).toNat) ?_ ?_
 ·simp only[go_sem]
  exact⟨0,_,rfl,by omega,rfl,g3,.nil⟩
 rintro ρ Hx ⟨k,v1,h7,hk,h6,hnx,hold,hu,hO⟩
 refine W.env fun E hE=>?_
 have e2:E 2=.ptr H.next 0 0:=by rw[hE];simp only[go_sem]
 have e3:E 3=.ptr (H.next+1) 0 0:=by rw[hE];simp only[go_sem]
 have e4:E 4=.ptr (H.next+2) 0 0:=by rw[hE];simp only[go_sem]
 have e5:E 5=.ptr (H.next+3) 0 0:=by rw[hE];simp only[go_sem]
 have e6:E 6=lin (prodL (atL cs (utVars p.vars k))):=by rw[hE];simp only[go_sem,h6]
 have e7:E 7=lin k:=by rw[hE];simp only[go_sem,h7]
 clear hE
 refine vc_sound _ _ _ (by rfl) ?_
 have l0:=get_live ((hold _ (by omega) (by omega)).trans g0)
 have l1:=get_live ((hold _ (by omega) (by omega)).trans g1)
 have l3:=get_live hu
 by_cases hb:(k:Int)<ns.length
 ·obtain⟨x,hx⟩:=get_of_lt (l:=ns) (i:=k) (by omega)
  have hne:=nodesC_ne hx
  have c0:=nodesC_0 hx
  have w1:=IntWalk.i64_in ((k:Int)+1) (by omega)
  obtain⟨r1,hr1⟩:∃ r1,p.vars.fdiv (2 ^ (min ((k:Int)).toNat IntKind.u8.bits))=r1:=⟨_,rfl⟩
  obtain⟨r2,hr2⟩:∃ r2,IntKind.u8.wrap (((BitVec.ofInt IntKind.u8.bits r1 &&& BitVec.ofInt IntKind.u8.bits 1).toNat:Nat):Int)=r2:=⟨_,rfl⟩
  have s1:∀ t o1 o2,binA Try.prog .shr t o1 o2 (.lit (.int .u8 p.vars)) (.lit (.int .i64 (k:Int)))=some (.lit (.int .u8 r1)):=fun t o1 o2=>by rw[bin_shr (by omega),hr1]
  have s2:∀ t o1 o2,binA Try.prog .and t o1 o2 (.lit (.int .u8 r1)) (.lit (.int .u8 1))=some (.lit (.int .u8 r2)):=fun t o1 o2=>by rw[bin_and,hr2]
  have hb8:bit8 p.vars k=decide (r2=1):=by unfold bit8;rw[hr1,hr2]
  have hlen:=own_len hO (d:=some (.slice 3)) rfl
  rw[lenU_slice,ints_length]at hlen
  obtain⟨u1,u2,u3⟩:=utVars_ok p.vars k
  have hstep:utVars p.vars (k+1)=if bit8 p.vars k=true/\(utVars p.vars k).length<3 then utVars p.vars k++[(k:Int)] else utVars p.vars k:=rfl
  by_cases hr:r2=1
  ·by_cases h3:((utVars p.vars k).length:Int)<3
   ·rw[if_pos ⟨by rw[hb8,decide_eq_true hr],by omega⟩]at hstep
    obtain⟨v',H3,hA,hO3,hn3,hp3⟩:=app_oneG (P:=Try.prog) (H:=Hx) (t:=52) (x:=lin k) (n:=Hx.next+1) Try.underlying52 Try.cells3 Try.zero3 rfl (by rw[Try.bytes3,ints_length];omega) hO hnx rfl
    simp only[lin]at hA
    have keep:∀ id,id<H1.next->H3.get id=Hx.get id:=fun id h=>hp3 id (by omega) (hO.ne h)
    have l1j:=get_live ((keep _ (by omega)).trans ((hold _ (by omega) (by omega)).trans g1))
    have l3j:=get_live ((keep _ (by omega)).trans hu)
    have hvc:=hO3.cells
    have hvo:=hO3.one
    have l1u:∀ b,(H3.upd (H.next+3) b).live (H.next+1) 0=some (66,[.lit (.int .i64 g),.vec ns.length (nodesC ns)]):=fun b=>(live_upd_other (by omega)).trans l1j
    have hpr:prodL (atL cs (utVars p.vars (k+1)))=prodL (atL cs (utVars p.vars k))*x.card:=by
     rw[hstep]
     unfold atL
     rw[List.map_append,hcs]
     show prodL (_++[(cardsL ns).getD ((k:Int)).toNat 0])=_
     rw[prodL_snoc,Int.toNat_natCast,getD_of_get (cards_get hx)]
    have hps:=(smk (k+1) (by omega)).prod
    rw[hpr]at hps
    have w2:=IntWalk.i64_in (prodL (atL cs (utVars p.vars k))*x.card) (by omega)
    simp only[go_sem,e2,e3,e5,e6,e7,l0,l1,l3,l3j,hb,s1,s2,hr,hlen,h3,w1,w2,hne,c0,hA,hvc,hvo,l1u]
    refine⟨by rw[upd_next];omega,⟨k+1,v',rfl,by omega,by rw[hpr],by rw[upd_next];omega,fun id h1 h2=>by rw[upd_get,if_neg h2,keep _ h1];exact hold id h1 h2,by rw[upd_get,if_pos rfl],?_⟩,by rw[h7];simp only[lin,iv_int];omega⟩
    rw[hstep]
    have:=hO3.keep (lo':=H1.next) (H':=H3.upd (H.next+3) (.arr 0 60 [v',.lit (.slice none 0 0)])) (Nat.le_refl _) (Nat.le_refl _) fun id _ h1 _ _ _=>by rw[upd_get,if_neg (by omega)]
    simpa [ints,lin] using this
   ·rw[if_neg (by omega)]at hstep
    simp only[go_sem,e2,e3,e5,e6,e7,l0,l1,l3,hb,s1,s2,hr,hlen,h3,w1]
    exact⟨hnx,⟨k+1,v1,rfl,by omega,by rw[hstep],hnx,hold,hu,by rw[hstep];exact hO⟩,by rw[h7];simp only[lin,iv_int];omega⟩
  ·rw[if_neg (by rw[hb8,decide_eq_false hr];simp)]at hstep
   simp only[go_sem,e2,e3,e6,e7,l0,l1,hb,s1,s2,hr,w1]
   exact⟨hnx,⟨k+1,v1,rfl,by omega,by rw[hstep],hnx,hold,hu,by rw[hstep];exact hO⟩,by rw[h7];simp only[lin,iv_int];omega⟩
 ·have hke:k=ns.length:=by omega
  simp only[go_sem,e3,e7,l1,hb]
  rw[hke]at hO e6
  obtain⟨R,hR⟩:=Int.eq_ofNat_of_zero_le (smk ns.length (by omega)).prod.1
  have hR2:=(smk ns.length (by omega)).prod.2
  rw[hR]at e6 hR2
  have hwl:(utilF p ns).w=(List.range R).map fun (i:Nat)=>if p.w.length=0 then 0 else (p.w.getD (i % p.w.length) 0).tmod 101:=by
   unfold utilF
   rw[<- hcs,hR]
   rfl
  have wget:∀ (i:Nat) (x:Int),i<R->(if p.w.length=0 then 0 else (p.w.getD (i % p.w.length) 0).tmod 101)=x->(utilF p ns).w[i]?=some x:=fun i x hi hx=>by
   rw[hwl,List.getElem?_map,List.getElem?_range hi,Option.map_some,hx]
  have wlen:(utilF p ns).w.length=R:=by rw[hwl];simp
  refine W.loop0 590295801562612630272 (by rfl) (fun ρ H2=>∃ (i:Nat) (v2:AVal),ρ 8=lin i/\i<=R/\Hx.next<=H2.next/\(∀ id,id<Hx.next->id≠H.next+3->H2.get id=Hx.get id)/\H2.get (H.next+3)=some (.arr 0 60 [v1,v2])/\OwnG Hx.next H2 3 v2 (ints ((utilF p ns).w.take i))) (fun ρ H=>R - (iv (ρ 8)).toNat) ?_ ?_
  ·simp only[go_sem]
   exact⟨0,_,rfl,by omega,hu,.nil⟩
  rintro ρ2 H2 ⟨i,v2,h8,hi,hn2,hold2,hu2,hO2⟩
  refine W.env fun E2 hE2=>?_
  have f2:E2 2=.ptr H.next 0 0:=by rw[hE2];simp only[go_sem,e2]
  have f4:E2 4=.ptr (H.next+2) 0 0:=by rw[hE2];simp only[go_sem,e4]
  have f5:E2 5=.ptr (H.next+3) 0 0:=by rw[hE2];simp only[go_sem,e5]
  have f6:E2 6=lin R:=by rw[hE2];simp only[go_sem,e6]
  have f8:E2 8=lin i:=by rw[hE2];simp only[go_sem,h8]
  clear hE2
  refine vc_sound _ _ _ (by rfl) ?_
  have o02:∀ id,id<H1.next->id≠H.next+3->H2.get id=H1.get id:=fun id h1 h2=>(hold2 id (by omega) h2).trans (hold id h1 h2)
  have m0:=get_live ((o02 _ (by omega) (by omega)).trans g0)
  have m3:=get_live hu2
  by_cases hb2:(i:Int)<R
  ·have w1:=IntWalk.i64_in ((i:Int)+1) (by omega)
   have hlen:=own_len hO2 (d:=some (.slice 3)) rfl
   rw[lenU_slice,ints_length]at hlen
   have tl:((utilF p ns).w.take i).length=i:=by rw[List.length_take,wlen];omega
   have app:∀ x:Int,(utilF p ns).w[i]?=some x->∃ v' H3,appendA Try.prog (ext H2 [.arr 0 3 [.lit (.int .i64 x)]]) (H2.next+1) 52 52 v2 (.own H2.next 0 0 1 1)=some (v',H3)/\v'.cells=[v']/\v'.one=true/\H3.live (H.next+3) 0=some (60,[v1,v2])/\H2.next<=H3.next /\
     ∀ b,b=.arr 0 60 [v1,v']->(∀ id,id<Hx.next->id≠H.next+3->(H3.upd (H.next+3) b).get id=Hx.get id)/\(H3.upd (H.next+3) b).get (H.next+3)=some (.arr 0 60 [v1,v'])/\OwnG Hx.next (H3.upd (H.next+3) b) 3 v' (ints ((utilF p ns).w.take (i+1))):=fun x hx=>by
    obtain⟨v',H3,hA,hO3,hn3,hp3⟩:=app_oneG (P:=Try.prog) (H:=H2) (t:=52) (x:=lin x) (n:=H2.next+1) Try.underlying52 Try.cells3 Try.zero3 rfl (by rw[Try.bytes3,ints_length];omega) hO2 hn2 rfl
    simp only[lin]at hA
    have keep:∀ id,id<Hx.next->H3.get id=H2.get id:=fun id h=>hp3 id (by omega) (hO2.ne h)
    refine⟨v',H3,hA,hO3.cells,hO3.one,get_live ((keep _ (by omega)).trans hu2),hn3,fun b hb=>⟨fun id h1 h2=>by rw[upd_get,if_neg h2,keep _ h1];exact hold2 id h1 h2,by rw[upd_get,if_pos rfl,hb],?_⟩⟩
    rw[take_succ_get hx]
    have:=hO3.keep (lo':=Hx.next) (H':=H3.upd (H.next+3) b) (Nat.le_refl _) (Nat.le_refl _) fun id _ h1 _ _ _=>by rw[upd_get,if_neg (by omega)]
    simpa [ints,lin] using this
   by_cases hz:(0:Int)<p.w.length
   ·have hzn:¬ (p.w.length:Int)=0:=by omega
    have m1:(i:Int).tmod p.w.length=((i % p.w.length:Nat):Int):=by rw[Int.tmod_eq_emod_of_nonneg (by omega)];rfl
    have m2:=Nat.mod_lt i (show p.w.length > 0 by omega)
    obtain⟨q,hq⟩:∃ q,q=i % p.w.length:=⟨_,rfl⟩
    rw[<- hq]at m1 m2
    have hq0:(q:Int) >= 0:=by omega
    have hql:(q:Int)<p.w.length:=by omega
    obtain⟨b,hbg⟩:=get_of_lt (l:=p.w) (i:=q) m2
    have b8:=hp.2.2 b (List.mem_of_getElem? hbg)
    have hbg':=i8L_get hbg
    have hbne:=ne_of_get hbg'
    unfold I8 at b8
    have w4:IntKind.i64.wrap b=b:=IntWalk.i64_in _ (by omega)
    have tb:-9223372036854775808<=b.tmod 101/\b.tmod 101<9223372036854775808:=by
     have h:=Int.natAbs_tmod b 101
     have h2:=Nat.mod_lt b.natAbs (show (101:Int).natAbs > 0 by decide)
     have h3:(101:Int).natAbs=101:=rfl
     rw[h3]at h h2
     omega
    have w5:IntKind.i64.wrap (b.tmod 101)=b.tmod 101:=IntWalk.i64_in _ (by omega)
    obtain⟨v',H3,hA,hvc,hvo,l3,hn3,fin⟩:=app (b.tmod 101) (wget i _ (by omega) (by rw[if_neg (by omega),<- hq,getD_of_get hbg]))
    simp only[go_sem,f2,f6,f8,m0,hb2,hz]
    refine W.draw 7 [0,1,0,0,8,24,60] Try.mixed (by kernel_rfl) (by kernel_rfl) ?_
    simp only[go_sem,f2,f5,f8,m0,m3,hzn,m1,hq0,hql,hbg',hbne,w1,w4,hA,hvc,hvo,l3]
    refine⟨by rw[upd_next];omega,⟨i+1,v',rfl,by omega,by rw[upd_next];omega,(fin _ rfl).1,(fin _ rfl).2.1,(fin _ rfl).2.2⟩,by rw[h8];simp only[lin,iv_int];omega⟩
   ·have hzn:p.w.length=0:=by omega
    obtain⟨v',H3,hA,hvc,hvo,l3,hn3,fin⟩:=app 0 (wget i _ (by omega) (by rw[if_pos hzn]))
    simp only[go_sem,f2,f5,f6,f8,m0,m3,hb2,hz,w1,hA,hvc,hvo,l3]
    refine⟨by rw[upd_next];omega,⟨i+1,v',rfl,by omega,by rw[upd_next];omega,(fin _ rfl).1,(fin _ rfl).2.1,(fin _ rfl).2.2⟩,by rw[h8];simp only[lin,iv_int];omega⟩
  ·have hie:i=R:=by omega
   have m2:=get_live ((o02 _ (by omega) (by omega)).trans g2)
   have hO1:OwnG H1.next H2 3 v1 (ints (utVars p.vars ns.length)):=hO.keep (Nat.le_refl _) hn2 fun id _ h1 h3 _ _=>hold2 id h3 (by omega)
   have v1o:=hO1.one
   have v2o:=hO2.one
   have v1c:=hO1.cells
   have v2c:=hO2.cells
   rw[List.take_of_length_le (by omega)]at hO2
   simp only[go_sem,f4,f5,f6,f8,m2,m3,hb2,v1o,v2o]
   have k1:=hO1.keep (lo':=H.next) (H':=H2.upd (H.next+2) (.arr 0 60 [v1,v2])) (by omega) (by rw[upd_next];omega) fun id _ h1 _ _ _=>by rw[upd_get,if_neg (by omega)]
   have k2:=hO2.keep (lo':=H.next) (H':=H2.upd (H.next+2) (.arr 0 60 [v1,v2])) (by omega) (by rw[upd_next];omega) fun id _ h1 _ _ _=>by rw[upd_get,if_neg (by omega)]
   refine FinV.mk (by rw[upd_next];omega) (hK v1 v2 _ ⟨by rw[upd_next];omega,fun id h=>?_⟩ k1 k2)
   rw[upd_get,if_neg (by omega),o02 id (by omega) (by omega)]
   exact o1.old id h
end Go.Proofs
