/- Own work: contracts. -/
import Derived.Test.YtakancljiekbhaaConG
import Derived.Test.YtakancljiekbhaaConE
import Derived.Test.YtakancljiekbhaaLibB
import Derived.Test.YtakancljiekbhaaLibC
import Derived.Test.YtakancljiekbhaaConB
import Derived.Test.YtakancljiekbhaaConA
import Derived.Test.YtakancljiekbhaaConC
set_option linter.all false
set_option maxRecDepth 100000
namespace Go.Proofs
open Go.Hx
theorem CI {g:Int}{ns:List NodeP}(h:NetOk g ns)(h6:ns.length<=6){wh:Nat}(hw:wh<=46656000000){xs:List (List Int)}(h40:xs.length<=64)(hr:∀ r∈xs,r.length=ns.length){k m:Nat}(hk:k<=xs.length)(hm:m<=2 ^ 74):(bh 18446744073709551616 (eH ns wh (xs.take k)*m)).length<2 ^ 36:=by
 have h1:=Cq h h6 hw (xs.take k) fun r hr'=>hr r (List.mem_of_mem_take hr');rw[List.length_take]at h1;have h2:(2 ^ 74) ^ (min k xs.length)<=(2 ^ 74) ^ 64:=Nat.pow_le_pow_right (by decide) (by omega);have h3:eH ns wh (xs.take k)*m<=(2 ^ 74) ^ 64*2 ^ 74:=Nat.mul_le_mul (by omega) hm;have h4:=ue (B:=18446744073709551616) (k:=76) (by decide) (Nat.lt_of_le_of_lt h3 (by decide));exact Nat.lt_of_le_of_lt h4 (by decide)
set_option maxHeartbeats 4000000 in
theorem yp (g:Int)(ns:List NodeP)(hok:NetOk g ns)(gm:Int)(ms:List NodeP)(hm1:1<=gm/\gm<=60)(hm8:ms.length<=6)(cs:List Int)(xs:List (List Int))(h6:ns.length<=6)(h40:xs.length<=64)(hrow:∀ r∈xs,r.length=ns.length)(H:AHeap)(K:ARes->AHeap->Prop)
  (hK:∀ sl Hx,Over H Hx->aB H.next Hx 104 sl ((bh 18446744073709551616 (eH ns (gm.toNat ^ ms.length) xs)).map aW)->(bh 18446744073709551616 (eH ns (gm.toNat ^ ms.length) xs)=[]->sl=.lit (.slice none 0 0))->K (.ret sl) Hx):
  ae Try.prog G0 50 [aO g ns,aO gm ms,cO cs xs] H K:=by
 refine ae.cD (n:=38) (rs:=[.tmp 6]) Try.func50 rfl rfl rfl (by decide) (by simp) ?_;refine W.seq (ab _ _ _ (by rfl) ?_);simp only[go_sem,aO,cM,cO,aE];refine W.seq (ab _ _ _ (by rfl) ?_);simp only[go_sem];refine W.seq (ab _ _ _ (by rfl) ?_);simp only[go_sem];obtain⟨H1,hH1⟩:∃ H1,H1=ext H ([.arr 0 35 [aa g,.vec ns.length (ar ns)],.arr 0 35 [aa gm,.vec ms.length (ar ms)],.arr 0 42 [.vec cs.length (ints cs),.vec xs.length (xs.map af)],.arr 0 104 [.lit (.int .u64 1)],.arr 0 100 [.own (H.next+3) 0 0 1 1]]):=⟨_,rfl⟩
 have n1:H1.next=H.next+5:=by rw[hH1];rfl
 have o1:Over H H1:=by rw[hH1];exact .ext _ _
 obtain⟨wh,hwh⟩:∃ q,q=gm.toNat ^ ms.length:=⟨_,rfl⟩
 have hwb:wh<=46656000000:=by
  have a1:gm.toNat ^ ms.length<=60 ^ ms.length:=Nat.pow_le_pow_left (by omega) _;have a2:(60:Nat) ^ ms.length<=60 ^ 6:=Nat.pow_le_pow_right (by decide) hm8;have a3:(60:Nat) ^ 6=46656000000:=by decide
  omega
 rw[<- hwh]at hK;have b0:H1.get H.next=some (.arr 0 35 [aa g,.vec ns.length (ar ns)]):=by rw[hH1];exact dp ..
 have b1:H1.get (H.next+1)=some (.arr 0 35 [aa gm,.vec ms.length (ar ms)]):=by rw[hH1];exact bg H _ 1 (by simp)
 have b2:H1.get (H.next+2)=some (.arr 0 42 [.vec cs.length (ints cs),.vec xs.length (xs.map af)]):=by rw[hH1];exact bg H _ 2 (by simp)
 have b3:H1.get (H.next+3)=some (.arr 0 104 (([1]:List Nat).map aW)):=by rw[hH1];exact bg H _ 3 (by simp)
 have b4:H1.get (H.next+4)=some (.arr 0 100 [.own (H.next+3) 0 0 1 1]):=by rw[hH1];exact bg H _ 4 (by simp)
 refine W.env fun E hE=>?_;have e3:E 3=.ptr H.next 0 0:=by rw[hE];simp only[go_sem]
 have e4:E 4=.ptr (H.next+1) 0 0:=by rw[hE];simp only[go_sem]
 have e5:E 5=.ptr (H.next+2) 0 0:=by rw[hE];simp only[go_sem]
 have e7:E 7=.ptr (H.next+4) 0 0:=by rw[hE];simp only[go_sem]
 have e8:E 8=.clo 52 [.ptr (H.next+4) 0 0] []:=by rw[hE];simp only[go_sem]
 clear hE;show W _ _ _ _ _ _ ⟨E,ext H ([.arr 0 35 [aa g,.vec ns.length (ar ns)],.arr 0 35 [aa gm,.vec ms.length (ar ms)],.arr 0 42 [.vec cs.length (ints cs),.vec xs.length (xs.map af)],.arr 0 104 [.lit (.int .u64 1)],.arr 0 100 [.own (H.next+3) 0 0 1 1]])⟩;rw[<- hH1];clear hH1;have l0:=ak b0;have l2:=ak b2;refine W.seq (ab _ _ _ (by rfl) ?_);simp only[go_sem,e3,e5,l0,l2];refine aw.clo (xW g ns hok cs xs (by omega) hrow _ _ ⟨trivial,?_⟩);obtain⟨M,hM⟩:∃ M,M=xs.map (dG ns):=⟨_,rfl⟩
 have Ml:M.length=xs.length:=by rw[hM,List.length_map]
 rw[<- hM];have il:=aZ M;rw[Ml]at il;simp only[go_sem,Ml];refine W.env fun E1 hE1=>?_;have f4:E1 4=.ptr (H.next+1) 0 0:=by rw[hE1];simp only[go_sem,e4]
 have f7:E1 7=.ptr (H.next+4) 0 0:=by rw[hE1];simp only[go_sem,e7]
 have f8:E1 8=.clo 52 [.ptr (H.next+4) 0 0] []:=by rw[hE1];simp only[go_sem,e8]
 have f15:E1 15=.vec xs.length (ints M):=by rw[hE1,<- Ml];simp only[go_sem]
 have f16:E1 16=aa xs.length:=by rw[hE1,<- Ml];simp only[go_sem]
 have f17:E1 17=aa 0:=by rw[hE1];simp only[go_sem]
 clear hE1;have one:bh 18446744073709551616 (eH ns wh (xs.take 0))=[1]:=by
  have e:aS 18446744073709551616 [1]=1:=rfl;have:=ub (B:=18446744073709551616) (by decide) (l:=[1]) ⟨fun d hd=>by rw[List.mem_singleton.1 hd];decide,fun d hd=>by cases hd;decide⟩;rw[e]at this;exact this.symm
 refine W.aI 137438823424 (by kernel_rfl) (fun ρ Hx=>∃ (k:Nat) (sl:AVal),ρ 17=aa k/\k<=xs.length/\H1.next<=Hx.next/\(∀ id,id<H.next+3->Hx.get id=H1.get id)/\Hx.get (H.next+4)=some (.arr 0 100 [sl])/\aB (H.next+3) Hx 104 sl ((bh 18446744073709551616 (eH ns wh (xs.take k))).map aW)/\(bh 18446744073709551616 (eH ns wh (xs.take k))=[]->sl=.lit (.slice none 0 0))) (fun ρ Hx=>xs.length - (iv (ρ 17)).toNat) ?_ ?_
 ·exact⟨0,_,f17,by omega,Nat.le_refl _,fun _ _=>rfl,b4,by rw[one];exact .inr ⟨H.next+3,0,by omega,(by show H.next+3<H1.next;omega),rfl,b3⟩,fun e=>by rw[one]at e;cases e⟩
 rintro ρ Hx ⟨k,sl,h17,hk,hnx,hold,gx,hO,hz⟩;refine W.env fun E2 hE2=>?_;have a4:E2 4=.ptr (H.next+1) 0 0:=by rw[hE2];simp only[go_sem,f4]
 have a7:E2 7=.ptr (H.next+4) 0 0:=by rw[hE2];simp only[go_sem,f7]
 have a8:E2 8=.clo 52 [.ptr (H.next+4) 0 0] []:=by rw[hE2];simp only[go_sem,f8]
 have a15:E2 15=.vec xs.length (ints M):=by rw[hE2];simp only[go_sem,f15]
 have a16:E2 16=aa xs.length:=by rw[hE2];simp only[go_sem,f16]
 have a17:E2 17=aa k:=by rw[hE2];simp only[go_sem,h17]
 clear hE2;by_cases hb:(k:Int)<xs.length;rotate_left
 ·have so:=hO.one;have sc:=hO.cells;refine ab _ _ _ (by rfl) ?_;simp only[go_sem,a16,a17,hb];refine ab _ _ _ (by rfl) ?_;simp only[go_sem,a7,ak gx];obtain rfl:k=xs.length:=by omega
  rw[List.take_length]at hO hz;exact av.mk (by omega) (hK sl Hx ⟨by omega,fun id h=>(hold id (by omega)).trans (o1.old id h)⟩ (hO.keep (by omega) (Nat.le_refl _) fun _ _ _ _ _ _=>rfl) hz)
 obtain⟨r,hrk⟩:=get_of_lt (l:=xs) (i:=k) (by omega);have hrl:=hrow r (List.mem_of_getElem? hrk);have mb:=xZ hok h6 hrl;have mp:=yf hok hrl;obtain⟨m,hm⟩:∃ m:Nat,dG ns r=m:=⟨(dG ns r).toNat,by omega⟩
 have hMk:M[k]?=some (m:Int):=by rw[hM,List.getElem?_map,hrk,<- hm];rfl
 have hMn:=aN hMk;have u1:=IntWalk.u64_in (m:Int) (by omega);obtain⟨gn,hgn⟩:∃ q:Nat,gm=q:=⟨gm.toNat,by omega⟩
 have u2:=IntWalk.u64_in (gn:Int) (by omega);have w1:=IntWalk.i64_in ((k:Int)+1) (by omega);have key:=fun (j:Nat)=>CI hok h6 hwb h40 hrow (k:=k) (m:=j) hk;refine W.seq (ab _ _ _ (by rfl) ?_);simp only[go_sem,a16,a17,hb];refine W.seq (ab _ _ _ (by rfl) ?_);simp only[go_sem];refine W.seq (W.block ?_);refine W.seq (ab _ _ _ (by rfl) ?_);simp only[go_sem,a15,a17,hMk,hMn,hb];refine W.seq (ab _ _ _ (by rfl) ?_);simp only[go_sem,a8,u1];refine aw.clo (uk (lo:=H.next+3) (b:=H.next+4) (by omega) (jx (by decide) _) (by have:=key 1 (by decide);rwa [Nat.mul_one]at this) Hx (by omega) (by omega) gx hO hz _ fun H2 sl2 hn2 old2 g2 hO2 hz2=>⟨trivial,?_⟩);rw[gO (by decide)]at hO2 hz2;obtain⟨V,hV⟩:∃ V,V=eH ns wh (xs.take k):=⟨_,rfl⟩
 rw[<- hV]at hO2 hz2 key;have hold2:∀ id,id<H.next+3->H2.get id=H1.get id:=fun id h=>(old2 id (by omega) (by omega) (aB.po hO h)).trans (hold id h);have c1:=ak ((hold2 _ (by omega)).trans b1);simp only[go_sem];refine W.seq (ab _ _ _ (by rfl) ?_);simp only[go_sem,a4,c1];refine W.env fun E3 hE3=>?_;have d4:E3 4=.ptr (H.next+1) 0 0:=by rw[hE3];simp only[go_sem,a4]
 have d8:E3 8=.clo 52 [.ptr (H.next+4) 0 0] []:=by rw[hE3];simp only[go_sem,a8]
 have d17:E3 17=aa k:=by rw[hE3];simp only[go_sem,a17]
 have d27:E3 27=aa ms.length:=by rw[hE3];simp only[go_sem]
 have d28:E3 28=aa 0:=by rw[hE3];simp only[go_sem]
 clear hE3;refine W.block ?_;refine W.aI 68451041280 (by kernel_rfl) (fun ρ Hy=>∃ (j:Nat) (sl:AVal),ρ 28=aa j/\j<=ms.length/\H2.next<=Hy.next/\(∀ id,id<H.next+3->Hy.get id=H1.get id)/\Hy.get (H.next+4)=some (.arr 0 100 [sl])/\aB (H.next+3) Hy 104 sl ((bh 18446744073709551616 (V*(m*gn ^ j))).map aW)/\(bh 18446744073709551616 (V*(m*gn ^ j))=[]->sl=.lit (.slice none 0 0))) (fun ρ Hy=>ms.length - (iv (ρ 28)).toNat) ?_ ?_
 ·exact⟨0,_,d28,by omega,Nat.le_refl _,hold2,g2,by rw[Nat.pow_zero,Nat.mul_one];exact hO2,by rw[Nat.pow_zero,Nat.mul_one];exact hz2⟩
 rintro ρ2 Hy ⟨j,sly,h28,hj,hny,holdy,gy,hOy,hzy⟩;refine W.env fun E4 hE4=>?_;have k4:E4 4=.ptr (H.next+1) 0 0:=by rw[hE4];simp only[go_sem,d4]
 have k8:E4 8=.clo 52 [.ptr (H.next+4) 0 0] []:=by rw[hE4];simp only[go_sem,d8]
 have k17:E4 17=aa k:=by rw[hE4];simp only[go_sem,d17]
 have k27:E4 27=aa ms.length:=by rw[hE4];simp only[go_sem,d27]
 have k28:E4 28=aa j:=by rw[hE4];simp only[go_sem,h28]
 clear hE4;have ly:=ak ((holdy _ (by omega)).trans b1);by_cases hb2:(j:Int)<ms.length
 ·have w2:=IntWalk.i64_in ((j:Int)+1) (by omega);have gj:gn ^ j<=60 ^ 6:=Nat.le_trans (Nat.pow_le_pow_left (by omega) _) (Nat.pow_le_pow_right (by decide) (by omega));have bj:m*gn ^ j<=46656000000*60 ^ 6:=Nat.mul_le_mul (by omega) gj;refine W.seq (ab _ _ _ (by rfl) ?_);simp only[go_sem,k27,k28,hb2];refine W.seq (ab _ _ _ (by rfl) ?_);simp only[go_sem];refine W.seq (W.block ?_);refine ab _ _ _ (by rfl) ?_;simp only[go_sem,k4,k8,ly,hgn,u2];refine aw.clo (uk (lo:=H.next+3) (b:=H.next+4) (w:=gn) (by omega) (jx (by decide) _) (key _ (Nat.le_trans bj (by decide))) Hy (by omega) (by omega) gy hOy hzy _ fun H3 sl3 hn3 old3 g3 hO3 hz3=>⟨trivial,?_⟩);rw[gO (by decide),Nat.mul_assoc,Nat.mul_assoc,<- Nat.pow_succ]at hO3 hz3;refine ab _ _ _ (by rfl) ?_;simp only[go_sem,k28,w2];exact⟨by omega,⟨j+1,sl3,rfl,by omega,by omega,fun id h=>(old3 id (by omega) (by omega) (aB.po hOy h)).trans (holdy id h),g3,hO3,hz3⟩,by rw[h28];simp only[aa,aM];omega⟩
 have ej:j=ms.length:=by omega
 subst ej;have ew:gn ^ ms.length=wh:=by rw[hwh,hgn];rfl
 refine ab _ _ _ (by rfl) ?_;simp only[go_sem,k27,k28,hb2];refine ab _ _ _ (by rfl) ?_;simp only[go_sem,k17,w1];refine⟨by omega,⟨k+1,sly,rfl,by omega,by omega,holdy,gy,?_⟩,by rw[h17];simp only[aa,aM];omega⟩;rw[aL hrk,ye,hm,Int.toNat_natCast,<- hV,Nat.mul_assoc,<- ew];exact⟨hOy,hzy⟩
theorem um (g:Int)(ns:List NodeP)(hok:NetOk g ns)(gm:Int)(ms:List NodeP)(hm1:1<=gm/\gm<=60)(hm8:ms.length<=6)(cs:List Int)(xs:List (List Int))(h6:ns.length<=6)(h40:xs.length<=64)(hrow:∀ r∈xs,r.length=ns.length)(H:AHeap)(K:ARes->AHeap->Prop)
  (hK:K (.ret (cI (bh 18446744073709551616 (eH ns (gm.toNat ^ ms.length) xs)))) H):
  ae Try.prog G0 50 [aO g ns,aO gm ms,cO cs xs] H K :=
 ae.clo ⟨_,Try.func50,rfl,rfl⟩ fun hcl=>ae.fin (yp g ns hok gm ms hm1 hm8 cs xs h6 h40 hrow H _ fun sl Hx ho hO _=>⟨_,rfl,av.bY aV hcl ho (hO.ze fun i h=>h) hK⟩)
theorem N2 {g:Int}{ns:List NodeP}(h:NetOk g ns)(h6:ns.length<=6){wh:Nat}(hw:wh<=46656000000){xs:List (List Int)}(h40:xs.length<=40)(hr:∀ r∈xs,r.length=ns.length){k m:Nat}(hk:k<=xs.length)(hm:m<=2 ^ 74):(bh 10000 (eH ns wh (xs.take k)*m)).length<2 ^ 20:=by
 have h1:=Cq h h6 hw (xs.take k) fun r hr'=>hr r (List.mem_of_mem_take hr');rw[List.length_take]at h1;have h2:(2 ^ 74) ^ (min k xs.length)<=(2 ^ 74) ^ 40:=Nat.pow_le_pow_right (by decide) (by omega);have h3:eH ns wh (xs.take k)*m<=(2 ^ 74) ^ 40*2 ^ 74:=Nat.mul_le_mul (by omega) hm;have h4:=ue (B:=10000) (k:=240) (by decide) (Nat.lt_of_le_of_lt h3 (by decide));exact Nat.lt_of_le_of_lt h4 (by decide)
def fC (ns:List NodeP)(gm:Int)(ms:List NodeP)(xs:List (List Int)):Nat:=eH ns (gm.toNat ^ ms.length) xs
noncomputable def j7 (g:Int)(ns:List NodeP)(gm:Int)(ms:List NodeP)(cs:List Int)(xs:List (List Int)):Int:=iU [(g,ns),(gm,ms)] cs xs
theorem CJ {g:Int}{ns:List NodeP}{gm:Int}{ms:List NodeP}{cs:List Int}{xs:List (List Int)}(h:j7 g ns gm ms cs xs=0):dU g ns cs xs=0/\dU gm ms cs xs=0:=by
 unfold j7 iU at h;simp only[List.mem_cons,List.not_mem_nil,or_false,forall_eq_or_imp,forall_eq]at h;split at h
 ·rename_i h1;split at h
  ·rename_i h2;split at h
   ·rename_i h3;unfold dU;rw[if_pos h1.1,if_pos h2,if_pos h3.1,if_pos h1.2,if_pos h2,if_pos h3.2];exact⟨rfl,rfl⟩
   ·cases h
  ·cases h
 ·cases h
theorem uo {g:Int}{ns:List NodeP}{gm:Int}{ms:List NodeP}{cs:List Int}{xs:List (List Int)}(h:NetOk g ns):j7 g ns gm ms cs xs=if dU gm ms cs xs=0 then dU g ns cs xs else dU gm ms cs xs:=by
 have hn:=uQ h;unfold j7 iU dU;simp only[List.mem_cons,List.not_mem_nil,or_false,forall_eq_or_imp,forall_eq,hn,true_and,if_pos];by_cases h1:fJ gm ms=true<;>by_cases h2:iu cs xs=true<;>by_cases h3:au ms=cs<;>by_cases h4:au ns=cs<;>simp [h1,h2,h3,h4]
noncomputable def l8 (g:Int)(ns:List NodeP)(gm:Int)(ms:List NodeP)(cs:List Int)(xs:List (List Int)):AVal :=
 if j7 g ns gm ms cs xs=0 then .tup [aa (eY (fC ns gm ms xs) (fC ms g ns xs)),aa 0] else .tup [aa 0,aa (j7 g ns gm ms cs xs)]
theorem uq {g:Int}{ns:List NodeP}(h:NetOk g ns)(h6:ns.length<=6){gm:Int}{ms:List NodeP}(hm1:1<=gm/\gm<=60)(hm8:ms.length<=6){xs:List (List Int)}(h40:xs.length<=40)(hr:∀ r∈xs,r.length=ns.length):(bh 18446744073709551616 (fC ns gm ms xs)).length<2 ^ 36/\(bh 10000 (fC ns gm ms xs)).length<2 ^ 20:=by
 have hwb:gm.toNat ^ ms.length<=46656000000:=by
  have a1:gm.toNat ^ ms.length<=60 ^ ms.length:=Nat.pow_le_pow_left (by omega) _;have a2:(60:Nat) ^ ms.length<=60 ^ 6:=Nat.pow_le_pow_right (by decide) hm8;have a3:(60:Nat) ^ 6=46656000000:=by decide
  omega
 have h1:=CI h h6 hwb (xs:=xs) (by omega) hr (k:=xs.length) (m:=1) (Nat.le_refl _) (by decide);have h2:=N2 h h6 hwb (xs:=xs) h40 hr (k:=xs.length) (m:=1) (Nat.le_refl _) (by decide);rw[List.take_length,Nat.mul_one]at h1 h2;exact⟨h1,h2⟩
set_option maxHeartbeats 2000000 in
theorem yq (g:Int)(ns:List NodeP)(gm:Int)(ms:List NodeP)(cs:List Int)(xs:List (List Int))(hn:fj ns)(hm:fj ms)(hf:kL cs xs)(H:AHeap)(K:ARes->AHeap->Prop)(hK:K (.ret (l8 g ns gm ms cs xs)) H):
  ae Try.prog G0 22 [aO g ns,aO gm ms,cO cs xs] H K:=by
 refine ae.clo ⟨_,Try.func22,rfl,rfl⟩ fun hcl=>?_;have fin:∀ (a b:Int) (Hx:AHeap),Over H Hx->K (.ret (.tup [aa a,aa b])) H->av Try.prog G0 H K (.tup [aa a,aa b]) Hx:=fun a b Hx ho hk=>av.bY aV hcl ho (.tup rfl fun i hi _=>match i,hi with
  | 0,_=>.lit _
  | 1,_=>.lit _) hk
 have r2:(List.replicate 2 [AVal.lit (.int .i64 0),AVal.lit (.slice none 0 0)]).flatten=[.lit (.int .i64 0),.lit (.slice none 0 0),.lit (.int .i64 0),.lit (.slice none 0 0)]:=rfl;refine ae.bM (n:=26) (rs:=[.tmp 6,.tmp 7]) Try.func22 rfl rfl rfl (by decide) (by kernel_rfl) (by simp) ?_;simp only[go_sem,aO,cM,cO,aE,r2,List.drop_succ_cons,List.drop_zero];obtain⟨H1,hH1⟩:∃ H1,H1=ext H [.arr 0 35 [aa g,.vec ns.length (ar ns)],.arr 0 35 [aa gm,.vec ms.length (ar ms)],.arr 0 42 [.vec cs.length (ints cs),.vec xs.length (xs.map af)],.arr 0 35 [aa g,.vec ns.length (ar ns),aa gm,.vec ms.length (ar ms)]]:=⟨_,rfl⟩
 have n1:H1.next=H.next+4:=by rw[hH1];rfl
 have o1:Over H H1:=by rw[hH1];exact .ext _ _
 have g0:H1.get H.next=some (.arr 0 35 [aa g,.vec ns.length (ar ns)]):=by rw[hH1];exact dp ..
 have g1:H1.get (H.next+1)=some (.arr 0 35 [aa gm,.vec ms.length (ar ms)]):=by rw[hH1];exact bg H _ 1 (by simp)
 have g2:H1.get (H.next+2)=some (.arr 0 42 [.vec cs.length (ints cs),.vec xs.length (xs.map af)]):=by rw[hH1];exact bg H _ 2 (by simp)
 have g3:H1.get (H.next+3)=some (.arr 0 35 (dP [(g,ns),(gm,ms)])):=by rw[hH1];exact bg H _ 3 (by simp)
 show aw _ _ _ _ (ext H [.arr 0 35 [aa g,.vec ns.length (ar ns)],.arr 0 35 [aa gm,.vec ms.length (ar ms)],.arr 0 42 [.vec cs.length (ints cs),.vec xs.length (xs.map af)],.arr 0 35 [aa g,.vec ns.length (ar ns),aa gm,.vec ms.length (ar ms)]]) _;rw[<- hH1];have l0:=ak g0;have l1:=ak g1;have l2:=ak g2;refine aw.clo ((x6 [(g,ns),(gm,ms)] cs xs (fun p hp=>by
  simp only[List.mem_cons,List.not_mem_nil,or_false]at hp;rcases hp with rfl|rfl
  ·exact hn
  ·exact hm) hf (by simp) H1 g3).mono ?_)
 rintro rres Hq ⟨hrq,hHq⟩;rw[hHq,hrq];refine⟨trivial,?_⟩;unfold l8 at hK;obtain⟨e,he⟩:∃ e,e=j7 g ns gm ms cs xs:=⟨_,rfl⟩
 rw[show iU [(g,ns),(gm,ms)] cs xs=e from he.symm];rw[<- he]at hK;by_cases h0:e=0;rotate_left
 ·rw[if_neg h0]at hK;simp only[go_sem,h0];exact fin 0 e H1 o1 hK
 rw[if_pos h0]at hK;rw[h0]at he ⊢;obtain⟨e1,e2⟩:=CJ he.symm;obtain⟨nok,_,_⟩:=mW e1;obtain⟨n6,h40,nrow⟩:=mX e1;obtain⟨mok,_,_⟩:=mW e2;obtain⟨m6,_,mrow⟩:=mX e2;have ln:=(uq nok n6 mok.g1 m6 h40 nrow).1;have lm:=(uq mok m6 nok.g1 n6 h40 mrow).1;simp only[go_sem];refine W.draw 7 [0,0,0,7,0,0,0] Try.mixed (by kernel_rfl) (by kernel_rfl) ?_;simp only[go_sem,l0,l1,l2];refine⟨cI (bh 18446744073709551616 (fC ns gm ms xs)),[],dx.pure (fun Hz=>um g ns nok gm ms mok.g1 m6 cs xs n6 (by omega) nrow Hz _ ⟨rfl,rfl⟩),?_⟩;simp only[go_sem];refine aw.clo (um gm ms mok g ns nok.g1 n6 cs xs m6 (by omega) mrow _ _ ⟨trivial,?_⟩);simp only[go_sem];refine aw.clo (Cp (B:=18446744073709551616) (by decide) (jx (by decide) (fC ns gm ms xs)) (jx (by decide) (fC ms g ns xs)) (by omega) (by omega) _ _ ⟨trivial,?_⟩);rw[gO (by decide),gO (by decide)];simp only[go_sem];exact fin _ 0 H1 o1 hK
def ma (own x:Nat):Nat:=min 1000000 (x / own)
theorem N3 {own x i:Nat}(h0:0<own)(h1:own*i<=x)(hi:i<=1000000)(h2:i=1000000\/x<own*(i+1)):i=ma own x:=by
 have a1:i<=x / own:=(Nat.le_div_iff_mul_le h0).2 (by rw[Nat.mul_comm];exact h1);unfold ma;rcases h2 with h2|h2
 ·omega
 ·have a2:x / own<i+1:=(Nat.div_lt_iff_lt_mul h0).2 (by rw[Nat.mul_comm];exact h2);omega
theorem CK {g:Int}{ns:List NodeP}(h:NetOk g ns){gm:Int}(hm:1<=gm)(ms:List NodeP){xs:List (List Int)}(hr:∀ r∈xs,r.length=ns.length)(hp:(0:Int) ∉ xs.map (dG ns)):0<fC ns gm ms xs:=by
 have hw:0<gm.toNat ^ ms.length:=Nat.pow_pos (by omega);unfold fC;generalize gm.toNat ^ ms.length=wh at hw ⊢;have key:∀ k,k<=xs.length->0<eH ns wh (xs.take k):=by
  intro k
  induction k with
  | zero=>intro _;exact Nat.one_pos
  | succ k ih =>
   intro hk;obtain⟨r,hrk⟩:=get_of_lt (l:=xs) (i:=k) (by omega);have h1:=yf h (hr r (List.mem_of_getElem? hrk));have h2:dG ns r≠0:=fun e=>hp (List.mem_map.2 ⟨r,List.mem_of_getElem? hrk,e⟩);rw[aL hrk,ye];exact Nat.mul_pos (Nat.mul_pos (ih (by omega)) (by omega)) hw
 have:=key xs.length (Nat.le_refl _)
 rwa [List.take_length]at this
theorem CL {x y:Nat}:eY x y<=0↔x<=y:=by
 unfold eY;split
 ·omega
 ·split<;>omega
end Go.Proofs
namespace Go.Hx
variable {P:Program} {G:Nat->Option (List AVal)} {Γ Γ':az} {H H':AHeap} {w w':World}
inductive Ids (K:Nat->Prop):AVal->Prop
 | lit (v:Value):Ids K (.lit v)
 | vec {n:Nat} {c:List AVal} (h:∀ i (h:i<c.length),Ids K c[i]):Ids K (.vec n c)
 | vptr {n:Nat} {c:List AVal} (h:∀ i (h:i<c.length),Ids K c[i]):Ids K (.vptr c n)
 | agg {c:List AVal} (h:∀ i (h:i<c.length),Ids K c[i]):Ids K (.agg c)
 | tup {c:List AVal} (h:∀ i (h:i<c.length),Ids K c[i]):Ids K (.tup c)
 | clo {f:FuncId} {a b:List AVal} (h1:∀ i (h:i<a.length),Ids K a[i]) (h2:∀ i (h:i<b.length),Ids K b[i]):Ids K (.clo f a b)
 | own {id g o l z:Nat} (h:K id):Ids K (.own id g o l z)
 | ptr {id g o:Nat} (h:K id):Ids K (.ptr id g o)
 | yld {id:Nat} (h:K id):Ids K (.yld id)
theorem Ids.Dj {v:AVal}{cv:Value}(h:RelV P Γ H w v cv):Ids (fun id=>id<H.next/\H.get id≠some .rsv) v:=by
 induction h with
 | lit v=>exact .lit v
 | vec0 a cap=>exact .vec fun i h=>absurd h (Nat.not_lt_zero _)
 | vec hb hlt hlen hcs hcell hrel ih=>exact .vec fun i h=>ih i h (by omega)
 | own h=>exact .own ⟨h.1,h.2.2.1⟩
 | ptr h=>exact .ptr ⟨h.1,h.2.2.1⟩
 | vptr hb hlt hcs hcell hrel ih=>exact .vptr fun i h=>ih i h (by omega)
 | agg hcs hrel ih=>exact .agg fun i h=>ih i h (by omega)
 | tup hcs hrel ih=>exact .tup fun i h=>ih i h (by omega)
 | clo hfs hcs hf hc ih1 ih2=>exact .clo (fun i h=>ih1 i h (by omega)) fun i h=>ih2 i h (by omega)
 | yld h=>exact .yld ⟨h.1,h.2.2.1⟩
theorem Ids.sound {K:Nat->Prop}{Γ₁ Γ₂:az}{H₁ H₂:AHeap}(hK:∀ id,K id->H₂.get id=H₁.get id/\Γ₂ id=Γ₁ id/\id<H₂.next)(ho:∀ b,Γ₂.dN b->Γ₁.dN b){v:AVal}(h:Ids K v):
  ∀ {cv:Value},RelV P Γ₁ H₁ w v cv->RelV P Γ₂ H₂ w v cv:=by
 induction h with
 | lit v=>intro cv h;cases h;exact .lit _
 | vec _ ih =>
  intro cv h;cases h with
  | vec0 a cap=>exact .vec0 a cap
  | vec hb hlt hlen hcs hcell hrel=>exact .vec (fun h=>hb (ho _ h)) hlt hlen hcs hcell fun i h1 h2=>ih i h1 (hrel i h1 h2)
 | vptr _ ih=>intro cv h;cases h with|vptr hb hlt hcs hcell hrel=>exact .vptr (fun h=>hb (ho _ h)) hlt hcs hcell fun i h1 h2=>ih i h1 (hrel i h1 h2)
 | agg _ ih=>intro cv h;cases h with|agg hcs hrel=>exact .agg hcs fun i h1 h2=>ih i h1 (hrel i h1 h2)
 | tup _ ih=>intro cv h;cases h with|tup hcs hrel=>exact .tup hcs fun i h1 h2=>ih i h1 (hrel i h1 h2)
 | clo _ _ ih1 ih2=>intro cv h;cases h with|clo hfs hcs hf hc=>exact .clo hfs hcs (fun i h1 h2=>ih1 i h1 (hf i h1 h2)) fun i h1 h2=>ih2 i h1 (hc i h1 h2)
 | own h =>
  intro cv hv;cases hv with
  | own hv =>
   obtain⟨a,b,c,d⟩:=hv;obtain⟨e1,e2,e3⟩:=hK _ h;refine .own ⟨e3,b,by rw[e1];exact c,fun g e cells hg=>?_⟩;rw[e1]at hg;rw[e2];exact d g e cells hg
 | ptr h =>
  intro cv hv;cases hv with
  | ptr hv =>
   obtain⟨a,b,c,d⟩:=hv;obtain⟨e1,e2,e3⟩:=hK _ h;refine .ptr ⟨e3,b,by rw[e1];exact c,fun g e cells hg=>?_⟩;rw[e1]at hg;rw[e2];exact d g e cells hg
 | yld h =>
  intro cv hv;cases hv with
  | yld hv =>
   obtain⟨a,b,c,d,e⟩:=hv;obtain⟨e1,e2,e3⟩:=hK _ h;refine .yld ⟨e3,b,by rw[e1];exact c,fun st pend n env ps asg body hg=>?_,fun es hg=>?_⟩
   ·rw[e1]at hg;rw[e2];exact d st pend n env ps asg body hg
   ·rw[e1]at hg;rw[e2];exact e es hg
theorem Dk {f:FuncId}{args:List AVal}{g n sz:Nat}{e:TypeId}{cells:List AVal}{rs:List Nat}(hrs:∀ r,r∈rs->r<H.next)(hcl:∀ i (h:i<cells.length),Ids (fun _=>False) cells[i])
  (hcall:∀ H2:AHeap,(∀ r,r∈rs->H2.get r=H.get r)->ae P G f args H2 fun r H'=>r=.ret (.own H2.next g 0 n sz)/\H'=ext H2 [.arr g e cells]):
  Ev.gZ P G (.clo f [] []) args H (.own H.next g 0 n sz) (Ev.dZ H.next (H.next+1) (fun _=>true) (ext ⟨fun _=>none,H.next⟩ [.arr g e cells]).get) 1 ⟨Ev.kq H.next (H.next+1),rs⟩:=by
 have hnew:Ev.dZ H.next (H.next+1) (fun _=>true) (ext ⟨fun _=>none,H.next⟩ [.arr g e cells]).get H.next=some (.arr g e cells):=by
  unfold Ev.dZ;rw[if_pos ⟨Nat.le_refl _,Nat.lt_succ_self _⟩,if_pos rfl];exact cu (H:=⟨fun _=>none,H.next⟩)
 have hout:∀ r,r≠H.next->Ev.dZ H.next (H.next+1) (fun _=>true) (ext ⟨fun _=>none,H.next⟩ [.arr g e cells]).get r=none:=fun r hr=>by
  unfold Ev.dZ;rw[if_neg (by omega)]
 refine⟨hrs,fun r hr=>?_,fun c hc=>?_,fun H2 hag hres hn2=>aw.clo ⟨?_,fun Γ w cargs R hr=>?_⟩⟩
 ·have:r=H.next:=Classical.byContradiction fun h=>by rw[hout r h]at hr;cases hr
  subst this;exact⟨Ev.zA (Nat.le_refl _) (Nat.lt_succ_self _),.inr ⟨Nat.le_refl _,Nat.lt_succ_self _⟩⟩
 ·obtain rfl:c=0:=by omega
  rw[show H.next+0=H.next from rfl,hnew];rfl
 ·exact(hcall H2 hag).1
 have hrid:H2.get H.next=some .rsv:=hres 0 (by omega);rw[List.nil_append,List.append_nil]at hr;refine((hcall H2 hag).2 Γ w cargs R hr).mono ?_;rintro x w' ⟨r,H',Γ',hend,⟨rfl,rfl⟩,R',E,hn⟩;obtain⟨H3,hH3⟩:∃ H3:AHeap,H3=⟨Ev.bV (Ev.dZ H.next (H.next+1) (fun _=>true) (ext ⟨fun _=>none,H.next⟩ [.arr g e cells]).get) H2.get,H2.next⟩:=⟨_,rfl⟩
 have h3n:H3.next=H2.next:=by rw[hH3]
 have h3r:H3.get H.next=some (.arr g e cells):=by rw[hH3];show Ev.bV _ _ _=_;unfold Ev.bV;rw[hnew]
 have h3o:∀ r,r≠H.next->H3.get r=H2.get r:=fun r h=>by rw[hH3];show Ev.bV _ _ _=_;unfold Ev.bV;rw[hout r h]
 have hxo:∀ r,r<H2.next->(ext H2 [.arr g e cells]).get r=H2.get r:=fun r h=>dF H2 _ r h;have hxn:(ext H2 [.arr g e cells]).get H2.next=some (.arr g e cells):=cu;have hxf:∀ r,H2.next<r->(ext H2 [.arr g e cells]).get r=none:=fun r h=>by
  cases hg:(ext H2 [.arr g e cells]).get r with
  | none=>rfl
  | some b=>have:=R'.next r b hg;rw[show (ext H2 [.arr g e cells]).next=H2.next+1 from rfl]at this;omega
 have h2f:∀ r,H2.next<=r->H2.get r=none:=fun r h=>by
  cases hg:H2.get r with
  | none=>rfl
  | some b=>have:=R.next r b hg;omega
 obtain⟨Γ3,hΓ3⟩:∃ Γ3:az,Γ3=fun id=>if id=H.next then Γ' H2.next else if id=H2.next then none else Γ' id:=⟨_,rfl⟩
 have g3r:Γ3 H.next=Γ' H2.next:=by rw[hΓ3];exact if_pos rfl
 have g3n:Γ3 H2.next=none:=by rw[hΓ3];show (if _ then _ else if _ then _ else _)=_;rw[if_neg (by omega),if_pos rfl]
 have g3o:∀ id,id≠H.next->id≠H2.next->Γ3 id=Γ' id:=fun id h1 h2=>by rw[hΓ3];show (if _ then _ else if _ then _ else _)=_;rw[if_neg h1,if_neg h2]
 have hΓrid:Γ' H.next=none:=R'.rsv _ (by rw[hxo _ (by omega)];exact hrid);have back:∀ id x,Γ3 id=some x->∃ id',Γ' id'=some x/\((id=H.next/\id'=H2.next)\/(id≠H.next/\id≠H2.next/\id'=id)):=fun id x h=>by
  by_cases h1:id=H.next
  ·subst h1;rw[g3r]at h;exact⟨_,h,.inl ⟨rfl,rfl⟩⟩
  ·by_cases h2:id=H2.next
   ·subst h2;rw[g3n]at h;cases h
   ·rw[g3o id h1 h2]at h;exact⟨_,h,.inr ⟨h1,h2,rfl⟩⟩
 have ho:∀ b,Γ3.dN b->Γ'.dN b:=fun b ⟨id,base,m,h⟩=>let ⟨id',h',_⟩:=back _ _ h;⟨id',base,m,h'⟩
 have hΓold:∀ id,id<H2.next->id≠H.next->∀ b,H2.get id=some b->b≠.rsv->Γ' id=Γ' id:=fun _ _ _ _ _ _=>rfl;have hKs:∀ id,(id<H2.next/\H2.get id≠some .rsv)->H3.get id=(ext H2 [.arr g e cells]).get id/\Γ3 id=Γ' id/\id<H3.next:=fun id ⟨h1,h2⟩=>by
  have hne:id≠H.next:=fun h=>h2 (h ▸ hrid);exact⟨(h3o id hne).trans (hxo id h1).symm,g3o id hne (by omega),by omega⟩
 have hEE:Evo Γ H2 w Γ3 H3 w':=by
  refine⟨E.os,E.tape,E.output,E.size,fun b hb hno=>⟨(E.keep b hb hno).1,fun h=>(E.keep b hb hno).2 (ho b h)⟩,fun id h1 h2 x' hx'=>?_,E.frz⟩;by_cases hid:id=H.next
  ·subst hid;exact⟨.rsv,hrid,trivial⟩
  ·rw[h3o id hid]at hx';obtain⟨x,hx,hle⟩:=E.live id h1 (by rw[show (ext H2 [.arr g e cells]).next=H2.next+1 from rfl];omega) x' (by rw[hxo id h1];exact hx');refine⟨x,hx,?_⟩;have:=g3o id hid (by omega);cases x<;>cases x'<;>simp only[Blk.le,this]at hle ⊢<;>exact hle
 have cellok:∀ (cs:List AVal) (w0:World),(∀ i (h:i<cs.length),Ids (fun id=>id<H2.next/\H2.get id≠some .rsv) cs[i])->∀ i (h:i<cs.length) cv,RelV P Γ' (ext H2 [.arr g e cells]) w0 cs[i] cv->RelV P Γ3 H3 w0 cs[i] cv:=fun cs w0 hc i h cv hv=>(hc i h).sound hKs ho hv;have oldIds:∀ id g0 e0 c0,H2.get id=some (.arr g0 e0 c0)->∀ i (h:i<c0.length),Ids (fun id=>id<H2.next/\H2.get id≠some .rsv) c0[i]:=fun id g0 e0 c0 hg i hi=>by
  have h1:=R.arr id g0 e0 c0 hg;cases hΓ:Γ id with
  | none=>rw[hΓ]at h1;rw[h1]at hi;exact absurd hi (Nat.not_lt_zero _)
  | some y =>
   obtain⟨b,base,m⟩:=y;rw[hΓ]at h1;obtain⟨c,a1,a2,a3,a4⟩:=h1;obtain⟨cv,_,b2⟩:=a4 i hi;exact .Dj b2
 have arrC:∀ id id' g0 e0 c0,Γ3 id=Γ' id'->(ext H2 [.arr g e cells]).get id'=some (.arr g0 e0 c0)->(∀ i (h:i<c0.length),Ids (fun id=>id<H2.next/\H2.get id≠some .rsv) c0[i])->(match Γ3 id with
   | some (b,base,n)=>∃ c,w'.heap[b]?=some (.cells c e0 (0,0))/\c.size=n/\base+c0.length<=n/\∀ i (h:i<c0.length),∃ cv,c[base+i]?=some cv/\RelV P Γ3 H3 w' c0[i] cv
   | none=>c0=[]):=fun id id' g0 e0 c0 hΓ hg hc=>by
  have h1:=R'.arr id' g0 e0 c0 hg;rw[hΓ];cases hΓ':Γ' id' with
  | none=>rw[hΓ']at h1;exact h1
  | some y =>
   obtain⟨b,base,m⟩:=y;rw[hΓ']at h1;obtain⟨c,a1,a2,a3,a4⟩:=h1;exact⟨c,a1,a2,a3,fun i hi=>let ⟨cv,b1,b2⟩:=a4 i hi;⟨cv,b1,cellok c0 w' hc i hi cv b2⟩⟩
 have R3:RelH P G Γ3 H3 w':=by
  refine⟨fun id g0 e0 c0 hg=>?_,fun id st pend m env ps asg body hg=>?_,fun id es hg=>?_,fun id hg=>?_,fun id id' b base m base' m' h h'=>?_,fun id y h=>?_,fun id b base m h=>?_,fun id y h=>?_,fun g0 c0 h=>?_,R'.gsz⟩
  ·by_cases hid:id=H.next
   ·subst hid;rw[h3r]at hg;cases hg;exact arrC _ H2.next g e cells g3r hxn fun i hi=>by
     have:∀ v,Ids (fun _=>False) v->Ids (fun id=>id<H2.next/\H2.get id≠some .rsv) v:=fun v hv=>by
      induction hv with
      | lit v=>exact .lit v
      | vec _ ih=>exact .vec ih
      | vptr _ ih=>exact .vptr ih
      | agg _ ih=>exact .agg ih
      | tup _ ih=>exact .tup ih
      | clo _ _ i1 i2=>exact .clo i1 i2
      | own h=>exact h.elim
      | ptr h=>exact h.elim
      | yld h=>exact h.elim
     exact this _ (hcl i hi)
   ·rw[h3o id hid]at hg;have hlt:=R.next id _ hg;exact arrC id id g0 e0 c0 (g3o id hid (by omega)) (by rw[hxo id hlt];exact hg) (oldIds id g0 e0 c0 hg)
  ·have hid:id≠H.next:=fun h=>by subst h;rw[h3r]at hg;cases hg
   rw[h3o id hid]at hg;have hlt:=R.next id _ hg;obtain⟨b0,r0,p1,p2,p3,p4,p5,p6,p7,p8,p9⟩:=R.loop id st pend m env ps asg body hg;obtain⟨b,r,a1,a2,a3,a4,a5,a6,a7,a8,a9⟩:=R'.loop id st pend m env ps asg body (by rw[hxo id hlt];exact hg);exact⟨b,r,by rw[g3o id hid (by omega)];exact a1,a2,a3,a4,a5,a6,a7,a8,fun t ht=>(Ids.Dj (p9 t (by omega))).sound hKs ho (a9 t ht)⟩
  ·have hid:id≠H.next:=fun h=>by subst h;rw[h3r]at hg;cases hg
   rw[h3o id hid]at hg;have hlt:=R.next id _ hg;obtain⟨b,a1,a2⟩:=R'.mp id es (by rw[hxo id hlt];exact hg);exact⟨b,by rw[g3o id hid (by omega)];exact a1,a2⟩
  ·have hid:id≠H.next:=fun h=>by subst h;rw[h3r]at hg;cases hg
   rw[h3o id hid]at hg;have hlt:=R.next id _ hg;rw[g3o id hid (by omega)];exact R'.rsv id (by rw[hxo id hlt];exact hg)
  ·obtain⟨i1,q1,c1⟩:=back _ _ h;obtain⟨i2,q2,c2⟩:=back _ _ h';have:=R'.inj _ _ _ _ _ _ _ q1 q2;omega
  ·obtain⟨i1,q1,c1⟩:=back _ _ h;rcases c1 with ⟨rfl,_⟩|⟨h1,h2,rfl⟩
   ·exact⟨_,h3r⟩
   ·obtain⟨y',hy⟩:=R'.dom _ _ q1;have hlt:=R'.next _ _ hy;rw[show (ext H2 [.arr g e cells]).next=H2.next+1 from rfl]at hlt;exact⟨y',by rw[h3o _ h1,<- hxo _ (by omega)];exact hy⟩
  ·obtain⟨i1,q1,c1⟩:=back _ _ h;exact R'.lt _ _ _ _ q1
  ·by_cases hid:id=H.next
   ·omega
   ·rw[h3o id hid]at h;have:=R.next id _ h;omega
  ·exact(R.glob g0 c0 h).aR hEE (by omega)
 refine⟨.ret (.own H.next g 0 n sz),H3,Γ3,?_,⟨rfl,hH3⟩,R3,hEE,by omega⟩;cases x with
 | returned cv =>
  have hv:RelV P Γ' (ext H2 [.arr g e cells]) w' (.own H2.next g 0 n sz) cv:=hend;show RelV P Γ3 H3 w' (.own H.next g 0 n sz) cv;cases hv with
  | own hv =>
   obtain⟨a,b,c,d⟩:=hv;refine .own ⟨by omega,b,by rw[h3r];simp,fun g0 e0 c0 hg=>?_⟩;rw[h3r]at hg;cases hg;rw[g3r];exact d g e cells hxn
 | _=>exact hend.elim
end Go.Hx
namespace Go.Hx
variable {P:Program} {G:Nat->Option (List AVal)} {Γ Γ':az} {H H':AHeap} {w w':World}
theorem Ids.mono {K K':Nat->Prop}(h:∀ id,K id->K' id){v:AVal}(hv:Ids K v):Ids K' v:=by
 induction hv with
 | lit v=>exact .lit v
 | vec _ ih=>exact .vec ih
 | vptr _ ih=>exact .vptr ih
 | agg _ ih=>exact .agg ih
 | tup _ ih=>exact .tup ih
 | clo _ _ i1 i2=>exact .clo i1 i2
 | own h'=>exact .own (h _ h')
 | ptr h'=>exact .ptr (h _ h')
 | yld h'=>exact .yld (h _ h')
theorem Ids.Ow {n:Nat}{v:AVal}(hv:Below n v):Ids (fun id=>id<n) v:=by
 induction hv with
 | lit v=>exact .lit v
 | vec _ ih=>exact .vec ih
 | vptr _ ih=>exact .vptr ih
 | agg _ ih=>exact .agg ih
 | tup _ ih=>exact .tup ih
 | clo _ _ i1 i2=>exact .clo i1 i2
 | own h'=>exact .own h'
 | ptr h'=>exact .ptr h'
 | yld h'=>exact .yld h'
theorem ae.Ox {f:FuncId}{args:List AVal}{e:TypeId}{cells:List AVal}(hcl:Clo H)(hcells:∀ i (h:i<cells.length),Ids (fun _=>False) cells[i])
  (h:ae P G f args H fun r H2=>∃ id g,r=.ret (.own id g 0 cells.length 1)/\H.next<=id/\Over H H2/\H2.get id=some (.arr g e cells)):
  ae P G f args H fun r H'=>r=.ret (.own H.next 0 0 cells.length 1)/\H'=ext H [.arr 0 e cells]:=by
 refine⟨h.1,fun Γ w cargs R hr=>(h.2 Γ w cargs R hr).mono ?_⟩;rintro x w' ⟨r,H2,Γ',hend,⟨rid,g,rfl,hid,ho,hg⟩,R',E,hn⟩;obtain⟨H3,hH3⟩:∃ H3,H3=ext H [.arr 0 e cells]:=⟨_,rfl⟩
 have h3n:H3.next=H.next+1:=by rw[hH3];rfl
 have h3r:H3.get H.next=some (.arr 0 e cells):=by rw[hH3];exact cu
 have h3o:∀ id,id<H.next->H3.get id=H.get id:=fun id h=>by rw[hH3];exact dz h
 have h3f:∀ id,H.next<id->H3.get id=none:=fun id h=>by
  cases hx:H3.get id with
  | none=>rfl
  | some b =>
   have h1:(ext H [.arr 0 e cells]).get id=H.get id:=by
    show (if H.next<=id/\id<H.next+[Blk.arr 0 e cells].length then _ else H.get id)=_;rw[if_neg (by simp;omega)]
   rw[hH3,h1]at hx;have:=hcl.lt id b hx;omega
 obtain⟨Γ3,hΓ3⟩:∃ Γ3:az,Γ3=fun id=>if id<H.next then Γ' id else if id=H.next then Γ' rid else none:=⟨_,rfl⟩
 have g3o:∀ id,id<H.next->Γ3 id=Γ' id:=fun id h=>by rw[hΓ3];exact if_pos h
 have g3r:Γ3 H.next=Γ' rid:=by rw[hΓ3];show (if _ then _ else if _ then _ else _)=_;rw[if_neg (Nat.lt_irrefl _),if_pos rfl]
 have g3f:∀ id,H.next<id->Γ3 id=none:=fun id h=>by rw[hΓ3];show (if _ then _ else if _ then _ else _)=_;rw[if_neg (by omega),if_neg (by omega)]
 have back:∀ id x,Γ3 id=some x->∃ id',Γ' id'=some x/\((id<H.next/\id'=id)\/(id=H.next/\id'=rid)):=fun id x h=>by
  by_cases h1:id<H.next
  ·rw[g3o id h1]at h;exact⟨id,h,.inl ⟨h1,rfl⟩⟩
  ·by_cases h2:id=H.next
   ·subst h2;rw[g3r]at h;exact⟨rid,h,.inr ⟨rfl,rfl⟩⟩
   ·rw[g3f id (by omega)]at h;cases h
 have hob:∀ b,Γ3.dN b->Γ'.dN b:=fun b ⟨id,base,m,h⟩=>let ⟨id',h',_⟩:=back _ _ h;⟨id',base,m,h'⟩
 have hKs:∀ id,id<H.next->H3.get id=H2.get id/\Γ3 id=Γ' id/\id<H3.next:=fun id h=>⟨(h3o id h).trans (ho.old id h).symm,g3o id h,by omega⟩
 have plain:∀ v,Ids (fun _=>False) v->∀ w0 cv,RelV P Γ' H2 w0 v cv->RelV P Γ3 H3 w0 v cv:=fun v hv w0 cv hr=>(hv.mono fun _ h=>h.elim).sound hKs hob hr;have old:∀ v,Below H.next v->∀ w0 cv,RelV P Γ' H2 w0 v cv->RelV P Γ3 H3 w0 v cv:=fun v hv w0 cv hr=>(Ids.Ow hv).sound hKs hob hr;have E3:Evo Γ H w Γ3 H3 w':=by
  refine⟨E.os,E.tape,E.output,E.size,fun b hb hno=>⟨(E.keep b hb hno).1,fun h=>(E.keep b hb hno).2 (hob b h)⟩,fun id h1 _ x' hx'=>?_,E.frz⟩;obtain⟨y,hy,hle⟩:=E.live id h1 (by omega) x' (by rw[<- (hKs id h1).1];exact hx');refine⟨y,hy,?_⟩;have:=g3o id h1;cases y<;>cases x'<;>simp only[Blk.le,this]at hle ⊢<;>exact hle
 have arrC:∀ id id' g0 e0 c0,Γ3 id=Γ' id'->H2.get id'=some (.arr g0 e0 c0)->(∀ i (h:i<c0.length) cv,RelV P Γ' H2 w' c0[i] cv->RelV P Γ3 H3 w' c0[i] cv)->(match Γ3 id with
   | some (b,base,n)=>∃ c,w'.heap[b]?=some (.cells c e0 (0,0))/\c.size=n/\base+c0.length<=n/\∀ i (h:i<c0.length),∃ cv,c[base+i]?=some cv/\RelV P Γ3 H3 w' c0[i] cv
   | none=>c0=[]):=fun id id' g0 e0 c0 hΓ hg' hc=>by
  have h1:=R'.arr id' g0 e0 c0 hg';rw[hΓ];cases hΓ':Γ' id' with
  | none=>rw[hΓ']at h1;exact h1
  | some y =>
   obtain⟨b,base,m⟩:=y;rw[hΓ']at h1;obtain⟨c,a1,a2,a3,a4⟩:=h1;exact⟨c,a1,a2,a3,fun i hi=>let ⟨cv,b1,b2⟩:=a4 i hi;⟨cv,b1,hc i hi cv b2⟩⟩
 have lt3:∀ id y,H3.get id=some y->id<H.next\/id=H.next:=fun id y h=>by
  rcases Nat.lt_trichotomy id H.next with h1|h1|h1
  ·exact .inl h1
  ·exact .inr h1
  ·rw[h3f id h1]at h;cases h
 have R3:RelH P G Γ3 H3 w':=by
  refine⟨fun id g0 e0 c0 hx=>?_,fun id st pend m env ps asg body hx=>?_,fun id es hx=>?_,fun id hx=>?_,fun id id' b base m base' m' h h'=>?_,fun id y h=>?_,fun id b base m h=>?_,fun id y h=>?_,fun g0 c0 h=>?_,R'.gsz⟩
  ·rcases lt3 id _ hx with h1|rfl
   ·rw[h3o id h1]at hx;refine arrC id id g0 e0 c0 (g3o id h1) ((ho.old id h1).trans hx) fun i hi cv hv=>old _ (hcl.below id _ hx i hi) w' cv hv
   ·rw[h3r]at hx;cases hx;exact arrC _ rid g e cells g3r hg fun i hi cv hv=>plain _ (hcells i hi) w' cv hv
  ·rcases lt3 id _ hx with h1|rfl
   ·rw[h3o id h1]at hx;obtain⟨b,r,a1,a2,a3,a4,a5,a6,a7,a8,a9⟩:=R'.loop id st pend m env ps asg body ((ho.old id h1).trans hx);exact⟨b,r,by rw[g3o id h1];exact a1,a2,a3,a4,a5,a6,a7,a8,fun t ht=>old _ (hcl.below id _ hx t (by rw[<- a8];exact ht)) w' _ (a9 t ht)⟩
   ·rw[h3r]at hx;cases hx
  ·rcases lt3 id _ hx with h1|rfl
   ·rw[h3o id h1]at hx;obtain⟨b,a1,a2⟩:=R'.mp id es ((ho.old id h1).trans hx);exact⟨b,by rw[g3o id h1];exact a1,a2⟩
   ·rw[h3r]at hx;cases hx
  ·rcases lt3 id _ hx with h1|rfl
   ·rw[h3o id h1]at hx;rw[g3o id h1];exact R'.rsv id ((ho.old id h1).trans hx)
   ·rw[h3r]at hx;cases hx
  ·obtain⟨i1,q1,c1⟩:=back _ _ h;obtain⟨i2,q2,c2⟩:=back _ _ h';have:=R'.inj _ _ _ _ _ _ _ q1 q2;omega
  ·obtain⟨i1,q1,c1⟩:=back _ _ h;rcases c1 with ⟨h1,rfl⟩|⟨rfl,rfl⟩
   ·obtain⟨y',hy⟩:=R'.dom _ _ q1;exact⟨y',((hKs _ h1).1).trans hy⟩
   ·exact⟨_,h3r⟩
  ·obtain⟨i1,q1,c1⟩:=back _ _ h;exact R'.lt _ _ _ _ q1
  ·rcases lt3 id _ h with h1|rfl<;>omega
  ·exact(R.glob g0 c0 h).aR E3 (by omega)
 refine⟨.ret (.own H.next 0 0 cells.length 1),H3,Γ3,?_,⟨rfl,hH3⟩,R3,E3,by omega⟩;cases x with
 | returned cv =>
  have hv:RelV P Γ' H2 w' (.own rid g 0 cells.length 1) cv:=hend;show RelV P Γ3 H3 w' (.own H.next 0 0 cells.length 1) cv;cases hv with
  | own hv =>
   obtain⟨a,b,c,d⟩:=hv;refine .own ⟨by omega,b,by rw[h3r];simp,fun g0 e0 c0 hx=>?_⟩;rw[h3r]at hx;cases hx;rw[g3r];exact⟨Nat.le_refl _,fun _=>(d g e cells hg).2 rfl⟩
 | _=>exact hend.elim
end Go.Hx
namespace Go.Hx
variable {P:Program} {G:Nat->Option (List AVal)} {all:Array Oper} {tail:St->Prop} {b i:Nat} {bs:List Nat} {acc:List (Nat × FP)} {K:FP->St->Prop} {s:St} {d:Option Tmp} {ty:TypeId} {pos:String} {aft:Array Edge} {g:Option (Nat × Bool)}
theorem CV (bs:List Nat):Ev.cQ P G all tail bs i acc [] s=tail s:=by cases bs<;>rfl
theorem CW (op:Op)(rest:List Oper):Ev.cQ P G all tail (b :: bs) i acc (⟨d,op,ty,pos,aft,none⟩ :: rest) s =
  Ev.bH P G ⟨d,op,ty,pos,aft,none⟩ (fun f s'=>fw b f acc/\Ev.cQ P G all tail bs (i+1) (dy i f acc) rest s') s:=by
 simp [Ev.cQ,ee,aU]
theorem CX (fv:Operand)(args:Array Operand)(ats:Array TypeId):Ev.bH P G ⟨d,.call ⟨.value fv,args,ats⟩,ty,pos,aft,g⟩ K s =
  ∃ v e k f,Ev.gZ P G (aj G s.ρ fv) (args.toList.map (aj G s.ρ)) s.H v e k f/\K f ⟨aG s.ρ d v,⟨Ev.bV e s.H.get,s.H.next+k⟩⟩:=rfl
theorem CY (t:TypeId)(x:Operand):Ev.bH P G ⟨d,.load t x,ty,pos,aft,g⟩ K s=bH P G ⟨d,.load t x,ty,pos,aft,g⟩ K s:=rfl
theorem ON (t:TypeId)(x:Operand)(f:Nat):Ev.bH P G ⟨d,.fieldAddr t x f,ty,pos,aft,g⟩ K s=bH P G ⟨d,.fieldAddr t x f,ty,pos,aft,g⟩ K s:=rfl
theorem OO (t:TypeId)(p:Array (Nat × Operand)):Ev.bH P G ⟨d,.build t p,ty,pos,aft,g⟩ K s=bH P G ⟨d,.build t p,ty,pos,aft,g⟩ K s:=rfl
theorem CZ (a:Nat):Ev.kq a (a+1)=[a]:=by
 unfold Ev.kq;rw[Nat.add_sub_cancel_left];simp [List.range_succ]
theorem C0 {H:AHeap}{bk:Blk}:(⟨Ev.bV (Ev.dZ H.next (H.next+1) (fun _=>true) (ext ⟨fun _=>none,H.next⟩ [bk]).get) H.get,H.next+1⟩:AHeap)=ext H [bk]:=by
 unfold ext;simp only[List.length_singleton];congr 1
 funext j
 unfold Ev.bV Ev.dZ;by_cases h:H.next<=j/\j<H.next+1
 ·have:j=H.next:=by omega
  subst this;simp
 ·simp [h]
theorem aB.OP {lo k g':Nat}{H:AHeap}{e e':TypeId}{v:AVal}{cs c:List AVal}(h:aB lo H e v cs)(hk:H.get k=some (.arr g' e' c))(hne:e'≠e):∀ g n,v≠.own k g 0 n 1:=fun g n hv=>by
 rcases h with ⟨h1,_⟩|⟨i,g2,_,_,h3,h4⟩
 ·rw[h1]at hv;cases hv
 ·rw[h3]at hv;obtain rfl:=(AVal.own.inj hv).1;rw[h4]at hk;cases hk;exact hne rfl
theorem C2 (t:TypeId):Ev.bH P G ⟨d,.alloc t,ty,pos,aft,g⟩ K s=bH P G ⟨d,.alloc t,ty,pos,aft,g⟩ K s:=rfl
end Go.Hx
namespace Go.Hx
theorem N4 {P:Program}{t:TypeId}{x y:Operand}{k':IntKind}{a:Int}(h:0<=a):aQ P .shr t x y (.lit (.int .u64 a)) (.lit (.int k' 1))=some (.lit (.int .u64 (a / 2))):=by
 rw[nE (by decide)];have e:a.fdiv (2 ^ (min (1:Int).toNat (IntKind.bits .u64)))=a / 2:=Int.fdiv_eq_ediv_of_nonneg a (by decide);rw[e]
end Go.Hx
namespace Go.Proofs
open Go.Hx
set_option maxHeartbeats 4000000 in
theorem N5 {own X b9 b10:Nat}(hp:0<own)(lo1:(bh 18446744073709551616 own).length<2 ^ 36)(lX:(bh 18446744073709551616 X).length<2 ^ 37)(q:Nat)(hq:q<1000000)(H:AHeap)(g9:H.get b9=some (.arr 0 100 [cI (bh 18446744073709551616 own)]))(g10:H.get b10=some (.arr 0 100 [cI (bh 18446744073709551616 X)]))(hb9:b9<H.next)(hb10:b10<H.next)
  (K:ARes->AHeap->Prop) (hK:K (.ret (.lit (.bool (decide (X<own*(q+1)))))) H):ae Try.prog G0 54 [aa q,.ptr b9 0 0,.ptr b10 0 0] H K:=by
 refine ae.clo ⟨_,Try.func54,rfl,rfl⟩ fun hcl=>?_;have hB:2<=18446744073709551616:=by decide
 have l9:=ak g9;obtain⟨D,hD⟩:∃ D,D=bh 18446744073709551616 own:=⟨_,rfl⟩
 rw[<- hD]at l9 g9 lo1;have Dn:NormD 18446744073709551616 D:=by rw[hD];exact jx hB _
 have Dv:aS 18446744073709551616 D=own:=by rw[hD,gO hB]
 have Dne:D≠[]:=fun e=>by rw[e]at Dv;have:aS 18446744073709551616 []=0:=rfl;omega
 have l9E:∀ L,(ext H L).live b9 0=_:=fun L=>(eP hb9).trans l9;have rz:List.replicate 0 (AVal.lit (.int .u64 0))=[]:=rfl;have Dl:(D.map aW).length=D.length:=List.length_map ..;obtain⟨sl,H2,hA,hO,hn2,hp2⟩:=sQ (P:=Try.prog) (H:=ext H [.arr 0 104 []]) (t:=100) (e:=104) (lo:=H.next) (v:=.own H.next 0 0 0 1) (cs:=[]) (src:=D.map aW) (n:=H.next+1) Try.underlying100 Try.yF Try.yH (by rw[List.all_map,List.all_eq_true];intro y _;rfl) (by rw[Try.yG,Dl];simp;omega) (aB.new (H:=H) (cs:=[])) (by rw[bI];simp) (by rw[bI];simp);rw[Dl]at hA;rw[bI]at hn2;simp only[List.length_cons,List.length_nil,List.nil_append]at hn2 hO;have so:=hO.one;have sc:=hO.cells;refine ae.cD (n:=17) (rs:=[.tmp 4]) Try.func54 rfl rfl rfl (by decide) (by simp) ?_;refine W.seq (ab _ _ _ (by rfl) ?_);simp only[go_sem];refine W.seq (ab _ _ _ (by rfl) ?_);simp only[go_sem,l9E,rz,hA,so,sc];obtain⟨H3,hH3⟩:∃ H3,H3=ext H2 [.arr 0 100 [sl]]:=⟨_,rfl⟩
 have n3:H3.next=H2.next+1:=by rw[hH3];rfl
 have g5:H3.get H2.next=some (.arr 0 100 [sl]):=by rw[hH3];exact cu
 have o3:∀ id,id<H.next->H3.get id=H.get id:=fun id h=>by
  rw[hH3,dz (by omega),hp2 id (by rw[bI];simp;omega) fun g' n' e=>by cases e;omega];exact dz h
 have hO3:aB H.next H3 104 sl (D.map aW):=by rw[hH3];exact hO.over (.ext _ _)
 refine W.env fun E hE=>?_;have e0:E 0=aa q:=by rw[hE];simp only[go_sem]
 have e2:E 2=.ptr b10 0 0:=by rw[hE];simp only[go_sem]
 have e5:E 5=.ptr H2.next 0 0:=by rw[hE];simp only[go_sem]
 clear hE;rw[<- hH3];clear hH3;have u1:=IntWalk.u64_in (q:Int) (by omega);have u2:=IntWalk.u64_in ((q:Int)+1) (by omega);refine W.seq (ab _ _ _ (by rfl) ?_);simp only[go_sem,e0,e5,u1,u2];refine aw.clo (uk (lo:=H.next) (b:=H2.next) (w:=q+1) (by omega) Dn (by omega) H3 (by omega) (by omega) g5 hO3 (fun e=>absurd e Dne) _ fun H4 sl4 hn4 old4 g4 hO4 _=>⟨trivial,?_⟩);rw[Dv]at hO4;have o4:∀ id,id<H.next->H4.get id=H.get id:=fun id h=>(old4 id (by omega) (by omega) (aB.po hO3 h)).trans (o3 id h);have l5:=ak g4;have l10:=ak ((o4 b10 hb10).trans g10);have lM:(bh 18446744073709551616 (own*(q+1))).length<2 ^ 40:=by
  have h1:=uc Dn.lt;rw[Dv]at h1;have h2:own*(q+1)<18446744073709551616 ^ (D.length+1):=by rw[Nat.pow_succ];exact Nat.mul_lt_mul_of_lt_of_le h1 (by omega) (by decide)
  have:=ue hB h2;omega
 simp only[go_sem];refine ab _ _ _ (by rfl) ?_;simp only[go_sem,e5,e2,l5,l10];have ov4:Over H H4:=⟨by omega,o4⟩
 refine aw.wE H.next (args':=[cI (bh 18446744073709551616 (own*(q+1))),cI (bh 18446744073709551616 X)]) aV rfl (fun j hj _=>match j,hj with
  | 0,_=>hO4.ze fun i hi=>hi
  | 1,_=>.vec rfl fun i hi _=>by simp only[List.getElem_map];exact .lit _) (Cp hB (jx hB _) (jx hB _) lM (by omega) _ _ ⟨trivial,?_⟩)
 rw[gO hB,gO hB];have ov5:Over H (H4.cut H.next):=ov4.cut;by_cases hc:X<own*(q+1)
 ·rw[yc hc];rw[decide_eq_true hc]at hK;simp only[go_sem];exact av.bY aV hcl ov5 (.lit _) hK
 ·have h1:¬ eY (own*(q+1)) X > 0:=by have:=CL.2 (show own*(q+1)<=X by omega);omega
  rw[decide_eq_false hc]at hK;simp only[go_sem,h1];exact av.bY aV hcl ov5 (.lit _) hK
set_option maxHeartbeats 2000000 in
theorem N6 {own X b9 b10:Nat}(hp:0<own)(lo1:(bh 18446744073709551616 own).length<2 ^ 36)(lX:(bh 18446744073709551616 X).length<2 ^ 37)(H:AHeap)(g9:H.get b9=some (.arr 0 100 [cI (bh 18446744073709551616 own)]))(g10:H.get b10=some (.arr 0 100 [cI (bh 18446744073709551616 X)]))(hb9:b9<H.next)(hb10:b10<H.next)
  (K:ARes->AHeap->Prop) (hK:K (.ret (aa (ma own X))) H):ae Try.prog G0 53 [aa 1000000,.clo 54 [] [.ptr b9 0 0,.ptr b10 0 0]] H K:=by
 refine ae.cD (n:=26) (rs:=[.tmp 4]) Try.func53 rfl rfl rfl (by decide) (by simp) ?_;refine W.seq (ab _ _ _ (by rfl) ?_);simp only[go_sem];refine W.seq (ab _ _ _ (by rfl) ?_);simp only[go_sem];refine W.env fun E hE=>?_;have e1:E 1=.clo 54 [] [.ptr b9 0 0,.ptr b10 0 0]:=by rw[hE];simp only[go_sem]
 have e5:E 5=aa 0:=by rw[hE];simp only[go_sem]
 have e6:E 6=aa 1000000:=by rw[hE];simp only[go_sem]
 clear hE;refine W.seq (W.block ?_);refine W.aI 33554144 (by kernel_rfl) (fun ρ Hx=>Hx=H/\∃ i j:Nat,ρ 5=aa i/\ρ 6=aa j/\i<=j/\j<=1000000/\own*i<=X/\(j=1000000\/X<own*(j+1))) (fun ρ Hx=>(iv (ρ 6)).toNat - (iv (ρ 5)).toNat) ?_ ?_
 ·exact⟨rfl,0,1000000,e5,e6,by omega,by omega,by simp,.inl rfl⟩
 rintro ρ Hx ⟨hHx,i,j,h5,h6,hij,hj,hi,hup⟩;rw[hHx];clear hHx;refine W.env fun E1 hE1=>?_;have f1:E1 1=.clo 54 [] [.ptr b9 0 0,.ptr b10 0 0]:=by rw[hE1];simp only[go_sem,e1]
 have f5:E1 5=aa i:=by rw[hE1];simp only[go_sem,h5]
 have f6:E1 6=aa j:=by rw[hE1];simp only[go_sem,h6]
 clear hE1;by_cases hb:(i:Int)<j;rotate_left
 ·refine ab _ _ _ (by rfl) ?_;simp only[go_sem,f5,f6,hb];refine ab _ _ _ (by rfl) ?_;simp only[go_sem,f5];have e:i=j:=by omega
  rw[<- e]at hup;rw[<- N3 hp hi (by omega) hup]at hK;exact av.mk (Nat.le_refl _) hK
 obtain⟨m,hm⟩:∃ q,q=(i+j) / 2:=⟨_,rfl⟩
 have w1:=IntWalk.i64_in ((i:Int)+j) (by omega);have w2:=IntWalk.u64_in ((i:Int)+j) (by omega);have hs:∀ (t:TypeId) (x y:Operand) (k':IntKind),aQ Try.prog .shr t x y (.lit (.int .u64 ((i:Int)+j))) (.lit (.int k' 1))=some (.lit (.int .u64 (m:Int))):=fun t x y k'=>by rw[N4 (by omega),hm];congr 3
 have w3:=IntWalk.i64_in (m:Int) (by omega);have w4:=IntWalk.i64_in ((m:Int)+1) (by omega);refine ab _ _ _ (by rfl) ?_;simp only[go_sem,f1,f5,f6,hb,w1,w2,hs,w3];refine aw.clo (N5 hp lo1 lX m (by omega) H g9 g10 hb9 hb10 _ ⟨trivial,?_⟩);by_cases hc:X<own*(m+1)
 ·rw[decide_eq_true hc];simp only[go_sem];exact⟨⟨i,m,f5,rfl,by omega,by omega,hi,.inr hc⟩,by rw[h5,h6,f5];simp only[aa,aM];omega⟩
 ·rw[decide_eq_false hc];simp only[go_sem,w4];exact⟨⟨m+1,j,rfl,f6,by omega,hj,by omega,hup⟩,by rw[h5,h6,f6];simp only[aa,aM];omega⟩
noncomputable def ur (g:Int)(ns:List NodeP)(gm:Int)(ms:List NodeP)(cs:List Int)(xs:List (List Int)):AVal :=
 if j7 g ns gm ms cs xs=0 then (if iV ns xs=true then .tup [aa (ma (fC ns gm ms xs) (fC ms g ns xs*1000)),aa 0] else .tup [aa 0,aa 7]) else .tup [aa 0,aa (j7 g ns gm ms cs xs)]
theorem N7 (g:Int)(ns:List NodeP)(hok:NetOk g ns)(gm:Int)(ms:List NodeP)(hm1:1<=gm/\gm<=60)(hm8:ms.length<=6)(cs:List Int)(xs:List (List Int))(h6:ns.length<=6)(h40:xs.length<=64)(hrow:∀ r∈xs,r.length=ns.length)(h0:fC ns gm ms xs=0)(H:AHeap)(K:ARes->AHeap->Prop)
  (hK:K (.ret (.lit (.slice none 0 0))) H):
  ae Try.prog G0 50 [aO g ns,aO gm ms,cO cs xs] H K :=
 ae.clo ⟨_,Try.func50,rfl,rfl⟩ fun hcl=>ae.fin (yp g ns hok gm ms hm1 hm8 cs xs h6 h40 hrow H _ fun sl Hx ho _ hz=>⟨sl,rfl,by
  rw[hz (by rw[show eH ns (gm.toNat ^ ms.length) xs=0 from h0];exact uj (by decide))];exact av.bY aV hcl ho (.lit _) hK⟩)
theorem N8 {H:AHeap}(g:Int)(ns:List NodeP)(hok:NetOk g ns)(gm:Int)(ms:List NodeP)(hm1:1<=gm/\gm<=60)(hm8:ms.length<=6)(cs:List Int)(xs:List (List Int))(h6:ns.length<=6)(h40:xs.length<=64)(hrow:∀ r∈xs,r.length=ns.length){l:List Nat}(hl:l=bh 18446744073709551616 (fC ns gm ms xs))(hne:l≠[]):
  Ev.gZ Try.prog G0 (.clo 50 [] []) [.agg [.lit (.int .i64 g),.vec ns.length (ar ns)],.agg [.lit (.int .i64 gm),.vec ms.length (ar ms)],.agg [.vec cs.length (ints cs),.vec xs.length (xs.map af)]] H (.own H.next 0 0 l.length 1) (Ev.dZ H.next (H.next+1) (fun _=>true) (ext ⟨fun _=>none,H.next⟩ [.arr 0 104 (l.map aW)]).get) 1 ⟨Ev.kq H.next (H.next+1),[]⟩:=by
 have pl:∀ i (h:i<(l.map aW).length),Ids (fun _=>False) (l.map aW)[i]:=fun i hi=>by simp only[List.getElem_map];exact .lit _
 refine Dk (fun r h=>by cases h) pl fun H2 _=>?_;refine ae.clo ⟨_,Try.func50,rfl,rfl⟩ fun hcl=>?_;have:=ae.Ox (P:=Try.prog) (G:=G0) (f:=50) (args:=[aO g ns,aO gm ms,cO cs xs]) (e:=104) hcl pl (yp g ns hok gm ms hm1 hm8 cs xs h6 h40 hrow H2 _ fun sl Hx ho hO _=>by
  rw[show bh 18446744073709551616 (eH ns (gm.toNat ^ ms.length) xs)=l from hl.symm]at hO;rcases hO with ⟨_,h⟩|⟨id,g',i1,_,rfl,hg⟩
  ·exact absurd (List.map_eq_nil_iff.1 h) hne
  ·exact⟨id,g',rfl,i1,ho,hg⟩)
 rw[List.length_map]at this;exact this
theorem N9 {P:Program}{G:Nat->Option (List AVal)}{f:FuncId}{args:List AVal}{H:AHeap}{v:AVal}(h:∀ H2,ae P G f args H2 fun r H3=>r=.ret v/\H3=H2):Ev.gZ P G (.clo f [] []) args H v (fun _=>none) 0 ⟨[],[]⟩ :=
 ⟨fun r hr=>(by cases hr),fun r (hr:false=true)=>absurd hr (by decide),fun c hc=>absurd hc (Nat.not_lt_zero _),fun H2 _ _ _=>aw.clo (by rw[List.nil_append,List.append_nil];exact h H2)⟩
theorem Oa {g:Nat->Option Blk}:Ev.bV (fun _=>none) g=g:=rfl
set_option maxHeartbeats 8000000 in
theorem Ob (g:Int)(ns:List NodeP)(gm:Int)(ms:List NodeP)(cs:List Int)(xs:List (List Int))(hn:fj ns)(hm:fj ms)(hf:kL cs xs)(H:AHeap)(K:ARes->AHeap->Prop)(hK:K (.ret (ur g ns gm ms cs xs)) H):
  ae Try.prog G0 23 [aO g ns,aO gm ms,cO cs xs] H K:=by
 refine ae.clo ⟨_,Try.func23,rfl,rfl⟩ fun hcl=>?_;have fin:∀ (a b:Int) (Hx:AHeap),Over H Hx->K (.ret (.tup [aa a,aa b])) H->av Try.prog G0 H K (.tup [aa a,aa b]) Hx:=fun a b Hx ho hk=>av.bY aV hcl ho (.tup rfl fun i hi _=>match i,hi with
  | 0,_=>.lit _
  | 1,_=>.lit _) hk
 have r2:(List.replicate 2 [AVal.lit (.int .i64 0),AVal.lit (.slice none 0 0)]).flatten=[.lit (.int .i64 0),.lit (.slice none 0 0),.lit (.int .i64 0),.lit (.slice none 0 0)]:=rfl;refine ae.cD (n:=34) (rs:=[.tmp 6,.tmp 7]) Try.func23 rfl rfl rfl (by decide) (by simp) ?_;refine W.seq (ab _ _ _ (by rfl) ?_);simp only[go_sem,aO,cM,cO,aE];refine W.seq (ab _ _ _ (by rfl) ?_);simp only[go_sem,r2,List.drop_succ_cons,List.drop_zero];obtain⟨H1,hH1⟩:∃ H1,H1=ext H [.arr 0 35 [aa g,.vec ns.length (ar ns)],.arr 0 35 [aa gm,.vec ms.length (ar ms)],.arr 0 42 [.vec cs.length (ints cs),.vec xs.length (xs.map af)],.arr 0 35 [aa g,.vec ns.length (ar ns),aa gm,.vec ms.length (ar ms)]]:=⟨_,rfl⟩
 have n1:H1.next=H.next+4:=by rw[hH1];rfl
 have o1:Over H H1:=by rw[hH1];exact .ext _ _
 have g0:H1.get H.next=some (.arr 0 35 [aa g,.vec ns.length (ar ns)]):=by rw[hH1];exact dp ..
 have g1:H1.get (H.next+1)=some (.arr 0 35 [aa gm,.vec ms.length (ar ms)]):=by rw[hH1];exact bg H _ 1 (by simp)
 have g2:H1.get (H.next+2)=some (.arr 0 42 [.vec cs.length (ints cs),.vec xs.length (xs.map af)]):=by rw[hH1];exact bg H _ 2 (by simp)
 have g3:H1.get (H.next+3)=some (.arr 0 35 (dP [(g,ns),(gm,ms)])):=by rw[hH1];exact bg H _ 3 (by simp)
 show aw _ _ _ _ (ext H [.arr 0 35 [aa g,.vec ns.length (ar ns)],.arr 0 35 [aa gm,.vec ms.length (ar ms)],.arr 0 42 [.vec cs.length (ints cs),.vec xs.length (xs.map af)],.arr 0 35 [aa g,.vec ns.length (ar ns),aa gm,.vec ms.length (ar ms)]]) _;rw[<- hH1];clear hH1;have l0:=ak g0;have l1:=ak g1;have l2:=ak g2;refine aw.clo ((x6 [(g,ns),(gm,ms)] cs xs (fun p hp=>by
  simp only[List.mem_cons,List.not_mem_nil,or_false]at hp;rcases hp with rfl|rfl
  ·exact hn
  ·exact hm) hf (by simp) H1 g3).mono ?_)
 rintro rres Hq ⟨hrq,hHq⟩;rw[hHq,hrq];refine⟨trivial,?_⟩;unfold ur at hK;obtain⟨e,he⟩:∃ e,e=j7 g ns gm ms cs xs:=⟨_,rfl⟩
 rw[show iU [(g,ns),(gm,ms)] cs xs=e from he.symm];rw[<- he]at hK;by_cases h0:e=0;rotate_left
 ·rw[if_neg h0]at hK;simp only[go_sem,h0];exact fin 0 e H1 o1 hK
 rw[if_pos h0]at hK;rw[h0]at he ⊢;obtain⟨e1,e2⟩:=CJ he.symm;obtain⟨nok,_,_⟩:=mW e1;obtain⟨n6,h40,nrow⟩:=mX e1;obtain⟨mok,_,_⟩:=mW e2;obtain⟨m6,_,mrow⟩:=mX e2;have ln:=(uq nok n6 mok.g1 m6 h40 nrow).1;have lm:=(uq mok m6 nok.g1 n6 h40 mrow).1;simp only[go_sem];refine W.seq (ab _ _ _ (by rfl) ?_);simp only[go_sem,l0,l2];refine aw.clo (xW g ns nok cs xs (by omega) nrow _ _ ⟨trivial,?_⟩);simp only[go_sem];refine aw.clo (Cb (xs.map (dG ns)) (by rw[List.length_map];omega) _ _ ⟨trivial,?_⟩);unfold iV at hK;by_cases hz:(0:Int)∈xs.map (dG ns)
 ·rw[decide_eq_false (fun hh=>hh hz),if_neg (by decide)]at hK;simp only[go_sem,hz];exact fin 0 7 H1 o1 hK
 rw[decide_eq_true hz,if_pos rfl]at hK;have hpos:=CK nok (gm:=gm) mok.g1.1 ms nrow hz;obtain⟨own,hown⟩:∃ q,q=fC ns gm ms xs:=⟨_,rfl⟩
 obtain⟨oth,hoth⟩:∃ q,q=fC ms g ns xs:=⟨_,rfl⟩
 rw[<- hown]at hK ln hpos;rw[<- hoth]at hK lm;obtain⟨D,hD⟩:∃ D,D=bh 18446744073709551616 own:=⟨_,rfl⟩
 have Dne:D≠[]:=fun e=>by
  have h1:=gO (B:=18446744073709551616) (by decide) own;rw[<- hD,e]at h1;have:aS 18446744073709551616 []=0:=rfl;omega
 simp only[go_sem,hz];refine W.env fun F hF=>?_;have f3:F 3=.ptr H.next 0 0:=by rw[hF];simp only[go_sem]
 have f4:F 4=.ptr (H.next+1) 0 0:=by rw[hF];simp only[go_sem]
 have f5:F 5=.ptr (H.next+2) 0 0:=by rw[hF];simp only[go_sem]
 clear hF;have f10:(0:Nat)=0:=rfl;have lD:D.length<2 ^ 36:=by rw[hD];exact ln
 have lfz:∀ (l:List Nat) (S:Nat->Prop) (Hq:AHeap) (nx:Nat),Fz S Hq nx (cI l) (cI l):=fun l S Hq nx=>.vec rfl fun i hi _=>by simp only[List.getElem_map];exact .lit _
 refine W.cL (fun s'=>∃ (b9 b10:Nat) (sl:AVal),s'.ρ 9=.ptr b9 0 0/\s'.ρ 10=.ptr b10 0 0/\Over H1 s'.H/\(H1.next<=b9/\b9<s'.H.next)/\(H1.next<=b10/\b10<s'.H.next)/\b9≠b10/\s'.H.get b9=some (.arr 0 100 [cI D])/\s'.H.get b10=some (.arr 0 100 [sl])/\aB H1.next s'.H 104 sl ((bh 18446744073709551616 oth).map aW)/\(bh 18446744073709551616 oth=[]->sl=.lit (.slice none 0 0))) ?_ ?_
 ·by_cases ho:bh 18446744073709551616 oth=[]
  ·have ho0:oth=0:=by
    have h1:=gO (B:=18446744073709551616) (by decide) oth;rw[ho]at h1;exact h1.symm
   refine W.draw 10 [0,0,0,7,0,0,0,127,0,0] Try.mixed (by kernel_rfl) (by kernel_rfl) ?_;simp only[go_sem,f3,f4,f5,l0,l1,l2];refine⟨cI D,[],dx.pure (fun Hz=>um g ns nok gm ms mok.g1 m6 cs xs n6 (by omega) nrow Hz _ ⟨by rw[hD,hown];rfl,rfl⟩),?_⟩;simp only[go_sem];refine⟨.lit (.slice none 0 0),[],dx.pure (fun Hz=>N7 gm ms mok g ns nok.g1 n6 cs xs m6 (by omega) mrow (by rw[<- hoth];exact ho0) Hz _ ⟨rfl,rfl⟩),?_⟩;have z0:(ext (ext H1 [.arr 0 100 [.lit (.slice none 0 0)]]) [.arr 0 100 [.lit (.slice none 0 0)]]).live H1.next 0=some (100,[.lit (.slice none 0 0)]):=(by rw[gG];exact ak (bg H1 _ 0 (by simp)));have z1:∀ b,((ext (ext H1 [.arr 0 100 [.lit (.slice none 0 0)]]) [.arr 0 100 [.lit (.slice none 0 0)]]).upd H1.next b).live (H1.next+1) 0=some (100,[.lit (.slice none 0 0)]):=fun b=>by rw[pM (by omega),gG];exact ak (bg H1 _ 1 (by simp))
   simp only[go_sem,z0,z1];refine⟨by repeat' (first|refine And.intro ?_ ?_|(intro x hx;omega)),by repeat' (first|refine And.intro ?_ ?_|(intro x hx;omega)),?_⟩;refine⟨H1.next,H1.next+1,.lit (.slice none 0 0),rfl,rfl,((((Over.refl H1).trans (.ext _ _)).trans (.ext _ _)).upd (by omega) _).upd (by omega) _,⟨by omega,by rw[aA,aA,bI,bI];simp;omega⟩,⟨by omega,by rw[aA,aA,bI,bI];simp⟩,by omega,by rw[ag,if_neg (by omega),ag,if_pos rfl],by rw[ag,if_pos rfl],?_,fun _=>rfl⟩;rw[ho];exact .nil
  ·obtain⟨Q,hQ⟩:∃ Q,Q=bh 18446744073709551616 oth:=⟨_,rfl⟩
   rw[<- hQ]at ho lm ⊢;refine Ev.W.vt 10 [0,0,0,7,0,0,0,127,0,0] Try.mixed (by kernel_rfl) (by kernel_rfl) ?_;simp only[go_sem,f3,f4,f5,l0,l1,l2,CV,CW,CX,CY,C2];refine⟨cI D,_,_,_,N9 fun Hz=>um g ns nok gm ms mok.g1 m6 cs xs n6 (by omega) nrow Hz _ ⟨by rw[hD,hown];rfl,rfl⟩,?_⟩;simp only[go_sem,f3,f4,f5,l0,l1,l2,Oa];refine⟨_,_,_,_,N8 gm ms mok g ns nok.g1 n6 cs xs m6 (by omega) mrow (l:=Q) (by rw[hQ,hoth]) ho,?_⟩;obtain⟨R,hR⟩:∃ R,R=ext H1 [.arr 0 104 (Q.map aW)]:=⟨_,rfl⟩
   have nR:R.next=H1.next+1:=(by rw[hR];rfl);have oR:Over H1 R:=(by rw[hR];exact .ext _ _);have gR:R.get H1.next=some (.arr 0 104 (Q.map aW)):=(by rw[hR];exact cu);have z0:(ext (ext R [.arr 0 100 [.lit (.slice none 0 0)]]) [.arr 0 100 [.lit (.slice none 0 0)]]).live R.next 0=some (100,[.lit (.slice none 0 0)]):=(by rw[gG];exact ak (bg R _ 0 (by simp)));have z1:∀ b,((ext (ext R [.arr 0 100 [.lit (.slice none 0 0)]]) [.arr 0 100 [.lit (.slice none 0 0)]]).upd R.next b).live (R.next+1) 0=some (100,[.lit (.slice none 0 0)]):=fun b=>by rw[pM (by omega),gG];exact ak (bg R _ 1 (by simp))
   rw[nR]at z0 z1;simp only[go_sem,C0,CZ,<- hR,z0,z1];refine⟨by repeat' (first|refine And.intro ?_ ?_|(intro x hx;omega)),by repeat' (first|refine And.intro ?_ ?_|(intro x hx;omega)),?_⟩;refine⟨H1.next+1,H1.next+1+1,.own H1.next 0 0 Q.length 1,rfl,rfl,(((oR.trans (.ext _ _)).trans (.ext _ _)).upd (by omega) _).upd (by omega) _,⟨by omega,by rw[aA,aA,bI,bI];simp;omega⟩,⟨by omega,by rw[aA,aA,bI,bI];simp;omega⟩,by omega,by rw[ag,if_neg (by omega),ag,if_pos rfl],by rw[ag,if_pos rfl],.inr ⟨H1.next,0,Nat.le_refl _,by rw[aA,aA,bI,bI];simp;omega,by rw[List.length_map],?_⟩,fun e=>absurd e ho⟩;rw[ag,if_neg (by omega),ag,if_neg (by omega),dz (by rw[bI];simp;omega),dz (by omega)];exact gR
 ·rintro⟨F2,H3⟩ ⟨b9,b10,sl,q9,q10,ov,hb9,hb10,hne,g9,g10,hO,hz2⟩;simp only at q9 q10 ov hb9 hb10 g9 g10 hO;have h31:=ov.next;refine W.seq (ab _ _ _ (by rfl) ?_);simp only[go_sem,q10];refine aw.clo (uk (lo:=H1.next) (b:=b10) (w:=1000) (by decide) (jx (by decide) oth) lm H3 (by omega) (by omega) g10 hO hz2 _ fun H4 sl4 hn4 old4 g4 hO4 _=>⟨trivial,?_⟩);rw[gO (by decide)]at hO4;obtain⟨X,hX⟩:∃ q,q=oth*1000:=⟨_,rfl⟩
  rw[<- hX]at hO4 hK;have lX:(bh 18446744073709551616 X).length<2 ^ 37:=by
   have h1:=uc (B:=18446744073709551616) (l:=bh 18446744073709551616 oth) (jx (by decide) _).lt;rw[gO (by decide)]at h1;have h2:X<18446744073709551616 ^ ((bh 18446744073709551616 oth).length+1):=(by rw[hX,Nat.pow_succ];exact Nat.mul_lt_mul_of_lt_of_le h1 (by decide) (by decide));have:=ue (B:=18446744073709551616) (by decide) h2;omega
  have g94:H4.get b9=some (.arr 0 100 [cI D]):=(old4 b9 (by omega) hne (aB.OP hO g9 (by decide))).trans g9;have ov4:Over H1 H4:=⟨by omega,fun id h=>(old4 id (by omega) (by omega) (aB.po hO h)).trans (ov.old id h)⟩
  simp only[go_sem];obtain⟨rk,h1,h2,h3,hfz⟩:∃ rk,H.next<=rk/\rk≠b9/\b10≠rk/\Fz (fun id=>id=rk) H4 H4.next sl4 (cI (bh 18446744073709551616 X)):=by
   rcases hO4 with ⟨rfl,hnil⟩|⟨id,g',i1,i2,rfl,hg⟩
   ·exact⟨H.next,Nat.le_refl _,by omega,by omega,by rw[List.map_eq_nil_iff.1 hnil];exact .nil⟩
   ·refine⟨id,by omega,(fun e=>by rw[e,g94]at hg;cases hg),(fun e=>by rw[<- e,g4]at hg;cases hg),?_⟩;have:=Fz.frz (S:=fun i=>i=id) (nx:=H4.next) (o:=0) (l:=((bh 18446744073709551616 X).map aW).length) (z:=1) (c':=(bh 18446744073709551616 X).map aW) rfl hg (Nat.mul_one _).symm fun j h1 h2 h3=>by simp only[Nat.zero_add,List.getElem_map];exact .lit _
    rw[List.length_map]at this ⊢;exact this
  refine W.env fun F3 hF3=>?_;have p9:F3 9=.ptr b9 0 0:=by rw[hF3];simp only[go_sem,q9]
  have p10:F3 10=.ptr b10 0 0:=by rw[hF3];simp only[go_sem,q10]
  clear hF3;refine W.Af (dv.dB aV (s:=⟨F3,H4⟩) (rk:=rk) (ob:=b10) (cells':=[cI (bh 18446744073709551616 X)]) g4 h3 rfl (fun i hi _=>match i,hi with
   | 0,_=>hfz)) (Nat.le_refl _) trivial ?_
  obtain⟨H5,hH5⟩:∃ H5,H5=H4.dB rk b10 (.arr 0 100 [cI (bh 18446744073709551616 X)]):=⟨_,rfl⟩
  have n5:H5.next=H4.next:=by rw[hH5];rfl
  have g95:H5.get b9=some (.arr 0 100 [cI (bh 18446744073709551616 own)]):=by rw[hH5,pO h2.symm hne,<- hD];exact g94
  have g105:H5.get b10=some (.arr 0 100 [cI (bh 18446744073709551616 X)]):=by rw[hH5];exact rI h3
  have ov5:Over H H5:=⟨by omega,fun id h=>by rw[hH5,pO (by omega) (by omega)];exact(ov4.old id (by omega)).trans (o1.old id h)⟩
  show W _ _ _ _ _ _ ⟨F3,H4.dB rk b10 (.arr 0 100 [cI (bh 18446744073709551616 X)])⟩;rw[<- hH5];clear hH5;refine ab _ _ _ (by rfl) ?_;simp only[go_sem,p9,p10];refine aw.clo (N6 hpos ln lX H5 g95 g105 (by omega) (by omega) _ ⟨trivial,?_⟩);simp only[go_sem];exact fin _ 0 H5 ov5 hK
theorem Oc:∀ (s a b:List Int),eo (eo s a) b=eo (eo s b) a:=by
 intro s
 induction s with
 | nil=>intro a b;simp [eo]
 | cons x s ih =>
  intro a b;cases a with
  | nil=>cases b<;>simp [eo]
  | cons y a =>
   cases b with
   | nil=>simp [eo]
   | cons z b =>
    have:=ih a b;unfold eo at this ⊢;simp only[List.zipWith_cons_cons,this];rw[show x+y+z=x+z+y by omega]
theorem Od (ns:List NodeP)(x:NodeP)(v:Nat){xs ys:List (List Int)}(h:ys.Perm xs):cY ns x v ys=cY ns x v xs:=by
 unfold cY;exact List.Perm.foldl_eq' (f:=fun s r=>eo s (iq (kJ ns x v r))) h (fun a _ b _ z=>Oc z _ _) _
theorem Oe (g least:Int)(ns:List NodeP){xs ys:List (List Int)}(h:ys.Perm xs):jZ g least ns ys=jZ g least ns xs:=by
 unfold jZ;exact List.map_congr_left fun v _=>by rw[Od _ _ _ h]
theorem Of (ns:List NodeP){xs ys:List (List Int)}(h:ys.Perm xs):iV ns ys=iV ns xs:=by
 unfold iV;exact decide_eq_decide.2 (by rw[(h.map (dG ns)).mem_iff])
theorem Og (cs:List Int){xs ys:List (List Int)}(h:ys.Perm xs):iu cs ys=iu cs xs:=by
 rw[Bool.eq_iff_iff,yx,yx];exact⟨fun d=>⟨d.c1,by rw[<- h.length_eq];exact d.x1,d.card,d.size,fun r hr=>d.row r (h.mem_iff.2 hr)⟩,fun d=>⟨d.c1,by rw[h.length_eq];exact d.x1,d.card,d.size,fun r hr=>d.row r (h.mem_iff.1 hr)⟩⟩
theorem CM (g:Int)(ns:List NodeP)(cs:List Int){xs ys:List (List Int)}(h:ys.Perm xs):dU g ns cs ys=dU g ns cs xs:=by unfold dU;rw[Og cs h]
theorem CN (g:Int)(ns:List NodeP)(cs:List Int){xs ys:List (List Int)}(h:ys.Perm xs)(least:Int):iW g ns cs ys least=iW g ns cs xs least:=by unfold iW;rw[CM g ns cs h,Of ns h]
theorem Oh (g:Int)(ns:List NodeP)(cs:List Int){xs ys:List (List Int)}(h:ys.Perm xs)(least:Int):j5 g ns cs ys least=j5 g ns cs xs least:=by unfold j5;rw[CN g ns cs h,Oe g least ns h]
theorem Oi {g:Int}{ns:List NodeP}(h:NetOk g ns)(h5:ns.length<=5)(h2:∀ x∈ns,2<=x.card)(ws ms:List Int):DataOk (au ns) (lY ns ws ms):=by
 have hc:∀ c∈au ns,2<=c/\c<=4:=fun c hcm=>by
  obtain⟨y,hy,rfl⟩:=List.mem_map.1 hcm;exact⟨h2 y hy,(h.node y hy).1.2⟩
 refine⟨by rw[cG];have:=h.n1;omega,by unfold lY;rw[List.length_map,List.length_range];omega,hc,h.size,fun r hr=>?_⟩;unfold lY at hr;obtain⟨i,_,rfl⟩:=List.mem_map.1 hr;unfold qX;have hf:=DC (jW h) (ws.getD i 0 % aC (au ns));refine⟨by rw[oX,pt],fun v c b hcv hbv=>?_⟩;have hc2:=hc c (List.mem_of_getElem? hcv);obtain⟨q,hq⟩:=get_of_lt (l:=dW (au ns) (ws.getD i 0 % aC (au ns))) (i:=v) (by rw[pt];exact get_lt hcv);have hqr:=hf.2 v c q hcv hq;rw[ua hq]at hbv;cases hbv;split<;>omega
theorem Oj {g:Int}{ns:List NodeP}(h:NetOk g ns)(h5:ns.length<=5)(h2:∀ x∈ns,2<=x.card)(ws ms:List Int):dU g ns (au ns) (lY ns ws ms)=0:=by
 unfold dU;rw[if_pos (uQ h),if_pos (yw (Oi h h5 h2 ws ms)),if_pos rfl]
theorem CO {g:Int}{ns:List NodeP}(h:NetOk g ns):qZ g ns 0=true:=(uf h).2 ⟨Int.le_refl 0,fun x _=>by have:=h.g1;omega⟩
theorem Ol {a b:Nat}(ha:0<a):1000<=ma a (b*1000)↔a<=b:=by
 unfold ma;have h1:1000<=b*1000 / a↔a<=b:=by
  rw[Nat.le_div_iff_mul_le ha];omega
 omega
set_option maxHeartbeats 2000000 in
theorem Es (g:Int)(ns:List NodeP)(hf:fj ns)(H:AHeap)(K:ARes->AHeap->Prop)(hK:K (.ret (.lit (.bool true))) H):ae Try.prog G0 21 [aO g ns,aO g ns] H K:=by
 refine ae.clo ⟨_,Try.func21,rfl,rfl⟩ fun hcl=>?_;have hl:=hf.1;refine ae.cD (n:=81) (rs:=[.tmp 4]) Try.func21 rfl rfl rfl (by decide) (by simp) ?_;refine W.seq (ab _ _ _ (by rfl) ?_);simp only[go_sem,aO,cM];obtain⟨R,hR⟩:∃ R,R=ext H [.arr 0 35 [.lit (.int .i64 g),.vec ns.length (ar ns)],.arr 0 35 [.lit (.int .i64 g),.vec ns.length (ar ns)]]:=⟨_,rfl⟩
 have oR:Over H R:=by rw[hR];exact .ext _ _
 have nR:R.next=H.next+2:=by rw[hR];rfl
 have l0:R.live H.next 0=some (35,[.lit (.int .i64 g),.vec ns.length (ar ns)]):=by rw[hR];exact ak (dp ..)
 have l1:R.live (H.next+1) 0=some (35,[.lit (.int .i64 g),.vec ns.length (ar ns)]):=by rw[hR];exact ak (bg H _ 1 (by simp))
 rw[<- hR];clear hR;refine W.env fun E hE=>?_;have e2:E 2=.ptr H.next 0 0:=by rw[hE];simp only[go_sem]
 have e3:E 3=.ptr (H.next+1) 0 0:=by rw[hE];simp only[go_sem]
 clear hE;refine W.seq (ab _ _ _ (by rfl) ?_);simp only[go_sem,e2,e3,l0,l1];refine W.seq ?_;refine W.seq (ab _ _ _ (by rfl) ?_);simp only[go_sem];refine W.block ?_;refine W.env fun E1 hE1=>?_;have f2:E1 2=.ptr H.next 0 0:=by rw[hE1];simp only[go_sem,e2]
 have f3:E1 3=.ptr (H.next+1) 0 0:=by rw[hE1];simp only[go_sem,e3]
 have f5:E1 5=aa 0:=by rw[hE1];simp only[go_sem]
 clear hE1;refine W.aI 2417851639229258341024240 (by rfl) (fun ρ Hx=>∃ k:Nat,ρ 5=aa k/\k<=ns.length/\Over R Hx) (fun ρ H=>ns.length - (iv (ρ 5)).toNat) ?_ ?_
 ·simp only[go_sem,f5];exact⟨0,rfl,by omega,.refl _⟩
 rintro ρ Hx ⟨k,h5,hk,ov⟩;refine W.env fun E2 hE2=>?_;have a2:E2 2=.ptr H.next 0 0:=by rw[hE2];simp only[go_sem,f2]
 have a3:E2 3=.ptr (H.next+1) 0 0:=by rw[hE2];simp only[go_sem,f3]
 have a5:E2 5=aa k:=by rw[hE2];simp only[go_sem,h5]
 clear hE2;have x0:=(ov.live (g:=0) (by omega:H.next<R.next)).trans l0;have x1:=(ov.live (g:=0) (by omega:H.next+1<R.next)).trans l1;by_cases hb:(k:Int)<ns.length;rotate_left
 ·refine ab _ _ _ (by rfl) ?_;simp only[go_sem,a2,a5,x0,hb];refine ab _ _ _ (by rfl) ?_;simp only[go_sem];exact av.bY aV hcl (oR.trans ov) (.lit _) hK
 obtain⟨x,hx⟩:=get_of_lt (l:=ns) (i:=k) (by omega);obtain⟨g1,g2,g3⟩:=hf.2 x (List.mem_of_getElem? hx);have p0:=kf hx;have pne:=fa hx;have p1:k*3+3<=(ar ns).length:=by rw[fD];omega
 have w1:=IntWalk.i64_in ((k:Int)+1) (by omega);refine W.seq (ab _ _ _ (by rfl) ?_);simp only[go_sem,a2,a5,x0,hb];refine W.seq (W.block (W.seq ?_));obtain⟨zb,hzb⟩:∃ zb:Blk,zb=.arr 0 69 [.lit (.int .i64 0),.lit (.slice none 0 0),.lit (.slice none 0 0)]:=⟨_,rfl⟩
 have z0:(ext (ext Hx [.arr 0 69 [.lit (.int .i64 0),.lit (.slice none 0 0),.lit (.slice none 0 0)]]) [.arr 0 69 [.lit (.int .i64 0),.lit (.slice none 0 0),.lit (.slice none 0 0)]]).live Hx.next 0=some (69,[.lit (.int .i64 0),.lit (.slice none 0 0),.lit (.slice none 0 0)]):=by rw[gG];exact ak (bg Hx _ 0 (by simp))
 have z1:∀ b,((ext (ext Hx [.arr 0 69 [.lit (.int .i64 0),.lit (.slice none 0 0),.lit (.slice none 0 0)]]) [.arr 0 69 [.lit (.int .i64 0),.lit (.slice none 0 0),.lit (.slice none 0 0)]]).upd Hx.next b).live (Hx.next+1) 0=some (69,[.lit (.int .i64 0),.lit (.slice none 0 0),.lit (.slice none 0 0)]):=fun b=>by rw[pM (by omega),gG];exact ak (bg Hx _ 1 (by simp))
 have hnx:=ov.next;refine W.draw 13 [0,1,0,7,15,0,32,0,224,480,0,0,3103] Try.mixed (by kernel_rfl) (by kernel_rfl) ?_;simp only[go_sem,a2,a3,a5,x0,x1,hb,p0,p1,pne,aE,z0,z1];refine⟨by repeat' (first|refine And.intro ?_ ?_|(intro x hx;omega)),by repeat' (first|refine And.intro ?_ ?_|(intro x hx;omega)),?_⟩;refine⟨by repeat' (first|refine And.intro ?_ ?_|(intro x hx;omega)),?_⟩;obtain⟨H2,hH2⟩:∃ H2,H2=((ext (ext Hx [.arr 0 69 [.lit (.int .i64 0),.lit (.slice none 0 0),.lit (.slice none 0 0)]]) [.arr 0 69 [.lit (.int .i64 0),.lit (.slice none 0 0),.lit (.slice none 0 0)]]).upd Hx.next (.arr 0 69 [.lit (.int .i64 x.card),.vec x.parents.length (ints x.parents),.vec x.rows.length (x.rows.map af)])).upd (Hx.next+1) (.arr 0 69 [.lit (.int .i64 x.card),.vec x.parents.length (ints x.parents),.vec x.rows.length (x.rows.map af)]):=⟨_,rfl⟩
 have o2:Over Hx H2:=⟨by rw[hH2,aA,aA,gG,bI];omega,fun i h=>by rw[hH2,ag,if_neg (by omega),ag,if_neg (by omega),gG];exact dF _ _ _ h⟩
 have q0:H2.live Hx.next 0=some (69,[.lit (.int .i64 x.card),.vec x.parents.length (ints x.parents),.vec x.rows.length (x.rows.map af)]):=by rw[hH2,pM (by omega)];exact zl
 have q1:H2.live (Hx.next+1) 0=some (69,[.lit (.int .i64 x.card),.vec x.parents.length (ints x.parents),.vec x.rows.length (x.rows.map af)]):=by rw[hH2];exact zl
 refine W.env fun E3 hE3=>?_;have b2:E3 2=.ptr H.next 0 0:=by rw[hE3];simp only[go_sem,a2]
 have b3:E3 3=.ptr (H.next+1) 0 0:=by rw[hE3];simp only[go_sem,a3]
 have b5:E3 5=aa k:=by rw[hE3];simp only[go_sem,a5]
 have b6:E3 6=.ptr Hx.next 0 0:=by rw[hE3];simp only[go_sem]
 have b7:E3 7=.ptr (Hx.next+1) 0 0:=by rw[hE3];simp only[go_sem]
 clear hE3;rw[<- hH2];clear hH2;refine W.seq ?_;refine W.seq (ab _ _ _ (by rfl) ?_);simp only[go_sem,b6,b7,q0,q1];refine aw.clo (Eg x.parents x.parents (by omega) _ _ ⟨trivial,?_⟩);simp only[go_sem,b6,b7,q0,q1];refine ab _ _ _ (by rfl) ?_;simp only[go_sem];refine W.seq (ab _ _ _ (by rfl) ?_);simp only[go_sem];refine W.block ?_;refine W.env fun E4 hE4=>?_;have c2:E4 2=.ptr H.next 0 0:=by rw[hE4];simp only[go_sem,b2]
 have c3:E4 3=.ptr (H.next+1) 0 0:=by rw[hE4];simp only[go_sem,b3]
 have c5:E4 5=aa k:=by rw[hE4];simp only[go_sem,b5]
 have c6:E4 6=.ptr Hx.next 0 0:=by rw[hE4];simp only[go_sem,b6]
 have c7:E4 7=.ptr (Hx.next+1) 0 0:=by rw[hE4];simp only[go_sem,b7]
 have c8:E4 8=aa 0:=by rw[hE4];simp only[go_sem]
 clear hE4;refine W.aI 2417847027543239922024720 (by rfl) (fun ρ2 Hy=>Hy=H2/\∃ j:Nat,ρ2 8=aa j/\j<=x.rows.length) (fun ρ2 H=>x.rows.length - (iv (ρ2 8)).toNat) ?_ ?_
 ·simp only[go_sem,c8];exact⟨0,rfl,by omega⟩
 rintro ρ2 Hy ⟨rfl,j,h8,hj⟩;refine W.env fun E5 hE5=>?_;have d5:E5 5=aa k:=by rw[hE5];simp only[go_sem,c5]
 have d6:E5 6=.ptr Hx.next 0 0:=by rw[hE5];simp only[go_sem,c6]
 have d7:E5 7=.ptr (Hx.next+1) 0 0:=by rw[hE5];simp only[go_sem,c7]
 have d8:E5 8=aa j:=by rw[hE5];simp only[go_sem,h8]
 clear hE5;by_cases hc:(j:Int)<x.rows.length;rotate_left
 ·refine ab _ _ _ (by rfl) ?_;simp only[go_sem,d6,d8,q0,hc];refine ab _ _ _ (by rfl) ?_;simp only[go_sem,d5,w1];exact⟨Nat.le_trans ov.next o2.next,⟨k+1,rfl,by omega,ov.trans o2⟩,by rw[h5];simp only[aa,aM];omega⟩
 obtain⟨l,hl⟩:=get_of_lt (l:=x.rows) (i:=j) (by omega);have hll:=g3 l (List.mem_of_getElem? hl);have hlg:(x.rows.map af)[j]?=some (af l):=by rw[List.getElem?_map,hl];rfl
 have hln:=aN hl;have w2:=IntWalk.i64_in ((j:Int)+1) (by omega);refine W.seq (ab _ _ _ (by rfl) ?_);simp only[go_sem,d6,d8,q0,hc];refine W.seq (W.block (W.seq ?_));refine W.draw 10 [0,1,0,7,15,0,32,0,224,480] Try.mixed (by kernel_rfl) (by kernel_rfl) ?_;simp only[go_sem,d6,d7,d8,q0,q1,hc,hlg,hln];refine aw.clo (Eg l l (by omega) _ _ ⟨trivial,?_⟩);simp only[go_sem];refine ab _ _ _ (by rfl) ?_;simp only[go_sem];refine ab _ _ _ (by rfl) ?_;simp only[go_sem,d8,w2];exact⟨⟨j+1,rfl,by omega⟩,by rw[h8];simp only[aa,aM];omega⟩
theorem Om {α:Type}{l:List α}{i j:Nat}{a b:α}(hi:l[i]?=some a)(hj:l[j]?=some b):((l.set i b).set j a).Perm l:=by
 have h1:=get_lt hi;have h2:=get_lt hj;rw[List.getElem?_eq_getElem h1]at hi;rw[List.getElem?_eq_getElem h2]at hj;cases hi;cases hj;exact List.set_set_perm h1 h2
theorem CP {l:List (List Int)}{i:Nat}{b:List Int}(h:i<l.length):setAt (l.map af) i [.vec b.length (ints b)]=(l.set i b).map af:=by
 rw[iI (by simpa using h),List.map_set];rfl
theorem On {id g:Nat}{xs:List (List Int)}(hx:xs.length<=64)(H:AHeap)(hg:H.get id=some (.arr g 39 (xs.map af)))(K:ARes->AHeap->Prop)
  (hK:∀ ys:List (List Int),ys.Perm xs->K (.ret (.tup [])) (H.upd id (.arr g 39 (ys.map af)))):
  ae Try.prog G0 29 [.own id g 0 xs.length 1] H K:=by
 have lg:=ak hg;refine ae.cD (n:=28) (rs:=[]) Try.func29 rfl rfl rfl (by decide) (by simp) ?_;refine W.seq (ab _ _ _ (by rfl) ?_);have w1:=IntWalk.i64_in ((xs.length:Int) - 1) (by omega);simp only[go_sem,lg,w1];refine W.env fun E hE=>?_;have e0:E 0=.own id g 0 xs.length 1:=by rw[hE];simp only[go_sem]
 have e2:E 2=aa 0:=by rw[hE];simp only[go_sem]
 have e3:E 3=aa ((xs.length:Int) - 1):=by rw[hE];simp only[go_sem]
 clear hE;refine W.block ?_;refine W.aI 268435340 (by rfl) (fun ρ Hx=>∃ (i:Nat) (k:Int) (l:List (List Int)),ρ 2=aa i/\ρ 3=aa k/\i+k=(xs.length:Int) - 1/\(i:Int)<=xs.length/\l.Perm xs/\Hx=H.upd id (.arr g 39 (l.map af))) (fun ρ Hx=>(iv (ρ 3)+1).toNat) ?_ ?_
 ·exact⟨0,_,xs,e2,e3,by omega,by omega,.refl _,(yu hg).symm⟩
 rintro ρ Hx ⟨i,k,l,h2,h3,hik,hi,hp,hHx⟩;have hll:=hp.length_eq;refine W.env fun E1 hE1=>?_;have f0:E1 0=.own id g 0 xs.length 1:=by rw[hE1];simp only[go_sem,e0]
 have f2:E1 2=aa i:=by rw[hE1];simp only[go_sem,h2]
 have f3:E1 3=aa k:=by rw[hE1];simp only[go_sem,h3]
 clear hE1;have gl:Hx.get id=some (.arr g 39 (l.map af)):=by rw[hHx,ag,if_pos rfl]
 have ll:=ak gl;by_cases hb:(i:Int)<k;rotate_left
 ·refine ab _ _ _ (by rfl) ?_;simp only[go_sem,f2,f3,hb];rw[hHx];exact av.mk (by rw[aA];exact Nat.le_refl _) (hK l hp)
 obtain⟨k,rfl⟩:=Int.eq_ofNat_of_zero_le (show 0<=k by omega);obtain⟨a,ha⟩:=get_of_lt (l:=l) (i:=i) (by omega);obtain⟨b,hbk⟩:=get_of_lt (l:=l) (i:=k) (by omega);have ha':(l.map af)[i]?=some (.vec a.length (ints a)):=by rw[List.getElem?_map,ha];rfl
 have hb':(l.map af)[k]?=some (.vec b.length (ints b)):=by rw[List.getElem?_map,hbk];rfl
 have han:=aN ha';have b1:(i:Int)<xs.length:=by omega
 have b2:(k:Int)<xs.length:=by omega
 have ml:(l.map af).length=xs.length:=by rw[List.length_map,hll]
 have ml2:((l.set i b).map af).length=xs.length:=by rw[List.length_map,List.length_set,hll]
 have w2:=IntWalk.i64_in ((i:Int)+1) (by omega);have w3:=IntWalk.i64_in ((k:Int) - 1) (by omega);have st1:=CP (l:=l) (i:=i) (b:=b) (by omega);have st2:=CP (l:=l.set i b) (i:=k) (b:=a) (by rw[List.length_set];omega);refine W.seq (ab _ _ _ (by rfl) ?_);simp only[go_sem,f2,f3,hb];refine W.seq (W.block ?_);refine W.draw 14 [0,0,0,0,0,0,48,112,0,0,768,1792,4083,8179] Try.mixed (by kernel_rfl) (by kernel_rfl) ?_;simp only[go_sem,f0,f2,f3,ll,ml,ml2,b1,b2,ha',hb',st1,st2];refine⟨by omega,by omega,?_⟩;refine ab _ _ _ (by rfl) ?_;simp only[go_sem,f2,f3,w2,w3];refine⟨by simp only[aA];rw[hHx,aA];exact Nat.le_refl _,⟨i+1,(k:Int) - 1,(l.set i b).set k a,rfl,rfl,by push_cast;omega,by push_cast;omega,(Om ha hbk).trans hp,?_⟩,by rw[h3];simp only[aa,aM];omega⟩;rw[hHx,j8,j8]
theorem Oo (t:List (List Int))(ht:(t.length:Int)<2 ^ 40)(h0:0<t.length)(H:AHeap)(K:ARes->AHeap->Prop)(hK:K (.ret (.own H.next 1 0 t.length 1)) (ext H [.arr 1 39 (t.map af)])):ae Try.prog G0 28 [aE t] H K:=by
 refine ae.bM (n:=8) (rs:=[.tmp 2]) Try.func28 rfl rfl rfl (by decide) (by kernel_rfl) (by simp) ?_;simp only[go_sem,aE];intro b hlen;cases b with
 | true=>exact absurd (hlen (by simpa using h0)) (by decide)
 | false =>
  have hn:¬ t.length=0:=by omega
  simp only[go_sem,hn,dT];have hall:(t.map af).all AVal.one=true:=by simp [af,AVal.one]
  refine⟨by simp,⟨by simp,by omega,by omega,hall⟩,av.mk (by simp [bI]) ?_⟩;simpa using hK
theorem Oq {H:AHeap}{t:List (List Int)}(ht:(t.length:Int)<2 ^ 40)(h0:0<t.length):
  Ev.gZ Try.prog G0 (.clo 28 [] []) [.vec t.length (t.map af)] H (.own H.next 1 0 t.length 1) (Ev.dZ H.next (H.next+1) (fun _=>true) (ext ⟨fun _=>none,H.next⟩ [.arr 1 39 (t.map af)]).get) 1 ⟨Ev.kq H.next (H.next+1),[]⟩ :=
 Dk (fun r h=>by cases h) (fun i hi=>by
  simp only[List.getElem_map,af];exact .vec fun j hj=>by simp only[ints,List.getElem_map];exact .lit _) fun H2 _=>Oo t ht h0 H2 _ ⟨rfl,rfl⟩
theorem Ot (H:AHeap)(K:ARes->AHeap->Prop)(hK:K (.ret (.vec 0 [])) H):ae Try.prog G0 28 [.vec 0 []] H K:=by
 refine ae.clo ⟨_,Try.func28,rfl,rfl⟩ fun hcl=>?_;refine ae.bM (n:=8) (rs:=[.tmp 2]) Try.func28 rfl rfl rfl (by decide) (by kernel_rfl) (by simp) ?_;simp only[go_sem];intro b;cases b with
 | true =>
  simp only[go_sem];exact av.bY aV hcl (.refl _) .nil hK
 | false =>
  simp only[go_sem,dT];refine⟨rfl,av.drop (v':=.vec 0 []) aV hcl (.frz (Nat.le_refl _) (dp ..) rfl fun j h1 h2 h3=>absurd h1 (Nat.not_lt_zero _)) hK⟩
theorem Ou (H:AHeap)(K:ARes->AHeap->Prop)(hK:K (.ret (.tup [])) H):ae Try.prog G0 29 [.vec 0 []] H K:=by
 have w1:=IntWalk.i64_in (-1) (by omega);refine ae.cD (n:=28) (rs:=[]) Try.func29 rfl rfl rfl (by decide) (by simp) ?_;refine W.seq (ab _ _ _ (by rfl) ?_);simp only[go_sem,w1];refine W.block ?_;refine W.env fun E hE=>?_;have e2:E 2=aa 0:=by rw[hE];simp only[go_sem]
 have e3:E 3=aa (-1):=by rw[hE];simp only[go_sem]
 clear hE;refine W.aI 268435340 (by rfl) (fun ρ Hx=>Hx=H/\ρ 2=aa 0/\ρ 3=aa (-1)) (fun _ _=>0) ?_ ?_
 ·exact⟨rfl,e2,e3⟩
 rintro ρ Hx ⟨hHx,h2,h3⟩;rw[hHx];refine ab _ _ _ (by rfl) ?_;simp only[go_sem,h2,h3];exact av.mk (Nat.le_refl _) hK
theorem ND {l:List Int}{c j m:Nat}(hl:l.length=m*c)(hj:j<m):((ints l).drop (j*c)).take c=ints (ir l c j):=by unfold ints ir;rw[List.map_take,List.map_drop]
theorem NF {S:Nat->Prop}{H:AHeap}{nx:Nat}{A B:List AVal}{o o' p p':AVal}(hA:∀ v,v∈A->Fz S H nx v v)(ho:Fz S H nx o o')(hp:Fz S H nx p p')(hB:∀ v,v∈B->Fz S H nx v v):
  ∀ i (h:i<(A++o :: p :: B).length) (h':i<(A++o' :: p' :: B).length),Fz S H nx (A++o :: p :: B)[i] (A++o' :: p' :: B)[i]:=by
 induction A with
 | nil =>
  intro i h h'
  match i with
  | 0=>exact ho
  | 1=>exact hp
  | i+2=>exact hB _ (List.getElem_mem (l:=B) (by simpa using h))
 | cons a A ih =>
  intro i h h';cases i with
  | zero=>exact hA a (by simp)
  | succ i=>exact ih (fun v hv=>hA v (by simp [hv])) i (by simpa using h) (by simpa using h')
set_option maxHeartbeats 8000000 in
theorem Cv (g:Int)(ns:List NodeP)(cs:List Int)(xs:List (List Int))(hn:fj ns)(hf:kL cs xs)(least:Int)(H:AHeap)(K:ARes->AHeap->Prop)(hK:K (.ret (.tup [aO (j5 g ns cs xs least).1 (j5 g ns cs xs least).2,aa (iW g ns cs xs least)])) H):
  ae Try.prog G0 18 [aO g ns,cO cs xs,aa least] H K:=by
 refine ae.clo ⟨_,Try.func18,rfl,rfl⟩ fun hcl=>?_;have hn1:=hn.1;have fail:∀ (c:Int) (Hx:AHeap),iW g ns cs xs least=c->c≠0->Over H Hx->av Try.prog G0 H K (.tup [.agg [.lit (.int .i64 0),.lit (.slice none 0 0)],.lit (.int .i64 c)]) Hx:=fun c Hx h h0 o=>by
  unfold j5 at hK;rw[if_neg (by rw[h];exact h0),h]at hK;exact av.bY aV hcl o (Di .nil) hK
 refine ae.cD (n:=127) (rs:=[.cell 6 35,.tmp 7]) Try.func18 rfl rfl rfl (by decide) (by simp) ?_;refine W.seq (ab _ _ _ (by rfl) ?_);simp only[go_sem,aO,cM,cO,aE];obtain⟨H1,hH1⟩:∃ H1,H1=ext H [.arr 0 35 [aa g,.vec ns.length (ar ns)],.arr 0 42 [.vec cs.length (ints cs),.vec xs.length (xs.map af)],.arr 0 35 [.lit (.int .i64 0),.lit (.slice none 0 0)]]:=⟨_,rfl⟩
 have n1:H1.next=H.next+3:=by rw[hH1];rfl
 have o1:Over H H1:=by rw[hH1];exact .ext _ _
 have g0:H1.get H.next=some (.arr 0 35 [aa g,.vec ns.length (ar ns)]):=by rw[hH1];exact dp ..
 have g1:H1.get (H.next+1)=some (.arr 0 42 [.vec cs.length (ints cs),.vec xs.length (xs.map af)]):=by rw[hH1];exact bg H _ 1 (by simp)
 have g2:H1.get (H.next+2)=some (.arr 0 35 [.lit (.int .i64 0),.lit (.slice none 0 0)]):=by rw[hH1];exact bg H _ 2 (by simp)
 refine W.env fun E hE=>?_;have e2:E 2=aa least:=by rw[hE];simp only[go_sem]
 have e3:E 3=.ptr H.next 0 0:=by rw[hE];simp only[go_sem]
 have e4:E 4=.ptr (H.next+1) 0 0:=by rw[hE];simp only[go_sem]
 have e6:E 6=.ptr (H.next+2) 0 0:=by rw[hE];simp only[go_sem]
 clear hE;show W _ _ _ _ _ _ ⟨E,ext H [.arr 0 35 [aa g,.vec ns.length (ar ns)],.arr 0 42 [.vec cs.length (ints cs),.vec xs.length (xs.map af)],.arr 0 35 [.lit (.int .i64 0),.lit (.slice none 0 0)]]⟩;rw[<- hH1];clear hH1;have l0:=ak g0;have l1:=ak g1;refine W.seq (ab _ _ _ (by rfl) ?_);simp only[go_sem,e3,e4,l0,l1];obtain⟨H2,hH2⟩:∃ H2,H2=ext H1 [.arr 0 35 [aa g,.vec ns.length (ar ns)]]:=⟨_,rfl⟩
 have n2:H2.next=H1.next+1:=by rw[hH2];rfl
 have o2:Over H1 H2:=by rw[hH2];exact .ext _ _
 have q3:H2.get H1.next=some (.arr 0 35 (dP [(g,ns)])):=by rw[hH2];exact cu
 show aw _ _ _ _ (ext H1 [.arr 0 35 [aa g,.vec ns.length (ar ns)]]) _;rw[<- hH2];clear hH2;have o12:=o1.trans o2;have q0:=(o2.old H.next (by omega)).trans g0;have q1:=(o2.old (H.next+1) (by omega)).trans g1;have q2:=(o2.old (H.next+2) (by omega)).trans g2;have l0:=ak q0;have l1:=ak q1;have l2:=ak q2;refine aw.clo ((x6 [(g,ns)] cs xs (fun p hp=>by rw[List.mem_singleton.1 hp];exact hn) hf (by simp) H2 q3).mono ?_);rintro rres Hq ⟨hrq,hHq⟩;rw[hHq,hrq,Nk];refine⟨trivial,?_⟩;obtain⟨e,he⟩:∃ e,e=dU g ns cs xs:=⟨_,rfl⟩
 rw[<- he];by_cases h0:e=0;rotate_left
 ·simp only[go_sem,e6,l2,h0];refine fail e _ (by unfold iW;rw[<- he,if_pos h0]) h0 (o12.upd (by omega) _)
 have hE0:iW g ns cs xs least=if qZ g ns least=true then if iV ns xs=true then 0 else 7 else 2:=by unfold iW;rw[<- he,if_neg (fun h=>h h0)]
 rw[h0]at he ⊢;obtain⟨hok,hdk,hca⟩:=mW he.symm;obtain⟨h6,h40,hrow⟩:=mX he.symm;have hg60:=hok.g1;have hE2:¬ q7 g ns least->iW g ns cs xs least=2:=fun h=>by rw[hE0,if_neg (fun hh=>h ((uf hok).1 hh))]
 simp only[go_sem];by_cases v0:least<0
 ·refine W.seq (ab _ _ _ (by rfl) ?_);simp only[go_sem,e2,e6,l2,v0];exact fail 2 _ (hE2 fun h=>by have:=h.1;omega) (by decide) (o12.upd (by omega) _)
 refine W.seq (ab _ _ _ (by rfl) ?_);simp only[go_sem,e2,v0];refine W.seq (ab _ _ _ (by rfl) ?_);simp only[go_sem,e3,l0];refine W.env fun E1 hE1=>?_;have f2:E1 2=aa least:=by rw[hE1];simp only[go_sem,e2]
 have f3:E1 3=.ptr H.next 0 0:=by rw[hE1];simp only[go_sem,e3]
 have f4:E1 4=.ptr (H.next+1) 0 0:=by rw[hE1];simp only[go_sem,e4]
 have f6:E1 6=.ptr (H.next+2) 0 0:=by rw[hE1];simp only[go_sem,e6]
 have f32:E1 32=.vec ns.length (ar ns):=by rw[hE1];simp only[go_sem]
 have f33:E1 33=aa ns.length:=by rw[hE1];simp only[go_sem]
 have f34:E1 34=aa 0:=by rw[hE1];simp only[go_sem]
 clear hE1;refine W.aI 140720308487296 (by kernel_rfl) (fun ρ Hx=>Over H2 Hx/\∃ k:Nat,ρ 34=aa k/\k<=ns.length/\∀ x∈ns.take k,least<=g / x.card) (fun ρ H=>ns.length - (iv (ρ 34)).toNat) ?_ ?_
 ·exact⟨.refl _,0,f34,by omega,by simp⟩
 rintro ρ Hx ⟨ov,k,h34,hk,hall⟩;have ovn:=ov.next;refine W.env fun E2 hE2'=>?_;have a2:E2 2=aa least:=by rw[hE2'];simp only[go_sem,f2]
 have a3:E2 3=.ptr H.next 0 0:=by rw[hE2'];simp only[go_sem,f3]
 have a4:E2 4=.ptr (H.next+1) 0 0:=by rw[hE2'];simp only[go_sem,f4]
 have a6:E2 6=.ptr (H.next+2) 0 0:=by rw[hE2'];simp only[go_sem,f6]
 have a32:E2 32=.vec ns.length (ar ns):=by rw[hE2'];simp only[go_sem,f32]
 have a33:E2 33=aa ns.length:=by rw[hE2'];simp only[go_sem,f33]
 have a34:E2 34=aa k:=by rw[hE2'];simp only[go_sem,h34]
 clear hE2';have r0:=(ov.old H.next (by omega)).trans q0;have r1:=(ov.old (H.next+1) (by omega)).trans q1;have r2:=(ov.old (H.next+2) (by omega)).trans q2;have m0:=ak r0;have m1:=ak r1;have m2:=ak r2;have oH:=o12.trans ov;by_cases hb:(k:Int)<ns.length
 ·obtain⟨x,hx⟩:=get_of_lt (l:=ns) (i:=k) (by omega);have hxm:=List.mem_of_getElem? hx;have hc:=(hok.node x hxm).1;have p0:=kf hx;have pne:=fa hx;have p1:k*3+3<=(ar ns).length:=by rw[fD];omega
  have td:g.tdiv x.card=g / x.card:=Int.tdiv_eq_ediv_of_nonneg (by omega);have cz:¬ x.card=0:=by omega
  have t1:0<=g / x.card:=Int.ediv_nonneg (by omega) (by omega);have t2:g / x.card<=g:=Int.ediv_le_self _ (by omega);have wq:=IntWalk.i64_in (g / x.card) (by omega);have mE:∀ L,(ext Hx L).live H.next 0=_:=fun L=>(eP (by omega)).trans m0;have mE2:∀ L,(ext Hx L).live (H.next+2) 0=_:=fun L=>(eP (by omega)).trans m2;refine ab _ _ _ (by rfl) ?_;by_cases hle:least > g / x.card
  ·simp only[go_sem,a2,a3,a6,a32,a33,a34,hb,p0,p1,pne,aE,mE,mE2,td,cz,wq,hle];exact fail 2 _ (hE2 fun h=>by have:=(Cu (g:=g) hc.1).2 (h.2 x hxm);omega) (by decide) ((oH.trans (.ext _ _)).upd (by omega) _)
  ·have w1:=IntWalk.i64_in ((k:Int)+1) (by omega);simp only[go_sem,a2,a3,a32,a33,a34,hb,p0,p1,pne,aE,mE,td,cz,wq,hle,w1];refine⟨by omega,⟨ov.trans (.ext _ _),k+1,rfl,by omega,fun y hy=>?_⟩,by rw[h34];simp only[aa,aM];omega⟩;rw[aL hx]at hy;rcases List.mem_append.1 hy with hy|hy
   ·exact hall y hy
   ·obtain rfl:=List.mem_singleton.1 hy;omega
 rw[List.take_of_length_le (by omega)]at hall;have hfair:q7 g ns least:=⟨by omega,fun x hx=>(Cu (hok.node x hx).1.1).1 (hall x hx)⟩
 rw[if_pos ((uf hok).2 hfair)]at hE0;refine ab _ _ _ (by rfl) ?_;simp only[go_sem,a33,a34,hb];refine W.env fun E3 hE3=>?_;have b2:E3 2=aa least:=by rw[hE3];simp only[go_sem,a2]
 have b3:E3 3=.ptr H.next 0 0:=by rw[hE3];simp only[go_sem,a3]
 have b4:E3 4=.ptr (H.next+1) 0 0:=by rw[hE3];simp only[go_sem,a4]
 have b6:E3 6=.ptr (H.next+2) 0 0:=by rw[hE3];simp only[go_sem,a6]
 clear hE3;refine W.seq (ab _ _ _ (by rfl) ?_);simp only[go_sem,b3,b4,m0,m1];refine aw.clo (xW g ns hok cs xs (by omega) hrow _ _ ⟨trivial,?_⟩);simp only[go_sem];refine aw.clo (Cb (xs.map (dG ns)) (by rw[List.length_map];omega) _ _ ⟨trivial,?_⟩);unfold iV at hE0;by_cases hz:(0:Int)∈xs.map (dG ns)
 ·rw[decide_eq_false (fun hh=>hh hz),if_neg (by decide)]at hE0;simp only[go_sem,hz,b6,m2];exact fail 7 _ hE0 (by decide) (oH.upd (by omega) _)
 rw[decide_eq_true hz,if_pos rfl]at hE0;simp only[go_sem,hz];obtain⟨n,hnn⟩:∃ n,n=ns.length:=⟨_,rfl⟩
 refine W.seq ?_;refine W.draw 8 [0,1,0,4,12,28,63,0] Try.mixed (by kernel_rfl) (by kernel_rfl) ?_;simp only[go_sem,b3,m0,hnn.symm];refine⟨⟨by omega,by omega⟩,⟨fun _ h=>by omega,fun _ h=>by omega⟩,⟨fun _ h=>by omega,fun _ h=>by omega,fun _ h=>by omega,fun _ h=>by omega⟩,?_⟩;obtain⟨H3,hH3⟩:∃ H3,H3=ext (ext Hx [.arr 0 69 (kM n)]) [.arr 0 35 [.lit (.int .i64 g),.own Hx.next 0 0 n 3]]:=⟨_,rfl⟩
 have n3:H3.next=Hx.next+2:=by rw[hH3];rfl
 have o3:Over Hx H3:=by rw[hH3];exact(Over.ext _ _).trans (.ext _ _)
 have g6:H3.get Hx.next=some (.arr 0 69 (kM n)):=by rw[hH3,dz (by rw[bI];simp)];exact cu
 have g7:H3.get (Hx.next+1)=some (.arr 0 35 [.lit (.int .i64 g),.own Hx.next 0 0 n 3]):=by rw[hH3];exact cu (H:=ext Hx [_])
 refine W.env fun E4 hE4=>?_;have c2:E4 2=aa least:=by rw[hE4];simp only[go_sem,b2]
 have c3:E4 3=.ptr H.next 0 0:=by rw[hE4];simp only[go_sem,b3]
 have c4:E4 4=.ptr (H.next+1) 0 0:=by rw[hE4];simp only[go_sem,b4]
 have c6:E4 6=.ptr (H.next+2) 0 0:=by rw[hE4];simp only[go_sem,b6]
 have c11:E4 11=.ptr (Hx.next+1) 0 0:=by rw[hE4];simp only[go_sem]
 clear hE4;show W _ _ _ _ _ _ ⟨E4,ext (ext Hx [.arr 0 69 (kM n)]) [.arr 0 35 [.lit (.int .i64 g),.own Hx.next 0 0 n 3]]⟩;rw[<- hH3];clear hH3;have o3n:=o3.next;have l30:=ak ((o3.old _ (by omega)).trans r0);refine W.seq (ab _ _ _ (by rfl) ?_);simp only[go_sem,c3,l30];refine W.env fun E5 hE5=>?_;have d2:E5 2=aa least:=by rw[hE5];simp only[go_sem,c2]
 have d3:E5 3=.ptr H.next 0 0:=by rw[hE5];simp only[go_sem,c3]
 have d4:E5 4=.ptr (H.next+1) 0 0:=by rw[hE5];simp only[go_sem,c4]
 have d6:E5 6=.ptr (H.next+2) 0 0:=by rw[hE5];simp only[go_sem,c6]
 have d11:E5 11=.ptr (Hx.next+1) 0 0:=by rw[hE5];simp only[go_sem,c11]
 have d60:E5 60=.vec ns.length (ar ns):=by rw[hE5];simp only[go_sem]
 have d61:E5 61=aa n:=by rw[hE5,hnn];simp only[go_sem]
 have d62:E5 62=aa 0:=by rw[hE5];simp only[go_sem]
 clear hE5;obtain⟨N,hN⟩:∃ N,N=jZ g least ns xs:=⟨_,rfl⟩
 have Nl:N.length=n:=by rw[hN,Cs,hnn]
 refine W.aI 85070591730234615861231965839515709568 (by kernel_rfl) (fun ρ Hy=>∃ v:Nat,ρ 62=aa v/\v<=n/\H3.next<=Hy.next/\(∀ id,id<H3.next->id≠Hx.next->Hy.get id=H3.get id)/\Hy.get Hx.next=some (.arr 0 69 (eu n (N.take v)))) (fun ρ H=>n - (iv (ρ 62)).toNat) ?_ ?_
 ·exact⟨0,d62,by omega,Nat.le_refl _,fun _ _ _=>rfl,g6⟩
 rintro ρ Hy ⟨v,h62,hv,hny,hold,gB⟩;refine W.env fun E6 hE6=>?_;have k2:E6 2=aa least:=by rw[hE6];simp only[go_sem,d2]
 have k3:E6 3=.ptr H.next 0 0:=by rw[hE6];simp only[go_sem,d3]
 have k4:E6 4=.ptr (H.next+1) 0 0:=by rw[hE6];simp only[go_sem,d4]
 have k6:E6 6=.ptr (H.next+2) 0 0:=by rw[hE6];simp only[go_sem,d6]
 have k11:E6 11=.ptr (Hx.next+1) 0 0:=by rw[hE6];simp only[go_sem,d11]
 have k60:E6 60=.vec ns.length (ar ns):=by rw[hE6];simp only[go_sem,d60]
 have k61:E6 61=aa n:=by rw[hE6];simp only[go_sem,d61]
 have k62:E6 62=aa v:=by rw[hE6];simp only[go_sem,h62]
 clear hE6;have y0:=(hold H.next (by omega) (by omega)).trans ((o3.old _ (by omega)).trans r0);have y1:=(hold (H.next+1) (by omega) (by omega)).trans ((o3.old _ (by omega)).trans r1);have y2:=(hold (H.next+2) (by omega) (by omega)).trans ((o3.old _ (by omega)).trans r2);have yT:=(hold (Hx.next+1) (by omega) (by omega)).trans g7;have vl:(N.take v).length=v:=by rw[List.length_take];omega
 by_cases hb2:(v:Int)<n;rotate_left
 ·refine ab _ _ _ (by rfl) ?_;simp only[go_sem,k61,k62,hb2];refine ab _ _ _ (by rfl) ?_;have z2:=ak y2;have zT:=ak yT;simp only[go_sem,k6,k11,z2,zT];obtain rfl:v=n:=by omega
  unfold j5 at hK;rw[if_pos hE0,hE0,<- hN]at hK;rw[List.take_of_length_le (by omega)]at gB;refine av.bY aV hcl ((show Over H Hy from ⟨by omega,fun id h=>(hold id (by omega) (by omega)).trans ((o3.old id (by omega)).trans (oH.old id h))⟩).upd (by omega) _) (Di ?_) hK;rw[<- Nl]at gB ⊢;rw[yI]at gB;exact .frz (by omega) (by rw[ag,if_neg (by omega)];exact gB) (fD N) fun j h1 h2 h3=>by simp only[Nat.zero_add];exact ux (n:=N.length) (ns:=N) _ (by rw[yI];exact List.getElem_mem _) _ _ _
 obtain⟨x,hx⟩:=get_of_lt (l:=ns) (i:=v) (by omega);have hxm:=List.mem_of_getElem? hx;have hc:=(hok.node x hxm).1;have p0:=kf hx;have pne:=fa hx;have p1:v*3+3<=(ar ns).length:=by rw[fD];omega
 have hNv:N[v]?=some (lZ g least (cY ns x v xs) x):=by rw[hN];exact Nz hx
 have hbn:(v:Int)<ns.length:=by omega
 refine W.seq (ab _ _ _ (by rfl) ?_);simp only[go_sem,k61,k62,hb2];refine W.seq (ab _ _ _ (by rfl) ?_);simp only[go_sem];refine W.seq (W.rJ (Q':=fun e s2=>e=.normal/\s2.ρ 62=aa v/\Hy.next<=s2.H.next/\(∀ id,id<Hy.next->id≠Hx.next->s2.H.get id=Hy.get id)/\∃ pv rv,s2.H.get Hx.next=some (.arr 0 69 (setAt (eu n (N.take v)) (v*3) [aa x.card,pv,rv]))/\aB Hy.next s2.H 3 pv (ints x.parents)/\aB Hy.next s2.H 39 rv ((lZ g least (cY ns x v xs) x).rows.map af)) ?_ ?_)
 ·refine W.block ?_;refine W.seq (ab _ _ _ (by rfl) ?_);simp only[go_sem,k60,k62,hbn,p0,p1,pne,aE];obtain⟨J1,hJ1⟩:∃ J1,J1=ext Hy [.arr 0 69 [.lit (.int .i64 x.card),.vec x.parents.length (ints x.parents),.vec x.rows.length (x.rows.map af)]]:=⟨_,rfl⟩
  have j1n:J1.next=Hy.next+1:=by rw[hJ1];rfl
  have j1o:Over Hy J1:=by rw[hJ1];exact .ext _ _
  have j13:J1.get Hy.next=some (.arr 0 69 [.lit (.int .i64 x.card),.vec x.parents.length (ints x.parents),.vec x.rows.length (x.rows.map af)]):=by rw[hJ1];exact cu
  refine W.env fun E7 hE7=>?_;have s2:E7 2=aa least:=by rw[hE7];simp only[go_sem,k2]
  have s3:E7 3=.ptr H.next 0 0:=by rw[hE7];simp only[go_sem,k3]
  have s4:E7 4=.ptr (H.next+1) 0 0:=by rw[hE7];simp only[go_sem,k4]
  have s6:E7 6=.ptr (H.next+2) 0 0:=by rw[hE7];simp only[go_sem,k6]
  have s11:E7 11=.ptr (Hx.next+1) 0 0:=by rw[hE7];simp only[go_sem,k11]
  have s12:E7 12=aa v:=by rw[hE7];simp only[go_sem]
  have s13:E7 13=.ptr Hy.next 0 0:=by rw[hE7];simp only[go_sem]
  have s62:E7 62=aa v:=by rw[hE7];simp only[go_sem,k62]
  clear hE7;show W _ _ _ _ _ _ ⟨E7,ext Hy [.arr 0 69 [.lit (.int .i64 x.card),.vec x.parents.length (ints x.parents),.vec x.rows.length (x.rows.map af)]]⟩;rw[<- hJ1];clear hJ1;have w0:=ak ((j1o.old _ (by omega)).trans y0);have w1:=ak ((j1o.old _ (by omega)).trans y1);have w13:=ak j13;refine W.seq (ab _ _ _ (by rfl) ?_);simp only[go_sem,s3,s4,s12,w0,w1];refine aw.clo (Ni g ns hok h6 cs xs (by omega) hrow v x hx _ _ ⟨trivial,?_⟩);simp only[go_sem];refine W.seq ?_;refine W.seq (ab _ _ _ (by rfl) ?_);simp only[go_sem];refine ab _ _ _ (by rfl) ?_;simp only[go_sem];refine W.env fun E8 hE8=>?_;have t2:E8 2=aa least:=by rw[hE8];simp only[go_sem,s2]
  have t3:E8 3=.ptr H.next 0 0:=by rw[hE8];simp only[go_sem,s3]
  have t6:E8 6=.ptr (H.next+2) 0 0:=by rw[hE8];simp only[go_sem,s6]
  have t11:E8 11=.ptr (Hx.next+1) 0 0:=by rw[hE8];simp only[go_sem,s11]
  have t12:E8 12=aa v:=by rw[hE8];simp only[go_sem,s12]
  have t13:E8 13=.ptr Hy.next 0 0:=by rw[hE8];simp only[go_sem,s13]
  have t14:E8 14=.vec (cY ns x v xs).length (ints (cY ns x v xs)):=by rw[hE8];simp only[go_sem]
  have t62:E8 62=aa v:=by rw[hE8];simp only[go_sem,s62]
  clear hE8;have w13E:∀ L,(ext J1 L).live Hy.next 0=_:=fun L=>(eP (by omega)).trans w13;have rz:List.replicate 0 (AVal.lit (.int .i64 0))=[]:=rfl;have fit:=(hn.2 x hxm).1;obtain⟨pv,J2,hA,hpO,hj2,hjp⟩:=sQ (P:=Try.prog) (H:=ext J1 [.arr 0 3 []]) (t:=39) (e:=3) (lo:=J1.next) (v:=.own J1.next 0 0 0 1) (cs:=[]) (src:=ints x.parents) (n:=J1.next+1) Try.underlying39 Try.eZ Try.fS (by unfold ints;rw[List.all_map,List.all_eq_true];intro y _;rfl) (by rw[Try.gS,aZ];simp;omega) (aB.new (H:=J1) (cs:=[])) (by rw[bI];simp) (by rw[bI];simp);rw[aZ]at hA;have pvo:=hpO.one;have pvc:=hpO.cells;refine W.seq ?_;refine W.draw 8 [0,1,0,0,8,28,63,0] Try.mixed (by kernel_rfl) (by kernel_rfl) ?_;simp only[go_sem,t13,w13,w13E,rz,hA,pvo,pvc];rw[bI]at hj2;simp only[List.length_cons,List.length_nil]at hj2;refine⟨⟨fun _ h=>by omega,fun _ h=>by omega⟩,fun _ h=>by omega,fun _ h=>by omega,⟨fun _ h=>by omega,fun _ h=>by omega⟩,⟨fun _ h=>by omega,fun _ h=>by omega,fun _ h=>by omega,fun _ h=>by omega,fun _ h=>by omega⟩,?_⟩;obtain⟨J3,hJ3⟩:∃ J3,J3=ext J2 [.arr 0 69 [.lit (.int .i64 x.card),pv,.lit (.slice none 0 0)]]:=⟨_,rfl⟩
  have j3n:J3.next=J2.next+1:=by rw[hJ3];rfl
  have j2o:∀ id,id<J1.next->J2.get id=J1.get id:=fun id h=>(hjp id (by rw[bI];simp;omega) fun g' n' e=>by cases e;omega).trans (dz h);have j3o:∀ id,id<J1.next->J3.get id=J1.get id:=fun id h=>by rw[hJ3,dz (by omega)];exact j2o id h
  have j3q:J3.get J2.next=some (.arr 0 69 [.lit (.int .i64 x.card),pv,.lit (.slice none 0 0)]):=by rw[hJ3];exact cu
  have j32:∀ id,id<J2.next->J3.get id=J2.get id:=fun id h=>by rw[hJ3,dz h]
  refine W.env fun E9 hE9=>?_;have u2:E9 2=aa least:=by rw[hE9];simp only[go_sem,t2]
  have u3:E9 3=.ptr H.next 0 0:=by rw[hE9];simp only[go_sem,t3]
  have u6:E9 6=.ptr (H.next+2) 0 0:=by rw[hE9];simp only[go_sem,t6]
  have u11:E9 11=.ptr (Hx.next+1) 0 0:=by rw[hE9];simp only[go_sem,t11]
  have u12:E9 12=aa v:=by rw[hE9];simp only[go_sem,t12]
  have u13:E9 13=.ptr Hy.next 0 0:=by rw[hE9];simp only[go_sem,t13]
  have u14:E9 14=.vec (cY ns x v xs).length (ints (cY ns x v xs)):=by rw[hE9];simp only[go_sem,t14]
  have u16:E9 16=.ptr J2.next 0 0:=by rw[hE9];simp only[go_sem]
  have u62:E9 62=aa v:=by rw[hE9];simp only[go_sem,t62]
  clear hE9;show W _ _ _ _ _ _ ⟨E9,ext J2 [.arr 0 69 [.lit (.int .i64 x.card),pv,.lit (.slice none 0 0)]]⟩;rw[<- hJ3];clear hJ3;have x13:=ak ((j3o Hy.next (by omega)).trans j13);obtain⟨L,hL⟩:∃ L,L=cY ns x v xs:=⟨_,rfl⟩
  obtain⟨R,hR⟩:∃ R,R=x.rows.length:=⟨_,rfl⟩
  have hLl:=yh hok h6 hx xs hrow;rw[<- hL]at u14 hLl ⊢;obtain⟨rows,hrows⟩:∃ rows,rows=(lZ g least L x).rows:=⟨_,rfl⟩
  have hrl:rows.length=R:=by rw[hrows,hR];show ((List.range _).map _).length=_;simp
  rw[<- hrows];refine W.seq (ab _ _ _ (by rfl) ?_);simp only[go_sem,u13,x13,<- hR];refine W.env fun F hF=>?_;have a2:F 2=aa least:=by rw[hF];simp only[go_sem,u2]
  have a3:F 3=.ptr H.next 0 0:=by rw[hF];simp only[go_sem,u3]
  have a11:F 11=.ptr (Hx.next+1) 0 0:=by rw[hF];simp only[go_sem,u11]
  have a12:F 12=aa v:=by rw[hF];simp only[go_sem,u12]
  have a13:F 13=.ptr Hy.next 0 0:=by rw[hF];simp only[go_sem,u13]
  have a14:F 14=.vec L.length (ints L):=by rw[hF];simp only[go_sem,u14]
  have a16:F 16=.ptr J2.next 0 0:=by rw[hF];simp only[go_sem,u16]
  have a62:F 62=aa v:=by rw[hF];simp only[go_sem,u62]
  have a87:F 87=aa R:=by rw[hF];simp only[go_sem]
  have a88:F 88=aa 0:=by rw[hF];simp only[go_sem]
  clear hF;refine W.aI 1329227995475430863082461991556481152 (by kernel_rfl) (fun ρ2 Hz=>∃ (j:Nat) (rv:AVal),ρ2 88=aa j/\j<=R/\J3.next<=Hz.next/\(∀ id,id<J3.next->id≠J2.next->Hz.get id=J3.get id)/\Hz.get J2.next=some (.arr 0 69 [.lit (.int .i64 x.card),pv,rv])/\aB J3.next Hz 39 rv ((rows.take j).map af)) (fun ρ2 H=>R - (iv (ρ2 88)).toNat) ?_ ?_
  ·exact⟨0,_,a88,by omega,Nat.le_refl _,fun _ _ _=>rfl,j3q,.nil⟩
  rintro ρ2 Hz ⟨j,rv,h88,hj,hnz,holdz,gz,hO⟩;refine W.env fun F2 hF2=>?_;have b2:F2 2=aa least:=by rw[hF2];simp only[go_sem,a2]
  have b3:F2 3=.ptr H.next 0 0:=by rw[hF2];simp only[go_sem,a3]
  have b11:F2 11=.ptr (Hx.next+1) 0 0:=by rw[hF2];simp only[go_sem,a11]
  have b12:F2 12=aa v:=by rw[hF2];simp only[go_sem,a12]
  have b13:F2 13=.ptr Hy.next 0 0:=by rw[hF2];simp only[go_sem,a13]
  have b14:F2 14=.vec L.length (ints L):=by rw[hF2];simp only[go_sem,a14]
  have b16:F2 16=.ptr J2.next 0 0:=by rw[hF2];simp only[go_sem,a16]
  have b62:F2 62=aa v:=by rw[hF2];simp only[go_sem,a62]
  have b87:F2 87=aa R:=by rw[hF2];simp only[go_sem,a87]
  have b88:F2 88=aa j:=by rw[hF2];simp only[go_sem,h88]
  clear hF2;have ozJ:∀ id,id<J1.next->Hz.get id=J1.get id:=fun id h=>(holdz id (by omega) (by omega)).trans (j3o id h);have lz:=ak gz;have rvo:=hO.one;have rvc:=hO.cells;have tk:(rows.take j).length=j:=by rw[List.length_take];omega
  by_cases hb3:(j:Int)<R;rotate_left
  ·have oT:=ak ((ozJ _ (by omega)).trans ((j1o.old _ (by omega)).trans yT));have oB:=ak ((ozJ _ (by omega)).trans ((j1o.old _ (by omega)).trans gB));have fl:=PQ (n:=n) (ns:=N.take v) (by omega);have hv3:v*3+3<=(eu n (N.take v)).length:=(by rw[fl];omega);refine ab _ _ _ (by rfl) ?_;simp only[go_sem,b87,b88,hb3];refine ab _ _ _ (by rfl) ?_;simp only[go_sem,b11,b12,b16,b62,lz,oT,oB,pvo,rvo,hb2,fl];have ej:j=R:=(by omega);rw[ej,List.take_of_length_le (by omega)]at hO;exact⟨by omega,by rw[aA];omega,fun id h1 h2=>by rw[ag,if_neg h2,ozJ id (by omega)];exact j1o.old id h1,pv,rv,by rw[ag,if_pos rfl],hpO.keep (by omega) (by rw[aA];omega) fun id _ h1 h2 _ _=>by rw[ag,if_neg (by omega),holdz id (by omega) (by omega)];exact j32 id h2,hO.keep (by omega) (by rw[aA];omega) fun id _ h1 h2 _ _=>by rw[ag,if_neg (by omega)]⟩
  have w0z:=ak ((ozJ _ (by omega)).trans ((j1o.old _ (by omega)).trans y0));have w13z:=ak ((ozJ _ (by omega)).trans j13);obtain⟨c,hcc⟩:∃ c:Nat,x.card=c:=⟨x.card.toNat,by omega⟩
  have hc':=hc;rw[hcc]at hc';have hct:x.card.toNat=c:=by omega
  have hRb:=(xY hok hx).2;have mR:((R:Int))*c<=1024:=by rw[hR,<- hcc];exact hRb
  have m0:0<=(j:Int)*c:=Int.mul_nonneg (by omega) (by omega);have m1':((j:Int)+1)*c<=R*c:=Int.mul_le_mul_of_nonneg_right (by omega) (by omega);have m2':((j:Int)+1)*c=j*c+c:=by rw[Int.add_mul,Int.one_mul]
  have mR1:(R:Int)*1<=R*c:=Int.mul_le_mul_of_nonneg_left (by omega) (by omega);have v1:=IntWalk.i64_in ((j:Int)*c) (by omega);have v2:=IntWalk.i64_in ((j:Int)+1) (by omega);have v3:=IntWalk.i64_in (((j:Int)+1)*c) (by omega);have rok:=Ct hok h6 hfair hx (xs:=xs) (by omega) hrow (j:=j) (by omega);rw[<- hL,hct]at rok;rw[hct,<- hR]at hLl;obtain⟨q,hq⟩:∃ q,q=nf least (eC g least (ir L c j)) (ir L c j):=⟨_,rfl⟩
  have hqr:rows[j]?=some q:=by rw[hrows,hq];show ((List.range _).map _)[j]?=_;rw[List.getElem?_map,List.getElem?_range (by omega),<- hct];rfl
  have sl:=ND hLl (show j<R by omega);have rl:=yg hLl (show j<R by omega);refine W.seq (ab _ _ _ (by rfl) ?_);simp only[go_sem,b87,b88,hb3];refine W.seq (ab _ _ _ (by rfl) ?_);simp only[go_sem];refine W.seq (W.block ?_);refine W.seq (ab _ _ _ (by rfl) ?_);simp only[go_sem,b88];refine W.seq ?_;refine W.draw 19 [0,0,0,4,14,0,32,0,128,480,1023,0,2048,0,16383,32767,65535,65535,131071] Try.mixed (by kernel_rfl) (by kernel_rfl) ?_;have tn2:((j:Int)*c).toNat=j*c:=by rw[<- Int.natCast_mul,Int.toNat_natCast]
  have tn1:(((j:Int)+1)*c).toNat=j*c+c:=by rw[m2',<- Int.natCast_mul,<- Int.natCast_add,Int.toNat_natCast]
  have tn3:j*c+c - j*c=c:=by omega
  have hLi:(L.length:Int)=R*c:=by rw[hLl,Int.natCast_mul]
  simp only[go_sem,b2,b3,b13,b14,w0z,w13z,hcc,v1,v2,v3,tn1,tn2,tn3,sl];refine⟨by omega,by omega,⟨.tup [af q,aa 0],[],dx.pure (fun H2=>?_),?_⟩⟩
  ·rw[show AVal.vec c (ints (ir L c j))=af (ir L c j) by unfold af;rw[rl]];exact Qc (c:=ir L c j) (grain:=g) (least:=least) (by omega) H2 _ ⟨by unfold uz;rw[Dz rok,if_pos rfl,hq],rfl⟩
  obtain⟨rv',He,hAe,hOe,hne,hpe⟩:=Ru (af q) rfl hO hnz (by rw[List.length_map];omega);simp only[af]at hAe;have rvo2:=hOe.one;have rvc2:=hOe.cells;have lXe:=ak ((hpe J2.next (by omega) (aB.po hO (by omega))).trans gz);have lXx:∀ L,(ext Hz L).live J2.next 0=_:=fun L=>(eP (by omega)).trans lz;simp only[go_sem];refine W.seq (ab _ _ _ (by rfl) ?_);simp only[go_sem];refine ab _ _ _ (by rfl) ?_;simp only[go_sem,b16,lz,lXe,rvo2,rvc2,hAe];refine ab _ _ _ (by rfl) ?_;simp only[go_sem,b88,v2];rw[show (rows.take j).map af++[af q]=(rows.take (j+1)).map af by rw[aL hqr,List.map_append];rfl]at hOe;exact⟨by rw[aA];omega,⟨j+1,rv',rfl,by omega,by rw[aA];omega,fun id h1 h2=>by rw[ag,if_neg h2,hpe id (by omega) (aB.po hO h1)];exact holdz id h1 h2,by rw[ag,if_pos rfl,hcc],hOe.keep (Nat.le_refl _) (by rw[aA];omega) fun id _ h1 h2 _ _=>by rw[ag,if_neg (by omega)]⟩,by rw[h88];simp only[aa,aM];omega⟩
 ·rintro e ⟨ρ2,Hb⟩ ⟨rfl,q62,qn,qold,pv,rv,qB,qP,qR⟩;simp only at q62 qn qold qB qP qR;obtain⟨y,hy⟩:∃ y,y=lZ g least (cY ns x v xs) x:=⟨_,rfl⟩
  rw[<- hy]at qR hNv;refine⟨⟨ρ2,Hb.gh Hy.next Hx.next (.arr 0 69 (setAt (eu n (N.take v)) (v*3) y.cells))⟩,dv.gh aV qB (by omega) (by simp [setAt,NodeP.cells]) ?_,Nat.le_refl _,trivial,?_⟩
  ·have e1:setAt (eu n (N.take v)) (v*3) [aa x.card,pv,rv]=((eu n (N.take v)).take (v*3)++[aa x.card])++pv :: rv :: (eu n (N.take v)).drop (v*3+3):=(by simp [setAt]);have e2:setAt (eu n (N.take v)) (v*3) y.cells=((eu n (N.take v)).take (v*3)++[aa x.card])++af x.parents :: aE y.rows :: (eu n (N.take v)).drop (v*3+3):=(by rw[hy];simp [setAt,NodeP.cells,lZ,af,aE]);rw[e1,e2];refine NF (fun z hz=>?_) (qP.kF fun i h=>h) (aB.OL qR fun i h=>h) fun z hz=>ux z (List.mem_of_mem_drop hz) _ _ _;rcases List.mem_append.1 hz with hz|hz
   ·exact ux z (List.mem_of_mem_take hz) _ _ _
   ·rw[List.mem_singleton.1 hz];exact .lit _
  ·obtain⟨Hm,hHm⟩:∃ Hm,Hm=Hb.gh Hy.next Hx.next (.arr 0 69 (setAt (eu n (N.take v)) (v*3) y.cells)):=⟨_,rfl⟩
   have nm:Hm.next=Hb.next:=(by rw[hHm];rfl);have gm:Hm.get Hx.next=some (.arr 0 69 (setAt (eu n (N.take v)) (v*3) y.cells)):=(by rw[hHm];exact QC (by omega));have om:∀ id,id<Hy.next->id≠Hx.next->Hm.get id=Hy.get id:=fun id h h2=>by rw[hHm,QD h h2,qold id h h2]
   rw[<- hHm];clear hHm;show W Try.prog G0 127 none _ _ ⟨ρ2,Hm⟩;have w1:=IntWalk.i64_in ((v:Int)+1) (by omega);have fs:=PR (n:=n) (ns:=N.take v) (x:=y) (by omega);rw[vl]at fs;rw[fs,<- aL hNv]at gm;refine ab _ _ _ (by rfl) ?_;simp only[go_sem,q62,w1];exact⟨by omega,⟨v+1,rfl,by omega,by omega,fun id h1 h2=>(om id (by omega) h2).trans (hold id h1 h2),gm⟩,by rw[h62];simp only[aa,aM];omega⟩
end Go.Proofs
