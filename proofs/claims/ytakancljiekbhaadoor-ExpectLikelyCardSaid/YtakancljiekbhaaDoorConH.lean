/- Own work: contracts. -/
import Derived.Test.YtakancljiekbhaaDoorConG
import Derived.Test.YtakancljiekbhaaDoorConE
import Derived.Test.YtakancljiekbhaaDoorLibB
import Derived.Test.YtakancljiekbhaaDoorLibC
import Derived.Test.YtakancljiekbhaaDoorConB
import Derived.Test.YtakancljiekbhaaDoorConC
import Derived.Test.YtakancljiekbhaaDoorConD
import Derived.Test.YtakancljiekbhaaDoorConA
set_option linter.all false
set_option maxRecDepth 100000
namespace Go.Proofs
open Go.Hx
theorem Ej {g:Int}{ns:List NodeP}(h:NetOk g ns)(h6:ns.length<=6){wh:Nat}(hw:wh<=46656000000){xs:List (List Int)}(h40:xs.length<=64)(hr:∀ r∈xs,r.length=ns.length){k m:Nat}(hk:k<=xs.length)(hm:m<=2 ^ 74):(dW 18446744073709551616 (fB ns wh (xs.take k)*m)).length<2 ^ 36:=by
 have h1:=D3 h h6 hw (xs.take k) fun r hr'=>hr r (VW hr');rw[VC]at h1;have h2:(2 ^ 74) ^ (min k xs.length)<=(2 ^ 74) ^ 64:=VT (by decide) (by omega);have h3:fB ns wh (xs.take k)*m<=(2 ^ 74) ^ 64*2 ^ 74:=Xk (by omega) hm;have h4:=D2 (B:=18446744073709551616) (k:=76) (by decide) (Xp h3 (by decide));exact Xp h4 (by decide)
set_option maxHeartbeats 4000000 in
theorem P1 (g:Int)(ns:List NodeP)(hok:NetOk g ns)(gm:Int)(ms:List NodeP)(hm1:1<=gm/\gm<=60)(hm8:ms.length<=6)(cs:List Int)(xs:List (List Int))(h6:ns.length<=6)(h40:xs.length<=64)(hrow:∀ r∈xs,r.length=ns.length)(H:AHeap)(K:ARes->AHeap->Prop)
  (hK:∀ sl Hx,Over H Hx->aC H.next Hx 97 sl ((dW 18446744073709551616 (fB ns (gm.toNat ^ ms.length) xs)).map bE)->(dW 18446744073709551616 (fB ns (gm.toNat ^ ms.length) xs)=[]->sl=.lit (.slice none 0 0))->K (.ret sl) Hx):
  ae Tryd.prog G0 40 [aZ g ns,aZ gm ms,da cs xs] H K:=by
 refine ae.cX (n:=38) (rs:=[.tmp 6]) Tryd.func40 rfl rfl rfl (by decide) (by simp) ?_;refine W.sq ?_;simp only[go_sem,aZ,dk,da,aB];refine W.sq ?_;simp only[go_sem];refine W.sq ?_;simp only[go_sem];obtain⟨H1,hH1⟩:∃ H1,H1=ext H ([.arr 0 36 [aa g,.vec ns.length (au ns)],.arr 0 36 [aa gm,.vec ms.length (au ms)],.arr 0 42 [.vec cs.length (ints cs),.vec xs.length (xs.map ab)],.arr 0 97 [.lit (.int .u64 1)],.arr 0 91 [.own (H.next+3) 0 0 1 1]]):=⟨_,rfl⟩
 have n1:H1.next=H.next+5:=by rw[hH1];rfl
 have o1:Over H H1:=by rw[hH1];exact .ext _ _
 obtain⟨wh,hwh⟩:∃ q,q=gm.toNat ^ ms.length:=⟨_,rfl⟩
 have hwb:wh<=46656000000:=by
  have a1:gm.toNat ^ ms.length<=60 ^ ms.length:=X9 (by omega) _;have a2:(60:Nat) ^ ms.length<=60 ^ 6:=VT (by decide) hm8;have a3:(60:Nat) ^ 6=46656000000:=by decide
  omega
 rw[<- hwh]at hK;have b0:H1.get H.next=some (.arr 0 36 [aa g,.vec ns.length (au ns)]):=by rw[hH1];exact dN ..
 have b1:H1.get (H.next+1)=some (.arr 0 36 [aa gm,.vec ms.length (au ms)]):=by rw[hH1];exact bC H _ 1 (by simp)
 have b2:H1.get (H.next+2)=some (.arr 0 42 [.vec cs.length (ints cs),.vec xs.length (xs.map ab)]):=by rw[hH1];exact bC H _ 2 (by simp)
 have b3:H1.get (H.next+3)=some (.arr 0 97 (([1]:List Nat).map bE)):=by rw[hH1];exact bC H _ 3 (by simp)
 have b4:H1.get (H.next+4)=some (.arr 0 91 [.own (H.next+3) 0 0 1 1]):=by rw[hH1];exact bC H _ 4 (by simp)
 refine W.en (fun E=>E 3=.ptr H.next 0 0 /\ E 4=.ptr (H.next+1) 0 0 /\ E 5=.ptr (H.next+2) 0 0 /\ E 7=.ptr (H.next+4) 0 0 /\ E 8=.clo 44 [.ptr (H.next+4) 0 0] []) (by simp only[go_sem]) fun E ⟨e3,e4,e5,e7,e8⟩=>?_
 show W _ _ _ _ _ _ ⟨E,ext H ([.arr 0 36 [aa g,.vec ns.length (au ns)],.arr 0 36 [aa gm,.vec ms.length (au ms)],.arr 0 42 [.vec cs.length (ints cs),.vec xs.length (xs.map ab)],.arr 0 97 [.lit (.int .u64 1)],.arr 0 91 [.own (H.next+3) 0 0 1 1]])⟩;rw[<- hH1];clear hH1;have l0:=ak b0;have l2:=ak b2;refine W.sq ?_;simp only[go_sem,e3,e5,l0,l2];refine aw.clo (zY g ns hok cs xs (by omega) hrow _ _ ⟨trivial,?_⟩);obtain⟨M,hM⟩:∃ M,M=xs.map (dz ns):=⟨_,rfl⟩
 have Ml:M.length=xs.length:=by rw[hM,VD]
 rw[<- hM];have il:=aR M;rw[Ml]at il;simp only[go_sem,Ml];refine W.env fun E1 hE1=>?_;have f4:E1 4=.ptr (H.next+1) 0 0:=by rw[hE1];simp only[go_sem,e4]
 have f7:E1 7=.ptr (H.next+4) 0 0:=by rw[hE1];simp only[go_sem,e7]
 have f8:E1 8=.clo 44 [.ptr (H.next+4) 0 0] []:=by rw[hE1];simp only[go_sem,e8]
 have f15:E1 15=.vec xs.length (ints M):=by rw[hE1,<- Ml];simp only[go_sem]
 have f16:E1 16=aa xs.length:=by rw[hE1,<- Ml];simp only[go_sem]
 have f17:E1 17=aa 0:=by rw[hE1];simp only[go_sem]
 clear hE1;have one:dW 18446744073709551616 (fB ns wh (xs.take 0))=[1]:=by
  have e:aY 18446744073709551616 [1]=1:=rfl;have:=vR (B:=18446744073709551616) (by decide) (l:=[1]) ⟨fun d hd=>by rw[List.mem_singleton.1 hd];decide,fun d hd=>by cases hd;decide⟩;rw[e]at this;exact this.symm
 refine W.aG 137438823424 (by kernel_rfl) (fun ρ Hx=>∃ (k:Nat) (sl:AVal),ρ 17=aa k/\k<=xs.length/\H1.next<=Hx.next/\(∀ id,id<H.next+3->Hx.get id=H1.get id)/\Hx.get (H.next+4)=some (.arr 0 91 [sl])/\aC (H.next+3) Hx 97 sl ((dW 18446744073709551616 (fB ns wh (xs.take k))).map bE)/\(dW 18446744073709551616 (fB ns wh (xs.take k))=[]->sl=.lit (.slice none 0 0))) (fun ρ Hx=>xs.length - (iv (ρ 17)).toNat) ?_ ?_
 ·exact⟨0,_,f17,by omega,Nat.le_refl _,fun _ _=>rfl,b4,by rw[one];exact .inr ⟨H.next+3,0,by omega,(by show H.next+3<H1.next;omega),rfl,b3⟩,fun e=>by rw[one]at e;cases e⟩
 rintro ρ Hx ⟨k,sl,h17,hk,hnx,hold,gx,hO,hz⟩;refine W.en (fun E2=>E2 4=.ptr (H.next+1) 0 0 /\ E2 7=.ptr (H.next+4) 0 0 /\ E2 8=.clo 44 [.ptr (H.next+4) 0 0] [] /\ E2 15=.vec xs.length (ints M) /\ E2 16=aa xs.length /\ E2 17=aa k) (by simp only[go_sem,f4,f7,f8,f15,f16,h17]) fun E2 ⟨a4,a7,a8,a15,a16,a17⟩=>?_
 by_cases hb:(k:Int)<xs.length;rotate_left
 ·have so:=hO.one;have sc:=hO.cells;refine W.vs ?_;simp only[go_sem,a16,a17,hb];refine W.vs ?_;simp only[go_sem,a7,ak gx];obtain rfl:k=xs.length:=by omega
  rw[WR]at hO hz;exact av.mk (by omega) (hK sl Hx ⟨by omega,fun id h=>(hold id (by omega)).trans (o1.old id h)⟩ (hO.keep (by omega) (Nat.le_refl _) fun _ _ _ _ _ _=>rfl) hz)
 obtain⟨r,hrk⟩:=get_of_lt (l:=xs) (i:=k) (by omega);have hrl:=hrow r (Vs hrk);have mb:=z8 hok h6 hrl;have mp:=Ag hok hrl;obtain⟨m,hm⟩:∃ m:Nat,dz ns r=m:=⟨(dz ns r).toNat,by omega⟩
 have hMk:M[k]?=some (m:Int):=by rw[hM,List.getElem?_map,hrk,<- hm];rfl
 have hMn:=aJ hMk;have u1:=Wl (m:Int) (by omega);obtain⟨gn,hgn⟩:∃ q:Nat,gm=q:=⟨gm.toNat,by omega⟩
 have u2:=Wl (gn:Int) (by omega);have w1:=Vt ((k:Int)+1) (by omega);have key:=fun (j:Nat)=>Ej hok h6 hwb h40 hrow (k:=k) (m:=j) hk;refine W.sq ?_;simp only[go_sem,a16,a17,hb];refine W.sq ?_;simp only[go_sem];refine W.seq (W.block ?_);refine W.sq ?_;simp only[go_sem,a15,a17,hMk,hMn,hb];refine W.sq ?_;simp only[go_sem,a8,u1];refine aw.clo (Ei (lo:=H.next+3) (b:=H.next+4) (by omega) (qC (by decide) _) (by have:=key 1 (by decide);rwa [Nat.mul_one]at this) Hx (by omega) (by omega) gx hO hz _ fun H2 sl2 hn2 old2 g2 hO2 hz2=>⟨trivial,?_⟩);rw[oF (by decide)]at hO2 hz2;obtain⟨V,hV⟩:∃ V,V=fB ns wh (xs.take k):=⟨_,rfl⟩
 rw[<- hV]at hO2 hz2 key;have hold2:∀ id,id<H.next+3->H2.get id=H1.get id:=fun id h=>(old2 id (by omega) (by omega) (aC.wE hO h)).trans (hold id h);have c1:=ak ((hold2 _ (by omega)).trans b1);simp only[go_sem];refine W.sq ?_;simp only[go_sem,a4,c1];refine W.en (fun E3=>E3 4=.ptr (H.next+1) 0 0 /\ E3 8=.clo 44 [.ptr (H.next+4) 0 0] [] /\ E3 17=aa k /\ E3 27=aa ms.length /\ E3 28=aa 0) (by simp only[go_sem,a4,a8,a17]) fun E3 ⟨d4,d8,d17,d27,d28⟩=>?_
 refine W.block ?_;refine W.aG 68451041280 (by kernel_rfl) (fun ρ Hy=>∃ (j:Nat) (sl:AVal),ρ 28=aa j/\j<=ms.length/\H2.next<=Hy.next/\(∀ id,id<H.next+3->Hy.get id=H1.get id)/\Hy.get (H.next+4)=some (.arr 0 91 [sl])/\aC (H.next+3) Hy 97 sl ((dW 18446744073709551616 (V*(m*gn ^ j))).map bE)/\(dW 18446744073709551616 (V*(m*gn ^ j))=[]->sl=.lit (.slice none 0 0))) (fun ρ Hy=>ms.length - (iv (ρ 28)).toNat) ?_ ?_
 ·exact⟨0,_,d28,by omega,Nat.le_refl _,hold2,g2,by rw[Nat.pow_zero,Nat.mul_one];exact hO2,by rw[Nat.pow_zero,Nat.mul_one];exact hz2⟩
 rintro ρ2 Hy ⟨j,sly,h28,hj,hny,holdy,gy,hOy,hzy⟩;refine W.en (fun E4=>E4 4=.ptr (H.next+1) 0 0 /\ E4 8=.clo 44 [.ptr (H.next+4) 0 0] [] /\ E4 17=aa k /\ E4 27=aa ms.length /\ E4 28=aa j) (by simp only[go_sem,d4,d8,d17,d27,h28]) fun E4 ⟨k4,k8,k17,k27,k28⟩=>?_
 have ly:=ak ((holdy _ (by omega)).trans b1);by_cases hb2:(j:Int)<ms.length
 ·have w2:=Vt ((j:Int)+1) (by omega);have gj:gn ^ j<=60 ^ 6:=We (X9 (by omega) _) (VT (by decide) (by omega));have bj:m*gn ^ j<=46656000000*60 ^ 6:=Xk (by omega) gj;refine W.sq ?_;simp only[go_sem,k27,k28,hb2];refine W.sq ?_;simp only[go_sem];refine W.seq (W.block ?_);refine W.vs ?_;simp only[go_sem,k4,k8,ly,hgn,u2];refine aw.clo (Ei (lo:=H.next+3) (b:=H.next+4) (w:=gn) (by omega) (qC (by decide) _) (key _ (We bj (by decide))) Hy (by omega) (by omega) gy hOy hzy _ fun H3 sl3 hn3 old3 g3 hO3 hz3=>⟨trivial,?_⟩);rw[oF (by decide),WM,WM,<- W9]at hO3 hz3;refine W.vs ?_;simp only[go_sem,k28,w2];exact⟨by omega,⟨j+1,sl3,rfl,by omega,by omega,fun id h=>(old3 id (by omega) (by omega) (aC.wE hOy h)).trans (holdy id h),g3,hO3,hz3⟩,by rw[h28];simp only[aa,aN];omega⟩
 have ej:j=ms.length:=by omega
 subst ej;have ew:gn ^ ms.length=wh:=by rw[hwh,hgn];rfl
 refine W.vs ?_;simp only[go_sem,k27,k28,hb2];refine W.vs ?_;simp only[go_sem,k17,w1];refine⟨by omega,⟨k+1,sly,rfl,by omega,by omega,holdy,gy,?_⟩,by rw[h17];simp only[aa,aN];omega⟩;rw[aL hrk,Af,hm,Int.toNat_natCast,<- hV,WM,<- ew];exact⟨hOy,hzy⟩
theorem Ek (g:Int)(ns:List NodeP)(hok:NetOk g ns)(gm:Int)(ms:List NodeP)(hm1:1<=gm/\gm<=60)(hm8:ms.length<=6)(cs:List Int)(xs:List (List Int))(h6:ns.length<=6)(h40:xs.length<=64)(hrow:∀ r∈xs,r.length=ns.length)(H:AHeap)(K:ARes->AHeap->Prop)
  (hK:K (.ret (im (dW 18446744073709551616 (fB ns (gm.toNat ^ ms.length) xs)))) H):
  ae Tryd.prog G0 40 [aZ g ns,aZ gm ms,da cs xs] H K :=
 ae.clo ⟨_,Tryd.func40,rfl,rfl⟩ fun hcl=>ae.fin (P1 g ns hok gm ms hm1 hm8 cs xs h6 h40 hrow H _ fun sl Hx ho hO _=>⟨_,rfl,av.bR aT hcl ho (hO.Gk fun i h=>h) hK⟩)
theorem P2 {g:Int}{ns:List NodeP}(h:NetOk g ns)(h6:ns.length<=6){wh:Nat}(hw:wh<=46656000000){xs:List (List Int)}(h40:xs.length<=40)(hr:∀ r∈xs,r.length=ns.length){k m:Nat}(hk:k<=xs.length)(hm:m<=2 ^ 74):(dW 10000 (fB ns wh (xs.take k)*m)).length<2 ^ 20:=by
 have h1:=D3 h h6 hw (xs.take k) fun r hr'=>hr r (VW hr');rw[VC]at h1;have h2:(2 ^ 74) ^ (min k xs.length)<=(2 ^ 74) ^ 40:=VT (by decide) (by omega);have h3:fB ns wh (xs.take k)*m<=(2 ^ 74) ^ 40*2 ^ 74:=Xk (by omega) hm;have h4:=D2 (B:=10000) (k:=240) (by decide) (Xp h3 (by decide));exact Xp h4 (by decide)
def iK (ns:List NodeP)(gm:Int)(ms:List NodeP)(xs:List (List Int)):Nat:=fB ns (gm.toNat ^ ms.length) xs
noncomputable def oK (g:Int)(ns:List NodeP)(gm:Int)(ms:List NodeP)(cs:List Int)(xs:List (List Int)):Int:=ko [(g,ns),(gm,ms)] cs xs
theorem P3 {g:Int}{ns:List NodeP}{gm:Int}{ms:List NodeP}{cs:List Int}{xs:List (List Int)}(h:oK g ns gm ms cs xs=0):cb g ns cs xs=0/\cb gm ms cs xs=0:=by
 unfold oK ko at h;simp only[List.mem_cons,List.not_mem_nil,or_false,forall_eq_or_imp,forall_eq]at h;split at h
 ·rename_i h1;split at h
  ·rename_i h2;split at h
   ·rename_i h3;unfold cb;rw[Vx h1.1,Vx h2,Vx h3.1,Vx h1.2,Vx h2,Vx h3.2];exact⟨rfl,rfl⟩
   ·cases h
  ·cases h
 ·cases h
theorem P4 {g:Int}{ns:List NodeP}{gm:Int}{ms:List NodeP}{cs:List Int}{xs:List (List Int)}(h:NetOk g ns):oK g ns gm ms cs xs=if cb gm ms cs xs=0 then cb g ns cs xs else cb gm ms cs xs:=by
 have hn:=tv h;unfold oK ko cb;simp only[List.mem_cons,List.not_mem_nil,or_false,forall_eq_or_imp,forall_eq,hn,true_and,Vx];by_cases h1:eG gm ms=true<;>by_cases h2:gZ cs xs=true<;>by_cases h3:af ms=cs<;>by_cases h4:af ns=cs<;>simp [h1,h2,h3,h4]
noncomputable def vX (g:Int)(ns:List NodeP)(gm:Int)(ms:List NodeP)(cs:List Int)(xs:List (List Int)):AVal :=
 if oK g ns gm ms cs xs=0 then .tup [aa (gh (iK ns gm ms xs) (iK ms g ns xs)),aa 0] else .tup [aa 0,aa (oK g ns gm ms cs xs)]
theorem El {g:Int}{ns:List NodeP}(h:NetOk g ns)(h6:ns.length<=6){gm:Int}{ms:List NodeP}(hm1:1<=gm/\gm<=60)(hm8:ms.length<=6){xs:List (List Int)}(h40:xs.length<=40)(hr:∀ r∈xs,r.length=ns.length):(dW 18446744073709551616 (iK ns gm ms xs)).length<2 ^ 36/\(dW 10000 (iK ns gm ms xs)).length<2 ^ 20:=by
 have hwb:gm.toNat ^ ms.length<=46656000000:=by
  have a1:gm.toNat ^ ms.length<=60 ^ ms.length:=X9 (by omega) _;have a2:(60:Nat) ^ ms.length<=60 ^ 6:=VT (by decide) hm8;have a3:(60:Nat) ^ 6=46656000000:=by decide
  omega
 have h1:=Ej h h6 hwb (xs:=xs) (by omega) hr (k:=xs.length) (m:=1) (Nat.le_refl _) (by decide);have h2:=P2 h h6 hwb (xs:=xs) h40 hr (k:=xs.length) (m:=1) (Nat.le_refl _) (by decide);rw[WR,Nat.mul_one]at h1 h2;exact⟨h1,h2⟩
set_option maxHeartbeats 2000000 in
theorem P5 (g:Int)(ns:List NodeP)(gm:Int)(ms:List NodeP)(cs:List Int)(xs:List (List Int))(hn:gi ns)(hm:gi ms)(hf:ku cs xs)(H:AHeap)(K:ARes->AHeap->Prop)(hK:K (.ret (vX g ns gm ms cs xs)) H):
  ae Tryd.prog G0 16 [aZ g ns,aZ gm ms,da cs xs] H K:=by
 refine ae.clo ⟨_,Tryd.func16,rfl,rfl⟩ fun hcl=>?_;have fin:∀ (a b:Int) (Hx:AHeap),Over H Hx->K (.ret (.tup [aa a,aa b])) H->av Tryd.prog G0 H K (.tup [aa a,aa b]) Hx:=fun a b Hx ho hk=>av.bR aT hcl ho (.tup rfl fun i hi _=>match i,hi with
  | 0,_=>.lit _
  | 1,_=>.lit _) hk
 have r2:(List.replicate 2 [AVal.lit (.int .i64 0),AVal.lit (.slice none 0 0)]).flatten=[.lit (.int .i64 0),.lit (.slice none 0 0),.lit (.int .i64 0),.lit (.slice none 0 0)]:=rfl;refine ae.bF (n:=26) (rs:=[.tmp 6,.tmp 7]) Tryd.func16 rfl rfl rfl (by decide) (by kernel_rfl) (by simp) ?_;simp only[go_sem,aZ,dk,da,aB,r2,List.drop_succ_cons,List.drop_zero];obtain⟨H1,hH1⟩:∃ H1,H1=ext H [.arr 0 36 [aa g,.vec ns.length (au ns)],.arr 0 36 [aa gm,.vec ms.length (au ms)],.arr 0 42 [.vec cs.length (ints cs),.vec xs.length (xs.map ab)],.arr 0 36 [aa g,.vec ns.length (au ns),aa gm,.vec ms.length (au ms)]]:=⟨_,rfl⟩
 have n1:H1.next=H.next+4:=by rw[hH1];rfl
 have o1:Over H H1:=by rw[hH1];exact .ext _ _
 have g0:H1.get H.next=some (.arr 0 36 [aa g,.vec ns.length (au ns)]):=by rw[hH1];exact dN ..
 have g1:H1.get (H.next+1)=some (.arr 0 36 [aa gm,.vec ms.length (au ms)]):=by rw[hH1];exact bC H _ 1 (by simp)
 have g2:H1.get (H.next+2)=some (.arr 0 42 [.vec cs.length (ints cs),.vec xs.length (xs.map ab)]):=by rw[hH1];exact bC H _ 2 (by simp)
 have g3:H1.get (H.next+3)=some (.arr 0 36 (eg [(g,ns),(gm,ms)])):=by rw[hH1];exact bC H _ 3 (by simp)
 show aw _ _ _ _ (ext H [.arr 0 36 [aa g,.vec ns.length (au ns)],.arr 0 36 [aa gm,.vec ms.length (au ms)],.arr 0 42 [.vec cs.length (ints cs),.vec xs.length (xs.map ab)],.arr 0 36 [aa g,.vec ns.length (au ns),aa gm,.vec ms.length (au ms)]]) _;rw[<- hH1];have l0:=ak g0;have l1:=ak g1;have l2:=ak g2;refine aw.clo ((Ac [(g,ns),(gm,ms)] cs xs (fun p hp=>by
  simp only[List.mem_cons,List.not_mem_nil,or_false]at hp;rcases hp with rfl|rfl
  ·exact hn
  ·exact hm) hf (by simp) H1 g3).mono ?_)
 rintro rres Hq ⟨hrq,hHq⟩;rw[hHq,hrq];refine⟨trivial,?_⟩;unfold vX at hK;obtain⟨e,he⟩:∃ e,e=oK g ns gm ms cs xs:=⟨_,rfl⟩
 rw[show ko [(g,ns),(gm,ms)] cs xs=e from he.symm];rw[<- he]at hK;by_cases h0:e=0;rotate_left
 ·rw[Vw h0]at hK;simp only[go_sem,h0];exact fin 0 e H1 o1 hK
 rw[Vx h0]at hK;rw[h0]at he ⊢;obtain⟨e1,e2⟩:=P3 he.symm;obtain⟨nok,_,_⟩:=oC e1;obtain⟨n6,h40,nrow⟩:=qy e1;obtain⟨mok,_,_⟩:=oC e2;obtain⟨m6,_,mrow⟩:=qy e2;have ln:=(El nok n6 mok.g1 m6 h40 nrow).1;have lm:=(El mok m6 nok.g1 n6 h40 mrow).1;simp only[go_sem];refine W.draw 7 [0,0,0,7,0,0,0] Tryd.mixed (by kernel_rfl) (by kernel_rfl) ?_;simp only[go_sem,l0,l1,l2];refine⟨im (dW 18446744073709551616 (iK ns gm ms xs)),[],df.pure (fun Hz=>Ek g ns nok gm ms mok.g1 m6 cs xs n6 (by omega) nrow Hz _ ⟨rfl,rfl⟩),?_⟩;simp only[go_sem];refine aw.clo (Ek gm ms mok g ns nok.g1 n6 cs xs m6 (by omega) mrow _ _ ⟨trivial,?_⟩);simp only[go_sem];refine aw.clo (PA (B:=18446744073709551616) (by decide) (qC (by decide) (iK ns gm ms xs)) (qC (by decide) (iK ms g ns xs)) (by omega) (by omega) _ _ ⟨trivial,?_⟩);rw[oF (by decide),oF (by decide)];simp only[go_sem];exact fin _ 0 H1 o1 hK
end Go.Proofs
namespace Go.Hx
variable {P:Program} {G:Nat->Option (List AVal)} {Γ Γ':az} {H H':AHeap} {w w':World}
inductive Ids (K:Nat->Prop):AVal->Prop
 | lit (v:Value):Ids K (.lit v)
 | vec {n:Nat} {c:List AVal} (h:∀ i (h:i<c.length),Ids K c[i]):Ids K (.vec n c)
 | vptr {n:Nat} {c:List AVal} (h:∀ i (h:i<c.length),Ids K c[i]):Ids K (.vptr c n)
 | agg {c:List AVal} (h:∀ i (h:i<c.length),Ids K c[i]):Ids K (.agg c)
 | tup {c:List AVal} (h:∀ i (h:i<c.length),Ids K c[i]):Ids K (.tup c)
 | clo {f:FuncId} {a b:List AVal} (h1:∀ i (h:i<a.length),Ids K a[i]) (h2:∀ i (h:i<b.length),Ids K b[i]):Ids K (.clo f a b)
 | own {id g o l z:Nat} (h:K id):Ids K (.own id g o l z)
 | ptr {id g o:Nat} (h:K id):Ids K (.ptr id g o)
 | yld {id:Nat} (h:K id):Ids K (.yld id)
theorem Ids.sound {K:Nat->Prop}{Γ₁ Γ₂:az}{H₁ H₂:AHeap}(hK:∀ id,K id->H₂.get id=H₁.get id/\Γ₂ id=Γ₁ id/\id<H₂.next)(ho:∀ b,Γ₂.fw b->Γ₁.fw b){v:AVal}(h:Ids K v):
  ∀ {cv:Value},RelV P Γ₁ H₁ w v cv->RelV P Γ₂ H₂ w v cv:=by
 induction h with
 | lit v=>intro cv h;cases h;exact .lit _
 | vec _ ih =>
  intro cv h;cases h with
  | vec0 a cap=>exact .vec0 a cap
  | vec hb hlt hlen hcs hcell hrel=>exact .vec (fun h=>hb (ho _ h)) hlt hlen hcs hcell fun i h1 h2=>ih i h1 (hrel i h1 h2)
 | vptr _ ih=>intro cv h;cases h with|vptr hb hlt hcs hcell hrel=>exact .vptr (fun h=>hb (ho _ h)) hlt hcs hcell fun i h1 h2=>ih i h1 (hrel i h1 h2)
 | agg _ ih=>intro cv h;cases h with|agg hcs hrel=>exact .agg hcs fun i h1 h2=>ih i h1 (hrel i h1 h2)
 | tup _ ih=>intro cv h;cases h with|tup hcs hrel=>exact .tup hcs fun i h1 h2=>ih i h1 (hrel i h1 h2)
 | clo _ _ ih1 ih2=>intro cv h;cases h with|clo hfs hcs hf hc=>exact .clo hfs hcs (fun i h1 h2=>ih1 i h1 (hf i h1 h2)) fun i h1 h2=>ih2 i h1 (hc i h1 h2)
 | own h =>
  intro cv hv;cases hv with
  | own hv =>
   obtain⟨a,b,c,d⟩:=hv;obtain⟨e1,e2,e3⟩:=hK _ h;refine .own ⟨e3,b,by rw[e1];exact c,fun g e cells hg=>?_⟩;rw[e1]at hg;rw[e2];exact d g e cells hg
 | ptr h =>
  intro cv hv;cases hv with
  | ptr hv =>
   obtain⟨a,b,c,d⟩:=hv;obtain⟨e1,e2,e3⟩:=hK _ h;refine .ptr ⟨e3,b,by rw[e1];exact c,fun g e cells hg=>?_⟩;rw[e1]at hg;rw[e2];exact d g e cells hg
 | yld h =>
  intro cv hv;cases hv with
  | yld hv =>
   obtain⟨a,b,c,d,e⟩:=hv;obtain⟨e1,e2,e3⟩:=hK _ h;refine .yld ⟨e3,b,by rw[e1];exact c,fun st pend n env ps asg body hg=>?_,fun es hg=>?_⟩
   ·rw[e1]at hg;rw[e2];exact d st pend n env ps asg body hg
   ·rw[e1]at hg;rw[e2];exact e es hg
end Go.Hx
namespace Go.Hx
variable {P:Program} {G:Nat->Option (List AVal)} {Γ Γ':az} {H H':AHeap} {w w':World}
theorem Ids.mono {K K':Nat->Prop}(h:∀ id,K id->K' id){v:AVal}(hv:Ids K v):Ids K' v:=by
 induction hv with
 | lit v=>exact .lit v
 | vec _ ih=>exact .vec ih
 | vptr _ ih=>exact .vptr ih
 | agg _ ih=>exact .agg ih
 | tup _ ih=>exact .tup ih
 | clo _ _ i1 i2=>exact .clo i1 i2
 | own h'=>exact .own (h _ h')
 | ptr h'=>exact .ptr (h _ h')
 | yld h'=>exact .yld (h _ h')
end Go.Hx
namespace Go.Hx
variable {P:Program} {G:Nat->Option (List AVal)} {all:Array Oper} {tail:St->Prop} {b i:Nat} {bs:List Nat} {acc:List (Nat × FP)} {K:FP->St->Prop} {s:St} {d:Option Tmp} {ty:TypeId} {pos:String} {aft:Array Edge} {g:Option (Nat × Bool)}
end Go.Hx
namespace Go.Hx
end Go.Hx
namespace Go.Proofs
open Go.Hx
theorem P6 {g:Int}{ns:List NodeP}(h:NetOk g ns)(h5:ns.length<=5)(h2:∀ x∈ns,2<=x.card)(ws ms:List Int):DataOk (af ns) (jJ ns ws ms):=by
 have hc:∀ c∈af ns,2<=c/\c<=4:=fun c hcm=>by
  obtain⟨y,hy,rfl⟩:=VN.1 hcm;exact⟨h2 y hy,(h.node y hy).1.2⟩
 refine⟨by rw[bK];have:=h.n1;omega,by unfold jJ;rw[VD,WB];omega,hc,h.size,fun r hr=>?_⟩;unfold jJ at hr;obtain⟨i,_,rfl⟩:=VN.1 hr;unfold oE;have hf:=AL (iF h) (ws.getD i 0 % aA (af ns));refine⟨by rw[oD,qQ],fun v c b hcv hbv=>?_⟩;have hc2:=hc c (Vs hcv);obtain⟨q,hq⟩:=get_of_lt (l:=dZ (af ns) (ws.getD i 0 % aA (af ns))) (i:=v) (by rw[qQ];exact get_lt hcv);have hqr:=hf.2 v c q hcv hq;rw[sT hq]at hbv;cases hbv;split<;>omega
theorem Em {g:Int}{ns:List NodeP}(h:NetOk g ns)(h5:ns.length<=5)(h2:∀ x∈ns,2<=x.card)(ws ms:List Int):cb g ns (af ns) (jJ ns ws ms)=0:=by
 unfold cb;rw[Vx (tv h),Vx (vY (P6 h h5 h2 ws ms)),Vx rfl]
theorem An {g:Int}{ns:List NodeP}(h:NetOk g ns):sV g ns 0=true:=(sX h).2 ⟨Int.le_refl 0,fun x _=>by have:=h.g1;omega⟩
theorem A8 (g least:Int)(ns:List NodeP)(xs:List (List Int)):af (ji g least ns xs)=af ns:=by
 refine V9 fun v=>?_;unfold af;rw[List.getElem?_map,List.getElem?_map];rcases VR v ns.length with h|h
 ·obtain⟨x,hx⟩:=get_of_lt h;rw[sW hx,hx];rfl
 ·rw[VB (by rw[nr];exact h),VB h]
theorem UB (g least:Int)(ns:List NodeP)(xs:List (List Int)):bA (ji g least ns xs)=bA ns:=by
 refine V9 fun v=>?_;unfold bA;rw[List.getElem?_map,List.getElem?_map];rcases VR v ns.length with h|h
 ·obtain⟨x,hx⟩:=get_of_lt h;rw[sW hx,hx];rfl
 ·rw[VB (by rw[nr];exact h),VB h]
theorem Gw {c:List Int}{g least:Int}(h:jo c g least):iS least (dQ g least c) c (nE least (dQ g least c) c):=by
 obtain⟨s,hs⟩:=AD least (dQ g least c) (c:=c) (by have:=h.1;omega);rw[<- ti hs];exact hs
theorem UC {g least:Int}{ns:List NodeP}(h:NetOk g ns)(h6:ns.length<=6)(hf:qF g ns least){xs:List (List Int)}(hx40:xs.length<=64)(hr:∀ r∈xs,r.length=ns.length):NetOk g (ji g least ns xs):=by
 have get:∀ y∈ji g least ns xs,∃ (v:Nat) (x:NodeP),ns[v]?=some x/\y=iI g least (cJ ns x v xs) x:=fun y hy=>by
  obtain⟨v,hv⟩:=V0.1 hy;obtain⟨x,hx⟩:=get_of_lt (l:=ns) (i:=v) (by have:=get_lt hv;rwa [nr]at this);rw[sW hx]at hv;exact⟨v,x,hx,(Option.some.inj hv).symm⟩
 refine⟨h.g1,by rw[nr];exact h.n1,fun y hy=>?_,by rw[A8];exact h.size,by rw[UB];exact h.acyc,fun y hy=>?_⟩
 ·obtain⟨v,x,hx,rfl⟩:=get y hy;rw[nr];exact h.node x (Vs hx)
 ·obtain⟨v,x,hx,rfl⟩:=get y hy;have hxm:=Vs hx;have hc:=(h.node x hxm).1;refine⟨?_,fun r hr'=>?_⟩
  ·unfold aQ;rw[A8];show (((List.range x.rows.length).map _).length:Int)=_;rw[VD,WB];exact(h.rows x hxm).1
  ·obtain⟨j,hj,rfl⟩:=VN.1 hr';have rok:=vT h h6 hf hx hx40 hr (VJ.1 hj);have hs:=Gw rok;have hl:=qD (qE h h6 hx xs hr) (VJ.1 hj);have h1:=Gc (by omega) hs;have h2:=Gd (fun x hx=>(rok.2.1 x hx).1) (by omega) (by have:=rok.2.2.2.2;unfold dQ;omega) hs;have h3:=hf.1;refine⟨by show ((nq _ _ _ _ _).length:Int)=_;unfold nq;rw[h1.1,hl];show _=x.card;omega,fun w hw=>?_,h1.2⟩;have:=h2 w hw;have h4:=w6 (l:=nq g least (cJ ns x v xs) x.card.toNat j) (fun y hy=>by have:=h2 y hy;omega) w hw;unfold nq at h4;rw[h1.2]at h4;omega
theorem Gx {sp:Int}{c s:List Int}(hc:∀ x∈c,0<=x)(h0:0<c.sum)(h:iS 0 sp c s){k:Nat}(hk:k<c.length)(hz:c.getD k 0=0):s.getD k 0=0:=by
 obtain⟨M,hM,rfl⟩:=h;have hE:fI c=c:=by unfold fI;rw[Vx h0]
 have hT:dM c=c.sum:=by unfold dM;rw[Vx h0]
 have hp:partAt sp c k=0:=by unfold partAt;rw[hE,hz];simp
 have hr:dq sp c k=0:=by unfold dq;rw[hE,hz];simp
 have hlen:0<c.length:=by omega
 rw[bf (tt hk),hp];cases hMk:M k
 ·rfl
 ·exfalso;have hb:=fun i=>wV (sp:=sp) hlen i;have h1:((List.range c.length).map (dq sp c)).sum<=((List.range c.length).map fun i=>(dM c - 1)*(if M i then (1:Int) else 0)).sum:=F7 fun i hi=>by
   have hi':=VJ.1 hi;cases hMi:M i
   ·have:=hM.first k i hk hi' hMk hMi;have h2:=hb i;unfold before at this;rw[hr]at this;simp;omega
   ·have:=hb i;simp;omega
  rw[wU,<- wZ,hM.count,<- F6 hlen]at h1;have hl:=wW (sp:=sp) hlen;rw[Ws hl.1,Zj,XM,WZ (dM c)]at h1;have hc1:0<(List.range c.length).countP M:=List.countP_pos_iff.2 ⟨k,VJ.2 hk,hMk⟩;rw[hM.count]at hc1;omega
theorem UD {a b:List Int}(h:a.length=b.length)(i:Nat):(iG a b).getD i 0=a.getD i 0+b.getD i 0:=by
 unfold iG;rw[Vy,Vy,Vy,Yt];rcases VR i a.length with h1|h1
 ·rw[Vv h1,Vv (by omega)];rfl
 ·rw[VB h1,VB (by omega)];rfl
theorem UE {l:List Int}(h:(0:Int)∈l):aA l=0:=by
 induction l with
 | nil=>simp at h
 | cons a l ih =>
  rw[hU];rcases List.mem_cons.1 h with h|h
  ·rw[<- h];simp
  ·rw[ih h];simp
theorem UF {g:Int}{ns:List NodeP}(h:NetOk g ns){v:Nat}{x:NodeP}(hx:ns[v]?=some x){j k:Nat}{row:List Int}(hrow:x.rows[j]?=some row)(hk:row[k]?=some 0){w:List Int}(hw:bP (af ns) w)(hp:jg ns x v w=j*x.card+k):weight ns w=0:=by
 have hxm:=Vs hx;have hc:=(h.node x hxm).1;have hkc:(k:Int)<x.card:=by have:=get_lt hk;have:=((h.rows x hxm).2 row (Vs hrow)).1;omega
 obtain⟨a,ha⟩:=get_of_lt (l:=w) (i:=v) (by rw[hw.1,bK];exact get_lt hx);have hac:=hw.2 v x.card a (cN hx) ha;unfold jg at hp;rw[bf ha]at hp;have e1:eo (aQ ns x) (aP w x.parents)=j:=by
  have h1:(eo (aQ ns x) (aP w x.parents)*x.card+a) / x.card=eo (aQ ns x) (aP w x.parents):=by
   rw[Yw,XX _ _ (by omega),XW hac.1 hac.2];omega
  have h2:((j:Int)*x.card+k) / x.card=j:=by
   rw[Yw,XX _ _ (by omega),XW (by omega) hkc];omega
  rw[<- h1,hp,h2]
 have e2:a=k:=by rw[e1]at hp;omega
 unfold weight;refine UE ?_;have hg:=qX (ns:=ns) (vals:=w) (get_lt hx);have:fm ns w v=0:=by
  unfold fm;rw[hx];simp only;unfold iR;rw[e1,Int.toNat_natCast,bf hrow,bf ha,e2,Int.toNat_natCast,bf hk]
 rw[this]at hg;exact Vs hg
theorem UG {ns:List NodeP}{x:NodeP}{v i:Nat}(ws:List (List Int))(hw:∀ w∈ws,0<=jg ns x v w)(h0:∀ w∈ws,jg ns x v w=i->weight ns w=0):(fP ns x v ws).getD i 0=0:=by
 have key:∀ (l:List (List Int)) (s:List Int),(∀ w∈l,w∈ws)->s.getD i 0=0->(l.foldl (kq ns x v) s).getD i 0=0:=by
  intro l
  induction l with
  | nil=>intro s _ h;exact h
  | cons w l ih =>
   intro s hl hs;rw[Xc];refine ih _ (fun q hq=>hl q (by simp [hq])) ?_;have h1:=hw w (hl w (by simp));unfold kq md;rw[Vy,W3];by_cases e:(jg ns x v w).toNat=i
   ·rw[Vx e];split
    ·have hz:=h0 w (hl w (by simp)) (by omega);rw[e,hz,hs];rfl
    ·rfl
   ·rw[Vw e,<- Vy];exact hs
 unfold fP;refine key ws _ (fun w h=>h) ?_;rw[Vy,WY];split<;>rfl
theorem UH {g:Int}{ns:List NodeP}(h:NetOk g ns)(h6:ns.length<=6){v:Nat}{x:NodeP}(hx:ns[v]?=some x){xs:List (List Int)}(hr:∀ r∈xs,r.length=ns.length)(hm:∀ r∈xs,dz ns r≠0)
  {j k:Nat} {row:List Int} (hrow:x.rows[j]?=some row) (hk:row[k]?=some 0):(cJ ns x v xs).getD (j*x.card.toNat+k) 0=0:=by
 have hxm:=Vs hx;have hc:=(h.node x hxm).1;obtain⟨i,hi⟩:∃ i,i=j*x.card.toNat+k:=⟨_,rfl⟩
 have hii:(i:Int)=j*x.card+k:=by rw[hi];push_cast;rw[Ws (by omega)]
 rw[<- hi];have hkc:(k:Int)<x.card:=by have:=get_lt hk;have:=((h.rows x hxm).2 row (Vs hrow)).1;omega
 have hil:(i:Int)<x.rows.length*x.card:=by
  have h1:((j:Int)+1)*x.card<=x.rows.length*x.card:=Wv (by have:=get_lt hrow;omega) (by omega);rw[XN,XM]at h1;omega
 have key:∀ n,n<=xs.length->(cJ ns x v (xs.take n)).getD i 0=0:=by
  intro n
  induction n with
  | zero =>
   intro _;show (List.replicate _ (0:Int)).getD i 0=0;rw[Vy,WY];split<;>rfl
  | succ n ih =>
   intro hn;obtain⟨r,hrn⟩:=get_of_lt (l:=xs) (i:=n) (by omega);have hrm:=Vs hrn;have hrl:=hr r hrm;have hro:=Aa h h6 hx hrl;obtain⟨hs,hl,_,_⟩:=Ab hro;obtain⟨pa,pb,pc⟩:=sR h hx (di (af ns) r) fun w hw=>nk (iF h) (by rw[hrl,bK]) hw;have pa':((jh ns x v r).length:Int)=x.rows.length*x.card:=pa;have hel:=(sS h h6 hx (xs.take n) fun q hq=>hr q (VW hq)).1;have hsum:0<(jh ns x v r).sum:=by
    have e:(jh ns x v r).sum=dz ns r:=pc;have:=hm r hrm;have:=w6 (l:=[(jh ns x v r).sum]);have hnn:0<=dz ns r:=Ag h hrl;omega
   have hz:(jh ns x v r).getD i 0=0:=UG _ (fun w hw=>(z0 h hx (nk (iF h) (by rw[hrl,bK]) hw)).1) fun w hw hp=>UF h hx hrow hk (nk (iF h) (by rw[hrl,bK]) hw) (by rw[hp,hii]);have hzz:=Gx (fun y hy=>(hro.2.1 y hy).1) hsum hs (k:=i) (by omega) hz;rw[aL hrn,z9,UD (by omega),ih (by omega),hzz];rfl
 have:=key xs.length (Nat.le_refl _)
 rwa [WR]at this
theorem UI {g:Int}{ns:List NodeP}(h:NetOk g ns)(h6:ns.length<=6){v:Nat}{x:NodeP}(hx:ns[v]?=some x){xs:List (List Int)}(hx40:xs.length<=64)(hr:∀ r∈xs,r.length=ns.length)(hm:∀ r∈xs,dz ns r≠0)
  {j k:Nat} {row:List Int} (hrow:x.rows[j]?=some row) (hk:row[k]?=some 0) (hs:0<(fC (cJ ns x v xs) x.card.toNat j).sum):(nq g 0 (cJ ns x v xs) x.card.toNat j).getD k 0=0:=by
 have hxm:=Vs hx;have hc:=(h.node x hxm).1;have hkc:k<x.card.toNat:=by have:=get_lt hk;have:=((h.rows x hxm).2 row (Vs hrow)).1;omega
 have rok:=vT h h6 ((sX h).1 (An h)) hx hx40 hr (get_lt hrow);have hl:=qD (qE h h6 hx xs hr) (get_lt hrow);refine Gx (fun y hy=>(rok.2.1 y hy).1) hs (Gw rok) (k:=k) (by omega) ?_;have:=UH h h6 hx hr hm hrow hk;unfold fC;rw[Vy,Xe,Vx hkc,WN,<- Vy];exact this
def db (n:Nat):Nat->List Nat->List Nat
 | c,[]=>if 0<c then [c] else []
 | c,d :: l=>(d*n+c) % 10000 :: db n ((d*n+c) / 10000) l
def cM:List Nat->Nat
 | []=>0
 | d :: l=>d+10000*cM l
structure DigL (l:List Nat):Prop where
 rng:∀ d∈l,d<10000
 ne:l≠[]
 last:0<l.getD (l.length - 1) 0
theorem Fe (n:Nat):∀ (l:List Nat) (c:Nat),cM (db n c l)=cM l*n+c:=by
 intro l
 induction l with
 | nil =>
  intro c;unfold db;split
  ·simp [cM]
  ·simp [cM];omega
 | cons d l ih =>
  intro c;simp only[db,cM];rw[ih,Wc,Xz,WM];have:=Nat.mod_add_div (d*n+c) 10000;omega
theorem Si {n:Nat}(hn:n<10000):∀ (l:List Nat) (c:Nat),(∀ d∈l,d<10000)->c<10000->(∀ d∈db n c l,d<10000):=by
 intro l
 induction l with
 | nil =>
  intro c _ hc d hd;unfold db at hd;split at hd
  ·rw[List.mem_singleton.1 hd];exact hc
  ·cases hd
 | cons d l ih =>
  intro c hl hc x hx;simp only[db,List.mem_cons]at hx;have hd:=hl d (by simp);rcases hx with rfl|hx
  ·exact X8 _ (by decide)
  ·refine ih _ (fun y hy=>hl y (by simp [hy])) ?_ x hx;have:d*n<=9999*n:=V3 _ (by omega);rw[Y3 (by decide)];omega
theorem Sj {n d c:Nat}(hn:n<10000)(hd:d<10000)(hc:c<n):(d*n+c) / 10000<n:=by
 rw[Y3 (by decide)];have:d*n<=9999*n:=V3 _ (by omega);omega
theorem Sk {n:Nat}(hn:1<=n):∀ (l:List Nat) (c:Nat),l≠[]->0<l.getD (l.length - 1) 0->db n c l≠[]/\0<(db n c l).getD ((db n c l).length - 1) 0:=by
 intro l
 induction l with
 | nil=>intro c h;exact absurd rfl h
 | cons d l ih =>
  intro c _ h;refine⟨by simp [db],?_⟩;simp only[db];by_cases hl:l=[]
  ·subst hl;have h:0<d:=(by simpa using h);have hp:0<d*n+c:=(by have:=YA h (show 0<n by omega);omega);unfold db;split
   ·rename_i h2;exact h2
   ·rename_i h2;have:=Nat.mod_add_div (d*n+c) 10000;simp;omega
  ·have h':0<l.getD (l.length - 1) 0:=by
    have hl':=W2.2 hl;rw[List.length_cons,Xq,show l.length=(l.length - 1)+1 by omega,Wi]at h;exact h
   obtain⟨a,b⟩:=ih ((d*n+c) / 10000) hl h';have:=W2.2 a;rw[List.length_cons,Xq,show (db n ((d*n+c) / 10000) l).length=((db n ((d*n+c) / 10000) l).length - 1)+1 by omega,Wi];exact b
theorem DigL.by {n:Nat}{l:List Nat}(h:DigL l)(h1:1<=n)(hn:n<10000):DigL (db n 0 l):=by
 obtain⟨a,b⟩:=Sk h1 l 0 h.ne h.last;exact⟨Si hn l 0 h.rng (by decide),a,b⟩
theorem DigL.one:DigL [1]:=⟨fun d h=>by rw[List.mem_singleton.1 h];decide,by simp,by decide⟩
theorem Ff (n:Nat):∀ (l:List Nat) (c:Nat),(db n c l).length<=l.length+1:=by
 intro l
 induction l with
 | nil=>intro c;unfold db;split<;>simp
 | cons d l ih=>intro c;simp only[db,List.length_cons];have:=ih ((d*n+c) / 10000);omega
theorem Sl:∀ {l:List Nat},(∀ d∈l,d<10000)->cM l<10000 ^ l.length:=by
 intro l
 induction l with
 | nil=>intro _;simp [cM]
 | cons d l ih =>
  intro h;have h1:=h d (by simp);have h2:=ih fun x hx=>h x (by simp [hx]);simp only[cM,List.length_cons,W9];omega
theorem Sm:∀ {l:List Nat},l≠[]->0<l.getD (l.length - 1) 0->10000 ^ (l.length - 1)<=cM l:=by
 intro l
 induction l with
 | nil=>intro h;exact absurd rfl h
 | cons d l ih =>
  intro _ h;by_cases hl:l=[]
  ·subst hl;have h:0<d:=(by simpa using h);simp [cM];omega
  ·have hl':=W2.2 hl;have h':0<l.getD (l.length - 1) 0:=by
    rw[List.length_cons,Xq,show l.length=(l.length - 1)+1 by omega,Wi]at h;exact h
   have:=ih hl h';simp only[cM,List.length_cons,Xq];rw[show l.length=(l.length - 1)+1 by omega,W9];omega
theorem Fg {x y:List Nat}(hx:DigL x)(hy:DigL y)(h:x.length<y.length):cM x<cM y:=by
 have h1:=Sl hx.rng;have h2:=Sm hy.ne hy.last;have h3:10000 ^ x.length<=10000 ^ (y.length - 1):=VT (by decide) (by omega);omega
theorem Fh:∀ {x y:List Nat},x.length=y.length->(∀ d∈x,d<10000)->(∀ d∈y,d<10000)->∀ i,i<x.length->(∀ j,i<j->j<x.length->x.getD j 0=y.getD j 0)->x.getD i 0<y.getD i 0->cM x<cM y:=by
 intro x
 induction x with
 | nil=>intro y _ _ _ i hi;exact absurd hi (VX _)
 | cons a x ih =>
  intro y hl hx hy i hi he hlt;cases y with
  | nil=>simp at hl
  | cons b y =>
   simp only[List.length_cons]at hl hi;have ha:=hx a (by simp);have hb:=hy b (by simp);simp only[cM];cases i with
   | zero =>
    have hxy:x=y:=by
     apply V9;intro j;rcases VR j x.length with h|h
     ·have:=he (j+1) (by omega) (by simp;omega);rw[Wi,Wi]at this;rw[Vy,Vy]at this;rw[Vv h,Vv (by omega)]at this ⊢;exact congrArg some this
     ·rw[VB h,VB (by omega)]
    rw[Ya,Ya]at hlt;rw[hxy];omega
   | succ i =>
    rw[Wi,Wi]at hlt;have:=ih (y:=y) (by omega) (fun d h=>hx d (by simp [h])) (fun d h=>hy d (by simp [h])) i (by omega) (fun j h1 h2=>by
     have:=he (j+1) (by omega) (by simp;omega);rw[Wi,Wi]at this;exact this) hlt
    omega
def g9 (i:Nat):Nat:=(jL i).toNat
def bY (e:Nat->Nat):Nat->Nat
 | 0=>1
 | k+1=>bY e k*g9 k ^ e k
theorem AF (e f:Nat->Nat):∀ k,bY (fun i=>e i+f i) k=bY e k*bY f k:=by
 intro k
 induction k with
 | zero=>rfl
 | succ k ih=>simp only[bY];rw[ih,Nat.pow_add];simp only[WM,Nat.mul_left_comm]
theorem AG {e f:Nat->Nat}:∀ k,(∀ i,i<k->e i=f i)->bY e k=bY f k:=by
 intro k
 induction k with
 | zero=>intro _;rfl
 | succ k ih=>intro h;simp only[bY];rw[ih fun i hi=>h i (by omega),h k (by omega)]
theorem Sn (i:Nat):0<g9 i:=by unfold g9;have:=vZ i;omega
theorem wH (e:Nat->Nat):∀ k,0<bY e k:=by
 intro k
 induction k with
 | zero=>exact Nat.one_pos
 | succ k ih=>exact YA ih (Nat.pow_pos (Sn k))
theorem So:∀ k,bY (fun _=>0) k=1:=by
 intro k
 induction k with
 | zero=>rfl
 | succ k ih=>simp [bY,ih]
theorem Sp:∀ w:Nat,1<=w->w<=60->bY (gK (w:Int)) 18=w:=by
 have:(List.range 61).all (fun w=>w == 0 || bY (gK (w:Int)) 18 == w)=true:=by kernel_rfl
 intro w h1 h2;have:=V1.1 this w (VJ.2 (by omega));simp only[Xu,beq_iff_eq]at this;omega
def fS (ws:List Nat)(i:Nat):Nat:=(ws.map fun (w:Nat)=>gK (w:Int) i).sum
def fj (ws:List Nat):Nat:=ws.foldr (·*·) 1
theorem Fi:∀ {ws:List Nat},(∀ w∈ws,1<=w/\w<=60)->bY (fS ws) 18=fj ws:=by
 intro ws
 induction ws with
 | nil=>intro _;exact So 18
 | cons w ws ih =>
  intro h;have h1:=h w (by simp);have e:fS (w :: ws)=fun i=>gK (w:Int) i+fS ws i:=by funext i;simp [fS]
  rw[e,AF,Sp w h1.1 h1.2,ih fun x hx=>h x (by simp [hx])];rfl
end Go.Proofs
namespace Go.Hx
variable {P:Program} {G:Nat->Option (List AVal)}
theorem dD.Sq (hG:gE G){s:St}{n t0 t1:Nat}{v0 v1:AVal}(h0:Fz (fun id=>n<=id) s.H s.H.next (s.ρ t0) v0)(h1:Fz (fun id=>n<=id) s.H s.H.next (s.ρ t1) v1):dD P G s ⟨fun t=>if t=t0 then v0 else if t=t1 then v1 else s.ρ t,s.H.cut n⟩:=by
 intro m wb Γ a w hs;refine dD.freeze (s:=s) (s':=⟨fun t=>if t=t0 then v0 else if t=t1 then v1 else s.ρ t,s.H.cut n⟩) hG (MQ hs.heap.clo n) (fun t=>?_) m wb Γ a w hs;by_cases h:t=t0
 ·subst h;simp only[if_true];exact h0
 ·by_cases h':t=t1
  ·subst h';simp only[h,if_false,if_true];exact h1
  ·simp only[h,h',if_false];exact .dead (hs.env t).p6
theorem aC.Fj {lo:Nat}{H:AHeap}{e:TypeId}{v:AVal}{cs:List AVal}(h:aC lo H e v cs){k:Nat}(hk:k<lo):∀ g n,v≠.own k g 0 n 1:=fun g n he=>by
 rcases h with ⟨h,_⟩|⟨id,g',a,_,h,_⟩
 ·rw[h]at he;cases he
 ·rw[h]at he;have:=(AVal.own.inj he).1;omega
end Go.Hx
namespace Go.Proofs
open Go.Hx
theorem Fk (a b:List Nat):aK (a++b)=aK a++aK b:=by simp [aK]
theorem Fl (l:List Nat)(n:Nat)(hd:∀ d∈l,d<10000)(h1:1<=n)(hn:n<=61)(hl:l.length<2 ^ 30)(H:AHeap)(K:ARes->AHeap->Prop)(hK:K (.ret (ab (aK (db n 0 l)))) H):ae Tryd.prog G0 42 [ab (aK l),aa n] H K:=by
 refine ae.clo ⟨_,Tryd.func42,rfl,rfl⟩ fun hcl=>?_;have jl:=ks l;unfold ab;rw[jl];have il:(ints (aK l)).length=l.length:=by rw[aR,jl]
 refine ae.cX (n:=37) (rs:=[.tmp 4]) Tryd.func42 rfl rfl rfl (by decide) (by simp) ?_;refine W.sq ?_;simp only[go_sem];refine W.sq ?_;simp only[go_sem];refine W.sq ?_;simp only[go_sem];refine W.sq ?_;simp only[go_sem];refine W.en (fun E=>E 0=.vec l.length (ints (aK l)) /\ E 1=aa n /\ E 5=.lit (.slice none 0 0) /\ E 6=aa 0 /\ E 7=aa 0) (by simp only[go_sem]) fun E ⟨e0,e1,e5,e6,e7⟩=>?_
 refine W.aG 1073741792 (by kernel_rfl) (fun ρ Hx=>∃ (i c:Nat) (p:List Nat),ρ 7=aa i/\ρ 6=aa c/\i<=l.length/\c<n/\p.length=i/\db n 0 l=p++db n c (l.drop i)/\Over H Hx/\aC H.next Hx 3 (ρ 5) (ints (aK p))) (fun ρ Hx=>l.length - (iv (ρ 7)).toNat) ?_ ?_
 ·exact⟨0,0,[],e7,e6,by omega,by omega,rfl,rfl,.refl _,by simp only[go_sem,e5];exact .nil⟩
 rintro ρ Hx ⟨i,c,p,h7,h6,hi,hc,hp,hby,ov,hO⟩;obtain⟨v,hv⟩:∃ v,v=ρ 5:=⟨_,rfl⟩
 rw[<- hv]at hO;have ovn:=ov.next;refine W.en (fun E1=>E1 0=.vec l.length (ints (aK l)) /\ E1 1=aa n /\ E1 5=v /\ E1 6=aa c /\ E1 7=aa i) (by simp only[go_sem,e0,e1,hv,h6,h7]) fun E1 ⟨f0,f1,f5,f6,f7⟩=>?_
 by_cases hb:(i:Int)<l.length
 ·obtain⟨d,hdx⟩:=get_of_lt (l:=l) (i:=i) (by omega);have hd1:=hd d (Vs hdx);have hdg:(ints (aK l))[i]?=some (.lit (.int .i64 (d:Int))):=by rw[eZ,qH hdx];rfl
  have hdn:=aJ hdg;have hm:d*n<=9999*61:=Xk (by omega) hn;have wm:IntKind.i64.wrap ((d:Int)*(n:Int))=((d*n:Nat):Int):=by rw[Vt _ (by rw[<- Wx];omega)];push_cast;rfl
  have wa:IntKind.i64.wrap (((d*n:Nat):Int)+(c:Int))=((d*n+c:Nat):Int):=by rw[Vt _ (by omega)];omega
  obtain⟨x,hx⟩:∃ x,x=d*n+c:=⟨_,rfl⟩
  rw[<- hx]at wa;have t1:((x:Int)).tmod 10000=((x % 10000:Nat):Int):=by rw[V6 (by omega)];push_cast;rfl
  have t2:((x:Int)).tdiv 10000=((x / 10000:Nat):Int):=by rw[Wa (by omega)];push_cast;rfl
  have w1:=Vt ((x % 10000:Nat):Int) (by omega);have w2:=Vt ((x / 10000:Nat):Int) (by omega);have w3:=Vt ((i:Int)+1) (by omega);obtain⟨v',H2,hA,hO2,hn2,hp2⟩:=jc (P:=Tryd.prog) (H:=Hx) (t:=39) (x:=aa ((x % 10000:Nat):Int)) (n:=Hx.next+1) Tryd.underlying39 Tryd.fh Tryd.fR rfl (by rw[Tryd.gL,aR,ks];omega) hO (by omega) rfl;simp only[aa]at hA;have hvc:=hO2.cells;have hvo:=hO2.one;refine W.vs ?_;simp only[go_sem,f0,f1,f5,f6,f7,hb,hdg,hdn,wm,wa,t1,t2,w2,w3,hA];refine⟨by omega,⟨i+1,x / 10000,p++[x % 10000],rfl,rfl,by omega,by rw[hx];exact Sj (by omega) hd1 hc,by simp [hp],?_,⟨by omega,fun j h=>(hp2 j (by omega) (hO.Fj h)).trans (ov.old j h)⟩,?_⟩,by rw[h7];simp only[aa,aN];omega⟩
  ·rw[hby];have:l.drop i=d :: l.drop (i+1):=by
    rw[Wn (by omega)];rw[Vv (by omega)]at hdx;rw[Option.some.inj hdx]
   rw[this];simp only[db];rw[<- hx];simp
  ·rw[Fk];simpa [ints,aa,aK] using hO2
 have hin:i=l.length:=by omega
 rw[hin,YL]at hby;by_cases hc0:(c:Int) > 0
 ·have hby2:db n 0 l=p++[c]:=by rw[hby];unfold db;rw[Vx (by omega)]
  obtain⟨v',H2,hA,hO2,hn2,hp2⟩:=jc (P:=Tryd.prog) (H:=Hx) (t:=39) (x:=aa (c:Int)) (n:=Hx.next+1) Tryd.underlying39 Tryd.fh Tryd.fR rfl (by rw[Tryd.gL,aR,ks];omega) hO (by omega) rfl;simp only[aa]at hA;have hvc:=hO2.cells;have hvo:=hO2.one;refine W.vs ?_;simp only[go_sem,f0,f7,hb];refine W.vs ?_;simp only[go_sem,f5,f6,hc0,hA];refine av.bR aT hcl (H2:=H2) ⟨by omega,fun j h=>(hp2 j (by omega) (hO.Fj h)).trans (ov.old j h)⟩ (v':=ab (aK (db n 0 l))) ?_ hK;rw[hby2,Fk];have:ints (aK p)++[aa (c:Int)]=ints (aK p++aK [c]):=by simp [ints,aK,aa]
  rw[this]at hO2;exact hO2.jb fun i h=>h
 ·have hby2:db n 0 l=p:=by rw[hby];unfold db;rw[Vw (by omega)];simp
  refine W.vs ?_;simp only[go_sem,f0,f7,hb];refine W.vs ?_;simp only[go_sem,f5,f6,hc0];refine av.bR aT hcl (H2:=Hx) ov (v':=ab (aK (db n 0 l))) ?_ hK;rw[hby2];exact hO.jb fun i h=>h
def kA (x y:Nat):Int:=if x<y then -1 else if x=y then 0 else 1
def cU (a b:List Int)(i:Nat):Nat:=(a.getD i 0 - b.getD i 0).toNat
set_option maxHeartbeats 8000000 in
theorem Sr (a b:List Int)(hal:a.length=18)(hbl:b.length=18)(ha:fQ a 9000)(hb:fQ b 9000)(H:AHeap)(K:ARes->AHeap->Prop)(hK:K (.ret (aa (kA (bY (cU a b) 18) (bY (cU b a) 18)))) H):ae Tryd.prog G0 17 [.agg (ints a),.agg (ints b)] H K:=by
 refine ae.clo ⟨_,Tryd.func17,rfl,rfl⟩ fun hcl=>?_;obtain⟨CA,hCA⟩:∃ CA,CA=ints a:=⟨_,rfl⟩
 obtain⟨CB,hCB⟩:∃ CB,CB=ints b:=⟨_,rfl⟩
 have cal:CA.length=18:=by rw[hCA,aR,hal]
 have cbl:CB.length=18:=by rw[hCB,aR,hbl]
 have cag:∀ i,i<18->CA[i]?=some (.lit (.int .i64 (a.getD i 0))):=fun i h=>by
  obtain⟨x,hx⟩:=get_of_lt (l:=a) (i:=i) (by omega);rw[hCA,eZ,hx,bf hx];rfl
 have cbg:∀ i,i<18->CB[i]?=some (.lit (.int .i64 (b.getD i 0))):=fun i h=>by
  obtain⟨x,hx⟩:=get_of_lt (l:=b) (i:=i) (by omega);rw[hCB,eZ,hx,bf hx];rfl
 have car:∀ i,-9000<=a.getD i 0/\a.getD i 0<=9000:=fun i=>by
  rw[Vy];cases h:a[i]? with
  | none=>simp
  | some x=>exact ha x (Vs h)
 have cbr:∀ i,-9000<=b.getD i 0/\b.getD i 0<=9000:=fun i=>by
  rw[Vy];cases h:b[i]? with
  | none=>simp
  | some x=>exact hb x (Vs h)
 have cne:=aJ (cag 0 (by omega));have cne2:=aJ (cbg 0 (by omega));rw[<- hCA,<- hCB];clear hCA hCB;have pp:∀ i,jL i=((g9 i:Nat):Int)/\1<=g9 i/\g9 i<=61:=fun i=>by
  have:=vZ i;unfold g9;omega
 refine ae.cX (n:=82) (rs:=[.tmp 4]) Tryd.func17 rfl rfl rfl (by decide) (by simp) ?_;refine W.sq ?_;simp only[go_sem];refine W.sq ?_;simp only[go_sem];obtain⟨H1,hH1⟩:∃ H1,H1=ext H [.arr 0 57 CA,.arr 0 57 CB,.arr 0 3 [.lit (.int .i64 1)],.arr 0 3 [.lit (.int .i64 1)]]:=⟨_,rfl⟩
 have n1:H1.next=H.next+4:=by rw[hH1];rfl
 have o1:Over H H1:=by rw[hH1];exact .ext _ _
 have g0:H1.get H.next=some (.arr 0 57 CA):=by rw[hH1];exact dN ..
 have g1:H1.get (H.next+1)=some (.arr 0 57 CB):=by rw[hH1];exact bC H _ 1 (by simp)
 have g2:H1.get (H.next+2)=some (.arr 0 3 [.lit (.int .i64 1)]):=by rw[hH1];exact bC H _ 2 (by simp)
 have g3:H1.get (H.next+3)=some (.arr 0 3 [.lit (.int .i64 1)]):=by rw[hH1];exact bC H _ 3 (by simp)
 refine W.en (fun E=>E 2=.ptr H.next 0 0 /\ E 3=.ptr (H.next+1) 0 0 /\ E 5=.own (H.next+2) 0 0 1 1 /\ E 6=.own (H.next+3) 0 0 1 1) (by simp only[go_sem]) fun E ⟨e2,e3,e5,e6⟩=>?_
 rw[<- hH1];clear hH1;have O2:aC (H.next+2) H1 3 (E 5) (ints (aK [1])):=by rw[e5];exact .inr ⟨H.next+2,0,Nat.le_refl _,by omega,rfl,g2⟩
 have O3:aC (H.next+2) H1 3 (E 6) (ints (aK [1])):=by rw[e6];exact .inr ⟨H.next+3,0,by omega,by omega,rfl,g3⟩
 refine W.BS (dD.Sq aT (s:=⟨E,H1⟩) (n:=H.next+2) (t0:=5) (t1:=6) (v0:=ab (aK [1])) (v1:=ab (aK [1])) (O2.jb fun i h=>h) (O3.jb fun i h=>h)) (Nat.le_refl _) trivial ?_;obtain⟨H2,hH2⟩:∃ H2,H2=H1.cut (H.next+2):=⟨_,rfl⟩
 have ov2:Over H H2:=by rw[hH2];exact⟨by show H.next<=H1.next;omega,fun j h=>by rw[qc (by omega)];exact o1.old j h⟩
 have k0:H2.get H.next=some (.arr 0 57 CA):=by rw[hH2,qc (by omega)];exact g0
 have k1:H2.get (H.next+1)=some (.arr 0 57 CB):=by rw[hH2,qc (by omega)];exact g1
 have l0:=ak k0;have l1:=ak k1;show W _ _ _ _ _ _ ⟨fun t=>if t=5 then ab (aK [1]) else if t=6 then ab (aK [1]) else E t,H1.cut (H.next+2)⟩;rw[<- hH2];refine W.env fun E1 hE1=>?_;have f2:E1 2=.ptr H.next 0 0:=by rw[hE1];exact e2
 have f3:E1 3=.ptr (H.next+1) 0 0:=by rw[hE1];exact e3
 have f5:E1 5=ab (aK [1]):=by rw[hE1];exact Vx rfl
 have f6:E1 6=ab (aK [1]):=by rw[hE1];rfl
 clear hE1 hH2 O2 O3 e5 e6 g2 g3;refine W.cP (fun s'=>s'.H=H2/\∃ x y:List Nat,s'.ρ 5=ab (aK x)/\s'.ρ 6=ab (aK y)/\DigL x/\DigL y/\cM x=bY (cU a b) 18/\cM y=bY (cU b a) 18/\x.length<=400000/\y.length<=400000) ?_ ?_
 ·refine W.sq ?_;simp only[go_sem];refine W.en (fun E2=>E2 2=.ptr H.next 0 0 /\ E2 3=.ptr (H.next+1) 0 0 /\ E2 5=ab (aK [1]) /\ E2 6=ab (aK [1]) /\ E2 7=aa 0) (by simp only[go_sem,f2,f3,f5,f6]) fun E2 ⟨a2,a3,a5,a6,a7⟩=>?_
  refine W.block ?_;refine W.aG 140737488348128 (by kernel_rfl) (fun ρ Hx=>Hx=H2/\∃ (i:Nat) (x y:List Nat),ρ 7=aa i/\i<=18/\ρ 5=ab (aK x)/\ρ 6=ab (aK y)/\DigL x/\DigL y/\cM x=bY (cU a b) i/\cM y=bY (cU b a) i/\x.length<=1+18000*i/\y.length<=1+18000*i) (fun ρ Hx=>18 - (iv (ρ 7)).toNat) ?_ ?_
  ·exact⟨rfl,0,[1],[1],a7,by omega,a5,a6,.one,.one,rfl,rfl,by decide,by decide⟩
  rintro ρ Hx ⟨hHx,i,x,y,h7,hi,h5,h6,dx,dy,vx,vy,lx,ly⟩;rw[hHx];refine W.en (fun E3=>E3 2=.ptr H.next 0 0 /\ E3 3=.ptr (H.next+1) 0 0 /\ E3 5=ab (aK x) /\ E3 6=ab (aK y) /\ E3 7=aa i) (by simp only[go_sem,a2,a3,h5,h6,h7]) fun E3 ⟨b2,b3,b5,b6,b7⟩=>?_
  by_cases h18:(i:Int)<18;rotate_left
  ·refine W.vs ?_;simp only[go_sem,b7,h18];have:i=18:=(by omega);subst this;exact⟨x,y,b5,b6,dx,dy,vx,vy,by omega,by omega⟩
  have i18:i<18:=by omega
  have ar:=car i;have br:=cbr i;have wab:=Vt (a.getD i 0 - b.getD i 0) (by omega);have wba:=Vt (b.getD i 0 - a.getD i 0) (by omega);have wi:=Vt ((i:Int)+1) (by omega);obtain⟨p1,p2,p3⟩:=pp i;have pab:cU a b i=(a.getD i 0 - b.getD i 0).toNat:=rfl;have pba:cU b a i=(b.getD i 0 - a.getD i 0).toNat:=rfl;refine W.sq ?_;simp only[go_sem,b7,h18];refine W.seq (W.block ?_);refine W.cP (fun s'=>s'.H=H2/\s'.ρ 2=.ptr H.next 0 0/\s'.ρ 3=.ptr (H.next+1) 0 0/\s'.ρ 7=aa i/\s'.ρ 6=ab (aK y)/\∃ x2:List Nat,s'.ρ 5=ab (aK x2)/\DigL x2/\cM x2=bY (cU a b) (i+1)/\x2.length<=1+18000*(i+1)) ?_ ?_
  ·refine W.sq ?_;simp only[go_sem];refine W.env fun F hF=>?_;have c2:F 2=.ptr H.next 0 0:=(by rw[hF];simp only[go_sem,b2]);have c3:F 3=.ptr (H.next+1) 0 0:=(by rw[hF];simp only[go_sem,b3]);have cO:F 6=ab (aK y):=(by rw[hF];simp only[go_sem,b6]);have cV:F 5=ab (aK x):=(by rw[hF];simp only[go_sem,b5]);have c7:F 7=aa i:=(by rw[hF];simp only[go_sem,b7]);have cT:F 8=aa 0:=(by rw[hF];simp only[go_sem]);clear hF;refine W.block ?_;refine W.aG 4294836512 (by kernel_rfl) (fun ρ Hx=>Hx=H2/\∃ (k:Nat) (x2:List Nat),ρ 8=aa k/\k<=cU a b i/\ρ 5=ab (aK x2)/\DigL x2/\cM x2=bY (cU a b) i*g9 i ^ k/\x2.length<=1+18000*i+k) (fun ρ Hx=>cU a b i - (iv (ρ 8)).toNat) ?_ ?_
   ·exact⟨rfl,0,x,cT,by omega,cV,dx,by rw[vx];simp,by omega⟩
   rintro ρk Hk ⟨hHk,k,x2,hkT,hk,hkV,d2,v2,l2⟩;rw[hHk];refine W.env fun J hJ=>?_;have j2:J 2=.ptr H.next 0 0:=(by rw[hJ];simp only[go_sem,c2]);have j3:J 3=.ptr (H.next+1) 0 0:=(by rw[hJ];simp only[go_sem,c3]);have jO:J 6=ab (aK y):=(by rw[hJ];simp only[go_sem,cO]);have jV:J 5=ab (aK x2):=(by rw[hJ];simp only[go_sem,hkV]);have j7:J 7=aa i:=(by rw[hJ];simp only[go_sem,c7]);have jT:J 8=aa k:=(by rw[hJ];simp only[go_sem,hkT]);clear hJ;refine W.seq (W.cP (fun s'=>s'.H=H2/\s'.ρ 2=.ptr H.next 0 0/\s'.ρ 3=.ptr (H.next+1) 0 0/\s'.ρ 6=ab (aK y)/\s'.ρ 5=ab (aK x2)/\s'.ρ 7=aa i/\s'.ρ 8=aa k/\s'.ρ 25=.lit (.bool (decide (k<cU a b i)))) ?_ ?_)
   ·refine W.draw 8 [0,0,2,6,0,16,48,126] Tryd.mixed (by kernel_rfl) (by kernel_rfl) ?_;by_cases hlt:(k:Int)<a.getD i 0 - b.getD i 0
    ·rw[VM (show k<cU a b i by rw[pab];omega)];simp only[go_sem,j2,j3,jO,jV,j7,jT,l0,l1,cag i i18,cbg i i18,h18,wab,hlt]
    ·rw[VZ (show ¬ k<cU a b i by rw[pab];omega)];simp only[go_sem,j2,j3,jO,jV,j7,jT,l0,l1,cag i i18,cbg i i18,h18,wab,hlt]
   rintro⟨ρc,Hc⟩ ⟨hHc,z2,z3,zO,zV,z7,zT,zc⟩;simp only at hHc z2 z3 zO zV z7 zT zc;rw[hHc];clear hHc Hc;by_cases hlt:k<cU a b i;rotate_left
   ·rw[VZ hlt]at zc;refine W.cond (t:=false) zc ?_;refine W.vs ?_;simp only[go_sem];have hke:k=cU a b i:=(by omega);subst hke;exact⟨z2,z3,z7,zO,x2,zV,d2,v2,by omega⟩
   rw[VM hlt]at zc;have wk:=Vt ((k:Int)+1) (by omega);refine W.cond (t:=true) zc ?_;refine W.vs ?_;simp only[go_sem];refine W.seq (W.block ?_);refine W.vs ?_;simp only[go_sem,z7,zV];refine aw.clo (Ey i i18 H2 _ ⟨trivial,?_⟩);rw[p1];simp only[go_sem];refine aw.clo (Fl x2 (g9 i) d2.rng p2 p3 (by omega) H2 _ ⟨trivial,?_⟩);simp only[go_sem];refine W.vs ?_;simp only[go_sem,zT,wk];exact⟨⟨k+1,db (g9 i) 0 x2,rfl,by omega,rfl,d2.by p2 (by omega),by rw[Fe,v2,W9,Nat.add_zero,WM],by have:=Ff (g9 i) x2 0;omega⟩,by rw[hkT];simp only[aa,aN];omega⟩
  rintro⟨ρx,Hx2⟩ ⟨hHx2,u2,u3,u7,u6,x',u5,dx',vx',lx'⟩;simp only at hHx2 u2 u3 u7 u6 u5;rw[hHx2];clear hHx2 Hx2;refine W.mono (Q:=fun ax s'=>ax=.normal/\s'.H=H2/\s'.ρ 2=.ptr H.next 0 0/\s'.ρ 3=.ptr (H.next+1) 0 0/\s'.ρ 7=aa i/\s'.ρ 5=ab (aK x')/\∃ x2:List Nat,s'.ρ 6=ab (aK x2)/\DigL x2/\cM x2=bY (cU b a) (i+1)/\x2.length<=1+18000*(i+1)) ?_ ?_
  ·refine W.sq ?_;simp only[go_sem];refine W.env fun F hF=>?_;have c2:F 2=.ptr H.next 0 0:=(by rw[hF];simp only[go_sem,u2]);have c3:F 3=.ptr (H.next+1) 0 0:=(by rw[hF];simp only[go_sem,u3]);have cO:F 5=ab (aK x'):=(by rw[hF];simp only[go_sem,u5]);have cV:F 6=ab (aK y):=(by rw[hF];simp only[go_sem,u6]);have c7:F 7=aa i:=(by rw[hF];simp only[go_sem,u7]);have cT:F 9=aa 0:=(by rw[hF];simp only[go_sem]);clear hF;refine W.block ?_;refine W.aG 140733193388608 (by kernel_rfl) (fun ρ Hx=>Hx=H2/\∃ (k:Nat) (x2:List Nat),ρ 9=aa k/\k<=cU b a i/\ρ 6=ab (aK x2)/\DigL x2/\cM x2=bY (cU b a) i*g9 i ^ k/\x2.length<=1+18000*i+k) (fun ρ Hx=>cU b a i - (iv (ρ 9)).toNat) ?_ ?_
   ·exact⟨rfl,0,y,cT,by omega,cV,dy,by rw[vy];simp,by omega⟩
   rintro ρk Hk ⟨hHk,k,x2,hkT,hk,hkV,d2,v2,l2⟩;rw[hHk];refine W.env fun J hJ=>?_;have j2:J 2=.ptr H.next 0 0:=(by rw[hJ];simp only[go_sem,c2]);have j3:J 3=.ptr (H.next+1) 0 0:=(by rw[hJ];simp only[go_sem,c3]);have jO:J 5=ab (aK x'):=(by rw[hJ];simp only[go_sem,cO]);have jV:J 6=ab (aK x2):=(by rw[hJ];simp only[go_sem,hkV]);have j7:J 7=aa i:=(by rw[hJ];simp only[go_sem,c7]);have jT:J 9=aa k:=(by rw[hJ];simp only[go_sem,hkT]);clear hJ;refine W.seq (W.cP (fun s'=>s'.H=H2/\s'.ρ 2=.ptr H.next 0 0/\s'.ρ 3=.ptr (H.next+1) 0 0/\s'.ρ 5=ab (aK x')/\s'.ρ 6=ab (aK x2)/\s'.ρ 7=aa i/\s'.ρ 9=aa k/\s'.ρ 40=.lit (.bool (decide (k<cU b a i)))) ?_ ?_)
   ·refine W.draw 8 [0,0,2,6,0,16,48,126] Tryd.mixed (by kernel_rfl) (by kernel_rfl) ?_;by_cases hlt:(k:Int)<b.getD i 0 - a.getD i 0
    ·rw[VM (show k<cU b a i by rw[pba];omega)];simp only[go_sem,j2,j3,jO,jV,j7,jT,l0,l1,cag i i18,cbg i i18,h18,wba,hlt]
    ·rw[VZ (show ¬ k<cU b a i by rw[pba];omega)];simp only[go_sem,j2,j3,jO,jV,j7,jT,l0,l1,cag i i18,cbg i i18,h18,wba,hlt]
   rintro⟨ρc,Hc⟩ ⟨hHc,z2,z3,zO,zV,z7,zT,zc⟩;simp only at hHc z2 z3 zO zV z7 zT zc;rw[hHc];clear hHc Hc;by_cases hlt:k<cU b a i;rotate_left
   ·rw[VZ hlt]at zc;refine W.cond (t:=false) zc ?_;refine W.vs ?_;simp only[go_sem];have hke:k=cU b a i:=(by omega);subst hke;exact⟨z2,z3,z7,zO,x2,zV,d2,v2,by omega⟩
   rw[VM hlt]at zc;have wk:=Vt ((k:Int)+1) (by omega);refine W.cond (t:=true) zc ?_;refine W.vs ?_;simp only[go_sem];refine W.seq (W.block ?_);refine W.vs ?_;simp only[go_sem,z7,zV];refine aw.clo (Ey i i18 H2 _ ⟨trivial,?_⟩);rw[p1];simp only[go_sem];refine aw.clo (Fl x2 (g9 i) d2.rng p2 p3 (by omega) H2 _ ⟨trivial,?_⟩);simp only[go_sem];refine W.vs ?_;simp only[go_sem,zT,wk];exact⟨⟨k+1,db (g9 i) 0 x2,rfl,by omega,rfl,d2.by p2 (by omega),by rw[Fe,v2,W9,Nat.add_zero,WM],by have:=Ff (g9 i) x2 0;omega⟩,by rw[hkT];simp only[aa,aN];omega⟩
  rintro ax ⟨ρy,Hy2⟩ ⟨hax,hHy2,q2,q3,q7,q5,y',q6,dy',vy',ly'⟩;simp only at hHy2 q2 q3 q7 q6 q5;subst hax;rw[hHy2];show W _ _ _ _ _ _ _;refine W.vs ?_;simp only[go_sem,q7,wi];exact⟨⟨i+1,x',y',rfl,by omega,q5,q6,dx',dy',vx',vy',by omega,by omega⟩,by rw[h7];simp only[aa,aN];omega⟩
 rintro⟨ρ,Hx⟩ ⟨hHx,x,y,h5,h6,dx,dy,vx,vy,lx,ly⟩;simp only at hHx h5 h6;rw[hHx];clear hHx Hx;rw[<- vx,<- vy]at hK;have fin:∀ z:Int,z=kA (cM x) (cM y)->av Tryd.prog G0 H K (aa z) H2:=fun z hz=>by
  rw[hz];exact av.bR aT hcl ov2 (.lit _) hK
 have c1:cM x<cM y->kA (cM x) (cM y)=-1:=fun h=>by unfold kA;rw[Vx h]
 have c2:cM y<cM x->kA (cM x) (cM y)=1:=fun h=>by unfold kA;rw[Vw (by omega),Vw (by omega)]
 have xl:=ks x;have yl:=ks y;by_cases hl:(x.length:Int)=y.length;rotate_left
 ·by_cases hlt:(x.length:Int)<y.length
  ·refine W.vs ?_;simp only[go_sem,h5,h6,ab,xl,yl,hl,hlt];exact fin _ (c1 (Fg dx dy (by omega))).symm
  ·refine W.vs ?_;simp only[go_sem,h5,h6,ab,xl,yl,hl,hlt];exact fin _ (c2 (Fg dy dx (by omega))).symm
 have wl:=Vt ((x.length:Int) - 1) (by omega);refine W.sq ?_;simp only[go_sem,h5,h6,ab,xl,yl,hl];refine W.sq ?_;simp only[go_sem,h5,ab,xl,wl];refine W.en (fun F=>F 5=ab (aK x) /\ F 6=ab (aK y) /\ F 10=aa ((x.length:Int) - 1)) (by simp only[go_sem,h5,h6]) fun F ⟨m5,m6,m10⟩=>?_
 have xg:∀ i,i<x.length->(ints (aK x))[i]?=some (.lit (.int .i64 ((x.getD i 0:Nat):Int))):=fun i h=>by rw[eZ,qH (ij h)];rfl
 have yg:∀ i,i<x.length->(ints (aK y))[i]?=some (.lit (.int .i64 ((y.getD i 0:Nat):Int))):=fun i h=>by rw[eZ,qH (ij (by omega))];rfl
 have xi:(ints (aK x)).length=x.length:=by rw[aR,xl]
 have yi:(ints (aK y)).length=y.length:=by rw[aR,yl]
 refine W.aG 4835702125537012091978768 (by kernel_rfl) (fun ρ Hx=>Hx=H2/\∃ k:Nat,ρ 10=aa ((k:Int) - 1)/\k<=x.length/\∀ j,k<=j->j<x.length->x.getD j 0=y.getD j 0) (fun ρ Hx=>(iv (ρ 10)+1).toNat) ?_ ?_
 ·exact⟨rfl,x.length,m10,Nat.le_refl _,fun j h1 h2=>by omega⟩
 rintro ρk Hk ⟨hHk,k,hk10,hk,heq⟩;rw[hHk];refine W.en (fun J=>J 5=ab (aK x) /\ J 6=ab (aK y) /\ J 10=aa ((k:Int) - 1)) (by simp only[go_sem,m5,m6,hk10]) fun J ⟨j5,j6,j10⟩=>?_
 by_cases hk0:(k:Int) - 1 >= 0;rotate_left
 ·refine W.vs ?_;simp only[go_sem,j10,hk0];refine W.vs ?_;simp only[go_sem];have:x=y:=by
   apply V9;intro j;rcases VR j x.length with h|h
   ·rw[ij h,ij (by omega),heq j (by omega) h]
   ·rw[VB h,VB (by omega)]
  exact fin 0 (by rw[this];unfold kA;rw[Vw (XD _),Vx rfl])
 obtain⟨i,rfl⟩:∃ i,k=i+1:=⟨k - 1,by omega⟩
 have ei:((i+1:Nat):Int) - 1=(i:Int):=by omega
 rw[ei]at j10 hk0 hk10;have il:i<x.length:=by omega
 have bx:(i:Int)<x.length:=by omega
 have by1:(i:Int)<y.length:=by omega
 have gx:=xg i il;have gy:=yg i il;have gxn:=aJ gx;have gyn:=aJ gy;have wi:=Vt ((i:Int) - 1) (by omega);refine W.sq ?_;simp only[go_sem,j10,hk0];refine W.seq (W.block ?_);refine W.cP (fun s'=>s'.H=H2/\s'.ρ 5=ab (aK x)/\s'.ρ 6=ab (aK y)/\s'.ρ 10=aa i/\s'.ρ 72=.lit (.bool (!decide (x.getD i 0=y.getD i 0)))) ?_ ?_
 ·refine W.draw 8 [0,0,3,7,0,0,48,112] Tryd.mixed (by kernel_rfl) (by kernel_rfl) ?_;by_cases he:x.getD i 0=y.getD i 0
  ·have he':((x.getD i 0:Nat):Int)=((y.getD i 0:Nat):Int):=(by rw[he]);simp only[go_sem,j5,j6,j10,ab,xl,yl,gx,gy,gxn,gyn,bx,by1,he]
  ·have he':¬ ((x.getD i 0:Nat):Int)=((y.getD i 0:Nat):Int):=(by omega);simp only[go_sem,j5,j6,j10,ab,xl,yl,gx,gy,gxn,gyn,bx,by1,he,he']
 rintro⟨ρc,Hc⟩ ⟨hHc,z5,z6,z10,zc⟩;simp only at hHc z5 z6 z10 zc;rw[hHc];clear hHc Hc;by_cases he:x.getD i 0=y.getD i 0
 ·rw[VM he]at zc;refine W.cond (t:=false) zc ?_;refine W.vs ?_;simp only[go_sem];refine W.vs ?_;simp only[go_sem,z10,wi];refine⟨⟨i,rfl,by omega,fun j h1 h2=>?_⟩,by rw[hk10];simp only[aa,aN];omega⟩;by_cases hj:j=i
  ·rw[hj];exact he
  ·exact heq j (by omega) h2
 rw[VZ he]at zc;refine W.cond (t:=true) zc ?_;refine W.seq (W.cP (fun s'=>s'.H=H2/\s'.ρ 81=.lit (.bool (decide (x.getD i 0<y.getD i 0)))) ?_ ?_)
 ·refine W.draw 8 [0,0,3,7,0,0,48,112] Tryd.mixed (by kernel_rfl) (by kernel_rfl) ?_;by_cases hlt:x.getD i 0<y.getD i 0
  ·have hlt':((x.getD i 0:Nat):Int)<((y.getD i 0:Nat):Int):=(by omega);simp only[go_sem,z5,z6,z10,ab,xl,yl,gx,gy,gxn,gyn,bx,by1,hlt,hlt']
  ·have hlt':¬ ((x.getD i 0:Nat):Int)<((y.getD i 0:Nat):Int):=(by omega);simp only[go_sem,z5,z6,z10,ab,xl,yl,gx,gy,gxn,gyn,bx,by1,hlt,hlt']
 rintro⟨ρd,Hd⟩ ⟨hHd,zd⟩;simp only at hHd zd;rw[hHd];clear hHd Hd;by_cases hlt:x.getD i 0<y.getD i 0
 ·rw[VM hlt]at zd;refine W.cond (t:=true) zd ?_;refine W.vs ?_;simp only[go_sem];exact fin _ (c1 (Fh (by omega) dx.rng dy.rng i il (fun j h1 h2=>heq j (by omega) h2) hlt)).symm
 ·rw[VZ hlt]at zd;refine W.cond (t:=false) zd ?_;refine W.vs ?_;simp only[go_sem];refine W.vs ?_;simp only[go_sem];exact fin _ (c2 (Fh (by omega) dy.rng dx.rng i (by omega) (fun j h1 h2=>(heq j (by omega) (by omega)).symm) (by omega))).symm
theorem Pv:∀ {cs r:List Int},bP cs r->di cs r=[r]:=by
 intro cs
 induction cs with
 | nil=>intro r h;obtain rfl:=VK h.1;rfl
 | cons c cs ih =>
  intro r h;cases r with
  | nil=>have:=h.1;simp at this
  | cons x r =>
   have hx:=h.head;obtain⟨k,rfl⟩:=VU hx.1;have hr:=ih h.tail;unfold di;rw[List.tail_cons,hr];obtain⟨m,hm⟩:∃ m,c.toNat=k+(m+1):=⟨c.toNat - k - 1,by omega⟩
   rw[hm,YS,Yb,XU,List.map_cons,YG];have e1:((List.range k).flatMap fun (a:Nat)=>if ((k:Int) :: r).headD (-1)<0\/((k:Int) :: r).headD (-1)=(a:Int) then [r].map fun w=>(a:Int) :: w else [])=[]:=by
    rw[YZ];intro a ha;have:=VJ.1 ha;rw[Vw (by simp;omega)]
   have e2:(((List.range m).map Nat.succ).map fun x=>k+x).flatMap (fun (a:Nat)=>if ((k:Int) :: r).headD (-1)<0\/((k:Int) :: r).headD (-1)=(a:Int) then [r].map fun w=>(a:Int) :: w else [])=[]:=by
    rw[YZ];intro a ha;obtain⟨b,hb,rfl⟩:=VN.1 ha;obtain⟨d,_,rfl⟩:=VN.1 hb;rw[Vw (by simp;omega)]
   rw[e1,e2];simp
theorem Gy (g:Int){i:Nat}(hi:i<18):∀ (ws e:List Int),(bV g e ws).getD i 0=e.getD i 0+(ws.map fun w=>(gK w i:Int)).sum - ws.length*gK g i:=by
 intro ws
 induction ws with
 | nil=>intro e;simp [bV]
 | cons w ws ih =>
  intro e;have e1:bV g e (w :: ws)=bV g (te g e w) ws:=rfl;rw[e1,ih];unfold te;rw[bf (As hi),bf (As hi),List.map_cons,V5,List.length_cons]
  push_cast
  rw[XN];omega
def kH (ns:List NodeP)(xs:List (List Int)):List Nat:=(bg ns xs).map Int.toNat
theorem Gz (a b:List Nat):fj (a++b)=fj a*fj b:=by
 induction a with
 | nil=>show fj b=1*fj b;rw[Yz]
 | cons x a ih=>show x*fj (a++b)=x*fj a*fj b;rw[ih,WM]
theorem UJ (n w:Nat):fj (List.replicate n w)=w ^ n:=by
 induction n with
 | zero=>rfl
 | succ n ih=>rw[Xn,W9];show w*fj _=_;rw[ih,Xl]
theorem UK {l:List Nat}(h:∀ w∈l,0<w):0<fj l:=by
 induction l with
 | nil=>exact Nat.one_pos
 | cons x l ih=>exact YA (h x (by simp)) (ih fun w hw=>h w (by simp [hw]))
theorem UL {l:List Nat}(h:0∈l):fj l=0:=by
 induction l with
 | nil=>simp at h
 | cons x l ih =>
  show x*fj l=0;rcases List.mem_cons.1 h with h|h
  ·rw[<- h,Xj]
  ·rw[ih h,YJ]
theorem prod_nat:∀ {l:List Int},(∀ x∈l,0<=x)->(aA l).toNat=fj (l.map Int.toNat)/\0<=aA l:=by
 intro l
 induction l with
 | nil=>intro _;exact⟨rfl,by decide⟩
 | cons x l ih =>
  intro h;obtain⟨a,b⟩:=ih fun y hy=>h y (by simp [hy]);have hx:=h x (by simp);rw[hU];refine⟨?_,WE hx b⟩;show _=x.toNat*fj (l.map Int.toNat);rw[<- a,Int.toNat_mul hx b]
theorem GA {g:Int}{ns:List NodeP}(h:NetOk g ns){r:List Int}(hr:bP (af ns) r):∀ w∈dc ns r,0<=w/\w<=60:=fun w hw=>by
 unfold dc at hw;obtain⟨v,hv,rfl⟩:=VN.1 hw;have:=DE h hr v;exact⟨this.1,this.2 (VJ.1 hv)⟩
theorem A9 {g:Int}{ns:List NodeP}(h:NetOk g ns){xs:List (List Int)}(hr:∀ r∈xs,bP (af ns) r):∀ w∈bg ns xs,0<=w/\w<=60:=fun w hw=>by
 unfold bg at hw;obtain⟨l,hl,hwl⟩:=Xg.1 hw;obtain⟨r,hrm,rfl⟩:=VN.1 hl;exact GA h (hr r hrm) w hwl
theorem UM {g:Int}{ns:List NodeP}(h:NetOk g ns)(wh:Nat)(xs:List (List Int))(hr:∀ r∈xs,bP (af ns) r):fB ns wh xs=fj (kH ns xs)*wh ^ xs.length:=by
 have key:∀ k,k<=xs.length->fB ns wh (xs.take k)=fj (kH ns (xs.take k))*wh ^ k:=by
  intro k
  induction k with
  | zero=>intro _;rfl
  | succ k ih =>
   intro hk;obtain⟨r,hrk⟩:=get_of_lt (l:=xs) (i:=k) (by omega);have hrf:=hr r (Vs hrk);have hm:dz ns r=weight ns r:=by
    unfold dz;rw[Pv hrf];simp
   have hp:=(prod_nat fun w hw=>(GA h hrf w hw).1).1;have hN:kH ns (xs.take (k+1))=kH ns (xs.take k)++(dc ns r).map Int.toNat:=by
    unfold kH;rw[Ax hrk,Wo]
   rw[hN,Gz,<- hp,aL hrk,Af,ih (by omega),hm,W9];show _=fj (kH ns (xs.take k))*(weight ns r).toNat*(wh ^ k*wh)
   simp only[WM,Xl,Nat.mul_left_comm]
 have:=key xs.length (Nat.le_refl _)
 rwa [WR]at this
theorem Ba {g:Int}{ns:List NodeP}(h:NetOk g ns)(gm:Int){ms:List NodeP}(hl:ms.length=ns.length)(xs:List (List Int))(hr:∀ r∈xs,bP (af ns) r):iK ns gm ms xs=fj (kH ns xs++List.replicate (bg ns xs).length gm.toNat):=by
 unfold iK;rw[UM h _ xs hr,Gz,UJ,tf,<- Nat.pow_mul,hl,Xl ns.length]
theorem UN (e f:Nat->Nat):kA (bY (fun i=>e i - f i) 18) (bY (fun i=>f i - e i) 18)=kA (bY e 18) (bY f 18):=by
 have k:bY e 18*bY (fun i=>f i - e i) 18=bY f 18*bY (fun i=>e i - f i) 18:=by
  rw[<- AF,<- AF];exact AG 18 fun i _=>by omega
 have p1:=wH e 18;have p2:=wH f 18;have p3:=wH (fun i=>e i - f i) 18;have p4:=wH (fun i=>f i - e i) 18;generalize bY e 18=a at *
 generalize bY f 18=b at *
 generalize bY (fun i=>e i - f i) 18=c at *
 generalize bY (fun i=>f i - e i) 18=d at *
 have h1:a<b->c<d:=fun hlt=>Xo fun hle=>by
  have h2:b*d<=b*c:=Xv _ hle;have h3:a*d<b*d:=YN hlt p4;omega
 have h2:b<a->d<c:=fun hlt=>Xo fun hle=>by
  have h2:b*c<=b*d:=Xv _ hle;have h3:b*d<a*d:=YN hlt p4;omega
 have h3:a=b->c=d:=fun he=>by
  rw[he]at k;exact(YR p2 k).symm
 unfold kA;rcases W1 a b with h|h|h
 ·rw[Vx (h1 h),Vx h]
 ·have:=h3 h;rw[Vw (by omega),Vx this,Vw (by omega),Vx h]
 ·have:=h2 h;rw[Vw (by omega),Vw (by omega),Vw (by omega),Vw (by omega)]
theorem UO (i:Nat):bt.getD i 0=0:=by unfold bt;rw[Vy,WY];split<;>rfl
theorem GB (n:Nat)(w:Nat)(i:Nat):fS (List.replicate n w) i=n*gK (w:Int) i:=by
 unfold fS;rw[Yg,List.sum_replicate_nat]
theorem GC (a b:List Nat)(i:Nat):fS (a++b) i=fS a i+fS b i:=by
 unfold fS;rw[Wo,List.sum_append_nat]
theorem GE {l:List Int}(h:∀ w∈l,0<=w)(i:Nat):((fS (l.map Int.toNat) i:Nat):Int)=(l.map fun w=>(gK w i:Int)).sum:=by
 induction l with
 | nil=>rfl
 | cons w l ih =>
  have hw:=h w (by simp);have:=ih fun y hy=>h y (by simp [hy]);unfold fS at this ⊢;rw[List.map_cons,List.map_cons,V5,List.map_cons,V5]
  push_cast
  rw[this,Ws hw]
theorem UP {g gm:Int}{ns ms:List NodeP}(h:NetOk g ns)(hm:NetOk gm ms)(hc:af ns=af ms){xs:List (List Int)}(hr:∀ r∈xs,bP (af ns) r)(h1:∀ w∈bg ns xs,w≠0)(h2:∀ w∈bg ms xs,w≠0):
  kA (bY (cU (bV g bt (bg ns xs)) (bV gm bt (bg ms xs))) 18) (bY (cU (bV gm bt (bg ms xs)) (bV g bt (bg ns xs))) 18)=gh (iK ns gm ms xs) (iK ms g ns xs):=by
 have hl:ms.length=ns.length:=by rw[<- bK ms,<- hc,bK]
 have hr2:∀ r∈xs,bP (af ms) r:=by rw[<- hc];exact hr
 have g1:=h.g1;have g2:=hm.g1;have r1:=A9 h hr;have r2:=A9 hm hr2;obtain⟨A,hA⟩:∃ A,A=kH ns xs++List.replicate (bg ns xs).length gm.toNat:=⟨_,rfl⟩
 obtain⟨B,hB⟩:∃ B,B=kH ms xs++List.replicate (bg ms xs).length g.toNat:=⟨_,rfl⟩
 have ll:(bg ms xs).length=(bg ns xs).length:=by rw[tf,tf,hl]
 have rA:∀ w∈A,1<=w/\w<=60:=fun w hw=>by
  rw[hA]at hw;rcases VP.1 hw with hw|hw
  ·obtain⟨y,hy,rfl⟩:=VN.1 hw;have:=r1 y hy;have:=h1 y hy;omega
  ·rw[Wk hw];omega
 have rB:∀ w∈B,1<=w/\w<=60:=fun w hw=>by
  rw[hB]at hw;rcases VP.1 hw with hw|hw
  ·obtain⟨y,hy,rfl⟩:=VN.1 hw;have:=r2 y hy;have:=h2 y hy;omega
  ·rw[Wk hw];omega
 have key:∀ i,i<18->(bV g bt (bg ns xs)).getD i 0 - (bV gm bt (bg ms xs)).getD i 0=(fS A i:Int) - fS B i:=fun i hi=>by
  rw[Gy g hi,Gy gm hi,UO,hA,hB,GC,GC,GB,GB,ll];unfold kH;have e1:=GE (fun w hw=>(r1 w hw).1) i;have e2:=GE (fun w hw=>(r2 w hw).1) i
  push_cast
  rw[e1,e2,Ws (by omega),Ws (by omega)];omega
 have p1:bY (cU (bV g bt (bg ns xs)) (bV gm bt (bg ms xs))) 18=bY (fun i=>fS A i - fS B i) 18:=AG 18 fun i hi=>by
  unfold cU;rw[key i hi];omega
 have p2:bY (cU (bV gm bt (bg ms xs)) (bV g bt (bg ns xs))) 18=bY (fun i=>fS B i - fS A i) 18:=AG 18 fun i hi=>by
  have:=key i hi;unfold cU;omega
 rw[p1,p2,UN,Fi rA,Fi rB,Ba h gm hl xs hr,Ba hm g hl.symm xs hr2,hA,hB];rfl
theorem GF {g:Int}{ns:List NodeP}(h:NetOk g ns){gm:Int}(hg:1<=gm){ms:List NodeP}(hl:ms.length=ns.length){xs:List (List Int)}(hr:∀ r∈xs,bP (af ns) r):0<iK ns gm ms xs↔∀ w∈bg ns xs,w≠0:=by
 rw[Ba h gm hl xs hr];constructor
 ·intro hp w hw h0;have:(0:Nat)∈kH ns xs++List.replicate (bg ns xs).length gm.toNat:=Xi _ (VN.2 ⟨w,hw,by rw[h0];rfl⟩);rw[UL this]at hp;omega
 ·intro hall;refine UK fun w hw=>?_;rcases VP.1 hw with hw|hw
  ·obtain⟨y,hy,rfl⟩:=VN.1 hw;have:=A9 h hr y hy;have:=hall y hy;omega
  ·rw[Wk hw];omega
theorem GG {g:Int}{ns:List NodeP}{cs:List Int}{xs:List (List Int)}(hl:cb g ns cs xs=0)(hr:∀ r∈xs,bP (af ns) r):
  iM g ns cs xs=if ∀ w∈bg ns xs,w≠0 then .tup [.agg (ints (bV g bt (bg ns xs))),aa 0] else .tup [.agg (ints bt),aa 7]:=by
 unfold iM;rw[Vw (fun hh=>hh hl),Vx fun r hrm=>?_];refine VM fun x hx hlt=>?_;obtain⟨k,hk⟩:=V0.1 hx;obtain⟨c,hc⟩:=get_of_lt (l:=af ns) (i:=k) (by rw[<- (hr r hrm).1];exact get_lt hk);have:=(hr r hrm).2 k c x hc hk;omega
theorem xh {g:Int}{ns:List NodeP}(h5:ns.length<=6){xs:List (List Int)}(hx:xs.length<=64):(bV g bt (bg ns xs)).length=18/\fQ (bV g bt (bg ns xs)) 9000:=by
 have:=Aw g (bg ns xs) (e:=bt) (b:=0) (by omega) (by simp [bt]) fun x hx=>by
  unfold bt at hx;rw[Wk hx];omega
 refine⟨this.1,this.2.mono ?_⟩;have h1:=tf ns xs;have h2:xs.length*ns.length<=64*6:=Xk hx h5;omega
set_option maxHeartbeats 1000000 in
theorem Qa (l:List Int)(hl:(l.length:Int)<2 ^ 40)(hr:∀ k,k<=l.length->-(2 ^ 62)<(l.take k).sum/\(l.take k).sum<2 ^ 62)(H:AHeap)(K:ARes->AHeap->Prop)(hK:K (.ret (aa l.sum)) H):
  ae Tryd.prog G0 13 [ab l] H K:=by
 refine ae.bF (n:=17) (rs:=[.tmp 2]) Tryd.func13 rfl rfl rfl (by decide) (by kernel_rfl) (by simp) ?_;simp only[go_sem];refine W.aG 65320 (by rfl) (fun ρ H'=>H'=H/\∃ k:Nat,ρ 8=aa k/\k<=l.length/\ρ 3=aa (l.take k).sum) (fun ρ H=>l.length - (iv (ρ 8)).toNat) ?_ ?_
 ·simp only[go_sem];exact⟨0,rfl,by omega,rfl⟩
 rintro ρ H' ⟨rfl,k,h8,hk,h3⟩;refine W.vs ?_;by_cases hb:(k:Int)<l.length
 ·obtain⟨x,hx⟩:=get_of_lt (l:=l) (i:=k) (by omega);have hxn:=aJ hx;have hs:(l.take (k+1)).sum=(l.take k).sum+x:=by rw[aL hx];simp
  have h1:=hr (k+1) (by omega);rw[hs]at h1;have w1:=Vt ((k:Int)+1) (by omega);have w2:=Vt ((l.take k).sum+x) (by omega);simp only[go_sem,h8,h3,hb,hx,hxn,w1,w2];exact⟨⟨k+1,by simp,by omega,by rw[hs]⟩,by omega⟩
 ·simp only[go_sem,h8,h3,hb];rw[Vz (by omega)];exact av.mk (Nat.le_refl _) hK
theorem D6 {l:List Int}{c j m:Nat}(hl:l.length=m*c)(hj:j<m):((ints l).drop (j*c)).take c=ints (fC l c j):=by unfold ints fC;rw[List.map_take,List.map_drop]
theorem PD {S:Nat->Prop}{H:AHeap}{nx:Nat}{A B:List AVal}{o o' p p':AVal}(hA:∀ v,v∈A->Fz S H nx v v)(ho:Fz S H nx o o')(hp:Fz S H nx p p')(hB:∀ v,v∈B->Fz S H nx v v):
  ∀ i (h:i<(A++o :: p :: B).length) (h':i<(A++o' :: p' :: B).length),Fz S H nx (A++o :: p :: B)[i] (A++o' :: p' :: B)[i]:=by
 induction A with
 | nil =>
  intro i h h'
  match i with
  | 0=>exact ho
  | 1=>exact hp
  | i+2=>exact hB _ (Wh (l:=B) (by simpa using h))
 | cons a A ih =>
  intro i h h';cases i with
  | zero=>exact hA a (by simp)
  | succ i=>exact ih (fun v hv=>hA v (by simp [hv])) i (by simpa using h) (by simpa using h')
set_option maxHeartbeats 8000000 in
theorem PE (g:Int)(ns:List NodeP)(cs:List Int)(xs:List (List Int))(hn:gi ns)(hf:ku cs xs)(least:Int)(H:AHeap)(K:ARes->AHeap->Prop)(hK:K (.ret (.tup [aZ (oG g ns cs xs least).1 (oG g ns cs xs least).2,aa (ld g ns cs xs least)])) H):
  ae Tryd.prog G0 8 [aZ g ns,da cs xs,aa least] H K:=by
 refine ae.clo ⟨_,Tryd.func8,rfl,rfl⟩ fun hcl=>?_;have hn1:=hn.1;have fail:∀ (c:Int) (Hx:AHeap),ld g ns cs xs least=c->c≠0->Over H Hx->av Tryd.prog G0 H K (.tup [.agg [.lit (.int .i64 0),.lit (.slice none 0 0)],.lit (.int .i64 c)]) Hx:=fun c Hx h h0 o=>by
  unfold oG at hK;rw[Vw (by rw[h];exact h0),h]at hK;exact av.bR aT hcl o (Fc .nil) hK
 refine ae.cX (n:=127) (rs:=[.cell 6 36,.tmp 7]) Tryd.func8 rfl rfl rfl (by decide) (by simp) ?_;refine W.sq ?_;simp only[go_sem,aZ,dk,da,aB];obtain⟨H1,hH1⟩:∃ H1,H1=ext H [.arr 0 36 [aa g,.vec ns.length (au ns)],.arr 0 42 [.vec cs.length (ints cs),.vec xs.length (xs.map ab)],.arr 0 36 [.lit (.int .i64 0),.lit (.slice none 0 0)]]:=⟨_,rfl⟩
 have n1:H1.next=H.next+3:=by rw[hH1];rfl
 have o1:Over H H1:=by rw[hH1];exact .ext _ _
 have g0:H1.get H.next=some (.arr 0 36 [aa g,.vec ns.length (au ns)]):=by rw[hH1];exact dN ..
 have g1:H1.get (H.next+1)=some (.arr 0 42 [.vec cs.length (ints cs),.vec xs.length (xs.map ab)]):=by rw[hH1];exact bC H _ 1 (by simp)
 have g2:H1.get (H.next+2)=some (.arr 0 36 [.lit (.int .i64 0),.lit (.slice none 0 0)]):=by rw[hH1];exact bC H _ 2 (by simp)
 refine W.en (fun E=>E 2=aa least /\ E 3=.ptr H.next 0 0 /\ E 4=.ptr (H.next+1) 0 0 /\ E 6=.ptr (H.next+2) 0 0) (by simp only[go_sem]) fun E ⟨e2,e3,e4,e6⟩=>?_
 show W _ _ _ _ _ _ ⟨E,ext H [.arr 0 36 [aa g,.vec ns.length (au ns)],.arr 0 42 [.vec cs.length (ints cs),.vec xs.length (xs.map ab)],.arr 0 36 [.lit (.int .i64 0),.lit (.slice none 0 0)]]⟩;rw[<- hH1];clear hH1;have l0:=ak g0;have l1:=ak g1;refine W.sq ?_;simp only[go_sem,e3,e4,l0,l1];obtain⟨H2,hH2⟩:∃ H2,H2=ext H1 [.arr 0 36 [aa g,.vec ns.length (au ns)]]:=⟨_,rfl⟩
 have n2:H2.next=H1.next+1:=by rw[hH2];rfl
 have o2:Over H1 H2:=by rw[hH2];exact .ext _ _
 have q3:H2.get H1.next=some (.arr 0 36 (eg [(g,ns)])):=by rw[hH2];exact cS
 show aw _ _ _ _ (ext H1 [.arr 0 36 [aa g,.vec ns.length (au ns)]]) _;rw[<- hH2];clear hH2;have o12:=o1.trans o2;have q0:=(o2.old H.next (by omega)).trans g0;have q1:=(o2.old (H.next+1) (by omega)).trans g1;have q2:=(o2.old (H.next+2) (by omega)).trans g2;have l0:=ak q0;have l1:=ak q1;have l2:=ak q2;refine aw.clo ((Ac [(g,ns)] cs xs (fun p hp=>by rw[List.mem_singleton.1 hp];exact hn) hf (by simp) H2 q3).mono ?_);rintro rres Hq ⟨hrq,hHq⟩;rw[hHq,hrq,DT];refine⟨trivial,?_⟩;obtain⟨e,he⟩:∃ e,e=cb g ns cs xs:=⟨_,rfl⟩
 rw[<- he];by_cases h0:e=0;rotate_left
 ·simp only[go_sem,e6,l2,h0];refine fail e _ (by unfold ld;rw[<- he,Vx h0]) h0 (o12.upd (by omega) _)
 have hE0:ld g ns cs xs least=if sV g ns least=true then if jI ns xs=true then 0 else 7 else 2:=by unfold ld;rw[<- he,Vw (fun h=>h h0)]
 rw[h0]at he ⊢;obtain⟨hok,hdk,hca⟩:=oC he.symm;obtain⟨h6,h40,hrow⟩:=qy he.symm;have hg60:=hok.g1;have hE2:¬ qF g ns least->ld g ns cs xs least=2:=fun h=>by rw[hE0,Vw (fun hh=>h ((sX hok).1 hh))]
 simp only[go_sem];by_cases v0:least<0
 ·refine W.sq ?_;simp only[go_sem,e2,e6,l2,v0];exact fail 2 _ (hE2 fun h=>by have:=h.1;omega) (by decide) (o12.upd (by omega) _)
 refine W.sq ?_;simp only[go_sem,e2,v0];refine W.sq ?_;simp only[go_sem,e3,l0];refine W.en (fun E1=>E1 2=aa least /\ E1 3=.ptr H.next 0 0 /\ E1 4=.ptr (H.next+1) 0 0 /\ E1 6=.ptr (H.next+2) 0 0 /\ E1 32=.vec ns.length (au ns) /\ E1 33=aa ns.length /\ E1 34=aa 0) (by simp only[go_sem,e2,e3,e4,e6]) fun E1 ⟨f2,f3,f4,f6,f32,f33,f34⟩=>?_
 refine W.aG 140720308487296 (by kernel_rfl) (fun ρ Hx=>Over H2 Hx/\∃ k:Nat,ρ 34=aa k/\k<=ns.length/\∀ x∈ns.take k,least<=g / x.card) (fun ρ H=>ns.length - (iv (ρ 34)).toNat) ?_ ?_
 ·exact⟨.refl _,0,f34,by omega,by simp⟩
 rintro ρ Hx ⟨ov,k,h34,hk,hall⟩;have ovn:=ov.next;refine W.en (fun E2=>E2 2=aa least /\ E2 3=.ptr H.next 0 0 /\ E2 4=.ptr (H.next+1) 0 0 /\ E2 6=.ptr (H.next+2) 0 0 /\ E2 32=.vec ns.length (au ns) /\ E2 33=aa ns.length /\ E2 34=aa k) (by simp only[go_sem,f2,f3,f4,f6,f32,f33,h34]) fun E2 ⟨a2,a3,a4,a6,a32,a33,a34⟩=>?_
 have r0:=(ov.old H.next (by omega)).trans q0;have r1:=(ov.old (H.next+1) (by omega)).trans q1;have r2:=(ov.old (H.next+2) (by omega)).trans q2;have m0:=ak r0;have m1:=ak r1;have m2:=ak r2;have oH:=o12.trans ov;by_cases hb:(k:Int)<ns.length
 ·obtain⟨x,hx⟩:=get_of_lt (l:=ns) (i:=k) (by omega);have hxm:=Vs hx;have hc:=(hok.node x hxm).1;have p0:=kC hx;have pne:=eP hx;have p1:k*3+3<=(au ns).length:=by rw[fT];omega
  have td:g.tdiv x.card=g / x.card:=Wa (by omega);have cz:¬ x.card=0:=by omega
  have t1:0<=g / x.card:=Xt (by omega) (by omega);have t2:g / x.card<=g:=XK _ (by omega);have wq:=Vt (g / x.card) (by omega);have mE:∀ L,(ext Hx L).live H.next 0=_:=fun L=>(fN (by omega)).trans m0;have mE2:∀ L,(ext Hx L).live (H.next+2) 0=_:=fun L=>(fN (by omega)).trans m2;refine W.vs ?_;by_cases hle:least > g / x.card
  ·simp only[go_sem,a2,a3,a6,a32,a33,a34,hb,p0,p1,pne,aB,mE,mE2,td,cz,wq,hle];exact fail 2 _ (hE2 fun h=>by have:=(D5 (g:=g) hc.1).2 (h.2 x hxm);omega) (by decide) ((oH.trans (.ext _ _)).upd (by omega) _)
  ·have w1:=Vt ((k:Int)+1) (by omega);simp only[go_sem,a2,a3,a32,a33,a34,hb,p0,p1,pne,aB,mE,td,cz,wq,hle,w1];refine⟨by omega,⟨ov.trans (.ext _ _),k+1,rfl,by omega,fun y hy=>?_⟩,by rw[h34];simp only[aa,aN];omega⟩;rw[aL hx]at hy;rcases VP.1 hy with hy|hy
   ·exact hall y hy
   ·obtain rfl:=List.mem_singleton.1 hy;omega
 rw[Vz (by omega)]at hall;have hfair:qF g ns least:=⟨by omega,fun x hx=>(D5 (hok.node x hx).1.1).1 (hall x hx)⟩
 rw[Vx ((sX hok).2 hfair)]at hE0;refine W.vs ?_;simp only[go_sem,a33,a34,hb];refine W.en (fun E3=>E3 2=aa least /\ E3 3=.ptr H.next 0 0 /\ E3 4=.ptr (H.next+1) 0 0 /\ E3 6=.ptr (H.next+2) 0 0) (by simp only[go_sem,a2,a3,a4,a6]) fun E3 ⟨b2,b3,b4,b6⟩=>?_
 refine W.sq ?_;simp only[go_sem,b3,b4,m0,m1];refine aw.clo (zY g ns hok cs xs (by omega) hrow _ _ ⟨trivial,?_⟩);simp only[go_sem];refine aw.clo (DO (xs.map (dz ns)) (by rw[VD];omega) _ _ ⟨trivial,?_⟩);unfold jI at hE0;by_cases hz:(0:Int)∈xs.map (dz ns)
 ·rw[VZ (fun hh=>hh hz),Vw (by decide)]at hE0;simp only[go_sem,hz,b6,m2];exact fail 7 _ hE0 (by decide) (oH.upd (by omega) _)
 rw[VM hz,Vx rfl]at hE0;simp only[go_sem,hz];obtain⟨n,hnn⟩:∃ n,n=ns.length:=⟨_,rfl⟩
 refine W.seq ?_;refine W.draw 8 [0,1,0,4,12,28,63,0] Tryd.mixed (by kernel_rfl) (by kernel_rfl) ?_;simp only[go_sem,b3,m0,hnn.symm];refine⟨⟨by omega,by omega⟩,⟨fun _ h=>by omega,fun _ h=>by omega⟩,⟨fun _ h=>by omega,fun _ h=>by omega,fun _ h=>by omega,fun _ h=>by omega⟩,?_⟩;obtain⟨H3,hH3⟩:∃ H3,H3=ext (ext Hx [.arr 0 53 (mj n)]) [.arr 0 36 [.lit (.int .i64 g),.own Hx.next 0 0 n 3]]:=⟨_,rfl⟩
 have n3:H3.next=Hx.next+2:=by rw[hH3];rfl
 have o3:Over Hx H3:=by rw[hH3];exact(Over.ext _ _).trans (.ext _ _)
 have g6:H3.get Hx.next=some (.arr 0 53 (mj n)):=by rw[hH3,fb (by rw[dF];simp)];exact cS
 have g7:H3.get (Hx.next+1)=some (.arr 0 36 [.lit (.int .i64 g),.own Hx.next 0 0 n 3]):=by rw[hH3];exact cS (H:=ext Hx [_])
 refine W.en (fun E4=>E4 2=aa least /\ E4 3=.ptr H.next 0 0 /\ E4 4=.ptr (H.next+1) 0 0 /\ E4 6=.ptr (H.next+2) 0 0 /\ E4 11=.ptr (Hx.next+1) 0 0) (by simp only[go_sem,b2,b3,b4,b6]) fun E4 ⟨c2,c3,c4,c6,c11⟩=>?_
 show W _ _ _ _ _ _ ⟨E4,ext (ext Hx [.arr 0 53 (mj n)]) [.arr 0 36 [.lit (.int .i64 g),.own Hx.next 0 0 n 3]]⟩;rw[<- hH3];clear hH3;have o3n:=o3.next;have l30:=ak ((o3.old _ (by omega)).trans r0);refine W.sq ?_;simp only[go_sem,c3,l30];refine W.env fun E5 hE5=>?_;have d2:E5 2=aa least:=by rw[hE5];simp only[go_sem,c2]
 have d3:E5 3=.ptr H.next 0 0:=by rw[hE5];simp only[go_sem,c3]
 have d4:E5 4=.ptr (H.next+1) 0 0:=by rw[hE5];simp only[go_sem,c4]
 have d6:E5 6=.ptr (H.next+2) 0 0:=by rw[hE5];simp only[go_sem,c6]
 have d11:E5 11=.ptr (Hx.next+1) 0 0:=by rw[hE5];simp only[go_sem,c11]
 have d60:E5 60=.vec ns.length (au ns):=by rw[hE5];simp only[go_sem]
 have d61:E5 61=aa n:=by rw[hE5,hnn];simp only[go_sem]
 have d62:E5 62=aa 0:=by rw[hE5];simp only[go_sem]
 clear hE5;obtain⟨N,hN⟩:∃ N,N=ji g least ns xs:=⟨_,rfl⟩
 have Nl:N.length=n:=by rw[hN,nr,hnn]
 refine W.aG 85070591730234615861231965839515709568 (by kernel_rfl) (fun ρ Hy=>∃ v:Nat,ρ 62=aa v/\v<=n/\H3.next<=Hy.next/\(∀ id,id<H3.next->id≠Hx.next->Hy.get id=H3.get id)/\Hy.get Hx.next=some (.arr 0 53 (eN n (N.take v)))) (fun ρ H=>n - (iv (ρ 62)).toNat) ?_ ?_
 ·exact⟨0,d62,by omega,Nat.le_refl _,fun _ _ _=>rfl,g6⟩
 rintro ρ Hy ⟨v,h62,hv,hny,hold,gB⟩;refine W.en (fun E6=>E6 2=aa least /\ E6 3=.ptr H.next 0 0 /\ E6 4=.ptr (H.next+1) 0 0 /\ E6 6=.ptr (H.next+2) 0 0 /\ E6 11=.ptr (Hx.next+1) 0 0 /\ E6 60=.vec ns.length (au ns) /\ E6 61=aa n /\ E6 62=aa v) (by simp only[go_sem,d2,d3,d4,d6,d11,d60,d61,h62]) fun E6 ⟨k2,k3,k4,k6,k11,k60,k61,k62⟩=>?_
 have y0:=(hold H.next (by omega) (by omega)).trans ((o3.old _ (by omega)).trans r0);have y1:=(hold (H.next+1) (by omega) (by omega)).trans ((o3.old _ (by omega)).trans r1);have y2:=(hold (H.next+2) (by omega) (by omega)).trans ((o3.old _ (by omega)).trans r2);have yT:=(hold (Hx.next+1) (by omega) (by omega)).trans g7;have vl:(N.take v).length=v:=by rw[VC];omega
 by_cases hb2:(v:Int)<n;rotate_left
 ·refine W.vs ?_;simp only[go_sem,k61,k62,hb2];refine W.vs ?_;have z2:=ak y2;have zT:=ak yT;simp only[go_sem,k6,k11,z2,zT];obtain rfl:v=n:=by omega
  unfold oG at hK;rw[Vx hE0,hE0,<- hN]at hK;rw[Vz (by omega)]at gB;refine av.bR aT hcl ((show Over H Hy from ⟨by omega,fun id h=>(hold id (by omega) (by omega)).trans ((o3.old id (by omega)).trans (oH.old id h))⟩).upd (by omega) _) (Fc ?_) hK;rw[<- Nl]at gB ⊢;rw[AE]at gB;exact .frz (by omega) (by rw[ag,Vw (by omega)];exact gB) (fT N) fun j h1 h2 h3=>by simp only[Nat.zero_add];exact wG (n:=N.length) (ns:=N) _ (by rw[AE];exact Wh _) _ _ _
 obtain⟨x,hx⟩:=get_of_lt (l:=ns) (i:=v) (by omega);have hxm:=Vs hx;have hc:=(hok.node x hxm).1;have p0:=kC hx;have pne:=eP hx;have p1:v*3+3<=(au ns).length:=by rw[fT];omega
 have hNv:N[v]?=some (iI g least (cJ ns x v xs) x):=by rw[hN];exact sW hx
 have hbn:(v:Int)<ns.length:=by omega
 refine W.sq ?_;simp only[go_sem,k61,k62,hb2];refine W.sq ?_;simp only[go_sem];refine W.seq (W.xq (Q':=fun e s2=>e=.normal/\s2.ρ 62=aa v/\Hy.next<=s2.H.next/\(∀ id,id<Hy.next->id≠Hx.next->s2.H.get id=Hy.get id)/\∃ pv rv,s2.H.get Hx.next=some (.arr 0 53 (setAt (eN n (N.take v)) (v*3) [aa x.card,pv,rv]))/\aC Hy.next s2.H 3 pv (ints x.parents)/\aC Hy.next s2.H 39 rv ((iI g least (cJ ns x v xs) x).rows.map ab)) ?_ ?_)
 ·refine W.block ?_;refine W.sq ?_;simp only[go_sem,k60,k62,hbn,p0,p1,pne,aB];obtain⟨J1,hJ1⟩:∃ J1,J1=ext Hy [.arr 0 53 [.lit (.int .i64 x.card),.vec x.parents.length (ints x.parents),.vec x.rows.length (x.rows.map ab)]]:=⟨_,rfl⟩
  have j1n:J1.next=Hy.next+1:=by rw[hJ1];rfl
  have j1o:Over Hy J1:=by rw[hJ1];exact .ext _ _
  have j13:J1.get Hy.next=some (.arr 0 53 [.lit (.int .i64 x.card),.vec x.parents.length (ints x.parents),.vec x.rows.length (x.rows.map ab)]):=by rw[hJ1];exact cS
  refine W.en (fun E7=>E7 2=aa least /\ E7 3=.ptr H.next 0 0 /\ E7 4=.ptr (H.next+1) 0 0 /\ E7 6=.ptr (H.next+2) 0 0 /\ E7 11=.ptr (Hx.next+1) 0 0 /\ E7 12=aa v /\ E7 13=.ptr Hy.next 0 0 /\ E7 62=aa v) (by simp only[go_sem,k2,k3,k4,k6,k11,k62]) fun E7 ⟨s2,s3,s4,s6,s11,s12,s13,s62⟩=>?_
  show W _ _ _ _ _ _ ⟨E7,ext Hy [.arr 0 53 [.lit (.int .i64 x.card),.vec x.parents.length (ints x.parents),.vec x.rows.length (x.rows.map ab)]]⟩;rw[<- hJ1];clear hJ1;have w0:=ak ((j1o.old _ (by omega)).trans y0);have w1:=ak ((j1o.old _ (by omega)).trans y1);have w13:=ak j13;refine W.sq ?_;simp only[go_sem,s3,s4,s12,w0,w1];refine aw.clo (DS g ns hok h6 cs xs (by omega) hrow v x hx _ _ ⟨trivial,?_⟩);simp only[go_sem];refine W.seq ?_;refine W.sq ?_;simp only[go_sem];refine W.vs ?_;simp only[go_sem];refine W.env fun E8 hE8=>?_;have t2:E8 2=aa least:=by rw[hE8];simp only[go_sem,s2]
  have t3:E8 3=.ptr H.next 0 0:=by rw[hE8];simp only[go_sem,s3]
  have t6:E8 6=.ptr (H.next+2) 0 0:=by rw[hE8];simp only[go_sem,s6]
  have t11:E8 11=.ptr (Hx.next+1) 0 0:=by rw[hE8];simp only[go_sem,s11]
  have t12:E8 12=aa v:=by rw[hE8];simp only[go_sem,s12]
  have t13:E8 13=.ptr Hy.next 0 0:=by rw[hE8];simp only[go_sem,s13]
  have t14:E8 14=.vec (cJ ns x v xs).length (ints (cJ ns x v xs)):=by rw[hE8];simp only[go_sem]
  have t62:E8 62=aa v:=by rw[hE8];simp only[go_sem,s62]
  clear hE8;have w13E:∀ L,(ext J1 L).live Hy.next 0=_:=fun L=>(fN (by omega)).trans w13;have rz:List.replicate 0 (AVal.lit (.int .i64 0))=[]:=rfl;have fit:=(hn.2 x hxm).1;obtain⟨pv,J2,hA,hpO,hj2,hjp⟩:=yC (P:=Tryd.prog) (H:=ext J1 [.arr 0 3 []]) (t:=39) (e:=3) (lo:=J1.next) (v:=.own J1.next 0 0 0 1) (cs:=[]) (src:=ints x.parents) (n:=J1.next+1) Tryd.underlying39 Tryd.fh Tryd.fR (by unfold ints;rw[List.all_map,V1];intro y _;rfl) (by rw[Tryd.gL,aR];simp;omega) (aC.new (H:=J1) (cs:=[])) (by rw[dF];simp) (by rw[dF];simp);rw[aR]at hA;have pvo:=hpO.one;have pvc:=hpO.cells;refine W.seq ?_;refine W.draw 8 [0,1,0,0,8,28,63,0] Tryd.mixed (by kernel_rfl) (by kernel_rfl) ?_;simp only[go_sem,t13,w13,w13E,rz,hA,pvo,pvc];rw[dF]at hj2;simp only[List.length_cons,List.length_nil]at hj2;refine⟨⟨fun _ h=>by omega,fun _ h=>by omega⟩,fun _ h=>by omega,fun _ h=>by omega,⟨fun _ h=>by omega,fun _ h=>by omega⟩,⟨fun _ h=>by omega,fun _ h=>by omega,fun _ h=>by omega,fun _ h=>by omega,fun _ h=>by omega⟩,?_⟩;obtain⟨J3,hJ3⟩:∃ J3,J3=ext J2 [.arr 0 53 [.lit (.int .i64 x.card),pv,.lit (.slice none 0 0)]]:=⟨_,rfl⟩
  have j3n:J3.next=J2.next+1:=by rw[hJ3];rfl
  have j2o:∀ id,id<J1.next->J2.get id=J1.get id:=fun id h=>(hjp id (by rw[dF];simp;omega) fun g' n' e=>by cases e;omega).trans (fb h);have j3o:∀ id,id<J1.next->J3.get id=J1.get id:=fun id h=>by rw[hJ3,fb (by omega)];exact j2o id h
  have j3q:J3.get J2.next=some (.arr 0 53 [.lit (.int .i64 x.card),pv,.lit (.slice none 0 0)]):=by rw[hJ3];exact cS
  have j32:∀ id,id<J2.next->J3.get id=J2.get id:=fun id h=>by rw[hJ3,fb h]
  refine W.en (fun E9=>E9 2=aa least /\ E9 3=.ptr H.next 0 0 /\ E9 6=.ptr (H.next+2) 0 0 /\ E9 11=.ptr (Hx.next+1) 0 0 /\ E9 12=aa v /\ E9 13=.ptr Hy.next 0 0 /\ E9 14=.vec (cJ ns x v xs).length (ints (cJ ns x v xs)) /\ E9 16=.ptr J2.next 0 0 /\ E9 62=aa v) (by simp only[go_sem,t2,t3,t6,t11,t12,t13,t14,t62]) fun E9 ⟨u2,u3,u6,u11,u12,u13,u14,u16,u62⟩=>?_
  show W _ _ _ _ _ _ ⟨E9,ext J2 [.arr 0 53 [.lit (.int .i64 x.card),pv,.lit (.slice none 0 0)]]⟩;rw[<- hJ3];clear hJ3;have x13:=ak ((j3o Hy.next (by omega)).trans j13);obtain⟨L,hL⟩:∃ L,L=cJ ns x v xs:=⟨_,rfl⟩
  obtain⟨R,hR⟩:∃ R,R=x.rows.length:=⟨_,rfl⟩
  have hLl:=qE hok h6 hx xs hrow;rw[<- hL]at u14 hLl ⊢;obtain⟨rows,hrows⟩:∃ rows,rows=(iI g least L x).rows:=⟨_,rfl⟩
  have hrl:rows.length=R:=by rw[hrows,hR];show ((List.range _).map _).length=_;simp
  rw[<- hrows];refine W.sq ?_;simp only[go_sem,u13,x13,<- hR];refine W.en (fun F=>F 2=aa least /\ F 3=.ptr H.next 0 0 /\ F 11=.ptr (Hx.next+1) 0 0 /\ F 12=aa v /\ F 13=.ptr Hy.next 0 0 /\ F 14=.vec L.length (ints L) /\ F 16=.ptr J2.next 0 0 /\ F 62=aa v /\ F 87=aa R /\ F 88=aa 0) (by simp only[go_sem,u2,u3,u11,u12,u13,u14,u16,u62]) fun F ⟨a2,a3,a11,a12,a13,a14,a16,a62,a87,a88⟩=>?_
  refine W.aG 1329227995475430863082461991556481152 (by kernel_rfl) (fun ρ2 Hz=>∃ (j:Nat) (rv:AVal),ρ2 88=aa j/\j<=R/\J3.next<=Hz.next/\(∀ id,id<J3.next->id≠J2.next->Hz.get id=J3.get id)/\Hz.get J2.next=some (.arr 0 53 [.lit (.int .i64 x.card),pv,rv])/\aC J3.next Hz 39 rv ((rows.take j).map ab)) (fun ρ2 H=>R - (iv (ρ2 88)).toNat) ?_ ?_
  ·exact⟨0,_,a88,by omega,Nat.le_refl _,fun _ _ _=>rfl,j3q,.nil⟩
  rintro ρ2 Hz ⟨j,rv,h88,hj,hnz,holdz,gz,hO⟩;refine W.en (fun F2=>F2 2=aa least /\ F2 3=.ptr H.next 0 0 /\ F2 11=.ptr (Hx.next+1) 0 0 /\ F2 12=aa v /\ F2 13=.ptr Hy.next 0 0 /\ F2 14=.vec L.length (ints L) /\ F2 16=.ptr J2.next 0 0 /\ F2 62=aa v /\ F2 87=aa R /\ F2 88=aa j) (by simp only[go_sem,a2,a3,a11,a12,a13,a14,a16,a62,a87,h88]) fun F2 ⟨b2,b3,b11,b12,b13,b14,b16,b62,b87,b88⟩=>?_
  have ozJ:∀ id,id<J1.next->Hz.get id=J1.get id:=fun id h=>(holdz id (by omega) (by omega)).trans (j3o id h);have lz:=ak gz;have rvo:=hO.one;have rvc:=hO.cells;have tk:(rows.take j).length=j:=by rw[VC];omega
  by_cases hb3:(j:Int)<R;rotate_left
  ·have oT:=ak ((ozJ _ (by omega)).trans ((j1o.old _ (by omega)).trans yT));have oB:=ak ((ozJ _ (by omega)).trans ((j1o.old _ (by omega)).trans gB));have fl:=Sg (n:=n) (ns:=N.take v) (by omega);have hv3:v*3+3<=(eN n (N.take v)).length:=(by rw[fl];omega);refine W.vs ?_;simp only[go_sem,b87,b88,hb3];refine W.vs ?_;simp only[go_sem,b11,b12,b16,b62,lz,oT,oB,pvo,rvo,hb2,fl];have ej:j=R:=(by omega);rw[ej,Vz (by omega)]at hO;exact⟨by omega,by rw[aE];omega,fun id h1 h2=>by rw[ag,Vw h2,ozJ id (by omega)];exact j1o.old id h1,pv,rv,by rw[ag,Vx rfl],hpO.keep (by omega) (by rw[aE];omega) fun id _ h1 h2 _ _=>by rw[ag,Vw (by omega),holdz id (by omega) (by omega)];exact j32 id h2,hO.keep (by omega) (by rw[aE];omega) fun id _ h1 h2 _ _=>by rw[ag,Vw (by omega)]⟩
  have w0z:=ak ((ozJ _ (by omega)).trans ((j1o.old _ (by omega)).trans y0));have w13z:=ak ((ozJ _ (by omega)).trans j13);obtain⟨c,hcc⟩:∃ c:Nat,x.card=c:=⟨x.card.toNat,by omega⟩
  have hc':=hc;rw[hcc]at hc';have hct:x.card.toNat=c:=by omega
  have hRb:=(vK hok hx).2;have mR:((R:Int))*c<=1024:=by rw[hR,<- hcc];exact hRb
  have m0:0<=(j:Int)*c:=WE (by omega) (by omega);have m1':((j:Int)+1)*c<=R*c:=Wv (by omega) (by omega);have m2':((j:Int)+1)*c=j*c+c:=by rw[XN,XM]
  have mR1:(R:Int)*1<=R*c:=V8 (by omega) (by omega);have v1:=Vt ((j:Int)*c) (by omega);have v2:=Vt ((j:Int)+1) (by omega);have v3:=Vt (((j:Int)+1)*c) (by omega);have rok:=vT hok h6 hfair hx (xs:=xs) (by omega) hrow (j:=j) (by omega);rw[<- hL,hct]at rok;rw[hct,<- hR]at hLl;obtain⟨q,hq⟩:∃ q,q=nE least (dQ g least (fC L c j)) (fC L c j):=⟨_,rfl⟩
  have hqr:rows[j]?=some q:=by rw[hrows,hq];show ((List.range _).map _)[j]?=_;rw[List.getElem?_map,Wu (by omega),<- hct];rfl
  have sl:=D6 hLl (show j<R by omega);have rl:=qD hLl (show j<R by omega);refine W.sq ?_;simp only[go_sem,b87,b88,hb3];refine W.sq ?_;simp only[go_sem];refine W.seq (W.block ?_);refine W.sq ?_;simp only[go_sem,b88];refine W.seq ?_;refine W.draw 19 [0,0,0,4,14,0,32,0,128,480,1023,0,2048,0,16383,32767,65535,65535,131071] Tryd.mixed (by kernel_rfl) (by kernel_rfl) ?_;have tn2:((j:Int)*c).toNat=j*c:=by rw[<- Wx,Int.toNat_natCast]
  have tn1:(((j:Int)+1)*c).toNat=j*c+c:=by rw[m2',<- Wx,<- Yu,Int.toNat_natCast]
  have tn3:j*c+c - j*c=c:=by omega
  have hLi:(L.length:Int)=R*c:=by rw[hLl,Wx]
  simp only[go_sem,b2,b3,b13,b14,w0z,w13z,hcc,v1,v2,v3,tn1,tn2,tn3,sl];refine⟨by omega,by omega,⟨.tup [ab q,aa 0],[],df.pure (fun H2=>?_),?_⟩⟩
  ·rw[show AVal.vec c (ints (fC L c j))=ab (fC L c j) by unfold ab;rw[rl]];exact SO (c:=fC L c j) (grain:=g) (least:=least) (by omega) H2 _ ⟨by unfold wI;rw[Fy rok,Vx rfl,hq],rfl⟩
  obtain⟨rv',He,hAe,hOe,hne,hpe⟩:=Uc (ab q) rfl hO hnz (by rw[VD];omega);simp only[ab]at hAe;have rvo2:=hOe.one;have rvc2:=hOe.cells;have lXe:=ak ((hpe J2.next (by omega) (aC.wE hO (by omega))).trans gz);have lXx:∀ L,(ext Hz L).live J2.next 0=_:=fun L=>(fN (by omega)).trans lz;simp only[go_sem];refine W.sq ?_;simp only[go_sem];refine W.vs ?_;simp only[go_sem,b16,lz,lXe,rvo2,rvc2,hAe];refine W.vs ?_;simp only[go_sem,b88,v2];rw[show (rows.take j).map ab++[ab q]=(rows.take (j+1)).map ab by rw[aL hqr,Wo];rfl]at hOe;exact⟨by rw[aE];omega,⟨j+1,rv',rfl,by omega,by rw[aE];omega,fun id h1 h2=>by rw[ag,Vw h2,hpe id (by omega) (aC.wE hO h1)];exact holdz id h1 h2,by rw[ag,Vx rfl,hcc],hOe.keep (Nat.le_refl _) (by rw[aE];omega) fun id _ h1 h2 _ _=>by rw[ag,Vw (by omega)]⟩,by rw[h88];simp only[aa,aN];omega⟩
 ·rintro e ⟨ρ2,Hb⟩ ⟨rfl,q62,qn,qold,pv,rv,qB,qP,qR⟩;simp only at q62 qn qold qB qP qR;obtain⟨y,hy⟩:∃ y,y=iI g least (cJ ns x v xs) x:=⟨_,rfl⟩
  rw[<- hy]at qR hNv;refine⟨⟨ρ2,Hb.ig Hy.next Hx.next (.arr 0 53 (setAt (eN n (N.take v)) (v*3) y.cells))⟩,dD.ig aT qB (by omega) (by simp [setAt,NodeP.cells]) ?_,Nat.le_refl _,trivial,?_⟩
  ·have e1:setAt (eN n (N.take v)) (v*3) [aa x.card,pv,rv]=((eN n (N.take v)).take (v*3)++[aa x.card])++pv :: rv :: (eN n (N.take v)).drop (v*3+3):=(by simp [setAt]);have e2:setAt (eN n (N.take v)) (v*3) y.cells=((eN n (N.take v)).take (v*3)++[aa x.card])++ab x.parents :: aB y.rows :: (eN n (N.take v)).drop (v*3+3):=(by rw[hy];simp [setAt,NodeP.cells,iI,ab,aB]);rw[e1,e2];refine PD (fun z hz=>?_) (qP.jb fun i h=>h) (aC.Qx qR fun i h=>h) fun z hz=>wG z (WV hz) _ _ _;rcases VP.1 hz with hz|hz
   ·exact wG z (VW hz) _ _ _
   ·rw[List.mem_singleton.1 hz];exact .lit _
  ·obtain⟨Hm,hHm⟩:∃ Hm,Hm=Hb.ig Hy.next Hx.next (.arr 0 53 (setAt (eN n (N.take v)) (v*3) y.cells)):=⟨_,rfl⟩
   have nm:Hm.next=Hb.next:=(by rw[hHm];rfl);have gm:Hm.get Hx.next=some (.arr 0 53 (setAt (eN n (N.take v)) (v*3) y.cells)):=(by rw[hHm];exact Tk (by omega));have om:∀ id,id<Hy.next->id≠Hx.next->Hm.get id=Hy.get id:=fun id h h2=>by rw[hHm,Tl h h2,qold id h h2]
   rw[<- hHm];clear hHm;show W Tryd.prog G0 127 none _ _ ⟨ρ2,Hm⟩;have w1:=Vt ((v:Int)+1) (by omega);have fs:=Sh (n:=n) (ns:=N.take v) (x:=y) (by omega);rw[vl]at fs;rw[fs,<- aL hNv]at gm;refine W.vs ?_;simp only[go_sem,q62,w1];exact⟨by omega,⟨v+1,rfl,by omega,by omega,fun id h1 h2=>(om id (by omega) h2).trans (hold id h1 h2),gm⟩,by rw[h62];simp only[aa,aN];omega⟩
def wC (ps:List Nat)(pl v:Nat):Nat:=if jQ (ps.getD v 0) pl=0 then pl ||| 2 ^ v else pl
def Sa (ps:List Nat)(pl:Nat):Nat:=(List.range ps.length).foldl (wC ps) pl
def EX (ps:List Nat):Nat->Nat->Nat
 | 0,pl=>pl
 | k+1,pl=>EX ps k (Sa ps pl)
theorem Sb {ps:List Nat}{b:Nat}(hb:0<b)(hp:∀ p∈ps,p<b)(v:Nat):ps.getD v 0<b:=by
 rw[Vy];cases h:ps[v]? with
 | none=>exact hb
 | some p=>exact hp p (Vs h)
def kz (ps:List Nat)(pl:Nat):Prop:=mr ps pl/\∀ v,v<ps.length->pl.testBit v=true->(fE ps (ps.getD v 0)).testBit v=false
theorem kz.step {ps:List Nat}(hp:∀ p∈ps,p<2 ^ 64){pl v:Nat}(h:kz ps pl)(hv:v<ps.length):kz ps (wC ps pl v):=by
 unfold wC;split
 ·rename_i hs;have hsub:=(AN (Sb (by decide) hp v)).1 hs;rcases Wf (pl.testBit v) with hb|hb
  ·have e:pl ||| 2 ^ v=pl:=Yx fun i=>by
    rw[hZ];by_cases hi:v=i
    ·subst hi;rw[hb];rfl
    ·simp [hi]
   rw[e];exact h
  ·refine⟨fun w hw hwb=>?_,fun w hw hwb=>?_⟩
   ·rw[hZ]at hwb;rcases Zk.1 hwb with hwb|hwb
    ·exact(h.1 w hw hwb).trans (.left _ _)
    ·obtain rfl:=of_decide_eq_true hwb;exact hsub.trans (.left _ _)
   ·rw[hZ]at hwb;rcases Zk.1 hwb with hwb|hwb
    ·exact h.2 w hw hwb
    ·obtain rfl:=of_decide_eq_true hwb;have hu:=tp h.1 ps.length hsub;rcases Wf ((fE ps (ps.getD v 0)).testBit v) with e|e
     ·have:=hu v e;rw[hb]at this;cases this
     ·exact e
 ·exact h
theorem kz.fold {ps:List Nat}(hp:∀ p∈ps,p<2 ^ 64)(l:List Nat)(hl:∀ v∈l,v<ps.length):∀ pl,kz ps pl->kz ps (l.foldl (wC ps) pl):=by
 induction l with
 | nil=>exact fun pl h=>h
 | cons v l ih=>exact fun pl h=>ih (fun w hw=>hl w (by simp [hw])) _ (h.step hp (hl v (by simp)))
theorem kz.rounds {ps:List Nat}(hp:∀ p∈ps,p<2 ^ 64):∀ (k:Nat) {pl:Nat},kz ps pl->kz ps (EX ps k pl)
 | 0,_,h=>h
 | k+1,_,h=>kz.rounds hp k (kz.fold hp _ (fun v hv=>VJ.1 hv) _ h)
end Go.Proofs
namespace Go.Hx
variable {P:Program} {G:Nat->Option (List AVal)} {rd:Option Nat} {Q:AX->St->Prop} {K:St->Prop} {KF:FP->St->Prop} {s:St} {d:Option Tmp} {ty:TypeId} {pos:String} {aft:Array Edge} {g:Option (Nat × Bool)}
@[go_sem] theorem Vk (t:TypeId)(x i:Operand)(ok:Bool):ct P G ⟨d,.lookup t x i ok,ty,pos,aft,g⟩ KF s=aM P G none QF ⟨d,.lookup t x i ok,ty,pos,aft,g⟩ (KF ⟨[],dv (ah G s.ρ x)⟩) s:=(rfl)
@[go_sem] theorem Vl (t:TypeId)(m k x:Operand):ct P G ⟨d,.mapUpdate t m k x,ty,pos,aft,g⟩ KF s=aM P G none QF ⟨d,.mapUpdate t m k x,ty,pos,aft,g⟩ (KF ⟨dv (ah G s.ρ m),dv (ah G s.ρ m)⟩) s:=(rfl)
@[go_sem] theorem Vm (a b:TypeId)(n:Nat)(cells:List AVal)(off:Nat):kQ (some (.map a b)) n cells off=cells[off]?:=rfl
@[go_sem] theorem Vn (id:Nat):(AVal.yld id).cells=[.yld id]:=rfl
@[go_sem] theorem Vo (id:Nat):(AVal.yld id).one=true:=rfl
@[go_sem] theorem Vp (id:Nat):dv (.yld id)=[id]:=rfl
end Go.Hx
namespace Go.Hx
end Go.Hx
namespace Go.Proofs
open Go.Hx
def Sc (P r:List Int):Bool:=decide (∀ p∈P,¬ r.getD p.toNat 0<0)
def Sd (cs P r:List Int):Int:=eo (aP cs P) (aP r P)
def Se (cs P:List Int)(v:Nat)(r:List Int):Option Int:=if ¬ r.getD v 0<0/\Sc P r=true then some (Sd cs P r*cs.getD v 0+r.getD v 0) else none
def Sf (cs P:List Int)(v:Nat)(xs:List (List Int))(k:Int):Nat:=xs.countP fun r=>decide (Se cs P v r=some k)
def wD (n s:Nat):List Int:=((List.range n).filter fun p=>s.testBit p).map fun (p:Nat)=>(p:Int)
def EY (cs P:List Int)(v:Nat)(xs:List (List Int))(prior:Int)(j:Nat):List Int:=(List.range (cs.getD v 0).toNat).map fun (k:Nat)=>prior+(Sf cs P v xs ((j:Int)*cs.getD v 0+k):Int)
structure FitN (cs:List Int)(xs:List (List Int))(grain prior least:Int)(n v s:Nat)(x:NodeP):Prop where
 card:x.card=cs.getD v 0
 par:x.parents=wD n s
 len:(x.rows.length:Int)=aA (aP cs (wD n s))
 row:∀ j r,x.rows[j]?=some r->iS least (dQ grain least (EY cs (wD n s) v xs prior j)) (EY cs (wD n s) v xs prior j) r
theorem P7 (i v:Nat):kr [] i v=false:=rfl
theorem P8 (ns:List NodeP)(ws:List Int)(i:Nat):oE ns ws [] i=dZ (af ns) (ws.getD i 0 % aA (af ns)):=by
 unfold oE;refine V9 fun k=>?_;rcases VR k (dZ (af ns) (ws.getD i 0 % aA (af ns))).length with h|h
 ·obtain⟨x,hx⟩:=get_of_lt h;rw[sT hx,hx,Vw (by rw[P7];simp)]
 ·rw[VB (by rw[oD];exact h),VB h]
theorem P9 {g:Int}{ns:List NodeP}(h:NetOk g ns)(ws:List Int):∀ r∈jJ ns ws [],bP (af ns) r:=fun r hr=>by
 unfold jJ at hr;obtain⟨i,_,rfl⟩:=VN.1 hr;rw[P8];exact AL (iF h) _
end Go.Proofs
