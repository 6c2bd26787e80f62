/- Own work: contracts. -/
import Derived.Test.YtakancljiekbhaaConC
import Derived.Test.YtakancljiekbhaaConA
import Derived.Test.YtakancljiekbhaaConB
set_option linter.all false
set_option maxRecDepth 100000
namespace Go.Proofs
open Go.Hx
section
variable {cv:AVal} {f:Nat->Nat} {rid:Nat} {rb:Blk} {id g n a b:Nat} {l:List Nat} {H:AHeap}
set_option maxHeartbeats 16000000 in
theorem Pt (S:SH cv f rid rb id g n l H)(hab:a<b)(hb:b<=n)(K:ARes->AHeap->Prop)(hK:∀ q,aZ a b l q->df f q a b->K (.ret (.tup [])) (H.upd id (nB g q))):
  af Try.prog G0 97 [.own id g 0 n 1,aa a,aa b,cv] H K:=by
 have hn:=S.hn;have w0:IntKind.i64.wrap ((b:Int) - (a:Int))=((b - a:Nat):Int):=by rw[IntWalk.i64_in _ (by omega)];omega
 have w1:IntKind.i64.wrap (((b - a:Nat):Int) - 1)=((b - a - 1:Nat):Int):=by rw[IntWalk.i64_in _ (by omega)];omega
 have w2:(((b - a - 1:Nat):Int)).tdiv 2=(((b - a - 1) / 2:Nat):Int):=by rw[Int.tdiv_eq_ediv_of_nonneg (by omega)];push_cast;rfl
 have w3:IntKind.i64.wrap (((b - a - 1) / 2:Nat):Int)=(((b - a - 1) / 2:Nat):Int):=IntWalk.i64_in _ (by omega);refine af.cS (n:=60) (rs:=[]) Try.func97 rfl rfl rfl (by decide) (by simp) ?_;refine W.seq (ab _ _ _ (by rfl) ?_);simp only[go_sem];refine W.seq (ab _ _ _ (by rfl) ?_);simp only[go_sem];refine W.seq (ab _ _ _ (by rfl) ?_);simp only[go_sem,w0];refine W.seq (ab _ _ _ (by rfl) ?_);simp only[go_sem,w1,w2,w3];refine W.env fun E hE=>?_;have e0:E 0=.own id g 0 n 1:=by rw[hE];simp only[go_sem]
 have e3:E 3=cv:=by rw[hE];simp only[go_sem]
 have e8:E 8=aa a:=by rw[hE];simp only[go_sem]
 have e9:E 9=aa 0:=by rw[hE];simp only[go_sem]
 have e10:E 10=aa ((b - a:Nat):Int):=by rw[hE];simp only[go_sem]
 have e11:E 11=aa (((b - a - 1) / 2:Nat):Int):=by rw[hE];simp only[go_sem]
 clear hE;refine W.aG 1072695296 (by kernel_rfl) (fun ρ Hx=>∃ (k:Nat) (q:List Nat),ρ 11=aa ((k:Int) - 1)/\k<=b - a/\aZ a b l q/\gT f q a k (b - a)/\Hx=H.upd id (nB g q)) (fun ρ Hx=>(iv (ρ 11)+1).toNat) ?_ ?_
 ·exact⟨(b - a - 1) / 2+1,l,e11.trans (by congr 3;omega),by omega,.refl _ _ _,.Po (by omega),S.self.symm⟩
 rintro ρ Hx ⟨k,q,h11,hk,hp,hh,hHx⟩;refine W.env fun F hF=>?_;have d0:F 0=.own id g 0 n 1:=by rw[hF];simp only[go_sem,e0]
 have d3:F 3=cv:=by rw[hF];simp only[go_sem,e3]
 have d8:F 8=aa a:=by rw[hF];simp only[go_sem,e8]
 have d9:F 9=aa 0:=by rw[hF];simp only[go_sem,e9]
 have d10:F 10=aa ((b - a:Nat):Int):=by rw[hF];simp only[go_sem,e10]
 have d11:F 11=aa ((k:Int) - 1):=by rw[hF];simp only[go_sem,h11]
 clear hF;have T:=S.upd hp.1;rw[<- hHx]at T;by_cases hk0:(k:Int) - 1 >= 0
 ·obtain⟨i,rfl⟩:∃ i,k=i+1:=⟨k - 1,by omega⟩
  have ei:((i+1:Nat):Int) - 1=(i:Int):=by omega
  rw[ei]at d11 hk0 h11;have wi:=IntWalk.i64_in ((i:Int) - 1) (by omega);refine W.seq (ab _ _ _ (by rfl) ?_);simp only[go_sem,d11,hk0];refine W.seq (W.block ?_);refine ab _ _ _ (by rfl) ?_;simp only[go_sem,d0,d3,d8,d10,d11];refine aB.clo (CW (hi:=b - a) T (by omega) (by omega) hh _ fun q' hq' hh'=>⟨trivial,?_⟩);simp only[go_sem];refine ab _ _ _ (by rfl) ?_;simp only[go_sem,d11,wi];refine⟨by rw[hHx];exact Nat.le_refl _,⟨i,q',rfl,by omega,hp.trans (hq'.mono (by omega) (by omega)),hh',?_⟩,by rw[h11];simp only[aa,aK];omega⟩;rw[hHx,dX]
 refine ab _ _ _ (by rfl) ?_;simp only[go_sem,d11,hk0];obtain rfl:k=0:=by omega
 refine W.seq (ab _ _ _ (by rfl) ?_);simp only[go_sem,d10,w1];refine W.env fun J hJ=>?_;have m0:J 0=.own id g 0 n 1:=by rw[hJ];simp only[go_sem,d0]
 have m3:J 3=cv:=by rw[hJ];simp only[go_sem,d3]
 have m8:J 8=aa a:=by rw[hJ];simp only[go_sem,d8]
 have m9:J 9=aa 0:=by rw[hJ];simp only[go_sem,d9]
 have m10:J 10=aa ((b - a:Nat):Int):=by rw[hJ];simp only[go_sem,d10]
 have m12:J 12=aa ((b - a - 1:Nat):Int):=by rw[hJ];simp only[go_sem]
 clear hJ;refine W.block ?_;refine W.aG 1152921500311883776 (by kernel_rfl) (fun ρ Hz=>∃ (k:Nat) (p:List Nat),ρ 12=aa ((k:Int) - 1)/\k<=b - a/\aZ a b l p/\gT f p a 0 k/\me f p a (a+k) b/\Hz=H.upd id (nB g p)) (fun ρ Hz=>(iv (ρ 12)+1).toNat) ?_ ?_
 ·exact⟨b - a,q,m12.trans (by congr 3;omega),Nat.le_refl _,hp,hh,by rw[show a+(b - a)=b by omega];exact .start,hHx⟩
 rintro ρ2 Hz ⟨k,p,h12,hkb,hpp,hhp,hPI,hHz⟩;refine W.env fun M hM=>?_;have u0:M 0=.own id g 0 n 1:=by rw[hM];simp only[go_sem,m0]
 have u3:M 3=cv:=by rw[hM];simp only[go_sem,m3]
 have u8:M 8=aa a:=by rw[hM];simp only[go_sem,m8]
 have u9:M 9=aa 0:=by rw[hM];simp only[go_sem,m9]
 have u10:M 10=aa ((b - a:Nat):Int):=by rw[hM];simp only[go_sem,m10]
 have u12:M 12=aa ((k:Int) - 1):=by rw[hM];simp only[go_sem,h12]
 clear hM;have Tz:=S.upd hpp.1;rw[<- hHz]at Tz;by_cases hk1:(k:Int) - 1 >= 0;rotate_left
 ·refine ab _ _ _ (by rfl) ?_;simp only[go_sem,u12,hk1];obtain rfl:k=0:=by omega
  rw[hHz];exact av.mk (Nat.le_refl _) (hK p hpp hPI.done)
 obtain⟨i,rfl⟩:∃ i,k=i+1:=⟨k - 1,by omega⟩
 have ei:((i+1:Nat):Int) - 1=(i:Int):=by omega
 rw[ei]at u12 hk1 h12;have wi:=IntWalk.i64_in ((i:Int) - 1) (by omega);have wai:IntKind.i64.wrap ((a:Int)+(i:Int))=((a+i:Nat):Int):=by rw[IntWalk.i64_in _ (by omega)];omega
 have an:a<n:=by omega
 have ain:a+i<n:=by omega
 have ba:(a:Int)<n:=by omega
 have bai:((a+i:Nat):Int)<n:=by omega
 have pl:=hpp.len;rw[S.hl]at pl;refine W.seq (ab _ _ _ (by rfl) ?_);simp only[go_sem,u12,hk1];refine W.seq (W.block (W.seq ?_));refine W.draw 18 [0,0,0,0,0,24,0,0,0,384,960,1984,0,0,12288,28672,65475,131011] Try.mixed (by kernel_rfl) (by kernel_rfl) ?_;simp only[go_sem,u0,u8,u12,Tz.live,Tz.len,wai,Tz.cell an,Tz.cell ain,ba,bai,Tz.s1 an,Tz.s2 (i:=a) ain,Tz.iD,Tz.iE];refine⟨by omega,by omega,?_⟩
 try rw[Tz.u2]
 have sw:aZ a b p (cf p a (a+i)):=.swap (Nat.le_refl _) (by omega) (by omega) (by omega) (by omega);have Ts:=Tz.upd sw.1;refine ab _ _ _ (by rfl) ?_;simp only[go_sem,u0,u3,u8,u9,u12];refine aB.clo (CW (lo:=0) (hi:=i) Ts (by omega) (by omega) (hhp.pop (by omega)) _ fun q' hq' hh'=>⟨trivial,?_⟩);simp only[go_sem];refine ab _ _ _ (by rfl) ?_;simp only[go_sem,u12,wi];refine⟨by simp only[az];rw[hHz,hHx];exact Nat.le_refl _,⟨i,q',rfl,by omega,hpp.trans (sw.trans (hq'.mono (by omega) (by omega))),hh',hPI.step hhp (by omega) (by omega) hq',?_⟩,by rw[h12];simp only[aa,aK];omega⟩;rw[hHz,dX,dX]
end
end Go.Proofs
namespace Go.Hx
theorem Pu {P:Program}{t:TypeId}{x y:Operand}{k':IntKind}{a:Nat}:aX P .shr t x y (.lit (.int .u64 (a:Int))) (.lit (.int k' 8))=some (.lit (.int .u64 ((a / 256:Nat):Int))):=by
 rw[rU (by decide)];have e:(a:Int).fdiv (2 ^ (min (8:Int).toNat (IntKind.bits .u64)))=((a / 256:Nat):Int):=by
  rw[Int.fdiv_eq_ediv_of_nonneg _ (by exact_mod_cast Nat.zero_le _)]
  push_cast
  rfl
 rw[e]
theorem Clo.Pv {H:AHeap}(hc:Clo H){id:Nat}(hi:id<H.next)(g:Nat)(e:TypeId)(x:List Int):Clo (H.upd id (.arr g e (ints x))):=by
 refine⟨fun j b hb=>?_,fun j b hb=>?_⟩
 ·rw[ag]at hb;split at hb
  ·rename_i h;rw[h];exact hi
  ·exact hc.lt j b hb
 ·rw[ag]at hb;split at hb
  ·cases hb;exact fun i hi=>by simp only[ints,List.getElem_map];exact .lit _
  ·exact hc.below j b hb
end Go.Hx
namespace Go.Proofs
open Go.Hx
def CX (s:ByteArray):Bool:=s.size == 256 && (List.range 256).all fun i=>Nat.ble (s[i]!).toNat 8 && (i == 0 || (Nat.ble 1 (s[i]!).toNat && Nat.ble (2 ^ ((s[i]!).toNat - 1)) i))
theorem CY {s:ByteArray}{i:Nat}{F:AVal->Prop}(hs:CX s=true)(h0:i≠0)(hi:i<256)(h:∀ L:Nat,L<=8->1<=L->2 ^ (L - 1)<=i->F (.lit (.int .u8 (L:Int)))):aV (lg Try.prog 9 (.lit (.string s)) (.lit (.int .u8 (i:Int)))) F:=by
 unfold CX at hs;rw[Bool.and_eq_true,List.all_eq_true]at hs;have h1:=hs.2 i (List.mem_range.2 hi);have hz:s.size=256:=by simpa using hs.1
 have ix:lg Try.prog 9 (.lit (.string s)) (.lit (.int .u8 (i:Int)))=some (.lit (.int .u8 (((s[i]!).toNat:Nat):Int))):=by
  unfold lg;simp only[];have e1:s[i]?=some s[i]!:=by
   rw[getElem!_pos s i (by omega)];exact getElem?_pos s i (by omega)
  have ht:Try.prog.underlying 9=some .string:=Try.underlying9;simp [Instr.index,asIntOf,underlying,program,ht,cL,bind,Sem.bind,pure,e1]
 rw[ix,lq];simp only[Bool.and_eq_true,Bool.or_eq_true,beq_iff_eq]at h1;have b2:=Nat.le_of_ble_eq_true h1.1;rcases h1.2 with h2|h2
 ·exact absurd h2 h0
 ·exact h _ b2 (Nat.le_of_ble_eq_true h2.1) (Nat.le_of_ble_eq_true h2.2)
theorem Pw {n:Nat}(h1:1<=n)(hn:n<=1024)(H:AHeap)(K:ARes->AHeap->Prop)(hK:∀ L:Nat,L<=16->2 ^ L<=2*n->K (.ret (aa L)) H):af Try.prog G0 105 [.lit (.int .u64 (n:Int))] H K:=by
 have g1:¬ (4294967296:Int)<=(n:Int):=by omega
 have g2:¬ (65536:Int)<=(n:Int):=by omega
 have wr:∀ i:Nat,i<256->IntKind.u8.wrap ((i:Nat):Int)=(i:Int):=fun i hi=>by simp [IntKind.wrap,IntKind.bits,IntKind.signed];omega
 have k8:IntKind.i64.wrap 8=8:=by decide
 have pw:∀ L,1<=L->2 ^ L=2*2 ^ (L - 1):=fun L h=>by rw[show L=(L - 1)+1 by omega,Nat.pow_succ,Nat.add_sub_cancel,Nat.mul_comm]
 refine af.cS (n:=25) (rs:=[.tmp 2]) Try.func105 rfl rfl rfl (by decide) (by simp) ?_;refine W.seq (ab _ _ _ (by rfl) ?_);simp only[go_sem];refine W.seq (ab _ _ _ (by rfl) ?_);simp only[go_sem,g1];refine W.seq (ab _ _ _ (by rfl) ?_);simp only[go_sem,g2];by_cases g3:(256:Int)<=(n:Int)
 ·have ww:=wr (n / 256) (by omega);refine W.seq (ab _ _ _ (by rfl) ?_);simp only[go_sem,g3,Pu,k8];refine ab _ _ _ (by rfl) ?_;simp only[go_sem,ww];refine CY (by kernel_rfl) (by omega) (by omega) fun L hL h1L h2L=>?_;have w:=IntWalk.i64_in (8+(L:Int)) (by omega);have w0:=IntWalk.i64_in (L:Int) (by omega);simp only[go_sem,w0,w];have e:8+(L:Int)=((8+L:Nat):Int):=by omega
  rw[e];refine av.mk (Nat.le_refl _) (hK _ (by omega) ?_);rw[Nat.pow_add,pw L h1L];omega
 ·have ww:=wr n (by omega);refine W.seq (ab _ _ _ (by rfl) ?_);simp only[go_sem,g3];refine ab _ _ _ (by rfl) ?_;simp only[go_sem,ww];refine CY (by kernel_rfl) (by omega) (by omega) fun L hL h1L h2L=>?_;have w:IntKind.i64.wrap (0+(L:Int))=(L:Int):=by rw[Int.zero_add];exact IntWalk.i64_in (L:Int) (by omega)
  have w0:=IntWalk.i64_in (L:Int) (by omega);simp only[go_sem,w0,w];refine av.mk (Nat.le_refl _) (hK _ (by omega) ?_);rw[pw L h1L];omega
theorem CZ {n:Nat}(h1:1<=n)(hn:n<=1024)(H:AHeap)(K:ARes->AHeap->Prop)(hK:∀ L:Nat,L<=16->2 ^ L<=2*n->K (.ret (aa L)) H):af Try.prog G0 93 [.lit (.int .u64 (n:Int))] H K:=by
 refine af.cS (n:=8) (rs:=[.tmp 2]) Try.func93 rfl rfl rfl (by decide) (by simp) ?_;refine ab _ _ _ (by rfl) ?_;simp only[go_sem];refine aB.clo (Pw h1 hn H _ fun L hL h2=>⟨trivial,?_⟩);simp only[go_sem];exact av.mk (Nat.le_refl _) (hK L hL h2)
theorem Px {n:Nat}(h1:1<=n)(hn:n<=1024)(H:AHeap)(K:ARes->AHeap->Prop)(hK:∀ M:Nat,1<=M->M<=2*n->K (.ret (.lit (.int .u64 (M:Int)))) H):af Try.prog G0 108 [aa n] H K:=by
 have wn:IntKind.u64.wrap ((n:Nat):Int)=(n:Int):=by simp [IntKind.wrap,IntKind.bits,IntKind.signed];omega
 refine af.cS (n:=7) (rs:=[.tmp 2]) Try.func108 rfl rfl rfl (by decide) (by simp) ?_;refine W.seq (ab _ _ _ (by rfl) ?_);simp only[go_sem];refine ab _ _ _ (by rfl) ?_;simp only[go_sem,wn];refine aB.clo (CZ h1 hn H _ fun L hL h2=>⟨trivial,?_⟩);obtain⟨M,hM⟩:∃ M,M=2 ^ L:=⟨_,rfl⟩
 have sh:∀ t o1 o2,aX Try.prog .shl t o1 o2 (.lit (.int .u64 1)) (.lit (.int .i64 (L:Int)))=some (.lit (.int .u64 (M:Int))):=fun t o1 o2=>by
  have e:min L (IntKind.bits .u64)=L:=Nat.min_eq_left (show L<=64 by omega);have e2:((2:Int) ^ L)=(M:Int):=by rw[hM];push_cast;rfl
  rw[pS (Int.natCast_nonneg L),Int.toNat_natCast,e,Int.one_mul,e2,IntWalk.u64_in _ (by omega)]
 simp only[go_sem,sh];exact av.mk (Nat.le_refl _) (hK M (by rw[hM];exact Nat.two_pow_pos L) (by omega))
theorem Py {rd:Nat}{a:Int}(H:AHeap)(hg:H.get rd=some (.arr 0 167 [.lit (.int .u64 a)]))(K:ARes->AHeap->Prop)(hK:∀ c,K (.ret (.lit (.int .u64 c))) (H.upd rd (.arr 0 167 [.lit (.int .u64 c)]))):af Try.prog G0 109 [.ptr rd 0 0] H K:=by
 obtain⟨f1,h1⟩:∃ f1:Int->Int,∀ t x y a,aX Try.prog .shl t x y (.lit (.int .u64 a)) (.lit (.int .u64 13))=some (.lit (.int .u64 (f1 a))):=⟨_,fun t x y a=>pS (by decide)⟩
 obtain⟨f2,h2⟩:∃ f2:Int->Int,∀ t x y a,aX Try.prog .shr t x y (.lit (.int .u64 a)) (.lit (.int .u64 7))=some (.lit (.int .u64 (f2 a))):=⟨_,fun t x y a=>rU (by decide)⟩
 obtain⟨f3,h3⟩:∃ f3:Int->Int,∀ t x y a,aX Try.prog .shl t x y (.lit (.int .u64 a)) (.lit (.int .u64 17))=some (.lit (.int .u64 (f3 a))):=⟨_,fun t x y a=>pS (by decide)⟩
 obtain⟨f4,h4⟩:∃ f4:Int->Int->Int,∀ t x y a b,aX Try.prog .xor t x y (.lit (.int .u64 a)) (.lit (.int .u64 b))=some (.lit (.int .u64 (f4 a b))):=⟨fun a b=>_,fun t x y a b=>Re⟩
 have up:∀ (H:AHeap) (x y:Blk),(H.upd rd x).upd rd y=H.upd rd y:=fun H x y=>lV ..;have lv:∀ (H:AHeap) (x:List AVal),(H.upd rd (.arr 0 167 x)).live rd 0=some (167,x):=fun H x=>ah (by rw[ag,if_pos rfl]);have l0:=ah hg;refine af.cS (n:=33) (rs:=[.tmp 2]) Try.func109 rfl rfl rfl (by decide) (by simp) ?_;refine W.seq (ab _ _ _ (by rfl) ?_);simp only[go_sem];refine W.seq ?_;refine W.draw 7 [0,1,3,0,8,24,56] Try.mixed (by kernel_rfl) (by kernel_rfl) ?_;simp only[go_sem,l0,h1,h4];refine W.env fun E1 hE1=>?_;have e0:E1 0=.ptr rd 0 0:=by rw[hE1];simp only[go_sem]
 clear hE1;obtain⟨c1,hc1⟩:∃ c1,c1=f4 a (f1 a):=⟨_,rfl⟩
 rw[<- hc1];refine W.seq ?_;refine W.draw 7 [0,1,3,0,8,24,56] Try.mixed (by kernel_rfl) (by kernel_rfl) ?_;simp only[go_sem,e0,lv,h2,h4];rw[up];refine W.env fun E2 hE2=>?_;have m0:E2 0=.ptr rd 0 0:=by rw[hE2];simp only[go_sem,e0]
 clear hE2;obtain⟨c2,hc2⟩:∃ c2,c2=f4 c1 (f2 c1):=⟨_,rfl⟩
 rw[<- hc2];refine W.seq ?_;refine W.draw 7 [0,1,3,0,8,24,56] Try.mixed (by kernel_rfl) (by kernel_rfl) ?_;simp only[go_sem,m0,lv,h3,h4];rw[up];refine W.env fun E3 hE3=>?_;have u0:E3 0=.ptr rd 0 0:=by rw[hE3];simp only[go_sem,m0]
 clear hE3;refine ab _ _ _ (by rfl) ?_;simp only[go_sem,u0,lv];exact av.mk (Nat.le_refl _) (hK _)
section
variable {cv:AVal} {f:Nat->Nat} {rid:Nat} {rb:Blk} {id g n a b:Nat} {l:List Nat} {H:AHeap}
set_option maxHeartbeats 8000000 in
theorem Pz (S:SH cv f rid rb id g n l H)(hab:a+8<=b)(hb:b<=n)(K:ARes->AHeap->Prop)(hK:∀ q,aZ a b l q->K (.ret (.tup [])) (H.upd id (nB g q))):
  af Try.prog G0 98 [.own id g 0 n 1,aa a,aa b,cv] H K:=by
 refine af.clo ⟨_,Try.func98,rfl,rfl⟩ fun hcl=>?_;have hn:=S.hn;have hil:=S.il;have hrl:=S.rl;have w0:IntKind.i64.wrap ((b:Int) - (a:Int))=((b - a:Nat):Int):=by rw[IntWalk.i64_in _ (by omega)];omega
 obtain⟨L,hL⟩:∃ L,L=b - a:=⟨_,rfl⟩
 rw[<- hL]at w0;have g8:(L:Int) >= 8:=by omega
 have w1:IntKind.u64.wrap (L:Int)=(L:Int):=IntWalk.u64_in _ (by omega);have q1:((L:Int)).tdiv 4=((L / 4:Nat):Int):=by rw[Int.tdiv_eq_ediv_of_nonneg (by omega)];push_cast;rfl
 have q2:IntKind.i64.wrap ((L / 4:Nat):Int)=((L / 4:Nat):Int):=IntWalk.i64_in _ (by omega);have q3:IntKind.i64.wrap (((L / 4:Nat):Int)*2)=((L / 4*2:Nat):Int):=by rw[IntWalk.i64_in _ (by omega)];omega
 have q4:IntKind.i64.wrap ((a:Int)+((L / 4*2:Nat):Int))=((a+L / 4*2:Nat):Int):=by rw[IntWalk.i64_in _ (by omega)];omega
 have q5:IntKind.i64.wrap (((a+L / 4*2:Nat):Int) - 1)=((a+L / 4*2 - 1:Nat):Int):=by rw[IntWalk.i64_in _ (by omega)];omega
 have q6:IntKind.i64.wrap (((a+L / 4*2:Nat):Int)+1)=((a+L / 4*2+1:Nat):Int):=by rw[IntWalk.i64_in _ (by omega)];omega
 refine af.cS (n:=67) (rs:=[]) Try.func98 rfl rfl rfl (by decide) (by simp) ?_;refine W.seq (ab _ _ _ (by rfl) ?_);simp only[go_sem,w0];refine W.seq (ab _ _ _ (by rfl) ?_);simp only[go_sem,g8];refine ab _ _ _ (by rfl) ?_;simp only[go_sem,w1];obtain⟨H1,hH1⟩:∃ H1,H1=ext H [.arr 0 167 [.lit (.int .u64 (L:Int))]]:=⟨_,rfl⟩
 have n1:H1.next=H.next+1:=by rw[hH1];rfl
 have o1:Over H H1:=by rw[hH1];exact .ext _ _
 have gr:H1.get H.next=some (.arr 0 167 [.lit (.int .u64 (L:Int))]):=by rw[hH1];exact cA
 refine aB.clo (Px (n:=L) (by omega) (by omega) _ _ fun M hM1 hM2=>⟨trivial,?_⟩);simp only[go_sem,q1,q2,q3,q4,q5];rw[<- hH1];refine W.env fun E hE=>?_;have e0:E 0=.own id g 0 n 1:=by rw[hE];simp only[go_sem]
 have e1:E 1=aa a:=by rw[hE];simp only[go_sem]
 have e8:E 8=aa L:=by rw[hE];simp only[go_sem]
 have e9:E 9=.ptr H.next 0 0:=by rw[hE];simp only[go_sem]
 have e10:E 10=.lit (.int .u64 (M:Int)):=by rw[hE];simp only[go_sem]
 have e11:E 11=aa ((a+L / 4*2 - 1:Nat):Int):=by rw[hE];simp only[go_sem]
 clear hE;have S1:=S.over o1;refine W.aG 147573952589407983616 (by kernel_rfl) (fun ρ Hx=>∃ (i:Nat) (q:List Nat) (c:Int),ρ 11=aa i/\a<=i/\i<=a+L / 4*2+2/\aZ a b l q/\Hx.next=H1.next/\(∀ j,j<H.next->j≠id->Hx.get j=H.get j)/\Hx.get id=some (nB g q)/\Hx.get H.next=some (.arr 0 167 [.lit (.int .u64 c)])) (fun ρ Hx=>a+L / 4*2+2 - (iv (ρ 11)).toNat) ?_ ?_
 ·exact⟨_,l,_,e11,by omega,by omega,.refl _ _ _,rfl,fun j h _=>o1.old j h,S1.hg,gr⟩
 rintro ρ Hx ⟨i,q,c,h11,hi1,hi2,hp,hnx,hold,hgd,hgr⟩;refine W.env fun F hF=>?_;have d0:F 0=.own id g 0 n 1:=by rw[hF];simp only[go_sem,e0]
 have d1:F 1=aa a:=by rw[hF];simp only[go_sem,e1]
 have d8:F 8=aa L:=by rw[hF];simp only[go_sem,e8]
 have d9:F 9=.ptr H.next 0 0:=by rw[hF];simp only[go_sem,e9]
 have d10:F 10=.lit (.int .u64 (M:Int)):=by rw[hF];simp only[go_sem,e10]
 have d11:F 11=aa i:=by rw[hF];simp only[go_sem,h11]
 clear hF;have ov:Over (H.upd id (nB g q)) Hx:=⟨by rw[az,hnx];omega,fun j hj=>by
  rw[az]at hj;rw[ag];by_cases h:j=id
  ·rw[if_pos h,h,hgd]
  ·rw[if_neg h];exact hold j hj h⟩
 by_cases hle:(i:Int)<=((a+L / 4*2+1:Nat):Int)
 rotate_left
 ·refine ab _ _ _ (by rfl) ?_;simp only[go_sem,d1,d8,d11,q1,q2,q3,q4,q6,hle];exact⟨.tup [],H.upd id (nB g q),.freeze aP (AZ (hcl.Pv hil g _ _) ov) (.tup rfl fun i h=>absurd h (Nat.not_lt_zero _)),Nat.le_refl _,hK q hp⟩
 have wi:=IntWalk.i64_in ((i:Int)+1) (by omega);have wm:IntKind.u64.wrap ((M:Int) - 1)=((M - 1:Nat):Int):=by rw[IntWalk.u64_in _ (by omega)];omega
 refine W.seq (ab _ _ _ (by rfl) ?_);simp only[go_sem,d1,d8,d11,q1,q2,q3,q4,q6,hle];refine W.seq (W.block ?_);refine W.seq (ab _ _ _ (by rfl) ?_);simp only[go_sem,d9];refine aB.clo (Py Hx hgr _ fun c'=>⟨trivial,?_⟩);obtain⟨y,hy⟩:∃ y,y=(BitVec.ofInt (IntKind.bits .u64) c' &&& BitVec.ofInt (IntKind.bits .u64) ((M - 1:Nat):Int)).toNat:=⟨_,rfl⟩
 have hy1:y<=M - 1:=by
  rw[hy,BitVec.toNat_and];refine Nat.le_trans Nat.and_le_right ?_;show (BitVec.ofInt 64 _).toNat<=_;rw[BitVec.ofInt_natCast,BitVec.toNat_ofNat];exact Nat.mod_le _ _
 have ha:∀ t o1 o2,aX Try.prog .and t o1 o2 (.lit (.int .u64 c')) (.lit (.int .u64 ((M - 1:Nat):Int)))=some (.lit (.int .u64 (y:Int))):=fun t o1 o2=>by
  rw[vb,<- hy,IntWalk.u64_in _ (by omega)]
 have wy:=IntWalk.i64_in (y:Int) (by omega);simp only[go_sem,d10,wm,ha,wy];obtain⟨Hy,hHy⟩:∃ Hy,Hy=Hx.upd H.next (.arr 0 167 [.lit (.int .u64 c')]):=⟨_,rfl⟩
 have yn:Hy.next=H1.next:=by rw[hHy,az,hnx]
 have yold:∀ j,j<H.next->j≠id->Hy.get j=H.get j:=fun j h h2=>by rw[hHy,ag,if_neg (by omega)];exact hold j h h2
 have yd:Hy.get id=some (nB g q):=by rw[hHy,ag,if_neg (by omega)];exact hgd
 have yr:Hy.get H.next=some (.arr 0 167 [.lit (.int .u64 c')]):=by rw[hHy,ag,if_pos rfl]
 rw[<- hHy];clear hHy;refine W.de (fun s'=>s'.H=Hy/\s'.ρ 0=.own id g 0 n 1/\s'.ρ 1=aa a/\s'.ρ 11=aa i/\∃ z:Nat,s'.ρ 12=aa z/\z<L) ?_ ?_
 ·by_cases hyL:(y:Int) >= L
  ·have wz:IntKind.i64.wrap ((y:Int) - (L:Int))=((y - L:Nat):Int):=(by rw[IntWalk.i64_in _ (by omega)];omega);refine ab _ _ _ (by rfl) ?_;simp only[go_sem,d0,d1,d8,d11,hyL,wz];exact⟨y - L,rfl,by omega⟩
  ·refine ab _ _ _ (by rfl) ?_;simp only[go_sem,d0,d1,d8,d11,hyL];exact⟨y,rfl,by omega⟩
 rintro⟨ρ3,Hs⟩ ⟨hHs,v0,v1,v11,z,v12,hz⟩;simp only at hHs v0 v1 v11 v12;rw[hHs];clear hHs Hs;have pl:=hp.len;rw[S.hl]at pl;have T:SH cv f rid rb id g n q Hy:=⟨pl,hn,yd,by rw[yold rid hrl S.ne];exact S.hr,S.ne,by omega,by omega,fun x y hx hy=>S.cmp x y (hp.1.mem_iff.1 hx) (hp.1.mem_iff.1 hy)⟩
 have waz:IntKind.i64.wrap ((a:Int)+(z:Int))=((a+z:Nat):Int):=by rw[IntWalk.i64_in _ (by omega)];omega
 have i1:i<n:=by omega
 have z1:a+z<n:=by omega
 have bi:(i:Int)<n:=by omega
 have bz:((a+z:Nat):Int)<n:=by omega
 refine W.draw 18 [0,0,0,0,0,24,0,0,0,384,960,1984,0,0,12288,28672,65475,131011] Try.mixed (by kernel_rfl) (by kernel_rfl) ?_;simp only[go_sem,v0,v1,v11,v12,T.live,T.len,waz,T.cell i1,T.cell z1,bi,bz,T.s1 i1,T.s2 (i:=i) z1,T.iD,T.iE];refine⟨by omega,by omega,?_⟩
 try rw[T.u2]
 refine ab _ _ _ (by rfl) ?_;simp only[go_sem,v11,wi];refine⟨by simp only[az];omega,⟨i+1,cf q i (a+z),c',rfl,by omega,by omega,hp.trans (.swap (by omega) (by omega) (by omega) (by omega) (by omega)),by simp only[az];omega,fun j h h2=>?_,?_,?_⟩,by rw[h11];simp only[aa,aK];omega⟩
 ·rw[ag,if_neg h2];exact yold j h h2
 ·rw[ag,if_pos rfl]
 ·rw[ag,if_neg (by omega)];exact yr
end
end Go.Proofs
namespace Go.Proofs
open Go.Hx
section
variable {cv:AVal} {f:Nat->Nat} {rid:Nat} {rb:Blk} {id g n a b:Nat} {l:List Nat} {H:AHeap}
def sB (s:Int):Blk:=.arr 0 3 [aa s]
theorem yA {si:Nat}{s:Int}(S:SH cv f rid rb id g n l H)(hs:H.get si=some (sB s))(ha:a<n)(hb:b<n)(K:ARes->AHeap->Prop)(hK:∀ (x y:Nat) (t:Int),(x=a/\y=b\/x=b/\y=a)->K (.ret (.tup [aa x,aa y])) (H.upd si (sB t))):
  af Try.prog G0 113 [.own id g 0 n 1,aa a,aa b,.ptr si 0 0,cv] H K:=by
 have hn:=S.hn;have ba:(a:Int)<n:=by omega
 have bb:(b:Int)<n:=by omega
 have ls:H.live si 0=some (3,[.lit (.int .i64 s)]):=ah hs;refine af.cS (n:=32) (rs:=[.tmp 10,.tmp 11]) Try.func113 rfl rfl rfl (by decide) (by simp) ?_;refine W.seq (ab _ _ _ (by rfl) ?_);simp only[go_sem];refine W.seq (W.de (fun s'=>s'.H=H/\s'.ρ 1=aa a/\s'.ρ 2=aa b/\s'.ρ 3=.ptr si 0 0/\s'.ρ 22=.lit (.bool (decide (f (l.getD b 0)<f (l.getD a 0))))) ?_ ?_)
 ·refine W.draw 9 [0,0,0,6,14,0,0,96,224] Try.mixed (by kernel_rfl) (by kernel_rfl) ?_;simp only[go_sem,S.live,S.cell ha,S.cell hb,ba,bb];obtain⟨z,hz,hcc⟩:=S.ask hb ha;refine hcc _ ⟨trivial,?_⟩;by_cases hlt:f (l.getD b 0)<f (l.getD a 0)
  ·have hlt':=hz.2 hlt;simp only[go_sem,hlt',hlt]
  ·have hlt':¬ z<0:=fun h=>hlt (hz.1 h);simp only[go_sem,hlt',hlt]
 rintro⟨ρ3,Hs⟩ ⟨hHs,v1,v2,v3,vc⟩;simp only at hHs v1 v2 v3 vc;rw[hHs];clear hHs Hs;by_cases hlt:f (l.getD b 0)<f (l.getD a 0)
 ·rw[decide_eq_true hlt]at vc;refine W.cond (t:=true) vc ?_;refine ab _ _ _ (by rfl) ?_;simp only[go_sem,v1,v2,v3,ls];exact av.mk (by rw[az];exact Nat.le_refl _) (hK b a _ (.inr ⟨rfl,rfl⟩))
 ·rw[decide_eq_false hlt]at vc;refine W.cond (t:=false) vc ?_;refine ab _ _ _ (by rfl) ?_;simp only[go_sem];refine ab _ _ _ (by rfl) ?_;simp only[go_sem,v1,v2];have:=hK a b s (.inl ⟨rfl,rfl⟩);rw[Cx hs]at this;exact av.mk (Nat.le_refl _) this
theorem SH.sup (S:SH cv f rid rb id g n l H){si:Nat}(h1:si≠id)(h2:si≠rid)(b:Blk):SH cv f rid rb id g n l (H.upd si b) :=
 ⟨S.hl,S.hn,by rw[ag,if_neg (fun e=>h1 e.symm)];exact S.hg,by rw[ag,if_neg (fun e=>h2 e.symm)];exact S.hr,S.ne,S.il,S.rl,S.cmp⟩
theorem yB {si c:Nat}{s:Int}(S:SH cv f rid rb id g n l H)(h1:si≠id)(h2:si≠rid)(hs:H.get si=some (sB s))(ha:a<n)(hb:b<n)(hc:c<n)(K:ARes->AHeap->Prop)(hK:∀ (x:Nat) (t:Int),(x=a\/x=b\/x=c)->K (.ret (aa x)) (H.upd si (sB t))):
  af Try.prog G0 111 [.own id g 0 n 1,aa a,aa b,aa c,.ptr si 0 0,cv] H K:=by
 have gs:∀ (H:AHeap) (t:Int),(H.upd si (sB t)).get si=some (sB t):=fun H t=>by rw[ag,if_pos rfl]
 refine af.cS (n:=41) (rs:=[.tmp 12]) Try.func111 rfl rfl rfl (by decide) (by simp) ?_;refine W.seq (ab _ _ _ (by rfl) ?_);simp only[go_sem];refine W.seq (ab _ _ _ (by rfl) ?_);simp only[go_sem];refine aB.clo (yA S hs ha hb _ fun x y t1 hxy=>⟨trivial,?_⟩);have S1:=S.sup h1 h2 (sB t1);have xn:x<n:=by omega
 have yn:y<n:=by omega
 simp only[go_sem];refine W.seq (ab _ _ _ (by rfl) ?_);simp only[go_sem];refine aB.clo (yA S1 (gs H t1) yn hc _ fun x2 y2 t2 hxy2=>⟨trivial,?_⟩);have S2:=S1.sup h1 h2 (sB t2);have x2n:x2<n:=by omega
 simp only[go_sem];refine W.seq (ab _ _ _ (by rfl) ?_);simp only[go_sem];refine aB.clo (yA S2 (gs _ t2) xn x2n _ fun x3 y3 t3 hxy3=>⟨trivial,?_⟩);simp only[go_sem];refine ab _ _ _ (by rfl) ?_;simp only[go_sem];rw[lV,lV];exact av.mk (by rw[az];exact Nat.le_refl _) (hK y3 t3 (by omega))
theorem yC {si:Nat}{s:Int}(S:SH cv f rid rb id g n l H)(h1:si≠id)(h2:si≠rid)(hs:H.get si=some (sB s))(h0:1<=a)(ha:a+1<n)(K:ARes->AHeap->Prop)(hK:∀ (x:Nat) (t:Int),(x=a - 1\/x=a\/x=a+1)->K (.ret (aa x)) (H.upd si (sB t))):
  af Try.prog G0 110 [.own id g 0 n 1,aa a,.ptr si 0 0,cv] H K:=by
 have hn:=S.hn;have w1:IntKind.i64.wrap ((a:Int) - 1)=((a - 1:Nat):Int):=by rw[IntWalk.i64_in _ (by omega)];omega
 have w2:IntKind.i64.wrap ((a:Int)+1)=((a+1:Nat):Int):=by rw[IntWalk.i64_in _ (by omega)];omega
 refine af.cS (n:=18) (rs:=[.tmp 8]) Try.func110 rfl rfl rfl (by decide) (by simp) ?_;refine W.seq (ab _ _ _ (by rfl) ?_);simp only[go_sem];refine ab _ _ _ (by rfl) ?_;simp only[go_sem,w1,w2];refine aB.clo (yB S h1 h2 hs (by omega) (by omega) ha _ fun x t hx=>⟨trivial,?_⟩);simp only[go_sem];exact av.mk (by rw[az];exact Nat.le_refl _) (hK x t hx)
set_option maxHeartbeats 8000000 in
theorem choose_spec (S:SH cv f rid rb id g n l H)(hab:a+8<=b)(hb:b<=n)(K:ARes->AHeap->Prop)(hK:∀ (p:Nat) (h:Int),a<=p->p<b->K (.ret (.tup [aa p,aa h])) H):
  af Try.prog G0 99 [.own id g 0 n 1,aa a,aa b,cv] H K:=by
 refine af.clo ⟨_,Try.func99,rfl,rfl⟩ fun hcl=>?_;have hn:=S.hn;have hil:=S.il;have hrl:=S.rl;have w0:IntKind.i64.wrap ((b:Int) - (a:Int))=((b - a:Nat):Int):=by rw[IntWalk.i64_in _ (by omega)];omega
 obtain⟨L,hL⟩:∃ L,L=b - a:=⟨_,rfl⟩
 rw[<- hL]at w0;have g8:(L:Int) >= 8:=by omega
 have q1:((L:Int)).tdiv 4=((L / 4:Nat):Int):=by rw[Int.tdiv_eq_ediv_of_nonneg (by omega)];push_cast;rfl
 have q2:IntKind.i64.wrap ((L / 4:Nat):Int)=((L / 4:Nat):Int):=IntWalk.i64_in _ (by omega);have q31:IntKind.i64.wrap (((L / 4:Nat):Int)*1)=((L / 4:Nat):Int):=by rw[IntWalk.i64_in _ (by omega)];omega
 have q32:IntKind.i64.wrap (((L / 4:Nat):Int)*2)=((L / 4*2:Nat):Int):=by rw[IntWalk.i64_in _ (by omega)];omega
 have q33:IntKind.i64.wrap (((L / 4:Nat):Int)*3)=((L / 4*3:Nat):Int):=by rw[IntWalk.i64_in _ (by omega)];omega
 have q41:IntKind.i64.wrap ((a:Int)+((L / 4:Nat):Int))=((a+L / 4:Nat):Int):=by rw[IntWalk.i64_in _ (by omega)];omega
 have q42:IntKind.i64.wrap ((a:Int)+((L / 4*2:Nat):Int))=((a+L / 4*2:Nat):Int):=by rw[IntWalk.i64_in _ (by omega)];omega
 have q43:IntKind.i64.wrap ((a:Int)+((L / 4*3:Nat):Int))=((a+L / 4*3:Nat):Int):=by rw[IntWalk.i64_in _ (by omega)];omega
 refine af.cS (n:=63) (rs:=[.tmp 8,.tmp 9]) Try.func99 rfl rfl rfl (by decide) (by simp) ?_;refine W.seq (ab _ _ _ (by rfl) ?_);simp only[go_sem];refine W.seq (ab _ _ _ (by rfl) ?_);simp only[go_sem,w0];refine W.seq (ab _ _ _ (by rfl) ?_);simp only[go_sem];obtain⟨H1,hH1⟩:∃ H1,H1=ext H [.arr 0 3 [.lit (.int .i64 0)]]:=⟨_,rfl⟩
 have o1:Over H H1:=by rw[hH1];exact .ext _ _
 have gs0:H1.get H.next=some (sB 0):=by rw[hH1];exact cA
 rw[<- hH1];clear hH1;refine W.seq (ab _ _ _ (by rfl) ?_);simp only[go_sem,q1,q2,q31,q41];refine W.seq (ab _ _ _ (by rfl) ?_);simp only[go_sem,q1,q2,q32,q42];refine W.seq (ab _ _ _ (by rfl) ?_);simp only[go_sem,q1,q2,q33,q43];refine W.env fun E hE=>?_;have e0:E 0=.own id g 0 n 1:=by rw[hE];simp only[go_sem]
 have e3:E 3=cv:=by rw[hE];simp only[go_sem]
 have e10:E 10=aa L:=by rw[hE];simp only[go_sem]
 have e11:E 11=.ptr H.next 0 0:=by rw[hE];simp only[go_sem]
 have e12:E 12=aa ((a+L / 4:Nat):Int):=by rw[hE];simp only[go_sem]
 have e13:E 13=aa ((a+L / 4*2:Nat):Int):=by rw[hE];simp only[go_sem]
 have e14:E 14=aa ((a+L / 4*3:Nat):Int):=by rw[hE];simp only[go_sem]
 clear hE;have S1:=S.over o1;have h1:H.next≠id:=by omega
 have h2:H.next≠rid:=by omega
 have gs:∀ (H':AHeap) (t:Int),(H'.upd H.next (sB t)).get H.next=some (sB t):=fun H' t=>by rw[ag,if_pos rfl]
 refine W.de (fun s'=>s'.ρ 11=.ptr H.next 0 0/\∃ (t:Int) (p:Nat),s'.H=H1.upd H.next (sB t)/\s'.ρ 13=aa p/\a<=p/\p<b) ?_ ?_
 ·refine ab _ _ _ (by rfl) ?_;by_cases h50:(50:Int)<=L
  ·simp only[go_sem,e0,e3,e10,e11,e12,g8,h50];refine aB.clo (yC S1 h1 h2 gs0 (by omega) (by omega) _ fun x t hx=>⟨trivial,?_⟩);simp only[go_sem,e0,e3,e11,e13];refine aB.clo (yC (S1.sup h1 h2 (sB t)) h1 h2 (gs _ t) (by omega) (by omega) _ fun x2 t2 hx2=>⟨trivial,?_⟩);rw[lV];simp only[go_sem,e0,e3,e11,e14];refine aB.clo (yC (S1.sup h1 h2 (sB t2)) h1 h2 (gs _ t2) (by omega) (by omega) _ fun x3 t3 hx3=>⟨trivial,?_⟩);rw[lV];simp only[go_sem,e0,e3,e11];refine aB.clo (yB (S1.sup h1 h2 (sB t3)) h1 h2 (gs _ t3) (by omega) (by omega) (by omega) _ fun x4 t4 hx4=>⟨trivial,?_⟩);rw[lV];simp only[go_sem,e11];exact⟨t4,x4,rfl,rfl,by omega,by omega⟩
  ·simp only[go_sem,e0,e3,e10,e11,e12,e13,e14,g8,h50];refine aB.clo (yB S1 h1 h2 gs0 (by omega) (by omega) (by omega) _ fun x4 t4 hx4=>⟨trivial,?_⟩);simp only[go_sem,e11];exact⟨t4,x4,rfl,rfl,by omega,by omega⟩
 rintro⟨ρ3,Hs⟩ ⟨v11,t,p,hHs,v13,hp1,hp2⟩;simp only at hHs v11 v13;have ls:Hs.live H.next 0=some (3,[.lit (.int .i64 t)]):=ah (by rw[hHs];exact gs _ t);have ov:Over H Hs:=by rw[hHs];exact⟨by rw[az];exact o1.next,fun j hj=>by rw[ag,if_neg (by omega)];exact o1.old j hj⟩
 have fin:∀ h:Int,av Try.prog G0 H K (.tup [aa p,aa h]) Hs:=fun h=>av.bA aP hcl ov (.tup rfl fun i hi _=>match i,hi with
  | 0,_=>.lit _
  | 1,_=>.lit _) (hK p h hp1 hp2)
 refine ab _ _ _ (by rfl) ?_;by_cases t0:t=0
 ·simp only[go_sem,v11,v13,ls,t0];exact fin 1
 by_cases t12:t=12
 ·simp only[go_sem,v11,v13,ls,t12];exact fin 2
 simp only[go_sem,v11,v13,ls,t0,t12];exact fin 0
end
end Go.Proofs
namespace Go.Hx
theorem W.C0 {P:Program}{G:Nat->Option (List AVal)}{n:Nat}{rd:Option Nat}{Q:AX->St->Prop}{s:St}{x y:Code}(Φ:St->Prop)(h:W P G n rd x (ie Φ Q) s)(h2:∀ s',Φ s'->W P G n rd y Q s'):W P G n rd (.seq x y) Q s :=
 W.seq (h.mono fun ax s' hx=>by
  cases ax with
  | normal=>exact h2 s' hx
  | _=>exact hx)
end Go.Hx
namespace Go.Proofs
open Go.Hx
theorem Bl.sub {f:Nat->Nat}{l:List Nat}{a b c:Nat}(h:Bl f l a b)(hc:c<=b):Bl f l a c:=h.imp id fun h i h1 h2=>h i h1 (by omega)
section
variable {cv:AVal} {f:Nat->Nat} {rid:Nat} {rb:Blk} {id g n:Nat}
set_option maxHeartbeats 32000000 in
theorem PA:∀ (m a b:Nat) (l:List Nat) (H:AHeap) (L:Int),b - a<m->SH cv f rid rb id g n l H->kh f l->a<=b->b<=n->(0<=L/\L<256)->Bl f l a b->∀ (K:ARes->AHeap->Prop),(∀ q,aZ a b l q->df f q a b->K (.ret (.tup [])) (H.upd id (nB g q))) ->
  af Try.prog G0 92 [.own id g 0 n 1,aa a,aa b,aa L,cv] H K:=by
 intro m
 induction m with
 | zero =>
  intro a b l H L hm;omega
 | succ m ih =>
  intro a b l H L hm S hD hab hb hL hB K hK;have hn:=S.hn;refine af.cS (n:=148) (rs:=[]) Try.func92 rfl rfl rfl (by decide) (by simp) ?_;refine W.seq (ab _ _ _ (by rfl) ?_);simp only[go_sem];refine W.seq (ab _ _ _ (by rfl) ?_);simp only[go_sem];refine W.env fun E hE=>?_;have e0:E 0=.own id g 0 n 1:=by rw[hE];simp only[go_sem]
  have e1:E 1=aa a:=by rw[hE];simp only[go_sem]
  have e2:E 2=aa b:=by rw[hE];simp only[go_sem]
  have e3:E 3=aa L:=by rw[hE];simp only[go_sem]
  have e4:E 4=cv:=by rw[hE];simp only[go_sem]
  have e10:E 10=.lit (.bool true):=by rw[hE];simp only[go_sem]
  have e11:E 11=.lit (.bool true):=by rw[hE];simp only[go_sem]
  clear hE;refine W.block ?_;refine W.aG 356811923176489970264571492362373784095685646 (by kernel_rfl) (fun ρ Hx=>∃ (c d:Nat) (M:Int) (wb wp:Bool) (q:List Nat),ρ 1=aa c/\ρ 2=aa d/\ρ 3=aa M/\ρ 10=.lit (.bool wb)/\ρ 11=.lit (.bool wp)/\a<=c/\c<=d/\d<=b/\(0<=M/\M<256)/\aZ a b l q/\Out f q a b c d/\Hx=H.upd id (nB g q)) (fun ρ Hx=>(iv (ρ 2) - iv (ρ 1)).toNat) ?_ ?_
  ·exact⟨a,b,L,true,true,l,e1,e2,e3,e10,e11,Nat.le_refl _,hab,Nat.le_refl _,hL,.refl _ _ _,.start,S.self.symm⟩
  rintro ρ Hx ⟨c,d,M,wb,wp,q,h1,h2,h3,h10,h11,hac,hcd,hdb,hM,hp,hO,hHx⟩;refine W.env fun F hF=>?_;have d0:F 0=.own id g 0 n 1:=by rw[hF];simp only[go_sem,e0]
  have d1:F 1=aa c:=by rw[hF];simp only[go_sem,h1]
  have d2:F 2=aa d:=by rw[hF];simp only[go_sem,h2]
  have d3:F 3=aa M:=by rw[hF];simp only[go_sem,h3]
  have d4:F 4=cv:=by rw[hF];simp only[go_sem,e4]
  have d10:F 10=.lit (.bool wb):=by rw[hF];simp only[go_sem,h10]
  have d11:F 11=.lit (.bool wp):=by rw[hF];simp only[go_sem,h11]
  clear hF;have pl:=hp.len;rw[S.hl]at pl;have T:=S.upd hp.1;rw[<- hHx]at T;have hDq:=hD.perm hp.1;have hBq:=(hO.bl (hB.perm hp (by rw[S.hl];exact hb)) hDq hac hdb (by rw[pl];exact hb))
  have back:∀ q',aZ c d q q'->df f q' c d->av Try.prog G0 H K (.tup []) (Hx.upd id (nB g q')):=fun q' h1 h2=>by
   rw[hHx,dX];exact av.mk (Nat.le_refl _) (hK q' (hp.trans (h1.mono hac hdb)) ((hO.perm h1 hac hdb (by rw[pl];exact hb)).done h2))
  have wl:IntKind.i64.wrap ((d:Int) - (c:Int))=((d - c:Nat):Int):=by rw[IntWalk.i64_in _ (by omega)];omega
  obtain⟨N,hN⟩:∃ N,N=d - c:=⟨_,rfl⟩
  rw[<- hN]at wl;refine W.block ?_;refine W.seq (ab _ _ _ (by rfl) ?_);simp only[go_sem,d1,d2,wl];by_cases h12:(N:Int)<=12
  ·refine W.seq (ab _ _ _ (by rfl) ?_);simp only[go_sem,d0,d1,d2,d4,h12];refine aB.clo (Pq T hcd (by omega) _ fun q' hq' hs'=>⟨trivial,?_⟩);simp only[go_sem];exact back q' hq' hs'
  refine W.seq (ab _ _ _ (by rfl) ?_);simp only[go_sem,h12];by_cases hM0:M=0
  ·refine W.seq (ab _ _ _ (by rfl) ?_);simp only[go_sem,d0,d1,d2,d3,d4,hM0];refine aB.clo (Pt T (by omega) (by omega) _ fun q' hq' hs'=>⟨trivial,?_⟩);simp only[go_sem];exact back q' hq' hs'
  refine W.seq (ab _ _ _ (by rfl) ?_);simp only[go_sem,d3,hM0];refine W.env fun J hJ=>?_;have j0:J 0=.own id g 0 n 1:=by rw[hJ];simp only[go_sem,d0]
  have j1:J 1=aa c:=by rw[hJ];simp only[go_sem,d1]
  have j2:J 2=aa d:=by rw[hJ];simp only[go_sem,d2]
  have j3:J 3=aa M:=by rw[hJ];simp only[go_sem,d3]
  have j4:J 4=cv:=by rw[hJ];simp only[go_sem,d4]
  have j10:J 10=.lit (.bool wb):=by rw[hJ];simp only[go_sem,d10]
  have j11:J 11=.lit (.bool wp):=by rw[hJ];simp only[go_sem,d11]
  have j12:J 12=aa N:=by rw[hJ];simp only[go_sem]
  clear hJ;refine W.de (fun s'=>s'.ρ 0=.own id g 0 n 1/\s'.ρ 1=aa c/\s'.ρ 2=aa d/\s'.ρ 4=cv/\s'.ρ 10=.lit (.bool wb)/\s'.ρ 11=.lit (.bool wp)/\s'.ρ 12=aa N/\∃ (M1:Int) (q1:List Nat),s'.ρ 3=aa M1/\(0<=M1/\M1<256)/\aZ c d q q1/\s'.H=Hx.upd id (nB g q1)) ?_ ?_
  ·cases wb with
   | true =>
    refine ab _ _ _ (by rfl) ?_;simp only[go_sem,j0,j1,j2,j3,j4,j10,j11,j12];exact⟨M,q,rfl,hM,.refl _ _ _,T.self.symm⟩
   | false =>
    have wM:=IntWalk.i64_in (M - 1) (by omega);refine ab _ _ _ (by rfl) ?_;simp only[go_sem,j0,j1,j2,j4,j10];refine aB.clo (Pz T (by omega) (by omega) _ fun q' hq'=>⟨trivial,?_⟩);simp only[go_sem,j0,j1,j2,j3,j4,j10,j11,j12,wM];exact⟨M - 1,q',rfl,by omega,hq',rfl⟩
  rintro⟨ρa,Ha⟩ ⟨a0,a1,a2,a4,a10,a11,a12,M1,q1,a3,hM1,hp1,hHa⟩;simp only at a0 a1 a2 a4 a10 a11 a12 a3 hHa;have Ta:=T.upd hp1.1;rw[<- hHa]at Ta;refine W.seq (ab _ _ _ (by rfl) ?_);simp only[go_sem,a0,a1,a2,a4];refine aB.clo (choose_spec Ta (by omega) (by omega) _ fun p0 h0 hp01 hp02=>⟨trivial,?_⟩);simp only[go_sem];refine W.env fun R hR=>?_;have r0:R 0=.own id g 0 n 1:=by rw[hR];simp only[go_sem,a0]
  have r1:R 1=aa c:=by rw[hR];simp only[go_sem,a1]
  have r2:R 2=aa d:=by rw[hR];simp only[go_sem,a2]
  have r3:R 3=aa M1:=by rw[hR];simp only[go_sem,a3]
  have r4:R 4=cv:=by rw[hR];simp only[go_sem,a4]
  have r10:R 10=.lit (.bool wb):=by rw[hR];simp only[go_sem,a10]
  have r11:R 11=.lit (.bool wp):=by rw[hR];simp only[go_sem,a11]
  have r12:R 12=aa N:=by rw[hR];simp only[go_sem,a12]
  have r13:R 13=aa p0:=by rw[hR];simp only[go_sem]
  have r14:R 14=aa h0:=by rw[hR];simp only[go_sem]
  clear hR;refine W.de (fun s'=>s'.ρ 0=.own id g 0 n 1/\s'.ρ 1=aa c/\s'.ρ 2=aa d/\s'.ρ 3=aa M1/\s'.ρ 4=cv/\s'.ρ 10=.lit (.bool wb)/\s'.ρ 11=.lit (.bool wp)/\s'.ρ 12=aa N/\∃ (p:Nat) (h:Int) (q2:List Nat),s'.ρ 13=aa p/\s'.ρ 14=aa h/\c<=p/\p<d/\aZ c d q q2/\s'.H=Hx.upd id (nB g q2)) ?_ ?_
  ·by_cases hh:h0=2
   ·have w1:IntKind.i64.wrap ((d:Int) - 1)=((d - 1:Nat):Int):=(by rw[IntWalk.i64_in _ (by omega)];omega);have w2:IntKind.i64.wrap ((p0:Int) - (c:Int))=((p0 - c:Nat):Int):=(by rw[IntWalk.i64_in _ (by omega)];omega);have w3:IntKind.i64.wrap (((d - 1:Nat):Int) - ((p0 - c:Nat):Int))=((d - 1 - (p0 - c):Nat):Int):=(by rw[IntWalk.i64_in _ (by omega)];omega);refine ab _ _ _ (by rfl) ?_;simp only[go_sem,r0,r1,r2,r4,r14,hh];refine aB.clo (Pp Ta (by omega) (by omega) _ fun q' hq'=>⟨trivial,?_⟩);simp only[go_sem,r0,r1,r2,r3,r4,r10,r11,r12,r13,w1,w2,w3];exact⟨d - 1 - (p0 - c),1,q',rfl,rfl,by omega,by omega,hp1.trans hq',by rw[hHa,dX]⟩
   ·refine ab _ _ _ (by rfl) ?_;simp only[go_sem,r0,r1,r2,r3,r4,r10,r11,r12,r13,r14,hh];exact⟨p0,h0,q1,rfl,rfl,hp01,hp02,hp1,hHa⟩
  rintro⟨ρb,Hb⟩ ⟨b0,b1,b2,b3,b4,b10,b11,b12,p,h,q2,b13,b14,hcp,hpd,hp2,hHb⟩;simp only at b0 b1 b2 b3 b4 b10 b11 b12 b13 b14 hHb;have Tb:=T.upd hp2.1;rw[<- hHb]at Tb;have pq:=hp2.len;rw[pl]at pq;have bl2:=hBq.perm hp2 (by rw[pl];omega);refine W.C0 (fun s'=>s'.ρ 0=.own id g 0 n 1/\s'.ρ 1=aa c/\s'.ρ 2=aa d/\s'.ρ 3=aa M1/\s'.ρ 4=cv/\s'.ρ 12=aa N/\s'.ρ 13=aa p/\∃ (q3:List Nat),aZ c d q q3/\s'.H=Hx.upd id (nB g q3)) ?_ ?_
  ·refine W.de (fun s'=>s'.ρ 0=.own id g 0 n 1/\s'.ρ 1=aa c/\s'.ρ 2=aa d/\s'.ρ 3=aa M1/\s'.ρ 4=cv/\s'.ρ 12=aa N/\s'.ρ 13=aa p/\s'.ρ 75=.lit (.bool (wb && wp && decide (h=1)))/\s'.H=Hb) ?_ ?_
   ·refine ab _ _ _ (by rfl) ?_;by_cases hh:h=1
    ·cases wb<;>cases wp<;>simp only[go_sem,b0,b1,b2,b3,b4,b10,b11,b12,b13,b14,hh]<;>rfl
    ·cases wb<;>cases wp<;>simp only[go_sem,b0,b1,b2,b3,b4,b10,b11,b12,b13,b14,hh]<;>rfl
   rintro⟨ρc,Hc⟩ ⟨c0,c1,c2,c3,c4,c12,c13,c75,hHc⟩;simp only at c0 c1 c2 c3 c4 c12 c13 c75 hHc;rw[hHc];clear hHc Hc;cases hfl:(wb && wp && decide (h=1)) with
   | false =>
    rw[hfl]at c75;refine W.cond (t:=false) c75 ?_;refine ab _ _ _ (by rfl) ?_;simp only[go_sem];exact⟨c0,c1,c2,c3,c4,c12,c13,q2,hp2,hHb⟩
   | true =>
    rw[hfl]at c75;refine W.cond (t:=true) c75 ?_;refine ab _ _ _ (by rfl) ?_;simp only[go_sem,c0,c1,c2,c4];refine aB.clo (Ps Tb (by omega) (by omega) bl2 _ fun q' fl hq' hs'=>⟨trivial,?_⟩);cases fl with
    | true =>
     simp only[go_sem];have:=back q' (hp2.trans hq') (hs' rfl);rw[hHb,dX];exact this
    | false =>
     simp only[go_sem];exact⟨c0,c1,c2,c3,c4,c12,c13,q',hp2.trans hq',by rw[hHb,dX]⟩
  clear b0 b1 b2 b3 b4 b10 b11 b12 b13 b14 Tb bl2 pq hp2 hHb;clear q2 Hb;rintro⟨ρd,Hd⟩ ⟨b0,b1,b2,b3,b4,b12,b13,q2,hp2,hHb⟩;simp only at b0 b1 b2 b3 b4 b12 b13 hHb;have Tb:=T.upd hp2.1;rw[<- hHb]at Tb;have pq:=hp2.len;rw[pl]at pq;have bl2:=hBq.perm hp2 (by rw[pl];omega);have hO2:=hO.perm hp2 hac hdb (by rw[pl];exact hb);have hDq2:=hDq.perm hp2.1;refine W.C0 (fun s'=>s'.ρ 0=.own id g 0 n 1/\s'.ρ 1=aa c/\s'.ρ 2=aa d/\s'.ρ 3=aa M1/\s'.ρ 4=cv/\s'.ρ 12=aa N/\s'.ρ 13=aa p/\s'.H=Hd) ?_ ?_
  ·refine W.de (fun s'=>s'.ρ 0=.own id g 0 n 1/\s'.ρ 1=aa c/\s'.ρ 2=aa d/\s'.ρ 3=aa M1/\s'.ρ 4=cv/\s'.ρ 12=aa N/\s'.ρ 13=aa p/\s'.H=Hd/\s'.ρ 97=.lit (.bool false)) ?_ ?_
   ·refine W.draw 13 [0,1,3,7,7,7,39,119,247,7,7,1543,3591] Try.mixed (by kernel_rfl) (by kernel_rfl) ?_;by_cases hc0:(c:Int) > 0
    ·have w1:IntKind.i64.wrap ((c:Int) - 1)=((c - 1:Nat):Int):=(by rw[IntWalk.i64_in _ (by omega)];omega);have c1n:c - 1<n:=(by omega);have pn:p<n:=(by omega);have x1:((c - 1:Nat):Int)<n:=(by omega);have x2:(p:Int)<n:=(by omega);simp only[go_sem,b0,b1,b4,b13,hc0,w1,Tb.live,Tb.cell c1n,Tb.cell pn,x1,x2];obtain⟨z,hz,hcc⟩:=Tb.ask c1n pn;refine hcc _ ⟨trivial,?_⟩;have hlt:f (q2.getD (c - 1) 0)<f (q2.getD p 0):=by
      rcases bl2 with h3|h3
      ·omega
      ·exact h3 p hcp hpd
     have hlt':=hz.2 hlt;simp only[go_sem,b0,b1,b2,b3,b4,b12,b13,hlt']
     try rfl
    ·simp only[go_sem,b0,b1,b2,b3,b4,b12,b13,hc0]
     try rfl
   rintro⟨ρc,Hc⟩ ⟨c0,c1,c2,c3,c4,c12,c13,hHc,c97⟩;simp only at c0 c1 c2 c3 c4 c12 c13 c97 hHc;refine W.cond (t:=false) c97 ?_;refine ab _ _ _ (by rfl) ?_;simp only[go_sem];exact⟨c0,c1,c2,c3,c4,c12,c13,hHc⟩
  rintro⟨ρc,Hc⟩ ⟨c0,c1,c2,c3,c4,c12,c13,hHc⟩;simp only at c0 c1 c2 c3 c4 c12 c13 hHc;rw[hHc];clear hHc Hc;refine W.seq (ab _ _ _ (by rfl) ?_);simp only[go_sem,c0,c1,c2,c4,c13];refine aB.clo (Pr Tb hcp hpd (by omega) _ fun q3 k al hp3 hpar hck hkd=>⟨trivial,?_⟩);have Tc:=Tb.upd hp3.1;have hp23:=hp2.trans hp3;have hO3:=hO2.perm hp3 hac hdb (by rw[pq];exact hb);have hDq3:=hDq2.perm hp3.1;have bl3:=bl2.perm hp3 (by rw[pq];omega);have pq3:=hp3.len;rw[pq]at pq3;have wk1:IntKind.i64.wrap ((k:Int) - (c:Int))=((k - c:Nat):Int):=by rw[IntWalk.i64_in _ (by omega)];omega
  have wk2:IntKind.i64.wrap ((d:Int) - (k:Int))=((d - k:Nat):Int):=by rw[IntWalk.i64_in _ (by omega)];omega
  have wk3:IntKind.i64.wrap ((k:Int)+1)=((k+1:Nat):Int):=by rw[IntWalk.i64_in _ (by omega)];omega
  have t8:((N:Int)).tdiv 8=((N / 8:Nat):Int):=by rw[Int.tdiv_eq_ediv_of_nonneg (by omega)];push_cast;rfl
  have t8w:IntKind.i64.wrap ((N / 8:Nat):Int)=((N / 8:Nat):Int):=IntWalk.i64_in _ (by omega);obtain⟨Hp,hHp⟩:∃ Hp,Hp=Hd.upd id (nB g q3):=⟨_,rfl⟩
  rw[<- hHp]at Tc ⊢;simp only[go_sem];refine W.seq (ab _ _ _ (by rfl) ?_);simp only[go_sem];refine W.seq (ab _ _ _ (by rfl) ?_);simp only[go_sem,c1,c2,wk1,wk2];refine W.seq (ab _ _ _ (by rfl) ?_);simp only[go_sem,c12,t8,t8w];by_cases hlr:((k - c:Nat):Int)<((d - k:Nat):Int)
  ·refine W.seq (ab _ _ _ (by rfl) ?_);simp only[go_sem,hlr];refine ab _ _ _ (by rfl) ?_;simp only[go_sem,c0,c1,c3,c4];refine aB.clo (ih c k q3 Hp M1 (by omega) Tc hDq3 hck (by omega) hM1 (bl3.sub (by omega)) _ fun q4 hq4 hs4=>⟨trivial,?_⟩);simp only[go_sem,c2,c3,wk3];refine⟨by rw[hHp,hHb,hHx];exact Nat.le_refl _,⟨k+1,d,M1,_,_,q4,rfl,rfl,rfl,rfl,rfl,by omega,by omega,hdb,hM1,hp.trans ((hp23.trans (hq4.mono (Nat.le_refl _) (by omega))).mono hac hdb),hO3.left hpar hck hkd hac hdb (by rw[pq3];exact hb) hq4 hs4,by rw[hHp,hHb,hHx,dX,dX,dX]⟩,by rw[h1,h2];simp only[aa,aK];omega⟩
  refine W.seq (ab _ _ _ (by rfl) ?_);simp only[go_sem,hlr];refine ab _ _ _ (by rfl) ?_;simp only[go_sem,c0,c2,c3,c4,wk3];refine aB.clo (ih (k+1) d q3 Hp M1 (by omega) Tc hDq3 (by omega) (by omega) hM1 (.inr fun i i1 i2=>?_) _ fun q4 hq4 hs4=>⟨trivial,?_⟩)
  ·have i3:=hpar.2 i (by omega) i2;have i4:=hDq3.ne (i:=k) (j:=i) (by omega) (by omega) (by omega);rw[Nat.add_sub_cancel];omega
  simp only[go_sem,c1,c2,c3];refine⟨by rw[hHp,hHb,hHx];exact Nat.le_refl _,⟨c,k,M1,_,_,q4,rfl,rfl,rfl,rfl,rfl,hac,hck,by omega,hM1,hp.trans ((hp23.trans (hq4.mono (by omega) (Nat.le_refl _))).mono hac hdb),hO3.right hpar hck hkd hac hdb (by rw[pq3];exact hb) hq4 hs4,by rw[hHp,hHb,hHx,dX,dX,dX]⟩,by rw[h1,h2];simp only[aa,aK];omega⟩
end
end Go.Proofs
set_option linter.unusedVariables false
namespace Go.Proofs
theorem DL {l:List Nat}{m i:Nat}(hi:l[m]?=some i)(a:Nat):a∈l.take (m+1)↔a∈l.take m\/a=i:=by
 rw[List.take_add_one,hi];simp
theorem QE {l:List Nat}(hnd:l.Nodup){m i:Nat}(hi:l[m]?=some i):i ∉ l.take m:=fun h=>by
 obtain⟨j,hj⟩:=List.mem_iff_getElem?.1 h;have hjm:j<m:=by
  have:=get_lt hj;rw[List.length_take]at this;omega
 rw[List.getElem?_take_of_lt hjm]at hj;have:=(List.getElem?_inj (get_lt hj) hnd).1 (hj.trans hi.symm);omega
theorem QG (least sp:Int)(c:List Int)(l:List Nat):cQ least sp c (fun a=>decide (a∈l.take 0))=(List.range c.length).map fun i=>least+partAt sp c i:=by
 unfold cQ;refine List.map_congr_left fun i _=>?_;simp
theorem QH {least sp:Int}{c:List Int}{l:List Nat}(hnd:l.Nodup){m i:Nat}(hi:l[m]?=some i)(hic:i<c.length):(cQ least sp c fun a=>decide (a∈l.take m))[i]?=some (least+partAt sp c i):=by
 rw[mq hic,decide_eq_false (QE hnd hi)];simp
theorem QI {least sp:Int}{c:List Int}{l:List Nat}(hnd:l.Nodup){m i:Nat}(hi:l[m]?=some i)(hic:i<c.length):(cQ least sp c fun a=>decide (a∈l.take m)).set i (least+partAt sp c i+1)=cQ least sp c fun a=>decide (a∈l.take (m+1)):=by
 apply List.ext_getElem?;intro a;rw[List.getElem?_set];by_cases h:i=a
 ·subst h;rw[if_pos rfl,if_pos (by rw[jf];exact hic),mq hic,decide_eq_true ((DL hi i).2 (.inr rfl))];simp
 ·rw[if_neg h];rcases Nat.lt_or_ge a c.length with ha|ha
  ·rw[mq ha,mq ha];congr 2;have:(a∈l.take (m+1))↔a∈l.take m:=(by rw[DL hi];exact⟨fun h'=>h'.elim id fun e=>absurd e.symm h,.inl⟩);simp only[this]
  ·rw[List.getElem?_eq_none (by rw[jf];exact ha),List.getElem?_eq_none (by rw[jf];exact ha)]
theorem QJ {sp:Int}{c:List Int}(h:0<c.sum){i:Nat}{x:Int}(hx:c[i]?=some x):partAt sp c i=sp*x / c.sum/\bH sp c i=sp*x % c.sum:=by
 unfold partAt bH dT cV;rw[if_pos h,if_pos h,List.getD_eq_getElem?_getD,hx];exact⟨rfl,rfl⟩
theorem QK {sp:Int}{c:List Int}(h:¬ 0<c.sum){i:Nat}(hi:i<c.length):partAt sp c i=sp / c.length/\bH sp c i=sp % c.length:=by
 unfold partAt bH dT cV;rw[if_neg h,if_neg h,List.getD_eq_getElem?_getD,List.getElem?_replicate,if_pos hi];simp
def fq (sp:Int)(c:List Int)(k:Nat):Int:=sp - ((List.range k).map (partAt sp c)).sum
theorem yS (sp:Int)(c:List Int)(k:Nat):fq sp c (k+1)=fq sp c k - partAt sp c k:=by
 unfold fq;rw[List.range_succ,List.map_append,List.sum_append];simp;omega
theorem uW {sp:Int}{c:List Int}(hc:∀ x∈c,0<=x)(h0:0<c.length)(hs:0<=sp)(i:Nat):partAt sp c i<=sp:=by
 have hT:=nE h0;refine Int.ediv_le_of_le_mul hT ?_;have:(dT c).getD i 0<=cV c:=by
  rw[List.getD_eq_getElem?_getD];cases e:(dT c)[i]? with
  | none=>exact Int.le_of_lt hT
  | some a =>
   have:=DJ (DE hc) a (List.mem_of_getElem? e);rw[DD]at this;exact this
 exact Int.mul_le_mul_of_nonneg_left this hs
theorem DM {sp:Int}{c:List Int}(hc:∀ x∈c,0<=x)(h0:0<c.length)(hs:0<=sp)(k:Nat):fq sp c k<=sp/\sp - sp*k<=fq sp c k:=by
 induction k with
 | zero=>simp [fq]
 | succ k ih =>
  rw[yS];have h1:=rL hc h0 hs k;have h2:=uW hc h0 hs k;have h3:sp*((k+1:Nat):Int)=sp*k+sp:=by push_cast;rw[Int.mul_add,Int.mul_one]
  omega
end Go.Proofs
namespace Go.Proofs
open Go.Hx
theorem PB {cv:AVal}{f:Nat->Nat}{rid:Nat}{rb:Blk}{id g n:Nat}{l:List Nat}{H:AHeap}(S:SH cv f rid rb id g n l H)(hD:kh f l)(h1:1<=n)(K:ARes->AHeap->Prop)(hK:∀ q,q.Perm l->DK f q q.length->K (.ret (.tup [])) (H.upd id (nB g q))):
  af Try.prog G0 75 [.own id g 0 n 1,cv] H K:=by
 have hn:=S.hn;have wn:IntKind.u64.wrap ((n:Nat):Int)=(n:Int):=IntWalk.u64_in _ (by omega);have w2:=IntWalk.i64_in (n:Int) (by omega);refine af.cS (n:=14) (rs:=[]) Try.func75 rfl rfl rfl (by decide) (by simp) ?_;refine W.seq (ab _ _ _ (by rfl) ?_);simp only[go_sem,S.live];refine ab _ _ _ (by rfl) ?_;simp only[go_sem,wn];refine aB.clo (CZ h1 hn H _ fun L hL _=>⟨trivial,?_⟩);simp only[go_sem];refine aB.clo (PA (n+1) 0 n l H L (by omega) S hD (by omega) (Nat.le_refl _) (by omega) (.inl rfl) _ fun q hq hs=>⟨trivial,?_⟩);simp only[go_sem];exact av.mk (by rw[az];exact Nat.le_refl _) (hK q hq.1 fun a b h1 h2=>hs a b (Nat.zero_le _) h1 (by rw[hq.len,S.hl]at h2;exact h2))
theorem PC {r:Nat->Int}{T n:Nat}(hr:∀ i,i<n->0<=r i/\r i<T):kh (nF r T n) (List.range n):=by
 unfold kh;rw[List.nodup_iff_pairwise_ne,List.pairwise_map];refine(List.Pairwise.and_mem.1 (List.nodup_iff_pairwise_ne.1 List.nodup_range)).imp fun {i j} ⟨hi,hj,hne⟩ e=>?_;have hi:=List.mem_range.1 hi;have hj:=List.mem_range.1 hj;rcases DB hne (r:=r) with b|b
 ·have:=(uV hr hi hj).2 b;omega
 ·have:=(uV hr hj hi).2 b;omega
theorem PD {id g n:Nat}{rs:List Int}(hn:rs.length=n)(hr:∀ x∈rs,0<=x/\x<1125899906842624)(hn6:n<=1024){T:Nat}(hT:∀ i,i<n->0<=rs.getD i 0/\rs.getD i 0<T){l:List Nat}(hl:∀ a∈l,a<n):
  CD (.clo 76 [.own id g 0 n 1] []) (nF (fun i=>rs.getD i 0) T n) l (fun Hx=>Hx.get id=some (.arr g 3 (ints rs))):=by
 intro a b ha hb Hx hI;have ha:=hl a ha;have hb:=hl b hb;obtain⟨x,hx⟩:=get_of_lt (l:=rs) (i:=a) (by omega);obtain⟨y,hy⟩:=get_of_lt (l:=rs) (i:=b) (by omega);have hxr:=hr x (List.mem_of_getElem? hx);have hyr:=hr y (List.mem_of_getElem? hy);have ex:rs.getD a 0=x:=by rw[List.getD_eq_getElem?_getD,hx];rfl
 have ey:rs.getD b 0=y:=by rw[List.getD_eq_getElem?_getD,hy];rfl
 have hxn:=aJ hx;have hyn:=aJ hy;have lv:=ah hI;have hil:=aM rs;rw[hn]at hil;have bx:(a:Int)<n:=by omega
 have by':(b:Int)<n:=by omega
 have w1:=IntWalk.i64_in (y - x) (by omega);have w2:=IntWalk.i64_in ((a:Int) - (b:Int)) (by omega);refine⟨if x=y then (a:Int) - b else y - x,?_,fun K hK=>aB.clo ?_⟩
 ·rw[uV hT ha hb];unfold before;simp only[ex,ey];split<;>omega
 simp only[List.cons_append,List.nil_append,List.append_nil];refine af.cS (n:=28) (rs:=[.tmp 6]) Try.func76 rfl rfl rfl (by decide) (by simp) ?_;refine W.seq (ab _ _ _ (by rfl) ?_);simp only[go_sem];refine W.seq (W.de (fun s'=>s'.H=Hx/\s'.ρ 0=.own id g 0 n 1/\s'.ρ 1=aa a/\s'.ρ 2=aa b/\s'.ρ 15=.lit (.bool (!decide (x=y)))) ?_ ?_)
 ·refine W.draw 8 [0,0,3,7,0,0,48,112] Try.mixed (by kernel_rfl) (by kernel_rfl) ?_;simp only[go_sem,lv,hx,hy,bx,by']
 rintro⟨ρ,Hq⟩ ⟨hHq,q0,q1,q2,q15⟩;simp only at hHq q0 q1 q2 q15;rw[hHq];by_cases hxy:x=y
 ·rw[if_pos hxy]at hK;rw[decide_eq_true hxy]at q15;refine W.cond (t:=false) q15 ?_;refine ab _ _ _ (by rfl) ?_;simp only[go_sem];refine ab _ _ _ (by rfl) ?_;simp only[go_sem,q1,q2,w2];exact av.mk (Nat.le_refl _) hK
 ·rw[if_neg hxy]at hK;rw[decide_eq_false hxy]at q15;refine W.cond (t:=true) q15 ?_;refine W.seq ?_;refine W.draw 8 [0,0,3,7,0,0,48,112] Try.mixed (by kernel_rfl) (by kernel_rfl) ?_;simp only[go_sem,q0,q1,q2,lv,hx,hy,bx,by',w1];refine ab _ _ _ (by rfl) ?_;simp only[go_sem];exact av.mk (Nat.le_refl _) hK
theorem C2 {c:List Int}{i:Nat}{x:Int}(h:c[i]?=some x):(c.take (i+1)).sum=(c.take i).sum+x:=by rw[aL h];simp
theorem C3 {c:List Int}(hc:∀ x∈c,0<=x/\x<=1099511627776)(i:Nat):0<=(c.take i).sum/\(c.take i).sum<=1099511627776*(c.take i).length:=by
 have:∀ l:List Int,(∀ x∈l,0<=x/\x<=1099511627776)->0<=l.sum/\l.sum<=1099511627776*l.length:=by
  intro l
  induction l with
  | nil=>intro _;simp
  | cons a l ih =>
   intro h;have h1:=h a (by simp);have h2:=ih fun x hx=>h x (by simp [hx]);rw[List.sum_cons,List.length_cons];omega
 exact this _ fun x hx=>hc x (List.mem_of_mem_take hx)
set_option maxHeartbeats 8000000 in
theorem C4 {c:List Int}{grain least:Int}{n:Nat}(hn:c.length=n)(h0:1<=n)(hl:n<=1024)(hc:∀ x∈c,0<=x/\x<=1099511627776)(hg:1<=grain/\grain<=720)(hle:0<=least/\least<=720)(H:AHeap)(K:ARes->AHeap->Prop)
  (hE:grain<least*n->K (.ret (.tup [.lit (.slice none 0 0),aa 2])) H)
  (hK:∀ s v H',least*n<=grain->je least (cW grain least c) c s->Over H H'->aD H.next H' 3 v (ints s)->K (.ret (.tup [v,aa 0])) H'):
  af Try.prog G0 48 [.vec n (ints c),aa grain,aa least] H K:=by
 have hil:=aM c;rw[hn]at hil;have b1:¬ (n:Int)<1:=by omega
 have b2:¬ (n:Int) > 1024:=by omega
 refine af.cS (n:=144) (rs:=[.tmp 6,.tmp 7]) Try.func48 rfl rfl rfl (by decide) (by simp) ?_;refine W.seq (ab _ _ _ (by rfl) ?_);simp only[go_sem];refine W.seq (ab _ _ _ (by rfl) ?_);simp only[go_sem,b1,b2];refine W.seq (ab _ _ _ (by rfl) ?_);simp only[go_sem];refine W.seq (ab _ _ _ (by rfl) ?_);simp only[go_sem];refine W.env fun E hE1=>?_;have e0:E 0=.vec n (ints c):=by rw[hE1];simp only[go_sem]
 have e1:E 1=aa grain:=by rw[hE1];simp only[go_sem]
 have e2:E 2=aa least:=by rw[hE1];simp only[go_sem]
 have e8:E 8=aa 0:=by rw[hE1];simp only[go_sem]
 have e30:E 30=.vec n (ints c):=by rw[hE1];simp only[go_sem]
 have e31:E 31=aa n:=by rw[hE1];simp only[go_sem]
 have e32:E 32=aa 0:=by rw[hE1];simp only[go_sem]
 clear hE1;refine W.aG 70364449211840 (by rfl) (fun ρ Hx=>Hx=H/\∃ i:Nat,ρ 32=aa i/\i<=n/\ρ 8=aa (c.take i).sum) (fun ρ Hx=>n - (iv (ρ 32)).toNat) ?_ ?_
 ·exact⟨rfl,0,e32,by omega,e8⟩
 rintro ρ Hx ⟨hHx,i,h32,hi,h8⟩;rw[hHx];refine W.env fun E1 hE1=>?_;have f0:E1 0=.vec n (ints c):=by rw[hE1];simp only[go_sem,e0]
 have f1:E1 1=aa grain:=by rw[hE1];simp only[go_sem,e1]
 have f2:E1 2=aa least:=by rw[hE1];simp only[go_sem,e2]
 have f8:E1 8=aa (c.take i).sum:=by rw[hE1];simp only[go_sem,h8]
 have f30:E1 30=.vec n (ints c):=by rw[hE1];simp only[go_sem,e30]
 have f31:E1 31=aa n:=by rw[hE1];simp only[go_sem,e31]
 have f32:E1 32=aa i:=by rw[hE1];simp only[go_sem,h32]
 clear hE1;have hsr:=C3 hc i;have htl:((c.take i).length:Int)<=1024:=by rw[List.length_take];omega
 by_cases hb:(i:Int)<n
 ·obtain⟨x,hx⟩:=get_of_lt (l:=c) (i:=i) (by omega);have hxr:=hc x (List.mem_of_getElem? hx);have hxn:=aJ hx;have x1:¬ x<0:=by omega
  have x2:¬ x > 1099511627776:=by omega
  have w1:=IntWalk.i64_in ((c.take i).sum+x) (by omega);have w2:=IntWalk.i64_in ((i:Int)+1) (by omega);refine ab _ _ _ (by rfl) ?_;simp only[go_sem,f8,f30,f31,f32,hb,hx,hxn,x1,x2,w1,w2];exact⟨⟨i+1,rfl,by omega,by rw[C2 hx]⟩,by rw[h32];simp only[aa,aK];omega⟩
 have hin:i=n:=by omega
 rw[hin,<- hn,List.take_length]at f8 hsr;have g1:¬ grain<1:=by omega
 have g2:¬ grain > 720:=by omega
 have g3:¬ least<0:=by omega
 have gn:¬ (n:Int)=0:=by omega
 have gt:grain.tdiv n=grain / n:=Int.tdiv_eq_ediv_of_nonneg (by omega);have gw:=IntWalk.i64_in (grain / n) (by have:=Int.ediv_nonneg (a:=grain) (b:=n) (by omega) (by omega);have:=Int.ediv_le_self (a:=grain) n (by omega);omega);refine ab _ _ _ (by rfl) ?_;simp only[go_sem,f31,f32,hb];by_cases hfit:grain<least*n
 ·have g4:least > grain / n:=by
   refine Classical.byContradiction fun h=>?_;have:=(Int.le_ediv_iff_mul_le (show (0:Int)<n by omega)).1 (Int.not_lt.1 h);omega
  refine W.seq (ab _ _ _ (by rfl) ?_);simp only[go_sem,f0,f1,f2,g1,g2,g3,gn,gt,gw,g4];exact av.mk (Nat.le_refl _) (hE hfit)
 have g4:¬ least > grain / n:=fun h=>by
  have:=(Int.le_ediv_iff_mul_le (show (0:Int)<n by omega)).2 (Int.not_lt.1 hfit);omega
 refine W.seq (ab _ _ _ (by rfl) ?_);simp only[go_sem,f0,f1,f2,g1,g2,g3,gn,gt,gw,g4];have m0:0<=least*n:=Int.mul_nonneg hle.1 (by omega);have wm:=IntWalk.i64_in (least*(n:Int)) (by omega);have wsb:=IntWalk.i64_in (grain - least*(n:Int)) (by omega);obtain⟨sp,hsp⟩:∃ sp,sp=grain - least*n:=⟨_,rfl⟩
 have hsp':cW grain least c=sp:=by unfold cW;rw[hn,hsp]
 rw[<- hsp]at wsb;have sp0:0<=sp/\sp<=720:=by omega
 refine W.seq (ab _ _ _ (by rfl) ?_);simp only[go_sem,f0,f1,f2,wm,<- hsp,wsb];refine W.seq (ab _ _ _ (by rfl) ?_);simp only[go_sem];refine W.seq (ab _ _ _ (by rfl) ?_);simp only[go_sem,f0];refine⟨⟨by omega,by omega⟩,?_⟩;refine W.seq (ab _ _ _ (by rfl) ?_);simp only[go_sem,f0];refine⟨⟨by omega,by omega⟩,?_⟩;refine W.seq (ab _ _ _ (by rfl) ?_);simp only[go_sem,f0];refine⟨⟨by omega,by omega⟩,?_⟩;refine W.seq (ab _ _ _ (by rfl) ?_);simp only[go_sem,f0];have hz:List.replicate n (AVal.lit (.int .i64 0))=ints (List.replicate n 0):=by simp only[ints,List.map_replicate];rfl
 rw[hz];obtain⟨H1,hH1⟩:∃ H1,H1=ext H [.arr 0 3 (ints (List.replicate n 0)),.arr 0 3 (ints (List.replicate n 0)),.arr 0 3 (ints (List.replicate n 0))]:=⟨_,rfl⟩
 have ga:H1.get H.next=some (.arr 0 3 (ints (List.replicate n 0))):=by rw[hH1];exact bg H _ 0 (by simp)
 have gb:H1.get (H.next+1)=some (.arr 0 3 (ints (List.replicate n 0))):=by rw[hH1];exact bg H _ 1 (by simp)
 have go:H1.get (H.next+2)=some (.arr 0 3 (ints (List.replicate n 0))):=by rw[hH1];exact bg H _ 2 (by simp)
 have n1:H1.next=H.next+3:=by rw[hH1];rfl
 have o1:Over H H1:=by rw[hH1];exact .ext _ _
 rw[<- hH1];refine W.env fun E2 hE2=>?_;have a0:E2 0=.vec n (ints c):=by rw[hE2];simp only[go_sem,f0]
 have a2:E2 2=aa least:=by rw[hE2];simp only[go_sem,f2]
 have a8:E2 8=aa c.sum:=by rw[hE2];simp only[go_sem,f8]
 have a11:E2 11=aa sp:=by rw[hE2];simp only[go_sem,<- hsp]
 have a12:E2 12=aa sp:=by rw[hE2];simp only[go_sem,<- hsp]
 have a13:E2 13=.own H.next 0 0 n 1:=by rw[hE2];simp only[go_sem]
 have a14:E2 14=.own (H.next+1) 0 0 n 1:=by rw[hE2];simp only[go_sem]
 have a15:E2 15=.own (H.next+2) 0 0 n 1:=by rw[hE2];simp only[go_sem]
 have a80:E2 80=.vec n (ints c):=by rw[hE2];simp only[go_sem]
 have a81:E2 81=aa n:=by rw[hE2];simp only[go_sem]
 have a82:E2 82=aa 0:=by rw[hE2];simp only[go_sem]
 clear hE2 hH1;have hrs:=fun k=>DM (sp:=sp) (c:=c) (fun x h=>(hc x h).1) (by omega) sp0.1 k;have hpn:=fun k=>rL (c:=c) (fun x h=>(hc x h).1) (by omega) sp0.1 k;have hpl:=fun k=>uW (c:=c) (fun x h=>(hc x h).1) (by omega) sp0.1 k;have hrb:=fun k=>rJ (sp:=sp) (c:=c) (by omega) k;have hT:cV c<=1125899906842624:=by unfold cV;split<;>omega
 refine W.aG 21267647932553818263182454447787675648 (by kernel_rfl) (fun ρ Hx=>∃ (i:Nat) (A B O:List Int),ρ 82=aa i/\i<=n/\ρ 12=aa (fq sp c i)/\Hx.next=H1.next/\(∀ j,j<H.next->Hx.get j=H.get j)/\Hx.get H.next=some (.arr 0 3 (ints A))/\Hx.get (H.next+1)=some (.arr 0 3 (ints B))/\Hx.get (H.next+2)=some (.arr 0 3 (ints O)) /\
  (A.length=n/\B.length=n/\O.length=n)/\∀ j,j<i->A[j]?=some (least+partAt sp c j)/\B[j]?=some (bH sp c j)/\O[j]?=some (j:Int)) (fun ρ Hx=>n - (iv (ρ 82)).toNat) ?_ ?_
 ·exact⟨0,_,_,_,a82,by omega,a12.trans (by unfold fq;simp),rfl,fun j h=>o1.old j h,ga,gb,go,by simp,fun j h=>absurd h (Nat.not_lt_zero _)⟩
 rintro ρ2 Hx ⟨k,A,B,O,h82,hk,h12,nx,hold,xa,xb,xo,⟨lA,lB,lO⟩,hall⟩;refine W.env fun E3 hE3=>?_;have d0:E3 0=.vec n (ints c):=by rw[hE3];simp only[go_sem,a0]
 have d2:E3 2=aa least:=by rw[hE3];simp only[go_sem,a2]
 have d8:E3 8=aa c.sum:=by rw[hE3];simp only[go_sem,a8]
 have d11:E3 11=aa sp:=by rw[hE3];simp only[go_sem,a11]
 have d12:E3 12=aa (fq sp c k):=by rw[hE3];simp only[go_sem,h12]
 have d13:E3 13=.own H.next 0 0 n 1:=by rw[hE3];simp only[go_sem,a13]
 have d14:E3 14=.own (H.next+1) 0 0 n 1:=by rw[hE3];simp only[go_sem,a14]
 have d15:E3 15=.own (H.next+2) 0 0 n 1:=by rw[hE3];simp only[go_sem,a15]
 have d80:E3 80=.vec n (ints c):=by rw[hE3];simp only[go_sem,a80]
 have d81:E3 81=aa n:=by rw[hE3];simp only[go_sem,a81]
 have d82:E3 82=aa k:=by rw[hE3];simp only[go_sem,h82]
 clear hE3;by_cases hb2:(k:Int)<n;rotate_left
 ·have hkn:k=n:=by omega
  refine ab _ _ _ (by rfl) ?_;simp only[go_sem,d81,d82,hb2];rw[hkn]at d12 hall;have eA:A=cQ least sp c fun a=>decide (a∈([]:List Nat).take 0):=by
   rw[QG];apply List.ext_getElem?;intro j;rcases Nat.lt_or_ge j n with h|h
   ·rw[(hall j h).1,List.getElem?_map,List.getElem?_range (by omega)];rfl
   ·rw[List.getElem?_eq_none (by omega),List.getElem?_eq_none (by simp;omega)]
  have eO:O=dL (List.range n):=by
   apply List.ext_getElem?;intro j;rcases Nat.lt_or_ge j n with h|h
   ·rw[(hall j h).2.2,yu (List.getElem?_range h)]
   ·rw[List.getElem?_eq_none (by omega),List.getElem?_eq_none (by rw[pE,List.length_range];omega)]
  have eB:∀ j,j<n->B.getD j 0=bH sp c j:=fun j h=>by rw[List.getD_eq_getElem?_getD,(hall j h).2.1];rfl
  rw[eO]at xo;obtain⟨T,hTe⟩:=Int.eq_ofNat_of_zero_le (Int.le_of_lt (nE (c:=c) (by omega)));have hBr:∀ x∈B,0<=x/\x<1125899906842624:=fun x hx=>by
   obtain⟨j,hj⟩:=List.mem_iff_getElem?.1 hx;have hjn:=get_lt hj;rw[(hall j (by omega)).2.1]at hj;cases hj;have:=hrb j;omega
  have hBT:∀ j,j<n->0<=B.getD j 0/\B.getD j 0<T:=fun j h=>by
   rw[eB j h,<- hTe];exact hrb j
  have hcmp:=PD (id:=H.next+1) (g:=0) lB hBr (by omega) hBT (l:=List.range n) (fun a h=>List.mem_range.1 h);have xon:Hx.get (H.next+2)=some (nB 0 (List.range n)):=xo;refine W.seq (ab _ _ _ (by rfl) ?_);simp only[go_sem,d14,d15];have SHx:SH (.clo 76 [.own (H.next+1) 0 0 n 1] []) (nF (fun i=>B.getD i 0) T n) (H.next+1) (.arr 0 3 (ints B)) (H.next+2) 0 n (List.range n) Hx :=
   ⟨List.length_range,hl,xon,xb,by omega,by omega,by omega,hcmp⟩
  refine aB.clo (PB SHx (PC hBT) (by omega) _ fun l hp hs=>⟨trivial,?_⟩);obtain⟨H4,hH4⟩:∃ H4,H4=Hx.upd (H.next+2) (nB 0 l):=⟨_,rfl⟩
  rw[<- hH4];have hpw:=QD (r:=fun i=>B.getD i 0) (T:=T) (n:=n) hBT hp hs;have pl:=hp.length_eq;rw[List.length_range]at pl;have hlm:∀ a∈l,a<n:=fun a h=>List.mem_range.1 (hp.mem_iff.1 h);have hnd:l.Nodup:=hp.nodup_iff.2 List.nodup_range;have n4:H4.next=Hx.next:=by rw[hH4,az]
  have g4o:H4.get (H.next+2)=some (.arr 0 3 (ints (dL l))):=by rw[hH4,ag,if_pos rfl];rfl
  have g4a:H4.get H.next=some (.arr 0 3 (ints (cQ least sp c fun a=>decide (a∈l.take 0)))):=by rw[hH4,ag,if_neg (by omega),xa,eA];rfl
  have old4:∀ j,j<H.next->H4.get j=H.get j:=fun j h=>by rw[hH4,ag,if_neg (by omega)];exact hold j h
  clear hH4;have hLb:=uS (sp:=sp) (c:=c) (by omega);have hLk:fq sp c n=dN sp c:=by unfold fq dN;rw[hn]
  obtain⟨L,hL⟩:=Int.eq_ofNat_of_zero_le hLb.1;rw[hLk,hL]at d12;have Ln:L<n:=by omega
  have l4o:=ah g4o;have iol:(ints (dL l)).length=n:=by rw[aM,pE,pl]
  have L0:(0:Int)<=L:=by omega
  have L1:(L:Int)<=n:=by omega
  simp only[go_sem];refine W.seq (ab _ _ _ (by rfl) ?_);simp only[go_sem,d12,d15,l4o,L0,L1];refine W.env fun E4 hE4=>?_;have k13:E4 13=.own H.next 0 0 n 1:=by rw[hE4];simp only[go_sem,d13]
  have k130:E4 130=.own (H.next+2) 0 0 L 1:=by rw[hE4];simp only[go_sem]
  have k131:E4 131=aa L:=by rw[hE4];simp only[go_sem]
  have k132:E4 132=aa 0:=by rw[hE4];simp only[go_sem]
  clear hE4;refine W.aG 11144928081394576555352445142605272463704064 (by kernel_rfl) (fun ρ Hy=>∃ m:Nat,ρ 132=aa m/\m<=L/\Hy.next=H4.next/\(∀ j,j<H.next->Hy.get j=H.get j)/\Hy.get (H.next+2)=some (.arr 0 3 (ints (dL l)))/\Hy.get H.next=some (.arr 0 3 (ints (cQ least sp c fun a=>decide (a∈l.take m))))) (fun ρ Hy=>L - (iv (ρ 132)).toNat) ?_ ?_
  ·exact⟨0,k132,by omega,rfl,old4,g4o,g4a⟩
  rintro ρ3 Hy ⟨m,h132,hm,ny,oldy,gyo,gya⟩;refine W.env fun E5 hE5=>?_;have u13:E5 13=.own H.next 0 0 n 1:=by rw[hE5];simp only[go_sem,k13]
  have u130:E5 130=.own (H.next+2) 0 0 L 1:=by rw[hE5];simp only[go_sem,k130]
  have u131:E5 131=aa L:=by rw[hE5];simp only[go_sem,k131]
  have u132:E5 132=aa m:=by rw[hE5];simp only[go_sem,h132]
  clear hE5;have lyo:=ah gyo;have lya:=ah gya;have isl:(ints (cQ least sp c fun a=>decide (a∈l.take m))).length=n:=by rw[aM,jf,hn]
  by_cases hb3:(m:Int)<L;rotate_left
  ·have hmL:m=L:=(by omega);subst hmL;have hTop:Top (bH sp c) n m (fun i=>decide (i∈l.take m)):=by
    have hpw':l.Pairwise (before (bH sp c)):=(List.Pairwise.and_mem.1 hpw).imp fun {i j} ⟨hi,hj,h⟩=>by
     unfold before at h ⊢;simp only[eB i (hlm i hi),eB j (hlm j hj)]at h;exact h
    exact Top.sorted hp hpw' (by omega)
   refine ab _ _ _ (by rfl) ?_;simp only[go_sem,u131,u132,hb3];refine ab _ _ _ (by rfl) ?_;simp only[go_sem,u13];have hov:Over H Hy:=⟨by omega,oldy⟩
   refine av.mk hov.next (hK _ _ Hy (by omega) (by rw[hsp'];exact⟨_,by rw[hL,Int.toNat_natCast,hn];exact hTop,rfl⟩) hov (.inr ⟨H.next,0,Nat.le_refl _,by omega,?_,gya⟩));rw[isl]
  obtain⟨q,hq⟩:=get_of_lt (l:=l) (i:=m) (by omega);have hqn:=hlm q (List.mem_of_getElem? hq);have gq:(ints (dL l))[m]?=some (aa q):=by rw[fg,yu hq];rfl
  have gqn:=aJ gq;have gs:(ints (cQ least sp c fun a=>decide (a∈l.take m)))[q]?=some (aa (least+partAt sp c q)):=by rw[fg,QH hnd hq (by omega)];rfl
  have gsn:=aJ gs;have qb:(q:Int)<n:=by omega
  have wq:=IntWalk.i64_in (least+partAt sp c q+1) (by have:=hpn q;have:=hpl q;omega);have wm1:=IntWalk.i64_in ((m:Int)+1) (by omega);have es:setAt (ints (cQ least sp c fun a=>decide (a∈l.take m))) q [.lit (.int .i64 (least+partAt sp c q+1))]=ints (cQ least sp c fun a=>decide (a∈l.take (m+1))):=by rw[dM (by rw[jf];omega),QI hnd hq (by omega)]
  refine W.seq (ab _ _ _ (by rfl) ?_);simp only[go_sem,u131,u132,hb3];refine W.seq (ab _ _ _ (by rfl) ?_);simp only[go_sem];refine W.seq (W.block ?_);refine W.seq (ab _ _ _ (by rfl) ?_);simp only[go_sem,u130,u132,lyo,gq,hb3];refine ab _ _ _ (by rfl) ?_;simp only[go_sem,u13,lya,isl,gs,qb,wq,es];refine⟨by omega,ab _ _ _ (by rfl) ?_⟩;simp only[go_sem,u132,wm1];exact⟨by rw[az];omega,⟨m+1,rfl,by omega,by rw[az];exact ny,fun j h=>by rw[ag,if_neg (by omega)];exact oldy j h,by rw[ag,if_neg (by omega)];exact gyo,by rw[ag,if_pos rfl]⟩,by rw[h132];simp only[aa,aK];omega⟩
 obtain⟨x,hx⟩:=get_of_lt (l:=c) (i:=k) (by omega);have hxr:=hc x (List.mem_of_getElem? hx);have hxn:=aJ hx;have sx0:0<=sp*x:=Int.mul_nonneg sp0.1 hxr.1;have sx1:sp*x<=720*1099511627776:=Int.mul_le_mul sp0.2 hxr.2 hxr.1 (by omega);have wsx:=IntWalk.i64_in (sp*x) (by omega);refine W.seq (ab _ _ _ (by rfl) ?_);simp only[go_sem,d81,d82,hb2];refine W.seq (ab _ _ _ (by rfl) ?_);simp only[go_sem];refine W.seq (W.block ?_);refine W.seq (ab _ _ _ (by rfl) ?_);simp only[go_sem,d80,d82,hx,hxn,hb2];refine W.seq (ab _ _ _ (by rfl) ?_);simp only[go_sem,d11,wsx];refine W.de (fun s'=>s'.H=Hx/\s'.ρ 2=aa least/\s'.ρ 12=aa (fq sp c k)/\s'.ρ 13=.own H.next 0 0 n 1/\s'.ρ 14=.own (H.next+1) 0 0 n 1/\s'.ρ 15=.own (H.next+2) 0 0 n 1/\s'.ρ 16=aa k/\s'.ρ 18=aa (partAt sp c k)/\s'.ρ 19=aa (bH sp c k)/\s'.ρ 82=aa k) ?_ ?_
 ·by_cases hs:c.sum > 0
  ·obtain⟨p1,p2⟩:=QJ (sp:=sp) hs hx;have t1:(sp*x).tdiv c.sum=partAt sp c k:=(by rw[p1];exact Int.tdiv_eq_ediv_of_nonneg sx0);have t2:(sp*x).tmod c.sum=bH sp c k:=(by rw[p2];exact Int.tmod_eq_emod_of_nonneg sx0);have sn:¬ c.sum=0:=(by omega);have wp:=IntWalk.i64_in (partAt sp c k) (by have:=hpn k;have:=hpl k;omega);have wr:=IntWalk.i64_in (bH sp c k) (by have:=hrb k;omega);refine W.seq (ab _ _ _ (by rfl) ?_);simp only[go_sem,d8,hs];refine W.cond (t:=true) (by simp only[go_sem]) ?_;refine W.draw 7 [0,0,3,0,0,24,15] Try.mixed (by kernel_rfl) (by kernel_rfl) ?_;simp only[go_sem,d2,d8,d12,d13,d14,d15,d82,sn,t1,t2,wp]
  ·obtain⟨p1,p2⟩:=QK (sp:=sp) hs (show k<c.length by omega);rw[hn]at p1 p2;have t1:sp.tdiv n=partAt sp c k:=(by rw[p1];exact Int.tdiv_eq_ediv_of_nonneg sp0.1);have t2:sp.tmod n=bH sp c k:=(by rw[p2];exact Int.tmod_eq_emod_of_nonneg sp0.1);have wp:=IntWalk.i64_in (partAt sp c k) (by have:=hpn k;have:=hpl k;omega);have wr:=IntWalk.i64_in (bH sp c k) (by have:=hrb k;omega);refine W.seq (ab _ _ _ (by rfl) ?_);simp only[go_sem,d8,hs];refine W.cond (t:=false) (by simp only[go_sem]) ?_;refine W.draw 9 [0,0,2,7,0,0,32,112,15] Try.mixed (by kernel_rfl) (by kernel_rfl) ?_;simp only[go_sem,d0,d2,d11,d12,d13,d14,d15,d82,gn,t1,t2,wp]
 rintro⟨ρ3,Hq⟩ ⟨hHq,q2,q12,q13,q14,q15,q16,q18,q19,q82⟩;simp only at hHq q2 q12 q13 q14 q15 q16 q18 q19 q82;rw[hHq];have wpl:=IntWalk.i64_in (least+partAt sp c k) (by have:=hpn k;have:=hpl k;omega);have lxa:=ah xa;have iA:=aM A;have iB:=aM B;have iO:=aM O;rw[lA]at iA;rw[lB]at iB;rw[lO]at iO;have sA:setAt (ints A) k [.lit (.int .i64 (least+partAt sp c k))]=ints (A.set k (least+partAt sp c k)):=dM (by omega);have sB:setAt (ints B) k [.lit (.int .i64 (bH sp c k))]=ints (B.set k (bH sp c k)):=dM (by omega);have sO:setAt (ints O) k [.lit (.int .i64 (k:Int))]=ints (O.set k (k:Int)):=dM (by omega);obtain⟨Ha,hHa⟩:∃ Ha,Ha=Hx.upd H.next (.arr 0 3 (ints (A.set k (least+partAt sp c k)))):=⟨_,rfl⟩
 obtain⟨Hb,hHb⟩:∃ Hb,Hb=Ha.upd (H.next+1) (.arr 0 3 (ints (B.set k (bH sp c k)))):=⟨_,rfl⟩
 obtain⟨Ho,hHo⟩:∃ Ho,Ho=Hb.upd (H.next+2) (.arr 0 3 (ints (O.set k (k:Int)))):=⟨_,rfl⟩
 have lxb:Ha.live (H.next+1) 0=some (3,ints B):=ah (by rw[hHa,ag,if_neg (by omega)];exact xb);have lxo:Hb.live (H.next+2) 0=some (3,ints O):=ah (by rw[hHb,ag,if_neg (by omega),hHa,ag,if_neg (by omega)];exact xo);have gax:∀ b:Blk,Hx.upd H.next b=Hx.upd H.next b:=fun _=>rfl;refine W.seq (ab _ _ _ (by rfl) ?_);simp only[go_sem,q2,q13,q14,q15,q16,q18,q19,lxa,iA,wpl,hb2,sA,<- hHa,lxb,iB,sB,<- hHb,lxo,iO,sO,<- hHo];have wlk:=IntWalk.i64_in (fq sp c k - partAt sp c k) (by
  have h1:=hrs k;have h2:=hpl k;have h3:=hpn k;have:sp*(k:Int)<=720*1024:=Int.mul_le_mul sp0.2 (by omega) (by omega) (by omega);omega)
 have wk:=IntWalk.i64_in ((k:Int)+1) (by omega);refine⟨by omega,by omega,by omega,ab _ _ _ (by rfl) ?_⟩;simp only[go_sem,q12,q18,wlk];refine ab _ _ _ (by rfl) ?_;simp only[go_sem,q82,wk];have hn':Ho.next=Hx.next:=by rw[hHo,hHb,hHa];rfl
 refine⟨by omega,⟨k+1,A.set k (least+partAt sp c k),B.set k (bH sp c k),O.set k (k:Int),rfl,by omega,by rw[yS],by omega,fun j h=>?_,?_,?_,?_,by simp [lA,lB,lO],fun j hj=>?_⟩,by rw[h82];simp only[aa,aK];omega⟩
 ·rw[hHo,ag,if_neg (by omega),hHb,ag,if_neg (by omega),hHa,ag,if_neg (by omega)];exact hold j h
 ·rw[hHo,ag,if_neg (by omega),hHb,ag,if_neg (by omega),hHa,ag,if_pos rfl]
 ·rw[hHo,ag,if_neg (by omega),hHb,ag,if_pos rfl]
 ·rw[hHo,ag,if_pos rfl]
 ·by_cases e:j=k
  ·subst e;exact⟨by rw[List.getElem?_set_self (by omega)],by rw[List.getElem?_set_self (by omega)],by rw[List.getElem?_set_self (by omega)]⟩
  ·obtain⟨z1,z2,z3⟩:=hall j (by omega);exact⟨by rw[List.getElem?_set_ne (fun h=>e h.symm)];exact z1,by rw[List.getElem?_set_ne (fun h=>e h.symm)];exact z2,by rw[List.getElem?_set_ne (fun h=>e h.symm)];exact z3⟩
end Go.Proofs
namespace Go.Hx
variable {P:Program}
structure Own2 (lo:Nat)(H:AHeap)(e:TypeId)(v:AVal)(l:List AVal)(u:AVal)(m:List AVal):Prop where
 a:aD lo H e v l
 b:aD lo H e u m
 ne:∀ i g n g' n',v=.own i g 0 n 1->u≠.own i g' 0 n' 1
theorem Own2.symm {lo:Nat}{H:AHeap}{e:TypeId}{v u:AVal}{l m:List AVal}(h:Own2 lo H e v l u m):Own2 lo H e u m v l:=⟨h.b,h.a,fun i g n g' n' h1 h2=>h.ne i g' n' g n h2 h1⟩
theorem Own2.nil {lo:Nat}{H:AHeap}{e:TypeId}:Own2 lo H e (.lit (.slice none 0 0)) [] (.lit (.slice none 0 0)) []:=⟨.nil,.nil,fun _ _ _ _ _ h=>(by cases h)⟩
theorem Own2.keep {lo:Nat}{H H':AHeap}{e:TypeId}{v u:AVal}{l m:List AVal}(h:Own2 lo H e v l u m)(hn:H.next<=H'.next)(hk:∀ id,lo<=id->id<H.next->H'.get id=H.get id):Own2 lo H' e v l u m :=
 ⟨h.a.keep (Nat.le_refl _) hn fun id _ h1 h2 _ _=>hk id h1 h2,h.b.keep (Nat.le_refl _) hn fun id _ h1 h2 _ _=>hk id h1 h2,h.ne⟩
theorem Own2.app {lo n:Nat}{H:AHeap}{e t:TypeId}{v u x:AVal}{l m z:List AVal}(ht:P.underlying t=some (.slice e))(hz:P.cellsOf e=1)(hzero:bR P e=some z)(hx:x.one=true)
  (hb:(l.length+1)*P.bytesOf e<=2 ^ 46/\l.length+1<=2 ^ 46) (h:Own2 lo H e v l u m) (hlo:lo<=H.next) (hn:n=H.next+1):
  ∃ v' H',bC P (ext H [.arr 0 e [x]]) n t t v (.own H.next 0 0 1 1)=some (v',H')/\Own2 lo H' e v' (l++[x]) u m/\H.next<=H'.next/\(∀ k,k<lo->H'.get k=H.get k):=by
 have hsrc:cD (ext H [.arr 0 e [x]]) 1 (.own H.next 0 0 1 1)=some (1,[x]):=by
  unfold cD;have:=ah (H:=ext H [.arr 0 e [x]]) (g:=0) (cA (b:=.arr 0 e [x]));simp [this]
 have hne:(ext H [Blk.arr 0 e [x]]).next=H.next+1:=rfl;obtain⟨ha,hbb,hnn⟩:=h;rcases ha with ⟨rfl,rfl⟩|⟨i,g,h1,h2,rfl,h4⟩
 ·have n2:(ext (ext H [.arr 0 e [x]]) [.arr 0 e [x]]).next=H.next+2:=rfl;have old:∀ k,k<H.next->(ext (ext H [.arr 0 e [x]]) [.arr 0 e [x]]).get k=H.get k:=fun k hk=>by rw[dK (by rw[hne];omega),dK hk]
  refine⟨.own (H.next+1) 0 0 1 1,ext (ext H [.arr 0 e [x]]) [.arr 0 e [x]],?_,⟨.inr ⟨H.next+1,0,by omega,by rw[n2];omega,by simp,?_⟩,hbb.keep (Nat.le_refl _) (by rw[n2];omega) fun id _ _ hid _ _=>old id hid,fun i g n g' n' he hu=>?_⟩,by rw[n2];omega,fun k hk=>old k (by omega)⟩
  ·unfold bC;rw[ht];simp only[hzero,hz,Option.bind_some,hsrc];rw[if_neg (by decide),if_pos (by simpa using hb),qG (by rw[hn,hne]),hn];rfl
  ·rw[<- hne];exact cA
  ·have:=(AVal.own.inj he).1;rcases hbb with ⟨rfl,_⟩|⟨j,g2,_,a2,rfl,_⟩
   ·cases hu
   ·have:=(AVal.own.inj hu).1;omega
 ·have h4':(ext H [.arr 0 e [x]]).get i=some (.arr g e l):=by rw[dK h2];exact h4
  refine⟨.own i (g+1) 0 (l.length+1) 1,(ext H [.arr 0 e [x]]).upd i (.arr (g+1) e (l++[x])),?_,⟨.inr ⟨i,g+1,h1,by rw[az,hne];omega,by simp,by rw[ag,if_pos rfl]⟩,hbb.keep (Nat.le_refl _) (by rw[az,hne];omega) fun id g3 _ hid _ hu=>?_,fun i' g' n' g'' n'' he hu=>hnn i g l.length g'' n'' rfl (by rw[hu,(AVal.own.inj he).1])⟩,by rw[az,hne];omega,fun k hk=>?_⟩
  ·unfold bC;rw[ht];have hl:=ah h4';simp only[hzero,hz,Option.bind_some,hsrc,hl];rw[if_pos ⟨trivial,trivial,by omega,hb.1,hb.2,by simp [hx]⟩];simp
  ·rw[ag,if_neg,dK hid];rintro rfl;exact hnn id g l.length g3 _ rfl hu
  ·rw[ag,if_neg (by omega),dK (by omega)]
end Go.Hx
namespace Go.Hx
theorem aD.rB {lo:Nat}{H:AHeap}{e:TypeId}{v:AVal}{cs:List AVal}(h:aD lo H e v cs){k:Nat}(hk:k<lo):∀ g n,v≠.own k g 0 n 1:=fun g n he=>by
 rcases h with ⟨h,_⟩|⟨id,g',a,_,h,_⟩
 ·rw[h]at he;cases he
 ·rw[h]at he;have:=(AVal.own.inj he).1;omega
end Go.Hx
namespace Go.Proofs
open Go.Hx
theorem Pb {c:List Int}{i:Nat}{x:Int}(h:c[i]?=some x):(c.take (i+1)).sum=(c.take i).sum+x:=by rw[aL h];simp
theorem Pc {c:List Int}(hc:∀ x∈c,0<=x/\x<=1099511627776)(i:Nat):0<=(c.take i).sum/\(c.take i).sum<=1099511627776*(c.take i).length:=by
 have:∀ l:List Int,(∀ x∈l,0<=x/\x<=1099511627776)->0<=l.sum/\l.sum<=1099511627776*l.length:=by
  intro l
  induction l with
  | nil=>intro _;simp
  | cons a l ih =>
   intro h;have h1:=h a (by simp);have h2:=ih fun x hx=>h x (by simp [hx]);rw[List.sum_cons,List.length_cons];omega
 exact this _ fun x hx=>hc x (List.mem_of_mem_take hx)
set_option maxHeartbeats 4000000 in
theorem Pd {c:List Int}{grain least:Int}(h1:1<=c.length)(hl:c.length<=1024)(hc:∀ x∈c,0<=x/\x<=1099511627776)(hg:1<=grain/\grain<=720)(hle:0<=least/\least<=720)(H:AHeap)(K:ARes->AHeap->Prop)
  (hK:K (.ret (.tup [ae (dT c),aa (cV c),aa (cW grain least c)])) H):
  af Try.prog G0 73 [ae c,aa grain,aa least] H K:=by
 refine af.clo ⟨_,Try.func73,rfl,rfl⟩ fun hcl=>?_;have m0:0<=least*c.length:=Int.mul_nonneg hle.1 (by omega);have m1:least*c.length<=720*1024:=Int.mul_le_mul hle.2 (by omega) (by omega) (by omega);have wm:=IntWalk.i64_in (least*(c.length:Int)) (by omega);have ws:=IntWalk.i64_in (grain - least*(c.length:Int)) (by omega);have hsp:cW grain least c=grain - least*c.length:=rfl;refine af.cS (n:=53) (rs:=[.tmp 6,.tmp 7,.tmp 8]) Try.func73 rfl rfl rfl (by decide) (by simp) ?_;refine W.seq (ab _ _ _ (by rfl) ?_);simp only[go_sem];refine W.seq (ab _ _ _ (by rfl) ?_);simp only[go_sem];refine W.seq (ab _ _ _ (by rfl) ?_);simp only[go_sem];refine W.env fun E hE=>?_;have e0:E 0=ae c:=by rw[hE];simp only[go_sem]
 have e1:E 1=aa grain:=by rw[hE];simp only[go_sem]
 have e2:E 2=aa least:=by rw[hE];simp only[go_sem]
 have e9:E 9=aa 0:=by rw[hE];simp only[go_sem]
 have e10:E 10=aa 0:=by rw[hE];simp only[go_sem]
 clear hE;refine W.aG 33547776 (by rfl) (fun ρ Hx=>Hx=H/\∃ i:Nat,ρ 10=aa i/\i<=c.length/\ρ 9=aa (c.take i).sum) (fun ρ Hx=>c.length - (iv (ρ 10)).toNat) ?_ ?_
 ·exact⟨rfl,0,e10,by omega,e9⟩
 rintro ρ Hx ⟨hHx,i,h10,hi,h9⟩;rw[hHx];refine W.env fun E1 hE1=>?_;have f0:E1 0=ae c:=by rw[hE1];simp only[go_sem,e0]
 have f1:E1 1=aa grain:=by rw[hE1];simp only[go_sem,e1]
 have f2:E1 2=aa least:=by rw[hE1];simp only[go_sem,e2]
 have f9:E1 9=aa (c.take i).sum:=by rw[hE1];simp only[go_sem,h9]
 have f10:E1 10=aa i:=by rw[hE1];simp only[go_sem,h10]
 clear hE1;have hsr:=Pc hc i;have htl:((c.take i).length:Int)<=1024:=by rw[List.length_take];omega
 by_cases hb:(i:Int)<c.length
 ·obtain⟨x,hx⟩:=get_of_lt (l:=c) (i:=i) (by omega);have hxr:=hc x (List.mem_of_getElem? hx);have hxn:=aJ hx;have w1:=IntWalk.i64_in ((c.take i).sum+x) (by omega);have w2:=IntWalk.i64_in ((i:Int)+1) (by omega);refine ab _ _ _ (by rfl) ?_;simp only[go_sem,f0,f9,f10,hb,hx,hxn,w1,w2];exact⟨⟨i+1,rfl,by omega,by rw[Pb hx]⟩,by rw[h10];simp only[aa,aK];omega⟩
 refine ab _ _ _ (by rfl) ?_;simp only[go_sem,f0,f10,hb];rw[List.take_of_length_le (by omega)]at f9;by_cases hs:c.sum > 0
 ·refine W.seq (ab _ _ _ (by rfl) ?_);simp only[go_sem,f0,f1,f2,f9,hs,wm,ws];refine av.mk (Nat.le_refl _) ?_;unfold dT cV at hK;rw[if_pos hs,if_pos hs]at hK;exact hK
 refine W.seq (ab _ _ _ (by rfl) ?_);simp only[go_sem,f9,hs];refine W.seq (ab _ _ _ (by rfl) ?_);simp only[go_sem];refine W.seq (ab _ _ _ (by rfl) ?_);simp only[go_sem];refine W.env fun E2 hE2=>?_;have g0:E2 0=ae c:=by rw[hE2];simp only[go_sem,f0]
 have g1:E2 1=aa grain:=by rw[hE2];simp only[go_sem,f1]
 have g2:E2 2=aa least:=by rw[hE2];simp only[go_sem,f2]
 have g11:E2 11=.lit (.slice none 0 0):=by rw[hE2];simp only[go_sem]
 have g12:E2 12=aa 0:=by rw[hE2];simp only[go_sem]
 clear hE2;refine W.aG 17557826312192 (by rfl) (fun ρ Hx=>Over H Hx/\∃ (i:Nat),ρ 12=aa i/\i<=c.length/\aD H.next Hx 3 (ρ 11) (ints (List.replicate i 1))) (fun ρ Hx=>c.length - (iv (ρ 12)).toNat) ?_ ?_
 ·exact⟨.refl _,0,g12,by omega,by show aD _ _ _ (E2 11) _;rw[g11];exact .nil⟩
 rintro ρ2 Hx2 ⟨ov,k,h12,hk,ho⟩;obtain⟨v,hv⟩:∃ v,v=ρ2 11:=⟨_,rfl⟩
 rw[<- hv]at ho;refine W.env fun E3 hE3=>?_;have d0:E3 0=ae c:=by rw[hE3];simp only[go_sem,g0]
 have d1:E3 1=aa grain:=by rw[hE3];simp only[go_sem,g1]
 have d2:E3 2=aa least:=by rw[hE3];simp only[go_sem,g2]
 have d11:E3 11=v:=by rw[hE3];simp only[go_sem,hv]
 have d12:E3 12=aa k:=by rw[hE3];simp only[go_sem,h12]
 clear hE3;have vo:=ho.one;have vcl:=ho.cells;by_cases hb2:(k:Int)<c.length
 ·obtain⟨v',Ha,hA,hOa,hna,hpa⟩:=jv (P:=Try.prog) (t:=39) (x:=aa 1) (n:=Hx2.next+1) Try.underlying39 Try.dW Try.ew rfl (by rw[Try.eU,aM,List.length_replicate];omega) ho ov.next rfl;simp only[aa]at hA;have vo2:=hOa.one;have vc2:=hOa.cells;have w2:=IntWalk.i64_in ((k:Int)+1) (by omega);refine ab _ _ _ (by rfl) ?_;simp only[go_sem,d0,d11,d12,hb2,hA,w2];have er:ints (List.replicate k 1)++[aa 1]=ints (List.replicate (k+1) 1):=by rw[List.replicate_succ'];unfold ints;rw[List.map_append];rfl
  rw[er]at hOa;exact⟨by have:=ov.next;omega,⟨⟨by have:=ov.next;omega,fun id hid=>(hpa id (by have:=ov.next;omega) (aD.rB ho hid)).trans (ov.old id hid)⟩,k+1,rfl,by omega,hOa⟩,by rw[h12];simp only[aa,aK];omega⟩
 refine ab _ _ _ (by rfl) ?_;simp only[go_sem,d0,d12,hb2];refine ab _ _ _ (by rfl) ?_;simp only[go_sem,d0,d1,d2,d11,wm,ws];obtain rfl:k=c.length:=by omega
 unfold dT cV at hK;rw[if_neg hs,if_neg hs]at hK;refine av.bA (v':=.tup [ae (List.replicate c.length 1),aa c.length,aa (cW grain least c)]) aP hcl ov (.tup rfl fun i hi _=>?_) hK
 match i,hi with
 | 0,_=>exact ho.gJ fun i h=>h
 | 1,_=>exact .lit _
 | 2,_=>exact .lit _
theorem CP {r:Nat->Int}{M:Nat->Bool}:∀ m,(∃ j,j<m/\M j=false)->∃ b,b<m/\M b=false/\∀ j,j<m->M j=false->j≠b->before r b j
 | 0,⟨j,h,_⟩=>absurd h (Nat.not_lt_zero _)
 | m+1,⟨j,hj,hM⟩=>by
  by_cases hex:∃ j,j<m/\M j=false
  ·obtain⟨b,hb,hMb,hmin⟩:=CP m hex;cases hm:M m with
   | true=>exact⟨b,by omega,hMb,fun j hj h1 h2=>hmin j (by have:j≠m:=(by rintro rfl;rw[hm]at h1;cases h1);omega) h1 h2⟩
   | false =>
    by_cases hlt:r b<r m
    ·refine⟨m,by omega,hm,fun j hj h1 h2=>?_⟩;have hjm:j<m:=(by omega);by_cases hjb:j=b
     ·subst hjb;exact .inl hlt
     ·have:=hmin j hjm h1 hjb;unfold before at this ⊢;omega
    ·refine⟨b,by omega,hMb,fun j hj h1 h2=>?_⟩;by_cases hjm:j=m
     ·subst hjm;unfold before;omega
     ·exact hmin j (by omega) h1 h2
  ·have:j=m:=by
    refine Classical.byContradiction fun h=>hex ⟨j,by omega,hM⟩
   subst this;exact⟨j,by omega,hM,fun i hi h1 h2=>absurd ⟨i,by omega,h1⟩ hex⟩
theorem Top.some {r:Nat->Int}{n k:Nat}{M:Nat->Bool}(h:Top r n k M)(hk:k<n):∃ j,j<n/\M j=false:=by
 refine Classical.byContradiction fun hno=>?_;have:=h.count;have e:(List.range n).countP M=(List.range n).length:=List.countP_eq_length.2 fun x hx=>by
  rcases Bool.eq_false_or_eq_true (M x) with e|e
  ·exact e
  ·exact absurd ⟨x,List.mem_range.1 hx,e⟩ hno
 rw[e,List.length_range]at this;omega
theorem Top.ex (r:Nat->Int)(n:Nat):∀ k,k<=n->∃ M,Top r n k M
 | 0,_=>⟨_,.zero⟩
 | k+1,h=>by
  obtain⟨M,hM⟩:=Top.ex r n k (by omega);obtain⟨b,hb,hMb,hmin⟩:=CP (r:=r) n (hM.some (by omega));exact⟨_,hM.step hb hMb hmin⟩
theorem CQ (least sp:Int){c:List Int}(h:0<c.length):∃ s,je least sp c s:=by
 have:=uS (sp:=sp) h;obtain⟨M,hM⟩:=Top.ex (bH sp c) c.length (dN sp c).toNat (by omega);exact⟨_,M,hM,rfl⟩
theorem Pe {c:List Int}(hc:∀ x∈c,0<=x/\x<=1099511627776):∀ x∈dT c,0<=x/\x<=1099511627776:=by
 unfold dT;split
 ·exact hc
 ·intro x hx;rw[List.mem_replicate]at hx;omega
theorem Pf {sp:Int}{c:List Int}{i:Nat}{x:Int}(h:(dT c)[i]?=Option.some x):partAt sp c i=sp*x / cV c/\bH sp c i=sp*x % cV c:=by
 unfold partAt bH;rw[List.getD_eq_getElem?_getD,h];exact⟨rfl,rfl⟩
def jE (sp:Int)(c:List Int)(M:Nat->Bool):List Int:=(List.range c.length).map fun i=>if M i then -1 else bH sp c i
theorem rC (sp:Int)(c:List Int)(M:Nat->Bool):(jE sp c M).length=c.length:=by simp [jE]
theorem yy {sp:Int}{c:List Int}{M:Nat->Bool}{i:Nat}(h:i<c.length):(jE sp c M)[i]?=Option.some (if M i then -1 else bH sp c i):=by
 unfold jE;rw[List.getElem?_map,List.getElem?_range h];rfl
theorem Pg {sp:Int}{c:List Int}{M:Nat->Bool}{b:Nat}(h:b<c.length):(jE sp c M).set b (-1)=jE sp c fun i=>decide (i=b) || M i:=by
 apply List.ext_getElem?;intro i;rw[List.getElem?_set];rcases Nat.lt_or_ge i c.length with hi|hi
 ·rw[yy hi,yy hi,rC];by_cases hb:b=i
  ·subst hb;simp [h]
  ·have:i≠b:=fun e=>hb e.symm;simp [hb,this]
 ·rw[List.getElem?_eq_none (by rw[rC];omega),List.getElem?_eq_none (by rw[rC];omega),if_neg (by omega)]
theorem Ph {least sp:Int}{c:List Int}{M:Nat->Bool}{b:Nat}(h:b<c.length)(hM:M b=false){w:Int}(hw:(cQ least sp c M)[b]?=Option.some w):(cQ least sp c M).set b (w+1)=cQ least sp c fun i=>decide (i=b) || M i:=by
 apply List.ext_getElem?;intro i;rw[List.getElem?_set];rcases Nat.lt_or_ge i c.length with hi|hi
 ·rw[mq hi,mq hi,jf];by_cases hb:b=i
  ·subst hb;rw[mq hi,hM]at hw;cases hw;simp [h,hM]
  ·have:i≠b:=fun e=>hb e.symm;simp [hb,this]
 ·rw[List.getElem?_eq_none (by rw[jf];omega),List.getElem?_eq_none (by rw[jf];omega),if_neg (by omega)]
theorem Pi {sp:Int}{c:List Int}{M:Nat->Bool}{k b:Nat}(hT:Top (bH sp c) c.length k M)(hk:k<c.length)(hb:b<c.length)(hmin:∀ j,j<c.length->j≠b->before (fun i=>if M i then -1 else bH sp c i) b j):
  M b=false/\∀ j,j<c.length->M j=false->j≠b->before (bH sp c) b j:=by
 have hMb:M b=false:=by
  obtain⟨j,hj,hMj⟩:=hT.some hk;rcases Bool.eq_false_or_eq_true (M b) with e|e
  ·have hne:j≠b:=(by rintro rfl;rw[e]at hMj;cases hMj);have:=hmin j hj hne;unfold before at this;simp only[hMj,e,if_true]at this;have:=(rJ (sp:=sp) (c:=c) (by omega) j).1;simp only[Bool.false_eq_true,if_false]at *
   omega
  ·exact e
 refine⟨hMb,fun j hj h1 h2=>?_⟩;have:=hmin j hj h2;unfold before at this ⊢;simp only[hMb,h1,Bool.false_eq_true,if_false]at this;exact this
set_option maxHeartbeats 8000000 in
theorem Pj {c:List Int}{grain least:Int}{n:Nat}(hn:c.length=n)(h1:1<=n)(hl:n<=1024)(hc:∀ x∈c,0<=x/\x<=1099511627776)(hg:1<=grain/\grain<=720)(hle:0<=least/\least<=720)(hfit:least*n<=grain)(H:AHeap)(K:ARes->AHeap->Prop)
  (hK:∀ s,je least (cW grain least c) c s->K (.ret (ae s)) H):
  af Try.prog G0 46 [ae c,aa grain,aa least] H K:=by
 refine af.clo ⟨_,Try.func46,rfl,rfl⟩ fun hcl=>?_;obtain⟨sp,hsp⟩:∃ sp,sp=cW grain least c:=⟨_,rfl⟩
 have hsp2:sp=grain - least*n:=by rw[hsp];unfold cW;rw[hn]
 have m0:0<=least*n:=Int.mul_nonneg hle.1 (by omega);have sp0:0<=sp/\sp<=720:=by omega
 have hcn:∀ x∈c,0<=x:=fun x h=>(hc x h).1;have cel:=DC c;rw[hn]at cel;have her:=Pe hc;have hT:=nE (c:=c) (by omega);have hlb:=uS (sp:=sp) (c:=c) (by omega);rw[<- hsp]at hK;refine af.cS (n:=97) (rs:=[.tmp 6]) Try.func46 rfl rfl rfl (by decide) (by simp) ?_;refine W.seq (ab _ _ _ (by rfl) ?_);simp only[go_sem];refine W.seq (ab _ _ _ (by rfl) ?_);simp only[go_sem];refine aB.clo (Pd (by omega) (by omega) hc hg hle H _ ⟨trivial,?_⟩);rw[<- hsp];obtain⟨ec,hec⟩:∃ ec,ec=dT c:=⟨_,rfl⟩
 obtain⟨T,hTe⟩:∃ T,T=cV c:=⟨_,rfl⟩
 rw[<- hec,<- hTe];rw[<- hTe]at hT;rw[<- hec]at her cel;simp only[go_sem];refine W.seq (ab _ _ _ (by rfl) ?_);simp only[go_sem];refine W.seq (ab _ _ _ (by rfl) ?_);simp only[go_sem];refine W.seq (ab _ _ _ (by rfl) ?_);simp only[go_sem];refine W.env fun E hE=>?_;have e2:E 2=aa least:=by rw[hE];simp only[go_sem]
 have e7:E 7=ae ec:=by rw[hE];simp only[go_sem]
 have e8:E 8=aa T:=by rw[hE];simp only[go_sem]
 have e9:E 9=aa sp:=by rw[hE];simp only[go_sem]
 have e10:E 10=.lit (.slice none 0 0):=by rw[hE];simp only[go_sem]
 have e11:E 11=.lit (.slice none 0 0):=by rw[hE];simp only[go_sem]
 have e12:E 12=aa sp:=by rw[hE];simp only[go_sem]
 have e13:E 13=aa 0:=by rw[hE];simp only[go_sem]
 clear hE;refine W.aG 36893488147385564160 (by rfl) (fun ρ Hx=>Over H Hx/\∃ (i:Nat),ρ 13=aa i/\i<=n/\ρ 12=aa (fq sp c i)/\Own2 H.next Hx 3 (ρ 10) (ints ((List.range i).map fun j=>least+partAt sp c j)) (ρ 11) (ints ((List.range i).map (bH sp c)))) (fun ρ Hx=>n - (iv (ρ 13)).toNat) ?_ ?_
 ·refine⟨.refl _,0,e13,by omega,e12.trans (by unfold fq;simp),?_⟩;show Own2 _ _ _ (E 10) _ (E 11) _;rw[e10,e11];exact .nil
 rintro ρ Hx ⟨ov,i,h13,hi,h12,hO⟩;obtain⟨v,hv⟩:∃ v,v=ρ 10:=⟨_,rfl⟩
 obtain⟨u,hu⟩:∃ u,u=ρ 11:=⟨_,rfl⟩
 rw[<- hv,<- hu]at hO;refine W.env fun E1 hE1=>?_;have f2:E1 2=aa least:=by rw[hE1];simp only[go_sem,e2]
 have f7:E1 7=ae ec:=by rw[hE1];simp only[go_sem,e7]
 have f8:E1 8=aa T:=by rw[hE1];simp only[go_sem,e8]
 have f9:E1 9=aa sp:=by rw[hE1];simp only[go_sem,e9]
 have f10:E1 10=v:=by rw[hE1];simp only[go_sem,hv]
 have f11:E1 11=u:=by rw[hE1];simp only[go_sem,hu]
 have f12:E1 12=aa (fq sp c i):=by rw[hE1];simp only[go_sem,h12]
 have f13:E1 13=aa i:=by rw[hE1];simp only[go_sem,h13]
 clear hE1;have vo:=hO.a.one;have vcl:=hO.a.cells;have uo:=hO.b.one;have ucl:=hO.b.cells;have hov:=ov.next;refine ab _ _ _ (by rfl) ?_;by_cases hb:(i:Int)<n
 ·obtain⟨x,hx⟩:=get_of_lt (l:=ec) (i:=i) (by omega);have hxr:=her x (List.mem_of_getElem? hx);have hxn:=aJ hx;have p0:0<=sp*x:=Int.mul_nonneg sp0.1 hxr.1;have p1:sp*x<=720*1099511627776:=Int.mul_le_mul sp0.2 hxr.2 hxr.1 (by omega);have hpa:=Pf (sp:=sp) (c:=c) (i:=i) (x:=x) (by rw[<- hec];exact hx);rw[<- hTe]at hpa;have q1:(sp*x).tdiv T=partAt sp c i:=by rw[hpa.1];exact Int.tdiv_eq_ediv_of_nonneg p0
  have q2:(sp*x).tmod T=bH sp c i:=by rw[hpa.2];exact Int.tmod_eq_emod_of_nonneg p0
  have pn:=rL hcn (by omega) sp0.1 i;have pl:=uW hcn (by omega) sp0.1 i;have rb:=rJ (sp:=sp) (c:=c) (by omega) i;have rl:bH sp c i<=sp*x:=by
   have h0:0<=T*(sp*x / T):=Int.mul_nonneg (by omega) (by rw[<- hpa.1];exact pn);rw[hpa.2,Int.emod_def];omega
  have lk:=DM hcn (by omega) sp0.1 i;have lk1:sp*(i:Int)<=720*1024:=Int.mul_le_mul sp0.2 (by omega) (by omega) (by omega);have t0:¬ T=0:=by omega
  have w1:=IntWalk.i64_in (sp*x) (by omega);have w2:=IntWalk.i64_in (partAt sp c i) (by omega);have w3:=IntWalk.i64_in (least+partAt sp c i) (by omega);have w4:=IntWalk.i64_in (bH sp c i) (by omega);have w5:=IntWalk.i64_in (fq sp c i - partAt sp c i) (by omega);have w6:=IntWalk.i64_in ((i:Int)+1) (by omega);obtain⟨v',Ha,hA1,hOa,hna,hpa1⟩:=Own2.app (P:=Try.prog) (t:=39) (x:=aa (least+partAt sp c i)) (n:=Hx.next+1) Try.underlying39 Try.dW Try.ew rfl (by rw[Try.eU,aM,List.length_map,List.length_range];omega) hO hov rfl;simp only[aa]at hA1;have vo1:=hOa.a.one;have vc1:=hOa.a.cells;obtain⟨u',Hc,hA2,hOc,hnc,hpc⟩:=Own2.app (P:=Try.prog) (t:=39) (x:=aa (bH sp c i)) (n:=Ha.next+1) Try.underlying39 Try.dW Try.ew rfl (by rw[Try.eU,aM,List.length_map,List.length_range];omega) hOa.symm (by omega) rfl;simp only[aa]at hA2;have vo2:=hOc.a.one;have vc2:=hOc.a.cells;simp only[go_sem,f2,f7,f8,f9,f10,f11,f12,f13,cel,hb,hx,hxn,t0,q1,q2,w1,w2,w3,w5,w6,hA1,hA2];have er1:ints ((List.range i).map fun j=>least+partAt sp c j)++[aa (least+partAt sp c i)]=ints ((List.range (i+1)).map fun j=>least+partAt sp c j):=by rw[List.range_succ,List.map_append];unfold ints;rw[List.map_append];rfl
  have er2:ints ((List.range i).map (bH sp c))++[aa (bH sp c i)]=ints ((List.range (i+1)).map (bH sp c)):=by rw[List.range_succ,List.map_append];unfold ints;rw[List.map_append];rfl
  rw[er1,er2]at hOc;exact⟨by omega,⟨⟨by omega,fun id hid=>(hpc id hid).trans ((hpa1 id hid).trans (ov.old id hid))⟩,i+1,rfl,by omega,by rw[yS],hOc.symm⟩,by rw[h13];simp only[aa,aK];omega⟩
 simp only[go_sem,f7,f13,cel,hb];obtain rfl:i=n:=by omega
 have iA:(ints ((List.range i).map fun j=>least+partAt sp c j)).length=i:=by rw[aM,List.length_map,List.length_range]
 have iB:(ints ((List.range i).map (bH sp c))).length=i:=by rw[aM,List.length_map,List.length_range]
 obtain⟨io,go,hio,hlo,gio,hve⟩:∃ io go,H.next<=io/\io<Hx.next/\Hx.get io=some (.arr go 3 (ints ((List.range i).map fun j=>least+partAt sp c j)))/\v=.own io go 0 i 1:=by
  rcases hO.a with ⟨_,h⟩|⟨io,go,a,a2,b,d⟩
  ·rw[h]at iA;simp at iA;omega
  ·exact⟨io,go,a,a2,d,by rw[b,iA]⟩
 obtain⟨ir,gr,hir,hlr,gir,hue⟩:∃ ir gr,H.next<=ir/\ir<Hx.next/\Hx.get ir=some (.arr gr 3 (ints ((List.range i).map (bH sp c))))/\u=.own ir gr 0 i 1:=by
  rcases hO.b with ⟨_,h⟩|⟨io,go,a,a2,b,d⟩
  ·rw[h]at iB;simp at iB;omega
  ·exact⟨io,go,a,a2,d,by rw[b,iB]⟩
 have hne:io≠ir:=fun e=>hO.ne io go i gr i hve (by rw[hue,e]);rw[hve]at f10 vo vcl;rw[hue]at f11 uo ucl;clear hO hve hue hv hu;refine W.env fun E2 hE2=>?_;have g10:E2 10=.own io go 0 i 1:=by rw[hE2];simp only[go_sem,f10]
 have g11:E2 11=.own ir gr 0 i 1:=by rw[hE2];simp only[go_sem,f11]
 have g12:E2 12=aa (dN sp c):=by rw[hE2];simp only[go_sem,f12];unfold fq dN;rw[hn]
 clear hE2;have eA:((List.range i).map fun j=>least+partAt sp c j)=cQ least sp c fun _=>false:=by unfold cQ;rw[hn];simp
 have eB:((List.range i).map (bH sp c))=jE sp c fun _=>false:=by unfold jE;rw[hn];simp
 rw[eA]at gio;rw[eB]at gir;refine W.seq (W.block ?_);refine W.aG 79228162477370849446124900352 (by kernel_rfl) (fun ρ Hy=>∃ (k:Nat) (M:Nat->Bool),ρ 12=aa (dN sp c - k)/\(k:Int)<=dN sp c/\Top (bH sp c) c.length k M/\Hy.next=Hx.next/\(∀ id,id<H.next->Hy.get id=Hx.get id)/\Hy.get io=some (.arr go 3 (ints (cQ least sp c M)))/\Hy.get ir=some (.arr gr 3 (ints (jE sp c M)))) (fun ρ Hy=>(iv (ρ 12)).toNat) ?_ ?_
 ·exact⟨0,_,g12.trans (by simp),by omega,.zero,rfl,fun _ _=>rfl,gio,gir⟩
 rintro ρ2 Hy ⟨k,M,h12',hk,hM,ny,hold,gyo,gyr⟩;refine W.env fun E3 hE3=>?_;have d10:E3 10=.own io go 0 i 1:=by rw[hE3];simp only[go_sem,g10]
 have d11:E3 11=.own ir gr 0 i 1:=by rw[hE3];simp only[go_sem,g11]
 have d12:E3 12=aa (dN sp c - k):=by rw[hE3];simp only[go_sem,h12']
 clear hE3;have lo:=ah gyo;have lr:=ah gyr;have il1:(ints (cQ least sp c M)).length=i:=by rw[aM,jf,hn]
 have il2:(ints (jE sp c M)).length=i:=by rw[aM,rC,hn]
 by_cases hb2:dN sp c - k > 0;rotate_left
 ·refine ab _ _ _ (by rfl) ?_;simp only[go_sem,d12,hb2];refine ab _ _ _ (by rfl) ?_;simp only[go_sem,d10];have hkl:k=(dN sp c).toNat:=by omega
  refine av.bA aP hcl ⟨by omega,fun id hid=>(hold id hid).trans (ov.old id hid)⟩ (v':=ae (cQ least sp c M)) ?_ (hK _ ⟨M,hkl ▸ hM,rfl⟩);rw[<- il1];exact aD.gJ (lo:=H.next) (.inr ⟨io,go,hio,by omega,rfl,gyo⟩) fun i h=>h
 refine W.seq (ab _ _ _ (by rfl) ?_);simp only[go_sem,d12,hb2];refine W.seq (W.block ?_);refine W.seq (ab _ _ _ (by rfl) ?_);simp only[go_sem];refine W.seq (ab _ _ _ (by rfl) ?_);simp only[go_sem];refine W.env fun E4 hE4=>?_;have b10:E4 10=.own io go 0 i 1:=by rw[hE4];simp only[go_sem,d10]
 have b11:E4 11=.own ir gr 0 i 1:=by rw[hE4];simp only[go_sem,d11]
 have b12:E4 12=aa (dN sp c - k):=by rw[hE4];simp only[go_sem,d12]
 have b14:E4 14=aa 0:=by rw[hE4];simp only[go_sem]
 have b15:E4 15=aa 1:=by rw[hE4];simp only[go_sem]
 clear hE4;obtain⟨R,hR⟩:∃ R:Nat->Int,R=fun i=>if M i then -1 else bH sp c i:=⟨_,rfl⟩
 have hget:∀ j,j<i->(jE sp c M)[j]?=Option.some (R j):=fun j hj=>by rw[yy (by omega),hR]
 refine W.aG 38685035931857774884995072 (by kernel_rfl) (fun ρ Hz=>Hz=Hy/\∃ (b j:Nat),ρ 14=aa b/\ρ 15=aa j/\1<=j/\j<=i/\b<j/\∀ q,q<j->q≠b->before R b q) (fun ρ Hz=>i - (iv (ρ 15)).toNat) ?_ ?_
 ·exact⟨rfl,0,1,b14,b15,by omega,by omega,by omega,fun q h1 h2=>by omega⟩
 rintro ρ4 Hz ⟨hHz,b,j,h14,h15,hj1,hji,hbj,hmin⟩;rw[hHz];clear hHz;refine W.env fun E5 hE5=>?_;have a10:E5 10=.own io go 0 i 1:=by rw[hE5];simp only[go_sem,b10]
 have a11:E5 11=.own ir gr 0 i 1:=by rw[hE5];simp only[go_sem,b11]
 have a12:E5 12=aa (dN sp c - k):=by rw[hE5];simp only[go_sem,b12]
 have a14:E5 14=aa b:=by rw[hE5];simp only[go_sem,h14]
 have a15:E5 15=aa j:=by rw[hE5];simp only[go_sem,h15]
 clear hE5;have gb:=hget b (by omega);have gbn:=aJ gb;have hbi:(b:Int)<i:=by omega
 by_cases hb3:(j:Int)<i
 ·have gj:=hget j (by omega);have gjn:=aJ gj;have w6:=IntWalk.i64_in ((j:Int)+1) (by omega);refine W.seq (ab _ _ _ (by rfl) ?_);simp only[go_sem,a11,a15,lr,hb3];refine W.seq (W.block ?_);refine W.seq ?_;refine W.draw 8 [0,0,3,7,0,0,48,112] Try.mixed (by kernel_rfl) (by kernel_rfl) ?_;simp only[go_sem,a11,a14,a15,lr,hb3,hbi,gb,gj];refine ab _ _ _ (by rfl) ?_;by_cases hlt:R j > R b
  ·simp only[go_sem,hlt,a15];refine ab _ _ _ (by rfl) ?_;simp only[go_sem,a15,w6];exact⟨⟨j,j+1,rfl,rfl,by omega,by omega,by omega,fun q h1 h2=>by
    by_cases hqb:q=b
    ·subst hqb;exact .inl hlt
    ·have:=hmin q (by omega) hqb;unfold before at this ⊢;omega⟩,by rw[h15];simp only[aa,aK];omega⟩
  ·simp only[go_sem,hlt];refine ab _ _ _ (by rfl) ?_;simp only[go_sem,a14,a15,w6];exact⟨⟨b,j+1,rfl,rfl,by omega,by omega,by omega,fun q h1 h2=>by
    by_cases hqb:q=j
    ·subst hqb;unfold before;omega
    ·exact hmin q (by omega) h2⟩,by rw[h15];simp only[aa,aK];omega⟩
 obtain rfl:j=i:=by omega
 obtain⟨hMb,hstep⟩:=Pi (b:=b) hM (by omega) (by omega) (fun q h1 h2=>by rw[<- hR];exact hmin q (by omega) h2);obtain⟨w,hw⟩:=get_of_lt (l:=cQ least sp c M) (i:=b) (by rw[jf];omega);have hwn:=aJ hw;have hwr:least<=w/\w<=720+sp+1:=by
  rw[mq (by omega),hMb]at hw;cases hw;have pn:=rL hcn (by omega) sp0.1 b;have pl:=uW hcn (by omega) sp0.1 b;simp;omega
 have w7:=IntWalk.i64_in (w+1) (by omega);have w8:=IntWalk.i64_in (dN sp c - k - 1) (by omega);refine ab _ _ _ (by rfl) ?_;simp only[go_sem,a11,a15,lr,hb3];refine ab _ _ _ (by rfl) ?_;have lrU:∀ bk,(Hy.upd io bk).live ir gr=_:=fun bk=>(g9 (fun e=>hne e.symm)).trans lr;simp only[go_sem,a10,a11,a14,lo,lrU,il1,il2,hbi,hw,w7];refine⟨by omega,by omega,?_⟩;refine ab _ _ _ (by rfl) ?_;simp only[go_sem,a12,w8];rw[dM (by rw[jf];omega),dM (by rw[rC];omega),Ph (by omega) hMb hw,Pg (by omega)];refine⟨by rw[az,az,ny];exact Nat.le_refl _,⟨k+1,_,by rw[show dN sp c - ((k+1:Nat):Int)=dN sp c - k - 1 by omega],by omega,hM.step (by omega) hMb hstep,by rw[az,az];exact ny,fun id hid=>by rw[ag,if_neg (by omega),ag,if_neg (by omega)];exact hold id hid,by rw[ag,if_neg hne,ag,if_pos rfl],by rw[ag,if_pos rfl]⟩,by rw[h12'];simp only[aa,aK];omega⟩
end Go.Proofs
namespace Go.Hx
theorem af.fin {P:Program}{G:Nat->Option (List AVal)}{f:FuncId}{args:List AVal}{H:AHeap}{K:ARes->AHeap->Prop}(h:af P G f args H fun r H'=>∃ v,r=.ret v/\av P G H K v H'):af P G f args H K:=by
 refine⟨h.1,fun Γ w cargs R hr=>(h.2 Γ w cargs R hr).mono ?_⟩;rintro e w' ⟨r,H',Γ',hend,⟨v,rfl,v',H2,hw,hn2,hk⟩,R',E,hn⟩;obtain⟨Γ2,R2,E2,hv⟩:=hw Γ' w' R';refine⟨.ret v',H2,Γ2,?_,hk,R2,E.trans hn E2,hn2⟩;cases e with
 | returned cv=>exact hv cv hend
 | _=>exact hend.elim
end Go.Hx
namespace Go.Proofs
open Go.Hx
open Classical in
noncomputable def kR (least sp:Int)(c:List Int):List Int:=if h:∃ s,je least sp c s then h.choose else []
theorem rE {least sp:Int}{c s:List Int}(h:je least sp c s):s=kR least sp c:=by
 have hex:∃ s,je least sp c s:=⟨s,h⟩
 unfold kR;rw[dif_pos hex];exact h.unique hex.choose_spec
def gU (c:List Int)(grain least:Int):Prop:=(1<=c.length/\c.length<=1024)/\(∀ x∈c,0<=x/\x<=1099511627776)/\(1<=grain/\grain<=720)/\0<=least/\least*c.length<=grain
noncomputable def rF (c:List Int)(grain least:Int):Bool:=@decide (gU c grain least) (Classical.propDecidable _)
theorem C5 {c:List Int}{grain least:Int}(h:gU c grain least):rF c grain least=true:=by unfold rF;exact @decide_eq_true _ (Classical.propDecidable _) h
theorem PE {c:List Int}{grain least:Int}(h:¬ gU c grain least):rF c grain least=false:=by unfold rF;exact @decide_eq_false _ (Classical.propDecidable _) h
noncomputable def uH (c:List Int)(grain least:Int):AVal:=if rF c grain least then .tup [ae (kR least (cW grain least c) c),aa 0] else .tup [ae [],aa 2]
theorem gU.le {c:List Int}{grain least:Int}(h:gU c grain least):least<=720:=by
 obtain⟨h1,_,h3,h4,h5⟩:=h;have:least*1<=least*c.length:=Int.mul_le_mul_of_nonneg_left (by omega) h4;omega
theorem PF {c:List Int}{grain least:Int}{n:Nat}(hn:c.length=n)(hl:n<2 ^ 40)(hbad:¬ gU c grain least)(H:AHeap)(K:ARes->AHeap->Prop)(hK:K (.ret (.tup [ae [],aa 2])) H):
  af Try.prog G0 48 [.vec n (ints c),aa grain,aa least] H K:=by
 refine af.clo ⟨_,Try.func48,rfl,rfl⟩ fun hcl=>?_;have fin:av Try.prog G0 H K (.tup [.lit (.slice none 0 0),aa 2]) H:=av.bA (v':=.tup [ae [],aa 2]) aP hcl (.refl _) (.tup rfl fun i hi _=>match i,hi with
  | 0,_=>.nil
  | 1,_=>.lit _) hK
 have hil:=aM c;rw[hn]at hil;refine af.cS (n:=144) (rs:=[.tmp 6,.tmp 7]) Try.func48 rfl rfl rfl (by decide) (by simp) ?_;refine W.seq (ab _ _ _ (by rfl) ?_);simp only[go_sem];by_cases b1:(n:Int)<1
 ·refine W.seq (ab _ _ _ (by rfl) ?_);simp only[go_sem,b1];exact fin
 by_cases b2:(n:Int) > 1024
 ·refine W.seq (ab _ _ _ (by rfl) ?_);simp only[go_sem,b1,b2];exact fin
 refine W.seq (ab _ _ _ (by rfl) ?_);simp only[go_sem,b1,b2];refine W.seq (ab _ _ _ (by rfl) ?_);simp only[go_sem];refine W.seq (ab _ _ _ (by rfl) ?_);simp only[go_sem];refine W.env fun E hE1=>?_;have e0:E 0=.vec n (ints c):=by rw[hE1];simp only[go_sem]
 have e1:E 1=aa grain:=by rw[hE1];simp only[go_sem]
 have e2:E 2=aa least:=by rw[hE1];simp only[go_sem]
 have e8:E 8=aa 0:=by rw[hE1];simp only[go_sem]
 have e30:E 30=.vec n (ints c):=by rw[hE1];simp only[go_sem]
 have e31:E 31=aa n:=by rw[hE1];simp only[go_sem]
 have e32:E 32=aa 0:=by rw[hE1];simp only[go_sem]
 clear hE1;refine W.aG 70364449211840 (by rfl) (fun ρ Hx=>Hx=H/\∃ i:Nat,ρ 32=aa i/\i<=n/\(∀ x∈c.take i,0<=x/\x<=1099511627776)/\ρ 8=aa (c.take i).sum) (fun ρ Hx=>n - (iv (ρ 32)).toNat) ?_ ?_
 ·exact⟨rfl,0,e32,by omega,fun x h=>by simp at h,e8⟩
 rintro ρ Hx ⟨hHx,i,h32,hi,hok,h8⟩;rw[hHx];refine W.env fun E1 hE1=>?_;have f0:E1 0=.vec n (ints c):=by rw[hE1];simp only[go_sem,e0]
 have f1:E1 1=aa grain:=by rw[hE1];simp only[go_sem,e1]
 have f2:E1 2=aa least:=by rw[hE1];simp only[go_sem,e2]
 have f8:E1 8=aa (c.take i).sum:=by rw[hE1];simp only[go_sem,h8]
 have f30:E1 30=.vec n (ints c):=by rw[hE1];simp only[go_sem,e30]
 have f31:E1 31=aa n:=by rw[hE1];simp only[go_sem,e31]
 have f32:E1 32=aa i:=by rw[hE1];simp only[go_sem,h32]
 clear hE1;by_cases hb:(i:Int)<n
 ·obtain⟨x,hx⟩:=get_of_lt (l:=c) (i:=i) (by omega);have hxn:=aJ hx;by_cases x1:x<0
  ·refine ab _ _ _ (by rfl) ?_;simp only[go_sem,f30,f31,f32,hb,hx,hxn,x1];exact fin
  by_cases x2:x > 1099511627776
  ·refine ab _ _ _ (by rfl) ?_;simp only[go_sem,f30,f31,f32,hb,hx,hxn,x1,x2];exact fin
  have hsr:=C3 (c:=c.take i) hok i;have htl:((c.take i).take i).length<=1024:=by rw[List.length_take,List.length_take];omega
  rw[List.take_take,Nat.min_self]at hsr htl;have w1:=IntWalk.i64_in ((c.take i).sum+x) (by omega);have w2:=IntWalk.i64_in ((i:Int)+1) (by omega);refine ab _ _ _ (by rfl) ?_;simp only[go_sem,f8,f30,f31,f32,hb,hx,hxn,x1,x2,w1,w2];refine⟨⟨i+1,rfl,by omega,fun y hy=>?_,by rw[C2 hx]⟩,by rw[h32];simp only[aa,aK];omega⟩;rw[aL hx]at hy;rcases List.mem_append.1 hy with h|h
  ·exact hok y h
  ·rw[List.mem_singleton.1 h];omega
 have hin:i=n:=by omega
 rw[hin,<- hn,List.take_length]at hok;refine ab _ _ _ (by rfl) ?_;simp only[go_sem,f31,f32,hb];by_cases g1:grain<1
 ·refine W.seq (ab _ _ _ (by rfl) ?_);simp only[go_sem,f1,g1];exact fin
 by_cases g2:grain > 720
 ·refine W.seq (ab _ _ _ (by rfl) ?_);simp only[go_sem,f1,g1,g2];exact fin
 by_cases g3:least<0
 ·refine W.seq (ab _ _ _ (by rfl) ?_);simp only[go_sem,f1,f2,g1,g2,g3];exact fin
 have gn:¬ (n:Int)=0:=by omega
 have gt:grain.tdiv n=grain / n:=Int.tdiv_eq_ediv_of_nonneg (by omega);have gw:=IntWalk.i64_in (grain / n) (by have:=Int.ediv_nonneg (a:=grain) (b:=n) (by omega) (by omega);have:=Int.ediv_le_self (a:=grain) n (by omega);omega);have g4:least > grain / n:=by
  refine Classical.byContradiction fun h=>hbad ?_;have:=(Int.le_ediv_iff_mul_le (show (0:Int)<n by omega)).1 (Int.not_lt.1 h);exact⟨by omega,hok,by omega,by omega,by rw[hn];exact this⟩
 refine W.seq (ab _ _ _ (by rfl) ?_);simp only[go_sem,f0,f1,f2,g1,g2,g3,gn,gt,gw,g4];exact fin
theorem PG {H0 H':AHeap}{v:AVal}{s:List Int}(h:aD H0.next H' 3 v (ints s)):Fz (fun id=>H0.next<=id) H' H0.next (.tup [v,aa 0]) (.tup [ae s,aa 0]):=.tup rfl fun i hi _=>match i,hi with
 | 0,_=>h.gJ fun i h=>h
 | 1,_=>.lit _
theorem PH {c:List Int}{grain least:Int}(hl:c.length<2 ^ 40)(H:AHeap)(K:ARes->AHeap->Prop)(hK:K (.ret (uH c grain least)) H):
  af Try.prog G0 48 [ae c,aa grain,aa least] H K:=by
 by_cases h:gU c grain least
 ·have h7:=h.le;obtain⟨h1,h2,h3,h4,h5⟩:=id h;unfold uH at hK;rw[C5 h,if_pos rfl]at hK;refine af.clo ⟨_,Try.func48,rfl,rfl⟩ fun hcl=>af.fin (C4 rfl h1.1 h1.2 h2 h3 ⟨h4,h7⟩ H _ (fun hlt=>absurd h5 (by omega)) fun s v H' _ hs ho hv=>⟨_,rfl,av.bA aP hcl ho (PG hv) ?_⟩);rw[rE hs];exact hK
 ·unfold uH at hK;rw[PE h,if_neg (by decide)]at hK;exact PF rfl hl h H K hK
theorem C6 {c:List Int}{grain least:Int}(h:gU c grain least)(H:AHeap)(K:ARes->AHeap->Prop)(hK:K (.ret (ae (kR least (cW grain least c) c))) H):af Try.prog G0 46 [ae c,aa grain,aa least] H K:=by
 have h7:=h.le;obtain⟨h1,h2,h3,h4,h5⟩:=h;exact Pj rfl h1.1 h1.2 h2 h3 ⟨h4,h7⟩ h5 H K fun s hs=>by rw[rE hs];exact hK
end Go.Proofs
