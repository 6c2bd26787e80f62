/- Own work: contracts. -/
import Derived.Test.YtakancljiekbhaaConC
import Derived.Test.YtakancljiekbhaaConA
import Derived.Test.YtakancljiekbhaaConB
set_option linter.all false
set_option maxRecDepth 100000
namespace Go.Hx
theorem PZ {P:Program}{t:TypeId}{x y:Operand}{k':IntKind}{a:Nat}:aQ P .shr t x y (.lit (.int .u64 (a:Int))) (.lit (.int k' 8))=some (.lit (.int .u64 ((a / 256:Nat):Int))):=by
 rw[nE (by decide)];have e:(a:Int).fdiv (2 ^ (min (8:Int).toNat (IntKind.bits .u64)))=((a / 256:Nat):Int):=by
  rw[Int.fdiv_eq_ediv_of_nonneg _ (by exact_mod_cast Nat.zero_le _)]
  push_cast
  rfl
 rw[e]
theorem Clo.P0 {H:AHeap}(hc:Clo H){id:Nat}(hi:id<H.next)(g:Nat)(e:TypeId)(x:List Int):Clo (H.upd id (.arr g e (ints x))):=by
 refine⟨fun j b hb=>?_,fun j b hb=>?_⟩
 ·rw[ag]at hb;split at hb
  ·rename_i h;rw[h];exact hi
  ·exact hc.lt j b hb
 ·rw[ag]at hb;split at hb
  ·cases hb;exact fun i hi=>by simp only[ints,List.getElem_map];exact .lit _
  ·exact hc.below j b hb
end Go.Hx
namespace Go.Proofs
open Go.Hx
def Dq (s:ByteArray):Bool:=s.size == 256 && (List.range 256).all fun i=>Nat.ble (s[i]!).toNat 8 && (i == 0 || (Nat.ble 1 (s[i]!).toNat && Nat.ble (2 ^ ((s[i]!).toNat - 1)) i))
theorem Dr {s:ByteArray}{i:Nat}{F:AVal->Prop}(hs:Dq s=true)(h0:i≠0)(hi:i<256)(h:∀ L:Nat,L<=8->1<=L->2 ^ (L - 1)<=i->F (.lit (.int .u8 (L:Int)))):aU (kX Try.prog 9 (.lit (.string s)) (.lit (.int .u8 (i:Int)))) F:=by
 unfold Dq at hs;rw[Bool.and_eq_true,List.all_eq_true]at hs;have h1:=hs.2 i (List.mem_range.2 hi);have hz:s.size=256:=by simpa using hs.1
 have ix:kX Try.prog 9 (.lit (.string s)) (.lit (.int .u8 (i:Int)))=some (.lit (.int .u8 (((s[i]!).toNat:Nat):Int))):=by
  unfold kX;simp only[];have e1:s[i]?=some s[i]!:=by
   rw[getElem!_pos s i (by omega)];exact getElem?_pos s i (by omega)
  have ht:Try.prog.underlying 9=some .string:=Try.underlying9;simp [Instr.index,asIntOf,underlying,program,ht,bW,bind,Sem.bind,pure,e1]
 rw[ix,lf];simp only[Bool.and_eq_true,Bool.or_eq_true,beq_iff_eq]at h1;have b2:=Nat.le_of_ble_eq_true h1.1;rcases h1.2 with h2|h2
 ·exact absurd h2 h0
 ·exact h _ b2 (Nat.le_of_ble_eq_true h2.1) (Nat.le_of_ble_eq_true h2.2)
theorem P1 {n:Nat}(h1:1<=n)(hn:n<=1024)(H:AHeap)(K:ARes->AHeap->Prop)(hK:∀ L:Nat,L<=16->2 ^ L<=2*n->K (.ret (aa L)) H):ae Try.prog G0 105 [.lit (.int .u64 (n:Int))] H K:=by
 have g1:¬ (4294967296:Int)<=(n:Int):=by omega
 have g2:¬ (65536:Int)<=(n:Int):=by omega
 have wr:∀ i:Nat,i<256->IntKind.u8.wrap ((i:Nat):Int)=(i:Int):=fun i hi=>by simp [IntKind.wrap,IntKind.bits,IntKind.signed];omega
 have k8:IntKind.i64.wrap 8=8:=by decide
 have pw:∀ L,1<=L->2 ^ L=2*2 ^ (L - 1):=fun L h=>by rw[show L=(L - 1)+1 by omega,Nat.pow_succ,Nat.add_sub_cancel,Nat.mul_comm]
 refine ae.cD (n:=25) (rs:=[.tmp 2]) Try.func105 rfl rfl rfl (by decide) (by simp) ?_;refine W.seq (ab _ _ _ (by rfl) ?_);simp only[go_sem];refine W.seq (ab _ _ _ (by rfl) ?_);simp only[go_sem,g1];refine W.seq (ab _ _ _ (by rfl) ?_);simp only[go_sem,g2];by_cases g3:(256:Int)<=(n:Int)
 ·have ww:=wr (n / 256) (by omega);refine W.seq (ab _ _ _ (by rfl) ?_);simp only[go_sem,g3,PZ,k8];refine ab _ _ _ (by rfl) ?_;simp only[go_sem,ww];refine Dr (by kernel_rfl) (by omega) (by omega) fun L hL h1L h2L=>?_;have w:=IntWalk.i64_in (8+(L:Int)) (by omega);have w0:=IntWalk.i64_in (L:Int) (by omega);simp only[go_sem,w0,w];have e:8+(L:Int)=((8+L:Nat):Int):=by omega
  rw[e];refine av.mk (Nat.le_refl _) (hK _ (by omega) ?_);rw[Nat.pow_add,pw L h1L];omega
 ·have ww:=wr n (by omega);refine W.seq (ab _ _ _ (by rfl) ?_);simp only[go_sem,g3];refine ab _ _ _ (by rfl) ?_;simp only[go_sem,ww];refine Dr (by kernel_rfl) (by omega) (by omega) fun L hL h1L h2L=>?_;have w:IntKind.i64.wrap (0+(L:Int))=(L:Int):=by rw[Int.zero_add];exact IntWalk.i64_in (L:Int) (by omega)
  have w0:=IntWalk.i64_in (L:Int) (by omega);simp only[go_sem,w0,w];refine av.mk (Nat.le_refl _) (hK _ (by omega) ?_);rw[pw L h1L];omega
theorem Ds {n:Nat}(h1:1<=n)(hn:n<=1024)(H:AHeap)(K:ARes->AHeap->Prop)(hK:∀ L:Nat,L<=16->2 ^ L<=2*n->K (.ret (aa L)) H):ae Try.prog G0 93 [.lit (.int .u64 (n:Int))] H K:=by
 refine ae.cD (n:=8) (rs:=[.tmp 2]) Try.func93 rfl rfl rfl (by decide) (by simp) ?_;refine ab _ _ _ (by rfl) ?_;simp only[go_sem];refine aw.clo (P1 h1 hn H _ fun L hL h2=>⟨trivial,?_⟩);simp only[go_sem];exact av.mk (Nat.le_refl _) (hK L hL h2)
theorem P2 {n:Nat}(h1:1<=n)(hn:n<=1024)(H:AHeap)(K:ARes->AHeap->Prop)(hK:∀ M:Nat,1<=M->M<=2*n->K (.ret (.lit (.int .u64 (M:Int)))) H):ae Try.prog G0 108 [aa n] H K:=by
 have wn:IntKind.u64.wrap ((n:Nat):Int)=(n:Int):=by simp [IntKind.wrap,IntKind.bits,IntKind.signed];omega
 refine ae.cD (n:=7) (rs:=[.tmp 2]) Try.func108 rfl rfl rfl (by decide) (by simp) ?_;refine W.seq (ab _ _ _ (by rfl) ?_);simp only[go_sem];refine ab _ _ _ (by rfl) ?_;simp only[go_sem,wn];refine aw.clo (Ds h1 hn H _ fun L hL h2=>⟨trivial,?_⟩);obtain⟨M,hM⟩:∃ M,M=2 ^ L:=⟨_,rfl⟩
 have sh:∀ t o1 o2,aQ Try.prog .shl t o1 o2 (.lit (.int .u64 1)) (.lit (.int .i64 (L:Int)))=some (.lit (.int .u64 (M:Int))):=fun t o1 o2=>by
  have e:min L (IntKind.bits .u64)=L:=Nat.min_eq_left (show L<=64 by omega);have e2:((2:Int) ^ L)=(M:Int):=by rw[hM];push_cast;rfl
  rw[pL (Int.natCast_nonneg L),Int.toNat_natCast,e,Int.one_mul,e2,IntWalk.u64_in _ (by omega)]
 simp only[go_sem,sh];exact av.mk (Nat.le_refl _) (hK M (by rw[hM];exact Nat.two_pow_pos L) (by omega))
theorem P3 {rd:Nat}{a:Int}(H:AHeap)(hg:H.get rd=some (.arr 0 167 [.lit (.int .u64 a)]))(K:ARes->AHeap->Prop)(hK:∀ c,K (.ret (.lit (.int .u64 c))) (H.upd rd (.arr 0 167 [.lit (.int .u64 c)]))):ae Try.prog G0 109 [.ptr rd 0 0] H K:=by
 obtain⟨f1,h1⟩:∃ f1:Int->Int,∀ t x y a,aQ Try.prog .shl t x y (.lit (.int .u64 a)) (.lit (.int .u64 13))=some (.lit (.int .u64 (f1 a))):=⟨_,fun t x y a=>pL (by decide)⟩
 obtain⟨f2,h2⟩:∃ f2:Int->Int,∀ t x y a,aQ Try.prog .shr t x y (.lit (.int .u64 a)) (.lit (.int .u64 7))=some (.lit (.int .u64 (f2 a))):=⟨_,fun t x y a=>nE (by decide)⟩
 obtain⟨f3,h3⟩:∃ f3:Int->Int,∀ t x y a,aQ Try.prog .shl t x y (.lit (.int .u64 a)) (.lit (.int .u64 17))=some (.lit (.int .u64 (f3 a))):=⟨_,fun t x y a=>pL (by decide)⟩
 obtain⟨f4,h4⟩:∃ f4:Int->Int->Int,∀ t x y a b,aQ Try.prog .xor t x y (.lit (.int .u64 a)) (.lit (.int .u64 b))=some (.lit (.int .u64 (f4 a b))):=⟨fun a b=>_,fun t x y a b=>RY⟩
 have up:∀ (H:AHeap) (x y:Blk),(H.upd rd x).upd rd y=H.upd rd y:=fun H x y=>j8 ..;have lv:∀ (H:AHeap) (x:List AVal),(H.upd rd (.arr 0 167 x)).live rd 0=some (167,x):=fun H x=>ak (by rw[ag,if_pos rfl]);have l0:=ak hg;refine ae.cD (n:=33) (rs:=[.tmp 2]) Try.func109 rfl rfl rfl (by decide) (by simp) ?_;refine W.seq (ab _ _ _ (by rfl) ?_);simp only[go_sem];refine W.seq ?_;refine W.draw 7 [0,1,3,0,8,24,56] Try.mixed (by kernel_rfl) (by kernel_rfl) ?_;simp only[go_sem,l0,h1,h4];refine W.env fun E1 hE1=>?_;have e0:E1 0=.ptr rd 0 0:=by rw[hE1];simp only[go_sem]
 clear hE1;obtain⟨c1,hc1⟩:∃ c1,c1=f4 a (f1 a):=⟨_,rfl⟩
 rw[<- hc1];refine W.seq ?_;refine W.draw 7 [0,1,3,0,8,24,56] Try.mixed (by kernel_rfl) (by kernel_rfl) ?_;simp only[go_sem,e0,lv,h2,h4];rw[up];refine W.env fun E2 hE2=>?_;have m0:E2 0=.ptr rd 0 0:=by rw[hE2];simp only[go_sem,e0]
 clear hE2;obtain⟨c2,hc2⟩:∃ c2,c2=f4 c1 (f2 c1):=⟨_,rfl⟩
 rw[<- hc2];refine W.seq ?_;refine W.draw 7 [0,1,3,0,8,24,56] Try.mixed (by kernel_rfl) (by kernel_rfl) ?_;simp only[go_sem,m0,lv,h3,h4];rw[up];refine W.env fun E3 hE3=>?_;have u0:E3 0=.ptr rd 0 0:=by rw[hE3];simp only[go_sem,m0]
 clear hE3;refine ab _ _ _ (by rfl) ?_;simp only[go_sem,u0,lv];exact av.mk (Nat.le_refl _) (hK _)
section
variable {cv:AVal} {f:Nat->Nat} {rid:Nat} {rb:Blk} {id g n a b:Nat} {l:List Nat} {H:AHeap}
set_option maxHeartbeats 8000000 in
theorem P4 (S:SH cv f rid rb id g n l H)(hab:a+8<=b)(hb:b<=n)(K:ARes->AHeap->Prop)(hK:∀ q,bf a b l q->K (.ret (.tup [])) (H.upd id (nB g q))):
  ae Try.prog G0 98 [.own id g 0 n 1,aa a,aa b,cv] H K:=by
 refine ae.clo ⟨_,Try.func98,rfl,rfl⟩ fun hcl=>?_;have hn:=S.hn;have hil:=S.il;have hrl:=S.rl;have w0:IntKind.i64.wrap ((b:Int) - (a:Int))=((b - a:Nat):Int):=by rw[IntWalk.i64_in _ (by omega)];omega
 obtain⟨L,hL⟩:∃ L,L=b - a:=⟨_,rfl⟩
 rw[<- hL]at w0;have g8:(L:Int) >= 8:=by omega
 have w1:IntKind.u64.wrap (L:Int)=(L:Int):=IntWalk.u64_in _ (by omega);have q1:((L:Int)).tdiv 4=((L / 4:Nat):Int):=by rw[Int.tdiv_eq_ediv_of_nonneg (by omega)];push_cast;rfl
 have q2:IntKind.i64.wrap ((L / 4:Nat):Int)=((L / 4:Nat):Int):=IntWalk.i64_in _ (by omega);have q3:IntKind.i64.wrap (((L / 4:Nat):Int)*2)=((L / 4*2:Nat):Int):=by rw[IntWalk.i64_in _ (by omega)];omega
 have q4:IntKind.i64.wrap ((a:Int)+((L / 4*2:Nat):Int))=((a+L / 4*2:Nat):Int):=by rw[IntWalk.i64_in _ (by omega)];omega
 have q5:IntKind.i64.wrap (((a+L / 4*2:Nat):Int) - 1)=((a+L / 4*2 - 1:Nat):Int):=by rw[IntWalk.i64_in _ (by omega)];omega
 have q6:IntKind.i64.wrap (((a+L / 4*2:Nat):Int)+1)=((a+L / 4*2+1:Nat):Int):=by rw[IntWalk.i64_in _ (by omega)];omega
 refine ae.cD (n:=67) (rs:=[]) Try.func98 rfl rfl rfl (by decide) (by simp) ?_;refine W.seq (ab _ _ _ (by rfl) ?_);simp only[go_sem,w0];refine W.seq (ab _ _ _ (by rfl) ?_);simp only[go_sem,g8];refine ab _ _ _ (by rfl) ?_;simp only[go_sem,w1];obtain⟨H1,hH1⟩:∃ H1,H1=ext H [.arr 0 167 [.lit (.int .u64 (L:Int))]]:=⟨_,rfl⟩
 have n1:H1.next=H.next+1:=by rw[hH1];rfl
 have o1:Over H H1:=by rw[hH1];exact .ext _ _
 have gr:H1.get H.next=some (.arr 0 167 [.lit (.int .u64 (L:Int))]):=by rw[hH1];exact cu
 refine aw.clo (P2 (n:=L) (by omega) (by omega) _ _ fun M hM1 hM2=>⟨trivial,?_⟩);simp only[go_sem,q1,q2,q3,q4,q5];rw[<- hH1];refine W.env fun E hE=>?_;have e0:E 0=.own id g 0 n 1:=by rw[hE];simp only[go_sem]
 have e1:E 1=aa a:=by rw[hE];simp only[go_sem]
 have e8:E 8=aa L:=by rw[hE];simp only[go_sem]
 have e9:E 9=.ptr H.next 0 0:=by rw[hE];simp only[go_sem]
 have e10:E 10=.lit (.int .u64 (M:Int)):=by rw[hE];simp only[go_sem]
 have e11:E 11=aa ((a+L / 4*2 - 1:Nat):Int):=by rw[hE];simp only[go_sem]
 clear hE;have S1:=S.over o1;refine W.aI 147573952589407983616 (by kernel_rfl) (fun ρ Hx=>∃ (i:Nat) (q:List Nat) (c:Int),ρ 11=aa i/\a<=i/\i<=a+L / 4*2+2/\bf a b l q/\Hx.next=H1.next/\(∀ j,j<H.next->j≠id->Hx.get j=H.get j)/\Hx.get id=some (nB g q)/\Hx.get H.next=some (.arr 0 167 [.lit (.int .u64 c)])) (fun ρ Hx=>a+L / 4*2+2 - (iv (ρ 11)).toNat) ?_ ?_
 ·exact⟨_,l,_,e11,by omega,by omega,.refl _ _ _,rfl,fun j h _=>o1.old j h,S1.hg,gr⟩
 rintro ρ Hx ⟨i,q,c,h11,hi1,hi2,hp,hnx,hold,hgd,hgr⟩;refine W.env fun F hF=>?_;have d0:F 0=.own id g 0 n 1:=by rw[hF];simp only[go_sem,e0]
 have d1:F 1=aa a:=by rw[hF];simp only[go_sem,e1]
 have d8:F 8=aa L:=by rw[hF];simp only[go_sem,e8]
 have d9:F 9=.ptr H.next 0 0:=by rw[hF];simp only[go_sem,e9]
 have d10:F 10=.lit (.int .u64 (M:Int)):=by rw[hF];simp only[go_sem,e10]
 have d11:F 11=aa i:=by rw[hF];simp only[go_sem,h11]
 clear hF;have ov:Over (H.upd id (nB g q)) Hx:=⟨by rw[aA,hnx];omega,fun j hj=>by
  rw[aA]at hj;rw[ag];by_cases h:j=id
  ·rw[if_pos h,h,hgd]
  ·rw[if_neg h];exact hold j hj h⟩
 by_cases hle:(i:Int)<=((a+L / 4*2+1:Nat):Int)
 rotate_left
 ·refine ab _ _ _ (by rfl) ?_;simp only[go_sem,d1,d8,d11,q1,q2,q3,q4,q6,hle];exact⟨.tup [],H.upd id (nB g q),.freeze aV (A0 (hcl.P0 hil g _ _) ov) (.tup rfl fun i h=>absurd h (Nat.not_lt_zero _)),Nat.le_refl _,hK q hp⟩
 have wi:=IntWalk.i64_in ((i:Int)+1) (by omega);have wm:IntKind.u64.wrap ((M:Int) - 1)=((M - 1:Nat):Int):=by rw[IntWalk.u64_in _ (by omega)];omega
 refine W.seq (ab _ _ _ (by rfl) ?_);simp only[go_sem,d1,d8,d11,q1,q2,q3,q4,q6,hle];refine W.seq (W.block ?_);refine W.seq (ab _ _ _ (by rfl) ?_);simp only[go_sem,d9];refine aw.clo (P3 Hx hgr _ fun c'=>⟨trivial,?_⟩);obtain⟨y,hy⟩:∃ y,y=(BitVec.ofInt (IntKind.bits .u64) c' &&& BitVec.ofInt (IntKind.bits .u64) ((M - 1:Nat):Int)).toNat:=⟨_,rfl⟩
 have hy1:y<=M - 1:=by
  rw[hy,BitVec.toNat_and];refine Nat.le_trans Nat.and_le_right ?_;show (BitVec.ofInt 64 _).toNat<=_;rw[BitVec.ofInt_natCast,BitVec.toNat_ofNat];exact Nat.mod_le _ _
 have ha:∀ t o1 o2,aQ Try.prog .and t o1 o2 (.lit (.int .u64 c')) (.lit (.int .u64 ((M - 1:Nat):Int)))=some (.lit (.int .u64 (y:Int))):=fun t o1 o2=>by
  rw[rG,<- hy,IntWalk.u64_in _ (by omega)]
 have wy:=IntWalk.i64_in (y:Int) (by omega);simp only[go_sem,d10,wm,ha,wy];obtain⟨Hy,hHy⟩:∃ Hy,Hy=Hx.upd H.next (.arr 0 167 [.lit (.int .u64 c')]):=⟨_,rfl⟩
 have yn:Hy.next=H1.next:=by rw[hHy,aA,hnx]
 have yold:∀ j,j<H.next->j≠id->Hy.get j=H.get j:=fun j h h2=>by rw[hHy,ag,if_neg (by omega)];exact hold j h h2
 have yd:Hy.get id=some (nB g q):=by rw[hHy,ag,if_neg (by omega)];exact hgd
 have yr:Hy.get H.next=some (.arr 0 167 [.lit (.int .u64 c')]):=by rw[hHy,ag,if_pos rfl]
 rw[<- hHy];clear hHy;refine W.cL (fun s'=>s'.H=Hy/\s'.ρ 0=.own id g 0 n 1/\s'.ρ 1=aa a/\s'.ρ 11=aa i/\∃ z:Nat,s'.ρ 12=aa z/\z<L) ?_ ?_
 ·by_cases hyL:(y:Int) >= L
  ·have wz:IntKind.i64.wrap ((y:Int) - (L:Int))=((y - L:Nat):Int):=(by rw[IntWalk.i64_in _ (by omega)];omega);refine ab _ _ _ (by rfl) ?_;simp only[go_sem,d0,d1,d8,d11,hyL,wz];exact⟨y - L,rfl,by omega⟩
  ·refine ab _ _ _ (by rfl) ?_;simp only[go_sem,d0,d1,d8,d11,hyL];exact⟨y,rfl,by omega⟩
 rintro⟨ρ3,Hs⟩ ⟨hHs,v0,v1,v11,z,v12,hz⟩;simp only at hHs v0 v1 v11 v12;rw[hHs];clear hHs Hs;have pl:=hp.len;rw[S.hl]at pl;have T:SH cv f rid rb id g n q Hy:=⟨pl,hn,yd,by rw[yold rid hrl S.ne];exact S.hr,S.ne,by omega,by omega,fun x y hx hy=>S.cmp x y (hp.1.mem_iff.1 hx) (hp.1.mem_iff.1 hy)⟩
 have waz:IntKind.i64.wrap ((a:Int)+(z:Int))=((a+z:Nat):Int):=by rw[IntWalk.i64_in _ (by omega)];omega
 have i1:i<n:=by omega
 have z1:a+z<n:=by omega
 have bi:(i:Int)<n:=by omega
 have bz:((a+z:Nat):Int)<n:=by omega
 refine W.draw 18 [0,0,0,0,0,24,0,0,0,384,960,1984,0,0,12288,28672,65475,131011] Try.mixed (by kernel_rfl) (by kernel_rfl) ?_;simp only[go_sem,v0,v1,v11,v12,T.live,T.len,waz,T.cell i1,T.cell z1,bi,bz,T.s1 i1,T.s2 (i:=i) z1,T.iw,T.iy];refine⟨by omega,by omega,?_⟩
 try rw[T.u2]
 refine ab _ _ _ (by rfl) ?_;simp only[go_sem,v11,wi];refine⟨by simp only[aA];omega,⟨i+1,cj q i (a+z),c',rfl,by omega,by omega,hp.trans (.swap (by omega) (by omega) (by omega) (by omega) (by omega)),by simp only[aA];omega,fun j h h2=>?_,?_,?_⟩,by rw[h11];simp only[aa,aM];omega⟩
 ·rw[ag,if_neg h2];exact yold j h h2
 ·rw[ag,if_pos rfl]
 ·rw[ag,if_neg (by omega)];exact yr
end
end Go.Proofs
namespace Go.Proofs
open Go.Hx
section
variable {cv:AVal} {f:Nat->Nat} {rid:Nat} {rb:Blk} {id g n a b:Nat} {l:List Nat} {H:AHeap}
def sB (s:Int):Blk:=.arr 0 3 [aa s]
theorem yJ {si:Nat}{s:Int}(S:SH cv f rid rb id g n l H)(hs:H.get si=some (sB s))(ha:a<n)(hb:b<n)(K:ARes->AHeap->Prop)(hK:∀ (x y:Nat) (t:Int),(x=a/\y=b\/x=b/\y=a)->K (.ret (.tup [aa x,aa y])) (H.upd si (sB t))):
  ae Try.prog G0 113 [.own id g 0 n 1,aa a,aa b,.ptr si 0 0,cv] H K:=by
 have hn:=S.hn;have ba:(a:Int)<n:=by omega
 have bb:(b:Int)<n:=by omega
 have ls:H.live si 0=some (3,[.lit (.int .i64 s)]):=ak hs;refine ae.cD (n:=32) (rs:=[.tmp 10,.tmp 11]) Try.func113 rfl rfl rfl (by decide) (by simp) ?_;refine W.seq (ab _ _ _ (by rfl) ?_);simp only[go_sem];refine W.seq (W.cL (fun s'=>s'.H=H/\s'.ρ 1=aa a/\s'.ρ 2=aa b/\s'.ρ 3=.ptr si 0 0/\s'.ρ 22=.lit (.bool (decide (f (l.getD b 0)<f (l.getD a 0))))) ?_ ?_)
 ·refine W.draw 9 [0,0,0,6,14,0,0,96,224] Try.mixed (by kernel_rfl) (by kernel_rfl) ?_;simp only[go_sem,S.live,S.cell ha,S.cell hb,ba,bb];obtain⟨z,hz,hcc⟩:=S.ask hb ha;refine hcc _ ⟨trivial,?_⟩;by_cases hlt:f (l.getD b 0)<f (l.getD a 0)
  ·have hlt':=hz.2 hlt;simp only[go_sem,hlt',hlt]
  ·have hlt':¬ z<0:=fun h=>hlt (hz.1 h);simp only[go_sem,hlt',hlt]
 rintro⟨ρ3,Hs⟩ ⟨hHs,v1,v2,v3,vc⟩;simp only at hHs v1 v2 v3 vc;rw[hHs];clear hHs Hs;by_cases hlt:f (l.getD b 0)<f (l.getD a 0)
 ·rw[decide_eq_true hlt]at vc;refine W.cond (t:=true) vc ?_;refine ab _ _ _ (by rfl) ?_;simp only[go_sem,v1,v2,v3,ls];exact av.mk (by rw[aA];exact Nat.le_refl _) (hK b a _ (.inr ⟨rfl,rfl⟩))
 ·rw[decide_eq_false hlt]at vc;refine W.cond (t:=false) vc ?_;refine ab _ _ _ (by rfl) ?_;simp only[go_sem];refine ab _ _ _ (by rfl) ?_;simp only[go_sem,v1,v2];have:=hK a b s (.inl ⟨rfl,rfl⟩);rw[yu hs]at this;exact av.mk (Nat.le_refl _) this
theorem SH.sup (S:SH cv f rid rb id g n l H){si:Nat}(h1:si≠id)(h2:si≠rid)(b:Blk):SH cv f rid rb id g n l (H.upd si b) :=
 ⟨S.hl,S.hn,by rw[ag,if_neg (fun e=>h1 e.symm)];exact S.hg,by rw[ag,if_neg (fun e=>h2 e.symm)];exact S.hr,S.ne,S.il,S.rl,S.cmp⟩
theorem yK {si c:Nat}{s:Int}(S:SH cv f rid rb id g n l H)(h1:si≠id)(h2:si≠rid)(hs:H.get si=some (sB s))(ha:a<n)(hb:b<n)(hc:c<n)(K:ARes->AHeap->Prop)(hK:∀ (x:Nat) (t:Int),(x=a\/x=b\/x=c)->K (.ret (aa x)) (H.upd si (sB t))):
  ae Try.prog G0 111 [.own id g 0 n 1,aa a,aa b,aa c,.ptr si 0 0,cv] H K:=by
 have gs:∀ (H:AHeap) (t:Int),(H.upd si (sB t)).get si=some (sB t):=fun H t=>by rw[ag,if_pos rfl]
 refine ae.cD (n:=41) (rs:=[.tmp 12]) Try.func111 rfl rfl rfl (by decide) (by simp) ?_;refine W.seq (ab _ _ _ (by rfl) ?_);simp only[go_sem];refine W.seq (ab _ _ _ (by rfl) ?_);simp only[go_sem];refine aw.clo (yJ S hs ha hb _ fun x y t1 hxy=>⟨trivial,?_⟩);have S1:=S.sup h1 h2 (sB t1);have xn:x<n:=by omega
 have yn:y<n:=by omega
 simp only[go_sem];refine W.seq (ab _ _ _ (by rfl) ?_);simp only[go_sem];refine aw.clo (yJ S1 (gs H t1) yn hc _ fun x2 y2 t2 hxy2=>⟨trivial,?_⟩);have S2:=S1.sup h1 h2 (sB t2);have x2n:x2<n:=by omega
 simp only[go_sem];refine W.seq (ab _ _ _ (by rfl) ?_);simp only[go_sem];refine aw.clo (yJ S2 (gs _ t2) xn x2n _ fun x3 y3 t3 hxy3=>⟨trivial,?_⟩);simp only[go_sem];refine ab _ _ _ (by rfl) ?_;simp only[go_sem];rw[j8,j8];exact av.mk (by rw[aA];exact Nat.le_refl _) (hK y3 t3 (by omega))
theorem yL {si:Nat}{s:Int}(S:SH cv f rid rb id g n l H)(h1:si≠id)(h2:si≠rid)(hs:H.get si=some (sB s))(h0:1<=a)(ha:a+1<n)(K:ARes->AHeap->Prop)(hK:∀ (x:Nat) (t:Int),(x=a - 1\/x=a\/x=a+1)->K (.ret (aa x)) (H.upd si (sB t))):
  ae Try.prog G0 110 [.own id g 0 n 1,aa a,.ptr si 0 0,cv] H K:=by
 have hn:=S.hn;have w1:IntKind.i64.wrap ((a:Int) - 1)=((a - 1:Nat):Int):=by rw[IntWalk.i64_in _ (by omega)];omega
 have w2:IntKind.i64.wrap ((a:Int)+1)=((a+1:Nat):Int):=by rw[IntWalk.i64_in _ (by omega)];omega
 refine ae.cD (n:=18) (rs:=[.tmp 8]) Try.func110 rfl rfl rfl (by decide) (by simp) ?_;refine W.seq (ab _ _ _ (by rfl) ?_);simp only[go_sem];refine ab _ _ _ (by rfl) ?_;simp only[go_sem,w1,w2];refine aw.clo (yK S h1 h2 hs (by omega) (by omega) ha _ fun x t hx=>⟨trivial,?_⟩);simp only[go_sem];exact av.mk (by rw[aA];exact Nat.le_refl _) (hK x t hx)
set_option maxHeartbeats 8000000 in
theorem choose_spec (S:SH cv f rid rb id g n l H)(hab:a+8<=b)(hb:b<=n)(K:ARes->AHeap->Prop)(hK:∀ (p:Nat) (h:Int),a<=p->p<b->K (.ret (.tup [aa p,aa h])) H):
  ae Try.prog G0 99 [.own id g 0 n 1,aa a,aa b,cv] H K:=by
 refine ae.clo ⟨_,Try.func99,rfl,rfl⟩ fun hcl=>?_;have hn:=S.hn;have hil:=S.il;have hrl:=S.rl;have w0:IntKind.i64.wrap ((b:Int) - (a:Int))=((b - a:Nat):Int):=by rw[IntWalk.i64_in _ (by omega)];omega
 obtain⟨L,hL⟩:∃ L,L=b - a:=⟨_,rfl⟩
 rw[<- hL]at w0;have g8:(L:Int) >= 8:=by omega
 have q1:((L:Int)).tdiv 4=((L / 4:Nat):Int):=by rw[Int.tdiv_eq_ediv_of_nonneg (by omega)];push_cast;rfl
 have q2:IntKind.i64.wrap ((L / 4:Nat):Int)=((L / 4:Nat):Int):=IntWalk.i64_in _ (by omega);have q31:IntKind.i64.wrap (((L / 4:Nat):Int)*1)=((L / 4:Nat):Int):=by rw[IntWalk.i64_in _ (by omega)];omega
 have q32:IntKind.i64.wrap (((L / 4:Nat):Int)*2)=((L / 4*2:Nat):Int):=by rw[IntWalk.i64_in _ (by omega)];omega
 have q33:IntKind.i64.wrap (((L / 4:Nat):Int)*3)=((L / 4*3:Nat):Int):=by rw[IntWalk.i64_in _ (by omega)];omega
 have q41:IntKind.i64.wrap ((a:Int)+((L / 4:Nat):Int))=((a+L / 4:Nat):Int):=by rw[IntWalk.i64_in _ (by omega)];omega
 have q42:IntKind.i64.wrap ((a:Int)+((L / 4*2:Nat):Int))=((a+L / 4*2:Nat):Int):=by rw[IntWalk.i64_in _ (by omega)];omega
 have q43:IntKind.i64.wrap ((a:Int)+((L / 4*3:Nat):Int))=((a+L / 4*3:Nat):Int):=by rw[IntWalk.i64_in _ (by omega)];omega
 refine ae.cD (n:=63) (rs:=[.tmp 8,.tmp 9]) Try.func99 rfl rfl rfl (by decide) (by simp) ?_;refine W.seq (ab _ _ _ (by rfl) ?_);simp only[go_sem];refine W.seq (ab _ _ _ (by rfl) ?_);simp only[go_sem,w0];refine W.seq (ab _ _ _ (by rfl) ?_);simp only[go_sem];obtain⟨H1,hH1⟩:∃ H1,H1=ext H [.arr 0 3 [.lit (.int .i64 0)]]:=⟨_,rfl⟩
 have o1:Over H H1:=by rw[hH1];exact .ext _ _
 have gs0:H1.get H.next=some (sB 0):=by rw[hH1];exact cu
 rw[<- hH1];clear hH1;refine W.seq (ab _ _ _ (by rfl) ?_);simp only[go_sem,q1,q2,q31,q41];refine W.seq (ab _ _ _ (by rfl) ?_);simp only[go_sem,q1,q2,q32,q42];refine W.seq (ab _ _ _ (by rfl) ?_);simp only[go_sem,q1,q2,q33,q43];refine W.env fun E hE=>?_;have e0:E 0=.own id g 0 n 1:=by rw[hE];simp only[go_sem]
 have e3:E 3=cv:=by rw[hE];simp only[go_sem]
 have e10:E 10=aa L:=by rw[hE];simp only[go_sem]
 have e11:E 11=.ptr H.next 0 0:=by rw[hE];simp only[go_sem]
 have e12:E 12=aa ((a+L / 4:Nat):Int):=by rw[hE];simp only[go_sem]
 have e13:E 13=aa ((a+L / 4*2:Nat):Int):=by rw[hE];simp only[go_sem]
 have e14:E 14=aa ((a+L / 4*3:Nat):Int):=by rw[hE];simp only[go_sem]
 clear hE;have S1:=S.over o1;have h1:H.next≠id:=by omega
 have h2:H.next≠rid:=by omega
 have gs:∀ (H':AHeap) (t:Int),(H'.upd H.next (sB t)).get H.next=some (sB t):=fun H' t=>by rw[ag,if_pos rfl]
 refine W.cL (fun s'=>s'.ρ 11=.ptr H.next 0 0/\∃ (t:Int) (p:Nat),s'.H=H1.upd H.next (sB t)/\s'.ρ 13=aa p/\a<=p/\p<b) ?_ ?_
 ·refine ab _ _ _ (by rfl) ?_;by_cases h50:(50:Int)<=L
  ·simp only[go_sem,e0,e3,e10,e11,e12,g8,h50];refine aw.clo (yL S1 h1 h2 gs0 (by omega) (by omega) _ fun x t hx=>⟨trivial,?_⟩);simp only[go_sem,e0,e3,e11,e13];refine aw.clo (yL (S1.sup h1 h2 (sB t)) h1 h2 (gs _ t) (by omega) (by omega) _ fun x2 t2 hx2=>⟨trivial,?_⟩);rw[j8];simp only[go_sem,e0,e3,e11,e14];refine aw.clo (yL (S1.sup h1 h2 (sB t2)) h1 h2 (gs _ t2) (by omega) (by omega) _ fun x3 t3 hx3=>⟨trivial,?_⟩);rw[j8];simp only[go_sem,e0,e3,e11];refine aw.clo (yK (S1.sup h1 h2 (sB t3)) h1 h2 (gs _ t3) (by omega) (by omega) (by omega) _ fun x4 t4 hx4=>⟨trivial,?_⟩);rw[j8];simp only[go_sem,e11];exact⟨t4,x4,rfl,rfl,by omega,by omega⟩
  ·simp only[go_sem,e0,e3,e10,e11,e12,e13,e14,g8,h50];refine aw.clo (yK S1 h1 h2 gs0 (by omega) (by omega) (by omega) _ fun x4 t4 hx4=>⟨trivial,?_⟩);simp only[go_sem,e11];exact⟨t4,x4,rfl,rfl,by omega,by omega⟩
 rintro⟨ρ3,Hs⟩ ⟨v11,t,p,hHs,v13,hp1,hp2⟩;simp only at hHs v11 v13;have ls:Hs.live H.next 0=some (3,[.lit (.int .i64 t)]):=ak (by rw[hHs];exact gs _ t);have ov:Over H Hs:=by rw[hHs];exact⟨by rw[aA];exact o1.next,fun j hj=>by rw[ag,if_neg (by omega)];exact o1.old j hj⟩
 have fin:∀ h:Int,av Try.prog G0 H K (.tup [aa p,aa h]) Hs:=fun h=>av.bY aV hcl ov (.tup rfl fun i hi _=>match i,hi with
  | 0,_=>.lit _
  | 1,_=>.lit _) (hK p h hp1 hp2)
 refine ab _ _ _ (by rfl) ?_;by_cases t0:t=0
 ·simp only[go_sem,v11,v13,ls,t0];exact fin 1
 by_cases t12:t=12
 ·simp only[go_sem,v11,v13,ls,t12];exact fin 2
 simp only[go_sem,v11,v13,ls,t0,t12];exact fin 0
end
end Go.Proofs
namespace Go.Hx
theorem W.Du {P:Program}{G:Nat->Option (List AVal)}{n:Nat}{rd:Option Nat}{Q:AX->St->Prop}{s:St}{x y:Code}(Φ:St->Prop)(h:W P G n rd x (hU Φ Q) s)(h2:∀ s',Φ s'->W P G n rd y Q s'):W P G n rd (.seq x y) Q s :=
 W.seq (h.mono fun ax s' hx=>by
  cases ax with
  | normal=>exact h2 s' hx
  | _=>exact hx)
end Go.Hx
namespace Go.Proofs
open Go.Hx
theorem Bl.sub {f:Nat->Nat}{l:List Nat}{a b c:Nat}(h:Bl f l a b)(hc:c<=b):Bl f l a c:=h.imp id fun h i h1 h2=>h i h1 (by omega)
section
variable {cv:AVal} {f:Nat->Nat} {rid:Nat} {rb:Blk} {id g n:Nat}
set_option maxHeartbeats 32000000 in
theorem P5:∀ (m a b:Nat) (l:List Nat) (H:AHeap) (L:Int),b - a<m->SH cv f rid rb id g n l H->j9 f l->a<=b->b<=n->(0<=L/\L<256)->Bl f l a b->∀ (K:ARes->AHeap->Prop),(∀ q,bf a b l q->cZ f q a b->K (.ret (.tup [])) (H.upd id (nB g q))) ->
  ae Try.prog G0 92 [.own id g 0 n 1,aa a,aa b,aa L,cv] H K:=by
 intro m
 induction m with
 | zero =>
  intro a b l H L hm;omega
 | succ m ih =>
  intro a b l H L hm S hD hab hb hL hB K hK;have hn:=S.hn;refine ae.cD (n:=148) (rs:=[]) Try.func92 rfl rfl rfl (by decide) (by simp) ?_;refine W.seq (ab _ _ _ (by rfl) ?_);simp only[go_sem];refine W.seq (ab _ _ _ (by rfl) ?_);simp only[go_sem];refine W.env fun E hE=>?_;have e0:E 0=.own id g 0 n 1:=by rw[hE];simp only[go_sem]
  have e1:E 1=aa a:=by rw[hE];simp only[go_sem]
  have e2:E 2=aa b:=by rw[hE];simp only[go_sem]
  have e3:E 3=aa L:=by rw[hE];simp only[go_sem]
  have e4:E 4=cv:=by rw[hE];simp only[go_sem]
  have e10:E 10=.lit (.bool true):=by rw[hE];simp only[go_sem]
  have e11:E 11=.lit (.bool true):=by rw[hE];simp only[go_sem]
  clear hE;refine W.block ?_;refine W.aI 356811923176489970264571492362373784095685646 (by kernel_rfl) (fun ρ Hx=>∃ (c d:Nat) (M:Int) (wb wp:Bool) (q:List Nat),ρ 1=aa c/\ρ 2=aa d/\ρ 3=aa M/\ρ 10=.lit (.bool wb)/\ρ 11=.lit (.bool wp)/\a<=c/\c<=d/\d<=b/\(0<=M/\M<256)/\bf a b l q/\Out f q a b c d/\Hx=H.upd id (nB g q)) (fun ρ Hx=>(iv (ρ 2) - iv (ρ 1)).toNat) ?_ ?_
  ·exact⟨a,b,L,true,true,l,e1,e2,e3,e10,e11,Nat.le_refl _,hab,Nat.le_refl _,hL,.refl _ _ _,.start,S.self.symm⟩
  rintro ρ Hx ⟨c,d,M,wb,wp,q,h1,h2,h3,h10,h11,hac,hcd,hdb,hM,hp,hO,hHx⟩;refine W.env fun F hF=>?_;have d0:F 0=.own id g 0 n 1:=by rw[hF];simp only[go_sem,e0]
  have d1:F 1=aa c:=by rw[hF];simp only[go_sem,h1]
  have d2:F 2=aa d:=by rw[hF];simp only[go_sem,h2]
  have d3:F 3=aa M:=by rw[hF];simp only[go_sem,h3]
  have d4:F 4=cv:=by rw[hF];simp only[go_sem,e4]
  have d10:F 10=.lit (.bool wb):=by rw[hF];simp only[go_sem,h10]
  have d11:F 11=.lit (.bool wp):=by rw[hF];simp only[go_sem,h11]
  clear hF;have pl:=hp.len;rw[S.hl]at pl;have T:=S.upd hp.1;rw[<- hHx]at T;have hDq:=hD.perm hp.1;have hBq:=(hO.bl (hB.perm hp (by rw[S.hl];exact hb)) hDq hac hdb (by rw[pl];exact hb))
  have back:∀ q',bf c d q q'->cZ f q' c d->av Try.prog G0 H K (.tup []) (Hx.upd id (nB g q')):=fun q' h1 h2=>by
   rw[hHx,dQ];exact av.mk (Nat.le_refl _) (hK q' (hp.trans (h1.mono hac hdb)) ((hO.perm h1 hac hdb (by rw[pl];exact hb)).done h2))
  have wl:IntKind.i64.wrap ((d:Int) - (c:Int))=((d - c:Nat):Int):=by rw[IntWalk.i64_in _ (by omega)];omega
  obtain⟨N,hN⟩:∃ N,N=d - c:=⟨_,rfl⟩
  rw[<- hN]at wl;refine W.block ?_;refine W.seq (ab _ _ _ (by rfl) ?_);simp only[go_sem,d1,d2,wl];by_cases h12:(N:Int)<=12
  ·refine W.seq (ab _ _ _ (by rfl) ?_);simp only[go_sem,d0,d1,d2,d4,h12];refine aw.clo (PV T hcd (by omega) _ fun q' hq' hs'=>⟨trivial,?_⟩);simp only[go_sem];exact back q' hq' hs'
  refine W.seq (ab _ _ _ (by rfl) ?_);simp only[go_sem,h12];by_cases hM0:M=0
  ·refine W.seq (ab _ _ _ (by rfl) ?_);simp only[go_sem,d0,d1,d2,d3,d4,hM0];refine aw.clo (PY T (by omega) (by omega) _ fun q' hq' hs'=>⟨trivial,?_⟩);simp only[go_sem];exact back q' hq' hs'
  refine W.seq (ab _ _ _ (by rfl) ?_);simp only[go_sem,d3,hM0];refine W.env fun J hJ=>?_;have j0:J 0=.own id g 0 n 1:=by rw[hJ];simp only[go_sem,d0]
  have j1:J 1=aa c:=by rw[hJ];simp only[go_sem,d1]
  have j2:J 2=aa d:=by rw[hJ];simp only[go_sem,d2]
  have j3:J 3=aa M:=by rw[hJ];simp only[go_sem,d3]
  have j4:J 4=cv:=by rw[hJ];simp only[go_sem,d4]
  have j10:J 10=.lit (.bool wb):=by rw[hJ];simp only[go_sem,d10]
  have j11:J 11=.lit (.bool wp):=by rw[hJ];simp only[go_sem,d11]
  have j12:J 12=aa N:=by rw[hJ];simp only[go_sem]
  clear hJ;refine W.cL (fun s'=>s'.ρ 0=.own id g 0 n 1/\s'.ρ 1=aa c/\s'.ρ 2=aa d/\s'.ρ 4=cv/\s'.ρ 10=.lit (.bool wb)/\s'.ρ 11=.lit (.bool wp)/\s'.ρ 12=aa N/\∃ (M1:Int) (q1:List Nat),s'.ρ 3=aa M1/\(0<=M1/\M1<256)/\bf c d q q1/\s'.H=Hx.upd id (nB g q1)) ?_ ?_
  ·cases wb with
   | true =>
    refine ab _ _ _ (by rfl) ?_;simp only[go_sem,j0,j1,j2,j3,j4,j10,j11,j12];exact⟨M,q,rfl,hM,.refl _ _ _,T.self.symm⟩
   | false =>
    have wM:=IntWalk.i64_in (M - 1) (by omega);refine ab _ _ _ (by rfl) ?_;simp only[go_sem,j0,j1,j2,j4,j10];refine aw.clo (P4 T (by omega) (by omega) _ fun q' hq'=>⟨trivial,?_⟩);simp only[go_sem,j0,j1,j2,j3,j4,j10,j11,j12,wM];exact⟨M - 1,q',rfl,by omega,hq',rfl⟩
  rintro⟨ρa,Ha⟩ ⟨a0,a1,a2,a4,a10,a11,a12,M1,q1,a3,hM1,hp1,hHa⟩;simp only at a0 a1 a2 a4 a10 a11 a12 a3 hHa;have Ta:=T.upd hp1.1;rw[<- hHa]at Ta;refine W.seq (ab _ _ _ (by rfl) ?_);simp only[go_sem,a0,a1,a2,a4];refine aw.clo (choose_spec Ta (by omega) (by omega) _ fun p0 h0 hp01 hp02=>⟨trivial,?_⟩);simp only[go_sem];refine W.env fun R hR=>?_;have r0:R 0=.own id g 0 n 1:=by rw[hR];simp only[go_sem,a0]
  have r1:R 1=aa c:=by rw[hR];simp only[go_sem,a1]
  have r2:R 2=aa d:=by rw[hR];simp only[go_sem,a2]
  have r3:R 3=aa M1:=by rw[hR];simp only[go_sem,a3]
  have r4:R 4=cv:=by rw[hR];simp only[go_sem,a4]
  have r10:R 10=.lit (.bool wb):=by rw[hR];simp only[go_sem,a10]
  have r11:R 11=.lit (.bool wp):=by rw[hR];simp only[go_sem,a11]
  have r12:R 12=aa N:=by rw[hR];simp only[go_sem,a12]
  have r13:R 13=aa p0:=by rw[hR];simp only[go_sem]
  have r14:R 14=aa h0:=by rw[hR];simp only[go_sem]
  clear hR;refine W.cL (fun s'=>s'.ρ 0=.own id g 0 n 1/\s'.ρ 1=aa c/\s'.ρ 2=aa d/\s'.ρ 3=aa M1/\s'.ρ 4=cv/\s'.ρ 10=.lit (.bool wb)/\s'.ρ 11=.lit (.bool wp)/\s'.ρ 12=aa N/\∃ (p:Nat) (h:Int) (q2:List Nat),s'.ρ 13=aa p/\s'.ρ 14=aa h/\c<=p/\p<d/\bf c d q q2/\s'.H=Hx.upd id (nB g q2)) ?_ ?_
  ·by_cases hh:h0=2
   ·have w1:IntKind.i64.wrap ((d:Int) - 1)=((d - 1:Nat):Int):=(by rw[IntWalk.i64_in _ (by omega)];omega);have w2:IntKind.i64.wrap ((p0:Int) - (c:Int))=((p0 - c:Nat):Int):=(by rw[IntWalk.i64_in _ (by omega)];omega);have w3:IntKind.i64.wrap (((d - 1:Nat):Int) - ((p0 - c:Nat):Int))=((d - 1 - (p0 - c):Nat):Int):=(by rw[IntWalk.i64_in _ (by omega)];omega);refine ab _ _ _ (by rfl) ?_;simp only[go_sem,r0,r1,r2,r4,r14,hh];refine aw.clo (PU Ta (by omega) (by omega) _ fun q' hq'=>⟨trivial,?_⟩);simp only[go_sem,r0,r1,r2,r3,r4,r10,r11,r12,r13,w1,w2,w3];exact⟨d - 1 - (p0 - c),1,q',rfl,rfl,by omega,by omega,hp1.trans hq',by rw[hHa,dQ]⟩
   ·refine ab _ _ _ (by rfl) ?_;simp only[go_sem,r0,r1,r2,r3,r4,r10,r11,r12,r13,r14,hh];exact⟨p0,h0,q1,rfl,rfl,hp01,hp02,hp1,hHa⟩
  rintro⟨ρb,Hb⟩ ⟨b0,b1,b2,b3,b4,b10,b11,b12,p,h,q2,b13,b14,hcp,hpd,hp2,hHb⟩;simp only at b0 b1 b2 b3 b4 b10 b11 b12 b13 b14 hHb;have Tb:=T.upd hp2.1;rw[<- hHb]at Tb;have pq:=hp2.len;rw[pl]at pq;have bl2:=hBq.perm hp2 (by rw[pl];omega);refine W.Du (fun s'=>s'.ρ 0=.own id g 0 n 1/\s'.ρ 1=aa c/\s'.ρ 2=aa d/\s'.ρ 3=aa M1/\s'.ρ 4=cv/\s'.ρ 12=aa N/\s'.ρ 13=aa p/\∃ (q3:List Nat),bf c d q q3/\s'.H=Hx.upd id (nB g q3)) ?_ ?_
  ·refine W.cL (fun s'=>s'.ρ 0=.own id g 0 n 1/\s'.ρ 1=aa c/\s'.ρ 2=aa d/\s'.ρ 3=aa M1/\s'.ρ 4=cv/\s'.ρ 12=aa N/\s'.ρ 13=aa p/\s'.ρ 75=.lit (.bool (wb && wp && decide (h=1)))/\s'.H=Hb) ?_ ?_
   ·refine ab _ _ _ (by rfl) ?_;by_cases hh:h=1
    ·cases wb<;>cases wp<;>simp only[go_sem,b0,b1,b2,b3,b4,b10,b11,b12,b13,b14,hh]<;>rfl
    ·cases wb<;>cases wp<;>simp only[go_sem,b0,b1,b2,b3,b4,b10,b11,b12,b13,b14,hh]<;>rfl
   rintro⟨ρc,Hc⟩ ⟨c0,c1,c2,c3,c4,c12,c13,c75,hHc⟩;simp only at c0 c1 c2 c3 c4 c12 c13 c75 hHc;rw[hHc];clear hHc Hc;cases hfl:(wb && wp && decide (h=1)) with
   | false =>
    rw[hfl]at c75;refine W.cond (t:=false) c75 ?_;refine ab _ _ _ (by rfl) ?_;simp only[go_sem];exact⟨c0,c1,c2,c3,c4,c12,c13,q2,hp2,hHb⟩
   | true =>
    rw[hfl]at c75;refine W.cond (t:=true) c75 ?_;refine ab _ _ _ (by rfl) ?_;simp only[go_sem,c0,c1,c2,c4];refine aw.clo (PX Tb (by omega) (by omega) bl2 _ fun q' fl hq' hs'=>⟨trivial,?_⟩);cases fl with
    | true =>
     simp only[go_sem];have:=back q' (hp2.trans hq') (hs' rfl);rw[hHb,dQ];exact this
    | false =>
     simp only[go_sem];exact⟨c0,c1,c2,c3,c4,c12,c13,q',hp2.trans hq',by rw[hHb,dQ]⟩
  clear b0 b1 b2 b3 b4 b10 b11 b12 b13 b14 Tb bl2 pq hp2 hHb;clear q2 Hb;rintro⟨ρd,Hd⟩ ⟨b0,b1,b2,b3,b4,b12,b13,q2,hp2,hHb⟩;simp only at b0 b1 b2 b3 b4 b12 b13 hHb;have Tb:=T.upd hp2.1;rw[<- hHb]at Tb;have pq:=hp2.len;rw[pl]at pq;have bl2:=hBq.perm hp2 (by rw[pl];omega);have hO2:=hO.perm hp2 hac hdb (by rw[pl];exact hb);have hDq2:=hDq.perm hp2.1;refine W.Du (fun s'=>s'.ρ 0=.own id g 0 n 1/\s'.ρ 1=aa c/\s'.ρ 2=aa d/\s'.ρ 3=aa M1/\s'.ρ 4=cv/\s'.ρ 12=aa N/\s'.ρ 13=aa p/\s'.H=Hd) ?_ ?_
  ·refine W.cL (fun s'=>s'.ρ 0=.own id g 0 n 1/\s'.ρ 1=aa c/\s'.ρ 2=aa d/\s'.ρ 3=aa M1/\s'.ρ 4=cv/\s'.ρ 12=aa N/\s'.ρ 13=aa p/\s'.H=Hd/\s'.ρ 97=.lit (.bool false)) ?_ ?_
   ·refine W.draw 13 [0,1,3,7,7,7,39,119,247,7,7,1543,3591] Try.mixed (by kernel_rfl) (by kernel_rfl) ?_;by_cases hc0:(c:Int) > 0
    ·have w1:IntKind.i64.wrap ((c:Int) - 1)=((c - 1:Nat):Int):=(by rw[IntWalk.i64_in _ (by omega)];omega);have c1n:c - 1<n:=(by omega);have pn:p<n:=(by omega);have x1:((c - 1:Nat):Int)<n:=(by omega);have x2:(p:Int)<n:=(by omega);simp only[go_sem,b0,b1,b4,b13,hc0,w1,Tb.live,Tb.cell c1n,Tb.cell pn,x1,x2];obtain⟨z,hz,hcc⟩:=Tb.ask c1n pn;refine hcc _ ⟨trivial,?_⟩;have hlt:f (q2.getD (c - 1) 0)<f (q2.getD p 0):=by
      rcases bl2 with h3|h3
      ·omega
      ·exact h3 p hcp hpd
     have hlt':=hz.2 hlt;simp only[go_sem,b0,b1,b2,b3,b4,b12,b13,hlt']
     try rfl
    ·simp only[go_sem,b0,b1,b2,b3,b4,b12,b13,hc0]
     try rfl
   rintro⟨ρc,Hc⟩ ⟨c0,c1,c2,c3,c4,c12,c13,hHc,c97⟩;simp only at c0 c1 c2 c3 c4 c12 c13 c97 hHc;refine W.cond (t:=false) c97 ?_;refine ab _ _ _ (by rfl) ?_;simp only[go_sem];exact⟨c0,c1,c2,c3,c4,c12,c13,hHc⟩
  rintro⟨ρc,Hc⟩ ⟨c0,c1,c2,c3,c4,c12,c13,hHc⟩;simp only at c0 c1 c2 c3 c4 c12 c13 hHc;rw[hHc];clear hHc Hc;refine W.seq (ab _ _ _ (by rfl) ?_);simp only[go_sem,c0,c1,c2,c4,c13];refine aw.clo (PW Tb hcp hpd (by omega) _ fun q3 k al hp3 hpar hck hkd=>⟨trivial,?_⟩);have Tc:=Tb.upd hp3.1;have hp23:=hp2.trans hp3;have hO3:=hO2.perm hp3 hac hdb (by rw[pq];exact hb);have hDq3:=hDq2.perm hp3.1;have bl3:=bl2.perm hp3 (by rw[pq];omega);have pq3:=hp3.len;rw[pq]at pq3;have wk1:IntKind.i64.wrap ((k:Int) - (c:Int))=((k - c:Nat):Int):=by rw[IntWalk.i64_in _ (by omega)];omega
  have wk2:IntKind.i64.wrap ((d:Int) - (k:Int))=((d - k:Nat):Int):=by rw[IntWalk.i64_in _ (by omega)];omega
  have wk3:IntKind.i64.wrap ((k:Int)+1)=((k+1:Nat):Int):=by rw[IntWalk.i64_in _ (by omega)];omega
  have t8:((N:Int)).tdiv 8=((N / 8:Nat):Int):=by rw[Int.tdiv_eq_ediv_of_nonneg (by omega)];push_cast;rfl
  have t8w:IntKind.i64.wrap ((N / 8:Nat):Int)=((N / 8:Nat):Int):=IntWalk.i64_in _ (by omega);obtain⟨Hp,hHp⟩:∃ Hp,Hp=Hd.upd id (nB g q3):=⟨_,rfl⟩
  rw[<- hHp]at Tc ⊢;simp only[go_sem];refine W.seq (ab _ _ _ (by rfl) ?_);simp only[go_sem];refine W.seq (ab _ _ _ (by rfl) ?_);simp only[go_sem,c1,c2,wk1,wk2];refine W.seq (ab _ _ _ (by rfl) ?_);simp only[go_sem,c12,t8,t8w];by_cases hlr:((k - c:Nat):Int)<((d - k:Nat):Int)
  ·refine W.seq (ab _ _ _ (by rfl) ?_);simp only[go_sem,hlr];refine ab _ _ _ (by rfl) ?_;simp only[go_sem,c0,c1,c3,c4];refine aw.clo (ih c k q3 Hp M1 (by omega) Tc hDq3 hck (by omega) hM1 (bl3.sub (by omega)) _ fun q4 hq4 hs4=>⟨trivial,?_⟩);simp only[go_sem,c2,c3,wk3];refine⟨by rw[hHp,hHb,hHx];exact Nat.le_refl _,⟨k+1,d,M1,_,_,q4,rfl,rfl,rfl,rfl,rfl,by omega,by omega,hdb,hM1,hp.trans ((hp23.trans (hq4.mono (Nat.le_refl _) (by omega))).mono hac hdb),hO3.left hpar hck hkd hac hdb (by rw[pq3];exact hb) hq4 hs4,by rw[hHp,hHb,hHx,dQ,dQ,dQ]⟩,by rw[h1,h2];simp only[aa,aM];omega⟩
  refine W.seq (ab _ _ _ (by rfl) ?_);simp only[go_sem,hlr];refine ab _ _ _ (by rfl) ?_;simp only[go_sem,c0,c2,c3,c4,wk3];refine aw.clo (ih (k+1) d q3 Hp M1 (by omega) Tc hDq3 (by omega) (by omega) hM1 (.inr fun i i1 i2=>?_) _ fun q4 hq4 hs4=>⟨trivial,?_⟩)
  ·have i3:=hpar.2 i (by omega) i2;have i4:=hDq3.ne (i:=k) (j:=i) (by omega) (by omega) (by omega);rw[Nat.add_sub_cancel];omega
  simp only[go_sem,c1,c2,c3];refine⟨by rw[hHp,hHb,hHx];exact Nat.le_refl _,⟨c,k,M1,_,_,q4,rfl,rfl,rfl,rfl,rfl,hac,hck,by omega,hM1,hp.trans ((hp23.trans (hq4.mono (by omega) (Nat.le_refl _))).mono hac hdb),hO3.right hpar hck hkd hac hdb (by rw[pq3];exact hb) hq4 hs4,by rw[hHp,hHb,hHx,dQ,dQ,dQ]⟩,by rw[h1,h2];simp only[aa,aM];omega⟩
end
end Go.Proofs
set_option linter.unusedVariables false
namespace Go.Proofs
theorem Eb {l:List Nat}{m i:Nat}(hi:l[m]?=some i)(a:Nat):a∈l.take (m+1)↔a∈l.take m\/a=i:=by
 rw[List.take_add_one,hi];simp
theorem Rl {l:List Nat}(hnd:l.Nodup){m i:Nat}(hi:l[m]?=some i):i ∉ l.take m:=fun h=>by
 obtain⟨j,hj⟩:=List.mem_iff_getElem?.1 h;have hjm:j<m:=by
  have:=get_lt hj;rw[List.length_take]at this;omega
 rw[List.getElem?_take_of_lt hjm]at hj;have:=(List.getElem?_inj (get_lt hj) hnd).1 (hj.trans hi.symm);omega
theorem Rm (least sp:Int)(c:List Int)(l:List Nat):dY least sp c (fun a=>decide (a∈l.take 0))=(List.range c.length).map fun i=>least+partAt sp c i:=by
 unfold dY;refine List.map_congr_left fun i _=>?_;simp
theorem Ro {least sp:Int}{c:List Int}{l:List Nat}(hnd:l.Nodup){m i:Nat}(hi:l[m]?=some i)(hic:i<c.length):(dY least sp c fun a=>decide (a∈l.take m))[i]?=some (least+partAt sp c i):=by
 rw[uM hic,decide_eq_false (Rl hnd hi)];simp
theorem Rp {least sp:Int}{c:List Int}{l:List Nat}(hnd:l.Nodup){m i:Nat}(hi:l[m]?=some i)(hic:i<c.length):(dY least sp c fun a=>decide (a∈l.take m)).set i (least+partAt sp c i+1)=dY least sp c fun a=>decide (a∈l.take (m+1)):=by
 apply List.ext_getElem?;intro a;rw[List.getElem?_set];by_cases h:i=a
 ·subst h;rw[if_pos rfl,if_pos (by rw[pG];exact hic),uM hic,decide_eq_true ((Eb hi i).2 (.inr rfl))];simp
 ·rw[if_neg h];rcases Nat.lt_or_ge a c.length with ha|ha
  ·rw[uM ha,uM ha];congr 2;have:(a∈l.take (m+1))↔a∈l.take m:=(by rw[Eb hi];exact⟨fun h'=>h'.elim id fun e=>absurd e.symm h,.inl⟩);simp only[this]
  ·rw[List.getElem?_eq_none (by rw[pG];exact ha),List.getElem?_eq_none (by rw[pG];exact ha)]
theorem Rq {sp:Int}{c:List Int}(h:0<c.sum){i:Nat}{x:Int}(hx:c[i]?=some x):partAt sp c i=sp*x / c.sum/\dk sp c i=sp*x % c.sum:=by
 unfold partAt dk fI dR;rw[if_pos h,if_pos h,List.getD_eq_getElem?_getD,hx];exact⟨rfl,rfl⟩
theorem Rr {sp:Int}{c:List Int}(h:¬ 0<c.sum){i:Nat}(hi:i<c.length):partAt sp c i=sp / c.length/\dk sp c i=sp % c.length:=by
 unfold partAt dk fI dR;rw[if_neg h,if_neg h,List.getD_eq_getElem?_getD,List.getElem?_replicate,if_pos hi];simp
def iF (sp:Int)(c:List Int)(k:Nat):Int:=sp - ((List.range k).map (partAt sp c)).sum
theorem Ec (sp:Int)(c:List Int)(k:Nat):iF sp c (k+1)=iF sp c k - partAt sp c k:=by
 unfold iF;rw[List.range_succ,List.map_append,List.sum_append];simp;omega
theorem Ed {sp:Int}{c:List Int}(hc:∀ x∈c,0<=x)(h0:0<c.length)(hs:0<=sp)(i:Nat):partAt sp c i<=sp:=by
 have hT:=pF h0;refine Int.ediv_le_of_le_mul hT ?_;have:(fI c).getD i 0<=dR c:=by
  rw[List.getD_eq_getElem?_getD];cases e:(fI c)[i]? with
  | none=>exact Int.le_of_lt hT
  | some a =>
   have:=D9 (D4 hc) a (List.mem_of_getElem? e);rw[D3]at this;exact this
 exact Int.mul_le_mul_of_nonneg_left this hs
theorem Rs {sp:Int}{c:List Int}(hc:∀ x∈c,0<=x)(h0:0<c.length)(hs:0<=sp)(k:Nat):iF sp c k<=sp/\sp - sp*k<=iF sp c k:=by
 induction k with
 | zero=>simp [iF]
 | succ k ih =>
  rw[Ec];have h1:=za hc h0 hs k;have h2:=Ed hc h0 hs k;have h3:sp*((k+1:Nat):Int)=sp*k+sp:=by push_cast;rw[Int.mul_add,Int.mul_one]
  omega
end Go.Proofs
namespace Go.Proofs
open Go.Hx
theorem P6 {cv:AVal}{f:Nat->Nat}{rid:Nat}{rb:Blk}{id g n:Nat}{l:List Nat}{H:AHeap}(S:SH cv f rid rb id g n l H)(hD:j9 f l)(h1:1<=n)(K:ARes->AHeap->Prop)(hK:∀ q,q.Perm l->Ea f q q.length->K (.ret (.tup [])) (H.upd id (nB g q))):
  ae Try.prog G0 75 [.own id g 0 n 1,cv] H K:=by
 have hn:=S.hn;have wn:IntKind.u64.wrap ((n:Nat):Int)=(n:Int):=IntWalk.u64_in _ (by omega);have w2:=IntWalk.i64_in (n:Int) (by omega);refine ae.cD (n:=14) (rs:=[]) Try.func75 rfl rfl rfl (by decide) (by simp) ?_;refine W.seq (ab _ _ _ (by rfl) ?_);simp only[go_sem,S.live];refine ab _ _ _ (by rfl) ?_;simp only[go_sem,wn];refine aw.clo (Ds h1 hn H _ fun L hL _=>⟨trivial,?_⟩);simp only[go_sem];refine aw.clo (P5 (n+1) 0 n l H L (by omega) S hD (by omega) (Nat.le_refl _) (by omega) (.inl rfl) _ fun q hq hs=>⟨trivial,?_⟩);simp only[go_sem];exact av.mk (by rw[aA];exact Nat.le_refl _) (hK q hq.1 fun a b h1 h2=>hs a b (Nat.zero_le _) h1 (by rw[hq.len,S.hl]at h2;exact h2))
theorem P7 {r:Nat->Int}{T n:Nat}(hr:∀ i,i<n->0<=r i/\r i<T):j9 (nu r T n) (List.range n):=by
 unfold j9;rw[List.nodup_iff_pairwise_ne,List.pairwise_map];refine(List.Pairwise.and_mem.1 (List.nodup_iff_pairwise_ne.1 List.nodup_range)).imp fun {i j} ⟨hi,hj,hne⟩ e=>?_;have hi:=List.mem_range.1 hi;have hj:=List.mem_range.1 hj;rcases D2 hne (r:=r) with b|b
 ·have:=(uN hr hi hj).2 b;omega
 ·have:=(uN hr hj hi).2 b;omega
theorem P8 {id g n:Nat}{rs:List Int}(hn:rs.length=n)(hr:∀ x∈rs,0<=x/\x<1125899906842624)(hn6:n<=1024){T:Nat}(hT:∀ i,i<n->0<=rs.getD i 0/\rs.getD i 0<T){l:List Nat}(hl:∀ a∈l,a<n):
  C3 (.clo 76 [.own id g 0 n 1] []) (nu (fun i=>rs.getD i 0) T n) l (fun Hx=>Hx.get id=some (.arr g 3 (ints rs))):=by
 intro a b ha hb Hx hI;have ha:=hl a ha;have hb:=hl b hb;obtain⟨x,hx⟩:=get_of_lt (l:=rs) (i:=a) (by omega);obtain⟨y,hy⟩:=get_of_lt (l:=rs) (i:=b) (by omega);have hxr:=hr x (List.mem_of_getElem? hx);have hyr:=hr y (List.mem_of_getElem? hy);have ex:rs.getD a 0=x:=by rw[List.getD_eq_getElem?_getD,hx];rfl
 have ey:rs.getD b 0=y:=by rw[List.getD_eq_getElem?_getD,hy];rfl
 have hxn:=aN hx;have hyn:=aN hy;have lv:=ak hI;have hil:=aZ rs;rw[hn]at hil;have bx:(a:Int)<n:=by omega
 have by':(b:Int)<n:=by omega
 have w1:=IntWalk.i64_in (y - x) (by omega);have w2:=IntWalk.i64_in ((a:Int) - (b:Int)) (by omega);refine⟨if x=y then (a:Int) - b else y - x,?_,fun K hK=>aw.clo ?_⟩
 ·rw[uN hT ha hb];unfold before;simp only[ex,ey];split<;>omega
 simp only[List.cons_append,List.nil_append,List.append_nil];refine ae.cD (n:=28) (rs:=[.tmp 6]) Try.func76 rfl rfl rfl (by decide) (by simp) ?_;refine W.seq (ab _ _ _ (by rfl) ?_);simp only[go_sem];refine W.seq (W.cL (fun s'=>s'.H=Hx/\s'.ρ 0=.own id g 0 n 1/\s'.ρ 1=aa a/\s'.ρ 2=aa b/\s'.ρ 15=.lit (.bool (!decide (x=y)))) ?_ ?_)
 ·refine W.draw 8 [0,0,3,7,0,0,48,112] Try.mixed (by kernel_rfl) (by kernel_rfl) ?_;simp only[go_sem,lv,hx,hy,bx,by']
 rintro⟨ρ,Hq⟩ ⟨hHq,q0,q1,q2,q15⟩;simp only at hHq q0 q1 q2 q15;rw[hHq];by_cases hxy:x=y
 ·rw[if_pos hxy]at hK;rw[decide_eq_true hxy]at q15;refine W.cond (t:=false) q15 ?_;refine ab _ _ _ (by rfl) ?_;simp only[go_sem];refine ab _ _ _ (by rfl) ?_;simp only[go_sem,q1,q2,w2];exact av.mk (Nat.le_refl _) hK
 ·rw[if_neg hxy]at hK;rw[decide_eq_false hxy]at q15;refine W.cond (t:=true) q15 ?_;refine W.seq ?_;refine W.draw 8 [0,0,3,7,0,0,48,112] Try.mixed (by kernel_rfl) (by kernel_rfl) ?_;simp only[go_sem,q0,q1,q2,lv,hx,hy,bx,by',w1];refine ab _ _ _ (by rfl) ?_;simp only[go_sem];exact av.mk (Nat.le_refl _) hK
theorem Dw {c:List Int}{i:Nat}{x:Int}(h:c[i]?=some x):(c.take (i+1)).sum=(c.take i).sum+x:=by rw[aL h];simp
theorem Dx {c:List Int}(hc:∀ x∈c,0<=x/\x<=1099511627776)(i:Nat):0<=(c.take i).sum/\(c.take i).sum<=1099511627776*(c.take i).length:=by
 have:∀ l:List Int,(∀ x∈l,0<=x/\x<=1099511627776)->0<=l.sum/\l.sum<=1099511627776*l.length:=by
  intro l
  induction l with
  | nil=>intro _;simp
  | cons a l ih =>
   intro h;have h1:=h a (by simp);have h2:=ih fun x hx=>h x (by simp [hx]);rw[List.sum_cons,List.length_cons];omega
 exact this _ fun x hx=>hc x (List.mem_of_mem_take hx)
set_option maxHeartbeats 8000000 in
theorem Dy {c:List Int}{grain least:Int}{n:Nat}(hn:c.length=n)(h0:1<=n)(hl:n<=1024)(hc:∀ x∈c,0<=x/\x<=1099511627776)(hg:1<=grain/\grain<=720)(hle:0<=least/\least<=720)(H:AHeap)(K:ARes->AHeap->Prop)
  (hE:grain<least*n->K (.ret (.tup [.lit (.slice none 0 0),aa 2])) H)
  (hK:∀ s v H',least*n<=grain->jC least (eC grain least c) c s->Over H H'->aB H.next H' 3 v (ints s)->K (.ret (.tup [v,aa 0])) H'):
  ae Try.prog G0 48 [.vec n (ints c),aa grain,aa least] H K:=by
 have hil:=aZ c;rw[hn]at hil;have b1:¬ (n:Int)<1:=by omega
 have b2:¬ (n:Int) > 1024:=by omega
 refine ae.cD (n:=144) (rs:=[.tmp 6,.tmp 7]) Try.func48 rfl rfl rfl (by decide) (by simp) ?_;refine W.seq (ab _ _ _ (by rfl) ?_);simp only[go_sem];refine W.seq (ab _ _ _ (by rfl) ?_);simp only[go_sem,b1,b2];refine W.seq (ab _ _ _ (by rfl) ?_);simp only[go_sem];refine W.seq (ab _ _ _ (by rfl) ?_);simp only[go_sem];refine W.env fun E hE1=>?_;have e0:E 0=.vec n (ints c):=by rw[hE1];simp only[go_sem]
 have e1:E 1=aa grain:=by rw[hE1];simp only[go_sem]
 have e2:E 2=aa least:=by rw[hE1];simp only[go_sem]
 have e8:E 8=aa 0:=by rw[hE1];simp only[go_sem]
 have e30:E 30=.vec n (ints c):=by rw[hE1];simp only[go_sem]
 have e31:E 31=aa n:=by rw[hE1];simp only[go_sem]
 have e32:E 32=aa 0:=by rw[hE1];simp only[go_sem]
 clear hE1;refine W.aI 70364449211840 (by rfl) (fun ρ Hx=>Hx=H/\∃ i:Nat,ρ 32=aa i/\i<=n/\ρ 8=aa (c.take i).sum) (fun ρ Hx=>n - (iv (ρ 32)).toNat) ?_ ?_
 ·exact⟨rfl,0,e32,by omega,e8⟩
 rintro ρ Hx ⟨hHx,i,h32,hi,h8⟩;rw[hHx];refine W.env fun E1 hE1=>?_;have f0:E1 0=.vec n (ints c):=by rw[hE1];simp only[go_sem,e0]
 have f1:E1 1=aa grain:=by rw[hE1];simp only[go_sem,e1]
 have f2:E1 2=aa least:=by rw[hE1];simp only[go_sem,e2]
 have f8:E1 8=aa (c.take i).sum:=by rw[hE1];simp only[go_sem,h8]
 have f30:E1 30=.vec n (ints c):=by rw[hE1];simp only[go_sem,e30]
 have f31:E1 31=aa n:=by rw[hE1];simp only[go_sem,e31]
 have f32:E1 32=aa i:=by rw[hE1];simp only[go_sem,h32]
 clear hE1;have hsr:=Dx hc i;have htl:((c.take i).length:Int)<=1024:=by rw[List.length_take];omega
 by_cases hb:(i:Int)<n
 ·obtain⟨x,hx⟩:=get_of_lt (l:=c) (i:=i) (by omega);have hxr:=hc x (List.mem_of_getElem? hx);have hxn:=aN hx;have x1:¬ x<0:=by omega
  have x2:¬ x > 1099511627776:=by omega
  have w1:=IntWalk.i64_in ((c.take i).sum+x) (by omega);have w2:=IntWalk.i64_in ((i:Int)+1) (by omega);refine ab _ _ _ (by rfl) ?_;simp only[go_sem,f8,f30,f31,f32,hb,hx,hxn,x1,x2,w1,w2];exact⟨⟨i+1,rfl,by omega,by rw[Dw hx]⟩,by rw[h32];simp only[aa,aM];omega⟩
 have hin:i=n:=by omega
 rw[hin,<- hn,List.take_length]at f8 hsr;have g1:¬ grain<1:=by omega
 have g2:¬ grain > 720:=by omega
 have g3:¬ least<0:=by omega
 have gn:¬ (n:Int)=0:=by omega
 have gt:grain.tdiv n=grain / n:=Int.tdiv_eq_ediv_of_nonneg (by omega);have gw:=IntWalk.i64_in (grain / n) (by have:=Int.ediv_nonneg (a:=grain) (b:=n) (by omega) (by omega);have:=Int.ediv_le_self (a:=grain) n (by omega);omega);refine ab _ _ _ (by rfl) ?_;simp only[go_sem,f31,f32,hb];by_cases hfit:grain<least*n
 ·have g4:least > grain / n:=by
   refine Classical.byContradiction fun h=>?_;have:=(Int.le_ediv_iff_mul_le (show (0:Int)<n by omega)).1 (Int.not_lt.1 h);omega
  refine W.seq (ab _ _ _ (by rfl) ?_);simp only[go_sem,f0,f1,f2,g1,g2,g3,gn,gt,gw,g4];exact av.mk (Nat.le_refl _) (hE hfit)
 have g4:¬ least > grain / n:=fun h=>by
  have:=(Int.le_ediv_iff_mul_le (show (0:Int)<n by omega)).2 (Int.not_lt.1 hfit);omega
 refine W.seq (ab _ _ _ (by rfl) ?_);simp only[go_sem,f0,f1,f2,g1,g2,g3,gn,gt,gw,g4];have m0:0<=least*n:=Int.mul_nonneg hle.1 (by omega);have wm:=IntWalk.i64_in (least*(n:Int)) (by omega);have wsb:=IntWalk.i64_in (grain - least*(n:Int)) (by omega);obtain⟨sp,hsp⟩:∃ sp,sp=grain - least*n:=⟨_,rfl⟩
 have hsp':eC grain least c=sp:=by unfold eC;rw[hn,hsp]
 rw[<- hsp]at wsb;have sp0:0<=sp/\sp<=720:=by omega
 refine W.seq (ab _ _ _ (by rfl) ?_);simp only[go_sem,f0,f1,f2,wm,<- hsp,wsb];refine W.seq (ab _ _ _ (by rfl) ?_);simp only[go_sem];refine W.seq (ab _ _ _ (by rfl) ?_);simp only[go_sem,f0];refine⟨⟨by omega,by omega⟩,?_⟩;refine W.seq (ab _ _ _ (by rfl) ?_);simp only[go_sem,f0];refine⟨⟨by omega,by omega⟩,?_⟩;refine W.seq (ab _ _ _ (by rfl) ?_);simp only[go_sem,f0];refine⟨⟨by omega,by omega⟩,?_⟩;refine W.seq (ab _ _ _ (by rfl) ?_);simp only[go_sem,f0];have hz:List.replicate n (AVal.lit (.int .i64 0))=ints (List.replicate n 0):=by simp only[ints,List.map_replicate];rfl
 rw[hz];obtain⟨H1,hH1⟩:∃ H1,H1=ext H [.arr 0 3 (ints (List.replicate n 0)),.arr 0 3 (ints (List.replicate n 0)),.arr 0 3 (ints (List.replicate n 0))]:=⟨_,rfl⟩
 have ga:H1.get H.next=some (.arr 0 3 (ints (List.replicate n 0))):=by rw[hH1];exact bg H _ 0 (by simp)
 have gb:H1.get (H.next+1)=some (.arr 0 3 (ints (List.replicate n 0))):=by rw[hH1];exact bg H _ 1 (by simp)
 have go:H1.get (H.next+2)=some (.arr 0 3 (ints (List.replicate n 0))):=by rw[hH1];exact bg H _ 2 (by simp)
 have n1:H1.next=H.next+3:=by rw[hH1];rfl
 have o1:Over H H1:=by rw[hH1];exact .ext _ _
 rw[<- hH1];refine W.env fun E2 hE2=>?_;have a0:E2 0=.vec n (ints c):=by rw[hE2];simp only[go_sem,f0]
 have a2:E2 2=aa least:=by rw[hE2];simp only[go_sem,f2]
 have a8:E2 8=aa c.sum:=by rw[hE2];simp only[go_sem,f8]
 have a11:E2 11=aa sp:=by rw[hE2];simp only[go_sem,<- hsp]
 have a12:E2 12=aa sp:=by rw[hE2];simp only[go_sem,<- hsp]
 have a13:E2 13=.own H.next 0 0 n 1:=by rw[hE2];simp only[go_sem]
 have a14:E2 14=.own (H.next+1) 0 0 n 1:=by rw[hE2];simp only[go_sem]
 have a15:E2 15=.own (H.next+2) 0 0 n 1:=by rw[hE2];simp only[go_sem]
 have a80:E2 80=.vec n (ints c):=by rw[hE2];simp only[go_sem]
 have a81:E2 81=aa n:=by rw[hE2];simp only[go_sem]
 have a82:E2 82=aa 0:=by rw[hE2];simp only[go_sem]
 clear hE2 hH1;have hrs:=fun k=>Rs (sp:=sp) (c:=c) (fun x h=>(hc x h).1) (by omega) sp0.1 k;have hpn:=fun k=>za (c:=c) (fun x h=>(hc x h).1) (by omega) sp0.1 k;have hpl:=fun k=>Ed (c:=c) (fun x h=>(hc x h).1) (by omega) sp0.1 k;have hrb:=fun k=>yZ (sp:=sp) (c:=c) (by omega) k;have hT:dR c<=1125899906842624:=by unfold dR;split<;>omega
 refine W.aI 21267647932553818263182454447787675648 (by kernel_rfl) (fun ρ Hx=>∃ (i:Nat) (A B O:List Int),ρ 82=aa i/\i<=n/\ρ 12=aa (iF sp c i)/\Hx.next=H1.next/\(∀ j,j<H.next->Hx.get j=H.get j)/\Hx.get H.next=some (.arr 0 3 (ints A))/\Hx.get (H.next+1)=some (.arr 0 3 (ints B))/\Hx.get (H.next+2)=some (.arr 0 3 (ints O)) /\
  (A.length=n/\B.length=n/\O.length=n)/\∀ j,j<i->A[j]?=some (least+partAt sp c j)/\B[j]?=some (dk sp c j)/\O[j]?=some (j:Int)) (fun ρ Hx=>n - (iv (ρ 82)).toNat) ?_ ?_
 ·exact⟨0,_,_,_,a82,by omega,a12.trans (by unfold iF;simp),rfl,fun j h=>o1.old j h,ga,gb,go,by simp,fun j h=>absurd h (Nat.not_lt_zero _)⟩
 rintro ρ2 Hx ⟨k,A,B,O,h82,hk,h12,nx,hold,xa,xb,xo,⟨lA,lB,lO⟩,hall⟩;refine W.env fun E3 hE3=>?_;have d0:E3 0=.vec n (ints c):=by rw[hE3];simp only[go_sem,a0]
 have d2:E3 2=aa least:=by rw[hE3];simp only[go_sem,a2]
 have d8:E3 8=aa c.sum:=by rw[hE3];simp only[go_sem,a8]
 have d11:E3 11=aa sp:=by rw[hE3];simp only[go_sem,a11]
 have d12:E3 12=aa (iF sp c k):=by rw[hE3];simp only[go_sem,h12]
 have d13:E3 13=.own H.next 0 0 n 1:=by rw[hE3];simp only[go_sem,a13]
 have d14:E3 14=.own (H.next+1) 0 0 n 1:=by rw[hE3];simp only[go_sem,a14]
 have d15:E3 15=.own (H.next+2) 0 0 n 1:=by rw[hE3];simp only[go_sem,a15]
 have d80:E3 80=.vec n (ints c):=by rw[hE3];simp only[go_sem,a80]
 have d81:E3 81=aa n:=by rw[hE3];simp only[go_sem,a81]
 have d82:E3 82=aa k:=by rw[hE3];simp only[go_sem,h82]
 clear hE3;by_cases hb2:(k:Int)<n;rotate_left
 ·have hkn:k=n:=by omega
  refine ab _ _ _ (by rfl) ?_;simp only[go_sem,d81,d82,hb2];rw[hkn]at d12 hall;have eA:A=dY least sp c fun a=>decide (a∈([]:List Nat).take 0):=by
   rw[Rm];apply List.ext_getElem?;intro j;rcases Nat.lt_or_ge j n with h|h
   ·rw[(hall j h).1,List.getElem?_map,List.getElem?_range (by omega)];rfl
   ·rw[List.getElem?_eq_none (by omega),List.getElem?_eq_none (by simp;omega)]
  have eO:O=dH (List.range n):=by
   apply List.ext_getElem?;intro j;rcases Nat.lt_or_ge j n with h|h
   ·rw[(hall j h).2.2,yv (List.getElem?_range h)]
   ·rw[List.getElem?_eq_none (by omega),List.getElem?_eq_none (by rw[pe,List.length_range];omega)]
  have eB:∀ j,j<n->B.getD j 0=dk sp c j:=fun j h=>by rw[List.getD_eq_getElem?_getD,(hall j h).2.1];rfl
  rw[eO]at xo;obtain⟨T,hTe⟩:=Int.eq_ofNat_of_zero_le (Int.le_of_lt (pF (c:=c) (by omega)));have hBr:∀ x∈B,0<=x/\x<1125899906842624:=fun x hx=>by
   obtain⟨j,hj⟩:=List.mem_iff_getElem?.1 hx;have hjn:=get_lt hj;rw[(hall j (by omega)).2.1]at hj;cases hj;have:=hrb j;omega
  have hBT:∀ j,j<n->0<=B.getD j 0/\B.getD j 0<T:=fun j h=>by
   rw[eB j h,<- hTe];exact hrb j
  have hcmp:=P8 (id:=H.next+1) (g:=0) lB hBr (by omega) hBT (l:=List.range n) (fun a h=>List.mem_range.1 h);have xon:Hx.get (H.next+2)=some (nB 0 (List.range n)):=xo;refine W.seq (ab _ _ _ (by rfl) ?_);simp only[go_sem,d14,d15];have SHx:SH (.clo 76 [.own (H.next+1) 0 0 n 1] []) (nu (fun i=>B.getD i 0) T n) (H.next+1) (.arr 0 3 (ints B)) (H.next+2) 0 n (List.range n) Hx :=
   ⟨List.length_range,hl,xon,xb,by omega,by omega,by omega,hcmp⟩
  refine aw.clo (P6 SHx (P7 hBT) (by omega) _ fun l hp hs=>⟨trivial,?_⟩);obtain⟨H4,hH4⟩:∃ H4,H4=Hx.upd (H.next+2) (nB 0 l):=⟨_,rfl⟩
  rw[<- hH4];have hpw:=Rk (r:=fun i=>B.getD i 0) (T:=T) (n:=n) hBT hp hs;have pl:=hp.length_eq;rw[List.length_range]at pl;have hlm:∀ a∈l,a<n:=fun a h=>List.mem_range.1 (hp.mem_iff.1 h);have hnd:l.Nodup:=hp.nodup_iff.2 List.nodup_range;have n4:H4.next=Hx.next:=by rw[hH4,aA]
  have g4o:H4.get (H.next+2)=some (.arr 0 3 (ints (dH l))):=by rw[hH4,ag,if_pos rfl];rfl
  have g4a:H4.get H.next=some (.arr 0 3 (ints (dY least sp c fun a=>decide (a∈l.take 0)))):=by rw[hH4,ag,if_neg (by omega),xa,eA];rfl
  have old4:∀ j,j<H.next->H4.get j=H.get j:=fun j h=>by rw[hH4,ag,if_neg (by omega)];exact hold j h
  clear hH4;have hLb:=y6 (sp:=sp) (c:=c) (by omega);have hLk:iF sp c n=iE sp c:=by unfold iF iE;rw[hn]
  obtain⟨L,hL⟩:=Int.eq_ofNat_of_zero_le hLb.1;rw[hLk,hL]at d12;have Ln:L<n:=by omega
  have l4o:=ak g4o;have iol:(ints (dH l)).length=n:=by rw[aZ,pe,pl]
  have L0:(0:Int)<=L:=by omega
  have L1:(L:Int)<=n:=by omega
  simp only[go_sem];refine W.seq (ab _ _ _ (by rfl) ?_);simp only[go_sem,d12,d15,l4o,L0,L1];refine W.env fun E4 hE4=>?_;have k13:E4 13=.own H.next 0 0 n 1:=by rw[hE4];simp only[go_sem,d13]
  have k130:E4 130=.own (H.next+2) 0 0 L 1:=by rw[hE4];simp only[go_sem]
  have k131:E4 131=aa L:=by rw[hE4];simp only[go_sem]
  have k132:E4 132=aa 0:=by rw[hE4];simp only[go_sem]
  clear hE4;refine W.aI 11144928081394576555352445142605272463704064 (by kernel_rfl) (fun ρ Hy=>∃ m:Nat,ρ 132=aa m/\m<=L/\Hy.next=H4.next/\(∀ j,j<H.next->Hy.get j=H.get j)/\Hy.get (H.next+2)=some (.arr 0 3 (ints (dH l)))/\Hy.get H.next=some (.arr 0 3 (ints (dY least sp c fun a=>decide (a∈l.take m))))) (fun ρ Hy=>L - (iv (ρ 132)).toNat) ?_ ?_
  ·exact⟨0,k132,by omega,rfl,old4,g4o,g4a⟩
  rintro ρ3 Hy ⟨m,h132,hm,ny,oldy,gyo,gya⟩;refine W.env fun E5 hE5=>?_;have u13:E5 13=.own H.next 0 0 n 1:=by rw[hE5];simp only[go_sem,k13]
  have u130:E5 130=.own (H.next+2) 0 0 L 1:=by rw[hE5];simp only[go_sem,k130]
  have u131:E5 131=aa L:=by rw[hE5];simp only[go_sem,k131]
  have u132:E5 132=aa m:=by rw[hE5];simp only[go_sem,h132]
  clear hE5;have lyo:=ak gyo;have lya:=ak gya;have isl:(ints (dY least sp c fun a=>decide (a∈l.take m))).length=n:=by rw[aZ,pG,hn]
  by_cases hb3:(m:Int)<L;rotate_left
  ·have hmL:m=L:=(by omega);subst hmL;have hTop:Top (dk sp c) n m (fun i=>decide (i∈l.take m)):=by
    have hpw':l.Pairwise (before (dk sp c)):=(List.Pairwise.and_mem.1 hpw).imp fun {i j} ⟨hi,hj,h⟩=>by
     unfold before at h ⊢;simp only[eB i (hlm i hi),eB j (hlm j hj)]at h;exact h
    exact Top.sorted hp hpw' (by omega)
   refine ab _ _ _ (by rfl) ?_;simp only[go_sem,u131,u132,hb3];refine ab _ _ _ (by rfl) ?_;simp only[go_sem,u13];have hov:Over H Hy:=⟨by omega,oldy⟩
   refine av.mk hov.next (hK _ _ Hy (by omega) (by rw[hsp'];exact⟨_,by rw[hL,Int.toNat_natCast,hn];exact hTop,rfl⟩) hov (.inr ⟨H.next,0,Nat.le_refl _,by omega,?_,gya⟩));rw[isl]
  obtain⟨q,hq⟩:=get_of_lt (l:=l) (i:=m) (by omega);have hqn:=hlm q (List.mem_of_getElem? hq);have gq:(ints (dH l))[m]?=some (aa q):=by rw[gF,yv hq];rfl
  have gqn:=aN gq;have gs:(ints (dY least sp c fun a=>decide (a∈l.take m)))[q]?=some (aa (least+partAt sp c q)):=by rw[gF,Ro hnd hq (by omega)];rfl
  have gsn:=aN gs;have qb:(q:Int)<n:=by omega
  have wq:=IntWalk.i64_in (least+partAt sp c q+1) (by have:=hpn q;have:=hpl q;omega);have wm1:=IntWalk.i64_in ((m:Int)+1) (by omega);have es:setAt (ints (dY least sp c fun a=>decide (a∈l.take m))) q [.lit (.int .i64 (least+partAt sp c q+1))]=ints (dY least sp c fun a=>decide (a∈l.take (m+1))):=by rw[eS (by rw[pG];omega),Rp hnd hq (by omega)]
  refine W.seq (ab _ _ _ (by rfl) ?_);simp only[go_sem,u131,u132,hb3];refine W.seq (ab _ _ _ (by rfl) ?_);simp only[go_sem];refine W.seq (W.block ?_);refine W.seq (ab _ _ _ (by rfl) ?_);simp only[go_sem,u130,u132,lyo,gq,hb3];refine ab _ _ _ (by rfl) ?_;simp only[go_sem,u13,lya,isl,gs,qb,wq,es];refine⟨by omega,ab _ _ _ (by rfl) ?_⟩;simp only[go_sem,u132,wm1];exact⟨by rw[aA];omega,⟨m+1,rfl,by omega,by rw[aA];exact ny,fun j h=>by rw[ag,if_neg (by omega)];exact oldy j h,by rw[ag,if_neg (by omega)];exact gyo,by rw[ag,if_pos rfl]⟩,by rw[h132];simp only[aa,aM];omega⟩
 obtain⟨x,hx⟩:=get_of_lt (l:=c) (i:=k) (by omega);have hxr:=hc x (List.mem_of_getElem? hx);have hxn:=aN hx;have sx0:0<=sp*x:=Int.mul_nonneg sp0.1 hxr.1;have sx1:sp*x<=720*1099511627776:=Int.mul_le_mul sp0.2 hxr.2 hxr.1 (by omega);have wsx:=IntWalk.i64_in (sp*x) (by omega);refine W.seq (ab _ _ _ (by rfl) ?_);simp only[go_sem,d81,d82,hb2];refine W.seq (ab _ _ _ (by rfl) ?_);simp only[go_sem];refine W.seq (W.block ?_);refine W.seq (ab _ _ _ (by rfl) ?_);simp only[go_sem,d80,d82,hx,hxn,hb2];refine W.seq (ab _ _ _ (by rfl) ?_);simp only[go_sem,d11,wsx];refine W.cL (fun s'=>s'.H=Hx/\s'.ρ 2=aa least/\s'.ρ 12=aa (iF sp c k)/\s'.ρ 13=.own H.next 0 0 n 1/\s'.ρ 14=.own (H.next+1) 0 0 n 1/\s'.ρ 15=.own (H.next+2) 0 0 n 1/\s'.ρ 16=aa k/\s'.ρ 18=aa (partAt sp c k)/\s'.ρ 19=aa (dk sp c k)/\s'.ρ 82=aa k) ?_ ?_
 ·by_cases hs:c.sum > 0
  ·obtain⟨p1,p2⟩:=Rq (sp:=sp) hs hx;have t1:(sp*x).tdiv c.sum=partAt sp c k:=(by rw[p1];exact Int.tdiv_eq_ediv_of_nonneg sx0);have t2:(sp*x).tmod c.sum=dk sp c k:=(by rw[p2];exact Int.tmod_eq_emod_of_nonneg sx0);have sn:¬ c.sum=0:=(by omega);have wp:=IntWalk.i64_in (partAt sp c k) (by have:=hpn k;have:=hpl k;omega);have wr:=IntWalk.i64_in (dk sp c k) (by have:=hrb k;omega);refine W.seq (ab _ _ _ (by rfl) ?_);simp only[go_sem,d8,hs];refine W.cond (t:=true) (by simp only[go_sem]) ?_;refine W.draw 7 [0,0,3,0,0,24,15] Try.mixed (by kernel_rfl) (by kernel_rfl) ?_;simp only[go_sem,d2,d8,d12,d13,d14,d15,d82,sn,t1,t2,wp]
  ·obtain⟨p1,p2⟩:=Rr (sp:=sp) hs (show k<c.length by omega);rw[hn]at p1 p2;have t1:sp.tdiv n=partAt sp c k:=(by rw[p1];exact Int.tdiv_eq_ediv_of_nonneg sp0.1);have t2:sp.tmod n=dk sp c k:=(by rw[p2];exact Int.tmod_eq_emod_of_nonneg sp0.1);have wp:=IntWalk.i64_in (partAt sp c k) (by have:=hpn k;have:=hpl k;omega);have wr:=IntWalk.i64_in (dk sp c k) (by have:=hrb k;omega);refine W.seq (ab _ _ _ (by rfl) ?_);simp only[go_sem,d8,hs];refine W.cond (t:=false) (by simp only[go_sem]) ?_;refine W.draw 9 [0,0,2,7,0,0,32,112,15] Try.mixed (by kernel_rfl) (by kernel_rfl) ?_;simp only[go_sem,d0,d2,d11,d12,d13,d14,d15,d82,gn,t1,t2,wp]
 rintro⟨ρ3,Hq⟩ ⟨hHq,q2,q12,q13,q14,q15,q16,q18,q19,q82⟩;simp only at hHq q2 q12 q13 q14 q15 q16 q18 q19 q82;rw[hHq];have wpl:=IntWalk.i64_in (least+partAt sp c k) (by have:=hpn k;have:=hpl k;omega);have lxa:=ak xa;have iA:=aZ A;have iB:=aZ B;have iO:=aZ O;rw[lA]at iA;rw[lB]at iB;rw[lO]at iO;have sA:setAt (ints A) k [.lit (.int .i64 (least+partAt sp c k))]=ints (A.set k (least+partAt sp c k)):=eS (by omega);have sB:setAt (ints B) k [.lit (.int .i64 (dk sp c k))]=ints (B.set k (dk sp c k)):=eS (by omega);have sO:setAt (ints O) k [.lit (.int .i64 (k:Int))]=ints (O.set k (k:Int)):=eS (by omega);obtain⟨Ha,hHa⟩:∃ Ha,Ha=Hx.upd H.next (.arr 0 3 (ints (A.set k (least+partAt sp c k)))):=⟨_,rfl⟩
 obtain⟨Hb,hHb⟩:∃ Hb,Hb=Ha.upd (H.next+1) (.arr 0 3 (ints (B.set k (dk sp c k)))):=⟨_,rfl⟩
 obtain⟨Ho,hHo⟩:∃ Ho,Ho=Hb.upd (H.next+2) (.arr 0 3 (ints (O.set k (k:Int)))):=⟨_,rfl⟩
 have lxb:Ha.live (H.next+1) 0=some (3,ints B):=ak (by rw[hHa,ag,if_neg (by omega)];exact xb);have lxo:Hb.live (H.next+2) 0=some (3,ints O):=ak (by rw[hHb,ag,if_neg (by omega),hHa,ag,if_neg (by omega)];exact xo);have gax:∀ b:Blk,Hx.upd H.next b=Hx.upd H.next b:=fun _=>rfl;refine W.seq (ab _ _ _ (by rfl) ?_);simp only[go_sem,q2,q13,q14,q15,q16,q18,q19,lxa,iA,wpl,hb2,sA,<- hHa,lxb,iB,sB,<- hHb,lxo,iO,sO,<- hHo];have wlk:=IntWalk.i64_in (iF sp c k - partAt sp c k) (by
  have h1:=hrs k;have h2:=hpl k;have h3:=hpn k;have:sp*(k:Int)<=720*1024:=Int.mul_le_mul sp0.2 (by omega) (by omega) (by omega);omega)
 have wk:=IntWalk.i64_in ((k:Int)+1) (by omega);refine⟨by omega,by omega,by omega,ab _ _ _ (by rfl) ?_⟩;simp only[go_sem,q12,q18,wlk];refine ab _ _ _ (by rfl) ?_;simp only[go_sem,q82,wk];have hn':Ho.next=Hx.next:=by rw[hHo,hHb,hHa];rfl
 refine⟨by omega,⟨k+1,A.set k (least+partAt sp c k),B.set k (dk sp c k),O.set k (k:Int),rfl,by omega,by rw[Ec],by omega,fun j h=>?_,?_,?_,?_,by simp [lA,lB,lO],fun j hj=>?_⟩,by rw[h82];simp only[aa,aM];omega⟩
 ·rw[hHo,ag,if_neg (by omega),hHb,ag,if_neg (by omega),hHa,ag,if_neg (by omega)];exact hold j h
 ·rw[hHo,ag,if_neg (by omega),hHb,ag,if_neg (by omega),hHa,ag,if_pos rfl]
 ·rw[hHo,ag,if_neg (by omega),hHb,ag,if_pos rfl]
 ·rw[hHo,ag,if_pos rfl]
 ·by_cases e:j=k
  ·subst e;exact⟨by rw[List.getElem?_set_self (by omega)],by rw[List.getElem?_set_self (by omega)],by rw[List.getElem?_set_self (by omega)]⟩
  ·obtain⟨z1,z2,z3⟩:=hall j (by omega);exact⟨by rw[List.getElem?_set_ne (fun h=>e h.symm)];exact z1,by rw[List.getElem?_set_ne (fun h=>e h.symm)];exact z2,by rw[List.getElem?_set_ne (fun h=>e h.symm)];exact z3⟩
end Go.Proofs
namespace Go.Hx
variable {P:Program}
structure Own2 (lo:Nat)(H:AHeap)(e:TypeId)(v:AVal)(l:List AVal)(u:AVal)(m:List AVal):Prop where
 a:aB lo H e v l
 b:aB lo H e u m
 ne:∀ i g n g' n',v=.own i g 0 n 1->u≠.own i g' 0 n' 1
theorem Own2.symm {lo:Nat}{H:AHeap}{e:TypeId}{v u:AVal}{l m:List AVal}(h:Own2 lo H e v l u m):Own2 lo H e u m v l:=⟨h.b,h.a,fun i g n g' n' h1 h2=>h.ne i g' n' g n h2 h1⟩
theorem Own2.nil {lo:Nat}{H:AHeap}{e:TypeId}:Own2 lo H e (.lit (.slice none 0 0)) [] (.lit (.slice none 0 0)) []:=⟨.nil,.nil,fun _ _ _ _ _ h=>(by cases h)⟩
theorem Own2.keep {lo:Nat}{H H':AHeap}{e:TypeId}{v u:AVal}{l m:List AVal}(h:Own2 lo H e v l u m)(hn:H.next<=H'.next)(hk:∀ id,lo<=id->id<H.next->H'.get id=H.get id):Own2 lo H' e v l u m :=
 ⟨h.a.keep (Nat.le_refl _) hn fun id _ h1 h2 _ _=>hk id h1 h2,h.b.keep (Nat.le_refl _) hn fun id _ h1 h2 _ _=>hk id h1 h2,h.ne⟩
end Go.Hx
namespace Go.Hx
theorem aB.po {lo:Nat}{H:AHeap}{e:TypeId}{v:AVal}{cs:List AVal}(h:aB lo H e v cs){k:Nat}(hk:k<lo):∀ g n,v≠.own k g 0 n 1:=fun g n he=>by
 rcases h with ⟨h,_⟩|⟨id,g',a,_,h,_⟩
 ·rw[h]at he;cases he
 ·rw[h]at he;have:=(AVal.own.inj he).1;omega
end Go.Hx
namespace Go.Proofs
open Go.Hx
theorem De {r:Nat->Int}{M:Nat->Bool}:∀ m,(∃ j,j<m/\M j=false)->∃ b,b<m/\M b=false/\∀ j,j<m->M j=false->j≠b->before r b j
 | 0,⟨j,h,_⟩=>absurd h (Nat.not_lt_zero _)
 | m+1,⟨j,hj,hM⟩=>by
  by_cases hex:∃ j,j<m/\M j=false
  ·obtain⟨b,hb,hMb,hmin⟩:=De m hex;cases hm:M m with
   | true=>exact⟨b,by omega,hMb,fun j hj h1 h2=>hmin j (by have:j≠m:=(by rintro rfl;rw[hm]at h1;cases h1);omega) h1 h2⟩
   | false =>
    by_cases hlt:r b<r m
    ·refine⟨m,by omega,hm,fun j hj h1 h2=>?_⟩;have hjm:j<m:=(by omega);by_cases hjb:j=b
     ·subst hjb;exact .inl hlt
     ·have:=hmin j hjm h1 hjb;unfold before at this ⊢;omega
    ·refine⟨b,by omega,hMb,fun j hj h1 h2=>?_⟩;by_cases hjm:j=m
     ·subst hjm;unfold before;omega
     ·exact hmin j (by omega) h1 h2
  ·have:j=m:=by
    refine Classical.byContradiction fun h=>hex ⟨j,by omega,hM⟩
   subst this;exact⟨j,by omega,hM,fun i hi h1 h2=>absurd ⟨i,by omega,h1⟩ hex⟩
theorem Top.some {r:Nat->Int}{n k:Nat}{M:Nat->Bool}(h:Top r n k M)(hk:k<n):∃ j,j<n/\M j=false:=by
 refine Classical.byContradiction fun hno=>?_;have:=h.count;have e:(List.range n).countP M=(List.range n).length:=List.countP_eq_length.2 fun x hx=>by
  rcases Bool.eq_false_or_eq_true (M x) with e|e
  ·exact e
  ·exact absurd ⟨x,List.mem_range.1 hx,e⟩ hno
 rw[e,List.length_range]at this;omega
theorem Top.ex (r:Nat->Int)(n:Nat):∀ k,k<=n->∃ M,Top r n k M
 | 0,_=>⟨_,.zero⟩
 | k+1,h=>by
  obtain⟨M,hM⟩:=Top.ex r n k (by omega);obtain⟨b,hb,hMb,hmin⟩:=De (r:=r) n (hM.some (by omega));exact⟨_,hM.step hb hMb hmin⟩
theorem Df (least sp:Int){c:List Int}(h:0<c.length):∃ s,jC least sp c s:=by
 have:=y6 (sp:=sp) h;obtain⟨M,hM⟩:=Top.ex (dk sp c) c.length (iE sp c).toNat (by omega);exact⟨_,M,hM,rfl⟩
end Go.Proofs
namespace Go.Hx
theorem ae.fin {P:Program}{G:Nat->Option (List AVal)}{f:FuncId}{args:List AVal}{H:AHeap}{K:ARes->AHeap->Prop}(h:ae P G f args H fun r H'=>∃ v,r=.ret v/\av P G H K v H'):ae P G f args H K:=by
 refine⟨h.1,fun Γ w cargs R hr=>(h.2 Γ w cargs R hr).mono ?_⟩;rintro e w' ⟨r,H',Γ',hend,⟨v,rfl,v',H2,hw,hn2,hk⟩,R',E,hn⟩;obtain⟨Γ2,R2,E2,hv⟩:=hw Γ' w' R';refine⟨.ret v',H2,Γ2,?_,hk,R2,E.trans hn E2,hn2⟩;cases e with
 | returned cv=>exact hv cv hend
 | _=>exact hend.elim
end Go.Hx
namespace Go.Proofs
open Go.Hx
open Classical in
noncomputable def nf (least sp:Int)(c:List Int):List Int:=if h:∃ s,jC least sp c s then h.choose else []
theorem uy {least sp:Int}{c s:List Int}(h:jC least sp c s):s=nf least sp c:=by
 have hex:∃ s,jC least sp c s:=⟨s,h⟩
 unfold nf;rw[dif_pos hex];exact h.unique hex.choose_spec
def iY (c:List Int)(grain least:Int):Prop:=(1<=c.length/\c.length<=1024)/\(∀ x∈c,0<=x/\x<=1099511627776)/\(1<=grain/\grain<=720)/\0<=least/\least*c.length<=grain
noncomputable def ru (c:List Int)(grain least:Int):Bool:=@decide (iY c grain least) (Classical.propDecidable _)
theorem Dz {c:List Int}{grain least:Int}(h:iY c grain least):ru c grain least=true:=by unfold ru;exact @decide_eq_true _ (Classical.propDecidable _) h
theorem P9 {c:List Int}{grain least:Int}(h:¬ iY c grain least):ru c grain least=false:=by unfold ru;exact @decide_eq_false _ (Classical.propDecidable _) h
noncomputable def uz (c:List Int)(grain least:Int):AVal:=if ru c grain least then .tup [af (nf least (eC grain least c) c),aa 0] else .tup [af [],aa 2]
theorem iY.le {c:List Int}{grain least:Int}(h:iY c grain least):least<=720:=by
 obtain⟨h1,_,h3,h4,h5⟩:=h;have:least*1<=least*c.length:=Int.mul_le_mul_of_nonneg_left (by omega) h4;omega
theorem Qa {c:List Int}{grain least:Int}{n:Nat}(hn:c.length=n)(hl:n<2 ^ 40)(hbad:¬ iY c grain least)(H:AHeap)(K:ARes->AHeap->Prop)(hK:K (.ret (.tup [af [],aa 2])) H):
  ae Try.prog G0 48 [.vec n (ints c),aa grain,aa least] H K:=by
 refine ae.clo ⟨_,Try.func48,rfl,rfl⟩ fun hcl=>?_;have fin:av Try.prog G0 H K (.tup [.lit (.slice none 0 0),aa 2]) H:=av.bY (v':=.tup [af [],aa 2]) aV hcl (.refl _) (.tup rfl fun i hi _=>match i,hi with
  | 0,_=>.nil
  | 1,_=>.lit _) hK
 have hil:=aZ c;rw[hn]at hil;refine ae.cD (n:=144) (rs:=[.tmp 6,.tmp 7]) Try.func48 rfl rfl rfl (by decide) (by simp) ?_;refine W.seq (ab _ _ _ (by rfl) ?_);simp only[go_sem];by_cases b1:(n:Int)<1
 ·refine W.seq (ab _ _ _ (by rfl) ?_);simp only[go_sem,b1];exact fin
 by_cases b2:(n:Int) > 1024
 ·refine W.seq (ab _ _ _ (by rfl) ?_);simp only[go_sem,b1,b2];exact fin
 refine W.seq (ab _ _ _ (by rfl) ?_);simp only[go_sem,b1,b2];refine W.seq (ab _ _ _ (by rfl) ?_);simp only[go_sem];refine W.seq (ab _ _ _ (by rfl) ?_);simp only[go_sem];refine W.env fun E hE1=>?_;have e0:E 0=.vec n (ints c):=by rw[hE1];simp only[go_sem]
 have e1:E 1=aa grain:=by rw[hE1];simp only[go_sem]
 have e2:E 2=aa least:=by rw[hE1];simp only[go_sem]
 have e8:E 8=aa 0:=by rw[hE1];simp only[go_sem]
 have e30:E 30=.vec n (ints c):=by rw[hE1];simp only[go_sem]
 have e31:E 31=aa n:=by rw[hE1];simp only[go_sem]
 have e32:E 32=aa 0:=by rw[hE1];simp only[go_sem]
 clear hE1;refine W.aI 70364449211840 (by rfl) (fun ρ Hx=>Hx=H/\∃ i:Nat,ρ 32=aa i/\i<=n/\(∀ x∈c.take i,0<=x/\x<=1099511627776)/\ρ 8=aa (c.take i).sum) (fun ρ Hx=>n - (iv (ρ 32)).toNat) ?_ ?_
 ·exact⟨rfl,0,e32,by omega,fun x h=>by simp at h,e8⟩
 rintro ρ Hx ⟨hHx,i,h32,hi,hok,h8⟩;rw[hHx];refine W.env fun E1 hE1=>?_;have f0:E1 0=.vec n (ints c):=by rw[hE1];simp only[go_sem,e0]
 have f1:E1 1=aa grain:=by rw[hE1];simp only[go_sem,e1]
 have f2:E1 2=aa least:=by rw[hE1];simp only[go_sem,e2]
 have f8:E1 8=aa (c.take i).sum:=by rw[hE1];simp only[go_sem,h8]
 have f30:E1 30=.vec n (ints c):=by rw[hE1];simp only[go_sem,e30]
 have f31:E1 31=aa n:=by rw[hE1];simp only[go_sem,e31]
 have f32:E1 32=aa i:=by rw[hE1];simp only[go_sem,h32]
 clear hE1;by_cases hb:(i:Int)<n
 ·obtain⟨x,hx⟩:=get_of_lt (l:=c) (i:=i) (by omega);have hxn:=aN hx;by_cases x1:x<0
  ·refine ab _ _ _ (by rfl) ?_;simp only[go_sem,f30,f31,f32,hb,hx,hxn,x1];exact fin
  by_cases x2:x > 1099511627776
  ·refine ab _ _ _ (by rfl) ?_;simp only[go_sem,f30,f31,f32,hb,hx,hxn,x1,x2];exact fin
  have hsr:=Dx (c:=c.take i) hok i;have htl:((c.take i).take i).length<=1024:=by rw[List.length_take,List.length_take];omega
  rw[List.take_take,Nat.min_self]at hsr htl;have w1:=IntWalk.i64_in ((c.take i).sum+x) (by omega);have w2:=IntWalk.i64_in ((i:Int)+1) (by omega);refine ab _ _ _ (by rfl) ?_;simp only[go_sem,f8,f30,f31,f32,hb,hx,hxn,x1,x2,w1,w2];refine⟨⟨i+1,rfl,by omega,fun y hy=>?_,by rw[Dw hx]⟩,by rw[h32];simp only[aa,aM];omega⟩;rw[aL hx]at hy;rcases List.mem_append.1 hy with h|h
  ·exact hok y h
  ·rw[List.mem_singleton.1 h];omega
 have hin:i=n:=by omega
 rw[hin,<- hn,List.take_length]at hok;refine ab _ _ _ (by rfl) ?_;simp only[go_sem,f31,f32,hb];by_cases g1:grain<1
 ·refine W.seq (ab _ _ _ (by rfl) ?_);simp only[go_sem,f1,g1];exact fin
 by_cases g2:grain > 720
 ·refine W.seq (ab _ _ _ (by rfl) ?_);simp only[go_sem,f1,g1,g2];exact fin
 by_cases g3:least<0
 ·refine W.seq (ab _ _ _ (by rfl) ?_);simp only[go_sem,f1,f2,g1,g2,g3];exact fin
 have gn:¬ (n:Int)=0:=by omega
 have gt:grain.tdiv n=grain / n:=Int.tdiv_eq_ediv_of_nonneg (by omega);have gw:=IntWalk.i64_in (grain / n) (by have:=Int.ediv_nonneg (a:=grain) (b:=n) (by omega) (by omega);have:=Int.ediv_le_self (a:=grain) n (by omega);omega);have g4:least > grain / n:=by
  refine Classical.byContradiction fun h=>hbad ?_;have:=(Int.le_ediv_iff_mul_le (show (0:Int)<n by omega)).1 (Int.not_lt.1 h);exact⟨by omega,hok,by omega,by omega,by rw[hn];exact this⟩
 refine W.seq (ab _ _ _ (by rfl) ?_);simp only[go_sem,f0,f1,f2,g1,g2,g3,gn,gt,gw,g4];exact fin
theorem Qb {H0 H':AHeap}{v:AVal}{s:List Int}(h:aB H0.next H' 3 v (ints s)):Fz (fun id=>H0.next<=id) H' H0.next (.tup [v,aa 0]) (.tup [af s,aa 0]):=.tup rfl fun i hi _=>match i,hi with
 | 0,_=>h.kF fun i h=>h
 | 1,_=>.lit _
theorem Qc {c:List Int}{grain least:Int}(hl:c.length<2 ^ 40)(H:AHeap)(K:ARes->AHeap->Prop)(hK:K (.ret (uz c grain least)) H):
  ae Try.prog G0 48 [af c,aa grain,aa least] H K:=by
 by_cases h:iY c grain least
 ·have h7:=h.le;obtain⟨h1,h2,h3,h4,h5⟩:=id h;unfold uz at hK;rw[Dz h,if_pos rfl]at hK;refine ae.clo ⟨_,Try.func48,rfl,rfl⟩ fun hcl=>ae.fin (Dy rfl h1.1 h1.2 h2 h3 ⟨h4,h7⟩ H _ (fun hlt=>absurd h5 (by omega)) fun s v H' _ hs ho hv=>⟨_,rfl,av.bY aV hcl ho (Qb hv) ?_⟩);rw[uy hs];exact hK
 ·unfold uz at hK;rw[P9 h,if_neg (by decide)]at hK;exact Qa rfl hl h H K hK
theorem M8 {n:Nat}{D:Nat->Bool}{f:Nat->Int}(h:∀ v,v<n->1<=f v):1<=dA n D f/\dA n D f<=aC ((List.range n).map f):=by
 induction n with
 | zero=>exact⟨Int.le_refl 1,Int.le_refl 1⟩
 | succ n ih =>
  obtain⟨h1,h2⟩:=ih fun v hv=>h v (by omega);have hf:=h n (by omega);rw[tW,List.range_succ,List.map_append,uA];have e:aC ([n].map f)=f n:=by simp [iz,gU]
  rw[e];cases D n
  ·rw[if_neg (by decide),Int.mul_one];exact⟨h1,Int.le_trans h2 (by have:=Int.mul_le_mul_of_nonneg_left hf (show 0<=aC ((List.range n).map f) by omega);omega)⟩
  ·rw[if_pos rfl];exact⟨by have:=Int.mul_le_mul h1 hf (by omega) (by omega);omega,Int.mul_le_mul_of_nonneg_right h2 (by omega)⟩
theorem M9 {n:Nat}(f:Nat->Int):∀ {l:List Nat},l.Nodup->(∀ v∈l,v<n)->dA n (fun v=>decide (v∈l)) f=aC (l.map f):=by
 intro l
 induction l with
 | nil=>intro _ _;rw[show (fun v=>decide (v∈([]:List Nat)))=fun _=>false from funext fun v=>by simp,BX];rfl
 | cons a l ih =>
  intro hn hl;obtain⟨h1,h2⟩:=List.nodup_cons.1 hn;have ha:=hl a (by simp);rw[tX (D:=fun v=>decide (v∈l)) (v:=a) f (by simpa using h1) (by simp) (fun i hi=>by simp [hi]),if_pos ha,ih h2 fun v hv=>hl v (by simp [hv]),List.map_cons,iz,Int.mul_comm]
theorem Na {g:Int}{ns:List NodeP}(h:NetOk g ns){v:Nat}{x:NodeP}(hx:ns[v]?=some x):(v:Int) ∉ x.parents:=by
 intro hm;have ha:=h.acyc v (by rw[qV];exact get_lt hx);rw[bJ (nD hx)]at ha;have hpos:=fun q hq=>((h.node x (List.mem_of_getElem? hx)).2.2 q hq).1;have hb:(dL x.parents).testBit v=true:=by rw[mi hpos];exact decide_eq_true hm
 have:=uF (bB ns) (bB ns).length (dL x.parents) v hb;unfold fF at ha;rw[ha]at this;cases this
theorem xY {g:Int}{ns:List NodeP}(h:NetOk g ns){v:Nat}{x:NodeP}(hx:ns[v]?=some x):1<=(x.rows.length:Int)*x.card/\(x.rows.length:Int)*x.card<=1024:=by
 have hxm:=List.mem_of_getElem? hx;obtain⟨hpw,hpr⟩:=(h.node x hxm).2;have hl:(x.parents.map Int.toNat).Nodup:=by
  refine List.pairwise_map.2 (hpw.imp_of_mem fun {a b} ha hb hab=>?_);have:=(hpr a ha).1;omega
 have hno:=Na h hx;have hn2:(v :: x.parents.map Int.toNat).Nodup:=List.nodup_cons.2 ⟨fun hm=>by
  obtain⟨q,hq,hqv⟩:=List.mem_map.1 hm;exact hno (by rw[<- hqv,Int.toNat_of_nonneg (hpr q hq).1];exact hq),hl⟩
 have hr2:∀ u∈(v :: x.parents.map Int.toNat),u<ns.length:=fun u hu=>by
  rcases List.mem_cons.1 hu with rfl|hu
  ·exact get_lt hx
  ·obtain⟨q,hq,rfl⟩:=List.mem_map.1 hu;have:=hpr q hq;omega
 have e:=M9 (fun u=>(au ns).getD u 0) hn2 hr2;have hge:=M8 (n:=ns.length) (D:=fun u=>decide (u∈v :: x.parents.map Int.toNat)) (f:=fun u=>(au ns).getD u 0) fun u hu=>by
  obtain⟨y,hy⟩:=get_of_lt hu;show 1<=(au ns).getD u 0;rw[bJ (cS hy)];exact(h.node y (List.mem_of_getElem? hy)).1.1
 rw[e,B1,List.map_cons,iz,List.map_map]at hge;have e2:aC (x.parents.map ((fun u=>(au ns).getD u 0) ∘ Int.toNat))=aC (aX ns x):=rfl;rw[e2,bJ (cS hx),<- (h.rows x hxm).1,Int.mul_comm]at hge;have:=h.size;omega
def lU (l:List Int)(i:Nat)(d:Int):List Int:=l.set i (l.getD i 0+d)
theorem Nb (l:List Int)(i:Nat)(d:Int):(lU l i d).length=l.length:=by simp [lU]
theorem Nc {l:List Int}{i:Nat}(h:i<l.length)(d:Int):(lU l i d).sum=l.sum+d:=by
 induction l generalizing i with
 | nil=>simp at h
 | cons a l ih =>
  cases i with
  | zero=>simp [lU];omega
  | succ i =>
   have:=ih (i:=i) (by simpa using h);unfold lU at this ⊢;simp only[List.set_cons_succ,List.sum_cons,List.getD_cons_succ,this];omega
theorem Nd {l:List Int}(h:∀ x∈l,0<=x)(i:Nat){d:Int}(hd:0<=d):∀ x∈lU l i d,0<=x:=fun x hx=>by
 rcases List.mem_or_eq_of_mem_set hx with hx|rfl
 ·exact h x hx
 ·rw[List.getD_eq_getElem?_getD];cases hy:l[i]? with
  | none=>simpa using hd
  | some y=>have:=h y (List.mem_of_getElem? hy);simp;omega
def lV (ns:List NodeP)(x:NodeP)(v:Nat)(w:List Int):Int:=fb (aX ns x) (aY w x.parents)*x.card+w.getD v 0
def kI (ns:List NodeP)(x:NodeP)(v:Nat)(s w:List Int):List Int:=lU s (lV ns x v w).toNat (weight ns w)
def fQ (ns:List NodeP)(x:NodeP)(v:Nat)(ws:List (List Int)):List Int:=ws.foldl (kI ns x v) (List.replicate (x.rows.length*x.card.toNat) 0)
theorem Nf (ns:List NodeP)(x:NodeP)(v:Nat)(ws:List (List Int))(w:List Int):fQ ns x v (ws++[w])=kI ns x v (fQ ns x v ws) w:=by unfold fQ;rw[List.foldl_append];rfl
theorem Ce {g:Int}{ns:List NodeP}(h:NetOk g ns){v:Nat}{x:NodeP}(hx:ns[v]?=some x){w:List Int}(hw:cR (au ns) w):0<=lV ns x v w/\lV ns x v w<x.rows.length*x.card:=by
 have hxm:=List.mem_of_getElem? hx;have hin:iG x.parents ns.length:=fun q hq=>by have:=(h.node x hxm).2.2 q hq;omega
 have h1:=uB (uO hin hw);obtain⟨a,ha⟩:=get_of_lt (l:=w) (i:=v) (by rw[hw.1,cG];exact get_lt hx);have h2:=hw.2 v x.card a (cS hx) ha;have hl:=(h.rows x hxm).1;unfold lV;rw[bJ ha];have hc:=(h.node x hxm).1;have m1:0<=fb (aX ns x) (aY w x.parents)*x.card:=Int.mul_nonneg h1.1 (by omega);have m2:(fb (aX ns x) (aY w x.parents)+1)*x.card<=x.rows.length*x.card:=Int.mul_le_mul_of_nonneg_right (by omega) (by omega);rw[Int.add_mul]at m2;omega
theorem t7 {g:Int}{ns:List NodeP}(h:NetOk g ns){v:Nat}{x:NodeP}(hx:ns[v]?=some x)(ws:List (List Int))(hw:∀ w∈ws,cR (au ns) w):
  ((fQ ns x v ws).length:Int)=x.rows.length*x.card/\(∀ y∈fQ ns x v ws,0<=y)/\(fQ ns x v ws).sum=(ws.map (weight ns)).sum:=by
 have hc:=(h.node x (List.mem_of_getElem? hx)).1;have key:∀ (l:List (List Int)) (s:List Int),(∀ w∈l,cR (au ns) w)->(s.length:Int)=x.rows.length*x.card->(∀ y∈s,0<=y) ->
   ((l.foldl (kI ns x v) s).length:Int)=x.rows.length*x.card/\(∀ y∈l.foldl (kI ns x v) s,0<=y)/\(l.foldl (kI ns x v) s).sum=s.sum+(l.map (weight ns)).sum:=by
  intro l
  induction l with
  | nil=>intro s _ h1 h2;exact⟨h1,h2,by simp⟩
  | cons w l ih =>
   intro s hl h1 h2;have hp:=Ce h hx (hl w (by simp));have hwt:=B2 h (hl w (by simp));obtain⟨a,b,c⟩:=ih (kI ns x v s w) (fun w' h'=>hl w' (by simp [h'])) (by unfold kI;rw[Nb];exact h1) (Nd h2 _ hwt.1);refine⟨a,b,?_⟩;rw[List.foldl_cons,c];unfold kI;rw[Nc (by omega),List.map_cons,List.sum_cons];omega
 have e:((List.replicate (x.rows.length*x.card.toNat) (0:Int)).length:Int)=x.rows.length*x.card:=by
  rw[List.length_replicate,Int.natCast_mul,Int.toNat_of_nonneg (by omega)]
 obtain⟨a,b,c⟩:=key ws _ hw e fun y hy=>by rw[List.eq_of_mem_replicate hy];exact Int.le_refl _
 refine⟨a,b,?_⟩;unfold fQ;rw[c];have:(List.replicate (x.rows.length*x.card.toNat) (0:Int)).sum=0:=by rw[List.sum_replicate_int];simp
 omega
theorem Ng {α:Type}(f:α->Int)(p:α->Bool)(l:List α)(h:∀ a∈l,0<=f a):((l.filter p).map f).sum<=(l.map f).sum:=by
 induction l with
 | nil=>simp
 | cons a l ih =>
  have h1:=h a (by simp);have h2:=ih fun b hb=>h b (by simp [hb]);rw[List.filter_cons];split
  ·simp only[List.map_cons,List.sum_cons];omega
  ·simp only[List.map_cons,List.sum_cons];omega
theorem xZ {g:Int}{ns:List NodeP}(h:NetOk g ns)(h6:ns.length<=6){r:List Int}(hr:r.length=ns.length):dG ns r<=46656000000:=by
 unfold dG;rw[xR (by rw[hr,cG])];refine Int.le_trans (Ng _ _ _ fun w hw=>(B2 h (xQ (jW h) hw)).1) ?_;rw[MQ h];have hg:=h.g1;obtain⟨k,rfl⟩:∃ k:Nat,g=k:=⟨g.toNat,by omega⟩
 have a1:k ^ ns.length<=60 ^ ns.length:=Nat.pow_le_pow_left (by omega) _;have a2:(60:Nat) ^ ns.length<=60 ^ 6:=Nat.pow_le_pow_right (by decide) h6;have a3:(60:Nat) ^ 6=46656000000:=by decide
 rw[<- Int.natCast_pow];omega
noncomputable def iq (c:List Int):List Int:=nf 0 (eC 720 0 c) c
def kJ (ns:List NodeP)(x:NodeP)(v:Nat)(r:List Int):List Int:=fQ ns x v (df (au ns) r)
def eo (a b:List Int):List Int:=List.zipWith (·+·) a b
noncomputable def cY (ns:List NodeP)(x:NodeP)(v:Nat)(xs:List (List Int)):List Int:=xs.foldl (fun s r=>eo s (iq (kJ ns x v r))) (List.replicate (x.rows.length*x.card.toNat) 0)
theorem Cf (ns:List NodeP)(x:NodeP)(v:Nat)(xs:List (List Int))(r:List Int):cY ns x v (xs++[r])=eo (cY ns x v xs) (iq (kJ ns x v r)):=by unfold cY;rw[List.foldl_append];rfl
theorem Cg {g:Int}{ns:List NodeP}(h:NetOk g ns)(h6:ns.length<=6){v:Nat}{x:NodeP}(hx:ns[v]?=some x){r:List Int}(hr:r.length=ns.length):iY (kJ ns x v r) 720 0:=by
 have hl:=xY h hx;obtain⟨a,b,c⟩:=t7 h hx (df (au ns) r) fun w hw=>qW (jW h) (by rw[hr,cG]) hw;have hm:=xZ h h6 hr;have hs:(kJ ns x v r).sum=dG ns r:=c;refine⟨by unfold kJ;omega,fun y hy=>⟨b y hy,?_⟩,by omega,by omega,by omega⟩;have:=pJ (l:=kJ ns x v r) b y hy;omega
theorem Ch {c:List Int}(h:iY c 720 0):jC 0 (eC 720 0 c) c (iq c)/\(iq c).length=c.length/\(iq c).sum=720/\∀ x∈iq c,0<=x/\x<=720:=by
 obtain⟨s,hs⟩:=Df 0 (eC 720 0 c) (c:=c) (by have:=h.1;omega);have e:iq c=s:=(uy hs).symm;rw[e];have h1:=Rf (by have:=h.1;omega) hs;have h2:=Rg (fun x hx=>(h.2.1 x hx).1) (by have:=h.1;omega) (by unfold eC;omega) hs;refine⟨hs,h1.1,h1.2,fun x hx=>⟨h2 x hx,?_⟩⟩;have:=pJ h2 x hx;omega
theorem Ci {a b:List Int}(h:a.length=b.length):(eo a b).length=a.length:=by simp [eo,h]
theorem Nh {a b:List Int}{m n:Int}(ha:∀ x∈a,0<=x/\x<=m)(hb:∀ x∈b,0<=x/\x<=n):∀ x∈eo a b,0<=x/\x<=m+n:=fun x hx=>by
 obtain⟨i,hi⟩:=List.getElem?_of_mem hx;unfold eo at hi;rw[List.getElem?_zipWith]at hi;cases h1:a[i]? with
 | none=>rw[h1]at hi;simp at hi
 | some y =>
  cases h2:b[i]? with
  | none=>rw[h1,h2]at hi;simp at hi
  | some z =>
   rw[h1,h2]at hi;simp only[Option.some.injEq]at hi;have:=ha y (List.mem_of_getElem? h1);have:=hb z (List.mem_of_getElem? h2);omega
theorem x5 {g:Int}{ns:List NodeP}(h:NetOk g ns)(h6:ns.length<=6){v:Nat}{x:NodeP}(hx:ns[v]?=some x)(xs:List (List Int))(hr:∀ r∈xs,r.length=ns.length):
  ((cY ns x v xs).length:Int)=x.rows.length*x.card/\∀ y∈cY ns x v xs,0<=y/\y<=720*xs.length:=by
 have hc:=(h.node x (List.mem_of_getElem? hx)).1;have key:∀ k,k<=xs.length->((cY ns x v (xs.take k)).length:Int)=x.rows.length*x.card/\∀ y∈cY ns x v (xs.take k),0<=y/\y<=720*k:=by
  intro k
  induction k with
  | zero =>
   intro _;refine⟨?_,fun y hy=>?_⟩
   ·show ((List.replicate (x.rows.length*x.card.toNat) (0:Int)).length:Int)=_;rw[List.length_replicate,Int.natCast_mul,Int.toNat_of_nonneg (by omega)]
   ·have hy':y∈List.replicate (x.rows.length*x.card.toNat) (0:Int):=hy;rw[List.eq_of_mem_replicate hy'];simp
  | succ k ih =>
   intro hk;obtain⟨r,hrk⟩:=get_of_lt (l:=xs) (i:=k) (by omega);have hrl:=hr r (List.mem_of_getElem? hrk);obtain⟨h1,h2⟩:=ih (by omega);have hp:=Cg h h6 hx hrl;obtain⟨_,h4,_,h5⟩:=Ch hp;obtain⟨a,_,_⟩:=t7 h hx (df (au ns) r) fun w hw=>qW (jW h) (by rw[hrl,cG]) hw;have a':((kJ ns x v r).length:Int)=x.rows.length*x.card:=a;rw[aL hrk,Cf];refine⟨by rw[Ci (by omega)];exact h1,fun y hy=>?_⟩;have:=Nh h2 h5 y hy;omega
 have:=key xs.length (Nat.le_refl _);rw[List.take_length]at this;exact this
set_option maxHeartbeats 1000000 in
theorem OK (cs:List Int)(xs:List (List Int))(hf:kL cs xs)(H:AHeap)(K:ARes -> AHeap -> Prop)(hK:K (.ret (aa (if iu cs xs then 0 else 250))) H):ae Try.prog G0 62 [cO cs xs] H K := by
  refine ae.clo ⟨_, Try.func62, rfl, rfl⟩ fun hcl => ?_;have no:¬ DataOk cs xs -> ∀ H', Over H H' -> av Try.prog G0 H K (aa 250) H' := fun h H' ov => av.bY aV hcl ov (.lit _) (by rw[OI h]at hK; exact hK);obtain⟨f1, f2, f3⟩ := hf;refine ae.bM (n := 80) (rs := [.tmp 2]) Try.func62 rfl rfl rfl (by decide) (by kernel_rfl) (by simp) ?_;simp only[go_sem, cO, aE, dT];obtain⟨H1, hH1⟩:∃ H1, H1 = ext H [.arr 0 42 [.vec cs.length (ints cs), .vec xs.length (xs.map af)]] := ⟨_, rfl⟩
  have l1:H1.live H.next 0 = some (42, [.vec cs.length (ints cs), .vec xs.length (xs.map af)]) := by rw[hH1]; exact ak (dp ..)
  have o1:Over H H1 := by rw[hH1]; exact .ext _ _
  rw[<- hH1];by_cases c1:(cs.length:Int) < 1
  · simp only[go_sem, l1, c1, jb, dT];exact no (fun h => by have := h.c1; omega) _ o1
  by_cases c2:(cs.length:Int) > 6
  · simp only[go_sem, l1, c1, c2, jb, dT];exact no (fun h => by have := h.c1; omega) _ o1
  by_cases c3:(xs.length:Int) > 40
  · simp only[go_sem, l1, c1, c2, c3, jb, dT];exact no (fun h => by have := h.x1; omega) _ o1
  simp only[go_sem, l1, c1, c2, c3, jb, dT];refine W.aI 17591112302636 (by rfl) (fun ρ H' => H' = H1 /\ ∃ k:Nat, ρ 30 = aa k /\ k <= cs.length /\ (∀ c ∈ cs.take k, 2 <= c /\ c <= 4) /\ ρ 3 = aa (aC (cs.take k))) (fun ρ H => cs.length - (iv (ρ 30)).toNat) ?_ ?_
  · simp only[go_sem, dT];exact⟨0, rfl, by omega, by simp, by simp [gU]⟩
  rintro ρ H' ⟨rfl, k, h30, hk, hall, h3⟩;refine ab _ _ _ (by rfl) ?_;by_cases hb:(k:Int) < cs.length
  · obtain⟨c, hc⟩ := get_of_lt (l := cs) (i := k) (by omega);have hne := aN hc;have hcm := List.mem_of_getElem? hc;by_cases d1:c < 2
    · simp only[go_sem, h30, hb, hne, hc, d1, jb, dT];exact no (fun h => by have := h.card c hcm; omega) _ o1
    by_cases d2:c > 4
    · simp only[go_sem, h30, hb, hne, hc, d1, d2, jb, dT];exact no (fun h => by have := h.card c hcm; omega) _ o1
    have hall':∀ y ∈ cs.take (k + 1), 2 <= y /\ y <= 4 := fun y hy => by
      rw[aL hc]at hy;rcases List.mem_append.1 hy with hy | hy
      · exact hall y hy
      · obtain rfl := List.mem_singleton.1 hy; omega
    have b1 := OJ hall' (by simp; omega);rw[aL hc, iZ]at b1;have w1 := IntWalk.i64_in ((k:Int) + 1) (by omega);have w2 := IntWalk.i64_in (aC (cs.take k) * c) (by omega);simp only[go_sem, h30, h3, hb, hne, hc, d1, d2, w1, w2, jb, dT];exact⟨⟨k + 1, rfl, by omega, hall', by rw[aL hc, iZ]⟩, by omega⟩
  rw[List.take_of_length_le (by omega)]at hall h3;by_cases c4:aC cs > 1024
  · simp only[go_sem, h30, h3, hb, c4, dT];exact no (fun h => by have := h.size; omega) _ o1
  simp only[go_sem, h30, h3, hb, c4, l1, dT];refine W.aI 604462909244364633933632 (by rfl) (fun ρ Ha => Ha = H' /\ ∃ k:Nat, ρ 49 = aa k /\ k <= xs.length /\ (∀ r ∈ xs.take k, uu cs r) /\ ρ 6 = aa 0) (fun ρ H => xs.length - (iv (ρ 49)).toNat) ?_ ?_
  · simp only[go_sem, dT];exact⟨0, rfl, by omega, by simp⟩
  rintro ρ' Ha ⟨rfl, i, h49, hi, hrows, h6⟩;refine ab _ _ _ (by rfl) ?_;by_cases hb2:(i:Int) < xs.length;rotate_left
  · simp only[go_sem, h49, h6, hb2, dT];rw[List.take_of_length_le (by omega)]at hrows;rw[yw ⟨by omega, by omega, hall, by omega, hrows⟩]at hK;exact av.bY aV hcl o1 (.lit _) hK
  obtain⟨r, hr⟩ := get_of_lt (l := xs) (i := i) (by omega);have hrm := List.mem_of_getElem? hr;have hr' := uv hr;have hrn := aN hr';by_cases hl:(r.length:Int) = cs.length;rotate_left
  · simp only[go_sem, h49, hb2, hr', hrn, l1, hl, dT];exact no (fun h => hl (by have := (h.row r hrm).1; omega)) _ o1
  simp only[go_sem, h49, h6, hb2, hr', hrn, l1, hl, dT];refine W.aI 302229149060648079984192 (by rfl) (fun ρ2 Hb => Hb = Ha /\ ∃ j:Nat, ρ2 61 = aa j /\ j <= r.length /\ (∀ (v:Nat) (c x:Int), v < j -> cs[v]? = some c -> r[v]? = some x -> -1 <= x /\ x < c) /\ ρ2 6 = aa 0) (fun ρ2 H => r.length - (iv (ρ2 61)).toNat) ?_ ?_
  · simp only[go_sem, h6, dT];exact⟨0, rfl, by omega, fun v _ _ h => by omega⟩
  rintro ρ2 Hb ⟨rfl, j, h61, hj, hin, h6'⟩;refine ab _ _ _ (by rfl) ?_;have w1 := IntWalk.i64_in ((i:Int) + 1) (by omega);by_cases hb3:(j:Int) < cs.length
  · obtain⟨x, hx⟩ := get_of_lt (l := r) (i := j) (by omega);obtain⟨c, hc⟩ := get_of_lt (l := cs) (i := j) (by omega);have hxn := aN hx;have hcn := aN hc;by_cases d1:x < -1
    · simp only[go_sem, h61, hb3, hl, hx, hxn, d1, jb, dT];exact no (fun h => by have := (h.row r hrm).2 j c x hc hx; omega) _ o1
    by_cases d2:x >= c
    · simp only[go_sem, h61, hb3, hl, hx, hxn, hc, hcn, l1, d1, d2, jb, dT];exact no (fun h => by have := (h.row r hrm).2 j c x hc hx; omega) _ o1
    have w2 := IntWalk.i64_in ((j:Int) + 1) (by omega);simp only[go_sem, h61, h6', hb3, hl, hx, hxn, hc, hcn, l1, d1, d2, w2, jb, dT];refine⟨⟨j + 1, rfl, by omega, fun v c' x' hv h1 h2 => ?_⟩, by omega⟩;rcases Nat.lt_or_ge v j with h | h
    · exact hin v c' x' h h1 h2
    · obtain rfl:v = j :=(by omega);rw[hc]at h1; rw[hx]at h2;cases h1; cases h2; omega
  · simp only[go_sem, h61, h6', h49, hb3, hl, w1, dT];refine⟨⟨i + 1, rfl, by omega, fun q hq => ?_⟩, by omega⟩;rw[aL hr]at hq;rcases List.mem_append.1 hq with hq | hq
    · exact hrows q hq
    · obtain rfl := List.mem_singleton.1 hq;exact .of (by omega) fun v c x hv => hin v c x (by omega)
theorem M5 (l:List Int)(v:Int)(hl:(l.length:Int)<2 ^ 62)(H:AHeap)(K:ARes->AHeap->Prop)(hK:∀ i:Int,(0<=i↔v∈l)->K (.ret (aa i)) H):ae Try.prog G0 87 [af l,aa v] H K:=by
 refine ae.bM (n:=19) (rs:=[.tmp 4]) Try.func87 rfl rfl rfl (by decide) (by kernel_rfl) (by simp) ?_;simp only[go_sem];refine W.aI 524080 (by rfl) (fun ρ H'=>H'=H/\∃ k:Nat,ρ 8=aa k/\k<=l.length/\∀ j,j<k->∀ b,l[j]?=some b->b≠v) (fun ρ H=>l.length - (iv (ρ 8)).toNat) ?_ ?_
 ·simp only[go_sem];exact⟨0,rfl,by omega,fun j h=>absurd h (Nat.not_lt_zero _)⟩
 rintro ρ H' ⟨rfl,k,h8,hk,hno⟩;refine ab _ _ _ (by rfl) ?_;by_cases hb:(k:Int)<l.length
 ·obtain⟨b,hkb⟩:=get_of_lt (l:=l) (i:=k) (by omega);have hne:=aN hkb;have w1:=IntWalk.i64_in ((k:Int)+1) (by omega);by_cases he:v=b
  ·subst he;simp only[go_sem,h8,hb,hkb,hne];exact av.mk (Nat.le_refl _) (hK k ⟨fun _=>List.mem_of_getElem? hkb,fun _=>by omega⟩)
  ·simp only[go_sem,h8,hb,hkb,hne,he,w1];exact⟨⟨k+1,by simp,by omega,fun j hj b' hb'=>by
    by_cases hjk:j=k
    ·subst hjk;rw[hkb]at hb';cases hb';exact fun h=>he h.symm
    ·exact hno j (by omega) b' hb'⟩,by omega⟩
 ·simp only[go_sem,h8,hb];refine av.mk (Nat.le_refl _) (hK (-1) ⟨fun h=>absurd h (by decide),fun hv=>?_⟩);obtain⟨j,hj⟩:=List.mem_iff_getElem?.1 hv;exact absurd rfl (hno j (by have:=get_lt hj;omega) v hj)
theorem M6 (l:List Int)(v:Int)(hl:(l.length:Int)<2 ^ 62)(H:AHeap)(K:ARes->AHeap->Prop)(hK:K (.ret (.lit (.bool (decide (v∈l))))) H):ae Try.prog G0 69 [af l,aa v] H K:=by
 refine ae.bM (n:=9) (rs:=[.tmp 4]) Try.func69 rfl rfl rfl (by decide) (by kernel_rfl) (by simp) ?_;simp only[go_sem];refine aw.clo (M5 l v hl H _ fun i hi=>⟨trivial,?_⟩);by_cases h0:0<=i
 ·simp only[go_sem,h0];rw[decide_eq_true (hi.1 h0)]at hK;exact av.mk (Nat.le_refl _) hK
 ·simp only[go_sem,h0];rw[decide_eq_false fun h=>h0 (hi.2 h)]at hK;exact av.mk (Nat.le_refl _) hK
theorem Cb (l:List Int)(hl:(l.length:Int)<2 ^ 62)(H:AHeap)(K:ARes->AHeap->Prop)(hK:K (.ret (.lit (.bool (decide ((0:Int)∈l))))) H):ae Try.prog G0 41 [af l] H K:=by
 refine ae.bM (n:=5) (rs:=[.tmp 2]) Try.func41 rfl rfl rfl (by decide) (by kernel_rfl) (by simp) ?_;simp only[go_sem];refine aw.clo (M6 l 0 hl H _ ⟨trivial,?_⟩);simp only[go_sem];exact av.mk (Nat.le_refl _) hK
def xX (p:Int × List NodeP):List AVal:=[aa p.1,.vec p.2.length (ar p.2)]
def dP (l:List (Int × List NodeP)):List AVal:=(l.map xX).flatten
theorem tZ (l:List (Int × List NodeP)):(dP l).length=l.length*2:=mh (f:=xX) (fun _=>rfl) l
theorem Cc {l:List (Int × List NodeP)}{i:Nat}{p:Int × List NodeP}(h:l[i]?=some p):((dP l).drop (i*2)).take 2=[aa p.1,.vec p.2.length (ar p.2)]:=pr (f:=xX) (z:=2) (fun _=>rfl) l i p h
theorem Cd {l:List (Int × List NodeP)}{i:Nat}{p:Int × List NodeP}(h:l[i]?=some p):¬ dP l=[]:=fun e=>by
 have h1:=tZ l;have h2:=get_lt h;rw[e,List.length_nil]at h1;omega
noncomputable def iU (l:List (Int × List NodeP))(cs:List Int)(xs:List (List Int)):Int:=if (∀ p∈l,fJ p.1 p.2=true) then (if iu cs xs=true then (if ∀ p∈l,au p.2=cs then 0 else 261) else 250) else 50
set_option maxHeartbeats 2000000 in
theorem M7 (l:List (Int × List NodeP))(cs:List Int)(xs:List (List Int))(hn:∀ p∈l,fj p.2)(hf:kL cs xs)(hl4:l.length<=4)(H:AHeap)(K:ARes->AHeap->Prop)(hK:K (.ret (aa (iU l cs xs))) H):
  ae Try.prog G0 40 [cO cs xs,.vec l.length (dP l)] H K:=by
 refine ae.clo ⟨_,Try.func40,rfl,rfl⟩ fun hcl=>?_;refine ae.bM (n:=61) (rs:=[.tmp 4]) Try.func40 rfl rfl rfl (by decide) (by kernel_rfl) (by simp) ?_;simp only[go_sem,cO,aE];obtain⟨H1,hH1⟩:∃ H1,H1=ext H [.arr 0 42 [.vec cs.length (ints cs),.vec xs.length (xs.map af)]]:=⟨_,rfl⟩
 have n1:H1.next=H.next+1:=by rw[hH1];rfl
 have o1:Over H H1:=by rw[hH1];exact .ext _ _
 have g1:H1.get H.next=some (.arr 0 42 [.vec cs.length (ints cs),.vec xs.length (xs.map af)]):=by rw[hH1];exact cu
 rw[<- hH1];refine W.env fun E hE=>?_;have e1:E 1=.vec l.length (dP l):=by rw[hE];simp only[go_sem]
 have e2:E 2=.ptr H.next 0 0:=by rw[hE];simp only[go_sem]
 have e13:E 13=.vec l.length (dP l):=by rw[hE];simp only[go_sem]
 have e14:E 14=aa l.length:=by rw[hE];simp only[go_sem]
 have e15:E 15=aa 0:=by rw[hE];simp only[go_sem]
 clear hE;refine W.aI 33521872 (by rfl) (fun ρ H'=>Over H1 H'/\∃ k:Nat,ρ 15=aa k/\k<=l.length/\∀ p∈l.take k,fJ p.1 p.2=true) (fun ρ H=>l.length - (iv (ρ 15)).toNat) ?_ ?_
 ·exact⟨.refl _,0,e15,by omega,fun p h=>by simp at h⟩
 rintro ρ H' ⟨o2,k,h15,hk,hall⟩;have n2:=o2.next;refine W.env fun F hF=>?_;have f1:F 1=.vec l.length (dP l):=by rw[hF];simp only[go_sem,e1]
 have f2:F 2=.ptr H.next 0 0:=by rw[hF];simp only[go_sem,e2]
 have f13:F 13=.vec l.length (dP l):=by rw[hF];simp only[go_sem,e13]
 have f14:F 14=aa l.length:=by rw[hF];simp only[go_sem,e14]
 have f15:F 15=aa k:=by rw[hF];simp only[go_sem,h15]
 clear hF;by_cases hb:(k:Int)<l.length
 ·obtain⟨p,hp⟩:=get_of_lt (l:=l) (i:=k) (by omega);have hpm:=List.mem_of_getElem? hp;have hne:=Cd hp;have hpt:=Cc hp;have hbd:k*2+2<=(dP l).length:=by rw[tZ];omega
  have w1:=IntWalk.i64_in ((k:Int)+1) (by omega);refine ab _ _ _ (by rfl) ?_;simp only[go_sem,f13,f14,f15,hb,hne,hpt,hbd];refine aw.clo (RV p.1 p.2 (hn p hpm) _ _ ⟨trivial,?_⟩);cases hN:fJ p.1 p.2
  ·simp only[go_sem];unfold iU at hK;rw[if_neg fun hh=>by rw[hh p hpm]at hN;cases hN]at hK;exact av.bY aV hcl (o1.trans (o2.trans (.ext _ _))) (.lit _) hK
  ·simp only[go_sem,f15,w1];refine⟨by omega,⟨o2.trans (.ext _ _),k+1,rfl,by omega,fun q hq=>?_⟩,by rw[h15];simp only[aa,aM];omega⟩;rw[aL hp]at hq;rcases List.mem_append.1 hq with hq|hq
   ·exact hall q hq
   ·rw[List.mem_singleton.1 hq];exact hN
 rw[List.take_of_length_le (by omega)]at hall;have l1:=ak ((o2.old H.next (by omega)).trans g1);refine ab _ _ _ (by rfl) ?_;simp only[go_sem,f2,f14,f15,hb,l1];refine aw.clo (OK cs xs hf _ _ ⟨trivial,?_⟩);unfold iU at hK;rw[if_pos hall]at hK;cases hD:iu cs xs
 ·simp only[go_sem];rw[if_neg (by rw[hD];decide)]at hK;exact av.bY aV hcl (o1.trans o2) (.lit _) hK
 rw[if_pos hD]at hK;have no:∀ p,p∈l->au p.2≠cs->∀ Hx,Over H Hx->av Try.prog G0 H K (aa 261) Hx:=fun p hp hne Hx ov=>by
  rw[if_neg fun hh=>hne (hh p hp)]at hK;exact av.bY aV hcl ov (.lit _) hK
 simp only[go_sem,f1];refine W.env fun E1 hE1=>?_;have k2:E1 2=.ptr H.next 0 0:=by rw[hE1];simp only[go_sem,f2]
 have k30:E1 30=.vec l.length (dP l):=by rw[hE1];simp only[go_sem]
 have k31:E1 31=aa l.length:=by rw[hE1];simp only[go_sem]
 have k32:E1 32=aa 0:=by rw[hE1];simp only[go_sem]
 clear hE1;refine W.aI 2305843004918733840 (by rfl) (fun ρ Hx=>Over H' Hx/\∃ k:Nat,ρ 32=aa k/\k<=l.length/\∀ p∈l.take k,au p.2=cs) (fun ρ H=>l.length - (iv (ρ 32)).toNat) ?_ ?_
 ·exact⟨.refl _,0,k32,by omega,fun p h=>by simp at h⟩
 rintro ρ4 Hx ⟨o3,m,h32,hm,hcar⟩;have n3:=o3.next;refine W.env fun F2 hF2=>?_;have m2:F2 2=.ptr H.next 0 0:=by rw[hF2];simp only[go_sem,k2]
 have m30:F2 30=.vec l.length (dP l):=by rw[hF2];simp only[go_sem,k30]
 have m31:F2 31=aa l.length:=by rw[hF2];simp only[go_sem,k31]
 have m32:F2 32=aa m:=by rw[hF2];simp only[go_sem,h32]
 clear hF2;by_cases hb2:(m:Int)<l.length;rotate_left
 ·refine ab _ _ _ (by rfl) ?_;simp only[go_sem,m31,m32,hb2];rw[List.take_of_length_le (by omega)]at hcar;rw[if_pos hcar]at hK;exact av.bY aV hcl (o1.trans (o2.trans o3)) (.lit _) hK
 obtain⟨p,hp⟩:=get_of_lt (l:=l) (i:=m) (by omega);obtain⟨g,ns⟩:=p;have hpm:=List.mem_of_getElem? hp;have hok:=zg.1 (hall _ hpm);have n8:1<=ns.length/\ns.length<=8:=hok.n1;have hne:=Cd hp;have hpt:=Cc hp;have hbd:m*2+2<=(dP l).length:=by rw[tZ];omega
 have w1:=IntWalk.i64_in ((m:Int)+1) (by omega);have lE:∀ L,(ext Hx L).live H.next 0=some (42,[.vec cs.length (ints cs),.vec xs.length (xs.map af)]):=fun L=>ak ((dF _ _ _ (by omega)).trans ((o3.old H.next (by omega)).trans ((o2.old H.next (by omega)).trans g1)));by_cases hlen:(ns.length:Int)=cs.length;rotate_left
 ·refine ab _ _ _ (by rfl) ?_;simp only[go_sem,m2,m30,m31,m32,hb2,hne,hpt,hbd,lE,hlen];exact no _ hpm (fun hh=>hlen (by rw[<- hh];exact congrArg Int.ofNat (cG ns).symm)) _ ((o1.trans o2).trans (o3.trans (.ext _ _)))
 refine ab _ _ _ (by rfl) ?_;simp only[go_sem,m2,m30,m31,m32,hb2,hne,hpt,hbd,lE,hlen];obtain⟨Hy,hHy⟩:∃ Hy,Hy=ext Hx [.arr 0 35 [aa g,.vec ns.length (ar ns)]]:=⟨_,rfl⟩
 have oy:Over Hx Hy:=by rw[hHy];exact .ext _ _
 have ny:Hy.next=Hx.next+1:=by rw[hHy];rfl
 refine W.env fun E3 hE3=>?_;have p2:E3 2=.ptr H.next 0 0:=by rw[hE3];simp only[go_sem,m2]
 have p30:E3 30=.vec l.length (dP l):=by rw[hE3];simp only[go_sem,m30]
 have p31:E3 31=aa l.length:=by rw[hE3];simp only[go_sem,m31]
 have p32:E3 32=aa m:=by rw[hE3];simp only[go_sem,m32]
 have p44:E3 44=.vec ns.length (ar ns):=by rw[hE3];simp only[go_sem]
 have p45:E3 45=aa ns.length:=by rw[hE3];simp only[go_sem,hlen]
 have p46:E3 46=aa 0:=by rw[hE3];simp only[go_sem]
 clear hE3;show W _ _ _ _ _ _ ⟨E3,ext Hx [.arr 0 35 [aa g,.vec ns.length (ar ns)]]⟩;rw[<- hHy];refine W.aI 1152851135862675472 (by rfl) (fun ρ Hz=>Over Hy Hz/\∃ v:Nat,ρ 46=aa v/\v<=ns.length/\(au ns).take v=cs.take v) (fun ρ H=>ns.length - (iv (ρ 46)).toNat) ?_ ?_
 ·exact⟨.refl _,0,p46,by omega,rfl⟩
 rintro ρ5 Hz ⟨oz,v,h46,hv,he⟩;have nz:=oz.next;refine W.env fun E4 hE4=>?_;have q2:E4 2=.ptr H.next 0 0:=by rw[hE4];simp only[go_sem,p2]
 have q30:E4 30=.vec l.length (dP l):=by rw[hE4];simp only[go_sem,p30]
 have q31:E4 31=aa l.length:=by rw[hE4];simp only[go_sem,p31]
 have q32:E4 32=aa m:=by rw[hE4];simp only[go_sem,p32]
 have q44:E4 44=.vec ns.length (ar ns):=by rw[hE4];simp only[go_sem,p44]
 have q45:E4 45=aa ns.length:=by rw[hE4];simp only[go_sem,p45]
 have q46:E4 46=aa v:=by rw[hE4];simp only[go_sem,h46]
 clear hE4;have cl:=cG ns;by_cases hb3:(v:Int)<ns.length;rotate_left
 ·refine ab _ _ _ (by rfl) ?_;simp only[go_sem,q32,q45,q46,hb3,w1];rw[List.take_of_length_le (by omega),List.take_of_length_le (by omega)]at he;refine⟨by omega,⟨o3.trans (oy.trans oz),m+1,rfl,by omega,fun q hq=>?_⟩,by rw[h32];simp only[aa,aM];omega⟩
  ·rw[aL hp]at hq;rcases List.mem_append.1 hq with hq|hq
   ·exact hcar q hq
   ·rw[List.mem_singleton.1 hq];exact he
 obtain⟨x,hx⟩:=get_of_lt (l:=ns) (i:=v) (by omega);obtain⟨c,hc⟩:=get_of_lt (l:=cs) (i:=v) (by omega);have hxn:=fa hx;have hxp:=kf hx;have hcn:=aN hc;have hbv:v*3+3<=(ar ns).length:=by rw[fD];omega
 have hvc:(v:Int)<cs.length:=by omega
 have w2:=IntWalk.i64_in ((v:Int)+1) (by omega);have lF:∀ L,(ext Hz L).live H.next 0=some (42,[.vec cs.length (ints cs),.vec xs.length (xs.map af)]):=fun L=>ak ((dF _ _ _ (by omega)).trans ((oz.old H.next (by omega)).trans ((oy.old H.next (by omega)).trans ((o3.old H.next (by omega)).trans ((o2.old H.next (by omega)).trans g1)))));refine ab _ _ _ (by rfl) ?_;simp only[go_sem,q44,q45,q46,hb3,hxn,hxp,hbv];refine W.draw 7 [0,1,0,4,0,28,60] Try.mixed (by kernel_rfl) (by kernel_rfl) ?_;by_cases hd:x.card=c
 ·simp only[go_sem,q2,q46,hc,hcn,hvc,lF,hd,w2];exact⟨by omega,⟨oz.trans (.ext _ _),v+1,rfl,by omega,by rw[aL (cS hx),aL hc,he,hd]⟩,by rw[h46];simp only[aa,aM];omega⟩
 ·simp only[go_sem,q2,hc,hcn,hvc,lF,hd];exact no _ hpm (fun hh=>hd (by have:=cS hx;rw[show au ns=cs from hh,hc]at this;exact(Option.some.inj this).symm)) _ ((o1.trans o2).trans (o3.trans (oy.trans (oz.trans (.ext _ _)))))
theorem Nj {c:List Int}(h:iY c 720 0)(H:AHeap){v:AVal}(hv:Fz (fun _=>True) H 0 v (af c)):
  ae Try.prog G0 48 [v,aa 720,aa 0] H fun r H'=>r=.ret (.tup [af (iq c),aa 0])/\H'=H:=by
 obtain⟨h1,h2,h3,h4,h5⟩:=id h;refine ae.frame (H:=H) (args:=[v,aa 720,aa 0]) (args':=[af c,aa 720,aa 0]) (v':=.tup [af (iq c),aa 0]) aV rfl (fun i hi _=>match i,hi with
  | 0,_=>hv
  | 1,_=>.lit _
  | 2,_=>.lit _) ?_
 refine Dy rfl h1.1 h1.2 h2 h3 ⟨h4,by decide⟩ cJ _ (fun hlt=>absurd h5 (by omega)) fun s u H' _ hs ho hu=>⟨_,rfl,.tup rfl fun i hi _=>?_⟩
 match i,hi with
 | 0,_ =>
  have e:iq c=s:=(uy hs).symm;rw[e];exact hu.rE
 | 1,_=>exact .lit _
end Go.Proofs
