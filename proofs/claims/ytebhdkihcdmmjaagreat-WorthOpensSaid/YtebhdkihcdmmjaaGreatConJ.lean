/- Own work: contracts. -/
import Derived.Test.YtebhdkihcdmmjaaGreatConI
import Derived.Test.YtebhdkihcdmmjaaGreatConA
import Derived.Test.YtebhdkihcdmmjaaGreatLibC
import Derived.Test.YtebhdkihcdmmjaaGreatProg
import Derived.Test.YtebhdkihcdmmjaaGreatConH
set_option linter.all false
set_option maxHeartbeats 8000000
set_option maxRecDepth 100000
namespace Go.Proofs
open Go.Hx
variable {nx:Nat}{G:Nat->Option (List nnn)}{S:Nat->Prop}{P:Program}{K:nnf->nnl->Prop}{H:nnl}{r:nnn}
noncomputable def s8 (d:nnb)(v k:Int):Int:=if 0<(ay d).length/\k % 8 > 0 then (av (ay d)).getD (k % (ay d).length).toNat 0 else v
def SU (d:nnb)(cs:List nnn)(hd:d.nl<2 ^ 64)(hl:(d.F.length:Int)<2 ^ 39)(v k:Int)(hk:0<=k/\k<=255)(H:nnl)(K:nnf->nnl->Prop)(hK:K (.ret (aa (s8 d v k))) H):af Tryz.prog G0 12 [bH d cs,aa v,.lit (.int .u8 k)] H K:=by
 refine af.nb ⟨_,Tryz.func12,rfl,rfl⟩ fun hcl=>?_;refine af.sw (n:=27) (rs:=[.tmp 6]) Tryz.func12 ?_;refine W.sq ?_;simp only[go_sem,fg,eN];obtain⟨H1,hH1⟩:∃H1,H1=ext H [.O 0 38 [.lit (.int .i64 d.nn),.L d.F.length cs,.lit (.int .u64 (d.nl:Int)),.L d.V.length (aH d.V)]]:=⟨_,rfl⟩
 have l1:=ag (show H1.get H.C=some (.O 0 38 [.lit (.int .i64 d.nn),.L d.F.length cs,.lit (.int .u64 (d.nl:Int)),.L d.V.length (aH d.V)]) by rw[hH1];exact bY ..);have o1:nnd H H1:=hH1▸.ext _ _
 rw[<- hH1];clear hH1;have no:¬(0<(ay d).length/\k % 8 > 0)->ar Tryz.prog G0 H K (.lit (.int .i64 v)) H1:=fun h=>by
  have e:s8 d v k=v:=W7 h;rw[e]at hK;exact ar.bw (v':=aa v) aO hcl o1 (.lit _) hK
 refine W.sq ?_;simp only[go_sem,l1];refine aC.nb (AL d cs hd hl _ _ ⟨trivial,?_⟩);have nl:(av (ay d)).length=(ay d).length:=by simp[av]
 have k8:k.tmod 8=k % 8:=XF hk.1;have w8:IntKind.u8.wrap (k % 8)=k % 8:=ZV _ U;have dl8:(ay d).length<=d.F.length:=mb;simp only[go_sem];by_cases hn:0<(ay d).length;rotate_left
 ·have hni:¬((ay d).length:Int) > 0:=U
  try refine W.vs ?_
  simp only[go_sem,hni,nl]
  try refine W.vs ?_
  simp only[go_sem];exact no fun h=>hn h.1
 have hni:((ay d).length:Int) > 0:=U
 by_cases hk8:k % 8 > 0;rotate_left
 ·try refine W.vs ?_
  simp only[go_sem,hni,nl,k8,hk8]
  try refine W.vs ?_
  simp only[go_sem];exact no fun h=>hk8 h.2
 have m0:=YN k (show ((ay d).length:Int)≠0 by omega);have m1:=YF k (show (0:Int)<(ay d).length by omega);have kt:k.tmod (ay d).length=k % (ay d).length:=XF hk.1;have e:s8 d v k=(av (ay d)).getD (k % (ay d).length).toNat 0:=W8 ⟨hn,hk8⟩;obtain⟨m,hm⟩:∃m:Nat,k % (ay d).length=m:=⟨(k % (ay d).length).toNat,U⟩
 rw[hm]at kt m1 e;obtain⟨a,ha⟩:=get_of_lt (l:=av (ay d)) (i:=m) U;have hane:=aS ha;have ea:s8 d v k=a:=by rw[e,Int.toNat_natCast,Xh,ha];rfl
 have wk:=W6 k U;have wm:=W6 (m:Int) U;have hd0:¬((ay d).length:Int)=0:=U
 try refine W.vs ?_
 simp only[go_sem,hni,nl,k8,hk8,kt,wk,hd0,m1,ha,hane];rw[ea]at hK;exact ar.bw (v':=aa a) aO hcl o1 (.lit _) hK
def Aq (x:nnb)(hf:nnm x)(H:nnl)(K:nnf->nnl->Prop)(hK:K (.ret (.lit (.bool true))) H):af Tryz.prog G0 18 [cM x,cM x] H K:=by
 refine af.nb ⟨_,Tryz.func18,rfl,rfl⟩ fun hcl=>?_;have u0:=hf.V.1;refine af.sw (n:=69) (rs:=[.tmp 4]) Tryz.func18 ?_;refine W.sq ?_;simp only[go_sem,hJ,dm];obtain⟨H1,hH1⟩:∃H1,H1=ext H [.O 0 38 [.lit (.int .i64 x.nn),.L x.F.length (aG x.F),.lit (.int .u64 (x.nl:Int)),.L x.V.length (aH x.V)],.O 0 38 [.lit (.int .i64 x.nn),.L x.F.length (aG x.F),.lit (.int .u64 (x.nl:Int)),.L x.V.length (aH x.V)]]:=⟨_,rfl⟩
 have g1:=de hH1
 have g2:=gE hH1 1 rfl
 have n1:H1.C=H.C+2:=hH1▸rfl
 have o1:nnd H H1:=hH1▸.ext _ _
 rw[<- hH1];clear hH1;have l1:=ag g1;have l2:=ag g2;refine W.en (fun E0=>E0 2=.Y H.C 0 0 /\ E0 3=.Y (H.C+1) 0 0) (by simp only[go_sem]) fun E0 ⟨a2,a3⟩=>?_
 refine W.dI (fun s'=>s'.ρ 2=.Y H.C 0 0/\s'.ρ 3=.Y (H.C+1) 0 0/\s'.H=H1) ?_ ?_
 ·refine W.vs ?_;simp only[go_sem,a2,a3,l1,l2];refine aC.nb (Vf x.nn x.F hf.F _ _ ⟨trivial,?_⟩);simp only[go_sem,a2,a3,l1,l2]
 rintro⟨ρ1,H2⟩ ⟨c2,c3,hH⟩;simp only at c2 c3 hH;subst hH;refine W.sq ?_;simp only[go_sem];refine W.en (fun E=>E 2=.Y H.C 0 0 /\ E 3=.Y (H.C+1) 0 0 /\ E 5=aa 0) (by simp only[go_sem,c2,c3]) fun E ⟨e2,e3,e5⟩=>?_
 refine W.aM 590295810341525782576 (by rfl) (fun ρ Hx=>∃k:Nat,ρ 5=aa k/\k<=x.V.length/\nnd H2 Hx) (fun ρ _=>x.V.length-(iv (ρ 5)).toNat) ?_ ?_
 ·exact⟨0,e5,U,.refl _⟩
 rintro ρ Hx ⟨k,h5,hk,ov⟩;refine W.en (fun E1=>E1 2=.Y H.C 0 0 /\ E1 3=.Y (H.C+1) 0 0 /\ E1 5=aa k) (by simp only[go_sem,e2,e3,h5]) fun E1 ⟨f2,f3,f5⟩=>?_
 have onx:=ov.C;have m1:=ag ((ov.ng H.C U).trans g1);have m2:=ag ((ov.ng (H.C+1) U).trans g2);refine W.vs ?_;by_cases hb:(k:Int)<x.V.length;rotate_left
 ·simp only[go_sem,f2,f5,m1,hb];refine W.vs ?_;simp only[go_sem];exact ar.bw (v':=.lit (.bool true)) aO hcl (o1.trans ov) (.lit _) hK
 obtain⟨u,hu⟩:=get_of_lt (l:=x.V) (i:=k) U;obtain⟨b1,b2⟩:=hf.V.2 u (an hu);have q0:=Ar hu;have q1:=EI hu;have qn:=qR hu;have w1:=W6 ((k:Int)+1) U;simp only[go_sem,f2,f5,m1,hb];refine W.dr 26 [0,1,0,7,15,31,0,64,0,448,960,1984,4095,0,8192,0,57344,122880,253952,0,524288,0,3670016,7864320,16252928,33546240] Tryz.mixed ?_;have m1e:∀L,(ext Hx L).na H.C 0=_:=fun L=>(cB U).trans m1;have m2e:∀L,(ext Hx L).na (H.C+1) 0=_:=fun L=>(cB U).trans m2;have r2:List.replicate 2 (nnn.lit (.slice none 0 0))=[.lit (.slice none 0 0),.lit (.slice none 0 0)]:=rfl;simp only[go_sem,f2,f3,f5,m1,m2e,hb,q0,q1,qn,r2,List.drop_succ_cons,List.drop_zero,List.length_cons,List.length_nil];have nq:∀y:Nat,y=Hx.C->¬y=H.C+1:=fun y h=>U
 have nq':∀y:Nat,y=Hx.C+1->¬y=H.C:=fun y h=>U
 refine⟨nq,nq,nq,nq,⟨nq',nq',nq',nq'⟩,?_⟩;obtain⟨Hq,hHq⟩:∃Hq,Hq=ext (ext Hx [.O 0 72 [ah u.vars,ah u.w]]) [.O 0 72 [ah u.vars,ah u.w]]:=⟨_,rfl⟩
 have y1:Hq.get Hx.C=some (.O 0 72 [ah u.vars,ah u.w]):=by rw[hHq,eT];exact cO Hx _ 0 (aaw)
 have y2:Hq.get (Hx.C+1)=some (.O 0 72 [ah u.vars,ah u.w]):=by rw[hHq,eT];exact cO Hx _ 1 (aaw)
 have yn:Hq.C=Hx.C+2:=by rw[hHq,bu,bu];rfl
 have yo:nnd Hx Hq:=by rw[hHq];exact(nnd.ext _ _).trans (.ext _ _)
 unfold ah at hHq;rw[<- hHq];have sp:af Tryz.prog G0 49 [aD [u.vars,u.w],aD [u.vars,u.w]] cw fun r H'=>∃v,r=.ret v/\nns H' v (.lit (.bool true)):=Ve [u.vars,u.w] [u.vars,u.w] aaw (fun l hl=>by
  rcases List.mem_cons.1 hl with rfl|hl
  ·omega
  ·obtain rfl:=List.mem_singleton.1 hl;omega) cw _ ⟨_,rfl,by rw[Xy rfl];exact .lit _⟩
 have fzo:∀a:Nat,a<Hq.C->Hq.get a=some (.O 0 72 [ah u.vars,ah u.w])->Fz (fun _=>True) Hq 0 (.Z a 0 0 2 1) (aD [u.vars,u.w]):=fun a h1 h2=>by
  have hO:aB 0 Hq 72 (.Z a 0 0 2 1) [ah u.vars,ah u.w]:=.inr ⟨a,0,Zu _,h1,rfl,h2⟩;exact hO.fz (S:=fun _=>True) (nx:=0) (cs':=[ah u.vars,ah u.w]) (fun _ _=>trivial) rfl fun i hi _=>match i,hi with
   |0,_=>.df _
   |1,_=>.df _
 refine aC.nb ((af.frame (H:=Hq) (args:=[.Z Hx.C 0 0 2 1,.Z (Hx.C+1) 0 0 2 1]) (args':=[aD [u.vars,u.w],aD [u.vars,u.w]]) aO rfl (fun i hi _=>?_) sp).mono fun r H' hr=>?_)
 ·match i,hi with
  |0,_=>exact fzo _ U y1
  |1,_=>exact fzo _ U y2
 obtain⟨rfl,rfl⟩:=hr;refine⟨trivial,?_⟩;simp only[go_sem,f5,w1];exact⟨by have:=yo.C;omega,⟨k+1,rfl,U,ov.trans yo⟩,by rw[h5];simp only[aa,aI];omega⟩
def En {l:List Value}:∀i (_:i<(l.map nnn.lit).length) (_:i<(l.map nnn.lit).length),Fz S H nx (l.map nnn.lit)[i] (l.map nnn.lit)[i]:=fun i _ _=>by simp only[Xi];exact .lit _
def Eo (a b c:Value):Fz S H nx (.nc [.agg [.lit a,.lit b],.lit c]) (.nc [.agg [.lit a,.lit b],.lit c]) :=
 .nc rfl fun i h _=>match i,h with
  |0,_=>.agg rfl (En (l:=[a,b]))
  |1,_=>.lit _
def Ep (a c:Value):Fz S H nx (.nc [.lit a,.lit c]) (.nc [.lit a,.lit c]):=.nc rfl (En (l:=[a,c]))
def Er:nnn->Bool
 |.agg [.lit (.int .i64 _),.lit (.int .i64 _)]=>true
 |_=>false
def Al:GD:=⟨.agg [.lit (.int .i64 0),.lit (.int .i64 0)],Er⟩
def Sy (hG:dS G):qE Tryz.prog G 163 Al:=by
 intro g cap cap' H o hl hv hok hc;refine af.nb ⟨_,Tryz.func163,rfl,rfl⟩ fun hcl=>?_;refine af.guard (n:=7) (m:=6) (rs:=[.cell 2 58,.cell 3 44]) Tryz.func163 rfl rfl rfl aay aaw aax Tryz.func184 rfl rfl rfl aax aay aax aax aax aax aax (fun _=>aay) (fun _ _ _=>aay) aax aax aax (s1:=?s) ?_ ?_
 case s=>exact⟨aF (aF (cR [.nb g [] cap]) (some 2) (.Y H.C 0 0)) (some 3) (.Y (H.C+1) 0 0),ext H [.O 0 58 [.lit (.int .i64 0),.lit (.int .i64 0)],.O 0 44 [.lit (.int .i64 0)]]⟩
 ·simp only[go_sem]
 ·refine W.vs ?_;simp only[go_sem];refine aC.nb ((af.xT (args:=[]++[]++cap) hG (by simpa using hl) (fun i h h'=>by simpa using hv _ (fun id hid=>cV H _ id hid) i (by simpa using h) h') hc).mono ?_);rintro r H' ⟨rfl,rfl⟩;refine⟨trivial,?_⟩;cases o with
  |none =>
   intro t v;refine⟨⟨aF (aF (aF (cR [.Y H.C 0 0,.Y (H.C+1) 0 0]) (some 3) (.lit (.iface t v))) (some 4) (.lit (.bool true))) (some 2) (.Y (H.C+2) 0 0),ext H [.O 0 58 [.lit (.int .i64 0),.lit (.int .i64 0)],.O 0 44 [.lit (.int .i64 0)],.O 0 58 [.lit (.int .i64 0),.lit (.int .i64 0)]]⟩,
    ⟨aF (aF (aF (aF (cR [.Y H.C 0 0,.Y (H.C+1) 0 0]) (some 3) (.lit (.iface t v))) (some 4) (.lit (.bool true))) (some 2) (.Y (H.C+2) 0 0)) (some 5) (.agg [.lit (.int .i64 0),.lit (.int .i64 0)]),ext H [.O 0 58 [.lit (.int .i64 0),.lit (.int .i64 0)],.O 0 44 [.lit (.int .i64 6)],.O 0 58 [.lit (.int .i64 0),.lit (.int .i64 0)]]⟩,?_,?_,?_⟩
   ·simp only[go_sem]
   ·simp only[go_sem]
   ·simp only[go_sem];exact ar.drop hG hcl (Eo _ _ _) ⟨rfl,rfl⟩
  |some u =>
   have hu:=hok u rfl;unfold Al Er at hu;simp only at hu;split at hu
   ·rename_i a b;show opsV _ _ _ _ _ _ _;simp only[go_sem,xW];exact ar.drop hG hcl (Eo _ _ _) ⟨rfl,rfl⟩
   ·cases hu
def Es:nnn->Bool
 |.lit (.int .i64 _)=>true
 |_=>false
def Am:GD:=⟨.lit (.int .i64 0),Es⟩
def Sz (hG:dS G):qE Tryz.prog G 139 Am:=by
 intro g cap cap' H o hl hv hok hc;refine af.nb ⟨_,Tryz.func139,rfl,rfl⟩ fun hcl=>?_;refine af.guard (n:=7) (m:=6) (rs:=[.cell 2 3,.cell 3 44]) Tryz.func139 rfl rfl rfl aay aaw aax Tryz.func173 rfl rfl rfl aax aay aax aax aax aax aax (fun _=>aay) (fun _ _ _=>aay) aax aax aax (s1:=?s) ?_ ?_
 case s=>exact⟨aF (aF (cR [.nb g [] cap]) (some 2) (.Y H.C 0 0)) (some 3) (.Y (H.C+1) 0 0),ext H [.O 0 3 [.lit (.int .i64 0)],.O 0 44 [.lit (.int .i64 0)]]⟩
 ·simp only[go_sem]
 ·refine W.vs ?_;simp only[go_sem];refine aC.nb ((af.xT (args:=[]++[]++cap) hG (by simpa using hl) (fun i h h'=>by simpa using hv _ (fun id hid=>cV H _ id hid) i (by simpa using h) h') hc).mono ?_);rintro r H' ⟨rfl,rfl⟩;refine⟨trivial,?_⟩;cases o with
  |none =>
   intro t v;refine⟨⟨aF (aF (aF (cR [.Y H.C 0 0,.Y (H.C+1) 0 0]) (some 3) (.lit (.iface t v))) (some 4) (.lit (.bool true))) (some 2) (.lit (.int .i64 0)),ext H [.O 0 3 [.lit (.int .i64 0)],.O 0 44 [.lit (.int .i64 0)]]⟩,
    ⟨aF (aF (aF (aF (cR [.Y H.C 0 0,.Y (H.C+1) 0 0]) (some 3) (.lit (.iface t v))) (some 4) (.lit (.bool true))) (some 2) (.lit (.int .i64 0))) (some 5) (.lit (.int .i64 0)),ext H [.O 0 3 [.lit (.int .i64 0)],.O 0 44 [.lit (.int .i64 6)]]⟩,?_,?_,?_⟩
   ·simp only[go_sem]
   ·simp only[go_sem]
   ·simp only[go_sem];exact ar.drop hG hcl (Ep _ _) ⟨rfl,rfl⟩
  |some u =>
   have hu:=hok u rfl;unfold Am Es at hu;simp only at hu;split at hu
   ·rename_i a;show opsV _ _ _ _ _ _ _;simp only[go_sem,xW];exact ar.drop hG hcl (Ep _ _) ⟨rfl,rfl⟩
   ·cases hu
def Gf (args:Array Value):Sem Value:=do
  let (x, y, c) ← Extern.MathBitsCarry.three "Add64" args
  pure (Extern.MathBitsCarry.pair ((x+y+c) % Extern.MathBitsCarry.m64) ((x+y+c) / Extern.MathBitsCarry.m64))
def Gg (args:Array Value):Sem Value:=do
  let (x, y, b) ← Extern.MathBitsCarry.three "Sub64" args
  pure (Extern.MathBitsCarry.pair ((x+Extern.MathBitsCarry.m64-y-b) % Extern.MathBitsCarry.m64) (if x<y+b then 1 else 0))
def dH:List nnn->Option nnn
  | [.lit (.int .u64 a),.lit (.int .u64 b),.lit (.int .u64 c)]=>bif Nat.ble c.toNat 1 then some (.nc [.lit (.int .u64 (Int.ofNat ((a.toNat+b.toNat+c.toNat) % 18446744073709551616))),.lit (.int .u64 (Int.ofNat ((a.toNat+b.toNat+c.toNat) / 18446744073709551616)))]) else none
  |_=>none
def tB:List nnn->Option nnn
  | [.lit (.int .u64 a),.lit (.int .u64 b),.lit (.int .u64 c)]=>bif Nat.ble c.toNat 1 then some (.nc [.lit (.int .u64 (Int.ofNat ((a.toNat+18446744073709551616-b.toNat-c.toNat) % 18446744073709551616))),.lit (.int .u64 (Int.ofNat (bif Nat.blt a.toNat (b.toNat+c.toNat) then 1 else 0)))]) else none
  |_=>none
def Gh (a b:Nat)(Γ:aA)(H:nnl)(w:World):nnc P Γ H w (.nc [.lit (.int .u64 (Int.ofNat a)),.lit (.int .u64 (Int.ofNat b))]) (Extern.MathBitsCarry.pair a b):=by
  unfold Extern.MathBitsCarry.pair;refine nnc.nc (cs:=[.int .u64 (Int.ofNat a),.int .u64 (Int.ofNat b)]) rfl fun i h _=>?_
  match i,h with
  |0,_=>exact .lit _
  |1,_=>exact .lit _
def Gi (s:String)(w:World)(a b c:Int)(hc:¬c.toNat > 1):(Extern.MathBitsCarry.three s #[.int .u64 a,.int .u64 b,.int .u64 c]).run P w=.ok (a.toNat,b.toNat,c.toNat) w:=by
  have h1:∀x:Int,(asInt (.int .u64 x)).run P w=.ok x w:=fun x=>rfl;show (do
    let c:=(<- asInt (.int .u64 c)).toNat
    if c > 1 then unsupported _
    pure ((<- asInt (.int .u64 a)).toNat,(<- asInt (.int .u64 b)).toNat,c):Sem (Nat × Nat × Nat)).run P w=_
  rw[ao (h1 c)];simp only[hc,if_false];rfl
def VA {a b c:Int}(h:dH [.lit (.int .u64 a),.lit (.int .u64 b),.lit (.int .u64 c)]=some r)(hK:K (.ret r) H):aC Tryz.prog mQ (.nb 185 [] []) [.lit (.int .u64 a),.lit (.int .u64 b),.lit (.int .u64 c)] H K:=by
  simp only[dH]at h;cases hb:Nat.ble c.toNat 1 with
  |false=>rw[hb]at h;cases h
  |true =>
    rw[hb]at h;have hc:¬c.toNat > 1:=(by have:=Yw hb;omega);cases h;refine aC.ext (e:=Gf) (vs:=[.int .u64 a,.int .u64 b,.int .u64 c]) Tryz.func185 rfl aay aay aay rfl (fun w=>?_) (fun Γ H w=>Gh _ _ Γ H w) hK;unfold Gf;rw[ao (Gi _ w a b c hc)];rfl
def VB {a b c:Int}(h:tB [.lit (.int .u64 a),.lit (.int .u64 b),.lit (.int .u64 c)]=some r)(hK:K (.ret r) H):aC Tryz.prog mQ (.nb 186 [] []) [.lit (.int .u64 a),.lit (.int .u64 b),.lit (.int .u64 c)] H K:=by
  simp only[tB]at h;cases hb:Nat.ble c.toNat 1 with
  |false=>rw[hb]at h;cases h
  |true =>
    rw[hb]at h;have hc:¬c.toNat > 1:=(by have:=Yw hb;omega);cases h;refine aC.ext (e:=Gg) (vs:=[.int .u64 a,.int .u64 b,.int .u64 c]) (v:=Extern.MathBitsCarry.pair ((a.toNat+18446744073709551616-b.toNat-c.toNat) % 18446744073709551616) (bif Nat.blt a.toNat (b.toNat+c.toNat) then 1 else 0)) Tryz.func186 rfl aay aay aay rfl (fun w=>?_) (fun Γ H w=>Gh _ _ Γ H w) hK;unfold Gg;rw[ao (Gi _ w a b c hc)];by_cases hl:a.toNat<b.toNat+c.toNat
    · have:Nat.blt a.toNat (b.toNat+c.toNat)=true:=(by rw[ZE];exact hl);rw[this];simp only[hl,if_true,cond_true];rfl
    · have : Nat.blt a.toNat (b.toNat+c.toNat)=false:=by
        cases h:Nat.blt a.toNat (b.toNat+c.toNat) with
        |false=>rfl
        |true=>rw[ZE]at h;exact absurd h hl
      rw[this];simp only[hl,if_false,cond_false];rfl
def VC:∀ {args:List nnn} {r:nnn},dH args=some r->∃a b c,args=[.lit (.int .u64 a),.lit (.int .u64 b),.lit (.int .u64 c)]:=by
  intro args r h;unfold dH at h;split at h
  · exact⟨_,_,_,rfl⟩
  · cases h
def VD:∀ {args:List nnn} {r:nnn},tB args=some r->∃a b c,args=[.lit (.int .u64 a),.lit (.int .u64 b),.lit (.int .u64 c)]:=by
  intro args r h;unfold tB at h;split at h
  · exact⟨_,_,_,rfl⟩
  · cases h
def lp:FuncId->Option (List nnn->Option nnn):=fun f=>bif Nat.beq f 185 then some dH else bif Nat.beq f 186 then some tB else none
def nE {E:EP}(hP:E.P=Tryz.prog)(hG:E.G=mQ)(hx:E.ext=lp):vw E:=by
  intro f e h args r hr H K hK;rw[hx]at h;rw[hP,hG];unfold lp at h;cases h1:Nat.beq f 185 with
  |true =>
    rw[h1]at h;have e1:=Xr h1;subst e1;cases h;obtain⟨a,b,c,rfl⟩:=VC hr;exact VA hr hK
  |false =>
  rw[h1]at h;cases h2:Nat.beq f 186 with
  |true =>
    rw[h2]at h;have e1:=Xr h2;subst e1;cases h;obtain⟨a,b,c,rfl⟩:=VD hr;exact VB hr hK
  |false=>rw[h2]at h;cases h
def kr:FuncId->Option GD:=fun f=>bif Nat.beq f 163 then some Al else bif Nat.beq f 139 then some Am else none
def VE:∀f z,kr f=some z->qE Tryz.prog mQ f z:=by
  intro f z h;unfold kr at h;cases h1:Nat.beq f 163 with
  |true =>
    rw[h1]at h;have e:=Xr h1;subst e;cases h;exact Sy vA
  |false =>
    rw[h1]at h;cases h2:Nat.beq f 139 with
    |true =>
      rw[h2]at h;have e:=Xr h2;subst e;cases h;exact Sz vA
    |false=>rw[h2]at h;cases h
abbrev Tryz.Gk:Nat->Option (List nnn):=mQ
def Tryz.nF:dS Tryz.Gk:=vA
def Tryz.nG:∀f z,kr f=some z->qE Tryz.prog Tryz.Gk f z:=VE
def Tryz.nH:Tryz.prog.follows .mixedOrders=true:=aay
noncomputable def Tryz.kv:EP:={ P:=Tryz.prog,G:=Tryz.Gk,gd:=kr,known:=jS [],ext:=lp }
def Tryz.lu:EOk Tryz.kv:=.mO (l:=[]) rfl Tryz.nF Tryz.nH Tryz.nG trivial (nE rfl rfl rfl)
def Tryz.Gj:List nnn:=[.agg [.lit (.int .i64 2),.L 3 [.lit (.int .i64 2),.lit (.slice none 0 0),.lit (.slice none 0 0),.lit (.int .i64 2),.lit (.slice none 0 0),.L 1 [.L 2 [.lit (.int .i64 1),.lit (.int .i64 1)]],.lit (.int .i64 2),.L 1 [.lit (.int .i64 0)],.lit (.slice none 0 0)],.lit (.int .u64 5),.L 2 [.L 2 [.lit (.int .i64 0),.lit (.int .i64 1)],.L 4 [.lit (.int .i64 4),.lit (.int .i64 0),.lit (.int .i64 0),.lit (.int .i64 4)],.L 2 [.lit (.int .i64 1),.lit (.int .i64 2)],.L 4 [.lit (.int .i64 4),.lit (.int .i64 0),.lit (.int .i64 0),.lit (.int .i64 4)]]]]
def Tryz.Gl:nnn:=.lit (.int .i64 0)
def Tryz.VG:bj Tryz.kv 1000000 64 Tryz.Gj Tryz.Gl=true:=aay
def Tryz.Gm:List nnn:=[.agg [.lit (.int .i64 2),.L 3 [.lit (.int .i64 2),.L 1 [.lit (.int .i64 1)],.lit (.slice none 0 0),.lit (.int .i64 2),.lit (.slice none 0 0),.L 1 [.L 2 [.lit (.int .i64 1),.lit (.int .i64 1)]],.lit (.int .i64 2),.L 2 [.lit (.int .i64 0),.lit (.int .i64 1)],.lit (.slice none 0 0)],.lit (.int .u64 5),.L 2 [.L 2 [.lit (.int .i64 0),.lit (.int .i64 1)],.L 4 [.lit (.int .i64 4),.lit (.int .i64 0),.lit (.int .i64 0),.lit (.int .i64 4)],.L 2 [.lit (.int .i64 1),.lit (.int .i64 2)],.L 4 [.lit (.int .i64 4),.lit (.int .i64 0),.lit (.int .i64 0),.lit (.int .i64 4)]]]]
def Tryz.Gn:nnn:=.lit (.int .i64 0)
def Tryz.VI:bj Tryz.kv 1000000 64 Tryz.Gm Tryz.Gn=true:=aay
def Tryz.Gp:List nnn:=[.agg [.lit (.int .i64 2),.L 3 [.lit (.int .i64 2),.lit (.slice none 0 0),.lit (.slice none 0 0),.lit (.int .i64 2),.lit (.slice none 0 0),.L 1 [.L 2 [.lit (.int .i64 1),.lit (.int .i64 1)]],.lit (.int .i64 2),.L 2 [.lit (.int .i64 0),.lit (.int .i64 1)],.lit (.slice none 0 0)],.lit (.int .u64 5),.L 2 [.L 2 [.lit (.int .i64 0),.lit (.int .i64 1)],.L 4 [.lit (.int .i64 4),.lit (.int .i64 0),.lit (.int .i64 0),.lit (.int .i64 4)],.L 2 [.lit (.int .i64 1),.lit (.int .i64 2)],.L 4 [.lit (.int .i64 4),.lit (.int .i64 0),.lit (.int .i64 0),.lit (.int .i64 4)]]]]
def Tryz.Gq:nnn:=.lit (.int .i64 0)
def Tryz.VJ:bj Tryz.kv 1000000 64 Tryz.Gp Tryz.Gq=true:=aay
def Tryz.Gr:List nnn:=[.agg [.lit (.int .i64 10),.L 3 [.lit (.int .i64 2),.lit (.slice none 0 0),.L 1 [.L 2 [.lit (.int .i64 7),.lit (.int .i64 3)]],.lit (.int .i64 2),.L 2 [.lit (.int .i64 0),.lit (.int .i64 2)],.L 4 [.L 2 [.lit (.int .i64 8),.lit (.int .i64 2)],.L 2 [.lit (.int .i64 8),.lit (.int .i64 2)],.L 2 [.lit (.int .i64 2),.lit (.int .i64 8)],.L 2 [.lit (.int .i64 2),.lit (.int .i64 8)]],.lit (.int .i64 2),.lit (.slice none 0 0),.lit (.slice none 0 0)],.lit (.int .u64 4),.L 1 [.L 2 [.lit (.int .i64 0),.lit (.int .i64 2)],.L 4 [.lit (.int .i64 100),.lit (.int .i64 20),.lit (.int .i64 0),.lit (.int .i64 70)]]]]
def Tryz.Gs:nnn:=.lit (.int .i64 0)
def Tryz.VK:bj Tryz.kv 1000000 64 Tryz.Gr Tryz.Gs=true:=aay
def Tryz.Gt:List nnn:=[.agg [.lit (.int .i64 0),.lit (.slice none 0 0),.lit (.int .u64 0),.lit (.slice none 0 0)]]
def Tryz.Gu:nnn:=.lit (.int .i64 200)
def Tryz.VL:bj Tryz.kv 1000000 64 Tryz.Gt Tryz.Gu=true:=aay
def Tryz.Gv:List nnn:=[.agg [.lit (.int .i64 1),.L 2 [.lit (.int .i64 2),.lit (.slice none 0 0),.lit (.slice none 0 0),.lit (.int .i64 2),.lit (.slice none 0 0),.lit (.slice none 0 0)],.lit (.int .u64 3),.lit (.slice none 0 0)]]
def Tryz.Gw:nnn:=.lit (.int .i64 0)
def Tryz.VM:bj Tryz.kv 1000000 64 Tryz.Gv Tryz.Gw=true:=aay
def Tryz.Gx:List nnn:=[.agg [.lit (.int .i64 10),.L 3 [.lit (.int .i64 2),.lit (.slice none 0 0),.L 1 [.L 2 [.lit (.int .i64 7),.lit (.int .i64 3)]],.lit (.int .i64 2),.L 1 [.lit (.int .i64 0)],.L 2 [.L 2 [.lit (.int .i64 8),.lit (.int .i64 2)],.L 2 [.lit (.int .i64 2),.lit (.int .i64 8)]],.lit (.int .i64 2),.lit (.slice none 0 0),.lit (.slice none 0 0)],.lit (.int .u64 4),.L 1 [.L 2 [.lit (.int .i64 0),.lit (.int .i64 2)],.L 4 [.lit (.int .i64 100),.lit (.int .i64 20),.lit (.int .i64 0),.lit (.int .i64 70)]]]]
def Tryz.Gy:nnn:=.lit (.int .i64 0)
def Tryz.VN:bj Tryz.kv 1000000 64 Tryz.Gx Tryz.Gy=true:=aay
def Tryz.Gz:List nnn:=[.agg [.lit (.int .i64 10),.L 3 [.lit (.int .i64 2),.lit (.slice none 0 0),.L 1 [.L 2 [.lit (.int .i64 7),.lit (.int .i64 3)]],.lit (.int .i64 2),.L 1 [.lit (.int .i64 0)],.L 2 [.L 2 [.lit (.int .i64 8),.lit (.int .i64 2)],.L 2 [.lit (.int .i64 2),.lit (.int .i64 8)]],.lit (.int .i64 2),.L 1 [.lit (.int .i64 1)],.lit (.slice none 0 0)],.lit (.int .u64 4),.L 1 [.L 2 [.lit (.int .i64 0),.lit (.int .i64 2)],.L 4 [.lit (.int .i64 100),.lit (.int .i64 20),.lit (.int .i64 0),.lit (.int .i64 70)]]]]
def Tryz.GA:nnn:=.lit (.int .i64 0)
def Tryz.VO:bj Tryz.kv 1000000 64 Tryz.Gz Tryz.GA=true:=aay
def Tryz.GB:List nnn:=[.agg [.lit (.int .i64 10),.L 3 [.lit (.int .i64 2),.lit (.slice none 0 0),.L 1 [.L 2 [.lit (.int .i64 7),.lit (.int .i64 3)]],.lit (.int .i64 2),.L 1 [.lit (.int .i64 0)],.L 2 [.L 2 [.lit (.int .i64 8),.lit (.int .i64 2)],.L 2 [.lit (.int .i64 2),.lit (.int .i64 8)]],.lit (.int .i64 2),.L 1 [.lit (.int .i64 0)],.lit (.slice none 0 0)],.lit (.int .u64 4),.L 1 [.L 2 [.lit (.int .i64 0),.lit (.int .i64 2)],.L 4 [.lit (.int .i64 100),.lit (.int .i64 20),.lit (.int .i64 0),.lit (.int .i64 70)]]]]
def Tryz.GC:nnn:=.lit (.int .i64 0)
def Tryz.VP:bj Tryz.kv 1000000 64 Tryz.GB Tryz.GC=true:=aay
def Tryz.GE:List nnn:=[.agg [.lit (.int .i64 10),.L 3 [.lit (.int .i64 2),.lit (.slice none 0 0),.L 1 [.L 2 [.lit (.int .i64 7),.lit (.int .i64 3)]],.lit (.int .i64 2),.L 1 [.lit (.int .i64 0)],.L 2 [.L 2 [.lit (.int .i64 8),.lit (.int .i64 2)],.L 2 [.lit (.int .i64 2),.lit (.int .i64 8)]],.lit (.int .i64 2),.L 2 [.lit (.int .i64 0),.lit (.int .i64 1)],.lit (.slice none 0 0)],.lit (.int .u64 4),.L 1 [.L 2 [.lit (.int .i64 0),.lit (.int .i64 2)],.L 4 [.lit (.int .i64 100),.lit (.int .i64 20),.lit (.int .i64 0),.lit (.int .i64 70)]]]]
def Tryz.GF:nnn:=.lit (.int .i64 0)
def Tryz.VQ:bj Tryz.kv 1000000 64 Tryz.GE Tryz.GF=true:=aay
def Tryz.hZ:fS:=[(Tryz.Gj,Tryz.Gl),(Tryz.Gm,Tryz.Gn),(Tryz.Gp,Tryz.Gq),(Tryz.Gr,Tryz.Gs),(Tryz.Gt,Tryz.Gu),(Tryz.Gv,Tryz.Gw),(Tryz.Gx,Tryz.Gy),(Tryz.Gz,Tryz.GA),(Tryz.GB,Tryz.GC),(Tryz.GE,Tryz.GF)]
def Tryz.px:ir Tryz.prog Tryz.Gk 64 Tryz.hZ:=.cons (bt Tryz.lu Tryz.VG) (.cons (bt Tryz.lu Tryz.VI) (.cons (bt Tryz.lu Tryz.VJ) (.cons (bt Tryz.lu Tryz.VK) (.cons (bt Tryz.lu Tryz.VL) (.cons (bt Tryz.lu Tryz.VM) (.cons (bt Tryz.lu Tryz.VN) (.cons (bt Tryz.lu Tryz.VO) (.cons (bt Tryz.lu Tryz.VP) (.cons (bt Tryz.lu Tryz.VQ) .nil)))))))))
noncomputable def Tryz.kx:EP:={ P:=Tryz.prog,G:=Tryz.Gk,gd:=kr,known:=jS [(64,Tryz.hZ)],ext:=lp }
def Tryz.lC:EOk Tryz.kx:=.mO (l:=[(64,Tryz.hZ)]) rfl Tryz.nF Tryz.nH Tryz.nG ⟨Tryz.px,trivial⟩ (nE rfl rfl rfl)
def Tryz.GG:List nnn:=[.agg [.lit (.int .i64 2),.L 3 [.lit (.int .i64 2),.lit (.slice none 0 0),.lit (.slice none 0 0),.lit (.int .i64 2),.lit (.slice none 0 0),.L 1 [.L 2 [.lit (.int .i64 1),.lit (.int .i64 1)]],.lit (.int .i64 2),.L 1 [.lit (.int .i64 0)],.lit (.slice none 0 0)],.lit (.int .u64 5),.L 2 [.L 2 [.lit (.int .i64 0),.lit (.int .i64 1)],.L 4 [.lit (.int .i64 4),.lit (.int .i64 0),.lit (.int .i64 0),.lit (.int .i64 4)],.L 2 [.lit (.int .i64 1),.lit (.int .i64 2)],.L 4 [.lit (.int .i64 4),.lit (.int .i64 0),.lit (.int .i64 0),.lit (.int .i64 4)]]]]
def Tryz.GH:nnn:=.nc [.L 2 [.lit (.int .i64 0),.lit (.int .i64 2)],.lit (.int .i64 0)]
def Tryz.VR:bj Tryz.kx 1000000 28 Tryz.GG Tryz.GH=true:=aay
def Tryz.GI:List nnn:=[.agg [.lit (.int .i64 2),.L 3 [.lit (.int .i64 2),.L 1 [.lit (.int .i64 1)],.lit (.slice none 0 0),.lit (.int .i64 2),.lit (.slice none 0 0),.L 1 [.L 2 [.lit (.int .i64 1),.lit (.int .i64 1)]],.lit (.int .i64 2),.L 2 [.lit (.int .i64 0),.lit (.int .i64 1)],.lit (.slice none 0 0)],.lit (.int .u64 5),.L 2 [.L 2 [.lit (.int .i64 0),.lit (.int .i64 1)],.L 4 [.lit (.int .i64 4),.lit (.int .i64 0),.lit (.int .i64 0),.lit (.int .i64 4)],.L 2 [.lit (.int .i64 1),.lit (.int .i64 2)],.L 4 [.lit (.int .i64 4),.lit (.int .i64 0),.lit (.int .i64 0),.lit (.int .i64 4)]]]]
def Tryz.GJ:nnn:=.nc [.L 2 [.lit (.int .i64 0),.lit (.int .i64 2)],.lit (.int .i64 0)]
def Tryz.VS:bj Tryz.kx 1000000 28 Tryz.GI Tryz.GJ=true:=aay
def Tryz.GK:List nnn:=[.agg [.lit (.int .i64 2),.L 3 [.lit (.int .i64 2),.lit (.slice none 0 0),.lit (.slice none 0 0),.lit (.int .i64 2),.lit (.slice none 0 0),.L 1 [.L 2 [.lit (.int .i64 1),.lit (.int .i64 1)]],.lit (.int .i64 2),.L 2 [.lit (.int .i64 0),.lit (.int .i64 1)],.lit (.slice none 0 0)],.lit (.int .u64 5),.L 2 [.L 2 [.lit (.int .i64 0),.lit (.int .i64 1)],.L 4 [.lit (.int .i64 4),.lit (.int .i64 0),.lit (.int .i64 0),.lit (.int .i64 4)],.L 2 [.lit (.int .i64 1),.lit (.int .i64 2)],.L 4 [.lit (.int .i64 4),.lit (.int .i64 0),.lit (.int .i64 0),.lit (.int .i64 4)]]]]
def Tryz.GL:nnn:=.nc [.L 2 [.lit (.int .i64 0),.lit (.int .i64 2)],.lit (.int .i64 0)]
def Tryz.VT:bj Tryz.kx 1000000 28 Tryz.GK Tryz.GL=true:=aay
def Tryz.GM:List nnn:=[.agg [.lit (.int .i64 10),.L 3 [.lit (.int .i64 2),.lit (.slice none 0 0),.L 1 [.L 2 [.lit (.int .i64 7),.lit (.int .i64 3)]],.lit (.int .i64 2),.L 2 [.lit (.int .i64 0),.lit (.int .i64 2)],.L 4 [.L 2 [.lit (.int .i64 8),.lit (.int .i64 2)],.L 2 [.lit (.int .i64 8),.lit (.int .i64 2)],.L 2 [.lit (.int .i64 2),.lit (.int .i64 8)],.L 2 [.lit (.int .i64 2),.lit (.int .i64 8)]],.lit (.int .i64 2),.lit (.slice none 0 0),.lit (.slice none 0 0)],.lit (.int .u64 4),.L 1 [.L 2 [.lit (.int .i64 0),.lit (.int .i64 2)],.L 4 [.lit (.int .i64 100),.lit (.int .i64 20),.lit (.int .i64 0),.lit (.int .i64 70)]]]]
def Tryz.GN:nnn:=.nc [.L 1 [.lit (.int .i64 2)],.lit (.int .i64 0)]
def Tryz.VU:bj Tryz.kx 1000000 28 Tryz.GM Tryz.GN=true:=aay
def Tryz.GO:List nnn:=[.agg [.lit (.int .i64 0),.lit (.slice none 0 0),.lit (.int .u64 0),.lit (.slice none 0 0)]]
def Tryz.GP:nnn:=.nc [.lit (.slice none 0 0),.lit (.int .i64 200)]
def Tryz.VV:bj Tryz.kx 1000000 28 Tryz.GO Tryz.GP=true:=aay
def Tryz.GQ:List nnn:=[.agg [.lit (.int .i64 1),.L 2 [.lit (.int .i64 2),.lit (.slice none 0 0),.lit (.slice none 0 0),.lit (.int .i64 2),.lit (.slice none 0 0),.lit (.slice none 0 0)],.lit (.int .u64 3),.lit (.slice none 0 0)]]
def Tryz.GR:nnn:=.nc [.lit (.slice none 0 0),.lit (.int .i64 4)]
def Tryz.VW:bj Tryz.kx 1000000 28 Tryz.GQ Tryz.GR=true:=aay
def Tryz.GS:List nnn:=[.agg [.lit (.int .i64 10),.L 3 [.lit (.int .i64 2),.lit (.slice none 0 0),.L 1 [.L 2 [.lit (.int .i64 7),.lit (.int .i64 3)]],.lit (.int .i64 2),.L 1 [.lit (.int .i64 0)],.L 2 [.L 2 [.lit (.int .i64 8),.lit (.int .i64 2)],.L 2 [.lit (.int .i64 2),.lit (.int .i64 8)]],.lit (.int .i64 2),.lit (.slice none 0 0),.lit (.slice none 0 0)],.lit (.int .u64 4),.L 1 [.L 2 [.lit (.int .i64 0),.lit (.int .i64 2)],.L 4 [.lit (.int .i64 100),.lit (.int .i64 20),.lit (.int .i64 0),.lit (.int .i64 70)]]]]
def Tryz.GT:nnn:=.nc [.L 1 [.lit (.int .i64 2)],.lit (.int .i64 0)]
def Tryz.VX:bj Tryz.kx 1000000 28 Tryz.GS Tryz.GT=true:=aay
def Tryz.GU:List nnn:=[.agg [.lit (.int .i64 10),.L 3 [.lit (.int .i64 2),.lit (.slice none 0 0),.L 1 [.L 2 [.lit (.int .i64 7),.lit (.int .i64 3)]],.lit (.int .i64 2),.L 1 [.lit (.int .i64 0)],.L 2 [.L 2 [.lit (.int .i64 8),.lit (.int .i64 2)],.L 2 [.lit (.int .i64 2),.lit (.int .i64 8)]],.lit (.int .i64 2),.L 1 [.lit (.int .i64 1)],.lit (.slice none 0 0)],.lit (.int .u64 4),.L 1 [.L 2 [.lit (.int .i64 0),.lit (.int .i64 2)],.L 4 [.lit (.int .i64 100),.lit (.int .i64 20),.lit (.int .i64 0),.lit (.int .i64 70)]]]]
def Tryz.GV:nnn:=.nc [.L 1 [.lit (.int .i64 2)],.lit (.int .i64 0)]
def Tryz.VY:bj Tryz.kx 1000000 28 Tryz.GU Tryz.GV=true:=aay
def Tryz.GW:List nnn:=[.agg [.lit (.int .i64 10),.L 3 [.lit (.int .i64 2),.lit (.slice none 0 0),.L 1 [.L 2 [.lit (.int .i64 7),.lit (.int .i64 3)]],.lit (.int .i64 2),.L 1 [.lit (.int .i64 0)],.L 2 [.L 2 [.lit (.int .i64 8),.lit (.int .i64 2)],.L 2 [.lit (.int .i64 2),.lit (.int .i64 8)]],.lit (.int .i64 2),.L 1 [.lit (.int .i64 0)],.lit (.slice none 0 0)],.lit (.int .u64 4),.L 1 [.L 2 [.lit (.int .i64 0),.lit (.int .i64 2)],.L 4 [.lit (.int .i64 100),.lit (.int .i64 20),.lit (.int .i64 0),.lit (.int .i64 70)]]]]
def Tryz.GX:nnn:=.nc [.L 1 [.lit (.int .i64 2)],.lit (.int .i64 0)]
def Tryz.VZ:bj Tryz.kx 1000000 28 Tryz.GW Tryz.GX=true:=aay
def Tryz.GY:List nnn:=[.agg [.lit (.int .i64 10),.L 3 [.lit (.int .i64 2),.lit (.slice none 0 0),.L 1 [.L 2 [.lit (.int .i64 7),.lit (.int .i64 3)]],.lit (.int .i64 2),.L 1 [.lit (.int .i64 0)],.L 2 [.L 2 [.lit (.int .i64 8),.lit (.int .i64 2)],.L 2 [.lit (.int .i64 2),.lit (.int .i64 8)]],.lit (.int .i64 2),.L 2 [.lit (.int .i64 0),.lit (.int .i64 1)],.lit (.slice none 0 0)],.lit (.int .u64 4),.L 1 [.L 2 [.lit (.int .i64 0),.lit (.int .i64 2)],.L 4 [.lit (.int .i64 100),.lit (.int .i64 20),.lit (.int .i64 0),.lit (.int .i64 70)]]]]
def Tryz.GZ:nnn:=.nc [.L 1 [.lit (.int .i64 2)],.lit (.int .i64 0)]
def Tryz.V0:bj Tryz.kx 1000000 28 Tryz.GY Tryz.GZ=true:=aay
def Tryz.iY:fS:=[(Tryz.GG,Tryz.GH),(Tryz.GI,Tryz.GJ),(Tryz.GK,Tryz.GL),(Tryz.GM,Tryz.GN),(Tryz.GO,Tryz.GP),(Tryz.GQ,Tryz.GR),(Tryz.GS,Tryz.GT),(Tryz.GU,Tryz.GV),(Tryz.GW,Tryz.GX),(Tryz.GY,Tryz.GZ)]
def Tryz.ry:ir Tryz.prog Tryz.Gk 28 Tryz.iY:=.cons (bt Tryz.lC Tryz.VR) (.cons (bt Tryz.lC Tryz.VS) (.cons (bt Tryz.lC Tryz.VT) (.cons (bt Tryz.lC Tryz.VU) (.cons (bt Tryz.lC Tryz.VV) (.cons (bt Tryz.lC Tryz.VW) (.cons (bt Tryz.lC Tryz.VX) (.cons (bt Tryz.lC Tryz.VY) (.cons (bt Tryz.lC Tryz.VZ) (.cons (bt Tryz.lC Tryz.V0) .nil)))))))))
noncomputable def Tryz.nI:EP:={ P:=Tryz.prog,G:=Tryz.Gk,gd:=kr,known:=jS [(64,Tryz.hZ),(28,Tryz.iY)],ext:=lp }
def Tryz.py:EOk Tryz.nI:=.mO (l:=[(64,Tryz.hZ),(28,Tryz.iY)]) rfl Tryz.nF Tryz.nH Tryz.nG ⟨Tryz.px,⟨Tryz.ry,trivial⟩⟩ (nE rfl rfl rfl)
def Tryz.G1:List nnn:=[.agg [.lit (.int .i64 2),.L 3 [.lit (.int .i64 2),.lit (.slice none 0 0),.lit (.slice none 0 0),.lit (.int .i64 2),.lit (.slice none 0 0),.L 1 [.L 2 [.lit (.int .i64 1),.lit (.int .i64 1)]],.lit (.int .i64 2),.L 1 [.lit (.int .i64 0)],.lit (.slice none 0 0)],.lit (.int .u64 5),.L 2 [.L 2 [.lit (.int .i64 0),.lit (.int .i64 1)],.L 4 [.lit (.int .i64 4),.lit (.int .i64 0),.lit (.int .i64 0),.lit (.int .i64 4)],.L 2 [.lit (.int .i64 1),.lit (.int .i64 2)],.L 4 [.lit (.int .i64 4),.lit (.int .i64 0),.lit (.int .i64 0),.lit (.int .i64 4)]]]]
def Tryz.G2:nnn:=.nc [.agg [.lit (.int .i64 4),.lit (.int .i64 1)],.lit (.int .i64 0)]
def Tryz.V1:bj Tryz.nI 1000000 29 Tryz.G1 Tryz.G2=true:=aay
def Tryz.G3:List nnn:=[.agg [.lit (.int .i64 2),.L 3 [.lit (.int .i64 2),.L 1 [.lit (.int .i64 1)],.lit (.slice none 0 0),.lit (.int .i64 2),.lit (.slice none 0 0),.L 1 [.L 2 [.lit (.int .i64 1),.lit (.int .i64 1)]],.lit (.int .i64 2),.L 2 [.lit (.int .i64 0),.lit (.int .i64 1)],.lit (.slice none 0 0)],.lit (.int .u64 5),.L 2 [.L 2 [.lit (.int .i64 0),.lit (.int .i64 1)],.L 4 [.lit (.int .i64 4),.lit (.int .i64 0),.lit (.int .i64 0),.lit (.int .i64 4)],.L 2 [.lit (.int .i64 1),.lit (.int .i64 2)],.L 4 [.lit (.int .i64 4),.lit (.int .i64 0),.lit (.int .i64 0),.lit (.int .i64 4)]]]]
def Tryz.G4:nnn:=.nc [.agg [.lit (.int .i64 8),.lit (.int .i64 1)],.lit (.int .i64 0)]
def Tryz.V2:bj Tryz.nI 1000000 29 Tryz.G3 Tryz.G4=true:=aay
def Tryz.G5:List nnn:=[.agg [.lit (.int .i64 2),.L 3 [.lit (.int .i64 2),.lit (.slice none 0 0),.lit (.slice none 0 0),.lit (.int .i64 2),.lit (.slice none 0 0),.L 1 [.L 2 [.lit (.int .i64 1),.lit (.int .i64 1)]],.lit (.int .i64 2),.L 2 [.lit (.int .i64 0),.lit (.int .i64 1)],.lit (.slice none 0 0)],.lit (.int .u64 5),.L 2 [.L 2 [.lit (.int .i64 0),.lit (.int .i64 1)],.L 4 [.lit (.int .i64 4),.lit (.int .i64 0),.lit (.int .i64 0),.lit (.int .i64 4)],.L 2 [.lit (.int .i64 1),.lit (.int .i64 2)],.L 4 [.lit (.int .i64 4),.lit (.int .i64 0),.lit (.int .i64 0),.lit (.int .i64 4)]]]]
def Tryz.G6:nnn:=.nc [.agg [.lit (.int .i64 6),.lit (.int .i64 1)],.lit (.int .i64 0)]
def Tryz.V3:bj Tryz.nI 1000000 29 Tryz.G5 Tryz.G6=true:=aay
def Tryz.G7:List nnn:=[.agg [.lit (.int .i64 10),.L 3 [.lit (.int .i64 2),.lit (.slice none 0 0),.L 1 [.L 2 [.lit (.int .i64 7),.lit (.int .i64 3)]],.lit (.int .i64 2),.L 1 [.lit (.int .i64 0)],.L 2 [.L 2 [.lit (.int .i64 8),.lit (.int .i64 2)],.L 2 [.lit (.int .i64 2),.lit (.int .i64 8)]],.lit (.int .i64 2),.lit (.slice none 0 0),.lit (.slice none 0 0)],.lit (.int .u64 4),.L 1 [.L 2 [.lit (.int .i64 0),.lit (.int .i64 2)],.L 4 [.lit (.int .i64 100),.lit (.int .i64 20),.lit (.int .i64 0),.lit (.int .i64 70)]]]]
def Tryz.G8:nnn:=.nc [.agg [.lit (.int .i64 70),.lit (.int .i64 1)],.lit (.int .i64 0)]
def Tryz.V4:bj Tryz.nI 1000000 29 Tryz.G7 Tryz.G8=true:=aay
def Tryz.G9:List nnn:=[.agg [.lit (.int .i64 10),.L 3 [.lit (.int .i64 2),.lit (.slice none 0 0),.L 1 [.L 2 [.lit (.int .i64 7),.lit (.int .i64 3)]],.lit (.int .i64 2),.L 1 [.lit (.int .i64 0)],.L 2 [.L 2 [.lit (.int .i64 8),.lit (.int .i64 2)],.L 2 [.lit (.int .i64 2),.lit (.int .i64 8)]],.lit (.int .i64 2),.L 1 [.lit (.int .i64 1)],.lit (.slice none 0 0)],.lit (.int .u64 4),.L 1 [.L 2 [.lit (.int .i64 0),.lit (.int .i64 2)],.L 4 [.lit (.int .i64 100),.lit (.int .i64 20),.lit (.int .i64 0),.lit (.int .i64 70)]]]]
def Tryz.Hf:nnn:=.nc [.agg [.lit (.int .i64 378),.lit (.int .i64 5)],.lit (.int .i64 0)]
def Tryz.V5:bj Tryz.nI 1000000 29 Tryz.G9 Tryz.Hf=true:=aay
def Tryz.Hg:List nnn:=[.agg [.lit (.int .i64 10),.L 3 [.lit (.int .i64 2),.lit (.slice none 0 0),.L 1 [.L 2 [.lit (.int .i64 7),.lit (.int .i64 3)]],.lit (.int .i64 2),.L 1 [.lit (.int .i64 0)],.L 2 [.L 2 [.lit (.int .i64 8),.lit (.int .i64 2)],.L 2 [.lit (.int .i64 2),.lit (.int .i64 8)]],.lit (.int .i64 2),.L 1 [.lit (.int .i64 0)],.lit (.slice none 0 0)],.lit (.int .u64 4),.L 1 [.L 2 [.lit (.int .i64 0),.lit (.int .i64 2)],.L 4 [.lit (.int .i64 100),.lit (.int .i64 20),.lit (.int .i64 0),.lit (.int .i64 70)]]]]
def Tryz.Hh:nnn:=.nc [.agg [.lit (.int .i64 91),.lit (.int .i64 1)],.lit (.int .i64 0)]
def Tryz.V6:bj Tryz.nI 1000000 29 Tryz.Hg Tryz.Hh=true:=aay
def Tryz.Hi:List nnn:=[.agg [.lit (.int .i64 10),.L 3 [.lit (.int .i64 2),.lit (.slice none 0 0),.L 1 [.L 2 [.lit (.int .i64 7),.lit (.int .i64 3)]],.lit (.int .i64 2),.L 1 [.lit (.int .i64 0)],.L 2 [.L 2 [.lit (.int .i64 8),.lit (.int .i64 2)],.L 2 [.lit (.int .i64 2),.lit (.int .i64 8)]],.lit (.int .i64 2),.L 2 [.lit (.int .i64 0),.lit (.int .i64 1)],.lit (.slice none 0 0)],.lit (.int .u64 4),.L 1 [.L 2 [.lit (.int .i64 0),.lit (.int .i64 2)],.L 4 [.lit (.int .i64 100),.lit (.int .i64 20),.lit (.int .i64 0),.lit (.int .i64 70)]]]]
def Tryz.Hl:nnn:=.nc [.agg [.lit (.int .i64 91),.lit (.int .i64 1)],.lit (.int .i64 0)]
def Tryz.V7:bj Tryz.nI 1000000 29 Tryz.Hi Tryz.Hl=true:=aay
def Tryz.kz:fS:=[(Tryz.G1,Tryz.G2),(Tryz.G3,Tryz.G4),(Tryz.G5,Tryz.G6),(Tryz.G7,Tryz.G8),(Tryz.G9,Tryz.Hf),(Tryz.Hg,Tryz.Hh),(Tryz.Hi,Tryz.Hl)]
def Tryz.tC:ir Tryz.prog Tryz.Gk 29 Tryz.kz:=.cons (bt Tryz.py Tryz.V1) (.cons (bt Tryz.py Tryz.V2) (.cons (bt Tryz.py Tryz.V3) (.cons (bt Tryz.py Tryz.V4) (.cons (bt Tryz.py Tryz.V5) (.cons (bt Tryz.py Tryz.V6) (.cons (bt Tryz.py Tryz.V7) .nil))))))
noncomputable def Tryz.tD:EP:={ P:=Tryz.prog,G:=Tryz.Gk,gd:=kr,known:=jS [(64,Tryz.hZ),(28,Tryz.iY),(29,Tryz.kz)],ext:=lp }
def Tryz.xe:EOk Tryz.tD:=.mO (l:=[(64,Tryz.hZ),(28,Tryz.iY),(29,Tryz.kz)]) rfl Tryz.nF Tryz.nH Tryz.nG ⟨Tryz.px,⟨Tryz.ry,⟨Tryz.tC,trivial⟩⟩⟩ (nE rfl rfl rfl)
def Tryz.Ho:List nnn:=[.agg [.lit (.int .i64 2),.L 3 [.lit (.int .i64 2),.lit (.slice none 0 0),.lit (.slice none 0 0),.lit (.int .i64 2),.lit (.slice none 0 0),.L 1 [.L 2 [.lit (.int .i64 1),.lit (.int .i64 1)]],.lit (.int .i64 2),.L 1 [.lit (.int .i64 0)],.lit (.slice none 0 0)],.lit (.int .u64 5),.L 2 [.L 2 [.lit (.int .i64 0),.lit (.int .i64 1)],.L 4 [.lit (.int .i64 4),.lit (.int .i64 0),.lit (.int .i64 0),.lit (.int .i64 4)],.L 2 [.lit (.int .i64 1),.lit (.int .i64 2)],.L 4 [.lit (.int .i64 4),.lit (.int .i64 0),.lit (.int .i64 0),.lit (.int .i64 4)]]],.lit (.int .i64 0)]
def Tryz.Ht:nnn:=.nc [.lit (.int .u64 2),.lit (.int .i64 0)]
def Tryz.V8:bj Tryz.tD 1000000 13 Tryz.Ho Tryz.Ht=true:=aay
def Tryz.Hv:List nnn:=[.agg [.lit (.int .i64 10),.L 3 [.lit (.int .i64 2),.lit (.slice none 0 0),.L 1 [.L 2 [.lit (.int .i64 7),.lit (.int .i64 3)]],.lit (.int .i64 2),.L 2 [.lit (.int .i64 0),.lit (.int .i64 2)],.L 4 [.L 2 [.lit (.int .i64 8),.lit (.int .i64 2)],.L 2 [.lit (.int .i64 8),.lit (.int .i64 2)],.L 2 [.lit (.int .i64 2),.lit (.int .i64 8)],.L 2 [.lit (.int .i64 2),.lit (.int .i64 8)]],.lit (.int .i64 2),.lit (.slice none 0 0),.lit (.slice none 0 0)],.lit (.int .u64 4),.L 1 [.L 2 [.lit (.int .i64 0),.lit (.int .i64 2)],.L 4 [.lit (.int .i64 100),.lit (.int .i64 20),.lit (.int .i64 0),.lit (.int .i64 70)]]],.lit (.int .i64 2)]
def Tryz.HA:nnn:=.nc [.lit (.int .u64 1),.lit (.int .i64 0)]
def Tryz.V9:bj Tryz.tD 1000000 13 Tryz.Hv Tryz.HA=true:=aay
def Tryz.HB:List nnn:=[.agg [.lit (.int .i64 0),.lit (.slice none 0 0),.lit (.int .u64 0),.lit (.slice none 0 0)],.lit (.int .i64 9)]
def Tryz.HC:nnn:=.nc [.lit (.int .u64 0),.lit (.int .i64 200)]
def Tryz.Wa:bj Tryz.tD 1000000 13 Tryz.HB Tryz.HC=true:=aay
def Tryz.HD:List nnn:=[.agg [.lit (.int .i64 10),.L 3 [.lit (.int .i64 2),.lit (.slice none 0 0),.L 1 [.L 2 [.lit (.int .i64 7),.lit (.int .i64 3)]],.lit (.int .i64 2),.L 1 [.lit (.int .i64 0)],.L 2 [.L 2 [.lit (.int .i64 8),.lit (.int .i64 2)],.L 2 [.lit (.int .i64 2),.lit (.int .i64 8)]],.lit (.int .i64 2),.lit (.slice none 0 0),.lit (.slice none 0 0)],.lit (.int .u64 4),.L 1 [.L 2 [.lit (.int .i64 0),.lit (.int .i64 2)],.L 4 [.lit (.int .i64 100),.lit (.int .i64 20),.lit (.int .i64 0),.lit (.int .i64 70)]]],.lit (.int .i64 2)]
def Tryz.HE:nnn:=.nc [.lit (.int .u64 3),.lit (.int .i64 0)]
def Tryz.Wb:bj Tryz.tD 1000000 13 Tryz.HD Tryz.HE=true:=aay
def Tryz.mm:fS:=[(Tryz.Ho,Tryz.Ht),(Tryz.Hv,Tryz.HA),(Tryz.HB,Tryz.HC),(Tryz.HD,Tryz.HE)]
def Tryz.xf:ir Tryz.prog Tryz.Gk 13 Tryz.mm:=.cons (bt Tryz.xe Tryz.V8) (.cons (bt Tryz.xe Tryz.V9) (.cons (bt Tryz.xe Tryz.Wa) (.cons (bt Tryz.xe Tryz.Wb) .nil)))
noncomputable def Tryz.rz:EP:={ P:=Tryz.prog,G:=Tryz.Gk,gd:=kr,known:=jS [(64,Tryz.hZ),(28,Tryz.iY),(29,Tryz.kz),(13,Tryz.mm)],ext:=lp }
def Tryz.tE:EOk Tryz.rz:=.mO (l:=[(64,Tryz.hZ),(28,Tryz.iY),(29,Tryz.kz),(13,Tryz.mm)]) rfl Tryz.nF Tryz.nH Tryz.nG ⟨Tryz.px,⟨Tryz.ry,⟨Tryz.tC,⟨Tryz.xf,trivial⟩⟩⟩⟩ (nE rfl rfl rfl)
def Tryz.HF:List nnn:=[.agg [.lit (.int .i64 2),.L 3 [.lit (.int .i64 2),.lit (.slice none 0 0),.lit (.slice none 0 0),.lit (.int .i64 2),.lit (.slice none 0 0),.L 1 [.L 2 [.lit (.int .i64 1),.lit (.int .i64 1)]],.lit (.int .i64 2),.L 1 [.lit (.int .i64 0)],.lit (.slice none 0 0)],.lit (.int .u64 5),.L 2 [.L 2 [.lit (.int .i64 0),.lit (.int .i64 1)],.L 4 [.lit (.int .i64 4),.lit (.int .i64 0),.lit (.int .i64 0),.lit (.int .i64 4)],.L 2 [.lit (.int .i64 1),.lit (.int .i64 2)],.L 4 [.lit (.int .i64 4),.lit (.int .i64 0),.lit (.int .i64 0),.lit (.int .i64 4)]]],.lit (.int .i64 0),.lit (.int .u64 2)]
def Tryz.HG:nnn:=.nc [.agg [.lit (.int .i64 2),.L 3 [.lit (.int .i64 2),.L 1 [.lit (.int .i64 1)],.lit (.slice none 0 0),.lit (.int .i64 2),.lit (.slice none 0 0),.L 1 [.L 2 [.lit (.int .i64 1),.lit (.int .i64 1)]],.lit (.int .i64 2),.L 2 [.lit (.int .i64 0),.lit (.int .i64 1)],.lit (.slice none 0 0)],.lit (.int .u64 5),.L 2 [.L 2 [.lit (.int .i64 0),.lit (.int .i64 1)],.L 4 [.lit (.int .i64 4),.lit (.int .i64 0),.lit (.int .i64 0),.lit (.int .i64 4)],.L 2 [.lit (.int .i64 1),.lit (.int .i64 2)],.L 4 [.lit (.int .i64 4),.lit (.int .i64 0),.lit (.int .i64 0),.lit (.int .i64 4)]]],.lit (.int .i64 0)]
def Tryz.Wc:bj Tryz.rz 1000000 16 Tryz.HF Tryz.HG=true:=aay
def Tryz.HH:List nnn:=[.agg [.lit (.int .i64 10),.L 3 [.lit (.int .i64 2),.lit (.slice none 0 0),.L 1 [.L 2 [.lit (.int .i64 7),.lit (.int .i64 3)]],.lit (.int .i64 2),.L 2 [.lit (.int .i64 0),.lit (.int .i64 2)],.L 4 [.L 2 [.lit (.int .i64 8),.lit (.int .i64 2)],.L 2 [.lit (.int .i64 8),.lit (.int .i64 2)],.L 2 [.lit (.int .i64 2),.lit (.int .i64 8)],.L 2 [.lit (.int .i64 2),.lit (.int .i64 8)]],.lit (.int .i64 2),.lit (.slice none 0 0),.lit (.slice none 0 0)],.lit (.int .u64 4),.L 1 [.L 2 [.lit (.int .i64 0),.lit (.int .i64 2)],.L 4 [.lit (.int .i64 100),.lit (.int .i64 20),.lit (.int .i64 0),.lit (.int .i64 70)]]],.lit (.int .i64 2),.lit (.int .u64 2)]
def Tryz.HI:nnn:=.nc [.agg [.lit (.int .i64 0),.lit (.slice none 0 0),.lit (.int .u64 0),.lit (.slice none 0 0)],.lit (.int .i64 2)]
def Tryz.We:bj Tryz.rz 1000000 16 Tryz.HH Tryz.HI=true:=aay
def Tryz.HJ:List nnn:=[.agg [.lit (.int .i64 10),.L 3 [.lit (.int .i64 2),.lit (.slice none 0 0),.L 1 [.L 2 [.lit (.int .i64 7),.lit (.int .i64 3)]],.lit (.int .i64 2),.L 1 [.lit (.int .i64 0)],.L 2 [.L 2 [.lit (.int .i64 8),.lit (.int .i64 2)],.L 2 [.lit (.int .i64 2),.lit (.int .i64 8)]],.lit (.int .i64 2),.lit (.slice none 0 0),.lit (.slice none 0 0)],.lit (.int .u64 4),.L 1 [.L 2 [.lit (.int .i64 0),.lit (.int .i64 2)],.L 4 [.lit (.int .i64 100),.lit (.int .i64 20),.lit (.int .i64 0),.lit (.int .i64 70)]]],.lit (.int .i64 (-1)),.lit (.int .u64 0)]
def Tryz.HK:nnn:=.nc [.agg [.lit (.int .i64 0),.lit (.slice none 0 0),.lit (.int .u64 0),.lit (.slice none 0 0)],.lit (.int .i64 2)]
def Tryz.Wf:bj Tryz.rz 1000000 16 Tryz.HJ Tryz.HK=true:=aay
def Tryz.HL:List nnn:=[.agg [.lit (.int .i64 10),.L 3 [.lit (.int .i64 2),.lit (.slice none 0 0),.L 1 [.L 2 [.lit (.int .i64 7),.lit (.int .i64 3)]],.lit (.int .i64 2),.L 1 [.lit (.int .i64 0)],.L 2 [.L 2 [.lit (.int .i64 8),.lit (.int .i64 2)],.L 2 [.lit (.int .i64 2),.lit (.int .i64 8)]],.lit (.int .i64 2),.lit (.slice none 0 0),.lit (.slice none 0 0)],.lit (.int .u64 4),.L 1 [.L 2 [.lit (.int .i64 0),.lit (.int .i64 2)],.L 4 [.lit (.int .i64 100),.lit (.int .i64 20),.lit (.int .i64 0),.lit (.int .i64 70)]]],.lit (.int .i64 2),.lit (.int .u64 9223372036854775808)]
def Tryz.HM:nnn:=.nc [.agg [.lit (.int .i64 0),.lit (.slice none 0 0),.lit (.int .u64 0),.lit (.slice none 0 0)],.lit (.int .i64 2)]
def Tryz.Wg:bj Tryz.rz 1000000 16 Tryz.HL Tryz.HM=true:=aay
def Tryz.HN:List nnn:=[.agg [.lit (.int .i64 10),.L 3 [.lit (.int .i64 2),.lit (.slice none 0 0),.L 1 [.L 2 [.lit (.int .i64 7),.lit (.int .i64 3)]],.lit (.int .i64 2),.L 1 [.lit (.int .i64 0)],.L 2 [.L 2 [.lit (.int .i64 8),.lit (.int .i64 2)],.L 2 [.lit (.int .i64 2),.lit (.int .i64 8)]],.lit (.int .i64 2),.lit (.slice none 0 0),.lit (.slice none 0 0)],.lit (.int .u64 4),.L 1 [.L 2 [.lit (.int .i64 0),.lit (.int .i64 2)],.L 4 [.lit (.int .i64 100),.lit (.int .i64 20),.lit (.int .i64 0),.lit (.int .i64 70)]]],.lit (.int .i64 2),.lit (.int .u64 2)]
def Tryz.HO:nnn:=.nc [.agg [.lit (.int .i64 10),.L 3 [.lit (.int .i64 2),.lit (.slice none 0 0),.L 1 [.L 2 [.lit (.int .i64 7),.lit (.int .i64 3)]],.lit (.int .i64 2),.L 1 [.lit (.int .i64 0)],.L 2 [.L 2 [.lit (.int .i64 8),.lit (.int .i64 2)],.L 2 [.lit (.int .i64 2),.lit (.int .i64 8)]],.lit (.int .i64 2),.L 1 [.lit (.int .i64 1)],.lit (.slice none 0 0)],.lit (.int .u64 4),.L 1 [.L 2 [.lit (.int .i64 0),.lit (.int .i64 2)],.L 4 [.lit (.int .i64 100),.lit (.int .i64 20),.lit (.int .i64 0),.lit (.int .i64 70)]]],.lit (.int .i64 0)]
def Tryz.Wh:bj Tryz.rz 1000000 16 Tryz.HN Tryz.HO=true:=aay
def Tryz.pA:fS:=[(Tryz.HF,Tryz.HG),(Tryz.HH,Tryz.HI),(Tryz.HJ,Tryz.HK),(Tryz.HL,Tryz.HM),(Tryz.HN,Tryz.HO)]
def Tryz.Bf:ir Tryz.prog Tryz.Gk 16 Tryz.pA:=.cons (bt Tryz.tE Tryz.Wc) (.cons (bt Tryz.tE Tryz.We) (.cons (bt Tryz.tE Tryz.Wf) (.cons (bt Tryz.tE Tryz.Wg) (.cons (bt Tryz.tE Tryz.Wh) .nil))))
noncomputable def Tryz.jC:EP:={ P:=Tryz.prog,G:=Tryz.Gk,gd:=kr,known:=jS [(64,Tryz.hZ),(28,Tryz.iY),(29,Tryz.kz),(13,Tryz.mm),(16,Tryz.pA)],ext:=lp }
def Tryz.kA:EOk Tryz.jC:=.mO (l:=[(64,Tryz.hZ),(28,Tryz.iY),(29,Tryz.kz),(13,Tryz.mm),(16,Tryz.pA)]) rfl Tryz.nF Tryz.nH Tryz.nG ⟨Tryz.px,⟨Tryz.ry,⟨Tryz.tC,⟨Tryz.xf,⟨Tryz.Bf,trivial⟩⟩⟩⟩⟩ (nE rfl rfl rfl)
def Tryz.HP:List nnn:=[.agg [.lit (.int .i64 2),.L 3 [.lit (.int .i64 2),.lit (.slice none 0 0),.lit (.slice none 0 0),.lit (.int .i64 2),.lit (.slice none 0 0),.L 1 [.L 2 [.lit (.int .i64 1),.lit (.int .i64 1)]],.lit (.int .i64 2),.L 1 [.lit (.int .i64 0)],.lit (.slice none 0 0)],.lit (.int .u64 5),.L 2 [.L 2 [.lit (.int .i64 0),.lit (.int .i64 1)],.L 4 [.lit (.int .i64 4),.lit (.int .i64 0),.lit (.int .i64 0),.lit (.int .i64 4)],.L 2 [.lit (.int .i64 1),.lit (.int .i64 2)],.L 4 [.lit (.int .i64 4),.lit (.int .i64 0),.lit (.int .i64 0),.lit (.int .i64 4)]]],.lit (.int .i64 0),.lit (.int .u64 2)]
def Tryz.HQ:nnn:=.nc [.agg [.lit (.int .i64 4),.lit (.int .i64 1)],.lit (.int .i64 0)]
def Tryz.Wi:bj Tryz.jC 1000000 20 Tryz.HP Tryz.HQ=true:=aay
def Tryz.HR:List nnn:=[.agg [.lit (.int .i64 2),.L 3 [.lit (.int .i64 2),.lit (.slice none 0 0),.lit (.slice none 0 0),.lit (.int .i64 2),.lit (.slice none 0 0),.L 1 [.L 2 [.lit (.int .i64 1),.lit (.int .i64 1)]],.lit (.int .i64 2),.L 1 [.lit (.int .i64 0)],.lit (.slice none 0 0)],.lit (.int .u64 5),.L 2 [.L 2 [.lit (.int .i64 0),.lit (.int .i64 1)],.L 4 [.lit (.int .i64 4),.lit (.int .i64 0),.lit (.int .i64 0),.lit (.int .i64 4)],.L 2 [.lit (.int .i64 1),.lit (.int .i64 2)],.L 4 [.lit (.int .i64 4),.lit (.int .i64 0),.lit (.int .i64 0),.lit (.int .i64 4)]]],.lit (.int .i64 2),.lit (.int .u64 2)]
def Tryz.HS:nnn:=.nc [.agg [.lit (.int .i64 2),.lit (.int .i64 1)],.lit (.int .i64 0)]
def Tryz.Wj:bj Tryz.jC 1000000 20 Tryz.HR Tryz.HS=true:=aay
def Tryz.HT:List nnn:=[.agg [.lit (.int .i64 1),.L 2 [.lit (.int .i64 2),.lit (.slice none 0 0),.lit (.slice none 0 0),.lit (.int .i64 2),.lit (.slice none 0 0),.lit (.slice none 0 0)],.lit (.int .u64 3),.lit (.slice none 0 0)],.lit (.int .i64 9),.lit (.int .u64 512)]
def Tryz.HU:nnn:=.nc [.agg [.lit (.int .i64 0),.lit (.int .i64 0)],.lit (.int .i64 210)]
def Tryz.Wk:bj Tryz.jC 1000000 20 Tryz.HT Tryz.HU=true:=aay
def Tryz.HV:List nnn:=[.agg [.lit (.int .i64 10),.L 3 [.lit (.int .i64 2),.lit (.slice none 0 0),.L 1 [.L 2 [.lit (.int .i64 7),.lit (.int .i64 3)]],.lit (.int .i64 2),.L 1 [.lit (.int .i64 0)],.L 2 [.L 2 [.lit (.int .i64 8),.lit (.int .i64 2)],.L 2 [.lit (.int .i64 2),.lit (.int .i64 8)]],.lit (.int .i64 2),.lit (.slice none 0 0),.lit (.slice none 0 0)],.lit (.int .u64 4),.L 1 [.L 2 [.lit (.int .i64 0),.lit (.int .i64 2)],.L 4 [.lit (.int .i64 100),.lit (.int .i64 20),.lit (.int .i64 0),.lit (.int .i64 70)]]],.lit (.int .i64 0),.lit (.int .u64 0)]
def Tryz.HW:nnn:=.nc [.agg [.lit (.int .i64 0),.lit (.int .i64 0)],.lit (.int .i64 2)]
def Tryz.Wl:bj Tryz.jC 1000000 20 Tryz.HV Tryz.HW=true:=aay
def Tryz.HX:List nnn:=[.agg [.lit (.int .i64 10),.L 3 [.lit (.int .i64 2),.lit (.slice none 0 0),.L 1 [.L 2 [.lit (.int .i64 7),.lit (.int .i64 3)]],.lit (.int .i64 2),.L 1 [.lit (.int .i64 0)],.L 2 [.L 2 [.lit (.int .i64 8),.lit (.int .i64 2)],.L 2 [.lit (.int .i64 2),.lit (.int .i64 8)]],.lit (.int .i64 2),.lit (.slice none 0 0),.lit (.slice none 0 0)],.lit (.int .u64 4),.L 1 [.L 2 [.lit (.int .i64 0),.lit (.int .i64 2)],.L 4 [.lit (.int .i64 100),.lit (.int .i64 20),.lit (.int .i64 0),.lit (.int .i64 70)]]],.lit (.int .i64 2),.lit (.int .u64 4)]
def Tryz.HY:nnn:=.nc [.agg [.lit (.int .i64 0),.lit (.int .i64 0)],.lit (.int .i64 2)]
def Tryz.Wm:bj Tryz.jC 1000000 20 Tryz.HX Tryz.HY=true:=aay
def Tryz.HZ:List nnn:=[.agg [.lit (.int .i64 10),.L 3 [.lit (.int .i64 2),.lit (.slice none 0 0),.L 1 [.L 2 [.lit (.int .i64 7),.lit (.int .i64 3)]],.lit (.int .i64 2),.L 1 [.lit (.int .i64 0)],.L 2 [.L 2 [.lit (.int .i64 8),.lit (.int .i64 2)],.L 2 [.lit (.int .i64 2),.lit (.int .i64 8)]],.lit (.int .i64 2),.lit (.slice none 0 0),.lit (.slice none 0 0)],.lit (.int .u64 4),.L 1 [.L 2 [.lit (.int .i64 0),.lit (.int .i64 2)],.L 4 [.lit (.int .i64 100),.lit (.int .i64 20),.lit (.int .i64 0),.lit (.int .i64 70)]]],.lit (.int .i64 2),.lit (.int .u64 0)]
def Tryz.H8:nnn:=.nc [.agg [.lit (.int .i64 0),.lit (.int .i64 1)],.lit (.int .i64 0)]
def Tryz.Wn:bj Tryz.jC 1000000 20 Tryz.HZ Tryz.H8=true:=aay
def Tryz.Ia:List nnn:=[.agg [.lit (.int .i64 10),.L 3 [.lit (.int .i64 2),.lit (.slice none 0 0),.L 1 [.L 2 [.lit (.int .i64 7),.lit (.int .i64 3)]],.lit (.int .i64 2),.L 1 [.lit (.int .i64 0)],.L 2 [.L 2 [.lit (.int .i64 8),.lit (.int .i64 2)],.L 2 [.lit (.int .i64 2),.lit (.int .i64 8)]],.lit (.int .i64 2),.lit (.slice none 0 0),.lit (.slice none 0 0)],.lit (.int .u64 4),.L 1 [.L 2 [.lit (.int .i64 0),.lit (.int .i64 2)],.L 4 [.lit (.int .i64 100),.lit (.int .i64 20),.lit (.int .i64 0),.lit (.int .i64 70)]]],.lit (.int .i64 2),.lit (.int .u64 2)]
def Tryz.Ib:nnn:=.nc [.agg [.lit (.int .i64 28),.lit (.int .i64 5)],.lit (.int .i64 0)]
def Tryz.Wo:bj Tryz.jC 1000000 20 Tryz.Ia Tryz.Ib=true:=aay
def Tryz.Ic:List nnn:=[.agg [.lit (.int .i64 10),.L 3 [.lit (.int .i64 2),.lit (.slice none 0 0),.L 1 [.L 2 [.lit (.int .i64 7),.lit (.int .i64 3)]],.lit (.int .i64 2),.L 1 [.lit (.int .i64 0)],.L 2 [.L 2 [.lit (.int .i64 8),.lit (.int .i64 2)],.L 2 [.lit (.int .i64 2),.lit (.int .i64 8)]],.lit (.int .i64 2),.lit (.slice none 0 0),.lit (.slice none 0 0)],.lit (.int .u64 4),.L 1 [.L 2 [.lit (.int .i64 0),.lit (.int .i64 2)],.L 4 [.lit (.int .i64 100),.lit (.int .i64 20),.lit (.int .i64 0),.lit (.int .i64 70)]]],.lit (.int .i64 2),.lit (.int .u64 1)]
def Tryz.Ie:nnn:=.nc [.agg [.lit (.int .i64 21),.lit (.int .i64 1)],.lit (.int .i64 0)]
def Tryz.Wq:bj Tryz.jC 1000000 20 Tryz.Ic Tryz.Ie=true:=aay
def Tryz.If:List nnn:=[.agg [.lit (.int .i64 10),.L 3 [.lit (.int .i64 2),.lit (.slice none 0 0),.L 1 [.L 2 [.lit (.int .i64 7),.lit (.int .i64 3)]],.lit (.int .i64 2),.L 1 [.lit (.int .i64 0)],.L 2 [.L 2 [.lit (.int .i64 8),.lit (.int .i64 2)],.L 2 [.lit (.int .i64 2),.lit (.int .i64 8)]],.lit (.int .i64 2),.lit (.slice none 0 0),.lit (.slice none 0 0)],.lit (.int .u64 4),.L 1 [.L 2 [.lit (.int .i64 0),.lit (.int .i64 2)],.L 4 [.lit (.int .i64 100),.lit (.int .i64 20),.lit (.int .i64 0),.lit (.int .i64 70)]]],.lit (.int .i64 2),.lit (.int .u64 3)]
def Tryz.Ig:nnn:=.nc [.agg [.lit (.int .i64 21),.lit (.int .i64 1)],.lit (.int .i64 0)]
def Tryz.Wr:bj Tryz.jC 1000000 20 Tryz.If Tryz.Ig=true:=aay
def Tryz.Ih:List nnn:=[.agg [.lit (.int .i64 10),.L 3 [.lit (.int .i64 2),.lit (.slice none 0 0),.L 1 [.L 2 [.lit (.int .i64 7),.lit (.int .i64 3)]],.lit (.int .i64 2),.L 1 [.lit (.int .i64 0)],.L 2 [.L 2 [.lit (.int .i64 8),.lit (.int .i64 2)],.L 2 [.lit (.int .i64 2),.lit (.int .i64 8)]],.lit (.int .i64 2),.L 1 [.lit (.int .i64 1)],.lit (.slice none 0 0)],.lit (.int .u64 4),.L 1 [.L 2 [.lit (.int .i64 0),.lit (.int .i64 2)],.L 4 [.lit (.int .i64 100),.lit (.int .i64 20),.lit (.int .i64 0),.lit (.int .i64 70)]]],.lit (.int .i64 2),.lit (.int .u64 2)]
def Tryz.Ii:nnn:=.nc [.agg [.lit (.int .i64 0),.lit (.int .i64 1)],.lit (.int .i64 0)]
def Tryz.Ws:bj Tryz.jC 1000000 20 Tryz.Ih Tryz.Ii=true:=aay
def Tryz.Ij:List nnn:=[.agg [.lit (.int .i64 10),.L 3 [.lit (.int .i64 2),.lit (.slice none 0 0),.L 1 [.L 2 [.lit (.int .i64 7),.lit (.int .i64 3)]],.lit (.int .i64 2),.L 1 [.lit (.int .i64 0)],.L 2 [.L 2 [.lit (.int .i64 8),.lit (.int .i64 2)],.L 2 [.lit (.int .i64 2),.lit (.int .i64 8)]],.lit (.int .i64 2),.L 1 [.lit (.int .i64 1)],.lit (.slice none 0 0)],.lit (.int .u64 4),.L 1 [.L 2 [.lit (.int .i64 0),.lit (.int .i64 2)],.L 4 [.lit (.int .i64 100),.lit (.int .i64 20),.lit (.int .i64 0),.lit (.int .i64 70)]]],.lit (.int .i64 2),.lit (.int .u64 1)]
def Tryz.Ik:nnn:=.nc [.agg [.lit (.int .i64 77),.lit (.int .i64 5)],.lit (.int .i64 0)]
def Tryz.Wt:bj Tryz.jC 1000000 20 Tryz.Ij Tryz.Ik=true:=aay
def Tryz.tF:fS:=[(Tryz.HP,Tryz.HQ),(Tryz.HR,Tryz.HS),(Tryz.HT,Tryz.HU),(Tryz.HV,Tryz.HW),(Tryz.HX,Tryz.HY),(Tryz.HZ,Tryz.H8),(Tryz.Ia,Tryz.Ib),(Tryz.Ic,Tryz.Ie),(Tryz.If,Tryz.Ig),(Tryz.Ih,Tryz.Ii),(Tryz.Ij,Tryz.Ik)]
def Tryz.Il:ir Tryz.prog Tryz.Gk 20 Tryz.tF:=.cons (bt Tryz.kA Tryz.Wi) (.cons (bt Tryz.kA Tryz.Wj) (.cons (bt Tryz.kA Tryz.Wk) (.cons (bt Tryz.kA Tryz.Wl) (.cons (bt Tryz.kA Tryz.Wm) (.cons (bt Tryz.kA Tryz.Wn) (.cons (bt Tryz.kA Tryz.Wo) (.cons (bt Tryz.kA Tryz.Wq) (.cons (bt Tryz.kA Tryz.Wr) (.cons (bt Tryz.kA Tryz.Ws) (.cons (bt Tryz.kA Tryz.Wt) .nil))))))))))
noncomputable def Tryz.jD:EP:={ P:=Tryz.prog,G:=Tryz.Gk,gd:=kr,known:=jS [(64,Tryz.hZ),(28,Tryz.iY),(29,Tryz.kz),(13,Tryz.mm),(16,Tryz.pA),(20,Tryz.tF)],ext:=lp }
def Tryz.kB:EOk Tryz.jD:=.mO (l:=[(64,Tryz.hZ),(28,Tryz.iY),(29,Tryz.kz),(13,Tryz.mm),(16,Tryz.pA),(20,Tryz.tF)]) rfl Tryz.nF Tryz.nH Tryz.nG ⟨Tryz.px,⟨Tryz.ry,⟨Tryz.tC,⟨Tryz.xf,⟨Tryz.Bf,⟨Tryz.Il,trivial⟩⟩⟩⟩⟩⟩ (nE rfl rfl rfl)
def Tryz.Im:List nnn:=[.agg [.lit (.int .i64 2),.L 3 [.lit (.int .i64 2),.lit (.slice none 0 0),.lit (.slice none 0 0),.lit (.int .i64 2),.lit (.slice none 0 0),.L 1 [.L 2 [.lit (.int .i64 1),.lit (.int .i64 1)]],.lit (.int .i64 2),.L 1 [.lit (.int .i64 0)],.lit (.slice none 0 0)],.lit (.int .u64 5),.L 2 [.L 2 [.lit (.int .i64 0),.lit (.int .i64 1)],.L 4 [.lit (.int .i64 4),.lit (.int .i64 0),.lit (.int .i64 0),.lit (.int .i64 4)],.L 2 [.lit (.int .i64 1),.lit (.int .i64 2)],.L 4 [.lit (.int .i64 4),.lit (.int .i64 0),.lit (.int .i64 0),.lit (.int .i64 4)]]],.lit (.int .i64 2),.agg [.lit (.int .i64 2),.lit (.int .i64 1)]]
def Tryz.Io:nnn:=.nc [.lit (.int .u64 2),.lit (.int .i64 0)]
def Tryz.Wu:bj Tryz.jD 1000000 23 Tryz.Im Tryz.Io=true:=aay
def Tryz.Ip:List nnn:=[.agg [.lit (.int .i64 10),.L 3 [.lit (.int .i64 2),.lit (.slice none 0 0),.L 1 [.L 2 [.lit (.int .i64 7),.lit (.int .i64 3)]],.lit (.int .i64 2),.L 1 [.lit (.int .i64 0)],.L 2 [.L 2 [.lit (.int .i64 8),.lit (.int .i64 2)],.L 2 [.lit (.int .i64 2),.lit (.int .i64 8)]],.lit (.int .i64 2),.lit (.slice none 0 0),.lit (.slice none 0 0)],.lit (.int .u64 4),.L 1 [.L 2 [.lit (.int .i64 0),.lit (.int .i64 2)],.L 4 [.lit (.int .i64 100),.lit (.int .i64 20),.lit (.int .i64 0),.lit (.int .i64 70)]]],.lit (.int .i64 9),.agg [.lit (.int .i64 0),.lit (.int .i64 0)]]
def Tryz.Iq:nnn:=.nc [.lit (.int .u64 0),.lit (.int .i64 2)]
def Tryz.Wv:bj Tryz.jD 1000000 23 Tryz.Ip Tryz.Iq=true:=aay
def Tryz.Ir:List nnn:=[.agg [.lit (.int .i64 10),.L 3 [.lit (.int .i64 2),.lit (.slice none 0 0),.L 1 [.L 2 [.lit (.int .i64 7),.lit (.int .i64 3)]],.lit (.int .i64 2),.L 1 [.lit (.int .i64 0)],.L 2 [.L 2 [.lit (.int .i64 8),.lit (.int .i64 2)],.L 2 [.lit (.int .i64 2),.lit (.int .i64 8)]],.lit (.int .i64 2),.lit (.slice none 0 0),.lit (.slice none 0 0)],.lit (.int .u64 4),.L 1 [.L 2 [.lit (.int .i64 0),.lit (.int .i64 2)],.L 4 [.lit (.int .i64 100),.lit (.int .i64 20),.lit (.int .i64 0),.lit (.int .i64 70)]]],.lit (.int .i64 2),.agg [.lit (.int .i64 1),.lit (.int .i64 1)]]
def Tryz.Is:nnn:=.nc [.lit (.int .u64 1),.lit (.int .i64 0)]
def Tryz.Ww:bj Tryz.jD 1000000 23 Tryz.Ir Tryz.Is=true:=aay
def Tryz.It:List nnn:=[.agg [.lit (.int .i64 10),.L 3 [.lit (.int .i64 2),.lit (.slice none 0 0),.L 1 [.L 2 [.lit (.int .i64 7),.lit (.int .i64 3)]],.lit (.int .i64 2),.L 1 [.lit (.int .i64 0)],.L 2 [.L 2 [.lit (.int .i64 8),.lit (.int .i64 2)],.L 2 [.lit (.int .i64 2),.lit (.int .i64 8)]],.lit (.int .i64 2),.lit (.slice none 0 0),.lit (.slice none 0 0)],.lit (.int .u64 4),.L 1 [.L 2 [.lit (.int .i64 0),.lit (.int .i64 2)],.L 4 [.lit (.int .i64 100),.lit (.int .i64 20),.lit (.int .i64 0),.lit (.int .i64 70)]]],.lit (.int .i64 2),.agg [.lit (.int .i64 10),.lit (.int .i64 1)]]
def Tryz.Iu:nnn:=.nc [.lit (.int .u64 1),.lit (.int .i64 0)]
def Tryz.Wx:bj Tryz.jD 1000000 23 Tryz.It Tryz.Iu=true:=aay
def Tryz.Iv:List nnn:=[.agg [.lit (.int .i64 10),.L 3 [.lit (.int .i64 2),.lit (.slice none 0 0),.L 1 [.L 2 [.lit (.int .i64 7),.lit (.int .i64 3)]],.lit (.int .i64 2),.L 1 [.lit (.int .i64 0)],.L 2 [.L 2 [.lit (.int .i64 8),.lit (.int .i64 2)],.L 2 [.lit (.int .i64 2),.lit (.int .i64 8)]],.lit (.int .i64 2),.lit (.slice none 0 0),.lit (.slice none 0 0)],.lit (.int .u64 4),.L 1 [.L 2 [.lit (.int .i64 0),.lit (.int .i64 2)],.L 4 [.lit (.int .i64 100),.lit (.int .i64 20),.lit (.int .i64 0),.lit (.int .i64 70)]]],.lit (.int .i64 2),.agg [.lit (.int .i64 22),.lit (.int .i64 1)]]
def Tryz.Iw:nnn:=.nc [.lit (.int .u64 0),.lit (.int .i64 4)]
def Tryz.Wy:bj Tryz.jD 1000000 23 Tryz.Iv Tryz.Iw=true:=aay
def Tryz.Ix:List nnn:=[.agg [.lit (.int .i64 10),.L 3 [.lit (.int .i64 2),.lit (.slice none 0 0),.L 1 [.L 2 [.lit (.int .i64 7),.lit (.int .i64 3)]],.lit (.int .i64 2),.L 1 [.lit (.int .i64 0)],.L 2 [.L 2 [.lit (.int .i64 8),.lit (.int .i64 2)],.L 2 [.lit (.int .i64 2),.lit (.int .i64 8)]],.lit (.int .i64 2),.lit (.slice none 0 0),.lit (.slice none 0 0)],.lit (.int .u64 4),.L 1 [.L 2 [.lit (.int .i64 0),.lit (.int .i64 2)],.L 4 [.lit (.int .i64 100),.lit (.int .i64 20),.lit (.int .i64 0),.lit (.int .i64 70)]]],.lit (.int .i64 2),.agg [.lit (.int .i64 (-1)),.lit (.int .i64 1)]]
def Tryz.Iy:nnn:=.nc [.lit (.int .u64 0),.lit (.int .i64 2)]
def Tryz.Wz:bj Tryz.jD 1000000 23 Tryz.Ix Tryz.Iy=true:=aay
def Tryz.Iz:List nnn:=[.agg [.lit (.int .i64 10),.L 3 [.lit (.int .i64 2),.lit (.slice none 0 0),.L 1 [.L 2 [.lit (.int .i64 7),.lit (.int .i64 3)]],.lit (.int .i64 2),.L 1 [.lit (.int .i64 0)],.L 2 [.L 2 [.lit (.int .i64 8),.lit (.int .i64 2)],.L 2 [.lit (.int .i64 2),.lit (.int .i64 8)]],.lit (.int .i64 2),.lit (.slice none 0 0),.lit (.slice none 0 0)],.lit (.int .u64 4),.L 1 [.L 2 [.lit (.int .i64 0),.lit (.int .i64 2)],.L 4 [.lit (.int .i64 100),.lit (.int .i64 20),.lit (.int .i64 0),.lit (.int .i64 70)]]],.lit (.int .i64 2),.agg [.lit (.int .i64 2),.lit (.int .i64 4)]]
def Tryz.IA:nnn:=.nc [.lit (.int .u64 0),.lit (.int .i64 5)]
def Tryz.WA:bj Tryz.jD 1000000 23 Tryz.Iz Tryz.IA=true:=aay
def Tryz.IB:List nnn:=[.agg [.lit (.int .i64 10),.L 3 [.lit (.int .i64 2),.lit (.slice none 0 0),.L 1 [.L 2 [.lit (.int .i64 7),.lit (.int .i64 3)]],.lit (.int .i64 2),.L 1 [.lit (.int .i64 0)],.L 2 [.L 2 [.lit (.int .i64 8),.lit (.int .i64 2)],.L 2 [.lit (.int .i64 2),.lit (.int .i64 8)]],.lit (.int .i64 2),.lit (.slice none 0 0),.lit (.slice none 0 0)],.lit (.int .u64 4),.L 1 [.L 2 [.lit (.int .i64 0),.lit (.int .i64 2)],.L 4 [.lit (.int .i64 100),.lit (.int .i64 20),.lit (.int .i64 0),.lit (.int .i64 70)]]],.lit (.int .i64 2),.agg [.lit (.int .i64 0),.lit (.int .i64 1)]]
def Tryz.IC:nnn:=.nc [.lit (.int .u64 0),.lit (.int .i64 0)]
def Tryz.WB:bj Tryz.jD 1000000 23 Tryz.IB Tryz.IC=true:=aay
def Tryz.ID:List nnn:=[.agg [.lit (.int .i64 10),.L 3 [.lit (.int .i64 2),.lit (.slice none 0 0),.L 1 [.L 2 [.lit (.int .i64 7),.lit (.int .i64 3)]],.lit (.int .i64 2),.L 1 [.lit (.int .i64 0)],.L 2 [.L 2 [.lit (.int .i64 8),.lit (.int .i64 2)],.L 2 [.lit (.int .i64 2),.lit (.int .i64 8)]],.lit (.int .i64 2),.lit (.slice none 0 0),.lit (.slice none 0 0)],.lit (.int .u64 4),.L 1 [.L 2 [.lit (.int .i64 0),.lit (.int .i64 2)],.L 4 [.lit (.int .i64 100),.lit (.int .i64 20),.lit (.int .i64 0),.lit (.int .i64 70)]]],.lit (.int .i64 2),.agg [.lit (.int .i64 21),.lit (.int .i64 1)]]
def Tryz.IE:nnn:=.nc [.lit (.int .u64 1),.lit (.int .i64 0)]
def Tryz.WC:bj Tryz.jD 1000000 23 Tryz.ID Tryz.IE=true:=aay
def Tryz.IF:List nnn:=[.agg [.lit (.int .i64 10),.L 3 [.lit (.int .i64 2),.lit (.slice none 0 0),.L 1 [.L 2 [.lit (.int .i64 7),.lit (.int .i64 3)]],.lit (.int .i64 2),.L 1 [.lit (.int .i64 0)],.L 2 [.L 2 [.lit (.int .i64 8),.lit (.int .i64 2)],.L 2 [.lit (.int .i64 2),.lit (.int .i64 8)]],.lit (.int .i64 2),.lit (.slice none 0 0),.lit (.slice none 0 0)],.lit (.int .u64 4),.L 1 [.L 2 [.lit (.int .i64 0),.lit (.int .i64 2)],.L 4 [.lit (.int .i64 100),.lit (.int .i64 20),.lit (.int .i64 0),.lit (.int .i64 70)]]],.lit (.int .i64 2),.agg [.lit (.int .i64 28),.lit (.int .i64 5)]]
def Tryz.IG:nnn:=.nc [.lit (.int .u64 1),.lit (.int .i64 0)]
def Tryz.WD:bj Tryz.jD 1000000 23 Tryz.IF Tryz.IG=true:=aay
def Tryz.IH:List nnn:=[.agg [.lit (.int .i64 10),.L 3 [.lit (.int .i64 2),.lit (.slice none 0 0),.L 1 [.L 2 [.lit (.int .i64 7),.lit (.int .i64 3)]],.lit (.int .i64 2),.L 1 [.lit (.int .i64 0)],.L 2 [.L 2 [.lit (.int .i64 8),.lit (.int .i64 2)],.L 2 [.lit (.int .i64 2),.lit (.int .i64 8)]],.lit (.int .i64 2),.lit (.slice none 0 0),.lit (.slice none 0 0)],.lit (.int .u64 4),.L 1 [.L 2 [.lit (.int .i64 0),.lit (.int .i64 2)],.L 4 [.lit (.int .i64 100),.lit (.int .i64 20),.lit (.int .i64 0),.lit (.int .i64 70)]]],.lit (.int .i64 2),.agg [.lit (.int .i64 4611686018427387903),.lit (.int .i64 1)]]
def Tryz.II:nnn:=.nc [.lit (.int .u64 0),.lit (.int .i64 4)]
def Tryz.WE:bj Tryz.jD 1000000 23 Tryz.IH Tryz.II=true:=aay
def Tryz.Bg:fS:=[(Tryz.Im,Tryz.Io),(Tryz.Ip,Tryz.Iq),(Tryz.Ir,Tryz.Is),(Tryz.It,Tryz.Iu),(Tryz.Iv,Tryz.Iw),(Tryz.Ix,Tryz.Iy),(Tryz.Iz,Tryz.IA),(Tryz.IB,Tryz.IC),(Tryz.ID,Tryz.IE),(Tryz.IF,Tryz.IG),(Tryz.IH,Tryz.II)]
def Tryz.WG:ir Tryz.prog Tryz.Gk 23 Tryz.Bg:=.cons (bt Tryz.kB Tryz.Wu) (.cons (bt Tryz.kB Tryz.Wv) (.cons (bt Tryz.kB Tryz.Ww) (.cons (bt Tryz.kB Tryz.Wx) (.cons (bt Tryz.kB Tryz.Wy) (.cons (bt Tryz.kB Tryz.Wz) (.cons (bt Tryz.kB Tryz.WA) (.cons (bt Tryz.kB Tryz.WB) (.cons (bt Tryz.kB Tryz.WC) (.cons (bt Tryz.kB Tryz.WD) (.cons (bt Tryz.kB Tryz.WE) .nil))))))))))
noncomputable def Tryz.IJ:EP:={ P:=Tryz.prog,G:=Tryz.Gk,gd:=kr,known:=jS [(64,Tryz.hZ),(28,Tryz.iY),(29,Tryz.kz),(13,Tryz.mm),(16,Tryz.pA),(20,Tryz.tF),(23,Tryz.Bg)],ext:=lp }
def Tryz.WH:EOk Tryz.IJ:=.mO (l:=[(64,Tryz.hZ),(28,Tryz.iY),(29,Tryz.kz),(13,Tryz.mm),(16,Tryz.pA),(20,Tryz.tF),(23,Tryz.Bg)]) rfl Tryz.nF Tryz.nH Tryz.nG ⟨Tryz.px,⟨Tryz.ry,⟨Tryz.tC,⟨Tryz.xf,⟨Tryz.Bf,⟨Tryz.Il,⟨Tryz.WG,trivial⟩⟩⟩⟩⟩⟩⟩ (nE rfl rfl rfl)
def Tryz.WI:List nnn:=[]
def Tryz.WJ:nnn:=.lit (.bool true)
def Tryz.WK:bj Tryz.IJ 1000000 19 Tryz.WI Tryz.WJ=true:=aay
def WL (H:nnl)(K:nnf->nnl->Prop)(hK:K (.ret (.lit (.bool true))) H):af Tryz.prog G0 19 [] H K :=
 (af.frame (args':=[]) aO rfl (fun i h _=>absurd h (Xo _)) (bt Tryz.WH Tryz.WK)).mono fun r H' ⟨h1,h2⟩=>by rw[h1,h2];exact hK
def SV {n:Int}(h:(Lit.int .u64 n).wf=true):0<=n/\n<18446744073709551616:=by
 have:0<=n/\n<=18446744073709551615:=by simpa[Lit.wf,IntKind.min,IntKind.max,IntKind.signed,IntKind.bits] using h
 omega
def SW (d:D20)(hd:d.Ok)(w w5 a r n5 n v v5 b s m5 m:Int)(hw:0<=w/\w<=255)(hw5:0<=w5/\w5<=255)(ha:0<=a/\a<=255)(hr:0<=r/\r<=255)(hv:0<=v/\v<=255)(hv5:0<=v5/\v5<=255)(hb:0<=b/\b<=255)(hs:0<=s/\s<=255)(v0:Int)(k0:Int)(hk0:0<=k0/\k0<=255)(S0:Nat)(hS0:S0<2 ^ 64)(H:nnl)(K:nnf->nnl->Prop)(hK:∀H',H.C<=H'.C->K (.ret (.lit (.bool true))) H'):
  af Tryz.prog G0 3 [.agg d.cells,.agg (mS w (gV w5 a r n5) n++mS v (gV v5 b s m5) m),aa v0,.lit (.int .u8 k0),az S0] H K:=by
 refine af.sw (n:=117) (rs:=[.tmp 10]) Tryz.func3 ?_;refine W.sq ?_;simp only[go_sem,D20.cells,mS,gV];obtain⟨L1,hL1⟩:∃L:List nnn,L=[.lit (.int .u8 w),.lit (.int .u8 w5),.lit (.int .u8 a),.lit (.int .u8 r),.lit (.int .i64 n5),.lit (.int .i64 n),.lit (.int .u8 v),.lit (.int .u8 v5),.lit (.int .u8 b),.lit (.int .u8 s),.lit (.int .i64 m5),.lit (.int .i64 m)]:=⟨_,rfl⟩
 obtain⟨H1,hH1⟩:∃H1,H1=ext H [.O 0 28 [.lit (.int .u8 d.g),.L d.ps.length (fb d.ps),.L d.ord.length (bQ d.ord),.lit (.int .u8 d.nl),.lit (.bool d.rem),.L d.us.length (me d.us)],.O 0 33 L1]:=⟨_,rfl⟩
 have g0:=de hH1
 have g1:=gE hH1 1 rfl
 have n1:H1.C=H.C+2:=hH1▸rfl
 rw[hL1]at hH1;rw[<- hH1];rw[hL1]at g1;clear hH1 hL1 L1;have l0:=ag g0;have l1:=ag g1;refine W.en (fun E=>E 5=.Y H.C 0 0 /\ E 6=.Y (H.C+1) 0 0 /\ E 2=aa v0 /\ E 3=.lit (.int .u8 k0) /\ E 4=az S0) (by simp only[go_sem]) fun E ⟨e2,e3,xa0,xa1,xa2⟩=>?_
 refine W.sq ?_;simp only[go_sem,e2,l0];refine aC.nb (TF d hd _ _ fun x hx=>⟨trivial,?_⟩);have hok:=hx.ok;have hf:=Fv hok;have n8:=hok.n.n1;have h6:x.F.length<=5:=by have:=hx.n5;omega
 obtain⟨hsx,hub,hdx⟩:=Qi hok;simp only[go_sem,T0,AK];obtain⟨H2,hH2⟩:∃H2,H2=ext H1 [.O 0 38 [.lit (.int .i64 x.nn),.L x.F.length (aP x.F),.lit (.int .u64 (x.nl:Int)),.L x.V.length (aH x.V)]]:=⟨_,rfl⟩
 have k2:H2.get (H.C+2)=some (.O 0 38 [.lit (.int .i64 x.nn),.L x.F.length (aP x.F),.lit (.int .u64 (x.nl:Int)),.L x.V.length (aH x.V)]):=by rw[hH2,<- n1];exact bV
 have k1:H2.get (H.C+1)=_:=(by rw[hH2];exact cH U:H2.get (H.C+1)=H1.get (H.C+1)).trans g1;have n2:H2.C=H.C+3:=by rw[hH2,bu];simp;omega
 rw[<- hH2];clear hH2 g0 l0 l1 g1;have l1:=ag k1;have l2:=ag k2;refine W.sq ?_;simp only[go_sem,e3,n1,l1,l2];refine aC.nb (Ab w w5 a r n5 n hw hw5 ha hr x (aP x.F) (EX (fun _=>True) x.F) 1024 U hsx hub hf.nl False ⟨0,[],[]⟩ False.elim (fun _ _ _ h z hz hne=>absurd (hdx _ z hz h) hne) _ _ (fun _ one c1 ho of oq ol osm=>⟨trivial,?_⟩) False.elim);obtain⟨os,ou⟩:=osm;simp only[go_sem,fg,eN];obtain⟨H3,hH3⟩:∃H3,H3=ext H2 [.O 0 38 [.lit (.int .i64 one.nn),.L one.F.length c1,.lit (.int .u64 (one.nl:Int)),.L one.V.length (aH one.V)]]:=⟨_,rfl⟩
 have o3:H3.get (H.C+3)=some (.O 0 38 [.lit (.int .i64 one.nn),.L one.F.length c1,.lit (.int .u64 (one.nl:Int)),.L one.V.length (aH one.V)]):=by rw[hH3,<- n2];exact bV
 have o2:H3.get (H.C+2)=_:=(by rw[hH3];exact cH U:H3.get (H.C+2)=H2.get (H.C+2)).trans k2;have o1:H3.get (H.C+1)=_:=(by rw[hH3];exact cH U:H3.get (H.C+1)=H2.get (H.C+1)).trans k1;have n3:H3.C=H.C+4:=by rw[hH3,bu];simp;omega
 rw[<- hH3];clear hH3 l1 l2 k1 k2;have m1:=ag o1;have m2:=ag o2;have m3:=ag o3;refine W.en (fun E1=>E1 6=.Y (H.C+1) 0 0 /\ E1 11=.Y (H.C+2) 0 0 /\ E1 12=.Y (H.C+3) 0 0 /\ E1 2=aa v0 /\ E1 3=.lit (.int .u8 k0) /\ E1 4=az S0) (by simp only[go_sem,e3,n2,xa0,xa1,xa2]) fun E1 ⟨f3,f5,f6,xb0,xb1,xb2⟩=>?_
 clear e2 e3;obtain⟨C0,hC0⟩:∃C:List nnn,C=[.lit (.int .i64 x.nn),.L x.F.length (aP x.F),.lit (.int .u64 (x.nl:Int)),.L x.V.length (aH x.V)]:=⟨_,rfl⟩
 obtain⟨C1,hC1⟩:∃C:List nnn,C=[.lit (.int .i64 one.nn),.L one.F.length c1,.lit (.int .u64 (one.nl:Int)),.L one.V.length (aH one.V)]:=⟨_,rfl⟩
 refine W.seq (W.dI (fun s'=>s'.ρ 2=aa v0/\s'.ρ 3=.lit (.int .u8 k0)/\s'.ρ 4=az S0/\∃(y:nnb) (c3:List nnn),s'.ρ 39=.agg [.lit (.int .i64 x.nn),.L x.F.length (aP x.F),.lit (.int .u64 (x.nl:Int)),.L x.V.length (aH x.V),.lit (.int .i64 one.nn),.L one.F.length c1,.lit (.int .u64 (one.nl:Int)),.L one.V.length (aH one.V),.lit (.int .i64 y.nn),.L y.F.length c3,.lit (.int .u64 (y.nl:Int)),.L y.V.length (aH y.V)]/\s'.ρ 40=aa 0/\H3.C<=s'.H.C/\g9 H3.C y c3 s'.H/\y.F.length<=7) ?_ ?_)
 ·by_cases hh:∃z,FK v v5 b s one z
  ·obtain⟨z,hz⟩:=hh;have hzA:(b % (one.F.length:Int)).toNat<one.F.length:=get_lt hz.2.1.at';have hdl:∀v,x.nl.testBit v=true->v<x.F.length:=fun v hv=>by
    rcases Xu v x.F.length with h|h
    ·exact h
    ·have h0:=hok.n.nl;have:=Nat.testBit_shiftRight x.nl (i:=x.F.length) (j:=v-x.F.length);rw[h0,XX]at this;rw[show x.F.length+(v-x.F.length)=v by omega,hv]at this;cases this
   have hzc:=Ud ho hok.n.Q hdx hdl hz.2.1.at' hz.2.1.ne hz.2.2;obtain⟨yf,yh⟩:=Ul hz of hzc H3.C;refine Ev.W.xM 8 [0,0,0,4,0,28,63,0] Tryz.mixed aay aay ?_;simp only[go_sem,f3,f5,f6,m1,m2,m3,xb0,xb1,xb2,DN,DO,DP,QB,DQ,DR,Ug];refine⟨_,_,_,_,SZ (rs:=[]) (e:=72) (tf b one z) (fun id g=>Uj b one z hzA id g _ _) (fun r h=>by cases h) (fun H9 _=>Ab v v5 b s m5 m hv hv5 hb hs one c1 oq 1029 U (os.mono U) ou of.nl True z (fun _=>⟨hz.1,hz.2.1⟩) (fun h=>absurd trivial h) H9 _ (fun h=>absurd trivial h) fun _ id g H' q1 q2 q3 q4=>⟨id,g,rfl,q1,q2,q3,q4⟩),?_⟩;rw[Uk];simp only[go_sem,DT,DS,fg,eN];refine⟨⟨fun _ h=>U,fun _ h=>U⟩,tg b one z,_,rfl,Yb _,⟨yf,.inr ⟨⟨_,_,yh⟩,X6 _,bV⟩⟩,?_⟩;show (one.F.set _ _).length<=7;rw[Xb];omega
  ·obtain⟨y,c3,hB⟩:∃y c3,(y,c3)=fq v v5 b s m5 m one:=⟨_,_,rfl⟩
   have hdec2:v % 8<4->v5 % 12=5->one.nl.testBit (b % (one.F.length:Int)).toNat=true->∀x,one.F[(b % (one.F.length:Int)).toNat]?=some x->x.X≠[]->¬s % (x.X.length:Int)=0:=fun h1 h2 h3 x h4 h5 h6=>hh ⟨x,h1,⟨h2,h4,h5,h6⟩,h3⟩;obtain⟨yf,yq,yl,_⟩:=Qh (w:=v) (w5:=v5) (a:=b) (r:=s) (n5:=m5) (n:=m) (m:=1029) U (os.mono U) ou of.nl hdec2;rw[<- hB]at yf yq yl;simp only at yf yq yl;refine W.dr 8 [0,0,0,4,0,28,63,0] Tryz.mixed ?_;simp only[go_sem,f3,f5,f6,m1,m2,m3,xb0,xb1,xb2];refine⟨bH y c3,[],cz.pure fun H9=>Ab v v5 b s m5 m hv hv5 hb hs one c1 oq 1029 U (os.mono U) ou of.nl False ⟨0,[],[]⟩ False.elim (fun _=>hdec2) H9 _ (fun _ y' cs hy _ _ _ _=>by rw[<- hB]at hy;cases hy;exact⟨rfl,rfl⟩) False.elim,?_⟩;simp only[go_sem,fg,eN];exact⟨y,c3,rfl,⟨yf,.inl yq⟩,U⟩
 rintro⟨ρ2,H4⟩ ⟨xc0,xc1,xc2,y,c3,h31,h32,nx4,hY,hyl⟩;simp only at h31 h32 nx4 hY xc0 xc1 xc2;refine W.block ?_;refine W.env fun E2 hE2=>?_;have t31:E2 39=ρ2 39:=by rw[hE2]
 rw[h31]at t31;have t32:E2 40=aa 0:=by rw[hE2];exact h32
 have xd0:E2 2=aa v0:=by rw[hE2];exact xc0
 have xd1:E2 3=.lit (.int .u8 k0):=by rw[hE2];exact xc1
 have xd2:E2 4=az S0:=by rw[hE2];exact xc2
 clear hE2 h31 h32;have hYk:∀Hk:nnl,H4.C<=Hk.C->(∀i,i<H4.C->Hk.get i=H4.get i)->g9 H3.C y c3 Hk:=fun Hk h1 h2=>⟨hY.1,hY.2.imp id fun ⟨h3,h4,h5⟩=>⟨h3,U,(h2 _ h4).trans h5⟩⟩
 refine W.aM 83076749736557242056486841887966208 (by rfl) (fun ρ Hx=>∃k:Nat,ρ 40=aa k/\k<=3/\H4.C<=Hx.C/\∀i,i<H4.C->Hx.get i=H4.get i) (fun ρ Hx=>3-(iv (ρ 40)).toNat) ?_ ?_
 ·simp only[go_sem,t32];exact⟨0,rfl,U⟩
 rintro ρ5 Hx ⟨k,hk,hk3,nx,hold⟩;refine W.env fun E5 hE5=>?_;have i31:=(show E5 39=E2 39 by rw[hE5];simp only[go_sem]).trans t31;have i32:E5 40=aa k:=by rw[hE5];simp only[go_sem,hk]
 have xe0:=(show E5 2=E2 2 by rw[hE5];simp only[go_sem]).trans xd0;have xe1:=(show E5 3=E2 3 by rw[hE5];simp only[go_sem]).trans xd1;have xe2:=(show E5 4=E2 4 by rw[hE5];simp only[go_sem]).trans xd2;clear hE5;by_cases hkb:(k:Int)<3;rotate_left
 ·refine W.vs ?_;simp only[go_sem,i32,hkb];refine W.vs ?_;simp only[go_sem];refine aC.nb (WL _ _ ⟨trivial,?_⟩);simp only[go_sem];exact ar.mk U (hK _ U)
 refine W.sq ?_;simp only[go_sem,i32,hkb];refine W.sq ?_;simp only[go_sem];refine W.seq (W.block ?_);refine W.dI (fun s'=>s'.ρ 2=aa v0/\s'.ρ 3=.lit (.int .u8 k0)/\s'.ρ 4=az S0/\s'.ρ 39=E5 39/\s'.ρ 40=aa k/\s'.ρ 14=.Y Hx.C 0 0/\s'.H.C=Hx.C+1/\(∀i,i<Hx.C->s'.H.get i=Hx.get i)/\∃(z:nnb) (cs:List nnn),g9 H3.C z cs s'.H/\z.F.length<=7/\s'.H.get Hx.C=some (.O 0 38 [.lit (.int .i64 z.nn),.L z.F.length cs,.lit (.int .u64 (z.nl:Int)),.L z.V.length (aH z.V)])) ?_ ?_
 ·have hk012:k=0\/k=1\/k=2:=U
  refine W.vs ?_;rcases hk012 with rfl|rfl|rfl
  ·simp only[go_sem,i31,i32,xe0,xe1,xe2];exact⟨fun i h=>cH h,x,_,⟨hf,.inl (EX _ _)⟩,U,bV⟩
  ·simp only[go_sem,i31,i32,xe0,xe1,xe2];exact⟨fun i h=>cH h,one,_,⟨of,.inl oq⟩,U,bV⟩
  ·simp only[go_sem,i31,i32,xe0,xe1,xe2];exact⟨fun i h=>cH h,y,_,hYk _ (by rw[bu];simp;omega) (fun i h=>(cH U).trans (hold i h)),hyl,bV⟩
 rintro⟨ρ6,H6⟩ ⟨xf0,xf1,xf2,j27,j28,j8,n6,o6,z,cs,hz,hzl,g6⟩;simp only at j27 j28 j8 n6 o6 hz g6 xf0 xf1 xf2;have l6:=ag g6;have w1:=W6 ((k:Int)+1) U;have nx6:H4.C<=H6.C/\∀i,i<H4.C->H6.get i=H4.get i:=⟨U,fun i h=>(o6 i U).trans (hold i h)⟩
 have hf:=hz.1;have lit1:∀x:Int,∀a∈[aa x],∀(S:Nat->Prop) (H:nnl) (nx:Nat),Fz S H nx a a:=fun x a ha=>by
  obtain rfl:=List.mem_singleton.1 ha;exact fun _ _ _=>.lit _
 have lit2:∀(x:Int) (s:Nat),∀a∈[aa x,az s],∀(S:Nat->Prop) (H:nnl) (nx:Nat),Fz S H nx a a:=fun x s a ha=>by
  rcases List.mem_cons.1 ha with rfl|ha
  ·exact fun _ _ _=>.lit _
  ·obtain rfl:=List.mem_singleton.1 ha;exact fun _ _ _=>.lit _
 refine W.sq ?_;simp only[go_sem,j8,l6,xf0,xf1];refine aC.nb (SU z cs hf.nl U v0 k0 hk0 _ _ ⟨trivial,?_⟩);obtain⟨o0,ho0⟩:∃o0,o0=s8 z v0 k0:=⟨_,rfl⟩
 rw[<- ho0];simp only[go_sem];refine W.block ?_;refine W.en (fun E8=>E8 4=az S0 /\ E8 14=.Y Hx.C 0 0 /\ E8 39=E5 39 /\ E8 40=aa k /\ E8 48=.agg [.lit (.int .i64 v0),.lit (.int .i64 o0)] /\ E8 49=aa 0) (by simp only[go_sem,xf2,j8,j27,j28]) fun E8 ⟨c4,c14,c39,c40,c48,c49⟩=>?_
 refine W.aM 41538374868278621027681020812395520 (by rfl) (fun ρ Hy=>nnd H6 Hy/\∃c:Nat,ρ 49=aa c/\c<=2) (fun ρ Hy=>2-(iv (ρ 49)).toNat) ?_ ?_
 ·exact⟨.refl _,0,c49,U⟩
 rintro ρ9 Hy ⟨ov,c,hc,hc3⟩;have ovn:=ov.C;refine W.en (fun E9=>E9 4=az S0 /\ E9 14=.Y Hx.C 0 0 /\ E9 39=E5 39 /\ E9 40=aa k /\ E9 48=.agg [.lit (.int .i64 v0),.lit (.int .i64 o0)] /\ E9 49=aa c) (by simp only[go_sem,c4,c14,c39,c40,c48,hc]) fun E9 ⟨d4,d14,d39,d40,d48,d49⟩=>?_
 have w5:=W6 ((c:Int)+1) U;by_cases hcb3:(c:Int)<2;rotate_left
 ·refine W.vs ?_;simp only[go_sem,d49,hcb3];refine W.vs ?_;simp only[go_sem,d40,w1];exact⟨U,⟨k+1,rfl,U,U,fun i h=>(ov.ng i U).trans (nx6.2 i h)⟩,by rw[hk];simp only[aa,aI];omega⟩
 obtain⟨u',hu'⟩:∃u',u'=if c=0 then v0 else o0:=⟨_,rfl⟩
 refine W.sq ?_;simp only[go_sem,d49,hcb3];refine W.sq ?_;simp only[go_sem];refine W.seq (W.block ?_);refine W.dI (fun s'=>s'.ρ 4=az S0/\s'.ρ 14=.Y Hx.C 0 0/\s'.ρ 39=E5 39/\s'.ρ 40=aa k/\s'.ρ 48=.agg [.lit (.int .i64 v0),.lit (.int .i64 o0)]/\s'.ρ 49=aa c/\s'.ρ 16=aa u'/\s'.H=Hy) ?_ ?_
 ·have hk01:c=0\/c=1:=U
  refine W.vs ?_;rcases hk01 with rfl|rfl
  ·simp at hu';simp only[go_sem,d4,d14,d39,d40,d48,d49,hu']
  ·simp at hu';simp only[go_sem,d4,d14,d39,d40,d48,d49,hu']
 rintro⟨ρa,Ha⟩ ⟨b4,b14,b39,b40,b48,b49,b16,hHa⟩;simp only at b4 b14 b39 b40 b48 b49 b16 hHa;subst hHa;have hza:=hz.mono ov.C ov.ng;have la:=ag ((ov.ng Hx.C U).trans g6);refine W.sq ?_;simp only[go_sem,b14,b16,la];refine aC.nb (hza.F5 (lit1 u') (SK z hf u' _ _ ⟨trivial,?_⟩));simp only[go_sem];refine W.sq ?_;simp only[go_sem,b14,b16,la];refine aC.nb (SM hza u' _ ⟨trivial,?_⟩);obtain⟨op,hop⟩:∃op,op=lX z u':=⟨_,rfl⟩
 obtain⟨er,her⟩:∃er,er=dy z u':=⟨_,rfl⟩
 have iU:er=0->nnj z/\∃(r:List Nat) (u:Nat),dX z=some r/\u'=u/\u∈r/\op=ew z u:=fun h=>by
  rw[her]at h;have hok:nnj z:=Xw fun hn=>by unfold dy at h;rw[fX hn]at h;cases h
  cases hr:dX z with
  |none=>unfold dy at h;rw[eO hok,hr]at h;cases h
  |some r =>
   have h2:=s7 hok hr u';rw[h]at h2;have hm:u'∈av r:=Xw fun hn=>by rw[W7 hn]at h2;cases h2
   obtain⟨u,hu1,hu2⟩:=Xx.1 hm;exact⟨hok,r,u,rfl,hu2.symm,hu1,by rw[hop];unfold lX;rw[h,W8 rfl,<- hu2,Int.toNat_natCast]⟩
 have op64:op<2 ^ 64:=by
  rw[hop];unfold lX;split
  ·exact Xd (s9 fun i hi=>(qM.1 hi).1) (Xq aax (show z.F.length<=64 by omega))
  ·decide
 rw[<- hop,<- her];simp only[go_sem];refine W.sq ?_;simp only[go_sem];refine W.dI (fun s'=>s'.ρ 4=az S0/\s'.ρ 14=.Y Hx.C 0 0/\s'.ρ 39=E5 39/\s'.ρ 40=aa k/\s'.ρ 48=.agg [.lit (.int .i64 v0),.lit (.int .i64 o0)]/\s'.ρ 49=aa c/\s'.ρ 16=aa u'/\s'.ρ 17=az op/\s'.ρ 18=aa er/\s'.ρ 19=aa er/\s'.ρ 20=az op/\s'.H=Ha) ?_ ?_
 ·by_cases h0:er=0
  ·obtain⟨hok,r,u,h1,h2,h3,h4⟩:=iU h0;refine W.vs ?_;simp only[go_sem,h0,b14,b16,la,h2];refine aC.nb (SP hza hok ((qQ h1).mem u h3) _ ⟨trivial,?_⟩);rw[<- h4];simp only[go_sem,b4,b14,b39,b40,b48,b49,b16,h2]
  ·have e0:op=0:=(by rw[hop];unfold lX;rw[<- her,W7 h0]);refine W.vs ?_;simp only[go_sem,h0,b4,b14,b39,b40,b48,b49,b16,e0]
 rintro⟨ρb,Hb⟩ ⟨g4,g14,g39,g40,g48,g49,g16,g17,g18,g19,g20,hHb⟩;simp only at g4 g14 g39 g40 g48 g49 g16 g17 g18 g19 g20 hHb;subst hHb;unfold az at g4 g17 g20;refine W.sq ?_;simp only[go_sem,g17,g18,g19,g20];have sa:=fun t x y=>pq (P:=Tryz.prog) (t:=t) (x:=x) (y:=y) hS0 op64;refine W.sq ?_;simp only[go_sem,g4,g20,sa];refine W.block ?_;refine W.en (fun E10=>E10 4=az S0 /\ E10 14=.Y Hx.C 0 0 /\ E10 16=aa u' /\ E10 19=aa er /\ E10 20=.lit (.int .u64 (op:Int)) /\ E10 39=E5 39 /\ E10 40=aa k /\ E10 48=.agg [.lit (.int .i64 v0),.lit (.int .i64 o0)] /\ E10 49=aa c /\ E10 78=.agg [.lit (.int .u64 (S0:Int)),.lit (.int .u64 ((S0 &&& op:Nat):Int))] /\ E10 79=aa 0) (by simp only[go_sem,g4,g14,g16,g19,g20,g39,g40,g48,g49]) fun E10 ⟨p4,p14,p16,p19,p20,p39,p40,p48,p49,p78,p79⟩=>?_
 refine W.aM 20769187433534847604314670859551744 (by rfl) (fun ρ Hc=>nnd Hb Hc/\∃i:Nat,ρ 79=aa i/\i<=2) (fun ρ Hc=>2-(iv (ρ 79)).toNat) ?_ ?_
 ·exact⟨.refl _,0,p79,U⟩
 rintro ρ11 Hc ⟨ov2,i,hi79,hi2⟩;have ovn2:=ov2.C;have ovc:=ov.trans ov2;refine W.en (fun E11=>E11 4=az S0 /\ E11 14=.Y Hx.C 0 0 /\ E11 16=aa u' /\ E11 19=aa er /\ E11 20=.lit (.int .u64 (op:Int)) /\ E11 39=E5 39 /\ E11 40=aa k /\ E11 48=.agg [.lit (.int .i64 v0),.lit (.int .i64 o0)] /\ E11 49=aa c /\ E11 78=.agg [.lit (.int .u64 (S0:Int)),.lit (.int .u64 ((S0 &&& op:Nat):Int))] /\ E11 79=aa i) (by simp only[go_sem,p4,p14,p16,p19,p20,p39,p40,p48,p49,p78,hi79]) fun E11 ⟨q4,q14,q16,q19,q20,q39,q40,q48,q49,q78,q79⟩=>?_
 have w6:=W6 ((i:Int)+1) U;by_cases hib:(i:Int)<2;rotate_left
 ·refine W.vs ?_;simp only[go_sem,q79,hib];refine W.vs ?_;simp only[go_sem,q49,w5];exact⟨U,⟨ovc,c+1,rfl,U⟩,by rw[hc];simp only[aa,aI];omega⟩
 obtain⟨s',hs'⟩:∃s',s'=if i=0 then S0 else S0 &&& op:=⟨_,rfl⟩
 have s64:s'<2 ^ 64:=by
  rw[hs'];split
  ·exact hS0
  ·exact Y4 ZJ hS0
 refine W.sq ?_;simp only[go_sem,q79,hib];refine W.sq ?_;simp only[go_sem];refine W.seq (W.block ?_);refine W.dI (fun s2=>s2.ρ 14=.Y Hx.C 0 0/\s2.ρ 16=aa u'/\s2.ρ 19=aa er/\s2.ρ 20=.lit (.int .u64 (op:Int))/\s2.ρ 79=aa i/\s2.ρ 22=.lit (.int .u64 (s':Int))/\s2.H=Hc) ?_ ?_
 ·have hk01:i=0\/i=1:=U
  refine W.vs ?_;rcases hk01 with rfl|rfl
  ·simp at hs';simp only[go_sem,q14,q16,q19,q20,q78,q79,hs']
  ·simp at hs';simp only[go_sem,q14,q16,q19,q20,q78,q79,hs']
 rintro⟨ρc,Hd⟩ ⟨t14,t16,t19,t20,t79,t22,hHd⟩;simp only at t14 t16 t19 t20 t79 t22 hHd;subst hHd;have hzc:=hz.mono ovc.C ovc.ng;have lc:=ag ((ovc.ng Hx.C U).trans g6);have ovd:=ovc.C
  -- both are empty
 have fin:∀H':nnl,nnd Hb H'->Hb.C<=H'.C/\(nnd Hb H'/\∃i',nnn.lit (.int .i64 ((i:Int)+1))=.lit (.int .i64 (i':Nat))/\i'<=2)/\2-(iv (.lit (.int .i64 ((i:Int)+1)))).toNat<2-(iv (ρ11 79)).toNat:=fun H' h2=>⟨h2.C,⟨h2,i+1,rfl,U⟩,by rw[hi79];simp only[aa,aI];omega⟩
 have zfit:nnm ⟨0,[],0,[]⟩:=⟨⟨aaw,fun x hx=>by cases hx⟩,aax,⟨aaw,fun x hx=>by cases hx⟩⟩
 refine W.sq ?_;simp only[go_sem,t14,t16,t22,lc];refine aC.nb (hzc.F5 (lit2 u' s') (SL z hf U u' s' s64 _ _ (fun e he h0=>⟨trivial,?_⟩) (fun he hA=>⟨trivial,?_⟩) fun r u he hu hok hr hm hS=>⟨trivial,?_⟩))
 ·rw[<- her]at he;subst he;simp only[go_sem,hJ,dm];refine W.sq ?_;simp only[go_sem];refine W.sq ?_;simp only[go_sem,t19];obtain⟨He,hHe⟩:∃He,He=ext Hd [.O 0 38 [.lit (.int .i64 0),.L 0 (aG []),.lit (.int .u64 0),.L 0 (aH [])],.O 0 38 [.lit (.int .i64 0),.lit (.slice none 0 0),.lit (.int .u64 0),.lit (.slice none 0 0)]]:=⟨_,rfl⟩
  have ge0:=de hHe
  have ge1:=gE hHe 1 rfl
  have oe:nnd Hd He:=hHe▸.ext _ _
  have ne:He.C=Hd.C+2:=hHe▸rfl
  rw[<- hHe];clear hHe;have le0:=ag ge0;have le1:=ag ge1;refine W.en (fun Ee=>Ee 14=.Y Hx.C 0 0 /\ Ee 16=aa u' /\ Ee 20=.lit (.int .u64 (op:Int)) /\ Ee 22=.lit (.int .u64 (s':Int)) /\ Ee 23=.Y Hd.C 0 0 /\ Ee 25=.Y (Hd.C+1) 0 0 /\ Ee 79=aa i /\ Ee 24=aa er /\ Ee 26=aa er) (by simp only[go_sem,t14,t16,t20,t22,t79]) fun Ee ⟨x14,x16,x20,x22,x23,x25,x79,x24,x26⟩=>?_
  refine W.vs ?_;simp only[go_sem,x23,x24,x25,x26,h0,le0,le1];refine aC.nb (af.pt (args':=[cM ⟨0,[],0,[]⟩,cM ⟨0,[],0,[]⟩]) aO rfl (fun i hi _=>?_) (Aq _ zfit _ _ ⟨trivial,?_⟩))
  ·match i,hi with
   |0,_=>exact Ap ⟨0,[],0,[]⟩
   |1,_ =>
    refine .agg rfl fun j hj _=>?_
    match j,hj with
    |0,_=>exact .lit _
    |1,_=>exact .nil
    |2,_=>exact .lit _
    |3,_=>exact .nil
  simp only[go_sem];refine W.vs ?_;simp only[go_sem,x79,w6];exact fin _ (ov2.trans oe)
 ·rw[<- her]at he;obtain⟨hok,r,u,h1,h2,h3,h4⟩:=iU he;rw[h2,Int.toNat_natCast,<- h4]at hA;have hAi:¬((cN s' op:Nat):Int)=0:=U
  have s2:=fun t x y=>jz (P:=Tryz.prog) (t:=t) (x:=x) (y:=y) (a:=s') (b:=op);simp only[go_sem,hJ,dm];refine W.sq ?_;simp only[go_sem];refine W.sq ?_;simp only[go_sem,t19,he];obtain⟨He,hHe⟩:∃He,He=ext Hd [.O 0 38 [.lit (.int .i64 0),.L 0 (aG []),.lit (.int .u64 0),.L 0 (aH [])],.O 0 38 [.lit (.int .i64 0),.lit (.slice none 0 0),.lit (.int .u64 0),.lit (.slice none 0 0)]]:=⟨_,rfl⟩
  have ge0:=de hHe
  have ge1:=gE hHe 1 rfl
  have oe:nnd Hd He:=hHe▸.ext _ _
  have ne:He.C=Hd.C+2:=hHe▸rfl
  rw[<- hHe];clear hHe;have le0:=ag ge0;have le1:=ag ge1;refine W.en (fun Ee=>Ee 14=.Y Hx.C 0 0 /\ Ee 16=aa u' /\ Ee 20=.lit (.int .u64 (op:Int)) /\ Ee 22=.lit (.int .u64 (s':Int)) /\ Ee 23=.Y Hd.C 0 0 /\ Ee 25=.Y (Hd.C+1) 0 0 /\ Ee 79=aa i /\ Ee 24=aa 2 /\ Ee 26=aa 0) (by simp only[go_sem,t14,t16,t20,t22,t79]) fun Ee ⟨x14,x16,x20,x22,x23,x25,x79,x24,x26⟩=>?_
  refine W.vs ?_;simp only[go_sem,x20,x22,x23,x24,x25,x26,hAi,s2,le0,le1];refine aC.nb (af.pt (args':=[cM ⟨0,[],0,[]⟩,cM ⟨0,[],0,[]⟩]) aO rfl (fun i hi _=>?_) (Aq _ zfit _ _ ⟨trivial,?_⟩))
  ·match i,hi with
   |0,_=>exact Ap ⟨0,[],0,[]⟩
   |1,_ =>
    refine .agg rfl fun j hj _=>?_
    match j,hj with
    |0,_=>exact .lit _
    |1,_=>exact .nil
    |2,_=>exact .lit _
    |3,_=>exact .nil
  simp only[go_sem];refine W.vs ?_;simp only[go_sem,x79,w6];exact fin _ (ov2.trans oe)
 ·rw[<- her]at he;obtain⟨_,r2,u2,h1,h2,h3,h4⟩:=iU he;obtain rfl:u=u2:=U
  have hro:=qQ hr;have hsz:cN s' op=0:=by rw[h4];exact(qT s64).2 hS
  have s2:=fun t x y=>jz (P:=Tryz.prog) (t:=t) (x:=x) (y:=y) (a:=s') (b:=op);rw[hsz]at s2;have dfit:=Fv (R9 hok hro hm hS);obtain⟨D,hD⟩:∃D,D=bX z r u s':=⟨_,rfl⟩
  rw[<- hD]at dfit;rw[<- hD];simp only[go_sem,hJ,dm];refine W.sq ?_;simp only[go_sem];refine W.sq ?_;simp only[go_sem,t19,he];obtain⟨He,hHe⟩:∃He,He=ext Hd [.O 0 38 [.lit (.int .i64 D.nn),.L D.F.length (aG D.F),.lit (.int .u64 (D.nl:Int)),.L D.V.length (aH D.V)],.O 0 38 [.lit (.int .i64 0),.lit (.slice none 0 0),.lit (.int .u64 0),.lit (.slice none 0 0)]]:=⟨_,rfl⟩
  have ge0:=de hHe
  have ge1:=gE hHe 1 rfl
  have oe:nnd Hd He:=hHe▸.ext _ _
  have ne:He.C=Hd.C+2:=hHe▸rfl
  rw[<- hHe];clear hHe;have le0:=ag ge0;have le1:=ag ge1;refine W.en (fun Ee=>Ee 14=.Y Hx.C 0 0 /\ Ee 16=aa u' /\ Ee 20=.lit (.int .u64 (op:Int)) /\ Ee 22=.lit (.int .u64 (s':Int)) /\ Ee 23=.Y Hd.C 0 0 /\ Ee 25=.Y (Hd.C+1) 0 0 /\ Ee 79=aa i /\ Ee 24=aa 0 /\ Ee 26=aa 0) (by simp only[go_sem,t14,t16,t20,t22,t79]) fun Ee ⟨x14,x16,x20,x22,x23,x25,x79,x24,x26⟩=>?_
  have lce:=ag ((oe.ng Hx.C U).trans ((ovc.ng Hx.C U).trans g6));have hze:=hzc.mono oe.C oe.ng;refine W.vs ?_;simp only[go_sem,x14,x16,x20,x22,x26,s2,lce,hu];refine aC.nb (SR hze hok hr hm (Ah hS) _ ⟨trivial,?_⟩);rw[<- hD];have le0u:∀b,(He.upd (Hd.C+1) b).na Hd.C 0=_:=fun b=>(jA U).trans le0;simp only[go_sem,hJ,dm,x23,x24,x25,x26,le1,le0u];refine aC.nb (Aq D dfit _ _ ⟨trivial,?_⟩);simp only[go_sem];refine W.vs ?_;simp only[go_sem,x79,w6];refine fin _ ?_;exact nnd.upd (id:=Hd.C+1) (ov2.trans oe) U _
def SX (d:D20)(hd:d.Ok)(w w5 a r n5 n v v5 b s m5 m:Int)(hw:0<=w/\w<=255)(hw5:0<=w5/\w5<=255)(ha:0<=a/\a<=255)(hr:0<=r/\r<=255)(hv:0<=v/\v<=255)(hv5:0<=v5/\v5<=255)(hb:0<=b/\b<=255)(hs:0<=s/\s<=255)(v0:Int)(k0:Int)(hk0:0<=k0/\k0<=255)(s0:Int)(hs0:0<=s0/\s0<18446744073709551616)(H:nnl)(K:nnf->nnl->Prop)(hK:∀H',H.C<=H'.C->K (.ret (.lit (.bool true))) H'):
  af Tryz.prog G0 3 [.agg d.cells,.agg (mS w (gV w5 a r n5) n++mS v (gV v5 b s m5) m),aa v0,.lit (.int .u8 k0),.lit (.int .u64 s0)] H K:=by
 obtain⟨S,rfl⟩:=Xn hs0.1;exact SW d hd w w5 a r n5 n v v5 b s m5 m hw hw5 ha hr hv hv5 hb hs v0 k0 hk0 S U H K hK
end Go.Proofs
