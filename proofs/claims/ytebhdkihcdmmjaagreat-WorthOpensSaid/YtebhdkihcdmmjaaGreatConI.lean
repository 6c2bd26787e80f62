/- Own work: contracts. -/
import Derived.Test.YtebhdkihcdmmjaaGreatConH
import Derived.Test.YtebhdkihcdmmjaaGreatConG
import Derived.Test.YtebhdkihcdmmjaaGreatConA
import Derived.Test.YtebhdkihcdmmjaaGreatConB
import Derived.Test.YtebhdkihcdmmjaaGreatConD
import Derived.Test.YtebhdkihcdmmjaaGreatConE
import Derived.Test.YtebhdkihcdmmjaaGreatConF
import Derived.Test.YtebhdkihcdmmjaaGreatConC
set_option linter.all false
set_option maxHeartbeats 8000000
set_option maxRecDepth 100000
namespace Go.Proofs
open Go.Hx Tryz
variable {ps r:List Nat}{cs:List nnn}{S a b id n nx u v w:Nat}{d:nnb}{H:nnl}
def Ss {t:List Int}(ht:(t.length:Int)<2 ^ 40):
  Ev.jg prog G0 (.nb 88 [] []) [.L t.length (ints t)] H (.Z H.C (gC t) 0 t.length 1) (Ev.dG H.C (H.C+1) (fun _=>true) (ext ⟨fun _=>none,H.C⟩ [.O (gC t) 3 (ints t)]).get) 1 ⟨Ev.lI H.C (H.C+1),[]⟩ :=
 SY (fun r h=>by cases h) (fun i hi=>by
  simp only[ints,Xi];exact .lit _) fun H2 _=>Sh t ht H2 _ ⟨rfl,rfl⟩
theorem Ak (v:Nat):∀r:List Nat,((av r).idxOf (v:Int))=r.idxOf v
 | []=>rfl
 |a :: r=>by
  have ih:=Ak v r;unfold av at ih ⊢;rw[List.map_cons,ZK,ZK,ih];by_cases h:a=v
  ·subst h;simp
  ·have h':¬((a:Int)=(v:Int)):=U;have e1:(a == v)=false:=(by simpa using h);have e2:((a:Int) == (v:Int))=false:=(by simpa using h');rw[e1,e2]
def oI :(v:Int)∈av r↔v∈r:=by
 unfold av;rw[Xx];refine⟨fun ⟨a,h1,h2⟩=>?_,fun h=>⟨v,h,rfl⟩⟩;have e:a=v:=U
 exact e ▸ h1
def Ek (hu:u∈r):fA (av r) v >= fA (av r) u↔gG r u v=true:=by
 unfold fA gG;rw[W8 (oI.2 hu),X0,Ak];by_cases hv:v∈r
 ·rw[W8 (oI.2 hv),Ak];exact⟨fun h=>⟨hv,U⟩,fun h=>by have:=h.2;omega⟩
 ·rw[W7 fun h=>hv (oI.1 h)];exact⟨fun h=>U,fun h=>absurd h.1 hv⟩
def Su {S:Nat->Prop}(l:List nna):∀c∈aG l,Fz S H nx c c:=by
 intro c hc;unfold aG at hc;obtain⟨r,hr,hc⟩:=Y2.1 hc;obtain⟨x,_,rfl⟩:=Xx.1 hr;unfold nna.cells at hc;simp only[List.mem_cons,List.not_mem_nil,or_false]at hc;rcases hc with rfl|rfl|rfl
 ·exact .lit _
 ·exact .df _
 ·exact .aD _
def eX (q:List Nat)(S w:Nat):List Nat:=q++(List.range w).filter fun i=>S.testBit i
def Sv (q:List Nat)(S w:Nat):(eX q S w).length<=q.length+w:=by
 unfold eX;rw[List.length_append];have:=Zp (fun i=>S.testBit i) (List.range w);rw[Ym]at this;omega
def Sw (q:List Nat)(h:S.testBit w=true):eX q S (w+1)=eX q S w++[w]:=by
 unfold eX;rw[Yj,Y6,List.append_assoc];congr 2;simp[h]
def El (q:List Nat)(h:S.testBit w=false):eX q S (w+1)=eX q S w:=by
 unfold eX;rw[Yj,Y6];simp[h]
theorem Em:∀ {l:List Int},(∀p∈l,0<=p)->av (l.map Int.toNat)=l
 | [],_=>rfl
 |a :: l,h=>by
  have ih:=Em (l:=l) fun p hp=>h p (X5 _ hp);have h0:=h a aaw;unfold av at ih ⊢;rw[List.map_cons,List.map_cons,ih];congr 1;exact ZQ h0
def Sx (hok:nnj d)(hf:nnm d)(hro:nnJ d r){s:Nat}(hu:u∈r)(hS:S<2 ^ d.F.length)(h12:∀k x,d.F[k]?=some x->gG r u k=true->x.J.length+((List.range d.F.length).filter fun v=>S.testBit v).length<=12)(H:nnl)(hs:H.get s=some (.O 0 157 (iz d r u)))(hsl:s<H.C)(K:nnf->nnl->Prop)(hK:K (.ret (cM (bX d r u S))) H):
  af prog G0 46 [.Y s 0 0,az S] H K:=by
 refine af.nb ⟨_,func46,rfl,rfl⟩ fun hcl=>?_;have n8:=hok.n.n1;have ls:=ag hs;unfold iz at ls;have hrl:((av r).length:Int)<2 ^ 62:=by
  have h2:(ay d).length<=d.F.length:=mb;have h3:=A5 _ _ _ _ (Sa hok hro);simp[av]at h3 ⊢;omega
 refine af.sw (n:=134) (rs:=[.cell 4 38]) func46 ?_;refine W.sq ?_;simp only[go_sem];have lx:∀L,(ext H L).na s 0=_:=fun L=>(cB hsl).trans ls;refine W.seq ?_;refine W.dr 12 [0,1,3,7,15,0,32,96,224,480,1023,0] mixed ?_;simp only[go_sem,lx];obtain⟨H1,hH1⟩:∃H1,H1=ext (ext H [.O 0 38 [.lit (.int .i64 0),.lit (.slice none 0 0),.lit (.int .u64 0),.lit (.slice none 0 0)]]) [.O 0 38 [.lit (.int .i64 d.nn),.lit (.slice none 0 0),.lit (.int .u64 (d.nl:Int)),.lit (.slice none 0 0)]]:=⟨_,rfl⟩
 have o1:nnd H H1:=by rw[hH1];exact(nnd.ext _ _).trans (.ext _ _)
 have n1:H1.C=H.C+2:=by rw[hH1];rfl
 have g4:H1.get H.C=some (.O 0 38 [.lit (.int .i64 0),.lit (.slice none 0 0),.lit (.int .u64 0),.lit (.slice none 0 0)]):=by rw[hH1,eT];exact cO H _ 0 (aaw)
 have g5:H1.get (H.C+1)=some (.O 0 38 [.lit (.int .i64 d.nn),.lit (.slice none 0 0),.lit (.int .u64 (d.nl:Int)),.lit (.slice none 0 0)]):=by rw[hH1,eT];exact cO H _ 1 (aaw)
 rw[<- hH1];clear hH1;refine⟨by repeat' (first|refine And.intro ?_ ?_|(intro x hx;omega)),?_⟩;have l5:=ag g5;have ls1:=ag ((o1.ng s hsl).trans hs);unfold iz at ls1;refine W.seq ?_;refine W.dr 8 [0,1,3,7,0,16,48,112] mixed ?_;simp only[go_sem,ls1];refine aC.nb (Ai (av r) u hrl _ _ ⟨trivial,?_⟩);simp only[go_sem];refine W.sq ?_;simp only[go_sem,ls1];refine W.en (fun E=>E 0=.Y s 0 0 /\ E 1=az S /\ E 4=.Y H.C 0 0 /\ E 5=.Y (H.C+1) 0 0 /\ E 6=aa (fA (av r) u) /\ E 39=.L d.F.length (aG d.F) /\ E 40=aa d.F.length /\ E 41=aa 0) (by simp only[go_sem]) fun E ⟨e0,e1,e4,e5,e6,e39,e40,e41⟩=>?_
 obtain⟨D',hD'⟩:∃D',D'=bX d r u S:=⟨_,rfl⟩
 have hlen:D'.F.length=d.F.length:=by rw[hD'];exact jU ..
 refine W.aM 1298074214633706907130425059056512 aay (fun ρ Hx=>∃(k:Nat) (nv:nnn),ρ 41=aa k/\k<=d.F.length/\H1.C<=Hx.C/\(∀i,i<H1.C->i≠H.C+1->Hx.get i=H1.get i) /\
  Hx.get (H.C+1)=some (.O 0 38 [.lit (.int .i64 d.nn),nv,.lit (.int .u64 (d.nl:Int)),.lit (.slice none 0 0)])/\bI H1.C Hx 76 3 nv k (aG (D'.F.take k))) (fun ρ _=>d.F.length-(iv (ρ 41)).toNat) ?_ ?_
 ·exact⟨0,_,e41,U,aaz,fun _ _ _=>rfl,g5,.nil⟩
 rintro ρ Hx ⟨k,nv,h41,hk,hnx,hold,hx5,hO⟩;refine W.en (fun E1=>E1 0=.Y s 0 0 /\ E1 1=az S /\ E1 4=.Y H.C 0 0 /\ E1 5=.Y (H.C+1) 0 0 /\ E1 6=aa (fA (av r) u) /\ E1 39=.L d.F.length (aG d.F) /\ E1 40=aa d.F.length /\ E1 41=aa k) (by simp only[go_sem,e0,e1,e4,e5,e6,e39,e40,h41]) fun E1 ⟨f0,f1,f4,f5,f6,f39,f40,f41⟩=>?_
 by_cases hb:(k:Int)<d.F.length;rotate_left
 ·obtain rfl:k=d.F.length:=U
  have hsx:Hx.get s=H.get s:=by rw[hold s U U,o1.ng s hsl]
  have lsx:=ag (hsx.trans hs);unfold iz at lsx;refine W.sq ?_;simp only[go_sem,f40,f41,hb];refine W.sq ?_;simp only[go_sem];refine W.seq ?_;refine W.sq ?_;simp only[go_sem,f0,lsx];refine W.en (fun E2=>E2 4=.Y H.C 0 0 /\ E2 5=.Y (H.C+1) 0 0 /\ E2 114=.L d.V.length (aH d.V) /\ E2 115=aa d.V.length /\ E2 116=aa 0) (by simp only[go_sem,f4,f5]) fun E2 ⟨h4,h5,h114,h115,h116⟩=>?_
  refine W.block ?_;refine W.aM 10888952664720294273585930949875315261440 aay (fun ρ Hy=>∃(j:Nat) (uv:nnn),ρ 116=aa j/\j<=d.V.length/\Hx.C<=Hy.C/\(∀i,i<Hx.C->i≠H.C+1->Hy.get i=Hx.get i) /\
   Hy.get (H.C+1)=some (.O 0 38 [.lit (.int .i64 d.nn),nv,.lit (.int .u64 (d.nl:Int)),uv])/\bI Hx.C Hy 87 2 uv j (aH (d.V.take j))) (fun ρ _=>d.V.length-(iv (ρ 116)).toNat) ?_ ?_
  ·exact⟨0,_,h116,U,aaz,fun _ _ _=>rfl,hx5,.nil⟩
  rintro ρ2 Hy ⟨j,uv,j116,hj,hny,oldy,gy,hU⟩;refine W.en (fun E3=>E3 4=.Y H.C 0 0 /\ E3 5=.Y (H.C+1) 0 0 /\ E3 114=.L d.V.length (aH d.V) /\ E3 115=aa d.V.length /\ E3 116=aa j) (by simp only[go_sem,h4,h5,h114,h115,j116]) fun E3 ⟨i4,i5,i114,i115,i116⟩=>?_
  have ly:=ag gy;by_cases hjb:(j:Int)<d.V.length;rotate_left
  ·obtain rfl:j=d.V.length:=U;have l4:=ag ((oldy H.C U U).trans ((hold H.C U U).trans g4));refine W.vs ?_;simp only[go_sem,i115,i116,hjb];refine W.vs ?_;simp only[go_sem,i4,i5,ly,l4];rw[Yl]at hU;rw[W9 U]at hO;refine⟨by rw[hO.one,hU.one];rfl,?_⟩;refine ar.bw (v':=cM (bX d r u S)) aO hcl ⟨by show H.C<=Hy.C;omega,fun i hi=>by rw[ae,W7 U];exact(oldy i U U).trans ((hold i U U).trans (o1.ng i hi))⟩ (.agg rfl fun i hi _=>?_) hK
   match i,hi with
   |0,_=>exact .lit _
   |1,_ =>
    show Fz _ _ _ nv (.L (bX d r u S).F.length (aG (bX d r u S).F));rw[<- hD',hlen];exact qK (hO.nf (H':=Hy.upd H.C _) hny fun id g h1 h2 _=>by rw[ae,W7 U];exact oldy id h2 U) (fun i h=>by show H.C<=i;omega) rfl fun j h h'=>Su D'.F _ (XA h)
   |2,_=>exact .lit _
   |3,_ =>
    show Fz _ _ _ uv (.L d.V.length (aH d.V));exact qK (hU.nf (H':=Hy.upd H.C _) aaz fun id g h1 h2 _=>by rw[ae,W7 U]) (fun i h=>by show H.C<=i;omega) rfl fun j h h'=>nk d.V _ (XA h)
  obtain⟨y,hy⟩:=get_of_lt (l:=d.V) (i:=j) U;have q1:=hf.V.2 y (an hy);have q0:=hf.V.1;have c0:=vV hy;have cne:=qR hy;have c3:j*2+2<=(aH d.V).length:=by rw[kV];omega
  have wj:=W6 ((j:Int)+1) U;refine W.sq ?_;simp only[go_sem,i115,i116,hjb];refine W.sq ?_;simp only[go_sem];refine W.seq (W.block ?_);refine W.sq ?_;simp only[go_sem,i114,i116,hjb,c0,cne,c3];refine W.dr 10 [0,1,0,4,12,0,32,124,252,508] mixed ?_;have htu:aH (d.V.take (j+1))=aH (d.V.take j)++[.L y.vars.length (ints y.vars),.L y.w.length (ints y.w)]:=by
   rw[aQ hy];unfold aH;rw[X2,Zx];rfl
  rcases hU with ⟨hv,hj0,hnil⟩|⟨iu,gu,z1,z2,hv,z4,z5⟩
  ·subst hv;have lye:∀L,(ext Hy L).na (H.C+1) 0=_:=fun L=>(cB U).trans ly;have lyn:∀c L,(ext (ext Hy [.O 0 87 c]) L).na Hy.C 0=some (87,c):=fun c L=>(cB (by show Hy.C<Hy.C+1;omega)).trans (ag (bY ..));have lyn0:∀c,(ext Hy [.O 0 87 c]).na Hy.C 0=some (87,c):=fun c=>ag (bY ..);simp only[go_sem,i5,lye,lyn0,cK];refine⟨ah y.vars,[],cz.pure fun Hz=>nu y.vars U Hz _ ⟨rfl,rfl⟩,?_⟩;simp only[go_sem];refine⟨ah y.w,[],cz.pure fun Hz=>nu y.w U Hz _ ⟨rfl,rfl⟩,?_⟩;have lye2:∀L M,(ext (ext Hy L) M).na (H.C+1) 0=_:=fun L M=>(cB (by rw[bu];omega)).trans (lye L);have lsrc:∀c c2,(ext (ext Hy [.O 0 87 c]) [.O 0 87 c2]).na (Hy.C+1) 0=some (87,c2):=fun c c2=>ag (bY ..);have llay:∀a b c,(ext (ext Hy [a]) [b]).lay (Hy.C+1+1) c=some (ext (ext Hy [a]) [b,c]):=fun a b c=>yC (ext Hy [a]) [b] c;simp only[go_sem,i5,lye2,lsrc,llay];refine⟨by repeat' (first|refine And.intro ?_ ?_|(intro x hx;omega)),?_⟩;refine W.vs ?_;simp only[go_sem,i116,wj];refine⟨by show Hx.C<=Hy.C+3;omega,⟨j+1,_,rfl,U,by show Hx.C<=Hy.C+3;omega,fun i h1 h2=>by rw[ae,W7 h2,cV _ _ i (by rw[bu];omega),cV Hy _ i U];exact oldy i h1 h2,by rw[ae,W8 rfl],?_⟩,by rw[j116];simp only[aa,aI];omega⟩;rw[htu,hnil,hj0];exact .inr ⟨Hy.C+1+1,0,U,by show Hy.C+1+1<Hy.C+3;omega,rfl,rfl,by rw[ae,W7 U];exact cO (ext Hy _) _ 1 aaw⟩
  ·subst hv;have lye:∀L,(ext Hy L).na (H.C+1) 0=_:=fun L=>(cB U).trans ly;have lyn0:∀c,(ext Hy [.O 0 87 c]).na Hy.C 0=some (87,c):=fun c=>ag (bY ..);simp only[go_sem,i5,lye,lyn0,cK];refine⟨ah y.vars,[],cz.pure fun Hz=>nu y.vars U Hz _ ⟨rfl,rfl⟩,?_⟩;simp only[go_sem];refine⟨ah y.w,[],cz.pure fun Hz=>nu y.w U Hz _ ⟨rfl,rfl⟩,?_⟩;have lye2:∀L M,(ext (ext Hy L) M).na (H.C+1) 0=_:=fun L M=>(cB (by rw[bu];omega)).trans (lye L);have lsrc:∀c c2,(ext (ext Hy [.O 0 87 c]) [.O 0 87 c2]).na (Hy.C+1) 0=some (87,c2):=fun c c2=>ag (bY ..);have zl:∀L M,(ext (ext Hy L) M).na iu gu=some (87,aH (d.V.take j)):=fun L M=>(cB (by rw[bu];omega)).trans ((cB z2).trans (ag z5));have lyu:∀L M b,((ext (ext Hy L) M).upd iu b).na (H.C+1) 0=_:=fun L M b=>(jA U).trans (lye2 L M);simp only[go_sem,i5,lsrc,zl,lyu,z4];refine⟨by repeat' (first|refine And.intro ?_ ?_|(intro x hx;omega)),U,?_⟩;refine W.vs ?_;simp only[go_sem,i116,wj];refine⟨by show Hx.C<=Hy.C+2;omega,⟨j+1,_,rfl,U,by show Hx.C<=Hy.C+2;omega,fun i h1 h2=>by rw[ae,W7 h2,ae,W7 U,cV _ _ i (by rw[bu];omega),cV Hy _ i U];exact oldy i h1 h2,by rw[ae,W8 rfl],?_⟩,by rw[j116];simp only[aa,aI];omega⟩;rw[htu];exact .inr ⟨iu,gu+1,z1,by show iu<Hy.C+2;omega,rfl,by rw[List.length_append,z4];simp;omega,by rw[ae,W7 U,ae,W8 rfl]⟩
 obtain⟨x,hx⟩:=get_of_lt (l:=d.F) (i:=k) U;have c0:=lZ hx;have cne:=eC hx;have c3:k*3+3<=(aG d.F).length:=by rw[fJ];omega
 have w1:=W6 ((k:Int)+1) U;refine W.sq ?_;simp only[go_sem,f40,f41,hb];refine W.sq ?_;simp only[go_sem];refine W.seq (W.block ?_);refine W.sq ?_;simp only[go_sem,f39,f41,hb,c0,cne,c3];obtain⟨H2,hH2⟩:∃H2,H2=ext Hx [.O 0 76 [.lit (.int .i64 x.Q),.L x.J.length (ints x.J),aD x.X]]:=⟨_,rfl⟩
 have n2:H2.C=Hx.C+1:=hH2▸rfl
 have o2:nnd Hx H2:=hH2▸.ext _ _
 have g8:=de hH2
 rw[<- hH2];clear hH2;have l8:=ag g8;refine W.seq ?_;refine Ev.W.xM 7 [0,1,0,4,12,31,0] mixed aay aay ?_;simp only[go_sem,l8,DN,DO,DP,DQ,QC,DR,QD];obtain⟨_,hpp,_,_⟩:=Vi hok hx;have pl6:x.J.length<=8:=by have:=hpp.len;omega
 have hx38:=hf.F.2 x (an hx);refine⟨_,_,_,_,Ss U,?_⟩;simp only[go_sem,DT,DS];refine⟨by repeat' (first|refine And.intro ?_ ?_|(intro x hx;omega)),by repeat' (first|refine And.intro ?_ ?_|(intro x hx;omega)),?_⟩;obtain⟨H3,hH3⟩:∃H3,H3=ext (ext H2 [.O (gC x.J) 3 (ints x.J)]) [.O 0 76 [.lit (.int .i64 x.Q),.Z H2.C (gC x.J) 0 x.J.length 1,.lit (.slice none 0 0)]]:=⟨_,rfl⟩
 have n3:H3.C=H2.C+2:=by rw[hH3];rfl
 have o3:nnd H2 H3:=by rw[hH3];exact(nnd.ext _ _).trans (.ext _ _)
 have gp:H3.get H2.C=some (.O (gC x.J) 3 (ints x.J)):=by rw[hH3,eT];exact cO H2 _ 0 (aaw)
 have gn:H3.get (H2.C+1)=some (.O 0 76 [.lit (.int .i64 x.Q),.Z H2.C (gC x.J) 0 x.J.length 1,.lit (.slice none 0 0)]):=by rw[hH3,eT];exact cO H2 _ 1 (aaw)
 rw[<- hH3];clear hH3;have l83:=ag ((o3.ng Hx.C U).trans g8);refine W.en (fun E2=>E2 0=.Y s 0 0 /\ E2 1=az S /\ E2 4=.Y H.C 0 0 /\ E2 5=.Y (H.C+1) 0 0 /\ E2 6=aa (fA (av r) u) /\ E2 7=aa k /\ E2 8=.Y Hx.C 0 0 /\ E2 9=.Y (H2.C+1) 0 0 /\ E2 39=.L d.F.length (aG d.F) /\ E2 40=aa d.F.length /\ E2 41=aa k) (by simp only[go_sem,f0,f1,f4,f5,f6,f39,f40,f41]) fun E2 ⟨h0,h1,h4,h5,h6',h7,h8,h9,h39,h40,h41'⟩=>?_
 rw[show aD x.X=.L x.X.length (x.X.map ah) from rfl]at l83;refine W.seq ?_;refine W.sq ?_;simp only[go_sem,h8,l83];refine W.env fun E3 hE3=>?_;have i0:E3 0=.Y s 0 0:=by rw[hE3];simp only[go_sem,h0]
 have i1:E3 1=az S:=by rw[hE3];simp only[go_sem,h1]
 have i4:E3 4=.Y H.C 0 0:=by rw[hE3];simp only[go_sem,h4]
 have i5:E3 5=.Y (H.C+1) 0 0:=by rw[hE3];simp only[go_sem,h5]
 have i6:E3 6=aa (fA (av r) u):=by rw[hE3];simp only[go_sem,h6']
 have i7:E3 7=aa k:=by rw[hE3];simp only[go_sem,h7]
 have i9:E3 9=.Y (H2.C+1) 0 0:=by rw[hE3];simp only[go_sem,h9]
 have i39:E3 39=.L d.F.length (aG d.F):=by rw[hE3];simp only[go_sem,h39]
 have i40:E3 40=aa d.F.length:=by rw[hE3];simp only[go_sem,h40]
 have i41:E3 41=aa k:=by rw[hE3];simp only[go_sem,h41']
 have i53:E3 53=.L x.X.length (x.X.map ah):=by rw[hE3];simp only[go_sem]
 have i54:E3 54=aa x.X.length:=by rw[hE3];simp only[go_sem]
 have i55:E3 55=aa 0:=by rw[hE3];simp only[go_sem]
 clear hE3;refine W.block ?_;refine W.aM 147537923792657451008 aay (fun ρ Hy=>∃(j:Nat) (rv:nnn),ρ 55=aa j/\j<=x.X.length/\H3.C<=Hy.C/\(∀i,i<H3.C->i≠H2.C+1->Hy.get i=H3.get i) /\
  Hy.get (H2.C+1)=some (.O 0 76 [.lit (.int .i64 x.Q),.Z H2.C (gC x.J) 0 x.J.length 1,rv])/\aB H3.C Hy 72 rv ((x.X.take j).map ah)) (fun ρ _=>x.X.length-(iv (ρ 55)).toNat) ?_ ?_
 ·exact⟨0,_,i55,U,aaz,fun _ _ _=>rfl,gn,.inl ⟨rfl,rfl⟩⟩
 rintro ρ2 Hy ⟨j,rv,j55,hj,hny,oldy,gy,hR⟩;refine W.en (fun E4=>E4 0=.Y s 0 0 /\ E4 1=az S /\ E4 4=.Y H.C 0 0 /\ E4 5=.Y (H.C+1) 0 0 /\ E4 6=aa (fA (av r) u) /\ E4 7=aa k /\ E4 9=.Y (H2.C+1) 0 0 /\ E4 39=.L d.F.length (aG d.F) /\ E4 40=aa d.F.length /\ E4 41=aa k /\ E4 53=.L x.X.length (x.X.map ah) /\ E4 54=aa x.X.length /\ E4 55=aa j) (by simp only[go_sem,i0,i1,i4,i5,i6,i7,i9,i39,i40,i41,i53,i54,j55]) fun E4 ⟨m0,m1,m4,m5,m6,m7,m9,m39,m40,m41,m53,m54,m55⟩=>?_
 by_cases hjb:(j:Int)<x.X.length
 ·obtain⟨row,hrow⟩:=get_of_lt (l:=x.X) (i:=j) U;have q1:=hx38.2.2 row (an hrow);have gr:(x.X.map ah)[j]?=some (ah row):=by rw[List.getElem?_map,hrow];rfl
  have grn:=aS gr;have wj:=W6 ((j:Int)+1) U;have ly:=ag gy;have rv1:=hR.one;have rvc:=hR.cells;refine W.sq ?_;simp only[go_sem,m54,m55,hjb];refine W.sq ?_;simp only[go_sem];refine W.seq (W.block ?_);refine W.sq ?_;simp only[go_sem,m53,m55,hjb,gr,grn];have rvne:∀i,i<H3.C->∀g n,rv≠.Z i g 0 n 1:=fun i hi g n hv=>by
   rcases hR with ⟨h,_⟩|⟨i2,g2,z1,_,h,_⟩
   ·rw[h]at hv;cases hv
   ·rw[h]at hv;have:=(nnn.Z.inj hv).1;omega
  refine W.dr 5 [0,1,0,4,12] mixed ?_;have ht1:(x.X.take (j+1)).map ah=(x.X.take j).map ah++[ah row]:=by rw[aQ hrow,X2];rfl
  have htl:((x.X.take j).map ah).length=j:=by rw[Xl,Xm];omega
  rcases hR with ⟨hv,hnil⟩|⟨iu,gu,z1,z2,hv,z4⟩
  ·subst hv;simp only[go_sem,m9,ly,cK];refine⟨ah row,[],cz.pure fun Hz=>nu row U Hz _ ⟨rfl,rfl⟩,?_⟩;have lye:∀L,(ext Hy L).na (H2.C+1) 0=_:=fun L=>(cB U).trans ly;simp only[go_sem,lye];refine⟨by repeat' (first|refine And.intro ?_ ?_|(intro x hx;omega)),?_⟩;refine W.vs ?_;simp only[go_sem,m55,wj];refine⟨by show H3.C<=Hy.C+2;omega,⟨j+1,_,rfl,U,by show H3.C<=Hy.C+2;omega,fun i h1 h2=>by rw[ae,W7 h2,cV Hy _ i U];exact oldy i h1 h2,by rw[ae,W8 rfl],?_⟩,by rw[j55];simp only[aa,aI];omega⟩;rw[ht1,hnil];exact .inr ⟨Hy.C+1,0,U,by show Hy.C+1<Hy.C+2;omega,rfl,by rw[ae,W7 U];exact cO Hy _ 1 aaw⟩
  ·subst hv;simp only[go_sem,m9,ly,cK];refine⟨ah row,[],cz.pure fun Hz=>nu row U Hz _ ⟨rfl,rfl⟩,?_⟩;have zl:∀L,(ext Hy L).na iu gu=some (72,(x.X.take j).map ah):=fun L=>(cB z2).trans (ag z4);have lye:∀L b,((ext Hy L).upd iu b).na (H2.C+1) 0=_:=fun L b=>(jA U).trans ((cB U).trans ly);have hby:(j+1)*24<=140737488355328:=U;simp only[go_sem,m9,lye,zl,htl,hby];refine⟨by repeat' (first|refine And.intro ?_ ?_|(intro x hx;omega)),U,?_⟩;refine W.vs ?_;simp only[go_sem,m55,wj];refine⟨by show H3.C<=Hy.C+1;omega,⟨j+1,_,rfl,U,by show H3.C<=Hy.C+1;omega,fun i h1 h2=>by rw[ae,W7 h2,ae,W7 U,cV Hy _ i U];exact oldy i h1 h2,by rw[ae,W8 rfl],?_⟩,by rw[j55];simp only[aa,aI];omega⟩;rw[ht1];exact .inr ⟨iu,gu+1,z1,by show iu<Hy.C+1;omega,by rw[List.length_append,htl];rfl,by rw[ae,W7 U,ae,W8 rfl];rfl⟩
 obtain rfl:j=x.X.length:=U
 refine W.vs ?_;simp only[go_sem,m54,m55,hjb];rw[Yl]at hR;have ly:=ag gy;have osy:Hy.get s=H.get s:=by rw[oldy s U U,o3.ng s U,o2.ng s U,hold s U U,o1.ng s hsl]
 have lsy:=ag (osy.trans hs);unfold iz at lsy;obtain⟨pp,hpp2⟩:∃pp,pp=(gW d.F.length r u S k x).J:=⟨_,rfl⟩
 refine W.dI (fun σ=>σ.ρ 5=.Y (H.C+1) 0 0/\σ.ρ 9=.Y (H2.C+1) 0 0/\σ.ρ 41=aa k/\∃(ip gp:Nat) (rv:nnn),Hy.C<=σ.H.C/\(∀i,i<H3.C->i≠H2.C->i≠H2.C+1->σ.H.get i=H3.get i)/\H2.C<=ip/\ip<σ.H.C/\ip≠H2.C+1 /\
   σ.H.get (H2.C+1)=some (.O 0 76 [.lit (.int .i64 x.Q),.Z ip gp 0 pp.length 1,rv])/\(∃q,σ.H.get ip=some (.O gp 3 (ints pp++q)))/\aB H3.C σ.H 72 rv (x.X.map ah)) ?_ ?_
 ·refine W.sq ?_;simp only[go_sem,m0,m7,lsy];refine aC.nb (Ai (av r) k hrl _ _ ⟨trivial,?_⟩);simp only[go_sem,m6];by_cases hlt:gG r u k=true;rotate_left
  ·have hge:¬fA (av r) k >= fA (av r) u:=fun h=>hlt ((Ek hu).1 h);refine W.cond (t:=false) (by simp only[go_sem,hge]) ?_;refine W.vs ?_;simp only[go_sem,m5,m9,m41];have epp:pp=x.J:=(by rw[hpp2];unfold gW;rw[W7 hlt]);rw[epp];exact⟨H2.C,gC x.J,rv,fun i h1 _ h3=>oldy i h1 h3,aaz,U,U,gy,⟨[],by rw[List.append_nil];exact(oldy _ U U).trans gp⟩,hR⟩
  have hge:fA (av r) k >= fA (av r) u:=(Ek hu).2 hlt;refine W.cond (t:=true) (by simp only[go_sem,hge]) ?_;obtain⟨q0,hq0⟩:∃q:List Nat,av q=x.J:=⟨_,Em fun p hp=>(hpp.2 p hp).1⟩
  have hq6:q0.length<=8:=by rw[<- hq0]at pl6;simpa[av] using pl6
  have hqm:∀a∈q0,a<d.F.length:=fun a ha=>by
   have:=(hpp.2 a (by rw[<- hq0];exact oI.2 ha)).2;omega
  have S64:S<2 ^ 64:=Xd hS (Xq aax U);have h3n:H3.C<=Hy.C:=hny;refine W.sq ?_;simp only[go_sem,m0,lsy];refine W.en (fun E5=>E5 1=az S /\ E5 5=.Y (H.C+1) 0 0 /\ E5 9=.Y (H2.C+1) 0 0 /\ E5 41=aa k /\ E5 80=aa d.F.length /\ E5 81=aa 0) (by simp only[go_sem,m1,m5,m9,m41]) fun E5 ⟨q1,q5,q9,q41,q80,q81⟩=>?_
  refine W.aM 79225744662625108335194542080 aay (fun ρ Hw=>∃w g:Nat,ρ 81=aa w/\w<=d.F.length/\Hy.C<=Hw.C/\(∀i,i<Hy.C->i≠H2.C->i≠H2.C+1->Hw.get i=Hy.get i) /\
   Hw.get (H2.C+1)=some (.O 0 76 [.lit (.int .i64 x.Q),.Z H2.C g 0 (eX q0 S w).length 1,rv])/\Hw.get H2.C=some (.O g 3 (bR (eX q0 S w)))) (fun ρ _=>d.F.length-(iv (ρ 81)).toNat) ?_ ?_
  ·have e0:eX q0 S 0=q0:=(by unfold eX;simp);have e1:x.J.length=q0.length:=(by rw[<- hq0];simp[av]);have e2:ints x.J=bR q0:=(by rw[vQ,hq0]);refine⟨0,gC x.J,q81,U,aaz,fun _ _ _ _=>rfl,by rw[e0,<- e1];exact gy,by rw[e0,<- e2];exact(oldy _ U U).trans gp⟩
  rintro ρ3 Hw ⟨w,g,w81,hw,hnw,oldw,gnw,gpw⟩;refine W.en (fun E6=>E6 1=az S /\ E6 5=.Y (H.C+1) 0 0 /\ E6 9=.Y (H2.C+1) 0 0 /\ E6 41=aa k /\ E6 80=aa d.F.length /\ E6 81=aa w) (by simp only[go_sem,q1,q5,q9,q41,q80,w81]) fun E6 ⟨r1,r5,r9,r41,r80,r81⟩=>?_
  have lnw:=ag gnw;have lpw:=ag gpw;have hll:=Sv q0 S w;by_cases hwb:(w:Int)<d.F.length
  ·have s1:=fun t x y=>lh (P:=prog) (t:=t) (x:=x) (y:=y) (k':=.i64) (s:=w) S64;have s2:=fun t x y=>pr (P:=prog) (t:=t) (x:=x) (y:=y) (s:=w) S64;have ww:=W6 ((w:Int)+1) U;refine W.sq ?_;simp only[go_sem,r80,r81,hwb];refine W.sq ?_;simp only[go_sem];refine W.seq (W.block ?_);refine W.sq ?_;simp only[go_sem,r81];cases hbit:S.testBit w with
   |false =>
    refine W.sq ?_;simp only[go_sem,r1,s1,s2,hbit];refine W.cond (t:=false) (by simp only[go_sem]) ?_;refine W.vs ?_;simp only[go_sem];refine W.vs ?_;simp only[go_sem,r81,ww];exact⟨U,⟨w+1,g,rfl,U,hnw,oldw,by rw[El _ hbit];exact gnw,by rw[El _ hbit];exact gpw⟩,by rw[w81];simp only[aa,aI];omega⟩
   |true =>
    refine W.sq ?_;simp only[go_sem,r1,s1,s2,hbit];refine W.cond (t:=true) (by simp only[go_sem]) ?_;have lne:∀L,(ext Hw L).na (H2.C+1) 0=_:=fun L=>(cB U).trans lnw;have lpe:∀L,(ext Hw L).na H2.C g=some (3,bR (eX q0 S w)):=fun L=>(cB U).trans lpw;have lsrc:∀c,(ext Hw [.O 0 3 c]).na Hw.C 0=some (3,c):=fun c=>ag (bY ..);have lnu:∀L b,((ext Hw L).upd H2.C b).na (H2.C+1) 0=_:=fun L b=>(jA U).trans (lne L);have ncl:=oH (eX q0 S w);have hby:((eX q0 S w).length+1)*8<=140737488355328:=U;refine W.vs ?_;simp only[go_sem,r9,lnw,lpe,lsrc,lnu,ncl,hby,cK];refine⟨U,?_⟩;refine W.vs ?_;simp only[go_sem,r81,ww];have en:=Sw q0 hbit;refine⟨by show Hy.C<=Hw.C+1;omega,⟨w+1,g+1,rfl,U,by show Hy.C<=Hw.C+1;omega,fun i h1 h2 h3=>by rw[ae,W7 h3,ae,W7 h2,cV Hw _ i U];exact oldw i h1 h2 h3,by rw[ae,W8 rfl,en,List.length_append];rfl,by rw[ae,W7 U,ae,W8 rfl,en];unfold bR;rw[X2];rfl⟩,by rw[w81];simp only[aa,aI];omega⟩
  obtain rfl:w=d.F.length:=U
  have lm64:∀a∈eX q0 S d.F.length,a<64:=fun a ha=>by
   rcases Xt.1 ha with h|h
   ·have:=hqm a h;omega
   ·have:=XJ.1 (YX.1 h).1;omega
  have lmem:∀q,q∈eX q0 S d.F.length↔(q:Int)∈x.J\/S.testBit q=true:=fun q=>by
   unfold eX;rw[Xt,YX,XJ,<- hq0,oI];refine⟨fun h=>h.elim .inl fun h=>.inr h.2,fun h=>h.elim .inl fun h=>.inr ⟨?_,h⟩⟩;exact Yu fun hle=>by
    have:=Yf (Xd hS (Xq aax hle));rw[this]at h;cases h
  refine W.vs ?_;simp only[go_sem,r80,r81,hwb];refine W.sq ?_;simp only[go_sem,r9,lnw];have h12':(eX q0 S d.F.length).length<=12:=by
   have:=h12 k x hx hlt;have hql:q0.length=x.J.length:=(by rw[<- hq0];simp[av]);unfold eX;rw[List.length_append,hql];exact this
  refine aC.nb (Sm h12' lm64 Hw gpw _ fun l' H' hH' hperm hsrt=>⟨trivial,?_⟩);have gpl:H'.get H2.C=some (.O g 3 (bR l')):=by rw[hH',ae,W8 rfl]
  have ol:∀i,i≠H2.C->H'.get i=Hw.get i:=fun i h=>by rw[hH',ae,W7 h]
  have nl:H'.C=Hw.C:=by rw[hH'];rfl
  have gnl:=(ol (H2.C+1) U).trans gnw;rw[<- hperm.length_eq]at gnl;clear hH';have lnl:=ag gnl;have hpl':=hperm.length_eq;simp only[go_sem];refine W.vs ?_;simp only[go_sem,r9,lnl];refine aC.nb (So hsrt U H' gpl U _ fun rr qq H6 hH6 hcomp=>⟨trivial,?_⟩);have ol6:∀i,i≠H2.C->H6.get i=H'.get i:=fun i h=>by rw[hH6,ae,W7 h]
  have gp6:H6.get H2.C=some (.O g 3 (bR (rr++qq))):=by rw[hH6,ae,W8 rfl]
  have n6:H6.C=H'.C:=by rw[hH6];rfl
  have ln6:=ag ((ol6 (H2.C+1) U).trans gnl);have hpp3:av rr=pp:=by
   rw[hpp2];unfold gW;rw[W8 hlt];exact Se hpp hS (fun q=>(hperm.mem_iff).trans (lmem q)) hcomp
  have hppl:pp.length=rr.length:=by rw[<- hpp3];simp[av]
  clear hH6;simp only[go_sem,r5,r9,r41,ln6];refine⟨H2.C,g,rv,by show Hy.C<=H6.C;omega,fun i h1 h2 h3=>by rw[ae,W7 h3,ol6 i h2,ol i h2,oldw i U h2 h3];exact oldy i h1 h3,aaz,by show H2.C<H6.C;omega,U,by rw[ae,W8 rfl,hppl],⟨bR qq,?_⟩,?_⟩
  ·rw[ae,W7 U,gp6,<- hpp3,<- vQ];unfold bR;rw[X2]
  ·exact hR.nf aaz (by show Hy.C<=H6.C;omega) fun id gg h1 h2 _ _=>by rw[ae,W7 U,ol6 id U,ol id U,oldw id h2 U U]
 rintro⟨ρ3,Hz⟩ ⟨p5,p9,p41,ip,gpp,rv3,nz,oldz,z1,z2,z3,gnz,⟨qz,gip⟩,hRz⟩;simp only at p5 p9 p41 nz oldz z2 gnz gip hRz;refine W.ya (cF.eL aO (n:=H2.C) (ob:=H2.C+1) (cells':=[.lit (.int .i64 x.Q),ah pp,aD x.X]) gnz rfl (fun _ i hi h'=>?_)) aaz trivial ?_
 ·match i,hi with
  |0,_=>exact .lit _
  |1,_ =>
   refine .nq ⟨z1,z3⟩ gip (by rw[aZ,Nat.mul_one]) fun j hj h2 h3=>?_;simp only[Nat.zero_add];rw[X3 (by rw[aZ];omega)];simp only[ints,Xi];exact .lit _
  |2,_ =>
   have:=hRz.fz (S:=fun id=>H2.C<=id/\id≠H2.C+1) (nx:=Hz.C) (cs':=x.X.map ah) (fun i h=>⟨U,U⟩) rfl fun j hj h2=>by simp only[Xi];exact .df _
   rw[Xl]at this;exact this
 obtain⟨Hm,hHm⟩:∃Hm,Hm=Hz.eL H2.C (H2.C+1) (.O 0 76 [.lit (.int .i64 x.Q),ah pp,aD x.X]):=⟨_,rfl⟩
 have nm:Hm.C=Hz.C:=by rw[hHm];rfl
 have gm:Hm.get (H2.C+1)=some (.O 0 76 [.lit (.int .i64 x.Q),ah pp,aD x.X]):=by rw[hHm];exact sK
 have oldm:∀i,i<Hx.C->Hm.get i=Hx.get i:=fun i h=>by rw[hHm,qI U U,oldz i U U U,o3.ng i U,o2.ng i h]
 rw[<- hHm];clear hHm;have lm:=ag gm;have l5m:=ag ((oldm _ U).trans hx5);have hy:=sV (r:=r) (u:=u) (S:=S) hx;have ht:aG (D'.F.take (k+1))=aG (D'.F.take k)++[.lit (.int .i64 x.Q),.L pp.length (ints pp),aD x.X]:=by
  obtain⟨c1,c2⟩:=sW d.F.length r u S k x;rw[hD',aQ hy];unfold aG;rw[X2,Zx];congr 1;show [aa _,ah _,aD _]++[]=_;rw[c1,c2,<- hpp2];rfl
 have w1':IntKind.i64.wrap ((k:Int)+1)=k+1:=w1;have lme:∀L,(ext Hm L).na (H.C+1) 0=_:=fun L=>(cB U).trans l5m;rcases hO with ⟨hv,hk0,hnil⟩|⟨iu,gu,y1,y2,hv,y4,y5⟩
 ·subst hv;refine W.vs ?_;simp only[go_sem,p5,p9,lm,l5m,lme,cK];refine W.vs ?_;simp only[go_sem,p41,w1'];refine⟨by show H1.C<=Hm.C+2;omega,⟨k+1,_,rfl,U,by show H1.C<=Hm.C+2;omega,fun i h1 h2=>by rw[ae,W7 h2,cV Hm _ i U,oldm i U];exact hold i h1 h2,by rw[ae,W8 rfl],?_⟩,by rw[h41];simp only[aa,aI];omega⟩;rw[ht,hnil,hk0];exact .inr ⟨Hm.C+1,0,U,by show Hm.C+1<Hm.C+2;omega,rfl,rfl,by rw[ae,W7 U];exact cO Hm _ 1 aaw⟩
 ·subst hv;have zl:∀L,(ext Hm L).na iu gu=some (76,aG (D'.F.take k)):=fun L=>(cB U).trans (ag ((oldm _ y2).trans y5));have lye:∀L b,((ext Hm L).upd iu b).na (H.C+1) 0=_:=fun L b=>(jA U).trans (lme L);refine W.vs ?_;simp only[go_sem,p5,p9,lm,l5m,zl,lye,y4,cK];refine⟨U,?_⟩;refine W.vs ?_;simp only[go_sem,p41,w1'];refine⟨by show H1.C<=Hm.C+1;omega,⟨k+1,_,rfl,U,by show H1.C<=Hm.C+1;omega,fun i h1 h2=>by rw[ae,W7 h2,ae,W7 U,cV Hm _ i U,oldm i U];exact hold i h1 h2,by rw[ae,W8 rfl],?_⟩,by rw[h41];simp only[aa,aI];omega⟩;rw[ht];exact .inr ⟨iu,gu+1,y1,by show iu<Hm.C+1;omega,rfl,by rw[List.length_append,y4];simp;omega,by rw[ae,W7 U,ae,W8 rfl]⟩
def jV (u S:Nat)(st:Bool × List Nat)(w:Nat):Bool × List Nat:=(st.1 ||decide (w=u),if (st.1 ||decide (w=u))=true then st.2.set w (st.2.getD w 0 |||S) else st.2)
def fT (u S:Nat)(r:List Nat)(l:List Nat):Bool × List Nat:=r.foldl (jV u S) (false,l)
def SE (u S:Nat)(st:Bool × List Nat)(w:Nat):(jV u S st w).2.length=st.2.length:=by
 unfold jV;dsimp only;split
 ·rw[Xb]
 ·rfl
def Ey (u S:Nat)(r l:List Nat):(fT u S r l).2.length=l.length:=by
 unfold fT;have:∀(r:List Nat) (st:Bool × List Nat),(r.foldl (jV u S) st).2.length=st.2.length:=fun r=>by
  induction r with
  |nil=>exact fun _=>rfl
  |cons w r ih=>exact fun st=>by rw[Ys,ih,SE]
 exact this r _
def Ao (l:List Nat)(h:¬b=a):(b :: l).idxOf a=l.idxOf a+1:=by
 rw[ZK];have:(b == a)=false:=by simpa using h
 rw[this];rfl
def SF :∀(r:List Nat),r.Nodup->∀(a:Bool) (l:List Nat) (v:Nat),v<l.length ->
  (r.foldl (jV u S) (a,l)).2.getD v 0=if v∈r/\(a=true\/r.idxOf u<=r.idxOf v) then l.getD v 0 |||S else l.getD v 0:=by
 intro r
 induction r with
 |nil=>intro _ a l v _;rw[W7 aaw];rfl
 |cons w r ih =>
  intro hd a l v hv;obtain⟨hw,hd⟩:=YW.1 hd;rw[Ys];obtain⟨a',ha'⟩:∃a',a'=(a ||decide (w=u)):=⟨_,rfl⟩
  have e:jV u S (a,l) w=(a',if a'=true then l.set w (l.getD w 0 |||S) else l):=by rw[ha'];rfl
  rw[e,ih hd a' _ v (by split;rw[Xb];exact hv;exact hv)];by_cases hvw:v=w
  ·subst hvw;rw[W7 fun h=>hw h.1];have e1:(v :: r).idxOf v=0:=aaw;rw[e1];cases hb:a' with
   |true =>
    have:a=true\/(v :: r).idxOf u<=0:=by
     rw[hb]at ha';rcases XU _ _ |>.mp ha'.symm with h|h
     ·exact .inl h
     ·right;obtain rfl:=of_decide_eq_true h;simp
    rw[W8 rfl,W8 ⟨aaw,this⟩,Xh,Xj hv];rfl
   |false =>
    have:¬(a=true\/(v :: r).idxOf u<=0):=by
     rw[hb]at ha';have h:=ZM.1 ha'.symm;have hne:¬v=u:=of_decide_eq_false h.2;rintro(h'|h')
     ·rw[h.1]at h';cases h'
     ·rw[Ao _ hne]at h';omega
    rw[W7 aax,W7 fun h=>this h.2]
  ·have e2:(if a'=true then l.set w (l.getD w 0 |||S) else l).getD v 0=l.getD v 0:=by
    split
    ·rw[Xh,Xs (fun e=>hvw e.symm),<- Xh]
    ·rfl
   rw[e2];have e3:(w :: r).idxOf v=r.idxOf v+1:=Ao _ fun e=>hvw e.symm;have e4:v∈w :: r↔v∈r:=(by simp[hvw]);simp only[e3,e4];by_cases hwu:w=u
   ·have e5:(w :: r).idxOf u=0:=(by rw[hwu];simp);have:a'=true:=(by rw[ha',Xy hwu,Bool.or_true]);simp only[e5,this];simp
   ·have e5:(w :: r).idxOf u=r.idxOf u+1:=Ao _ hwu;have:a'=a:=(by rw[ha',XL hwu,Bool.or_false]);simp only[e5,this];have e6:(r.idxOf u+1<=r.idxOf v+1)↔(r.idxOf u<=r.idxOf v):=U;simp only[e6]
def SG (hr:nnJ d r):r.Nodup:=by
 rw[aae,Yr];intro i j hi hj hij e;have h1:r[i]?=some r[i]:=W5 hi;have h2:r[j]?=some r[i]:=by rw[W5 hj,e]
 have:=hr.ro.new h2;have h3:(fI (r.take j)).testBit r[i]=true:=ld.2 (Xg.2 ⟨i,by rw[XC hij];exact h1⟩);rw[this]at h3;cases h3
def SH (hok:nnj d)(hr:nnJ d r)(u S:Nat){x:nna}(hx:d.F[v]?=some x):
  (if d.nl.testBit v=true then { x with J:=ct ((fT u S r (aq d.F)).2.getD v 0) d.F.length } else x)=gW d.F.length r u S v x:=by
 have hv:=get_lt hx;have hg:=SF (u:=u) (S:=S) r (SG hr) false (aq d.F) v (by rw[eW];exact hv);unfold fT gW;have hl:(v∈r/\(false=true\/r.idxOf u<=r.idxOf v))↔gG r u v=true:=by unfold gG;rw[X0];simp
 rw[hg,lV hx];by_cases hb:d.nl.testBit v=true
 ·rw[W8 hb];by_cases h:gG r u v=true
  ·rw[W8 h,W8 (hl.2 h)]
  ·rw[W7 h,W7 fun h'=>h (hl.1 h'),D7 (lW hok hx)]
 ·rw[W7 hb,W7 fun h=>hb ?_];have hm:v∈r:=(of_decide_eq_true h).1;exact(cL.1 (hr.mem v hm)).2
def dh (ps:List Nat)(b:Nat):Nat -> Nat
  |0 => b
  |v + 1 => if ps.getD v 0 &&& dh ps b v=0 then dh ps b v else dh ps b v |||2 ^ v
def cX (ps:List Nat)(b:Nat):Nat -> Nat
  |0 => b
  |k + 1 => dh ps (cX ps b k) ps.length
def Et (ps:List Nat)(b v:Nat):dh ps b (v + 1)=if ps.getD v 0 &&& dh ps b v=0 then dh ps b v else dh ps b v |||2 ^ v := rfl
theorem oJ (ps:List Nat)(b:Nat):∀v,Sub b (dh ps b v)
  |0 => .refl _
  |v + 1 => by
    unfold dh;split
    · exact oJ ps b v
    · exact(oJ ps b v).trans (.left _ _)
def Eu (ps:List Nat)(b:Nat){j:Nat}(h:j <= n):Sub (dh ps b j) (dh ps b n) := by
  induction n with
  | zero => obtain rfl : j = 0 := by omega
            exact .refl _
  |succ n ih =>
    rcases Nat.lt_or_eq_of_le h with h |rfl
    · refine(ih U).trans ?_;rw[Et];split
      · exact .refl _
      · exact .left _ _
    · exact .refl _
theorem vR (hb:b < 2 ^ n):∀v,v <= n -> dh ps b v < 2 ^ n
  |0,_ => hb
  |v + 1,h => by
    unfold dh;split
    · exact vR hb v (U)
    · exact XV (vR hb v U) (XG aax U)
theorem An (hb:b < 2 ^ ps.length):∀k,cX ps b k < 2 ^ ps.length
  |0 => hb
  |k + 1 => vR (An hb k) _ (Nat.le_refl _)
theorem Ew (ps:List Nat)(b:Nat):∀k,Sub b (cX ps b k)
  |0 => .refl _
  |k + 1 => (Ew ps b k).trans (oJ _ _ _)
def Ex :¬a &&& b=0 ↔ ∃i,a.testBit i=true /\ b.testBit i=true := by
  constructor
  · intro h;refine Xw fun hno => h (X4 fun i => ?_);rw[XE,XX];cases ha:a.testBit i with
    |false => rfl
    |true =>
      cases hb:b.testBit i with
      |false => rfl
      |true => exact absurd ⟨i,ha,hb⟩ hno
  · rintro⟨i,ha,hb⟩ h;have := congrArg (fun x => x.testBit i) h;simp only[XE,ha,hb,XX]at this;cases this
def SA (h:dh ps b n=b):∀v,v < n -> ¬ps.getD v 0 &&& b=0 -> b.testBit v=true := fun v hv hne => by
  have e:dh ps b v=b := Sub.antisymm (fun i hi => by have := Eu ps b (ZA hv) i hi;rwa [h]at this) (oJ ps b v);have e2:dh ps b (v + 1)=b := Sub.antisymm (fun i hi => by have := Eu ps b (show v + 1 <= n by omega) i hi;rwa [h]at this) (oJ ps b (v + 1));unfold dh at e2;rw[e,W7 hne]at e2;rw[<- e2,XB,Yg,Bool.or_true]
def SB (hu:u < ps.length):dh ps (cX ps (2 ^ u) ps.length) ps.length=cX ps (2 ^ u) ps.length := by
  have hb:2 ^ u < 2 ^ ps.length := XG aax hu;have key:∀k,dh ps (cX ps (2 ^ u) k) ps.length=cX ps (2 ^ u) k \/ k + 1 <= cT ps.length (cX ps (2 ^ u) k) := by
    intro k
    induction k with
    |zero =>
      right;have:cT ps.length 0 < cT ps.length (cX ps (2 ^ u) 0) := oO (fun i hi => by rw[XX]at hi;cases hi) hu (XX u) (Yg ..);omega
    |succ k ih =>
      by_cases hs:dh ps (cX ps (2 ^ u) k) ps.length=cX ps (2 ^ u) k
      · left;show dh ps (dh ps (cX ps (2 ^ u) k) ps.length) ps.length=dh ps (cX ps (2 ^ u) k) ps.length;rw[hs,hs]
      · right;have h1 := ih.resolve_left hs;have h2 : ∃ i, (dh ps (cX ps (2 ^ u) k) ps.length).testBit i = true ∧ (cX ps (2 ^ u) k).testBit i = false := by
          refine Xw fun hno => hs (Sub.antisymm (fun i hi => ?_) (oJ ps _ _));rcases Yc ((cX ps (2 ^ u) k).testBit i) with e |e
          · exact e
          · exact absurd ⟨i,hi,e⟩ hno
        obtain⟨i,h3,h4⟩ := h2;have h5 := oO (n := ps.length) (oJ ps _ ps.length) (ma (An hb (k + 1)) h3) h4 h3;show k + 1 + 1 <= cT ps.length (dh ps (cX ps (2 ^ u) k) ps.length);omega
  rcases key ps.length with h |h
  · exact h
  · have := Av ps.length (cX ps (2 ^ u) ps.length);omega
def SC (hok:nnj d)(hu:u < d.F.length){i:Nat}(hi:i < d.F.length):
    (cX (aq d.F) (2 ^ u) (aq d.F).length).testBit i=true ↔ i=u \/ (bT (aq d.F) ((aq d.F).getD i 0)).testBit u=true := by
  have hsl := eW d.F;constructor
  · -- what is found is behind it
    have inv:∀(b:Nat),(∀i,b.testBit i=true -> i < d.F.length -> i=u \/ (bT (aq d.F) ((aq d.F).getD i 0)).testBit u=true) -> ∀v,v <= d.F.length -> ∀i,(dh (aq d.F) b v).testBit i=true -> i < d.F.length -> i=u \/ (bT (aq d.F) ((aq d.F).getD i 0)).testBit u=true := by
      intro b hb v
      induction v with
      |zero => exact fun _ i h hi => hb i h hi
      |succ v ih =>
        intro hv i h hi;unfold dh at h;split at h
        · exact ih U i h hi
        · rename_i hne;rw[XB]at h;rcases XU _ _ |>.mp h with h |h
          · exact ih U i h hi
          · obtain rfl : v = i := by
              rw[Yv]at h;exact of_decide_eq_true h
            right;obtain⟨a,ha,hab⟩ := Ex.1 hne;have hal := vO hok hi ha;rcases ih U a hab hal with rfl |h'
            · exact oG ha
            · exact vM hok hi hal (oG ha) u h'
    have all:∀k i,(cX (aq d.F) (2 ^ u) k).testBit i=true -> i < d.F.length -> i=u \/ (bT (aq d.F) ((aq d.F).getD i 0)).testBit u=true := by
      intro k
      induction k with
      |zero =>
        intro i h _;left;have h':(2 ^ u).testBit i=true := h;rw[Yv]at h';exact(of_decide_eq_true h').symm
      |succ k ih => exact fun i h hi => inv _ ih _ (by rw[hsl];exact Nat.le_refl _) i h hi
    exact fun h => all _ i h hi
  · intro h;have hfx := SA (SB (ps := aq d.F) (u := u) (by rw[hsl];exact hu));have hub:(cX (aq d.F) (2 ^ u) (aq d.F).length).testBit u=true := Ew _ _ _ u (Yg ..);generalize cX (aq d.F) (2 ^ u) (aq d.F).length=b at hfx hub;rcases h with rfl |h
    · exact hub
    · refine Xw fun hib => ?_
      -- what is outside is closed
      have out:∀v,v < d.F.length -> ¬b.testBit v=true -> Sub ((aq d.F).getD v 0) ((2 ^ d.F.length-1) &&& (2 ^ d.F.length-1 ^^^ b)) := fun v hv hvb a ha => by
        have hal := vO hok hv ha;have hab:b.testBit a=false := by
          cases hc:b.testBit a with
          |false => rfl
          |true => exact absurd (hfx v (by rw[hsl];exact hv) (Ex.2 ⟨a,ha,hc⟩)) hvb
        rw[XE,Z9,XT,Xy hal,hab];rfl
      have hcl:jZ (aq d.F) ((2 ^ d.F.length-1) &&& (2 ^ d.F.length-1 ^^^ b)) := fun v hv hvt => by
        rw[hsl]at hv;refine out v hv fun hvb => ?_;rw[XE,Z9,XT,Xy hv,hvb]at hvt;cases hvt
      have := ng hcl (aq d.F).length (out i hi hib) u h;rw[XE,Z9,XT,Xy hu,hub]at this;cases this
def SD (hok:nnj d)(hu:u ∈ ay d):cN (cN (2 ^ d.F.length-1) (cX (aq d.F) (2 ^ u) (aq d.F).length)) d.nl=ew d u := X4 fun i => by
  have n8 := hok.n.n1;obtain⟨u1,u2⟩ := cL.1 hu;have h1:2 ^ d.F.length-1 < 2 ^ 64 := by
    have := Xq (n := 2) aax (show d.F.length <= 64 by omega);have := Yy d.F.length;omega
  rw[pj (xa _ _),pj h1,Yt,qM,XT];rcases Xu i d.F.length with hi |hi
  · rw[Xy hi];have hb := SC hok u1 hi;cases h2:d.nl.testBit i with
    |true => simp
    |false =>
      have hne:i ≠ u := fun e => by subst e;rw[u2]at h2;cases h2
      cases h3:(cX (aq d.F) (2 ^ u) (aq d.F).length).testBit i with
      |true =>
        have h4 := (hb.1 h3).resolve_left hne;constructor
        · intro h;cases h
        · rintro⟨_,_,h5⟩;rw[h4]at h5;cases h5
      |false =>
        cases h4:(bT (aq d.F) ((aq d.F).getD i 0)).testBit u with
        |true => have := hb.2 (.inr h4);rw[h3]at this;cases this
        |false => exact⟨fun _ => ⟨hi,rfl,rfl⟩,fun _ => rfl⟩
  · rw[XL U];simp;omega
def qQ (h:dX d=some r):nnJ d r:=⟨(Ad h).1,(Ad h).1.QA (Ad h).2⟩
def SI (hok:nnj d)(hr:nnJ d r):v∈r↔v∈ay d:=by
 refine⟨hr.mem v,fun h=>?_⟩;rw[<- ld,hr.all];exact(cL.1 h).2
noncomputable def dy (d:nnb)(v:Int):Int:=if jr (nnj d) then (if (dX d).isSome then (if v∈av (ay d) then 0 else 2) else 210) else 200
noncomputable def lX (d:nnb)(v:Int):Nat:=if dy d v=0 then ew d v.toNat else 0
def Ap {S:Nat->Prop}(d:nnb):Fz S H nx (cM d) (cM d):=by
 refine .agg rfl fun i hi _=>?_
 match i,hi with
 |0,_=>exact .lit _
 |1,_=>exact A4 _
 |2,_=>exact .lit _
 |3,_=>exact .L rfl fun j h h'=>nk d.V _ (XA h)
def Ez (hf:nnm d):∀x∈d.F,(x.J.length:Int)<2 ^ 62:=fun x hx=>by
 have:=(hf.F.2 x hx).1;omega
def na (d:nnb)(v:Int):(dJ d=4->dy d v=210)/\(dJ d≠4->dJ d≠0->dy d v=dJ d)/\(dJ d=0->nnj d/\∃r,dX d=some r/\gF d=r):=by
 by_cases hok:nnj d
 ·cases h:dX d with
  |none =>
   have e:dJ d=4:=(by unfold dJ;rw[eO hok,h];rfl);exact⟨fun _=>by unfold dy;rw[eO hok,h];rfl,fun h0 _=>absurd e h0,fun h0=>by rw[e]at h0;cases h0⟩
  |some r =>
   have e:dJ d=0:=(by unfold dJ;rw[eO hok,h];rfl);exact⟨fun h0=>(by rw[e]at h0;cases h0),fun _ h0=>absurd e h0,fun _=>⟨hok,r,rfl,by unfold gF;rw[W8 e,h];rfl⟩⟩
 ·have e:dJ d=200:=by unfold dJ;rw[fX hok];rfl
  exact⟨fun h0=>(by rw[e]at h0;cases h0),fun _ _=>by rw[e];unfold dy;rw[fX hok];rfl,fun h0=>by rw[e]at h0;cases h0⟩
def s7 (hok:nnj d)(h:dX d=some r)(v:Int):dy d v=if v∈av r then 0 else 2:=by
 unfold dy;rw[eO hok,h,W8 rfl];simp only[Option.isSome_some,if_true];have:v∈av r↔v∈av (ay d):=by
  unfold av;simp only[Xx,SI hok (qQ h)]
 simp only[this]
def EA (hu:u<n){p:Nat->Bool}(hp:p u=false):((List.range n).filter p).length+1<=n:=by
 have h1:((List.range n).filter p).length<=((List.range n).erase u).length:=DK (Zr.filter _) fun x hx=>by
  obtain⟨h2,h3⟩:=YX.1 hx;exact(aar (fun e=>by subst e;rw[hp]at h3;cases h3)).2 h2
 rw[aah (XJ.2 hu),Ym]at h1;omega
def SJ (hok:nnj d)(h7:d.F.length<=7)(hro:nnJ d r)(hu:u∈r)(hS:Sub S (ew d u)):∀k x,d.F[k]?=some x->gG r u k=true->x.J.length+((List.range d.F.length).filter fun v=>S.testBit v).length<=12:=fun k x hx _=>by
 have hul:=cL.1 (hro.mem u hu);have h1:=EA (p:=fun v=>S.testBit v) hul.1 (by
  cases h:S.testBit u with
  |false=>rfl
  |true =>
   have:=(qM.1 (hS u h)).2.1;rw[hul.2]at this;cases this)
 have hk:=get_lt hx;have hpp:=lW hok hx;have hbits:=D7 hpp;have h2:=EA (p:=fun v=>(bc x.J).testBit v) hk (by
  cases h:(bc x.J).testBit k with
  |false=>rfl
  |true =>
   have ha:=Eb hok k (by rw[eW];exact hk);rw[lV hx]at ha;have:=oL (aq d.F) (aq d.F).length (bc x.J) k h;unfold bT at ha;rw[ha]at this;cases this)
 have h3:x.J.length=((List.range d.F.length).filter fun v=>(bc x.J).testBit v).length:=by
  conv=>lhs;rw[<- hbits]
  unfold ct;rw[Xl]
 omega
def SK (d:nnb)(hf:nnm d)(v:Int)(H:nnl)(K:nnf->nnl->Prop)(hK:K (.ret (.nc [az (lX d v),aa (dy d v)])) H):
  af prog G0 13 [cM d,aa v] H K:=by
 refine af.nb ⟨_,func13,rfl,rfl⟩ fun hcl=>?_;refine af.sw (n:=19) (rs:=[.tmp 4,.tmp 5]) func13 ?_;refine W.sq ?_;simp only[go_sem,hJ,dm];obtain⟨H1,hH1⟩:∃H1,H1=ext H [.O 0 38 [.lit (.int .i64 d.nn),.L d.F.length (aG d.F),.lit (.int .u64 (d.nl:Int)),.L d.V.length (aH d.V)]]:=⟨_,rfl⟩
 have g1:=de hH1
 have o1:nnd H H1:=hH1▸.ext _ _
 rw[<- hH1];clear hH1;have l1:=ag g1;refine W.sq ?_;simp only[go_sem,l1];have bad:∀e:Int,dy d v=e->¬e=0->ar prog G0 H K (.nc [.lit (.int .u64 0),.lit (.int .i64 e)]) H1:=fun e he h0=>by
  have ev:lX d v=0:=by unfold lX;rw[he,W7 h0]
  rw[ev,he]at hK;exact ar.bw (v':=.nc [az 0,aa e]) aO hcl o1 (.nc rfl fun i hi _=>match i,hi with|0,_=>.lit _|1,_=>.lit _) hK
 refine aC.nb (Ej d hf v H1 _ (fun h=>⟨trivial,?_⟩) (fun h1 h2=>⟨trivial,?_⟩) (fun h hm=>⟨trivial,?_⟩) fun r u H2 h0 hr huv hm hH2=>⟨trivial,?_⟩)
 ·have e:=(na d v).1 h;simp only[go_sem];refine W.vs ?_;simp only[go_sem];exact bad _ e (aax)
 ·have e:=(na d v).2.1 h1 h2;simp only[go_sem];refine W.vs ?_;simp only[go_sem,h2];exact bad _ e h2
 ·obtain⟨hok,r,h3,h4⟩:=(na d v).2.2 h;have e:dy d v=2:=by rw[s7 hok h3 v,W7 (by rw[<- h4];exact hm)]
  simp only[go_sem];refine W.vs ?_;simp only[go_sem];exact bad _ e (aax)
 obtain⟨hok,r',h3,h4⟩:=(na d v).2.2 h0;obtain rfl:r=r':=hr.symm.trans h4;have hro:=qQ h3;have e:dy d v=0:=by rw[s7 hok h3 v,W8 (by rw[huv];exact oI.2 hm)]
 have hul:u<d.F.length:=(cL.1 (hro.mem u hm)).1;have ev:lX d v=ew d u:=by unfold lX;rw[e,W8 rfl,huv,Int.toNat_natCast]
 rw[ev,e]at hK;have o2:nnd H1 H2:=by rw[hH2];exact .ext _ _
 have gs:H2.get (H1.C+1)=some (.O 0 157 (iz d r u)):=by rw[hH2];exact cO H1 _ 1 (aaw)
 have n2:H2.C=H1.C+2:=by rw[hH2];rfl
 simp only[go_sem];refine W.sq ?_;simp only[go_sem];refine W.vs ?_;simp only[go_sem];refine aC.nb (Eh hok (Ez hf) hul H2 gs U _ ⟨trivial,?_⟩);simp only[go_sem];refine ar.bw (v':=.nc [az (ew d u),aa 0]) aO hcl (o1.trans o2) (.nc rfl fun i hi _=>match i,hi with|0,_=>.lit _|1,_=>.lit _) hK
def SL (d:nnb)(hf:nnm d)(h7:d.F.length<=7)(v:Int)(S:Nat)(S64:S<2 ^ 64)(H:nnl)(K:nnf->nnl->Prop)
  (hE:∀e,dy d v=e->¬e=0->K (.ret (.nc [cM ⟨0,[],0,[]⟩,aa e])) H) (hA:dy d v=0->¬cN S (ew d v.toNat)=0->K (.ret (.nc [cM ⟨0,[],0,[]⟩,aa 2])) H)
  (hK:∀(r:List Nat) (u:Nat),dy d v=0->v=u->nnj d->dX d=some r->u∈r->Sub S (ew d u)->K (.ret (.nc [cM (bX d r u S),aa 0])) H):
  af prog G0 16 [cM d,aa v,az S] H K:=by
 refine af.nb ⟨_,func16,rfl,rfl⟩ fun hcl=>?_;refine af.sw (n:=29) (rs:=[.cell 6 38,.tmp 7]) func16 ?_;refine W.sq ?_;simp only[go_sem,hJ,dm];obtain⟨H1,hH1⟩:∃H1,H1=ext H [.O 0 38 [.lit (.int .i64 d.nn),.L d.F.length (aG d.F),.lit (.int .u64 (d.nl:Int)),.L d.V.length (aH d.V)],.O 0 38 [.lit (.int .i64 0),.lit (.slice none 0 0),.lit (.int .u64 0),.lit (.slice none 0 0)]]:=⟨_,rfl⟩
 have g1:=de hH1
 have g2:=gE hH1 1 rfl
 have n1:H1.C=H.C+2:=hH1▸rfl
 have o1:nnd H H1:=hH1▸.ext _ _
 rw[<- hH1];clear hH1;have l1:=ag g1;refine W.sq ?_;simp only[go_sem,l1];have l20:=ag g2;have bad:∀(e:Int) (Hx:nnl),nnd H Hx->K (.ret (.nc [cM ⟨0,[],0,[]⟩,aa e])) H->ar prog G0 H K (.nc [.agg [.lit (.int .i64 0),.lit (.slice none 0 0),.lit (.int .u64 0),.lit (.slice none 0 0)],.lit (.int .i64 e)]) Hx:=fun e Hx ov hk =>
  ar.bw (v':=.nc [cM ⟨0,[],0,[]⟩,aa e]) aO hcl ov (.nc rfl fun i hi _=>match i,hi with
   |0,_=>.agg rfl fun i hi _=>match i,hi with
    |0,_=>.lit _
    |1,_=>.nil
    |2,_=>.lit _
    |3,_=>.nil
   |1,_=>.lit _) hk
 refine aC.nb (Ej d hf v H1 _ (fun h=>⟨trivial,?_⟩) (fun h1 h2=>⟨trivial,?_⟩) (fun h hm=>⟨trivial,?_⟩) fun r u H2 h0 hr huv hm hH2=>⟨trivial,?_⟩)
 ·have e:=(na d v).1 h;simp only[go_sem];refine W.vs ?_;simp only[go_sem,l20];exact bad _ _ (nnd.upd (id:=H.C+1) o1 (Yb _) _) (hE _ e aax)
 ·have e:=(na d v).2.1 h1 h2;simp only[go_sem];refine W.vs ?_;simp only[go_sem,h2,l20];exact bad _ _ (nnd.upd (id:=H.C+1) o1 (Yb _) _) (hE _ e h2)
 ·obtain⟨hok,r,h3,h4⟩:=(na d v).2.2 h;have e:dy d v=2:=by rw[s7 hok h3 v,W7 (by rw[<- h4];exact hm)]
  simp only[go_sem];refine W.vs ?_;simp only[go_sem,l20];exact bad _ _ (nnd.upd (id:=H.C+1) o1 (Yb _) _) (hE _ e aax)
 obtain⟨hok,r',h3,h4⟩:=(na d v).2.2 h0;obtain rfl:r=r':=hr.symm.trans h4;have hro:=qQ h3;have e:dy d v=0:=by rw[s7 hok h3 v,W8 (by rw[huv];exact oI.2 hm)]
 have hul:u<d.F.length:=(cL.1 (hro.mem u hm)).1;have o2:nnd H1 H2:=by rw[hH2];exact .ext _ _
 have gs:H2.get (H1.C+1)=some (.O 0 157 (iz d r u)):=by rw[hH2];exact cO H1 _ 1 (aaw)
 have n2:H2.C=H1.C+2:=by rw[hH2];rfl
 have l2:=ag ((o2.ng (H.C+1) U).trans g2);clear hH2;simp only[go_sem];refine W.sq ?_;simp only[go_sem];refine W.sq ?_;simp only[go_sem];refine aC.nb (Eh hok (Ez hf) hul H2 gs U _ ⟨trivial,?_⟩);have s2:=fun t x y=>jz (P:=prog) (t:=t) (x:=x) (y:=y) (a:=S) (b:=ew d u);unfold az;by_cases hz:cN S (ew d u)=0;rotate_left
 ·have hzi:¬((cN S (ew d u):Nat):Int)=0:=U
  simp only[go_sem,s2,hzi,l2];exact bad _ _ (nnd.upd (id:=H.C+1) (o1.trans o2) (Yb _) _) (hA e (by rw[huv,Int.toNat_natCast];exact hz))
 have hS:Sub S (ew d u):=(qT S64).1 hz;have hSl:=Ah hS;rw[hz]at s2;simp only[go_sem,s2];refine W.vs ?_;simp only[go_sem];refine aC.nb (Sx hok hf hro hm hSl (SJ hok h7 hro hm hS) H2 gs U _ ⟨trivial,?_⟩);simp only[go_sem,hJ,dm,l2];refine ar.bw (v':=.nc [cM (bX d r u S),aa 0]) aO hcl (nnd.upd (id:=H.C+1) (o1.trans o2) (Yb _) _) (.nc rfl fun i hi _=>match i,hi with|0,_=>Ap _|1,_=>.lit _) (hK r u e huv hok h3 hm hS)
def g9.mono {H':nnl}(h:g9 id d cs H)(hn:H.C<=H'.C)(ho:∀i,i<H.C->H'.get i=H.get i):g9 id d cs H' :=
 ⟨h.1,h.2.imp (fun x=>x) fun ⟨h3,h4,h5⟩=>⟨h3,U,(ho _ h4).trans h5⟩⟩
def g9.F5 (h:g9 id d cs H){f:FuncId}{K:nnf->nnl->Prop}{rest:List nnn}(hr:∀a∈rest,∀(S:Nat->Prop) (H:nnl) (nx:Nat),Fz S H nx a a)(hc:af prog G0 f (cM d :: rest) H K):af prog G0 f (bH d cs :: rest) H K:=by
 have wk:∀ {e:Nat->Prop} {cs':List nnn},nnh e d.F cs'->af prog G0 f (bH d cs' :: rest) H K:=fun {e cs'} hq=>af.pt aO (args':=cM d :: rest) rfl (fun i hi _=>match i,hi with|0,_=>AM hq|i+1,hi=>hr _ (XA (l:=rest) (by simpa using hi)) _ _ _) hc;obtain⟨_,h|⟨⟨A,xh,h⟩,_,hg⟩⟩:=h
 ·exact wk h
 ·obtain⟨cs',h1,h2,h3⟩:=td h hg;exact af.emp (args':=bH d cs' :: rest) rfl (fun i hi _=>match i,hi with|0,_=>te h2 h3 0 aaw aaw|i+1,hi=>.same _) (wk h1)
def HolY.fz {A:Nat}{xh:nna}(h:HolY id d cs A xh)(hlt:id<H.C):∀i (_:i<[bH d cs].length) (_:i<[bH d cs].length),Fz (fun j=>j≠id) H H.C [bH d cs][i] [bH d cs][i]:=fun i hi _=>by
 match i,hi with
 |0,_ =>
  refine .agg rfl fun j hj _=>?_
  match j,hj with
  |0,_=>exact .lit _
  |1,_ =>
   rw[h.cs];refine .L rfl fun k h1 h2=>oA (.df _) (.Z hlt fun h=>h rfl) k h1 h2
  |2,_=>exact .lit _
  |3,_=>exact .L rfl fun j h h'=>nk d.V _ (XA h)
theorem nnh.set {e:Nat->Prop}{ns:List nna}(h:nnh e ns cs){y:nna}{rv:nnn}(hv:v<ns.length)(hr:rv=aD y.X\/rv=aR y)(he:e v->rv=aR y):nnh e (ns.set v y) (setAt cs (v*3) [aa y.Q,ah y.J,rv]):=by
 have hl:=h.len;have hlen:(setAt cs (v*3) [aa y.Q,ah y.J,rv]).length=cs.length:=by unfold setAt;simp;omega
 refine⟨by rw[hlen,Xb];exact hl,fun w x hx=>?_⟩;have get:∀i,(setAt cs (v*3) [aa y.Q,ah y.J,rv])[i]?=if i<v*3 then cs[i]? else if i<v*3+3 then [aa y.Q,ah y.J,rv][i-v*3]? else cs[i]?:=fun i=>by
  unfold setAt;by_cases h1:i<v*3
  ·rw[W8 h1,List.append_assoc,Xe (by rw[Xm];omega),XC h1]
  ·rw[W7 h1,List.append_assoc,Xp (by rw[Xm];omega),Xm,Zi U];by_cases h2:i<v*3+3
   ·rw[W8 h2,Xe (by simp;omega)]
   ·rw[W7 h2,Xp (by simp;omega),YS];simp only[List.length_cons,List.length_nil];congr 1;omega
 by_cases hw:w=v
 ·subst hw;rw[Xj hv]at hx;cases hx;refine⟨rv,?_,?_,?_,hr,he⟩
  ·rw[get,W7 U,W8 U,Y7];rfl
  ·rw[get,W7 U,W8 U,show w*3+1-w*3=1 by omega];rfl
  ·rw[get,W7 U,W8 U,show w*3+2-w*3=2 by omega];rfl
 ·rw[Xs (fun h=>hw h.symm)]at hx;obtain⟨r,a,b,c,d⟩:=h.node w x hx;have:w<v\/v<w:=U
  refine⟨r,?_,?_,?_,d⟩
  ·rw[get];split<;>first|exact a|(rw[W7 U];exact a)
  ·rw[get];split<;>first|exact b|(rw[W7 U];exact b)
  ·rw[get];split<;>first|exact c|(rw[W7 U];exact c)
end Go.Proofs
namespace Go.Hx
open Go.Proofs (get_lt get_of_lt)
variable {P:Program} {H:nnl} {G:Nat->Option (List nnn)}
variable {X:List (List nnn)}{r:List nnn}{e0 e1:TypeId}{v:nnn}
def km (lo:Nat)(H:nnl)(e1 e0:TypeId)(v:nnn)(X:List (List nnn)):Prop :=
 ∃cs:List nnn,aB lo H e1 v cs/\cs.length=X.length/\(∀(j:Nat) (r:List nnn) (c:nnn),X[j]?=some r->cs[j]?=some c->aB lo H e0 c r)/\∀(i j a g g' n n':Nat),cs[i]?=some (.Z a g 0 n 1)->cs[j]?=some (.Z a g' 0 n' 1)->i=j
theorem km.nil {lo:Nat}:km lo H e1 e0 (.lit (.slice none 0 0)) []:=⟨[],.nil,rfl,fun j r c h=>by simp at h,fun i j a g g' n n' h=>by simp at h⟩
theorem km.lo {lo lo':Nat}(h:km lo H e1 e0 v X)(hl:lo'<=lo):km lo' H e1 e0 v X :=
 let ⟨cs,a,b,c,d⟩:=h;⟨cs,a.nf hl aaz fun _ _ _ _ _ _=>rfl,b,fun j r q h1 h2=>(c j r q h1 h2).nf hl aaz fun _ _ _ _ _ _=>rfl,d⟩
def km.app {Hx:nnl}{lo n:Nat}{x:nnn}{t:TypeId}{z:List nnn}(ht:P.underlying t=some (.slice e1))(hz:P.cellsOf e1=1)(hzero:bC P e1=some z)(hby:P.bytesOf e1=24)(hne:e1≠e0)
  (hb:X.length<2 ^ 40) (h:km lo Hx e1 e0 v X) (ho:nnd Hx H) (hlo:lo<=Hx.C) (hx:aB Hx.C H e0 x r) (hn:n=H.C+1):
  ∃v' H',bh P (ext H [.O 0 e1 [x]]) n t t v (.Z H.C 0 0 1 1)=some (v',H')/\km lo H' e1 e0 v' (X++[r])/\H.C<=H'.C/\(∀k,k<H.C->k<lo->H'.get k=H.get k):=by
 obtain⟨cs,h1,h2,h3,h4⟩:=h;have hon:=ho.C;have h1':=h1.over ho;obtain⟨v',H',hA,hO,hL,hp⟩:=gf (P:=P) (t:=t) ht hz hzero hx.one (by rw[hby,h2];omega) h1' U hn;have key:∀lo' u l,aB lo' H e0 u l->aB lo' H' e0 u l:=fun lo' u l hu=>h1'.sg hu hne hL hp;have split:∀(j:Nat) (c:nnn),(cs++[x])[j]?=some c->(j<cs.length/\cs[j]?=some c)\/(j=cs.length/\c=x):=fun j c hc=>by
  rcases Xu j cs.length with hj|hj
  ·rw[Xe hj]at hc;exact .inl ⟨hj,hc⟩
  ·have:=get_lt hc;rw[List.length_append,X7]at this;have hj:j=cs.length:=U;subst hj;rw[Xp aaz,Y7]at hc;exact .inr ⟨rfl,(Option.some.inj hc).symm⟩
 have ng:∀(j a g m:Nat),cs[j]?=some (.Z a g 0 m 1)->a<Hx.C:=fun j a g m hc=>by
  obtain⟨r',hr'⟩:∃r',X[j]?=some r':=⟨_,W5 (by rw[<- h2];exact get_lt hc)⟩
  rcases h3 j r' _ hr' hc with ⟨e,_⟩|⟨i,g',_,b,e,_⟩
  ·cases e
  ·rw[(nnn.Z.inj e).1];exact b
 have new:∀a g m,x=.Z a g 0 m 1->Hx.C<=a:=fun a g m he=>by
  rcases hx with ⟨e,_⟩|⟨i,g',b,_,e,_⟩
  ·rw[e]at he;cases he
  ·rw[e]at he;rw[<- (nnn.Z.inj he).1];exact b
 refine⟨v',H',hA,⟨cs++[x],hO,by simp[h2],fun j r' c hr hc=>?_,fun i j a g g' m m' hi hj=>?_⟩,hL,fun k hk hkl=>hp k hk (h1.ne hkl)⟩
 ·rcases split j c hc with ⟨a,b⟩|⟨a,b⟩
  ·rw[Xe U]at hr;exact key _ _ _ ((h3 j r' c hr b).over ho)
  ·rw[a,h2,Xp aaz,Y7]at hr;cases hr;rw[b];exact key _ _ _ (hx.nf hlo aaz fun _ _ _ _ _ _=>rfl)
 ·rcases split i _ hi with ⟨a1,b1⟩|⟨a1,b1⟩<;>rcases split j _ hj with ⟨a2,b2⟩|⟨a2,b2⟩
  ·exact h4 i j a g g' m m' b1 b2
  ·have:=ng i a g m b1;have:=new a g' m' b2.symm;omega
  ·have:=ng j a g' m' b2;have:=new a g m b1.symm;omega
  ·omega
def km.row {lo:Nat}(h:km lo H e1 e0 v X)(hne:e1≠e0){k:Nat}(hr:X[k]?=some r)(h0:r≠[]):
  ∃idt gt idr gr cells,v=.Z idt gt 0 X.length 1/\H.get idt=some (.O gt e1 cells)/\cells.length=X.length/\lo<=idt/\idt<H.C/\cells[k]?=some (.Z idr gr 0 r.length 1)/\H.get idr=some (.O gr e0 r)/\lo<=idr/\idr<H.C /\
   ∀r':List nnn,r'.length=r.length->km lo (H.upd idr (.O gr e0 r')) e1 e0 v (X.set k r'):=by
 obtain⟨cs,h1,h2,h3,h4⟩:=h;have hk:=get_lt hr;obtain⟨c,hc⟩:=get_of_lt (l:=cs) (i:=k) U;rcases h3 k r c hr hc with ⟨_,e⟩|⟨idr,gr,a1,a2,e,a4⟩
 ·exact absurd e h0
 rcases h1 with ⟨_,e'⟩|⟨idt,gt,b1,b2,e',b4⟩
 ·rw[e']at h2;simp at h2;omega
 subst e;have hit:idt≠idr:=fun e=>by rw[e,a4]at b4;cases b4;exact hne rfl
 refine⟨idt,gt,idr,gr,cs,by rw[e',h2],b4,h2,b1,b2,hc,a4,a1,a2,fun r' hl=>⟨cs,.inr ⟨idt,gt,b1,by rw[aw];exact b2,e',by rw[ae,W7 hit];exact b4⟩,by rw[Xb];exact h2,fun j q c' hj hc'=>?_,h4⟩⟩;by_cases e:j=k
 ·subst e;rw[Xj hk]at hj;rw[hc]at hc';cases hj;cases hc';exact .inr ⟨idr,gr,a1,by rw[aw];exact a2,by rw[hl],by rw[ae,W8 rfl]⟩
 ·rw[Xs (fun h=>e h.symm)]at hj;refine(h3 j q c' hj hc').nf aaz (by rw[aw];exact Nat.le_refl _) fun i g _ _ _ hv=>?_;rw[ae,W7];rintro rfl;rw[hv]at hc';exact e (h4 j k i g gr _ _ hc' hc)
end Go.Hx
namespace Go.Proofs
open Go.Hx Tryz
variable {r:List Nat}{cs:List nnn}{S id k u:Nat}{e:Nat->Prop}{α:Type}{d:nnb}{H:nnl}
def kC (d:nnb)(v:Int):Int:=if v∈av (ay d) then ((av (ay d)).idxOf v:Nat) else -1
def WM {v:Int}:0<=kC d v↔∃u:Nat,v=u/\u∈ay d:=by
 unfold kC;constructor
 ·intro h;by_cases hm:v∈av (ay d)
  ·obtain⟨u,hu,rfl⟩:=Xx.1 hm;exact⟨u,rfl,hu⟩
  ·rw[W7 hm]at h;omega
 ·rintro⟨u,rfl,hu⟩;rw[W8 (show (u:Int)∈av (ay d) from Xx.2 ⟨u,hu,rfl⟩)];omega
def WN (d:nnb)(cs:List nnn)(hd:d.nl<2 ^ 64)(hl:(d.F.length:Int)<2 ^ 39)(v:Int)(H:nnl)(K:nnf->nnl->Prop)(hK:K (.ret (aa (kC d v))) H):af prog G0 86 [bH d cs,aa v] H K:=by
 refine af.nb ⟨_,func86,rfl,rfl⟩ fun hcl=>?_;refine af.sw (n:=22) (rs:=[.tmp 4]) func86 ?_;refine W.sq ?_;simp only[go_sem,fg,eN];obtain⟨H1,hH1⟩:∃H1,H1=ext H [.O 0 38 [.lit (.int .i64 d.nn),.L d.F.length cs,.lit (.int .u64 (d.nl:Int)),.L d.V.length (aH d.V)]]:=⟨_,rfl⟩
 have l1:=ag (show H1.get H.C=some (.O 0 38 [.lit (.int .i64 d.nn),.L d.F.length cs,.lit (.int .u64 (d.nl:Int)),.L d.V.length (aH d.V)]) by rw[hH1];exact bY ..);have o1:nnd H H1:=hH1▸.ext _ _
 rw[<- hH1];clear hH1;refine W.en (fun E=>E 1=aa v /\ E 2=.Y H.C 0 0) (by simp only[go_sem]) fun E ⟨e1,e2⟩=>?_
 refine W.sq ?_;simp only[go_sem,e2,l1];refine aC.nb (AL d cs hd hl _ _ ⟨trivial,?_⟩);simp only[go_sem];refine W.env fun E1 hE1=>?_;have f1:E1 1=aa v:=by rw[hE1];simp only[go_sem,e1]
 have f5:E1 5=ah (av (ay d)):=by rw[hE1];simp only[go_sem]
 clear hE1 e1 e2;have hdl:(av (ay d)).length=(ay d).length:=by simp[av]
 have hdn:(ay d).length<=d.F.length:=mb;refine W.seq ?_;refine W.sq ?_;simp only[go_sem];refine W.block ?_;refine W.aM 4193872 (by rfl) (fun ρ Hx=>Hx=H1/\∃k:Nat,ρ 6=aa k/\k<=(av (ay d)).length/\∀j,j<k->∀b,(av (ay d))[j]?=some b->b≠v) (fun ρ H=>(av (ay d)).length-(iv (ρ 6)).toNat) ?_ ?_
 ·simp only[go_sem];exact⟨0,rfl,U,fun j h=>absurd h (Xo _)⟩
 rintro ρ Hx ⟨rfl,k,h6,hk,hne⟩;refine W.en (fun E2=>E2 1=aa v /\ E2 5=ah (av (ay d)) /\ E2 6=aa k) (by simp only[go_sem,f1,f5,h6]) fun E2 ⟨g1,g5,g6⟩=>?_
 by_cases hb:(k:Int)<(av (ay d)).length;rotate_left
 ·have hno:kC d v=-1:=by
   unfold kC;rw[W7];intro hm;obtain⟨j,hj⟩:=Xg.1 hm;exact hne j (by have:=get_lt hj;omega) _ hj rfl
  rw[hno]at hK;refine W.vs ?_;simp only[go_sem,g5,g6,hb];refine W.vs ?_;simp only[go_sem];exact ar.bw aO hcl o1 (.lit _) hK
 obtain⟨a,ha⟩:=get_of_lt (l:=av (ay d)) (i:=k) U;have hane:=aS ha;have w1:=W6 ((k:Int)+1) U;refine W.vs ?_;by_cases hav:a=v
 ·subst hav;have hyes:kC d a=(k:Int):=by
   unfold kC;rw[W8 (an ha),F8 hne ha]
  rw[hyes]at hK;simp only[go_sem,g1,g5,g6,hb,ha,hane];exact ar.bw aO hcl o1 (.lit _) hK
 ·simp only[go_sem,g1,g5,g6,hb,ha,hane,hav,w1];refine⟨⟨k+1,rfl,U,fun j hj b hjb=>?_⟩,by rw[h6];simp only[aa,aI];omega⟩;by_cases hjk:j=k
  ·subst hjk;rw[ha]at hjb;cases hjb;exact hav
  ·exact hne j U b hjb
def WO (d:nnb)(cs:List nnn)(hd:d.nl<2 ^ 64)(hl:(d.F.length:Int)<2 ^ 39)(v:Int)(H:nnl)(K:nnf->nnl->Prop)(hK:K (.ret (.lit (.bool (decide (0<=kC d v))))) H):af prog G0 44 [bH d cs,aa v] H K:=by
 refine af.nb ⟨_,func44,rfl,rfl⟩ fun hcl=>?_;refine af.sw (n:=9) (rs:=[.tmp 4]) func44 ?_;refine W.sq ?_;simp only[go_sem,fg,eN];obtain⟨H1,hH1⟩:∃H1,H1=ext H [.O 0 38 [.lit (.int .i64 d.nn),.L d.F.length cs,.lit (.int .u64 (d.nl:Int)),.L d.V.length (aH d.V)]]:=⟨_,rfl⟩
 have l1:=ag (show H1.get H.C=some (.O 0 38 [.lit (.int .i64 d.nn),.L d.F.length cs,.lit (.int .u64 (d.nl:Int)),.L d.V.length (aH d.V)]) by rw[hH1];exact bY ..);have o1:nnd H H1:=hH1▸.ext _ _
 rw[<- hH1];refine W.vs ?_;simp only[go_sem,l1];refine aC.nb (WN d cs hd hl v _ _ ⟨trivial,?_⟩);simp only[go_sem];exact ar.bw aO hcl o1 (.lit _) hK
def SM (h:g9 id d cs H)(v:Int)(K:nnf->nnl->Prop)(hK:K (.ret (aa (dy d v))) H):af prog G0 14 [bH d cs,aa v] H K:=by
 refine af.nb ⟨_,func14,rfl,rfl⟩ fun hcl=>?_;have hf:=h.1;refine af.sw (n:=21) (rs:=[.tmp 4]) func14 ?_;refine W.sq ?_;simp only[go_sem,fg,eN];obtain⟨H1,hH1⟩:∃H1,H1=ext H [.O 0 38 [.lit (.int .i64 d.nn),.L d.F.length cs,.lit (.int .u64 (d.nl:Int)),.L d.V.length (aH d.V)]]:=⟨_,rfl⟩
 have l1:=ag (show H1.get H.C=some (.O 0 38 [.lit (.int .i64 d.nn),.L d.F.length cs,.lit (.int .u64 (d.nl:Int)),.L d.V.length (aH d.V)]) by rw[hH1];exact bY ..);have o1:nnd H H1:=hH1▸.ext _ _
 rw[<- hH1];clear hH1;have h1:=h.mono o1.C o1.ng;have fin:∀e:Int,dy d v=e->ar prog G0 H K (.lit (.int .i64 e)) H1:=fun e he=>by
  rw[he]at hK;exact ar.bw (v':=aa e) aO hcl o1 (.lit _) hK
 refine W.sq ?_;simp only[go_sem,l1];refine aC.nb (Uf h1 _ ⟨trivial,?_⟩);by_cases hok:nnj d;rotate_left
 ·rw[fX hok];have e:dy d v=200:=by unfold dy;rw[fX hok];rfl
  simp only[go_sem];exact fin _ e
 rw[eO hok];simp only[go_sem];refine W.sq ?_;simp only[go_sem,l1];refine aC.nb (Ue h1 hok.n _ (fun hn=>⟨trivial,?_⟩) fun r hr=>⟨trivial,?_⟩)
 ·have e:dy d v=210:=by unfold dy;rw[eO hok,hn];rfl
  simp only[go_sem];exact fin _ e
 have e:dy d v=if 0<=kC d v then 0 else 2:=by
  have e1:dy d v=if v∈av (ay d) then 0 else 2:=by unfold dy;rw[eO hok,hr];rfl
  have e2:v∈av (ay d)↔0<=kC d v:=by
   rw[WM];unfold av;rw[Xx];exact⟨fun ⟨u,h1,h2⟩=>⟨u,h2.symm,h1⟩,fun ⟨u,h1,h2⟩=>⟨u,h2,h1.symm⟩⟩
  rw[e1];simp only[e2]
 simp only[go_sem];refine W.vs ?_;simp only[go_sem,l1];refine aC.nb (WO d cs hf.nl (by have:=hok.n.n1;omega) v _ _ ⟨trivial,?_⟩);by_cases hp:0<=kC d v
 ·rw[W8 hp]at e;rw[Xy hp];simp only[go_sem];exact fin _ e
 ·rw[W7 hp]at e;rw[XL hp];simp only[go_sem];exact fin _ e
def EB (d:nnb)(cs:List nnn)(hq:nnh e d.F cs)(hf:nnm d)(hp:∀x∈d.F,(x.J.length:Int)<2 ^ 39/\∀q∈x.J,0<=q/\q<64)(H:nnl)(K:nnf->nnl->Prop)
  (hK:∀v H',nnd H H'->aB H.C H' 34 v ((aq d.F).map az)->K (.ret v) H'):af prog G0 45 [bH d cs] H K:=by
 refine af.nb ⟨_,func45,rfl,rfl⟩ fun hcl=>?_;refine af.sw (n:=7) (rs:=[.tmp 2]) func45 ?_;refine W.sq ?_;simp only[go_sem,fg,eN];obtain⟨H1,hH1⟩:∃H1,H1=ext H [.O 0 38 [.lit (.int .i64 d.nn),.L d.F.length cs,.lit (.int .u64 (d.nl:Int)),.L d.V.length (aH d.V)]]:=⟨_,rfl⟩
 have l1:=ag (show H1.get H.C=some (.O 0 38 [.lit (.int .i64 d.nn),.L d.F.length cs,.lit (.int .u64 (d.nl:Int)),.L d.V.length (aH d.V)]) by rw[hH1];exact bY ..);have o1:nnd H H1:=hH1▸.ext _ _
 rw[<- hH1];clear hH1;refine W.vs ?_;simp only[go_sem,l1];refine aC.nb (af.pt (args':=[bS 0 d.F]) aO rfl (fun i hi _=>?_) (FI 0 d.F (by have:=hf.F.1;omega) hp _ _ fun v H' o2 hO=>⟨trivial,?_⟩))
 ·match i,hi with
  |0,_ =>
   refine .agg rfl fun j hj _=>?_
   match j,hj with
   |0,_=>exact .lit _
   |1,_=>exact .L (by rw[hq.len,fJ]) fun i h h'=>hq.qX i h h'
 simp only[go_sem];exact ar.mk (by have:=o1.C;have:=o2.C;omega) (hK v H' (o1.trans o2) (hO.nf (by have:=o1.C;omega) aaz fun _ _ _ _ _ _=>rfl))
def SN {v:Nat}(hv:v<d.F.length):((aq d.F).map az)[v]?=some (.lit (.int .u64 (((aq d.F).getD v 0:Nat):Int))):=by
 have h:v<(aq d.F).length:=by rw[eW];exact hv
 rw[List.getElem?_map,Xh,W5 h];rfl
def SO (hok:nnj d)(v:Nat):(aq d.F).getD v 0<2 ^ 64:=by
 have n8:=hok.n.n1;rcases Xu v d.F.length with hv|hv
 ·have:=sX hok hv;rw[eW]at this;exact Xd this (Xq aax U)
 ·rw[Xh,Xf (by rw[eW];exact hv)];decide
def EC (hok:nnj d):∀x∈d.F,(x.J.length:Int)<2 ^ 39/\∀q∈x.J,0<=q/\q<64:=fun x hx=>by
 have n8:=hok.n.n1;obtain⟨v,hv⟩:=Xg.1 hx;have hp:=lW hok hv;have:=hp.len;exact⟨U,fun q hq=>by have:=hp.2 q hq;omega⟩
def ED (d:nnb)(cs:List nnn)(hq:nnh e d.F cs)(hf:nnm d)(hok:nnj d)(hu:u∈ay d)(H:nnl)(K:nnf->nnl->Prop)(hK:K (.ret (az (ew d u))) H):af prog G0 15 [bH d cs,aa u] H K:=by
 refine af.nb ⟨_,func15,rfl,rfl⟩ fun hcl=>?_;have n8:=hok.n.n1;have hul:=(cL.1 hu).1;have hsl:=eW d.F;have hb0:2 ^ u<2 ^ (aq d.F).length:=XG aax U;have p64:2 ^ (aq d.F).length<=2 ^ 64:=Xq aax U;have p2:=Xq (n:=2) aax (show d.F.length<=8 by omega);have p1:=Yy d.F.length;have s0:=fun t x y=>fZ (P:=prog) (t:=t) (x:=x) (y:=y) (k':=.i64) (s:=u) U;refine af.st (n:=45) (rs:=[.tmp 4]) func15 ?_;simp only[go_sem,fg,eN,s0];obtain⟨H1,hH1⟩:∃H1,H1=ext H [.O 0 38 [.lit (.int .i64 d.nn),.L d.F.length cs,.lit (.int .u64 (d.nl:Int)),.L d.V.length (aH d.V)]]:=⟨_,rfl⟩
 have g1:=de hH1
 have o1:nnd H H1:=hH1▸.ext _ _
 have n1:H1.C=H.C+1:=hH1▸rfl
 rw[<- hH1];clear hH1;refine aC.nb (EB d cs hq hf (EC hok) _ _ fun lv H2 o2 hO=>⟨trivial,?_⟩);rcases hO with ⟨_,hx⟩|⟨id,g,i1,i2,i3,i4⟩
 ·have:=congrArg List.length hx;rw[Xl,hsl,List.length_nil]at this;omega
 rw[Xl,hsl]at i3;subst i3;have ll:=ag i4;have lc:((aq d.F).map az).length=d.F.length:=by rw[Xl,hsl]
 have on2:=o2.C;have l2:=ag ((o2.ng H.C U).trans g1);obtain⟨ps,hps⟩:∃ps,ps=aq d.F:=⟨_,rfl⟩
 have hpsl:ps.length=d.F.length:=by rw[hps,hsl]
 rw[<- hps]at hb0 p64 ll lc;have hps64:∀v,ps.getD v 0<2 ^ 64:=fun v=>by rw[hps];exact SO hok v
 have hpsb:∀v,v<d.F.length->(ps.map az)[v]?=some (.lit (.int .u64 ((ps.getD v 0:Nat):Int))):=fun v hv=>by rw[hps];exact SN hv
 simp only[go_sem];refine W.aM 68719468960 (by rfl) (fun ρ Hx=>Hx=H2/\∃k:Nat,ρ 7=aa k/\k<=d.F.length/\ρ 5=az (cX ps (2 ^ u) k)) (fun ρ Hx=>d.F.length-(iv (ρ 7)).toNat) ?_ ?_
 ·simp only[go_sem];exact⟨0,rfl,U,rfl⟩
 rintro ρ Hx ⟨rfl,k,h7,hk,h5⟩;refine W.en (fun E=>E 2=.Y H.C 0 0 /\ E 5=az (cX ps (2 ^ u) k) /\ E 6=.Z id g 0 d.F.length 1 /\ E 7=aa k) (by simp only[go_sem,h5,h7]) fun E ⟨e2,e5,e6,e7⟩=>?_
 refine W.vs ?_;by_cases hb:(k:Int)<d.F.length
 ·have w1:=W6 ((k:Int)+1) U;simp only[go_sem,e6,e7,hb,ll];refine W.aM 68718952736 (by rfl) (fun ρ2 Hy=>Hy=Hx/\∃v:Nat,ρ2 8=aa v/\v<=d.F.length/\ρ2 5=az (dh ps (cX ps (2 ^ u) k) v)) (fun ρ2 Hy=>d.F.length-(iv (ρ2 8)).toNat) ?_ ?_
  ·simp only[go_sem,e5];exact⟨0,rfl,U,rfl⟩
  rintro ρ2 Hy ⟨rfl,v,h8,hv,h5'⟩;obtain⟨b,hbb⟩:∃b,b=dh ps (cX ps (2 ^ u) k) v:=⟨_,rfl⟩
  have hb64:b<2 ^ 64:=by
   have:=vR (ps:=ps) (An hb0 k) v U;rw[hbb];omega
  rw[<- hbb]at h5';refine W.en (fun E2=>E2 2=.Y H.C 0 0 /\ E2 5=az b /\ E2 6=.Z id g 0 d.F.length 1 /\ E2 7=aa k /\ E2 8=aa v) (by simp only[go_sem,e2,h5',e6,e7,h8]) fun E2 ⟨f2,f5,f6,f7,f8⟩=>?_
  refine W.vs ?_;by_cases hb2:(v:Int)<d.F.length
  ·have w2:=W6 ((v:Int)+1) U;have hg:=hpsb v U;have hgn:=aS hg;have s1:=fun t x y=>pq (P:=prog) (t:=t) (x:=x) (y:=y) (hps64 v) hb64;unfold az at f5;have hst:=Et ps (cX ps (2 ^ u) k) v;rw[<- hbb]at hst;by_cases hz:ps.getD v 0 &&& b=0
   ·have hzi:((ps.getD v 0 &&& b:Nat):Int)=0:=(by rw[hz];rfl);rw[W8 hz]at hst;simp only[go_sem,f5,f6,f8,hb2,ll,hg,s1,hzi,w2];exact⟨⟨v+1,rfl,U,by rw[hst]⟩,by rw[h8];simp only[aa,aI];omega⟩
   ·have hzi:¬((ps.getD v 0 &&& b:Nat):Int)=0:=U;rw[W7 hz]at hst;have s2:=fun t x y=>fZ (P:=prog) (t:=t) (x:=x) (y:=y) (k':=.i64) (s:=v) U;have s3:=fun t x y=>fj (P:=prog) (t:=t) (x:=x) (y:=y) (b:=2 ^ v) hb64 (XG aax U);simp only[go_sem,f5,f6,f8,hb2,ll,hg,s1,s2,s3,hzi,w2];exact⟨⟨v+1,rfl,U,by rw[hst]⟩,by rw[h8];simp only[aa,aI];omega⟩
  ·have hve:v=ps.length:=U;simp only[go_sem,f5,f6,f7,f8,hb2,ll,w1];exact⟨⟨k+1,rfl,U,by rw[hbb,hve];rfl⟩,by rw[h7];simp only[aa,aI];omega⟩
 ·have hke:k=ps.length:=U
  have s1:=fun t x y=>fZ (P:=prog) (t:=t) (x:=x) (y:=y) (k':=.i64) (s:=d.F.length) U;have w1:IntKind.u64.wrap ((2 ^ d.F.length:Nat)-1:Int)=((2 ^ d.F.length-1:Nat):Int):=by
   rw[show ((2 ^ d.F.length:Nat):Int)-1=((2 ^ d.F.length-1:Nat):Int) by omega];exact po (U)
  have s2:=fun t x y=>jz (P:=prog) (t:=t) (x:=x) (y:=y) (a:=2 ^ d.F.length-1) (b:=cX ps (2 ^ u) k);have s3:=fun t x y=>jz (P:=prog) (t:=t) (x:=x) (y:=y) (a:=cN (2 ^ d.F.length-1) (cX ps (2 ^ u) k)) (b:=d.nl);unfold az at e5;simp only[go_sem,e6,e7,hb,ll];refine W.dr 8 [0,1,3,7,0,31,0,64] mixed ?_;simp only[go_sem,e2,e5,e6,l2,ll,s1,w1,s2,s3];have hr:=SD hok hu;rw[hke,hps,hr];exact ar.bw (v':=az (ew d u)) aO hcl (o1.trans o2) (.lit _) hK
def SP (h:g9 id d cs H)(hok:nnj d)(hu:u∈ay d)(K:nnf->nnl->Prop)(hK:K (.ret (az (ew d u))) H):af prog G0 15 [bH d cs,aa u] H K:=by
 obtain⟨hf,h|⟨⟨A,xh,h⟩,_,hg⟩⟩:=h
 ·exact ED d cs h hf hok hu H K hK
 ·obtain⟨cs',h1,h2,h3⟩:=td h hg;exact af.emp (args':=[bH d cs',aa u]) rfl (fun i hi _=>match i,hi with|0,_=>te h2 h3 0 aaw aaw|1,_=>.same _) (ED d cs' h1 hf hok hu H K hK)
def SQ (u S:Nat)(r l:List Nat){i w:Nat}(h:r[i]?=some w):fT u S (r.take (i+1)) l=jV u S (fT u S (r.take i) l) w:=by
 unfold fT;rw[aQ h,Yn];rfl
def EF {n:Nat}(hS:S<2 ^ n)(r:List Nat){l:List Nat}(hl:∀v,l.getD v 0<2 ^ n)(v:Nat):(fT u S r l).2.getD v 0<2 ^ n:=by
 unfold fT;have:∀(r:List Nat) (st:Bool × List Nat),(∀v,st.2.getD v 0<2 ^ n)->∀v,(r.foldl (jV u S) st).2.getD v 0<2 ^ n:=fun r=>by
  induction r with
  |nil=>exact fun _ h=>h
  |cons w r ih =>
   refine fun st h=>ih _ fun v=>?_;unfold jV;dsimp only;split
   ·by_cases hv:w=v
    ·subst hv;rcases Xu w st.2.length with hl|hl
     ·rw[Xh,Xj hl];exact XV (h w) hS
     ·rw[Xh,Xf (by rw[Xb];exact hl)];exact Yy _
    ·rw[Xh,Xs hv,<- Xh];exact h v
   ·exact h v
 exact this r _ hl v
def EG (d:nnb)(cs:List nnn)(hq:nnh e d.F cs)(hf:nnm d)(hok:nnj d)(hr:dX d=some r)(hu:u∈r)(hS:S<2 ^ d.F.length)(H:nnl)(K:nnf->nnl->Prop)(hK:K (.ret (cM (bX d r u S))) H):
  af prog G0 17 [bH d cs,aa u,az S] H K:=by
 refine af.nb ⟨_,func17,rfl,rfl⟩ fun hcl=>?_;have hro:=qQ hr;have n8:=hok.n.n1;have hul:=(cL.1 (hro.mem u hu)).1;have hsl:=eW d.F;have p64:2 ^ d.F.length<=2 ^ 64:=Xq aax U;have rl8:r.length<=8:=by
  have h1:=A5 _ _ _ _ hr;have h2:(ay d).length<=d.F.length:=mb;simp at h1;omega
 refine af.sw (n:=104) (rs:=[.cell 6 38]) func17 ?_;refine W.sq ?_;simp only[go_sem,fg,eN];obtain⟨H1,hH1⟩:∃H1,H1=ext H [.O 0 38 [.lit (.int .i64 d.nn),.L d.F.length cs,.lit (.int .u64 (d.nl:Int)),.L d.V.length (aH d.V)],.O 0 38 [.lit (.int .i64 0),.lit (.slice none 0 0),.lit (.int .u64 0),.lit (.slice none 0 0)]]:=⟨_,rfl⟩
 have g1:=de hH1
 have g2:=gE hH1 1 rfl
 have o1:nnd H H1:=hH1▸.ext _ _
 have n1:H1.C=H.C+2:=hH1▸rfl
 rw[<- hH1];clear hH1;have l1:=ag g1;refine W.sq ?_;simp only[go_sem,l1];refine aC.nb (Bh d cs hq hf.nl hok.n _ _ (fun h=>by rw[h]at hr;cases hr) fun r' hr'=>⟨trivial,?_⟩);obtain rfl:r'=r:=by rw[hr]at hr';exact(Option.some.inj hr').symm
 simp only[go_sem];refine W.sq ?_;simp only[go_sem,l1];obtain⟨H2,hH2⟩:∃H2,H2=ext H1 [.O 0 38 [.lit (.int .i64 d.nn),.lit (.slice none 0 0),.lit (.int .u64 (d.nl:Int)),.L d.V.length (aH d.V)]]:=⟨_,rfl⟩
 have o2:nnd H1 H2:=hH2▸.ext _ _
 have n2:H2.C=H.C+3:=by rw[hH2,bu,n1];rfl
 have g3:H2.get (H.C+2)=some (.O 0 38 [.lit (.int .i64 d.nn),.lit (.slice none 0 0),.lit (.int .u64 (d.nl:Int)),.L d.V.length (aH d.V)]):=by rw[hH2,<- n1];exact bV
 rw[<- hH2];clear hH2;have l1':=ag ((o2.ng H.C U).trans g1);refine W.sq ?_;simp only[go_sem,l1'];refine aC.nb (EB d cs hq hf (EC hok) _ _ fun lv H3 o3 hO=>⟨trivial,?_⟩);rcases hO with ⟨_,hx⟩|⟨id,g,i1,i2,i3,i4⟩
 ·have:=congrArg List.length hx;rw[Xl,hsl,List.length_nil]at this;omega
 rw[Xl,hsl]at i3;subst i3;obtain⟨ps,hps⟩:∃ps,ps=aq d.F:=⟨_,rfl⟩
 have hpsl:ps.length=d.F.length:=by rw[hps,hsl]
 have hpsb:∀v,ps.getD v 0<2 ^ d.F.length:=fun v=>by
  rcases Xu v d.F.length with h|h
  ·have:=sX hok h;rw[hsl]at this;rw[hps];exact this
  ·rw[Xh,Xf U];exact Yy _
 rw[<- hps]at i4;have on3:=o3.C;simp only[go_sem];refine W.sq ?_;simp only[go_sem];refine W.env fun E hE=>?_;have e1:E 1=aa u:=by rw[hE];simp only[go_sem]
 have e2:E 2=az S:=by rw[hE];simp only[go_sem]
 have e3:E 3=.Y H.C 0 0:=by rw[hE];simp only[go_sem]
 have e6:E 6=.Y (H.C+1) 0 0:=by rw[hE];simp only[go_sem]
 have e7:E 7=ah (av r'):=by rw[hE];simp only[go_sem]
 have e9:E 9=.Y (H.C+2) 0 0:=by rw[hE,<- n1];simp only[go_sem]
 have e10:E 10=.Z id g 0 d.F.length 1:=by rw[hE];simp only[go_sem]
 have e11:E 11=.lit (.bool false):=by rw[hE];simp only[go_sem]
 clear hE;have bl:∀l:List Nat,l.length=d.F.length->(l.map az).length=d.F.length:=fun l h=>by rw[Xl,h]
 have bg:∀(l:List Nat) (v:Nat),l.length=d.F.length->v<d.F.length->(l.map az)[v]?=some (.lit (.int .u64 ((l.getD v 0:Nat):Int))):=fun l v h hv=>by
  rw[List.getElem?_map,Xh,W5 U];rfl
 refine W.dI (fun s'=>s'.ρ 3=.Y H.C 0 0/\s'.ρ 6=.Y (H.C+1) 0 0/\s'.ρ 9=.Y (H.C+2) 0 0/\s'.ρ 10=.Z id g 0 d.F.length 1/\s'.H.C=H3.C/\(∀i,i≠id->s'.H.get i=H3.get i)/\s'.H.get id=some (.O g 34 ((fT u S r' ps).2.map az))) ?_ ?_
 ·refine W.sq ?_;simp only[go_sem];refine W.block ?_;refine W.en (fun Ea=>Ea 1=aa u /\ Ea 2=az S /\ Ea 3=.Y H.C 0 0 /\ Ea 6=.Y (H.C+1) 0 0 /\ Ea 7=ah (av r') /\ Ea 9=.Y (H.C+2) 0 0 /\ Ea 10=.Z id g 0 d.F.length 1 /\ Ea 11=.lit (.bool false) /\ Ea 12=aa 0) (by simp only[go_sem,e1,e2,e3,e6,e7,e9,e10,e11]) fun Ea ⟨e1,e2,e3,e6,e7,e9,e10,e11,e12⟩=>?_
  refine W.aM 2305843008139958272 (by rfl) (fun ρ Hx=>∃i:Nat,ρ 12=aa i/\i<=r'.length/\ρ 11=.lit (.bool (fT u S (r'.take i) ps).1)/\Hx.C=H3.C/\(∀j,j≠id->Hx.get j=H3.get j)/\Hx.get id=some (.O g 34 ((fT u S (r'.take i) ps).2.map az))) (fun ρ Hx=>r'.length-(iv (ρ 12)).toNat) ?_ ?_
  ·exact⟨0,e12,U,e11,rfl,fun _ _=>rfl,i4⟩
  rintro ρ Hx ⟨i,h12,hi,h11,hxn,hxo,hxi⟩;refine W.en (fun E1=>E1 1=aa u /\ E1 2=az S /\ E1 3=.Y H.C 0 0 /\ E1 6=.Y (H.C+1) 0 0 /\ E1 7=ah (av r') /\ E1 9=.Y (H.C+2) 0 0 /\ E1 10=.Z id g 0 d.F.length 1 /\ E1 11=.lit (.bool (fT u S (r'.take i) ps).1) /\ E1 12=aa i) (by simp only[go_sem,e1,e2,e3,e6,e7,e9,e10,h11,h12]) fun E1 ⟨f1,f2,f3,f6,f7,f9,f10,f11,f12⟩=>?_
  have nl:(av r').length=r'.length:=by simp[av]
  by_cases hb:(i:Int)<r'.length;rotate_left
  ·have hie:i=r'.length:=U;rw[hie,W9 aaz]at hxi;refine W.vs ?_;simp only[go_sem,f3,f6,f7,f9,f10,f12,hb,nl];exact⟨hxn,hxo,hxi⟩
  obtain⟨w,hw⟩:=get_of_lt (l:=r') (i:=i) U;have hwi:(av r')[i]?=some (w:Int):=by unfold av;rw[List.getElem?_map,hw];rfl
  have hwn:=aS hwi;have hwl:w<d.F.length:=(cL.1 (hro.mem w (an hw))).1;have hwl2:(w:Int)<d.F.length:=U
  have hst:=SQ u S r' ps hw;obtain⟨st,hstt⟩:∃st,st=fT u S (r'.take i) ps:=⟨_,rfl⟩
  rw[<- hstt]at hst f11 hxi;have stl:st.2.length=d.F.length:=by rw[hstt,Ey,hpsl]
  have st64:st.2.getD w 0<2 ^ 64:=by
   have:=EF (u:=u) hS (r'.take i) hpsb w;rw[<- hstt]at this;omega
  have lx:=ag hxi;have w1:=W6 ((i:Int)+1) U;have hbl:=bl _ stl;have hbg:=bg _ w stl hwl;have hbn:=aS hbg;have s1:=fun t x y=>fj (P:=prog) (t:=t) (x:=x) (y:=y) st64 (show S<2 ^ 64 by omega);have hset:setAt (st.2.map az) w [.lit (.int .u64 ((st.2.getD w 0 |||S:Nat):Int))]=(st.2.set w (st.2.getD w 0 |||S)).map az:=by
   rw[dQ (by rw[hbl];exact hwl),Zo];rfl
  unfold az at f2;by_cases ha:(st.1 ||decide (w=u))=true
  ·have hst2:fT u S (r'.take (i+1)) ps=(true,st.2.set w (st.2.getD w 0 |||S)):=(by rw[hst];unfold jV;rw[ha];rfl);have fin:∀(ρ':Env),Hx.C<=Hx.C:=fun _=>Nat.le_refl _;cases h1:st.1 with
   |true =>
    rw[h1]at f11;refine W.vs ?_;simp only[go_sem,f7,f11,f12,hb,nl];refine W.dr 14 [0,0,0,6,14,0,0,0,192,448,992,2016,0,8160] mixed ?_;simp only[go_sem,f2,f7,f10,f11,f12,hb,nl,hwi,hwn,lx,hbl,hbg,hwl2,s1,hset,w1];exact⟨U,by rw[aw];omega,⟨i+1,rfl,U,by rw[hst2],by rw[aw];exact hxn,fun j hj=>by rw[ae,W7 hj];exact hxo j hj,by rw[ae,W8 rfl,hst2]⟩,by rw[h12];simp only[aa,aI];omega⟩
   |false =>
    rw[h1,ZW]at ha;obtain rfl:=of_decide_eq_true ha;rw[h1]at f11;refine W.vs ?_;simp only[go_sem,f1,f7,f11,f12,hb,nl,hwi,hwn];refine W.dr 14 [0,0,0,6,14,0,0,0,192,448,992,2016,0,8160] mixed ?_;simp only[go_sem,f2,f7,f10,f11,f12,hb,nl,hwi,hwn,lx,hbl,hbg,hwl2,s1,hset,w1];exact⟨U,by rw[aw];omega,⟨i+1,rfl,U,by rw[hst2],by rw[aw];exact hxn,fun j hj=>by rw[ae,W7 hj];exact hxo j hj,by rw[ae,W8 rfl,hst2]⟩,by rw[h12];simp only[aa,aI];omega⟩
  ·have hst2:fT u S (r'.take (i+1)) ps=(false,st.2):=by
    rw[hst];unfold jV;rw[Z2.2 ha];rfl
   obtain⟨h1,h2⟩:=ZM.1 (Z2.2 ha);have hwu:¬(w:Int)=u:=(by have:=of_decide_eq_false h2;omega);rw[h1]at f11;refine W.vs ?_;simp only[go_sem,f1,f7,f11,f12,hb,nl,hwi,hwn,hwu,w1];exact⟨U,⟨i+1,rfl,U,by rw[hst2],hxn,hxo,by rw[hst2];exact hxi⟩,by rw[h12];simp only[aa,aI];omega⟩
 rintro⟨ρ1,H4⟩ ⟨k3,k6,k9,k10,xn,xo,xi⟩;simp only at k3 k6 k9 k10 xn xo xi;obtain⟨l,hl⟩:∃l,l=(fT u S r' ps).2:=⟨_,rfl⟩
 rw[<- hl]at xi;have hll:l.length=d.F.length:=by rw[hl,Ey,hpsl]
 have hl2:∀v,l.getD v 0<2 ^ d.F.length:=fun v=>by rw[hl];exact EF hS r' hpsb v
 obtain⟨D',hD'⟩:∃D',D'=bX d r' u S:=⟨_,rfl⟩
 have hlen:D'.F.length=d.F.length:=by rw[hD'];exact jU ..
 have q1:H4.get H.C=some (.O 0 38 [.lit (.int .i64 d.nn),.L d.F.length cs,.lit (.int .u64 (d.nl:Int)),.L d.V.length (aH d.V)]):=by rw[xo _ U,o3.ng _ U,o2.ng _ U];exact g1
 have q2:H4.get (H.C+1)=some (.O 0 38 [.lit (.int .i64 0),.lit (.slice none 0 0),.lit (.int .u64 0),.lit (.slice none 0 0)]):=by rw[xo _ U,o3.ng _ U,o2.ng _ U];exact g2
 have q3:H4.get (H.C+2)=some (.O 0 38 [.lit (.int .i64 d.nn),.lit (.slice none 0 0),.lit (.int .u64 (d.nl:Int)),.L d.V.length (aH d.V)]):=by rw[xo _ U,o3.ng _ U];exact g3
 have qold:∀i,i<H.C->H4.get i=H.get i:=fun i h=>by rw[xo _ U,o3.ng _ U,o2.ng _ U,o1.ng _ h]
 clear e1 e2 e3 e6 e7 e9 e10 e11;refine W.seq ?_;refine W.sq ?_;simp only[go_sem];refine W.en (fun E=>E 3=.Y H.C 0 0 /\ E 6=.Y (H.C+1) 0 0 /\ E 9=.Y (H.C+2) 0 0 /\ E 10=.Z id g 0 d.F.length 1 /\ E 13=aa 0) (by simp only[go_sem,k3,k6,k9,k10]) fun E ⟨e3,e6,e9,e10,e13⟩=>?_
 clear k3 k6 k9 k10;refine W.block ?_;refine W.aM 10141204801823529368964412006400 (by rfl) (fun ρ Hx=>∃(k:Nat) (nv:nnn) (ks:List nnn),ρ 13=aa k/\k<=d.F.length/\H4.C<=Hx.C/\(∀i,i<H4.C->i≠H.C+2->Hx.get i=H4.get i)/\Hx.get (H.C+2)=some (.O 0 38 [.lit (.int .i64 d.nn),nv,.lit (.int .u64 (d.nl:Int)),.L d.V.length (aH d.V)]) /\
  bI H4.C Hx 76 3 nv k ks/\nnh (fun _=>False) (D'.F.take k) ks) (fun ρ _=>d.F.length-(iv (ρ 13)).toNat) ?_ ?_
 ·exact⟨0,_,[],e13,U,aaz,fun _ _ _=>rfl,q3,.nil,.nil⟩
 rintro ρ Hx ⟨k,nv,ks,h13,hk,hnx,hold,hx3,hO,hQ⟩;refine W.en (fun E1=>E1 3=.Y H.C 0 0 /\ E1 6=.Y (H.C+1) 0 0 /\ E1 9=.Y (H.C+2) 0 0 /\ E1 10=.Z id g 0 d.F.length 1 /\ E1 13=aa k) (by simp only[go_sem,e3,e6,e9,e10,h13]) fun E1 ⟨f3,f6,f9,f10,f13⟩=>?_
 have m1:=ag ((hold H.C U U).trans q1);by_cases hb:(k:Int)<d.F.length;rotate_left
 ·have hke:k=d.F.length:=U
  have m2:=ag ((hold (H.C+1) U U).trans q2);have m3:=ag hx3;rw[hke,W9 U]at hQ;refine W.vs ?_;simp only[go_sem,f3,f13,m1,hb];refine W.vs ?_;simp only[go_sem,f6,f9,m2,m3];have ovx:nnd H Hx:=⟨U,fun i h=>by rw[hold i U U];exact qold i h⟩
  refine⟨by rw[hO.one];rfl,?_⟩;refine ar.bw (v':=cM D') aO hcl (nnd.upd (id:=H.C+1) ovx (Yb _) _) (.agg rfl fun i hi _=>?_) (by rw[hD'];exact hK);have hg':D'.nn=d.nn/\D'.nl=d.nl/\D'.V=d.V:=by rw[hD'];exact⟨rfl,rfl,rfl⟩
  match i,hi with
  |0,_=>rw[hg'.1];exact .lit _
  |1,_ =>
   show Fz _ _ _ nv (.L D'.F.length (aG D'.F));rcases hO with ⟨h,hz,hc⟩|⟨iu,gu,y1,y2,h,y4,y5⟩
   ·omega
   ·rw[h,hlen,hke];refine .nq (e:=76) (cells:=ks) (by show H.C<=iu;omega) (by rw[ae,W7 U];exact y5) (by rw[fJ,hlen]) fun j hj h2 h'=>?_;have e0:(0:Nat)+j=j:=Nat.zero_add j;have h3:j<ks.length:=U;have:=fun Hq=>hQ.qX (S:=fun id=>H.C<=id) (H:=Hq) (nx:=H.C) j h3 h';simpa only[e0] using this _
  |2,_=>rw[hg'.2.1];exact .lit _
  |3,_=>rw[hg'.2.2];exact .L rfl fun _ h _=>nk _ _ (XA h)
 obtain⟨x,hx⟩:=get_of_lt (l:=d.F) (i:=k) U;have hne:=hq.ne hx;obtain⟨rv,c0,_,hdis,_⟩:=hq.part hx;have c1:k*3+3<=cs.length:=by rw[hq.len];omega
 have rvo:rv.one=true:=by rcases hdis with h|h<;>rw[h]<;>first|rfl|(unfold aR;split<;>rfl)
 have rvc:rv.cells=[rv]:=by rcases hdis with h|h<;>rw[h]<;>first|rfl|(unfold aR;split<;>rfl)
 have w1:=W6 ((k:Int)+1) U;have hy:=sV (r:=r') (u:=u) (S:=S) hx;have hyr:=SH hok hro u S hx;rw[<- hps,<- hl]at hyr;obtain⟨y,hyy⟩:∃y,y=gW d.F.length r' u S k x:=⟨_,rfl⟩
 rw[<- hyy]at hy hyr;rw[<- hD']at hy;obtain⟨yc,yr⟩:=sW d.F.length r' u S k x;rw[<- hyy]at yc yr;obtain⟨Hp,hHp⟩:∃Hp,Hp=ext Hx [.O 0 76 [.lit (.int .i64 x.Q),.L x.J.length (ints x.J),rv]]:=⟨_,rfl⟩
 have np:Hp.C=Hx.C+1:=hHp▸rfl
 have gP:=de hHp
 have pold:∀i,i<Hx.C->Hp.get i=Hx.get i:=fun i h=>by rw[hHp];exact cH h
 have mp1:=ag ((pold H.C U).trans ((hold H.C U U).trans q1));refine W.sq ?_;simp only[go_sem,f3,f13,m1,hb];refine W.seq (W.block ?_);refine W.sq ?_;simp only[go_sem,f3,f13,m1,hb,hne,c0,c1,rvo];rw[<- hHp];clear hHp;refine W.en (fun E2=>E2 3=.Y H.C 0 0 /\ E2 6=.Y (H.C+1) 0 0 /\ E2 9=.Y (H.C+2) 0 0 /\ E2 10=.Z id g 0 d.F.length 1 /\ E2 13=aa k /\ E2 14=.Y Hx.C 0 0) (by simp only[go_sem,f3,f6,f9,f10,f13]) fun E2 ⟨p3,p6,p9,p10,p13,p14⟩=>?_
 have mP:=ag gP;have l64:l.getD k 0<2 ^ 64:=by have:=hl2 k;omega
 have xid:Hx.get id=some (.O g 34 (l.map az)):=(hold id U U).trans xi;have idx:id<Hx.C:=U
 refine W.dI (fun s'=>s'.ρ 3=.Y H.C 0 0/\s'.ρ 6=.Y (H.C+1) 0 0/\s'.ρ 9=.Y (H.C+2) 0 0/\s'.ρ 10=.Z id g 0 d.F.length 1/\s'.ρ 13=aa k/\s'.ρ 14=.Y Hx.C 0 0/\Hp.C<=s'.H.C/\(∀i,i<Hx.C->s'.H.get i=Hx.get i)/\s'.H.get Hx.C=some (.O 0 76 [.lit (.int .i64 y.Q),.L y.J.length (ints y.J),rv])) ?_ ?_
 ·refine W.sq ?_;simp only[go_sem,p3,p13,mp1];refine aC.nb (kh d.nl k hf.nl _ _ ⟨trivial,?_⟩);cases hbit:d.nl.testBit k
  ·rw[hbit,W7 aax]at hyr;subst hyr;simp only[go_sem]
   try refine W.vs ?_
   simp only[go_sem,p3,p6,p9,p10,p13,p14];exact⟨pold,gP⟩
  ·rw[hbit,W8 rfl]at hyr;simp only[go_sem]
   try refine W.vs ?_
   simp only[go_sem,p14,mP];obtain⟨Hn,hHn⟩:∃Hn,Hn=Hp.upd Hx.C (.O 0 76 [.lit (.int .i64 x.Q),.lit (.slice none 0 0),rv]):=⟨_,rfl⟩
   have nn:Hn.C=Hp.C:=(by rw[hHn];rfl);have gn:Hn.get Hx.C=some (.O 0 76 [.lit (.int .i64 x.Q),.lit (.slice none 0 0),rv]):=(by rw[hHn,ae,W8 rfl]);have on:∀i,i<Hx.C->Hn.get i=Hx.get i:=fun i h=>by rw[hHn,ae,W7 U];exact pold i h
   rw[<- hHn];clear hHn;refine W.aM 158456022797073771529794256896 (by rfl) (fun ρ2 Hy=>∃(j:Nat) (pv:nnn),ρ2 15=aa j/\j<=d.F.length/\Hp.C<=Hy.C/\(∀i,i<Hx.C->Hy.get i=Hx.get i)/\Hy.get Hx.C=some (.O 0 76 [.lit (.int .i64 x.Q),pv,rv])/\aB Hp.C Hy 3 pv (ints (ct (l.getD k 0) j))) (fun ρ2 _=>d.F.length-(iv (ρ2 15)).toNat) ?_ ?_
   ·simp only[go_sem];exact⟨0,_,rfl,U,U,on,gn,.nil⟩
   rintro ρ2 Hy ⟨j,pv,h15,hj,hyn,hyo,hyg,hP⟩;refine W.env fun E3 hE3=>?_;have r3:E3 3=.Y H.C 0 0:=(by rw[hE3];simp only[go_sem,p3]);have r6:E3 6=.Y (H.C+1) 0 0:=(by rw[hE3];simp only[go_sem,p6]);have r9:E3 9=.Y (H.C+2) 0 0:=(by rw[hE3];simp only[go_sem,p9]);have r10:E3 10=.Z id g 0 d.F.length 1:=(by rw[hE3];simp only[go_sem,p10]);have r13:E3 13=aa k:=(by rw[hE3];simp only[go_sem,p13]);have r14:E3 14=.Y Hx.C 0 0:=(by rw[hE3];simp only[go_sem,p14]);have r15:E3 15=aa j:=(by rw[hE3];simp only[go_sem,h15]);clear hE3;have y1:=ag ((hyo H.C U).trans ((hold H.C U U).trans q1));have yi:=ag ((hyo id idx).trans xid);have yg:=ag hyg;have hbl:=bl _ hll;have hbg:=bg _ k hll U;have hbn:=aS hbg;have hkn:(k:Int)<d.F.length:=hb;by_cases hb2:(j:Int)<d.F.length;rotate_left
   ·obtain rfl:j=d.F.length:=U;obtain⟨Hm,hHm⟩:∃Hm,Hm=Hy.eL Hp.C Hx.C (.O 0 76 [.lit (.int .i64 x.Q),ah (ct (l.getD k 0) d.F.length),rv]):=⟨_,rfl⟩
    refine W.ya (s:=⟨E3,Hy⟩) (s':=⟨E3,Hm⟩) (hHm ▸ cF.eL aO (n:=Hp.C) (ob:=Hx.C) (cells':=[.lit (.int .i64 x.Q),ah (ct (l.getD k 0) d.F.length),rv]) hyg rfl (fun _ i hi _=>?_)) (by rw[hHm];exact Nat.le_refl _) trivial ?_
    ·match i,hi with
     |0,_=>exact .lit _
     |1,_=>exact hP.ep fun i h=>⟨h,U⟩
     |2,_ =>
      simp only[X8,XD];rcases hdis with h|h<;>rw[h]
      ·exact wu _
      ·unfold aR;split
       ·exact .lit _
       ·exact wu _
    have m1y:Hm.na H.C 0=_:=ag (by rw[hHm,qI U U];exact(hyo H.C U).trans ((hold H.C U U).trans q1));refine W.vs ?_;simp only[go_sem,r3,r6,r9,r10,r13,r14,r15,m1y,hb2];refine⟨by rw[hHm,PR];exact hyn,fun i h=>by rw[hHm,qI U U];exact hyo i h,?_⟩;rw[hHm,sK,<- hyr];rfl
   have w2:=W6 ((j:Int)+1) U;refine W.vs ?_;simp only[go_sem,r3,r10,r13,r15,y1,yi,hb2,hbg,hkn];refine aC.nb (kh (l.getD k 0) j l64 _ _ ⟨trivial,?_⟩);have hbs:=FF (l.getD k 0) j;cases hbj:(l.getD k 0).testBit j
   ·rw[hbj,W7 aax]at hbs;simp only[go_sem,r15,w2];exact⟨U,⟨j+1,pv,rfl,U,hyn,hyo,hyg,by rw[hbs];exact hP⟩,by rw[h15];simp only[aa,aI];omega⟩
   ·rw[hbj,W8 rfl]at hbs;obtain⟨pv2,H6,hA,hO6,hn6,hp6⟩:=gf (P:=prog) (H:=Hy) (t:=72) (x:=aa j) (n:=Hy.C+1) Tryz.underlying72 Tryz.dY Tryz.eh rfl (by
     have hbb:(ct (l.getD k 0) j).length<=j:=by
      unfold ct;rw[Xl];have:=Zp (fun v=>(l.getD k 0).testBit v) (List.range j)
      rwa [Ym]at this
     rw[Tryz.eV,aZ];omega) hP hyn rfl
    simp only[aa]at hA;have nf:∀i,i<Hp.C->H6.get i=Hy.get i:=fun i h=>hp6 i U (hP.ne h);have yg6:=ag ((nf _ U).trans hyg);have t1:=hP.cells;have t2:=hP.one;have t3:=hO6.cells;have t4:=hO6.one;simp only[go_sem,r14,r15,yg,yg6,hA,t3,t4,w2];refine⟨by rw[aw];omega,⟨j+1,pv2,rfl,U,by rw[aw];omega,fun i h=>by rw[ae,W7 U,nf i U];exact hyo i h,by rw[ae,W8 rfl],?_⟩,by rw[h15];simp only[aa,aI];omega⟩;have e1:ints (ct (l.getD k 0) (j+1))=ints (ct (l.getD k 0) j)++[aa j]:=(by rw[hbs];simp[ints]);rw[e1];exact hO6.nf aaz (by rw[aw];exact Nat.le_refl _) fun i g h1 _ _ _=>by rw[ae,W7 U]
 rintro⟨ρ3,Hz⟩ ⟨r3,r6,r9,r10,r13,r14,zn,zo,zg⟩;simp only at r3 r6 r9 r10 r13 r14 zn zo zg;have hOz:bI H4.C Hz 76 3 nv k ks:=hO.nf U fun i g _ h _=>zo i h;obtain⟨nv2,H6,hA,hO6,hn6,hp6⟩:=mj (P:=prog) (xs:=[.lit (.int .i64 y.Q),.L y.J.length (ints y.J),rv]) Tryz.underlying35 Tryz.oD Tryz.oF (by simp only[List.all_cons,List.all_nil,rvo];rfl) rfl (by rw[Tryz.oE];omega) hOz U rfl;have nf:∀i,i<H4.C->H6.get i=Hx.get i:=fun i h=>(hp6 i U (hOz.ne h)).trans (zo i U);have z3:=ag ((zo (H.C+2) U).trans hx3);have zl:=ag zg;have z36:=ag ((nf (H.C+2) U).trans hx3);have t1:=hOz.cells;have t2:=hOz.one;have t3:=hO6.cells;have t4:=hO6.one;refine W.vs ?_;simp only[go_sem,r9,r14,z3,zl,z36,hA,t3,t4];refine W.vs ?_;simp only[go_sem,r13,w1];refine⟨by rw[aw];omega,⟨k+1,nv2,_,rfl,U,by rw[aw];omega,fun i h1 h2=>by rw[ae,W7 h2,nf i h1];exact hold i h1 h2,by rw[ae,W8 rfl],hO6.nf (by rw[aw];exact Nat.le_refl _) fun i g h1 _ _=>by rw[ae,W7 U],?_⟩,by rw[h13];simp only[aa,aI];omega⟩;rw[aQ hy];refine hQ.snoc (x:=y) (rv:=rv) ?_ fun h=>h.elim;have e1:aR y=aR x:=by unfold aR;rw[yr]
 rw[yr,e1];exact hdis
def SR (h:g9 id d cs H)(hok:nnj d)(hr:dX d=some r)(hu:u∈r)(hS:S<2 ^ d.F.length)(K:nnf->nnl->Prop)(hK:K (.ret (cM (bX d r u S))) H):af prog G0 17 [bH d cs,aa u,az S] H K:=by
 obtain⟨hf,h|⟨⟨A,xh,h⟩,_,hg⟩⟩:=h
 ·exact EG d cs h hf hok hr hu hS H K hK
 ·obtain⟨cs',h1,h2,h3⟩:=td h hg;exact af.emp (args':=[bH d cs',aa u,az S]) rfl (fun i hi _=>match i,hi with|0,_=>te h2 h3 0 aaw aaw|1,_=>.same _|2,_=>.same _) (EG d cs' h1 hf hok hr hu hS H K hK)
def Vf (g:Int)(ns:List nna)(hf:pe ns)(H:nnl)(K:nnf->nnl->Prop)(hK:K (.ret (.lit (.bool true))) H):af prog G0 48 [bS g ns,bS g ns] H K:=by
 refine af.nb ⟨_,func48,rfl,rfl⟩ fun hcl=>?_;have hl:=hf.1;refine af.sw (n:=81) (rs:=[.tmp 4]) func48 ?_;refine W.sq ?_;simp only[go_sem,bS,di];obtain⟨R,hR⟩:∃R,R=ext H [.O 0 90 [.lit (.int .i64 g),.L ns.length (aG ns)],.O 0 90 [.lit (.int .i64 g),.L ns.length (aG ns)]]:=⟨_,rfl⟩
 have oR:nnd H R:=hR▸.ext _ _
 have nR:R.C=H.C+2:=hR▸rfl
 have l0:R.na H.C 0=some (90,[.lit (.int .i64 g),.L ns.length (aG ns)]):=by rw[hR];exact ag (bY ..)
 have l1:R.na (H.C+1) 0=some (90,[.lit (.int .i64 g),.L ns.length (aG ns)]):=by rw[hR];exact ag (cO H _ 1 aaw)
 rw[<- hR];clear hR;refine W.en (fun E=>E 2=.Y H.C 0 0 /\ E 3=.Y (H.C+1) 0 0) (by simp only[go_sem]) fun E ⟨e2,e3⟩=>?_
 refine W.sq ?_;simp only[go_sem,e2,e3,l0,l1];refine W.seq ?_;refine W.sq ?_;simp only[go_sem];refine W.block ?_;refine W.env fun E1 hE1=>?_;have f2:E1 2=.Y H.C 0 0:=by rw[hE1];simp only[go_sem,e2]
 have f3:E1 3=.Y (H.C+1) 0 0:=by rw[hE1];simp only[go_sem,e3]
 have f5:E1 5=aa 0:=by rw[hE1];simp only[go_sem]
 clear hE1;refine W.aM 2417851639229258341024240 (by rfl) (fun ρ Hx=>∃k:Nat,ρ 5=aa k/\k<=ns.length/\nnd R Hx) (fun ρ H=>ns.length-(iv (ρ 5)).toNat) ?_ ?_
 ·simp only[go_sem,f5];exact⟨0,rfl,U,.refl _⟩
 rintro ρ Hx ⟨k,h5,hk,ov⟩;refine W.en (fun E2=>E2 2=.Y H.C 0 0 /\ E2 3=.Y (H.C+1) 0 0 /\ E2 5=aa k) (by simp only[go_sem,f2,f3,h5]) fun E2 ⟨a2,a3,a5⟩=>?_
 have x0:=(ov.na (g:=0) (by omega:H.C<R.C)).trans l0;have x1:=(ov.na (g:=0) (by omega:H.C+1<R.C)).trans l1;by_cases hb:(k:Int)<ns.length;rotate_left
 ·refine W.vs ?_;simp only[go_sem,a2,a5,x0,hb];refine W.vs ?_;simp only[go_sem];exact ar.bw aO hcl (oR.trans ov) (.lit _) hK
 obtain⟨x,hx⟩:=get_of_lt (l:=ns) (i:=k) U;obtain⟨g1,g2,g3⟩:=hf.2 x (an hx);have p0:=lZ hx;have pne:=eC hx;have p1:k*3+3<=(aG ns).length:=by rw[fJ];omega
 have w1:=W6 ((k:Int)+1) U;refine W.sq ?_;simp only[go_sem,a2,a5,x0,hb];refine W.seq (W.block (W.seq ?_));obtain⟨zb,hzb⟩:∃zb:Blk,zb=.O 0 76 [.lit (.int .i64 0),.lit (.slice none 0 0),.lit (.slice none 0 0)]:=⟨_,rfl⟩
 have z0:(ext (ext Hx [.O 0 76 [.lit (.int .i64 0),.lit (.slice none 0 0),.lit (.slice none 0 0)]]) [.O 0 76 [.lit (.int .i64 0),.lit (.slice none 0 0),.lit (.slice none 0 0)]]).na Hx.C 0=some (76,[.lit (.int .i64 0),.lit (.slice none 0 0),.lit (.slice none 0 0)]):=by rw[eT];exact ag (cO Hx _ 0 aaw)
 have z1:∀b,((ext (ext Hx [.O 0 76 [.lit (.int .i64 0),.lit (.slice none 0 0),.lit (.slice none 0 0)]]) [.O 0 76 [.lit (.int .i64 0),.lit (.slice none 0 0),.lit (.slice none 0 0)]]).upd Hx.C b).na (Hx.C+1) 0=some (76,[.lit (.int .i64 0),.lit (.slice none 0 0),.lit (.slice none 0 0)]):=fun b=>by rw[jA U,eT];exact ag (cO Hx _ 1 aaw)
 have hnx:=ov.C;refine W.dr 13 [0,1,0,7,15,0,32,0,224,480,0,0,3103] mixed ?_;simp only[go_sem,a2,a3,a5,x0,x1,hb,p0,p1,pne,aD,z0,z1];refine⟨by repeat' (first|refine And.intro ?_ ?_|(intro x hx;omega)),by repeat' (first|refine And.intro ?_ ?_|(intro x hx;omega)),?_⟩;refine⟨by repeat' (first|refine And.intro ?_ ?_|(intro x hx;omega)),?_⟩;obtain⟨H2,hH2⟩:∃H2,H2=((ext (ext Hx [.O 0 76 [.lit (.int .i64 0),.lit (.slice none 0 0),.lit (.slice none 0 0)]]) [.O 0 76 [.lit (.int .i64 0),.lit (.slice none 0 0),.lit (.slice none 0 0)]]).upd Hx.C (.O 0 76 [.lit (.int .i64 x.Q),.L x.J.length (ints x.J),.L x.X.length (x.X.map ah)])).upd (Hx.C+1) (.O 0 76 [.lit (.int .i64 x.Q),.L x.J.length (ints x.J),.L x.X.length (x.X.map ah)]):=⟨_,rfl⟩
 have o2:nnd Hx H2:=⟨by rw[hH2,aw,aw,eT,bu];omega,fun i h=>by rw[hH2,ae,W7 U,ae,W7 U,eT];exact cV _ _ _ h⟩
 have q0:H2.na Hx.C 0=some (76,[.lit (.int .i64 x.Q),.L x.J.length (ints x.J),.L x.X.length (x.X.map ah)]):=by rw[hH2,jA U];exact tz
 have q1:H2.na (Hx.C+1) 0=some (76,[.lit (.int .i64 x.Q),.L x.J.length (ints x.J),.L x.X.length (x.X.map ah)]):=by rw[hH2];exact tz
 refine W.en (fun E3=>E3 2=.Y H.C 0 0 /\ E3 3=.Y (H.C+1) 0 0 /\ E3 5=aa k /\ E3 6=.Y Hx.C 0 0 /\ E3 7=.Y (Hx.C+1) 0 0) (by simp only[go_sem,a2,a3,a5]) fun E3 ⟨b2,b3,b5,b6,b7⟩=>?_
 rw[<- hH2];clear hH2;refine W.seq ?_;refine W.sq ?_;simp only[go_sem,b6,b7,q0,q1];refine aC.nb (FQ x.J x.J U _ _ ⟨trivial,?_⟩);simp only[go_sem,b6,b7,q0,q1];refine W.vs ?_;simp only[go_sem];refine W.sq ?_;simp only[go_sem];refine W.block ?_;refine W.env fun E4 hE4=>?_;have c2:E4 2=.Y H.C 0 0:=by rw[hE4];simp only[go_sem,b2]
 have c3:E4 3=.Y (H.C+1) 0 0:=by rw[hE4];simp only[go_sem,b3]
 have c5:E4 5=aa k:=by rw[hE4];simp only[go_sem,b5]
 have c6:E4 6=.Y Hx.C 0 0:=by rw[hE4];simp only[go_sem,b6]
 have c7:E4 7=.Y (Hx.C+1) 0 0:=by rw[hE4];simp only[go_sem,b7]
 have c8:E4 8=aa 0:=by rw[hE4];simp only[go_sem]
 clear hE4;refine W.aM 2417847027543239922024720 (by rfl) (fun ρ2 Hy=>Hy=H2/\∃j:Nat,ρ2 8=aa j/\j<=x.X.length) (fun ρ2 H=>x.X.length-(iv (ρ2 8)).toNat) ?_ ?_
 ·simp only[go_sem,c8];exact⟨0,rfl,U⟩
 rintro ρ2 Hy ⟨rfl,j,h8,hj⟩;refine W.en (fun E5=>E5 5=aa k /\ E5 6=.Y Hx.C 0 0 /\ E5 7=.Y (Hx.C+1) 0 0 /\ E5 8=aa j) (by simp only[go_sem,c5,c6,c7,h8]) fun E5 ⟨d5,d6,d7,d8⟩=>?_
 by_cases hc:(j:Int)<x.X.length;rotate_left
 ·refine W.vs ?_;simp only[go_sem,d6,d8,q0,hc];refine W.vs ?_;simp only[go_sem,d5,w1];exact⟨XN ov.C o2.C,⟨k+1,rfl,U,ov.trans o2⟩,by rw[h5];simp only[aa,aI];omega⟩
 obtain⟨l,hl⟩:=get_of_lt (l:=x.X) (i:=j) U;have hll:=g3 l (an hl);have hlg:(x.X.map ah)[j]?=some (ah l):=by rw[List.getElem?_map,hl];rfl
 have hln:=aS hl;have w2:=W6 ((j:Int)+1) U;refine W.sq ?_;simp only[go_sem,d6,d8,q0,hc];refine W.seq (W.block (W.seq ?_));refine W.dr 10 [0,1,0,7,15,0,32,0,224,480] mixed ?_;simp only[go_sem,d6,d7,d8,q0,q1,hc,hlg,hln];refine aC.nb (FQ l l U _ _ ⟨trivial,?_⟩);simp only[go_sem];refine W.vs ?_;simp only[go_sem];refine W.vs ?_;simp only[go_sem,d8,w2];exact⟨⟨j+1,rfl,U⟩,by rw[h8];simp only[aa,aI];omega⟩
def F6 {a b:List α}{x:α}(h:a.take k=b.take k)(ha:a[k]?=some x)(hb:b[k]?=some x):a.take (k+1)=b.take (k+1):=by
 rw[aQ ha,aQ hb,h]
def F7 {a b:List α}(h:a.take k=b.take k)(ha:a.length<=k)(hb:b.length<=k):a=b:=by
 rw[W9 ha,W9 hb]at h;exact h
def Ve (a b:List (List Int))(ha:(a.length:Int)<2 ^ 62)(har:∀r∈a,(r.length:Int)<2 ^ 62)(H:nnl)(K:nnf->nnl->Prop)(hK:K (.ret (.lit (.bool (decide (a=b))))) H):af prog G0 49 [aD a,aD b] H K:=by
 refine af.st (n:=53) (rs:=[.tmp 4]) func49 ?_;have no:a≠b->ar prog G0 H K (.lit (.bool false)) H:=fun h=>by
  rw[XL h]at hK;exact ar.mk aaz hK
 by_cases hl:(a.length:Int)=b.length;rotate_left
 ·simp only[go_sem,aD,hl];exact no fun h=>hl (by rw[h])
 simp only[go_sem,aD,hl];refine W.aM 9007199254737008 (by rfl) (fun ρ Hx=>Hx=H/\∃k:Nat,ρ 5=aa k/\k<=a.length/\a.take k=b.take k) (fun ρ H=>a.length-(iv (ρ 5)).toNat) ?_ ?_
 ·simp only[go_sem];exact⟨0,rfl,U,rfl⟩
 rintro ρ Hx ⟨rfl,k,h5,hk,he⟩;refine W.vs ?_;by_cases hb:(k:Int)<a.length;rotate_left
 ·simp only[go_sem,h5,hl];have hab:a=b:=F7 he U U;rw[Xy hab]at hK;have hb2:¬(k:Int)<b.length:=U
  simp only[go_sem,hb2];exact ar.mk aaz hK
 obtain⟨x,hx⟩:=get_of_lt (l:=a) (i:=k) U;obtain⟨y,hy⟩:=get_of_lt (l:=b) (i:=k) U;have hx':(a.map ah)[k]?=some (ah x):=by rw[List.getElem?_map,hx];rfl
 have hy':(b.map ah)[k]?=some (ah y):=by rw[List.getElem?_map,hy];rfl
 have hxn:=aS hx;have hyn:=aS hy;have hb2:(k:Int)<b.length:=U
 have hxr:=har x (an hx);have w1:=W6 ((k:Int)+1) U;have nxy:x≠y->a≠b:=fun h e=>h (by subst e;rw[hx]at hy;exact Option.some.inj hy);simp only[go_sem,h5,hl,hb2];refine W.dr 10 [0,0,3,7,15,0,0,96,224,480] mixed ?_;by_cases hxy:(x.length:Int)=y.length;rotate_left
 ·simp only[go_sem,h5,hb,hb2,hx',hy',hxn,hyn,hxy];exact no (nxy fun e=>hxy (by rw[e]))
 simp only[go_sem,h5,hb,hb2,hx',hy',hxn,hyn,hxy];refine W.aM 9007198717870160 (by rfl) (fun ρ2 Hz=>Hz=Hx/\∃j:Nat,ρ2 6=aa j/\j<=x.length/\x.take j=y.take j) (fun ρ2 H=>x.length-(iv (ρ2 6)).toNat) ?_ ?_
 ·simp only[go_sem];exact⟨0,rfl,U,rfl⟩
 rintro ρ2 Hz ⟨rfl,j,h6,hj,he2⟩;refine W.vs ?_;by_cases hc:(j:Int)<y.length;rotate_left
 ·simp only[go_sem,h5,h6,hb,hx',hxn,hxy,hc,w1];have hxy2:x=y:=F7 he2 U U;exact⟨⟨k+1,aaw,U,F6 he hx (by rw[hxy2];exact hy)⟩,U⟩
 obtain⟨u,hu⟩:=get_of_lt (l:=x) (i:=j) U;obtain⟨v,hv⟩:=get_of_lt (l:=y) (i:=j) U;have hun:=aS hu;have hvn:=aS hv;have hc2:(j:Int)<x.length:=U
 have w2:=W6 ((j:Int)+1) U;simp only[go_sem,h5,h6,hb,hx',hxn,hxy,hc];refine W.dr 14 [0,0,3,7,0,31,63,0,0,384,896,0,3968,8064] mixed ?_;by_cases huv:u=v
 ·subst huv;simp only[go_sem,h5,h6,hb,hb2,hx',hy',hxn,hyn,hxy,hc,hu,hv,hun,hvn,w2];exact⟨⟨j+1,aaw,U,F6 he2 hu hv⟩,U⟩
 ·simp only[go_sem,h5,h6,hb,hb2,hx',hy',hxn,hyn,hxy,hc,hu,hv,hun,hvn,huv];exact no (nxy fun e=>huv (by subst e;rw[hu]at hv;exact Option.some.inj hv))
end Go.Proofs
