/-
  Calls of this seat's program, reckoned out by the evaluator: what each of them gives. Laid by a program of ours.
-/
import Derived.Test.YtcccmbeolcjacaaProg
import Derived.Test.YtcccmbeolcjacaaLibC
import Derived.Test.YtcccmbeolcjacaaConA
import Derived.Test.YtcccmbeolcjacaaConG
set_option linter.all false
set_option maxHeartbeats 8000000
namespace Go.Proofs
open Go.Hx
set_option maxRecDepth 100000
def Try.Cr:Try.prog.follows .mixedOrders=true:=Tw
noncomputable def Try.eT:EP:={ P:=Try.prog,G:=nC,gd:=fun _=>none,known:=pJ [] }
def Try.fm:Ul Try.eT:=.Au (l:=[]) rfl wj Try.Cr (fun _ _ h=>by cases h) trivial
def Try.Cs:List Ty:=[.agg [.lit (.int .i64 1),.M 6 [.lit (.int .i64 2),.lit (.slice none 0 0),.M 1 [.M 2 [.lit (.int .i64 1),.lit (.int .i64 0)]],.lit (.int .i64 2),.lit (.slice none 0 0),.M 1 [.M 2 [.lit (.int .i64 1),.lit (.int .i64 0)]],.lit (.int .i64 2),.lit (.slice none 0 0),.M 1 [.M 2 [.lit (.int .i64 1),.lit (.int .i64 0)]],.lit (.int .i64 2),.M 3 [.lit (.int .i64 0),.lit (.int .i64 1),.lit (.int .i64 2)],.lit (.slice none 0 0),.lit (.int .i64 2),.M 1 [.lit (.int .i64 0)],.lit (.slice none 0 0),.lit (.int .i64 2),.M 1 [.lit (.int .i64 1)],.lit (.slice none 0 0)],.lit (.int .u64 56),.lit (.slice none 0 0)]]
def Try.Ct:Ty:=.lit (.int .i64 0)
def Try.Pt:dY Try.eT 1000000 11 Try.Cs Try.Ct=true:=Tw
def Try.Cu:List Ty:=[.agg [.lit (.int .i64 1),.M 7 [.lit (.int .i64 2),.lit (.slice none 0 0),.M 1 [.M 2 [.lit (.int .i64 1),.lit (.int .i64 0)]],.lit (.int .i64 2),.lit (.slice none 0 0),.M 1 [.M 2 [.lit (.int .i64 1),.lit (.int .i64 0)]],.lit (.int .i64 2),.lit (.slice none 0 0),.M 1 [.M 2 [.lit (.int .i64 1),.lit (.int .i64 0)]],.lit (.int .i64 2),.M 3 [.lit (.int .i64 0),.lit (.int .i64 1),.lit (.int .i64 2)],.lit (.slice none 0 0),.lit (.int .i64 2),.M 1 [.lit (.int .i64 0)],.lit (.slice none 0 0),.lit (.int .i64 2),.M 1 [.lit (.int .i64 1)],.lit (.slice none 0 0),.lit (.int .i64 2),.lit (.slice none 0 0),.lit (.slice none 0 0)],.lit (.int .u64 120),.lit (.slice none 0 0)]]
def Try.Cv:Ty:=.lit (.int .i64 0)
def Try.Pu:dY Try.eT 1000000 11 Try.Cu Try.Cv=true:=Tw
def Try.Cw:List Ty:=[.agg [.lit (.int .i64 60),.M 1 [.lit (.int .i64 1),.lit (.slice none 0 0),.M 1 [.M 1 [.lit (.int .i64 60)]]],.lit (.int .u64 0),.lit (.slice none 0 0)]]
def Try.Cx:Ty:=.lit (.int .i64 0)
def Try.Pv:dY Try.eT 1000000 11 Try.Cw Try.Cx=true:=Tw
def Try.Cy:List Ty:=[.agg [.lit (.int .i64 60),.M 1 [.lit (.int .i64 1),.lit (.slice none 0 0),.M 1 [.M 1 [.lit (.int .i64 60)]]],.lit (.int .u64 0),.M 4 [.lit (.slice none 0 0),.M 1 [.lit (.int .i64 100)],.lit (.slice none 0 0),.M 1 [.lit (.int .i64 100)],.lit (.slice none 0 0),.M 1 [.lit (.int .i64 100)],.lit (.slice none 0 0),.M 1 [.lit (.int .i64 100)]]]]
def Try.Cz:Ty:=.lit (.int .i64 0)
def Try.Pw:dY Try.eT 1000000 11 Try.Cy Try.Cz=true:=Tw
def Try.CA:List Ty:=[.agg [.lit (.int .i64 0),.lit (.slice none 0 0),.lit (.int .u64 0),.lit (.slice none 0 0)]]
def Try.CB:Ty:=.lit (.int .i64 200)
def Try.Px:dY Try.eT 1000000 11 Try.CA Try.CB=true:=Tw
def Try.CC:List Ty:=[.agg [.lit (.int .i64 4),.M 3 [.lit (.int .i64 2),.lit (.slice none 0 0),.M 1 [.M 2 [.lit (.int .i64 1),.lit (.int .i64 3)]],.lit (.int .i64 2),.M 1 [.lit (.int .i64 0)],.lit (.slice none 0 0),.lit (.int .i64 2),.M 2 [.lit (.int .i64 0),.lit (.int .i64 1)],.M 4 [.M 2 [.lit (.int .i64 4),.lit (.int .i64 0)],.M 2 [.lit (.int .i64 2),.lit (.int .i64 2)],.M 2 [.lit (.int .i64 0),.lit (.int .i64 4)],.M 2 [.lit (.int .i64 1),.lit (.int .i64 3)]]],.lit (.int .u64 2),.M 1 [.M 2 [.lit (.int .i64 1),.lit (.int .i64 2)],.M 4 [.lit (.int .i64 0),.lit (.int .i64 10),.lit (.int .i64 (-2)),.lit (.int .i64 8)]]]]
def Try.CD:Ty:=.lit (.int .i64 0)
def Try.Py:dY Try.eT 1000000 11 Try.CC Try.CD=true:=Tw
def Try.CE:List Ty:=[.agg [.lit (.int .i64 4),.M 3 [.lit (.int .i64 2),.lit (.slice none 0 0),.M 1 [.M 2 [.lit (.int .i64 1),.lit (.int .i64 3)]],.lit (.int .i64 2),.M 1 [.lit (.int .i64 0)],.M 2 [.M 2 [.lit (.int .i64 4),.lit (.int .i64 0)],.M 2 [.lit (.int .i64 4),.lit (.int .i64 0)]],.lit (.int .i64 2),.M 2 [.lit (.int .i64 0),.lit (.int .i64 1)],.M 4 [.M 2 [.lit (.int .i64 4),.lit (.int .i64 0)],.M 2 [.lit (.int .i64 2),.lit (.int .i64 2)],.M 2 [.lit (.int .i64 0),.lit (.int .i64 4)],.M 2 [.lit (.int .i64 1),.lit (.int .i64 3)]]],.lit (.int .u64 2),.M 1 [.M 2 [.lit (.int .i64 1),.lit (.int .i64 2)],.M 4 [.lit (.int .i64 0),.lit (.int .i64 10),.lit (.int .i64 (-2)),.lit (.int .i64 8)]]]]
def Try.CG:Ty:=.lit (.int .i64 200)
def Try.Pz:dY Try.eT 1000000 11 Try.CE Try.CG=true:=Tw
def Try.CH:List Ty:=[.agg [.lit (.int .i64 4),.M 3 [.lit (.int .i64 2),.lit (.slice none 0 0),.M 1 [.M 2 [.lit (.int .i64 1),.lit (.int .i64 3)]],.lit (.int .i64 2),.M 1 [.lit (.int .i64 0)],.lit (.slice none 0 0),.lit (.int .i64 2),.M 2 [.lit (.int .i64 0),.lit (.int .i64 1)],.M 4 [.M 2 [.lit (.int .i64 4),.lit (.int .i64 0)],.M 2 [.lit (.int .i64 2),.lit (.int .i64 2)],.M 2 [.lit (.int .i64 0),.lit (.int .i64 4)],.M 2 [.lit (.int .i64 1),.lit (.int .i64 3)]]],.lit (.int .u64 2),.M 1 [.M 2 [.lit (.int .i64 1),.lit (.int .i64 2)],.M 3 [.lit (.int .i64 0),.lit (.int .i64 10),.lit (.int .i64 (-2))]]]]
def Try.CI:Ty:=.lit (.int .i64 200)
def Try.PA:dY Try.eT 1000000 11 Try.CH Try.CI=true:=Tw
def Try.CJ:List Ty:=[.agg [.lit (.int .i64 4),.M 3 [.lit (.int .i64 2),.lit (.slice none 0 0),.M 1 [.M 2 [.lit (.int .i64 1),.lit (.int .i64 3)]],.lit (.int .i64 2),.M 1 [.lit (.int .i64 0)],.lit (.slice none 0 0),.lit (.int .i64 2),.M 2 [.lit (.int .i64 0),.lit (.int .i64 1)],.M 4 [.M 2 [.lit (.int .i64 4),.lit (.int .i64 0)],.M 2 [.lit (.int .i64 2),.lit (.int .i64 2)],.M 2 [.lit (.int .i64 0),.lit (.int .i64 4)],.M 2 [.lit (.int .i64 1),.lit (.int .i64 3)]]],.lit (.int .u64 2),.M 1 [.M 2 [.lit (.int .i64 1),.lit (.int .i64 2)],.M 4 [.lit (.int .i64 101),.lit (.int .i64 10),.lit (.int .i64 (-2)),.lit (.int .i64 8)]]]]
def Try.CK:Ty:=.lit (.int .i64 200)
def Try.PB:dY Try.eT 1000000 11 Try.CJ Try.CK=true:=Tw
def Try.CL:List Ty:=[.agg [.lit (.int .i64 4),.M 3 [.lit (.int .i64 2),.lit (.slice none 0 0),.M 1 [.M 2 [.lit (.int .i64 1),.lit (.int .i64 3)]],.lit (.int .i64 2),.M 1 [.lit (.int .i64 0)],.lit (.slice none 0 0),.lit (.int .i64 2),.M 2 [.lit (.int .i64 0),.lit (.int .i64 1)],.M 4 [.M 2 [.lit (.int .i64 4),.lit (.int .i64 0)],.M 2 [.lit (.int .i64 2),.lit (.int .i64 2)],.M 2 [.lit (.int .i64 0),.lit (.int .i64 4)],.M 2 [.lit (.int .i64 1),.lit (.int .i64 3)]]],.lit (.int .u64 2),.M 1 [.M 2 [.lit (.int .i64 2),.lit (.int .i64 1)],.M 4 [.lit (.int .i64 0),.lit (.int .i64 10),.lit (.int .i64 (-2)),.lit (.int .i64 8)]]]]
def Try.CM:Ty:=.lit (.int .i64 200)
def Try.PC:dY Try.eT 1000000 11 Try.CL Try.CM=true:=Tw
def Try.CN:List Ty:=[.agg [.lit (.int .i64 60),.M 1 [.lit (.int .i64 1),.lit (.slice none 0 0),.M 1 [.M 1 [.lit (.int .i64 60)]]],.lit (.int .u64 0),.M 5 [.lit (.slice none 0 0),.M 1 [.lit (.int .i64 100)],.lit (.slice none 0 0),.M 1 [.lit (.int .i64 100)],.lit (.slice none 0 0),.M 1 [.lit (.int .i64 100)],.lit (.slice none 0 0),.M 1 [.lit (.int .i64 100)],.lit (.slice none 0 0),.M 1 [.lit (.int .i64 0)]]]]
def Try.CO:Ty:=.lit (.int .i64 200)
def Try.PD:dY Try.eT 1000000 11 Try.CN Try.CO=true:=Tw
def Try.CP:List Ty:=[.agg [.lit (.int .i64 1),.M 2 [.lit (.int .i64 2),.M 1 [.lit (.int .i64 1)],.lit (.slice none 0 0),.lit (.int .i64 2),.M 1 [.lit (.int .i64 0)],.lit (.slice none 0 0)],.lit (.int .u64 3),.lit (.slice none 0 0)]]
def Try.CQ:Ty:=.lit (.int .i64 200)
def Try.PE:dY Try.eT 1000000 11 Try.CP Try.CQ=true:=Tw
def Try.CR:List Ty:=[.agg [.lit (.int .i64 1),.M 1 [.lit (.int .i64 2),.lit (.slice none 0 0),.lit (.slice none 0 0)],.lit (.int .u64 3),.lit (.slice none 0 0)]]
def Try.CS:Ty:=.lit (.int .i64 200)
def Try.PF:dY Try.eT 1000000 11 Try.CR Try.CS=true:=Tw
def Try.CT:List Ty:=[.agg [.lit (.int .i64 61),.M 1 [.lit (.int .i64 2),.lit (.slice none 0 0),.lit (.slice none 0 0)],.lit (.int .u64 1),.lit (.slice none 0 0)]]
def Try.CU:Ty:=.lit (.int .i64 200)
def Try.PG:dY Try.eT 1000000 11 Try.CT Try.CU=true:=Tw
def Try.CV:List Ty:=[.agg [.lit (.int .i64 1),.M 1 [.lit (.int .i64 5),.lit (.slice none 0 0),.lit (.slice none 0 0)],.lit (.int .u64 1),.lit (.slice none 0 0)]]
def Try.CW:Ty:=.lit (.int .i64 200)
def Try.PH:dY Try.eT 1000000 11 Try.CV Try.CW=true:=Tw
def Try.CX:List Ty:=[.agg [.lit (.int .i64 1),.M 1 [.lit (.int .i64 4),.lit (.slice none 0 0),.lit (.slice none 0 0)],.lit (.int .u64 1),.lit (.slice none 0 0)]]
def Try.CY:Ty:=.lit (.int .i64 0)
def Try.PI:dY Try.eT 1000000 11 Try.CX Try.CY=true:=Tw
def Try.CZ:List Ty:=[.agg [.lit (.int .i64 1),.M 1 [.lit (.int .i64 2),.lit (.slice none 0 0),.lit (.slice none 0 0)],.lit (.int .u64 0),.lit (.slice none 0 0)]]
def Try.C2:Ty:=.lit (.int .i64 200)
def Try.PJ:dY Try.eT 1000000 11 Try.CZ Try.C2=true:=Tw
def Try.xE:iJ:=[(Try.Cs,Try.Ct),(Try.Cu,Try.Cv),(Try.Cw,Try.Cx),(Try.Cy,Try.Cz),(Try.CA,Try.CB),(Try.CC,Try.CD),(Try.CE,Try.CG),(Try.CH,Try.CI),(Try.CJ,Try.CK),(Try.CL,Try.CM),(Try.CN,Try.CO),(Try.CP,Try.CQ),(Try.CR,Try.CS),(Try.CT,Try.CU),(Try.CV,Try.CW),(Try.CX,Try.CY),(Try.CZ,Try.C2)]
def Try.PK:kQ Try.prog nC 11 Try.xE:=.cons (eL Try.fm Try.Pt) (.cons (eL Try.fm Try.Pu) (.cons (eL Try.fm Try.Pv) (.cons (eL Try.fm Try.Pw) (.cons (eL Try.fm Try.Px) (.cons (eL Try.fm Try.Py) (.cons (eL Try.fm Try.Pz) (.cons (eL Try.fm Try.PA) (.cons (eL Try.fm Try.PB) (.cons (eL Try.fm Try.PC) (.cons (eL Try.fm Try.PD) (.cons (eL Try.fm Try.PE) (.cons (eL Try.fm Try.PF) (.cons (eL Try.fm Try.PG) (.cons (eL Try.fm Try.PH) (.cons (eL Try.fm Try.PI) (.cons (eL Try.fm Try.PJ) .nil))))))))))))))))
noncomputable def Try.C3:EP:={ P:=Try.prog,G:=nC,gd:=fun _=>none,known:=pJ [(11,Try.xE)] }
def Try.PL:Ul Try.C3:=.Au (l:=[(11,Try.xE)]) rfl wj Try.Cr (fun _ _ h=>by cases h) ⟨Try.PK,trivial⟩
def Try.PM:List Ty:=[]
def Try.PN:Ty:=.lit (.bool true)
def Try.PO:dY Try.C3 1000000 18 Try.PM Try.PN=true:=Tw
def PP (H:Tz)(K:TF->Tz->Prop)(hK:K (.ret (.lit (.bool true))) H):af Try.prog G0 18 [] H K :=
 (af.frame (args':=[]) aT rfl (fun i h _=>absurd h (Qf _)) (eL Try.PL Try.PO)).mono fun r H' ⟨h1,h2⟩=>by rw[h1,h2];exact hK
end Go.Proofs
namespace Go.Proofs
open Go.Hx
def MS (d:D20)(hd:d.Ok)(w w5 a r n5 n v v5 b s m5 m:Int)(hw:0<=w/\w<=255)(hw5:0<=w5/\w5<=255)(ha:0<=a/\a<=255)(hr:0<=r/\r<=255)(hv:0<=v/\v<=255)(hv5:0<=v5/\v5<=255)(hb:0<=b/\b<=255)(hs:0<=s/\s<=255)(i0:Int)(hi0:-9223372036854775808<=i0/\i0<=9223372036854775807)(k0:Int)(hk0:0<=k0/\k0<65536)(H:Tz)(K:TF->Tz->Prop)(hK:∀H',H.C<=H'.C->K (.ret (.lit (.bool true))) H'):
  af Try.prog G0 3 [.agg d.cells,.agg (nF w (gK w5 a r n5) n++nF v (gK v5 b s m5) m),aa i0,.lit (.int .u16 k0)] H K:=by
 refine af.sw (n:=148) (rs:=[.tmp 8]) Try.func3 ?_;refine W.sq ?_;simp only[go_sem,D20.cells,nF,gK];obtain⟨L1,hL1⟩:∃L:List Ty,L=[.lit (.int .u8 w),.lit (.int .u8 w5),.lit (.int .u8 a),.lit (.int .u8 r),.lit (.int .i64 n5),.lit (.int .i64 n),.lit (.int .u8 v),.lit (.int .u8 v5),.lit (.int .u8 b),.lit (.int .u8 s),.lit (.int .i64 m5),.lit (.int .i64 m)]:=⟨_,rfl⟩
 obtain⟨H1,hH1⟩:∃H1,H1=ext H [.L 0 28 [.lit (.int .u8 d.g),.M d.ps.length (eh d.ps),.M d.ord.length (bM d.ord),.lit (.int .u8 d.nn),.lit (.bool d.rem),.M d.us.length (jZ d.us)],.L 0 33 L1]:=⟨_,rfl⟩
 have g0:=dA hH1
 have g1:=gE hH1 1 rfl
 have n1:H1.C=H.C+2:=hH1▸rfl
 rw[hL1]at hH1;rw[<- hH1];rw[hL1]at g1;clear hH1 hL1 L1;have l0:=ae g0;have l1:=ae g1;refine W.en (fun E=>E 4=.Y H.C 0 0 /\ E 5=.Y (H.C+1) 0 0 /\ E 2=aa i0 /\ E 3=.lit (.int .u16 k0)) (by simp only[go_sem]) fun E ⟨e2,e3,xa0,xa1⟩=>?_
 refine W.sq ?_;simp only[go_sem,e2,l0];refine aE.nl (NK d hd _ _ fun x hx=>⟨trivial,?_⟩);have hok:=hx.ok;have hf:=NR hok;have n8:=hok.n.n1;have h6:x.I.length<=6:=by have:=hx.n5;omega
 obtain⟨hsx,hub,hdx⟩:=Ld hok;simp only[go_sem,N8,w7];obtain⟨H2,hH2⟩:∃H2,H2=ext H1 [.L 0 39 [.lit (.int .i64 x.X),.M x.I.length (aH x.I),.lit (.int .u64 (x.nn:Int)),.M x.Q.length (aL x.Q)]]:=⟨_,rfl⟩
 have k2:H2.get (H.C+2)=some (.L 0 39 [.lit (.int .i64 x.X),.M x.I.length (aH x.I),.lit (.int .u64 (x.nn:Int)),.M x.Q.length (aL x.Q)]):=by rw[hH2,<- n1];exact bX
 have k1:H2.get (H.C+1)=_:=(by rw[hH2];exact bK U:H2.get (H.C+1)=H1.get (H.C+1)).trans g1;have n2:H2.C=H.C+3:=by rw[hH2,bh];simp;omega
 rw[<- hH2];clear hH2 g0 l0 l1 g1;have l1:=ae k1;have l2:=ae k2;refine W.sq ?_;simp only[go_sem,e3,n1,l1,l2];refine aE.nl (wy w w5 a r n5 n hw hw5 ha hr x (aH x.I) (Bj (fun _=>True) x.I) 1024 U hsx hub hf.nn False ⟨0,[],[]⟩ False.elim (fun _ _ _ h z hz hne=>absurd (hdx _ z hz h) hne) _ _ (fun _ one c1 ho of oq ol osm=>⟨trivial,?_⟩) False.elim);obtain⟨os,ou⟩:=osm;simp only[go_sem,fQ,fF];obtain⟨H3,hH3⟩:∃H3,H3=ext H2 [.L 0 39 [.lit (.int .i64 one.X),.M one.I.length c1,.lit (.int .u64 (one.nn:Int)),.M one.Q.length (aL one.Q)]]:=⟨_,rfl⟩
 have o3:H3.get (H.C+3)=some (.L 0 39 [.lit (.int .i64 one.X),.M one.I.length c1,.lit (.int .u64 (one.nn:Int)),.M one.Q.length (aL one.Q)]):=by rw[hH3,<- n2];exact bX
 have o2:H3.get (H.C+2)=_:=(by rw[hH3];exact bK U:H3.get (H.C+2)=H2.get (H.C+2)).trans k2;have o1:H3.get (H.C+1)=_:=(by rw[hH3];exact bK U:H3.get (H.C+1)=H2.get (H.C+1)).trans k1;have n3:H3.C=H.C+4:=by rw[hH3,bh];simp;omega
 rw[<- hH3];clear hH3 l1 l2 k1 k2;have m1:=ae o1;have m2:=ae o2;have m3:=ae o3;refine W.en (fun E1=>E1 5=.Y (H.C+1) 0 0 /\ E1 9=.Y (H.C+2) 0 0 /\ E1 10=.Y (H.C+3) 0 0 /\ E1 2=aa i0 /\ E1 3=.lit (.int .u16 k0)) (by simp only[go_sem,e3,n2,xa0,xa1]) fun E1 ⟨f3,f5,f6,xb0,xb1⟩=>?_
 clear e2 e3;obtain⟨C0,hC0⟩:∃C:List Ty,C=[.lit (.int .i64 x.X),.M x.I.length (aH x.I),.lit (.int .u64 (x.nn:Int)),.M x.Q.length (aL x.Q)]:=⟨_,rfl⟩
 obtain⟨C1,hC1⟩:∃C:List Ty,C=[.lit (.int .i64 one.X),.M one.I.length c1,.lit (.int .u64 (one.nn:Int)),.M one.Q.length (aL one.Q)]:=⟨_,rfl⟩
 refine W.seq (W.eO (fun s'=>s'.ρ 2=aa i0/\s'.ρ 3=.lit (.int .u16 k0)/\∃(y:TD) (c3:List Ty),s'.ρ 37=.agg [.lit (.int .i64 x.X),.M x.I.length (aH x.I),.lit (.int .u64 (x.nn:Int)),.M x.Q.length (aL x.Q),.lit (.int .i64 one.X),.M one.I.length c1,.lit (.int .u64 (one.nn:Int)),.M one.Q.length (aL one.Q),.lit (.int .i64 y.X),.M y.I.length c3,.lit (.int .u64 (y.nn:Int)),.M y.Q.length (aL y.Q)]/\s'.ρ 38=aa 0/\H3.C<=s'.H.C/\gj H3.C y c3 s'.H/\y.I.length<=8) ?_ ?_)
 ·by_cases hh:∃z,BV v v5 b s one z
  ·obtain⟨z,hz⟩:=hh;have hzA:(b % (one.I.length:Int)).toNat<one.I.length:=aG hz.2.1.at';have hdl:∀v,x.nn.testBit v=true->v<x.I.length:=fun v hv=>by
    rcases Ql v x.I.length with h|h
    ·exact h
    ·have h0:=hok.n.nn;have:=Nat.testBit_shiftRight x.nn (i:=x.I.length) (j:=v-x.I.length);rw[h0,Q5]at this;rw[show x.I.length+(v-x.I.length)=v by omega,hv]at this;cases this
   have hzc:=Oo ho hok.n.J hdx hdl hz.2.1.at' hz.2.1.ne hz.2.2;obtain⟨yf,yh⟩:=Oy hz of hzc H3.C;refine Ev.W.xP 8 [0,0,0,4,0,28,63,0] Try.mixed Tw Tw ?_;simp only[go_sem,f3,f5,f6,m1,m2,m3,xb0,xb1,Lz,LA,LB,LC,LD,LF,Ot];refine⟨_,_,_,_,MT (rs:=[]) (e:=59) (qd b one z) (fun id g=>Ow b one z hzA id g _ _) (fun r h=>by cases h) (fun H9 _=>wy v v5 b s m5 m hv hv5 hb hs one c1 oq 1029 U (os.mono U) ou of.nn True z (fun _=>⟨hz.1,hz.2.1⟩) (fun h=>absurd trivial h) H9 _ (fun h=>absurd trivial h) fun _ id g H' q1 q2 q3 q4=>⟨id,g,rfl,q1,q2,q3,q4⟩),?_⟩;rw[Ox];simp only[go_sem,LH,LG,fQ,fF];refine⟨⟨fun _ h=>U,fun _ h=>U⟩,qf b one z,_,rfl,Rc _,⟨yf,.inr ⟨⟨_,_,yh⟩,Rq _,bX⟩⟩,?_⟩;show (one.I.set _ _).length<=8;rw[P2];omega
  ·obtain⟨y,c3,hB⟩:∃y c3,(y,c3)=eE v v5 b s m5 m one:=⟨_,_,rfl⟩
   have hdec2:v % 8<4->v5 % 12=5->one.nn.testBit (b % (one.I.length:Int)).toNat=true->∀x,one.I[(b % (one.I.length:Int)).toNat]?=some x->x.O≠[]->¬s % (x.O.length:Int)=0:=fun h1 h2 h3 x h4 h5 h6=>hh ⟨x,h1,⟨h2,h4,h5,h6⟩,h3⟩;obtain⟨yf,yq,yl,_⟩:=Lc (w:=v) (w5:=v5) (a:=b) (r:=s) (n5:=m5) (n:=m) (m:=1029) U (os.mono U) ou of.nn hdec2;rw[<- hB]at yf yq yl;simp only at yf yq yl;refine W.dr 8 [0,0,0,4,0,28,63,0] Try.mixed ?_;simp only[go_sem,f3,f5,f6,m1,m2,m3,xb0,xb1];refine⟨bO y c3,[],cF.pure fun H9=>wy v v5 b s m5 m hv hv5 hb hs one c1 oq 1029 U (os.mono U) ou of.nn False ⟨0,[],[]⟩ False.elim (fun _=>hdec2) H9 _ (fun _ y' cs hy _ _ _ _=>by rw[<- hB]at hy;cases hy;exact⟨rfl,rfl⟩) False.elim,?_⟩;simp only[go_sem,fQ,fF];exact⟨y,c3,rfl,⟨yf,.inl yq⟩,U⟩
 rintro⟨ρ2,H4⟩ ⟨xc0,xc1,y,c3,h31,h32,nx4,hY,hyl⟩;simp only at h31 h32 nx4 hY xc0 xc1;refine W.block ?_;refine W.env fun E2 hE2=>?_;have t31:E2 37=ρ2 37:=by rw[hE2]
 rw[h31]at t31;have t32:E2 38=aa 0:=by rw[hE2];exact h32
 have xd0:E2 2=aa i0:=by rw[hE2];exact xc0
 have xd1:E2 3=.lit (.int .u16 k0):=by rw[hE2];exact xc1
 clear hE2 h31 h32;have hYk:∀Hk:Tz,H4.C<=Hk.C->(∀i,i<H4.C->Hk.get i=H4.get i)->gj H3.C y c3 Hk:=fun Hk h1 h2=>⟨hY.1,hY.2.imp id fun ⟨h3,h4,h5⟩=>⟨h3,U,(h2 _ h4).trans h5⟩⟩
 refine W.aM 178405961588244985132285746181186617202962688 (by rfl) (fun ρ Hx=>∃k:Nat,ρ 38=aa k/\k<=3/\H4.C<=Hx.C/\∀i,i<H4.C->Hx.get i=H4.get i) (fun ρ Hx=>3-(iv (ρ 38)).toNat) ?_ ?_
 ·simp only[go_sem,t32];exact⟨0,rfl,U⟩
 rintro ρ5 Hx ⟨k,hk,hk3,nx,hold⟩;refine W.env fun E5 hE5=>?_;have i31:=(show E5 37=E2 37 by rw[hE5];simp only[go_sem]).trans t31;have i32:E5 38=aa k:=by rw[hE5];simp only[go_sem,hk]
 have xe0:=(show E5 2=E2 2 by rw[hE5];simp only[go_sem]).trans xd0;have xe1:=(show E5 3=E2 3 by rw[hE5];simp only[go_sem]).trans xd1;clear hE5;by_cases hkb:(k:Int)<3;rotate_left
 ·refine W.vs ?_;simp only[go_sem,i32,hkb];refine W.vs ?_;simp only[go_sem];refine aE.nl (PP _ _ ⟨trivial,?_⟩);simp only[go_sem];exact aw.mk U (hK _ U)
 refine W.sq ?_;simp only[go_sem,i32,hkb];refine W.sq ?_;simp only[go_sem];refine W.seq (W.block ?_);refine W.eO (fun s'=>s'.ρ 2=aa i0/\s'.ρ 3=.lit (.int .u16 k0)/\s'.ρ 37=E5 37/\s'.ρ 38=aa k/\s'.ρ 12=.Y Hx.C 0 0/\s'.H.C=Hx.C+1/\(∀i,i<Hx.C->s'.H.get i=Hx.get i)/\∃(z:TD) (cs:List Ty),gj H3.C z cs s'.H/\z.I.length<=8/\s'.H.get Hx.C=some (.L 0 39 [.lit (.int .i64 z.X),.M z.I.length cs,.lit (.int .u64 (z.nn:Int)),.M z.Q.length (aL z.Q)])) ?_ ?_
 ·have hk012:k=0\/k=1\/k=2:=U
  refine W.vs ?_;rcases hk012 with rfl|rfl|rfl
  ·simp only[go_sem,i31,i32,xe0,xe1];exact⟨fun i h=>bK h,x,_,⟨hf,.inl (Bj _ _)⟩,U,bX⟩
  ·simp only[go_sem,i31,i32,xe0,xe1];exact⟨fun i h=>bK h,one,_,⟨of,.inl oq⟩,U,bX⟩
  ·simp only[go_sem,i31,i32,xe0,xe1];exact⟨fun i h=>bK h,y,_,hYk _ (by rw[bh];simp;omega) (fun i h=>(bK U).trans (hold i h)),hyl,bX⟩
 rintro⟨ρ6,H6⟩ ⟨xf0,xf1,j27,j28,j8,n6,o6,z,cs,hz,hzl,g6⟩;simp only at j27 j28 j8 n6 o6 hz g6 xf0 xf1;have l6:=ae g6;have w1:=PW ((k:Int)+1) U;have nx6:H4.C<=H6.C/\∀i,i<H4.C->H6.get i=H4.get i:=⟨U,fun i h=>(o6 i U).trans (hold i h)⟩
 have fin:H4.C<=H6.C/\(∃k',Ty.lit (.int .i64 ((k:Int)+1))=.lit (.int .i64 (k':Nat))/\k'<=3/\H4.C<=H6.C/\∀i,i<H4.C->H6.get i=H4.get i)/\3-(iv (.lit (.int .i64 ((k:Int)+1)))).toNat<3-(iv (ρ5 38)).toNat:=⟨nx6.1,⟨k+1,rfl,U,nx6.1,nx6.2⟩,by rw[hk];simp only[aa,aK];omega⟩
 have lit1:∀x:Int,∀a∈[aa x],∀(S:Nat->Prop) (H:Tz) (nx:Nat),Fz S H nx a a:=fun x a ha=>by
  obtain rfl:=List.mem_singleton.1 ha;exact fun _ _ _=>.lit _
 refine W.sq ?_;simp only[go_sem,j8,l6];refine aE.nl (hz.read (B0 z hz.1 _ _ ⟨trivial,?_⟩));simp only[go_sem];refine W.sq ?_;simp only[go_sem,j8,l6];refine aE.nl (hz.read (AI z hz.1 _ _ ⟨trivial,?_⟩));simp only[go_sem];refine W.sq ?_;simp only[go_sem,j8,l6];refine aE.nl (Oq hz _ ⟨trivial,?_⟩);by_cases hzo:TR z;rotate_left
 ·have e1:dv z=200:=by unfold dv;rw[fR hzo];rfl
  have e2:fb z=0:=by unfold fb;rw[e1];rfl
  have e3:ea z i0=200:=by unfold ea;rw[e1];rfl
  have e4:dw z i0=[]:=by unfold dw;rw[e3];rfl
  rw[fR hzo];simp only[go_sem,j8,l6,xf0];refine aE.nl (hz.Cg (lit1 i0) (AM z hz.1 i0 hi0 _ _ ⟨trivial,?_⟩));simp only[go_sem,e1,e2,e3,e4,av];refine W.vs ?_;simp only[go_sem,j28,w1];exact fin
 have hpn:1<=dZ z:=fB (lS fun p hp=>(nG hzo p hp).2.2.1);have hcE:dv z=if dZ z<=4096 then 0 else 6:=by unfold dv;rw[fG hzo,PZ rfl]
 obtain⟨C,hC⟩:∃C,C=min 4097 (dZ z):=⟨_,rfl⟩
 have hcb:1<=C/\C<=4097:=U
 have hc1:C<=4096->dv z=0/\fb z=C/\dZ z=C:=fun h=>by
  have e:dv z=0:=by rw[hcE,PZ U]
  exact⟨e,by unfold fb;rw[PZ e];omega,U⟩
 have hc2:¬C<=4096->dv z=6/\fb z=0:=fun h=>by
  have e:dv z=6:=by rw[hcE,PX U]
  exact⟨e,by unfold fb;rw[e];rfl⟩
 rw[fG hzo];simp only[go_sem];refine W.sq ?_;simp only[go_sem,j8,l6];refine aE.nl (O9 hz hzo _ ⟨trivial,?_⟩);rw[<- hC];simp only[go_sem];refine W.eO (fun s'=>s'.ρ 2=aa i0/\s'.ρ 3=.lit (.int .u16 k0)/\s'.ρ 12=.Y Hx.C 0 0/\s'.ρ 18=aa C/\s'.ρ 37=E5 37/\s'.ρ 38=aa k/\s'.H=H6) ?_ ?_
 ·by_cases hle:C<=4096
  ·obtain⟨q1,q2,_⟩:=hc1 hle;have hgt:¬C > 4096:=U;refine W.vs ?_;simp only[go_sem,q1,q2,hle,hgt,xf0,xf1,j8,j27,j28,tP]
  ·obtain⟨q1,q2⟩:=hc2 hle;have hgt:C > 4096:=U;refine W.vs ?_;simp only[go_sem,q1,q2,hle,hgt,xf0,xf1,j8,j27,j28,tP]
 rintro⟨ρ7,H7⟩ ⟨u2,u3,u12,u18,u37,u38,rfl⟩;simp only at u2 u3 u12 u18 u37 u38;have km:k0.tmod C=k0 % C:=Qp hk0.1;have km0:=QY k0 (show C≠0 by omega);have km1:=QS k0 (show 0<C by omega);have C0:¬C=0:=U
 have w2:=PW k0 U;have w3:=PW (k0 % C) U;have w4:=PW (C-1) U;refine W.sq ?_;simp only[go_sem,u2,u3,u18,km,w2,w4,C0];refine W.block ?_;refine W.en (fun E8=>E8 12=.Y Hx.C 0 0 /\ E8 18=aa C /\ E8 37=E5 37 /\ E8 38=aa k /\ E8 112=.agg [.lit (.int .i64 i0),.lit (.int .i64 (k0 % C)),.lit (.int .i64 (C-1))] /\ E8 113=aa 0) (by simp only[go_sem,u12,u18,u37,u38]) fun E8 ⟨c12,c18,c37,c38,c112,c113⟩=>?_
 refine W.aM 89202980783737898849073217833532453397987584 (by rfl) (fun ρ Hy=>Hy=H7/\∃c:Nat,ρ 113=aa c/\c<=3) (fun ρ Hy=>3-(iv (ρ 113)).toNat) ?_ ?_
 ·simp only[go_sem,c113];exact⟨0,rfl,U⟩
 rintro ρ9 Hy ⟨rfl,c,hc,hc3⟩;refine W.en (fun E9=>E9 12=.Y Hx.C 0 0 /\ E9 18=aa C /\ E9 37=E5 37 /\ E9 38=aa k /\ E9 112=.agg [.lit (.int .i64 i0),.lit (.int .i64 (k0 % C)),.lit (.int .i64 (C-1))] /\ E9 113=aa c) (by simp only[go_sem,c12,c18,c37,c38,c112,hc]) fun E9 ⟨d12,d18,d37,d38,d112,d113⟩=>?_
 have w5:=PW ((c:Int)+1) U;by_cases hcb3:(c:Int)<3;rotate_left
 ·refine W.vs ?_;simp only[go_sem,d113,hcb3];refine W.vs ?_;simp only[go_sem,d38,w1];exact fin
 obtain⟨a',ha'⟩:∃a',a'=if c=0 then i0 else if c=1 then k0 % C else C-1:=⟨_,rfl⟩
 have hab:-9223372036854775808<=a'/\a'<=9223372036854775807:=by
  rw[ha'];split
  ·omega
  ·split<;>omega
 refine W.sq ?_;simp only[go_sem,d113,hcb3];refine W.sq ?_;simp only[go_sem];refine W.seq (W.block ?_);refine W.eO (fun s'=>s'.ρ 12=.Y Hx.C 0 0/\s'.ρ 18=aa C/\s'.ρ 37=E5 37/\s'.ρ 38=aa k/\s'.ρ 113=aa c/\s'.ρ 20=aa a'/\s'.H=Hy) ?_ ?_
 ·have hk012:c=0\/c=1\/c=2:=U
  refine W.vs ?_;rcases hk012 with rfl|rfl|rfl
  ·simp at ha';simp only[go_sem,d12,d18,d37,d38,d112,d113,ha']
  ·simp at ha';simp only[go_sem,d12,d18,d37,d38,d112,d113,ha']
  ·simp at ha';simp only[go_sem,d12,d18,d37,d38,d112,d113,ha']
 rintro⟨ρa,Ha⟩ ⟨b12,b18,b37,b38,b113,b20,rfl⟩;simp only at b12 b18 b37 b38 b113 b20;refine W.sq ?_;simp only[go_sem,b12,b20,l6];refine aE.nl (hz.Cg (lit1 a') (AM z hz.1 a' hab _ _ ⟨trivial,?_⟩));simp only[go_sem];refine W.sq ?_;simp only[go_sem];refine W.sq ?_;simp only[go_sem];have hpl:((dw z a').length:Int)<2 ^ 62/\∀r∈dw z a',(r.length:Int)<2 ^ 62:=by
  unfold dw;split
  ·have h1:=wD (bt z) a';have h2:=pT z;have h3:(aV z).length<=z.I.length:=kY;refine⟨U,fun r hr=>?_⟩;obtain⟨j,hj⟩:=Qd.1 hr;obtain⟨p,hp⟩:=az (l:=bt z) (i:=j) (by have:=aG hj;omega);rw[sV a' hp]at hj;cases hj;have:=nG hzo p (an hp);rw[P9];omega
  ·exact⟨Tu,fun r hr=>by cases hr⟩
 refine W.eO (fun s'=>s'.ρ 12=.Y Hx.C 0 0/\s'.ρ 18=aa C/\s'.ρ 37=E5 37/\s'.ρ 38=aa k/\s'.ρ 113=aa c/\s'.ρ 21=av (dw z a')/\s'.ρ 22=aa (ea z a')/\s'.ρ 24=aa (ea z a')/\(s'.ρ 23=av (dw z a')\/s'.ρ 23=.lit (.slice none 0 0)/\dw z a'=[])/\s'.H=Ha) ?_ ?_
 ·by_cases hle:C<=4096;rotate_left
  ·obtain⟨q1,_⟩:=hc2 hle;have q3:ea z a'=6:=(by unfold ea;rw[q1];rfl);have q4:dw z a'=[]:=(by unfold dw;rw[q3];rfl);have hgt:C > 4096:=U;refine W.vs ?_;simp only[go_sem,hgt,b12,b18,b37,b38,b113,q3,q4]
  obtain⟨q1,q2,q5⟩:=hc1 hle;have hgt:¬C > 4096:=U
  by_cases ha0:a' >= 0;rotate_left
  ·have q3:ea z a'=2:=(by unfold ea;rw[PZ q1,PX U]);have q4:dw z a'=[]:=(by unfold dw;rw[q3];rfl);refine W.vs ?_;simp only[go_sem,hgt,b12,b18,b37,b38,b113,b20,q3,q4,ha0]
  by_cases ha1:a'<C;rotate_left
  ·have q3:ea z a'=2:=(by unfold ea;rw[PZ q1,PX U]);have q4:dw z a'=[]:=(by unfold dw;rw[q3];rfl);refine W.vs ?_;simp only[go_sem,hgt,b12,b18,b37,b38,b113,b20,q3,q4,ha0,ha1]
  ·have q3:ea z a'=0:=(by unfold ea;rw[PZ q1,PZ U]);have q4:dw z a'=eP (bt z) a':=(by unfold dw;rw[q3];rfl);refine W.vs ?_;simp only[go_sem,hgt,b12,b18,b20,q3,q4,ha0,ha1,l6];refine aE.nl (O7 hz hzo a' U _ ⟨trivial,?_⟩);simp only[go_sem,b12,b18,b37,b38,b113]
 rintro⟨ρb,Hb⟩ ⟨g12,g18,g37,g38,g113,g21,g22,g24,g23,rfl⟩;simp only at g12 g18 g37 g38 g113 g21 g22 g24 g23;obtain⟨wv,hwv⟩:∃wv,wv=ρb 23:=⟨_,rfl⟩
 rw[<- hwv]at g23;refine W.vs ?_;simp only[go_sem,g21,g22,g24,<- hwv];refine aE.nl (af.qy (args':=[av (dw z a'),av (dw z a')]) aT rfl (fun i hi _=>?_) (Pa _ _ hpl.1 hpl.2 _ _ ⟨trivial,?_⟩))
 ·match i,hi with
  |0,_=>exact tv _
  |1,_ =>
   rcases g23 with h|⟨h,h'⟩
   ·simp only[QK,Qo];rw[h];exact tv _
   ·simp only[QK,Qo];rw[h,h'];exact .nil
 simp only[go_sem];refine W.vs ?_;simp only[go_sem,g113,w5];exact⟨⟨c+1,rfl,U⟩,by rw[hc];simp only[aa,aK];omega⟩
end Go.Proofs
