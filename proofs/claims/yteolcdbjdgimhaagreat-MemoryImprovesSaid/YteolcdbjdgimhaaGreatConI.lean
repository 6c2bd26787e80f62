/- Own work: contracts. -/
import Derived.Test.YteolcdbjdgimhaaGreatConH
import Derived.Test.YteolcdbjdgimhaaGreatConB
import Derived.Test.YteolcdbjdgimhaaGreatConG
set_option linter.all false
set_option maxHeartbeats 8000000
set_option maxRecDepth 100000
namespace Go.Proofs
open Go.Hx Tryz
def mf (p:List (List Int))(k:Nat)(i r:Nat):Int:=if i<k then fixC p i r else 0
theorem RP (p:List (List Int)):mf p 0=fun _ _=>0:=by funext i r;unfold mf;rw[SI (S4 _)]
theorem RQ {d:InfP}{p:List (List Int)}{k:Nat}(hk:(az d).length<=k):bG d (mf p k)=bG d (fixC p):=by
 apply Ti;intro v;rcases S9 v d.nodes.length with hv|hv
 ·obtain⟨x,hx⟩:=get_of_lt hv;rw[eW hx,eW hx];by_cases hb:d.decs.testBit v=true
  ·rw[lg hx hb,lg hx hb];have hpl:=get_lt (kQ hv hb);congr 2;unfold di;congr 1;refine Th fun r _=>?_;unfold mf;rw[SK (by have h2:(dO d.decs d.nodes.length).length=(az d).length:=rfl;omega)]
  ·rw[kh hb,kh hb]
 ·rw[SQ (by rw[dB];exact hv),SQ (by rw[dB];exact hv)]
theorem RS {d:InfP}(hok:InfOk d){p:List (List Int)}{k v:Nat}{x:NodeP}(hv:(az d)[k]?=some v)(hx:d.nodes[v]?=some x):bG d (mf p (k+1))=(bG d (mf p k)).set v { x with rows:=di d.grain d.nodes (fixC p) k x }:=by
 obtain⟨v1,v2,v3⟩:=eE hv;apply Ti;intro w;rcases S9 w d.nodes.length with hw|hw
 ·obtain⟨y,hy⟩:=get_of_lt hw;rw[eW hy];by_cases hwv:w=v
  ·subst hwv;rw[hx]at hy;cases hy;rw[SX (by rw[dB];exact hw),lg hx v2,(hok.n.dec w x hx v2).1,List.nil_append,v3];congr 2;unfold di;refine Th fun r _=>?_;unfold mf;rw[SK (by omega)]
  ·rw[S3 (fun h=>hwv h.symm),eW hy];by_cases hb:d.decs.testBit w=true
   ·rw[lg hy hb,lg hy hb];have hpw:aU d.decs w≠k:=fun h=>hwv (by
     have:=kQ hw hb;rw[h,show (dO d.decs d.nodes.length)[k]?=some v from hv]at this;exact(Option.some.inj this).symm)
    congr 2;unfold di;congr 1;refine Th fun r _=>?_;unfold mf;by_cases hlt:aU d.decs w<k
    ·rw[SK hlt,SK (by omega)]
    ·rw[SI hlt,SI (by omega)]
   ·rw[kh hb,kh hb]
 ·rw[SQ (by rw[dB];exact hw),SQ (by rw[SO,dB];exact hw)]
theorem NodesQ.set {e:Nat->Prop}{ns:List NodeP}{cs:List AVal}(h:NodesQ e ns cs){v:Nat}{y:NodeP}{rv:AVal}(hv:v<ns.length)(hr:rv=aj y.rows\/rv=bq y)(he:e v->rv=bq y):NodesQ e (ns.set v y) (setAt cs (v*3) [aa y.card,af y.parents,rv]):=by
 have hl:=h.len;have hlen:(setAt cs (v*3) [aa y.card,af y.parents,rv]).length=cs.length:=by unfold setAt;simp;omega
 refine⟨by rw[hlen,SO];exact hl,fun w x hx=>?_⟩;have get:∀i,(setAt cs (v*3) [aa y.card,af y.parents,rv])[i]?=if i<v*3 then cs[i]? else if i<v*3+3 then [aa y.card,af y.parents,rv][i-v*3]? else cs[i]?:=fun i=>by
  unfold setAt;by_cases h1:i<v*3
  ·rw[SK h1,List.append_assoc,SU (by rw[SN];omega),Tf h1]
  ·rw[SI h1,List.append_assoc,SZ (by rw[SN];omega),SN,TY (by omega)];by_cases h2:i<v*3+3
   ·rw[SK h2,SU (by simp;omega)]
   ·rw[SI h2,SZ (by simp;omega),TN];simp only[List.length_cons,List.length_nil];congr 1;omega
 by_cases hw:w=v
 ·subst hw;rw[SX hv]at hx;cases hx;refine⟨rv,?_,?_,?_,hr,he⟩
  ·rw[get,SI (by omega),SK (by omega),Ut];rfl
  ·rw[get,SI (by omega),SK (by omega),show w*3+1-w*3=1 by omega];rfl
  ·rw[get,SI (by omega),SK (by omega),show w*3+2-w*3=2 by omega];rfl
 ·rw[S3 (fun h=>hw h.symm)]at hx;obtain⟨r,a,b,c,d⟩:=h.node w x hx;have:w<v\/v<w:=by omega
  refine⟨r,?_,?_,?_,d⟩
  ·rw[get];split<;>first|exact a|(rw[SI (by omega)];exact a)
  ·rw[get];split<;>first|exact b|(rw[SI (by omega)];exact b)
  ·rw[get];split<;>first|exact c|(rw[SI (by omega)];exact c)
theorem RT {g card:Int}{cn aN:Nat}(hc:card=cn)(ha:aN<cn):setAt (List.replicate cn (AVal.lit (.int .i64 0))) aN [.lit (.int .i64 g)]=ints (bI g card aN):=by
 have e:List.replicate cn (AVal.lit (.int .i64 0))=ints (List.replicate cn 0):=by simp[ints,aa]
 rw[e,fD (by rw[S6];exact ha)];unfold bI;rw[hc,Int.toNat_natCast,Int.toNat_natCast]
theorem Ee (d:InfP)(cs:List AVal)(hq:NodesQ (fun v=>d.decs.testBit v=true) d.nodes cs)(hf:InfFit d)(hok:InfOk d)(p:List (List Int))(hp:PolOk d p)(H:AHeap)(K:ARes->AHeap->Prop)(hK:K (.ret (bL d.grain (bG d (fixC p)))) H):
  ag prog G0 89 [dw d cs,aj p] H K:=by
 refine ag.clo ⟨_,func89,rfl,rfl⟩ fun hcl=>?_;have hn8:=hok.n.n1;have dl8:(az d).length<=d.nodes.length:=fY;have hpf:=lT hok hp;refine ag.sw (n:=68) (rs:=[.cell 4 81]) func89 ?_;refine W.sq ?_;simp only[go_sem,im,gG];obtain⟨Hb,hHb⟩:∃Hb,Hb=ext H [.arr 0 38 [.lit (.int .i64 d.grain),.vec d.nodes.length cs,.lit (.int .u64 (d.decs:Int)),.vec d.utils.length (aO d.utils)],.arr 0 81 [.lit (.int .i64 0),.lit (.slice none 0 0)]]:=⟨_,rfl⟩
 have b0:=df hHb
 have b1:=gE hHb 1 rfl
 have nb:Hb.next=H.next+2:=hHb▸rfl
 have ob:Over H Hb:=hHb▸.ext _ _
 rw[<- hHb];clear hHb;have l0:=ah b0;refine W.en (fun E=>E 1=aj p /\ E 2=.ptr H.next 0 0 /\ E 4=.ptr (H.next+1) 0 0) (by simp only[go_sem]) fun E ⟨e1,e2,e4⟩=>?_
 refine W.sq ?_;simp only[go_sem,e2,l0];refine aw.clo (Pi d cs hq hf _ _ fun nh ks Hf of hO hQ=>⟨trivial,?_⟩);rcases hO with ⟨_,z2,_⟩|⟨id,gg,z1,z2,z3,z4,z5⟩
 ·omega
 subst z3;simp only[go_sem];obtain⟨Hd,hHd⟩:∃Hd,Hd=ext Hf [.arr 0 81 [.lit (.int .i64 d.grain),.own id gg 0 d.nodes.length 3]]:=⟨_,rfl⟩
 have od:Over Hf Hd:=hHd▸.ext _ _
 have nd:Hd.next=Hf.next+1:=hHd▸rfl
 have dN:=df hHd
 rw[<- hHd];clear hHd;have nf:=of.next;have d0:Hd.get H.next=_:=(od.old _ (by omega)).trans ((of.old _ (by omega)).trans b0);have d1:Hd.get (H.next+1)=_:=(od.old _ (by omega)).trans ((of.old _ (by omega)).trans b1);have did:Hd.get id=_:=(od.old _ (by omega)).trans z5;have dold:∀i,i<H.next->Hd.get i=H.get i:=fun i h=>(od.old i (by omega)).trans ((of.old i (by omega)).trans (ob.old i h));have k0:=ah d0;refine W.en (fun E1=>E1 1=aj p /\ E1 2=.ptr H.next 0 0 /\ E1 4=.ptr (H.next+1) 0 0 /\ E1 5=.ptr Hf.next 0 0) (by simp only[go_sem,e1,e2,e4]) fun E1 ⟨f1,f2,f4,f5⟩=>?_
 refine W.sq ?_;simp only[go_sem,f2,k0];refine aw.clo (vg d cs hf.decs (by omega) _ _ ⟨trivial,?_⟩);simp only[go_sem];refine W.env fun E2 hE2=>?_;have g1:E2 1=aj p:=by rw[hE2];simp only[go_sem,f1]
 have g2:E2 2=.ptr H.next 0 0:=by rw[hE2];simp only[go_sem,f2]
 have g4:E2 4=.ptr (H.next+1) 0 0:=by rw[hE2];simp only[go_sem,f4]
 have g5:E2 5=.ptr Hf.next 0 0:=by rw[hE2];simp only[go_sem,f5]
 have g6:E2 6=af (aW (az d)):=by rw[hE2];simp only[go_sem]
 clear hE2;refine W.seq ?_;refine W.sq ?_;simp only[go_sem];refine W.block ?_;refine W.en (fun E3=>E3 1=aj p /\ E3 2=.ptr H.next 0 0 /\ E3 4=.ptr (H.next+1) 0 0 /\ E3 5=.ptr Hf.next 0 0 /\ E3 6=af (aW (az d)) /\ E3 7=aa 0) (by simp only[go_sem,g1,g2,g4,g5,g6]) fun E3 ⟨h1,h2,h4,h5,h6,h7⟩=>?_
 refine W.aG 147573952589676382080 (by rfl) (fun ρ Hx=>∃(k:Nat) (ks:List AVal),ρ 7=aa k/\k<=(az d).length/\Hd.next<=Hx.next/\(∀i,i<Hd.next->i≠id->Hx.get i=Hd.get i)/\Hx.get id=some (.arr gg 87 ks)/\NodesQ (fun _=>False) (bG d (mf p k)) ks) (fun ρ H=>(az d).length-(iv (ρ 7)).toNat) ?_ ?_
 ·simp only[go_sem,h7];exact⟨0,ks,rfl,by omega,did,by rw[RP,<- yi hok];exact hQ⟩
 rintro ρ Hx ⟨k,kx,q7,hk,nx,hold,xid,xQ⟩;refine W.en (fun E4=>E4 1=aj p /\ E4 2=.ptr H.next 0 0 /\ E4 4=.ptr (H.next+1) 0 0 /\ E4 5=.ptr Hf.next 0 0 /\ E4 6=af (aW (az d)) /\ E4 7=aa k) (by simp only[go_sem,h1,h2,h4,h5,h6,q7]) fun E4 ⟨a1,a2,a4,a5,a6,a7⟩=>?_
 have hkx:=xQ.len;rw[dB]at hkx;have x0:=ah ((hold H.next (by omega) (by omega)).trans d0);have x1:=ah ((hold (H.next+1) (by omega) (by omega)).trans d1);have xN:=ah ((hold Hf.next (by omega) (by omega)).trans dN);have xl:=ah xid;have hdl:(aW (az d)).length=(az d).length:=by simp[aW]
 by_cases hb:(k:Int)<(az d).length;rotate_left
 ·refine W.vs ?_;simp only[go_sem,a6,a7,hb,hdl];refine W.vs ?_;simp only[go_sem,a4,a5,xN,x1];rw[RQ (by omega)]at xQ;have hnl:=dB d (fixC p);refine ar.aV (v':=bL d.grain (bG d (fixC p))) aE hcl ⟨by rw[au];omega,fun i h=>by rw[ae,SI (by omega),hold i (by omega) (by omega)];exact dold i h⟩ (.agg rfl fun i hi _=>?_) hK
  match i,hi with
  |0,_=>exact .lit _
  |1,_ =>
   show Fz _ _ _ (.own id gg 0 d.nodes.length 3) (cE (bG d (fixC p)));unfold cE;rw[hnl];refine .frz (show H.next<=id by omega) (by rw[ae,SI (by omega)];exact xid) (by rw[iI,hnl]) fun j hj h2 h'=>?_;have e0:(0:Nat)+j=j:=Nat.zero_add j;have:=fun Hq=>xQ.uK (S:=fun i=>H.next<=i) (H:=Hq) (nx:=H.next) j (by omega) h';simpa only[e0] using this _
 obtain⟨v,hv⟩:=get_of_lt (l:=az d) (i:=k) (by omega);obtain⟨v1,v2,v3⟩:=eE hv;obtain⟨x,hx⟩:=get_of_lt (l:=d.nodes) (i:=v) v1;obtain⟨l,hl⟩:=get_of_lt (l:=p) (i:=k) (by rw[hp.len];omega);obtain⟨ll,lr⟩:=hp.row k v x l hv hx hl;refine W.sq ?_;simp only[go_sem,a6,a7,hb,hdl];have hdk:(ints (aW (az d)))[k]?=some (aa v):=by rw[ij];unfold aW;rw[List.getElem?_map,hv];rfl
 have hdne:=aJ hdk;obtain⟨y,hy⟩:=get_of_lt (l:=bG d (mf p k)) (i:=v) (by rw[dB];exact v1);have hyx:y.card=x.card/\y.parents=x.parents:=by
  rw[eW hx]at hy;cases hy;exact gD ..
 obtain⟨yr,y3,_,ydis,_⟩:=xQ.part hy;have yro:yr.one=true:=by rcases ydis with h|h<;>rw[h]<;>first|rfl|(unfold bq;split<;>rfl)
 have yrc:yr.cells=[yr]:=by rcases ydis with h|h<;>rw[h]<;>first|rfl|(unfold bq;split<;>rfl)
 rw[hyx.1,hyx.2]at y3;have yne:=xQ.ne hy;have hvb:(v:Int)<d.nodes.length:=by omega
 have hv3:v*3+3<=kx.length:=by omega
 refine W.seq (W.block (W.seq ?_));refine W.dr 9 [0,1,0,0,12,28,63,127,0] mixed ?_;simp only[go_sem,a5,a6,a7,xN,xl,hb,hdl,hdk,hdne,hvb,y3,hv3];refine⟨by repeat' (first|refine And.intro ?_ ?_|(intro x hx;omega)),by rw[yro];rfl,?_⟩;obtain⟨Hp,hHp⟩:∃Hp,Hp=ext Hx [.arr 0 87 [.lit (.int .i64 x.card),.vec x.parents.length (ints x.parents),yr]]:=⟨_,rfl⟩
 have np:Hp.next=Hx.next+1:=hHp▸rfl
 have op:Over Hx Hp:=hHp▸.ext _ _
 have pP:Hp.live Hx.next 0=some (87,[.lit (.int .i64 x.card),.vec x.parents.length (ints x.parents),yr]):=by rw[hHp];exact ah bX
 refine W.en (fun E5=>E5 1=aj p /\ E5 2=.ptr H.next 0 0 /\ E5 4=.ptr (H.next+1) 0 0 /\ E5 5=.ptr Hf.next 0 0 /\ E5 6=af (aW (az d)) /\ E5 7=aa k /\ E5 8=.ptr Hx.next 0 0) (by simp only[go_sem,a1,a2,a4,a5,a6,a7]) fun E5 ⟨c1,c2,c4,c5,c6,c7,c8⟩=>?_
 rw[<- hHp];clear hHp;refine W.sq ?_;simp only[go_sem,c8,pP];obtain⟨Hq,hHq⟩:∃Hq,Hq=Hp.upd Hx.next (.arr 0 87 [.lit (.int .i64 x.card),.vec x.parents.length (ints x.parents),.lit (.slice none 0 0)]):=⟨_,rfl⟩
 have nq:Hq.next=Hx.next+1:=by rw[hHq,au];exact np
 have qo:∀i,i<Hx.next->Hq.get i=Hx.get i:=fun i h=>by rw[hHq,ae,SI (by omega)];exact op.old i h
 have qP:Hq.get Hx.next=some (.arr 0 87 [.lit (.int .i64 x.card),.vec x.parents.length (ints x.parents),.lit (.slice none 0 0)]):=by rw[hHq,ae,SK rfl]
 rw[<- hHq];clear hHq;have hcx:=hok.n.card x (SE hx);obtain⟨cn,hcn⟩:=SR (show 0<=x.card by omega);have hlg:(p.map af)[k]?=some (af l):=by rw[List.getElem?_map,hl];rfl
 have hpne:=aJ hl;have hpk:(k:Int)<p.length:=by have:=get_lt hl;omega
 have hl38:=hpf.2 l (SE hl);obtain⟨rws,hrws⟩:∃rws:List (List AVal),rws=l.map fun a=>ints (bI d.grain x.card a):=⟨_,rfl⟩
 refine W.seq ?_;refine W.me (Q':=fun e s2=>e=.normal/\∃rq,s2.ρ 1=aj p/\s2.ρ 2=.ptr H.next 0 0/\s2.ρ 4=.ptr (H.next+1) 0 0/\s2.ρ 5=.ptr Hf.next 0 0/\s2.ρ 6=af (aW (az d))/\s2.ρ 7=aa k/\s2.ρ 8=.ptr Hx.next 0 0/\Hq.next<=s2.H.next/\(∀i,i<Hx.next->s2.H.get i=Hx.get i)/\s2.H.get Hx.next=some (.arr 0 87 [.lit (.int .i64 x.card),.vec x.parents.length (ints x.parents),rq])/\eY Hq.next s2.H 42 3 rq rws) ?_ ?_;rotate_left
 ·rintro e s2 ⟨rfl,rq,r1,r2,r4,r5,r6,r7,r8,hn2,ho2,hP2,hO2⟩;obtain⟨x',hx'⟩:∃x':NodeP,x'={ x with rows:=di d.grain d.nodes (fixC p) k x }:=⟨_,rfl⟩
  have hrx:rws=x'.rows.map ints:=by
   rw[hrws,hx'];show _=(di d.grain d.nodes (fixC p) k x).map ints;unfold di;rw[UW,<- ll];apply Ti;intro i;rcases S9 i l.length with h|h
   ·obtain⟨b,hb'⟩:=get_of_lt h;rw[List.getElem?_map,List.getElem?_map,hb',Tc h];have:fixC p k i=b:=(by unfold fixC;simp[S2,hl,hb']);simp[this]
   ·rw[SQ (by simpa using h),SQ (by simpa using h)]
  have hv':=hO2.fz (S:=fun i=>Hq.next<=i) (nx:=s2.H.next) (rows':=rws) (fun _ h=>h) rfl fun j r r' h1 h2=>by
   rw[h1]at h2;cases h2;refine⟨rfl,fun i hi _=>?_⟩;have hrm:=SE h1;rw[hrws]at hrm;obtain⟨b,_,rfl⟩:=SY.1 hrm;simp only[ints,SV];exact .lit _
  have hvv:(AVal.vec rws.length (rws.map fun r=>.vec r.length r))=aj x'.rows:=by
   rw[hrx];unfold aj af;rw[SM,UW];congr 1;refine Th fun r _=>?_;show AVal.vec (ints r).length (ints r)=_;rw[aH]
  rw[hvv]at hv';refine⟨⟨s2.ρ,s2.H.gT Hq.next Hx.next (.arr 0 87 [.lit (.int .i64 x.card),.vec x.parents.length (ints x.parents),aj x'.rows])⟩,cJ.gT aE hP2 (by omega) rfl (fun i hi _=>?_),Nat.le_refl _,trivial,?_⟩
  ·match i,hi with
   |0,_=>exact .lit _
   |1,_=>exact .cI _
   |2,_=>exact hv'
  obtain⟨He,hHe⟩:∃He,He=s2.H.gT Hq.next Hx.next (.arr 0 87 [.lit (.int .i64 x.card),.vec x.parents.length (ints x.parents),aj x'.rows]):=⟨_,rfl⟩
  rw[<- hHe];have gPe:He.get Hx.next=some (.arr 0 87 [.lit (.int .i64 x.card),.vec x.parents.length (ints x.parents),aj x'.rows]):=by rw[hHe];exact Cr (by omega)
  have hoe:∀i,i<Hx.next->He.get i=Hx.get i:=fun i h=>by rw[hHe,Cs (by omega) (by omega)];exact ho2 i h
  have hne':He.next=s2.H.next:=by rw[hHe];rfl
  clear hHe hv' hP2 hO2;have lPe:=ah gPe;have lNe:=ah ((hoe Hf.next (by omega)).trans ((hold Hf.next (by omega) (by omega)).trans dN));have lxe:=ah ((hoe id (by omega)).trans xid);simp only[go_sem];refine W.dr 7 [0,1,0,0,12,28,0] mixed ?_;simp only[go_sem,r5,r6,r7,r8,lPe,lNe,lxe,hdl,hdk,hdne,hb,hvb,hv3];have w1:=SF ((k:Int)+1) (by omega);refine W.vs ?_;simp only[go_sem,r7,w1];refine⟨by rw[au];omega,⟨k+1,_,rfl,by omega,by rw[au];omega,fun i h1 h2=>by rw[ae,SI h2,hoe i (by omega)];exact hold i h1 h2,by rw[ae,SK rfl],?_⟩,by rw[q7];simp only[aa,aM];omega⟩;rw[RS hok hv hx,<- hx'];have e1:x'.card=x.card:=by rw[hx']
  have e2:x'.parents=x.parents:=by rw[hx']
  have:=xQ.set (v:=v) (y:=x') (rv:=aj x'.rows) (by rw[dB];exact v1) (.inl rfl) fun h=>h.elim;rw[e1,e2]at this;exact this
 refine W.sq ?_;simp only[go_sem];refine W.block ?_;refine W.en (fun E6=>E6 1=aj p /\ E6 2=.ptr H.next 0 0 /\ E6 4=.ptr (H.next+1) 0 0 /\ E6 5=.ptr Hf.next 0 0 /\ E6 6=af (aW (az d)) /\ E6 7=aa k /\ E6 8=.ptr Hx.next 0 0 /\ E6 9=aa 0) (by simp only[go_sem,c1,c2,c4,c5,c6,c7,c8]) fun E6 ⟨d1',d2',d4',d5',d6',d7',d8',d9'⟩=>?_
 refine W.aG 576460751229683200 (by rfl) (fun ρ3 Hy=>∃(j:Nat) (rq:AVal),ρ3 9=aa j/\j<=l.length/\Hq.next<=Hy.next/\(∀i,i<Hx.next->Hy.get i=Hx.get i)/\Hy.get Hx.next=some (.arr 0 87 [.lit (.int .i64 x.card),.vec x.parents.length (ints x.parents),rq])/\eY Hq.next Hy 42 3 rq (rws.take j)) (fun ρ3 H=>l.length-(iv (ρ3 9)).toNat) ?_ ?_
 ·simp only[go_sem,d9'];exact⟨0,_,rfl,by omega,qo,qP,.nil⟩
 rintro ρ3 Hy ⟨j,rq,t9,hj,hny,hyo,hyP,hOy⟩;refine W.en (fun E7=>E7 1=aj p /\ E7 2=.ptr H.next 0 0 /\ E7 4=.ptr (H.next+1) 0 0 /\ E7 5=.ptr Hf.next 0 0 /\ E7 6=af (aW (az d)) /\ E7 7=aa k /\ E7 8=.ptr Hx.next 0 0 /\ E7 9=aa j) (by simp only[go_sem,d1',d2',d4',d5',d6',d7',d8',t9]) fun E7 ⟨v1',v2',v4',v5',v6',v7',v8',v9'⟩=>?_
 by_cases hc:(j:Int)<l.length;rotate_left
 ·refine W.vs ?_;simp only[go_sem,v1',v2',v4',v5',v6',v7',v8',v9',aj,hlg,hpne,hpk,hc];rw[SH (by rw[hrws,SM];omega)]at hOy;exact⟨rq,hny,hyo,hyP,hOy⟩
 obtain⟨a,ha⟩:=get_of_lt (l:=l) (i:=j) (by omega);have har:=lr a (SE ha);obtain⟨aN,haN⟩:=SR har.1;have hlne:=aJ ha;have yP:=ah hyP;rw[hcn]at yP;have y0:=ah ((hyo H.next (by omega)).trans ((hold H.next (by omega) (by omega)).trans d0));have y0e:∀L,(ext Hy L).live H.next 0=_:=fun L=>(dh (by omega)).trans y0;have yPe:∀L,(ext Hy L).live Hx.next 0=_:=fun L=>(dh (by omega)).trans yP;have hcn0:(0:Int)<cn:=by omega
 have hcn2:(cn:Int) >= 0:=by omega
 refine W.sq ?_;simp only[go_sem,v1',v7',v9',aj,hlg,hpne,hpk,hc];refine W.seq (W.block ?_);refine W.sq ?_;simp only[go_sem,v8',yP,hcn2];refine⟨by omega,?_⟩;have haN':aN<cn:=by omega
 have hun:=RT (g:=d.grain) hcn haN';have hul:(bI d.grain x.card aN).length=cn:=by rw[sQ,hcn];rfl
 have zl:(List.replicate cn (AVal.lit (.int .i64 0))).length=cn:=S6;have zne:¬List.replicate cn (AVal.lit (.int .i64 0))=[]:=fun h=>by rw[h]at zl;simp at zl;omega
 have hab:(aN:Int)<cn:=by omega
 obtain⟨Hu,hHu⟩:∃Hu,Hu=ext Hy [.arr 0 3 (List.replicate cn (.lit (.int .i64 0)))]:=⟨_,rfl⟩
 have nu:Hu.next=Hy.next+1:=hHu▸rfl
 have uo:∀i,i<Hy.next->Hu.get i=Hy.get i:=fun i h=>by rw[hHu];exact dv _ _ _ h
 have uP:=ah ((uo Hx.next (by omega)).trans hyP);have u0:=ah ((uo H.next (by omega)).trans ((hyo H.next (by omega)).trans ((hold H.next (by omega) (by omega)).trans d0)));have uR:Hu.live Hy.next 0=some (3,List.replicate cn (.lit (.int .i64 0))):=by rw[hHu];exact ah bX
 rw[<- hHu];refine W.seq ?_;refine W.dr 10 [0,0,0,6,14,0,62,126,0,256] mixed ?_;simp only[go_sem,v1',v2',v7',v9',u0,uR,aj,hlg,hpne,hpk,ha,haN,hlne,hc,zl,hab,hun];refine⟨by omega,?_⟩;obtain⟨Hw,hHw⟩:∃Hw,Hw=Hu.upd Hy.next (.arr 0 3 (ints (bI d.grain x.card aN))):=⟨_,rfl⟩
 have hwn:Hw.next=Hy.next+1:=by rw[hHw,au];exact nu
 have hwo:Over Hy Hw:=⟨by omega,fun i h=>by rw[hHw,ae,SI (by omega)];exact uo i h⟩
 have hwg:Hw.get Hy.next=some (.arr 0 3 (ints (bI d.grain x.card aN))):=by rw[hHw,ae,SK rfl]
 have wP:=ah ((hwo.old Hx.next (by omega)).trans hyP);obtain⟨rq',Hj,hA,hO',hnj,hpj⟩:=eY.app (P:=prog) (H:=Hw) (n:=Hw.next+1) (t:=33) (x:=.own Hy.next 0 0 cn 1) (r:=ints (bI d.grain x.card aN)) Tryz.underlying33 Tryz.jv Tryz.jH Tryz.jG (by decide) (by rw[SN];omega) (hOy.over hwo) (by omega) (.inr ⟨Hy.next,0,by omega,by omega,by rw[aH,hul],hwg⟩) rfl;have keep:∀id,id<Hq.next->Hj.get id=Hy.get id:=fun id h=>(hpj id (by omega) h).trans (hwo.old id (by omega));have jP:=ah ((keep _ (by omega)).trans hyP);have hO'2:=hO';obtain⟨cs',hcs'⟩:=hO'2;have rc:=hcs'.1.cells;have ro:=hcs'.1.one;rw[<- hHw];have w3:=SF ((j:Int)+1) (by omega);refine W.vs ?_;simp only[go_sem,v8',wP,hA,jP,rc,ro];refine W.vs ?_;simp only[go_sem,v9',w3];refine⟨by rw[au];omega,⟨j+1,rq',rfl,by omega,by rw[au];omega,fun id h=>by rw[ae,SI (by omega),keep id (by omega)];exact hyo id h,by rw[ae,SK rfl],?_⟩,by rw[t9];simp only[aa,aM];omega⟩;have hr1:rws[j]?=some (ints (bI d.grain x.card aN)):=by rw[hrws,List.getElem?_map,ha,haN];rfl
 rw[aL hr1];exact hO'.upd (by omega)
theorem RU (d:InfP)(cs:List AVal)(hq:NodesQ (fun v=>d.decs.testBit v=true) d.nodes cs)(hf:InfFit d)(hok:InfOk d)(h6:d.nodes.length<=6)(p:List (List Int))(hp:PolOk d p)(H:AHeap)(K:ARes->AHeap->Prop)(hK:K (.ret (aa (bW d p))) H):
  ag prog G0 48 [dw d cs,aj p] H K:=by
 refine ag.clo ⟨_,func48,rfl,rfl⟩ fun hcl=>?_;obtain⟨ns,hns⟩:∃ns,ns=bG d (fixC p):=⟨_,rfl⟩
 have hn:NetOk d.grain ns:=by rw[hns];exact vr hok (po hp)
 have hnl:d.nodes.length=ns.length:=by rw[hns,dB]
 have h8:ns.length<=8:=hn.n1.2;have hc4:∀y∈ns,1<=y.card/\y.card<=4:=fun y hy=>(hn.node y hy).1;have hc1:∀c∈ak ns,1<=c:=fun c hc=>by
  obtain⟨x,hx,rfl⟩:=SY.1 hc;exact(hn.node x hx).1.1
 have hu:∀u∈d.utils,UtilOk ns u:=by rw[hns];exact fun u hu=>vu (hok.utils.2 u hu)
 have hu4:=hok.utils.1;obtain⟨hw1,hw2⟩:=uX hn;have hbd:=CK hn (by omega) hu hu4;have hsum:bW d p=fK ns d.utils (bh ns):=by rw[hns];unfold bW;rw[sP]
 rw[hsum]at hK;refine ag.sw (n:=33) (rs:=[.tmp 4]) func48 ?_;refine W.sq ?_;simp only[go_sem,im,gG];obtain⟨R,hR⟩:∃R,R=ext H [.arr 0 38 [.lit (.int .i64 d.grain),.vec d.nodes.length cs,.lit (.int .u64 (d.decs:Int)),.vec d.utils.length (aO d.utils)]]:=⟨_,rfl⟩
 have oR:Over H R:=hR▸.ext _ _
 have nR:R.next=H.next+1:=hR▸rfl
 have l0:R.live H.next 0=some (38,[.lit (.int .i64 d.grain),.vec d.nodes.length cs,.lit (.int .u64 (d.decs:Int)),.vec d.utils.length (aO d.utils)]):=by rw[hR];exact ah (cq ..)
 rw[<- hR];clear hR;refine W.en (fun E=>E 1=aj p /\ E 2=.ptr H.next 0 0) (by simp only[go_sem]) fun E ⟨e1,e2⟩=>?_
 refine W.sq ?_;simp only[go_sem,e1,e2,l0];refine aw.clo (Ee d cs hq hf hok p hp _ _ ⟨trivial,?_⟩);rw[<- hns];simp only[go_sem,bL,cE];obtain⟨R2,hR2⟩:∃R2,R2=ext R [.arr 0 81 [.lit (.int .i64 d.grain),.vec ns.length (aF ns)]]:=⟨_,rfl⟩
 have o2:Over R R2:=hR2▸.ext _ _
 have l2:R2.live (H.next+1) 0=some (81,[.lit (.int .i64 d.grain),.vec ns.length (aF ns)]):=by rw[hR2,<- nR];exact ah bX
 have k0:R2.live H.next 0=_:=(o2.live (by omega)).trans l0;rw[<- hR2];clear hR2;refine W.en (fun E2=>E2 2=.ptr H.next 0 0 /\ E2 5=.ptr (H.next+1) 0 0) (by simp only[go_sem,e2,nR]) fun E2 ⟨f2,f5⟩=>?_
 refine W.sq ?_;simp only[go_sem,f5,l2];refine aw.clo (pt d.grain ns (by omega) _ _ ⟨trivial,?_⟩);simp only[go_sem];refine W.sq ?_;simp only[go_sem];refine W.seq ?_;refine W.sq ?_;simp only[go_sem];refine W.block ?_;refine W.env fun E3 hE3=>?_;have g2:E3 2=.ptr H.next 0 0:=by rw[hE3];simp only[go_sem,f2]
 have g5:E3 5=.ptr (H.next+1) 0 0:=by rw[hE3];simp only[go_sem,f5]
 have g6:E3 6=af (ak ns):=by rw[hE3];simp only[go_sem]
 have g7:E3 7=aa 0:=by rw[hE3];simp only[go_sem]
 have g8:E3 8=aa 0:=by rw[hE3];simp only[go_sem]
 clear hE3;refine W.aG 4294951296 (by rfl) (fun ρ Hx=>Hx=R2/\∃k:Nat,ρ 8=aa k/\k<=bh ns/\ρ 7=aa (fK ns d.utils k)) (fun ρ H=>bh ns-(iv (ρ 8)).toNat) ?_ ?_
 ·simp only[go_sem,g7,g8];exact⟨0,rfl,by omega,by simp[fK]⟩
 rintro ρ Hx ⟨rfl,k,h8',hk,h7⟩;refine W.en (fun E4=>E4 2=.ptr H.next 0 0 /\ E4 5=.ptr (H.next+1) 0 0 /\ E4 6=af (ak ns) /\ E4 7=aa (fK ns d.utils k) /\ E4 8=aa k) (by simp only[go_sem,g2,g5,g6,h7,h8']) fun E4 ⟨a2,a5,a6,a7,a8⟩=>?_
 have hwi:ao (ak ns)=(bh ns:Int):=hw2.symm;by_cases hb:(k:Int)<bh ns;rotate_left
 ·obtain rfl:k=bh ns:=by omega
  refine W.vs ?_;simp only[go_sem,a5,a8,l2];refine aw.clo (vv d.grain ns h8 hc4 _ _ ⟨trivial,?_⟩);simp only[go_sem,hwi,hb];refine W.vs ?_;simp only[go_sem,a7];exact ar.aV aE hcl (oR.trans o2) (.lit _) hK
 have hfv:=kM hc1 (k:Int);have wb:=CJ hn (by omega) hfv;have ub:=mM hu hu4 (aR (ak ns) k) d.utils.length;rw[SH (Nat.le_refl _)]at ub;have tb:=ym hn (by omega) hu hu4 hfv d.utils.length;rw[SH (Nat.le_refl _)]at tb;have b0:=hbd k;have b1:=hbd (k+1);have ss:=yb ns d.utils k;rw[Uf]at tb ss;obtain⟨t,ht⟩:∃t,t=bt ns d.utils (aR (ak ns) k)*weight ns (aR (ak ns) k):=⟨_,rfl⟩
 rw[<- ht]at tb ss;have wt:=SF t (by omega);have ws:=SF (fK ns d.utils k+t) (by omega);have w1:=SF ((k:Int)+1) (by omega);refine W.sq ?_;simp only[go_sem,a5,a8,l2];refine aw.clo (vv d.grain ns h8 hc4 _ _ ⟨trivial,?_⟩);simp only[go_sem,hwi,hb];refine W.seq (W.block ?_);refine W.dr 11 [0,0,0,0,0,24,62,0,0,510,1022] mixed ?_;simp only[go_sem,a2,a5,a6,a7,a8,k0,l2];refine⟨_,[],bf.pure fun H3=>yD d.grain ns h8 hc4 k (by omega) H3 _ ⟨rfl,rfl⟩,?_⟩;simp only[go_sem];refine⟨_,[],bf.pure fun H3=>Ec d cs ns hnl (aR (ak ns) k) h8 hc4 hu hu4 hfv H3 _ ⟨rfl,rfl⟩,?_⟩;simp only[go_sem];refine⟨_,[],bf.pure fun H3=>Dp d.grain ns hn k (by omega) H3 _ ⟨rfl,rfl⟩,?_⟩;simp only[go_sem,a2,a5,a6,a7,a8,<- ht,wt,ws];refine W.vs ?_;simp only[go_sem,a8,w1];exact⟨⟨k+1,rfl,by omega,by rw[ss]⟩,by rw[h8'];simp only[aa,aM];omega⟩
theorem RV (d:InfP)(cs:List AVal)(hq:NodesQ (fun v=>d.decs.testBit v=true) d.nodes cs)(hf:InfFit d)(hok:InfOk d)(h6:d.nodes.length<=6)(p:List (List Int))(hp:PolOk d p)(H:AHeap)(K:ARes->AHeap->Prop)(hK:K (.ret (ke d p)) H):
  ag prog G0 16 [dw d cs,aj p] H K:=by
 refine ag.clo ⟨_,func16,rfl,rfl⟩ fun hcl=>?_;have hg:=hok.net.g1;have h8:=hok.n.n1.2;have hpw:=zq hg d.nodes.length h8;have hsb:=CL h6 p hok hp (bh d.nodes) (Nat.le_refl _);have hs:fK (bG d (fixC p)) d.utils (bh d.nodes)=bW d p:=rfl;rw[hs]at hsb;rw[yp hok hp]at hK;refine ag.st (n:=11) (rs:=[.cell 4 50]) func16 ?_;simp only[go_sem,im,gG];obtain⟨R,hR⟩:∃R,R=ext H [.arr 0 38 [.lit (.int .i64 d.grain),.vec d.nodes.length cs,.lit (.int .u64 (d.decs:Int)),.vec d.utils.length (aO d.utils)],.arr 0 50 [.lit (.int .i64 0),.lit (.int .i64 0)]]:=⟨_,rfl⟩
 have oR:Over H R:=hR▸.ext _ _
 have l0:R.live H.next 0=some (38,[.lit (.int .i64 d.grain),.vec d.nodes.length cs,.lit (.int .u64 (d.decs:Int)),.vec d.utils.length (aO d.utils)]):=by rw[hR];exact ah (cq ..)
 have l1:R.live (H.next+1) 0=some (50,[.lit (.int .i64 0),.lit (.int .i64 0)]):=by rw[hR];exact ah (bD H _ 1 (by simp))
 rw[<- hR];clear hR;have hra:∃a b:Int,dV (bW d p) (d.grain ^ d.nodes.length)=.agg [.lit (.int .i64 a),.lit (.int .i64 b)]:=⟨_,_,rfl⟩
 obtain⟨ra,rb,hrr⟩:=hra;refine W.dr 4 [0,0,3,0] mixed ?_;simp only[go_sem,l0];refine⟨_,[],bf.pure fun H3=>RU d cs hq hf hok h6 p hp H3 _ ⟨rfl,rfl⟩,?_⟩;simp only[go_sem];refine aw.clo (RO d cs hg h8 _ _ ⟨trivial,?_⟩);simp only[go_sem];refine aw.clo (R01.PZ (bW d p) (d.grain ^ d.nodes.length) (by omega) (by omega) _ _ ⟨trivial,?_⟩);rw[hrr]at hK ⊢;simp only[go_sem,l1];refine ar.aV aE hcl (oR.upd (by omega) _) (.agg rfl fun i hi _=>?_) hK
 match i,hi with
 |0,_=>exact .lit _
 |1,_=>exact .lit _
end Go.Proofs
namespace Go.Hx
open Go.Proofs (get_lt get_of_lt)
variable {P:Program} {H:AHeap} {G:Nat->Option (List AVal)}
def dR (lo:Nat)(H:AHeap)(e1 e0:TypeId)(v:AVal)(rows:List (List AVal)):Prop :=
 ∃cs:List AVal,ay lo H e1 v cs/\cs.length=rows.length/\(∀(j:Nat) (r:List AVal) (c:AVal),rows[j]?=some r->cs[j]?=some c->ay lo H e0 c r)/\∀(i j a g g' n n':Nat),cs[i]?=some (.own a g 0 n 1)->cs[j]?=some (.own a g' 0 n' 1)->i=j
theorem dR.nil {lo:Nat}{e1 e0:TypeId}:dR lo H e1 e0 (.lit (.slice none 0 0)) []:=⟨[],.nil,rfl,fun j r c h=>by simp at h,fun i j a g g' n n' h=>by simp at h⟩
theorem dR.De {lo:Nat}{e1 e0:TypeId}{v:AVal}{rows:List (List AVal)}(h:dR lo H e1 e0 v rows):eY lo H e1 e0 v rows :=
 let ⟨cs,a,b,c,_⟩:=h;⟨cs,a,b,c⟩
theorem dR.lo {lo lo':Nat}{e1 e0:TypeId}{v:AVal}{rows:List (List AVal)}(h:dR lo H e1 e0 v rows)(hl:lo'<=lo):dR lo' H e1 e0 v rows :=
 let ⟨cs,a,b,c,d⟩:=h;⟨cs,a.keep hl (Nat.le_refl _) fun _ _ _ _ _ _=>rfl,b,fun j r q h1 h2=>(c j r q h1 h2).keep hl (Nat.le_refl _) fun _ _ _ _ _ _=>rfl,d⟩
theorem dR.app {Hx:AHeap}{lo n:Nat}{e1 e0:TypeId}{v x:AVal}{rows:List (List AVal)}{r:List AVal}{t:TypeId}{z:List AVal}(ht:P.underlying t=some (.slice e1))(hz:P.cellsOf e1=1)(hzero:bR P e1=some z)(hby:P.bytesOf e1=24)(hne:e1≠e0)
  (hb:rows.length<2 ^ 40) (h:dR lo Hx e1 e0 v rows) (ho:Over Hx H) (hlo:lo<=Hx.next) (hx:ay Hx.next H e0 x r) (hn:n=H.next+1):
  ∃v' H',bM P (ext H [.arr 0 e1 [x]]) n t t v (.own H.next 0 0 1 1)=some (v',H')/\dR lo H' e1 e0 v' (rows++[r])/\H.next<=H'.next/\(∀k,k<H.next->k<lo->H'.get k=H.get k):=by
 obtain⟨cs,h1,h2,h3,h4⟩:=h;have hon:=ho.next;have h1':=h1.over ho;obtain⟨v',H',hA,hO,hL,hp⟩:=fW (P:=P) (t:=t) ht hz hzero hx.one (by rw[hby,h2];omega) h1' (by omega) hn;have key:∀lo' u l,ay lo' H e0 u l->ay lo' H' e0 u l:=fun lo' u l hu=>h1'.rP hu hne hL hp;have split:∀(j:Nat) (c:AVal),(cs++[x])[j]?=some c->(j<cs.length/\cs[j]?=some c)\/(j=cs.length/\c=x):=fun j c hc=>by
  rcases S9 j cs.length with hj|hj
  ·rw[SU hj]at hc;exact .inl ⟨hj,hc⟩
  ·have:=get_lt hc;rw[List.length_append,T0]at this;have hj:j=cs.length:=(by omega);subst hj;rw[SZ (Nat.le_refl _),Ut]at hc;exact .inr ⟨rfl,(Option.some.inj hc).symm⟩
 have old:∀(j a g m:Nat),cs[j]?=some (.own a g 0 m 1)->a<Hx.next:=fun j a g m hc=>by
  obtain⟨r',hr'⟩:∃r',rows[j]?=some r':=⟨_,SJ (by rw[<- h2];exact get_lt hc)⟩
  rcases h3 j r' _ hr' hc with ⟨e,_⟩|⟨i,g',_,b,e,_⟩
  ·cases e
  ·rw[(AVal.own.inj e).1];exact b
 have new:∀a g m,x=.own a g 0 m 1->Hx.next<=a:=fun a g m he=>by
  rcases hx with ⟨e,_⟩|⟨i,g',b,_,e,_⟩
  ·rw[e]at he;cases he
  ·rw[e]at he;rw[<- (AVal.own.inj he).1];exact b
 refine⟨v',H',hA,⟨cs++[x],hO,by simp[h2],fun j r' c hr hc=>?_,fun i j a g g' m m' hi hj=>?_⟩,hL,fun k hk hkl=>hp k hk (h1.ne hkl)⟩
 ·rcases split j c hc with ⟨a,b⟩|⟨a,b⟩
  ·rw[SU (by omega)]at hr;exact key _ _ _ ((h3 j r' c hr b).over ho)
  ·rw[a,h2,SZ (Nat.le_refl _),Ut]at hr;cases hr;rw[b];exact key _ _ _ (hx.keep hlo (Nat.le_refl _) fun _ _ _ _ _ _=>rfl)
 ·rcases split i _ hi with ⟨a1,b1⟩|⟨a1,b1⟩<;>rcases split j _ hj with ⟨a2,b2⟩|⟨a2,b2⟩
  ·exact h4 i j a g g' m m' b1 b2
  ·have:=old i a g m b1;have:=new a g' m' b2.symm;omega
  ·have:=old j a g' m' b2;have:=new a g m b1.symm;omega
  ·omega
theorem dR.row {lo:Nat}{e1 e0:TypeId}{v:AVal}{rows:List (List AVal)}(h:dR lo H e1 e0 v rows)(hne:e1≠e0){k:Nat}{r:List AVal}(hr:rows[k]?=some r)(h0:r≠[]):
  ∃idt gt idr gr cells,v=.own idt gt 0 rows.length 1/\H.get idt=some (.arr gt e1 cells)/\cells.length=rows.length/\lo<=idt/\idt<H.next/\cells[k]?=some (.own idr gr 0 r.length 1)/\H.get idr=some (.arr gr e0 r)/\lo<=idr/\idr<H.next /\
   ∀r':List AVal,r'.length=r.length->dR lo (H.upd idr (.arr gr e0 r')) e1 e0 v (rows.set k r'):=by
 obtain⟨cs,h1,h2,h3,h4⟩:=h;have hk:=get_lt hr;obtain⟨c,hc⟩:=get_of_lt (l:=cs) (i:=k) (by omega);rcases h3 k r c hr hc with ⟨_,e⟩|⟨idr,gr,a1,a2,e,a4⟩
 ·exact absurd e h0
 rcases h1 with ⟨_,e'⟩|⟨idt,gt,b1,b2,e',b4⟩
 ·rw[e']at h2;simp at h2;omega
 subst e;have hit:idt≠idr:=fun e=>by rw[e,a4]at b4;cases b4;exact hne rfl
 refine⟨idt,gt,idr,gr,cs,by rw[e',h2],b4,h2,b1,b2,hc,a4,a1,a2,fun r' hl=>⟨cs,.inr ⟨idt,gt,b1,by rw[au];exact b2,e',by rw[ae,SI hit];exact b4⟩,by rw[SO];exact h2,fun j q c' hj hc'=>?_,h4⟩⟩;by_cases e:j=k
 ·subst e;rw[SX hk]at hj;rw[hc]at hc';cases hj;cases hc';exact .inr ⟨idr,gr,a1,by rw[au];exact a2,by rw[hl],by rw[ae,SK rfl]⟩
 ·rw[S3 (fun h=>e h.symm)]at hj;refine(h3 j q c' hj hc').keep (Nat.le_refl _) (by rw[au];exact Nat.le_refl _) fun i g _ _ _ hv=>?_;rw[ae,SI];rintro rfl;rw[hv]at hc';exact e (h4 j k i g gr _ _ hc' hc)
end Go.Hx
namespace Go.Proofs
open Go.Hx Tryz
theorem Df {S:Nat->Prop}{lo nx:Nat}{H:AHeap}{e1 e0:TypeId}{v:AVal}{ps:List (List Int)}(h:eY lo H e1 e0 v (ps.map ints))(hS:∀i,lo<=i->S i):Fz S H nx v (aj ps):=by
 have:=h.fz (S:=S) (nx:=nx) (rows':=ps.map ints) hS rfl fun j r r' h1 h2=>by
  rw[h1]at h2;cases h2;refine⟨rfl,fun i hi _=>?_⟩;rw[List.getElem?_map]at h1;obtain⟨z,_,rfl⟩:=SG.1 h1;have e0:(ints z)[i]?=some (ints z)[i]:=SJ hi;generalize (ints z)[i]=a at e0 ⊢;rw[ij]at e0;obtain⟨b,_,rfl⟩:=SG.1 e0;exact .lit _
 rw[SM,UW]at this;have e:(ps.map ((fun r:List AVal=>AVal.vec r.length r) ∘ ints))=ps.map af:=Th fun z _=>by simp[Function.comp,af,aH]
 rw[e]at this;exact this
def pA (d:InfP)(v:Int):Int:=if v∈aW (az d) then ((aW (az d)).idxOf v:Nat) else -1
theorem Sv {d:InfP}{v:Nat}(hv:v∈az d):pA d (v:Int)=(aU d.decs v:Nat):=by
 obtain⟨v1,v2⟩:=eI.1 hv;have hm:(v:Int)∈aW (az d):=SY.2 ⟨v,hv,rfl⟩;unfold pA;rw[SK hm,yT (k:=aU d.decs v)]
 ·intro j hj b hb;unfold aW at hb;rw[List.getElem?_map]at hb;obtain⟨w,hw,rfl⟩:=SG.1 hb;intro e;have e':w=v:=by omega
  subst e';have:=(eE hw).2.2;omega
 ·unfold aW;rw[List.getElem?_map];have:=kQ v1 v2;rw[show (az d)[aU d.decs v]?=some v from this];rfl
theorem Sw (d:InfP)(cs:List AVal)(hd:d.decs<2 ^ 64)(hl:(d.nodes.length:Int)<2 ^ 39)(v:Int)(H:AHeap)(K:ARes->AHeap->Prop)(hK:K (.ret (aa (pA d v))) H):ag prog G0 124 [dw d cs,aa v] H K:=by
 refine ag.clo ⟨_,func124,rfl,rfl⟩ fun hcl=>?_;refine ag.sw (n:=22) (rs:=[.tmp 4]) func124 ?_;refine W.sq ?_;simp only[go_sem,im,gG];obtain⟨H1,hH1⟩:∃H1,H1=ext H [.arr 0 38 [.lit (.int .i64 d.grain),.vec d.nodes.length cs,.lit (.int .u64 (d.decs:Int)),.vec d.utils.length (aO d.utils)]]:=⟨_,rfl⟩
 have l1:=ah (show H1.get H.next=some (.arr 0 38 [.lit (.int .i64 d.grain),.vec d.nodes.length cs,.lit (.int .u64 (d.decs:Int)),.vec d.utils.length (aO d.utils)]) by rw[hH1];exact cq ..);have o1:Over H H1:=hH1▸.ext _ _
 rw[<- hH1];clear hH1;refine W.en (fun E=>E 1=aa v /\ E 2=.ptr H.next 0 0) (by simp only[go_sem]) fun E ⟨e1,e2⟩=>?_
 refine W.sq ?_;simp only[go_sem,e2,l1];refine aw.clo (vg d cs hd hl _ _ ⟨trivial,?_⟩);simp only[go_sem];refine W.env fun E1 hE1=>?_;have f1:E1 1=aa v:=by rw[hE1];simp only[go_sem,e1]
 have f5:E1 5=af (aW (az d)):=by rw[hE1];simp only[go_sem]
 clear hE1 e1 e2;have hdl:(aW (az d)).length=(az d).length:=by simp[aW]
 have hdn:(az d).length<=d.nodes.length:=fY;refine W.seq ?_;refine W.sq ?_;simp only[go_sem];refine W.block ?_;refine W.aG 4193872 (by rfl) (fun ρ Hx=>Hx=H1/\∃k:Nat,ρ 6=aa k/\k<=(aW (az d)).length/\∀j,j<k->∀b,(aW (az d))[j]?=some b->b≠v) (fun ρ H=>(aW (az d)).length-(iv (ρ 6)).toNat) ?_ ?_
 ·simp only[go_sem];exact⟨0,rfl,by omega,fun j h=>absurd h (S4 _)⟩
 rintro ρ Hx ⟨rfl,k,h6,hk,hne⟩;refine W.en (fun E2=>E2 1=aa v /\ E2 5=af (aW (az d)) /\ E2 6=aa k) (by simp only[go_sem,f1,f5,h6]) fun E2 ⟨g1,g5,g6⟩=>?_
 by_cases hb:(k:Int)<(aW (az d)).length;rotate_left
 ·have hno:pA d v=-1:=by
   unfold pA;rw[SI];intro hm;obtain⟨j,hj⟩:=SW.1 hm;exact hne j (by have:=get_lt hj;omega) _ hj rfl
  rw[hno]at hK;refine W.vs ?_;simp only[go_sem,g5,g6,hb];refine W.vs ?_;simp only[go_sem];exact ar.aV aE hcl o1 (.lit _) hK
 obtain⟨a,ha⟩:=get_of_lt (l:=aW (az d)) (i:=k) (by omega);have hane:=aJ ha;have w1:=SF ((k:Int)+1) (by omega);refine W.vs ?_;by_cases hav:a=v
 ·subst hav;have hyes:pA d a=(k:Int):=by
   unfold pA;rw[SK (SE ha),yT hne ha]
  rw[hyes]at hK;simp only[go_sem,g1,g5,g6,hb,ha,hane];exact ar.aV aE hcl o1 (.lit _) hK
 ·simp only[go_sem,g1,g5,g6,hb,ha,hane,hav,w1];refine⟨⟨k+1,rfl,by omega,fun j hj b hjb=>?_⟩,by rw[h6];simp only[aa,aM];omega⟩;by_cases hjk:j=k
  ·subst hjk;rw[ha]at hjb;cases hjb;exact hav
  ·exact hne j (by omega) b hjb
theorem Sx (p:List (List Int))(hp:ji p)(H:AHeap)(K:ARes->AHeap->Prop)(hK:∀v H',Over H H'->dR H.next H' 42 3 v (p.map ints)->K (.ret v) H'):ag prog G0 125 [aj p] H K:=by
 refine ag.clo ⟨_,func125,rfl,rfl⟩ fun hcl=>?_;refine ag.st (n:=21) (rs:=[.tmp 2]) func125 ?_;simp only[go_sem,aj];refine W.aG 1048568 (by rfl) (fun ρ Hx=>∃k:Nat,ρ 4=aa k/\k<=p.length/\Over H Hx/\dR H.next Hx 42 3 (ρ 3) ((p.take k).map ints)) (fun ρ H=>p.length-(iv (ρ 4)).toNat) ?_ ?_
 ·simp only[go_sem];exact⟨0,rfl,by omega,.refl _,.nil⟩
 rintro ρ Hx ⟨k,h4,hk,ov,hO⟩;obtain⟨v,h3⟩:∃v,ρ 3=v:=⟨_,rfl⟩
 rw[h3]at hO;refine W.en (fun E=>E 0=aj p /\ E 3=v /\ E 4=aa k) (by simp only[go_sem,aj,h3,h4]) fun E ⟨e0,e3,e4⟩=>?_
 have hp1:=hp.1;by_cases hb:(k:Int)<p.length;rotate_left
 ·refine W.vs ?_;simp only[go_sem,e0,e3,e4,aj,hb];rw[SH (by omega)]at hO;exact ar.mk ov.next (hK v Hx ov hO)
 obtain⟨l,hl⟩:=get_of_lt (l:=p) (i:=k) (by omega);have hlr:=hp.2 l (SE hl);have hg:(p.map af)[k]?=some (af l):=by rw[List.getElem?_map,hl];rfl
 have hpne:=aJ hl;have w1:=SF ((k:Int)+1) (by omega);obtain⟨Ha,hHa⟩:∃Ha,Ha=ext Hx [.arr 0 3 (List.replicate 0 (.lit (.int .i64 0)))]:=⟨_,rfl⟩
 have na:Ha.next=Hx.next+1:=hHa▸rfl
 have oa:Over Hx Ha:=hHa▸.ext _ _
 have ga:Ha.get Hx.next=some (.arr 0 3 []):=by rw[hHa];exact bX
 have p0:ay Hx.next Ha 3 (.own Hx.next 0 0 0 1) []:=.inr ⟨Hx.next,0,Nat.le_refl _,by omega,rfl,ga⟩;obtain⟨pk,H2,hA1,oP,n2,hp2⟩:=lK (P:=prog) (H:=Ha) (t:=42) (n:=Ha.next) (lo:=Hx.next) (src:=ints l) Tryz.underlying42 Tryz.dz Tryz.dH (gQ _) (by rw[Tryz.dL,aH,List.length_nil];omega) p0 (by omega) rfl;rw[List.nil_append]at oP;rw[aH]at hA1;have o2:Over Hx H2:=⟨by omega,fun i hi=>by rw[hp2 i (by omega) (fun g n he=>by have:=(AVal.own.inj he).1;omega)];exact oa.old i hi⟩
 obtain⟨v',H3,hA3,hO3,n3,hp3⟩:=dR.app (P:=prog) (n:=H2.next+1) (t:=33) Tryz.underlying33 Tryz.jv Tryz.jH Tryz.jG (by decide) (by rw[SM,SN];omega) hO o2 ov.next oP rfl;have pk1:=oP.one;have pkc:=oP.cells;have hO3c:v'.one=true/\v'.cells=[v']:=by obtain⟨cs,h,_⟩:=hO3;exact⟨h.one,h.cells⟩
 have v1:=hO3c.1;have v2:=hO3c.2;refine W.vs ?_;simp only[go_sem,e0,e3,e4,aj,hb,hg,hpne,<- hHa,hA1,hA3,pkc,w1];refine⟨by have:=ov.next;omega,⟨k+1,rfl,by omega,⟨by have:=ov.next;omega,fun i hi=>by rw[hp3 i (by have:=ov.next;omega) hi,o2.old i (by have:=ov.next;omega)];exact ov.old i hi⟩,?_⟩,by rw[h4];simp only[aa,aM];omega⟩;rw[aL hl,Tq];exact hO3
end Go.Proofs
namespace Go.Hx
variable {P:Program} {G:Nat->Option (List AVal)}
inductive FzL (S:Nat->Prop)(H:AHeap)(nx:Nat):List AVal->List AVal->Prop
 |nil:FzL S H nx [] []
 |cons {a a':AVal} {l l':List AVal} (h:Fz S H nx a a') (t:FzL S H nx l l'):FzL S H nx (a :: l) (a' :: l')
theorem FzL.len {S:Nat->Prop}{H:AHeap}{nx:Nat}{l l':List AVal}(h:FzL S H nx l l'):l'.length=l.length:=by
 induction h with
 |nil=>rfl
 |cons _ _ ih=>rw[List.length_cons,List.length_cons,ih]
theorem FzL.at {S:Nat->Prop}{H:AHeap}{nx:Nat}{l l':List AVal}(h:FzL S H nx l l'):∀i (h:i<l.length) (h':i<l'.length),Fz S H nx l[i] l'[i]:=by
 induction h with
 |nil=>intro i h;exact absurd h (S4 _)
 |cons h _ ih =>
  intro i h1 h2;cases i with
  |zero=>exact h
  |succ i=>exact ih i (by simpa using h1) (by simpa using h2)
theorem FzL.agg {S:Nat->Prop}{H:AHeap}{nx:Nat}{l l':List AVal}(h:FzL S H nx l l'):Fz S H nx (.agg l) (.agg l'):=.agg h.len h.at
theorem FzL.tup {S:Nat->Prop}{H:AHeap}{nx:Nat}{l l':List AVal}(h:FzL S H nx l l'):Fz S H nx (.tup l) (.tup l'):=.tup h.len h.at
theorem FzL.own {S:Nat->Prop}{H:AHeap}{nx id g l z:Nat}{e:TypeId}{cells c':List AVal}(hS:S id)(hg:H.get id=some (.arr g e cells))(hl:cells.length=l*z)(h:FzL S H nx cells c'):Fz S H nx (.own id g 0 l z) (.vec l c'):=by
 refine .frz hS hg (by rw[h.len,hl]) fun i hi h2 h'=>?_;have e0:0+i=i:=Nat.zero_add i;simpa only[e0] using h.at i (by omega) h'
theorem aw.Sn {H:AHeap}{f:FuncId}{args args':List AVal}{K:ARes->AHeap->Prop}(n:Nat)(hG:fm G)(hv:FzL (fun id=>n<=id) H H.next args args')(h:ag P G f args' (H.cut n) K):aw P G (.clo f [] []) args H K :=
 aw.clo (by simpa using ag.mv n hG hv.len (fun i h1 h2=>hv.at i h1 h2) h)
theorem aw.mQ {B H:AHeap}{f:FuncId}{args args':List AVal}{K:ARes->AHeap->Prop}(hG:fm G)(ho:Over B H)(hv:FzL (fun id=>B.next<=id) H H.next args args')(h:∀H',Over B H'->ag P G f args' H' K):aw P G (.clo f [] []) args H K :=
 aw.Sn B.next hG hv (h _ ho.cut)
end Go.Hx
namespace Go.Proofs
open Go.Hx Tryz
theorem zC {S:Nat->Prop}{H:AHeap}{nx:Nat}(l:List Int):FzL S H nx (ints l) (ints l):=by
 induction l with
 |nil=>exact .nil
 |cons a l ih=>exact .cons (.lit _) ih
end Go.Proofs
namespace Go.Hx
theorem dR.over {H H':AHeap}{lo:Nat}{e1 e0:TypeId}{v:AVal}{rows:List (List AVal)}(h:dR lo H e1 e0 v rows)(ho:Over H H'):dR lo H' e1 e0 v rows :=
 let ⟨cs,a,b,c,d⟩:=h;⟨cs,a.over ho,b,fun j r q h1 h2=>(c j r q h1 h2).over ho,d⟩
end Go.Hx
namespace Go.Proofs
open Go.Hx Tryz
theorem zF {S:Nat->Prop}{H:AHeap}{nx:Nat}{d:InfP}{cs:List AVal}{e:Nat->Prop}(hq:NodesQ e d.nodes cs):Fz S H nx (dw d cs) (dw d cs) :=
 .agg rfl fun j hj _=>match j,hj with
  |0,_=>.lit _
  |1,_=>.vec rfl fun i h _=>hq.Bo i h
  |2,_=>.lit _
  |3,_=>.vec rfl fun _ h _=>uU _ _ (Tk h)
theorem Sy {α:Type}{l:List α}{i:Nat}{a:α}(h:l[i]?=some a):l.set i a=l:=by
 apply Ti;intro j;rw[TM];by_cases e:i=j
 ·subst e;rw[SK rfl,h];split
  ·rfl
  ·rename_i hn;exact absurd (get_lt h) hn
 ·rw[SI e]
def gW (l:List Int)(X:Int)(j:Nat):List Int:=List.replicate j X++l.drop j
theorem Eo {l:List Int}{X:Int}{j:Nat}(h:j<=l.length):(gW l X j).length=l.length:=by unfold gW;simp;omega
theorem Sz {l:List Int}{X:Int}{j:Nat}(h:j<l.length):(gW l X j).set j X=gW l X (j+1):=by
 obtain⟨a,ha⟩:=get_of_lt h;unfold gW;rw[To _ _ (by simp),S6,Ut,jw ha,List.set_cons_zero,UZ,List.append_assoc];rfl
theorem SA {l:List Int}{X:Int}:gW l X l.length=List.replicate l.length X:=by unfold gW;simp
theorem SB (d:InfP)(cs:List AVal)(hq:NodesQ (fun v=>d.decs.testBit v=true) d.nodes cs)(hf:InfFit d)(hok:InfOk d)(h6:d.nodes.length<=6)(p:List (List Int))(hp:PolOk d p)(v0:Nat)(hv0:v0∈az d)
  (H:AHeap) (K:ARes->AHeap->Prop) (hK:K (.ret (aj (eK d (fixC p) v0))) H):ag prog G0 87 [dw d cs,aj p,aa v0] H K:=by
 refine ag.clo ⟨_,func87,rfl,rfl⟩ fun hcl=>?_;have n8:=hok.n.n1;have hpf:=lT hok hp;obtain⟨v01,v02⟩:=eI.1 hv0;obtain⟨x,hx⟩:=get_of_lt v01;have hxc:=hok.n.card x (SE hx);obtain⟨nr,nc⟩:=kT hx (by omega);obtain⟨hrn,hxp,hin,ps⟩:=vQ hok hx;have hrc:=kU hok v01 v02;have hnr:1<=bT d v0/\bT d v0<=1024:=by unfold bT;omega
 have hplt:=nU hp hv0;obtain⟨l0,hl0⟩:=get_of_lt hplt;obtain⟨ll,_⟩:=hp.row _ v0 x l0 (n9 hx v02) hx hl0;obtain⟨n,hn⟩:∃n,n=bT d v0:=⟨_,rfl⟩
 obtain⟨cN,hcN⟩:∃c,c=bV d v0:=⟨_,rfl⟩
 rw[<- nr,<- hn]at ll;rw[<- hcN]at nc;rw[<- hn]at hnr;refine ag.sw (n:=114) (rs:=[.tmp 6]) func87 ?_;refine W.sq ?_;simp only[go_sem,im,gG];obtain⟨R,hR⟩:∃R,R=ext H [.arr 0 38 [.lit (.int .i64 d.grain),.vec d.nodes.length cs,.lit (.int .u64 (d.decs:Int)),.vec d.utils.length (aO d.utils)]]:=⟨_,rfl⟩
 have oR:Over H R:=hR▸.ext _ _
 have nR:R.next=H.next+1:=hR▸rfl
 have g0:=df hR
 rw[<- hR];clear hR;have l0':=ah g0;refine W.en (fun E=>E 1=aj p /\ E 2=aa v0 /\ E 3=.ptr H.next 0 0) (by simp only[go_sem]) fun E ⟨e1,e2,e3⟩=>?_
 refine W.sq ?_;simp only[go_sem,e2,e3,l0'];refine aw.clo (Sw d cs hf.decs (by omega) v0 _ _ ⟨trivial,?_⟩);rw[Sv hv0];simp only[go_sem];refine W.env fun E1 hE1=>?_;have f1:E1 1=aj p:=by rw[hE1];simp only[go_sem,e1]
 have f2:E1 2=aa v0:=by rw[hE1];simp only[go_sem,e2]
 have f3:E1 3=.ptr H.next 0 0:=by rw[hE1];simp only[go_sem,e3]
 have f7:E1 7=.lit (.int .i64 (aU d.decs v0:Int)):=by rw[hE1];simp only[go_sem]
 clear hE1 e1 e2 e3;obtain⟨P,hP⟩:∃P,P=aU d.decs v0:=⟨_,rfl⟩
 rw[<- hP]at hplt hl0 f7;have hlg:(p.map af)[P]?=some (af l0):=by rw[List.getElem?_map,hl0];rfl
 have hpne:=aJ hl0;have hPi:(P:Int)<p.length:=by omega
 have hc0:=hq.c0 hx;have hqne:=hq.ne hx;have hvi:(v0:Int)<d.nodes.length:=by omega
 refine W.seq ?_;refine W.dr 12 [0,0,3,7,15,0,32,0,224,480,992,31] mixed ?_;simp only[go_sem,f1,f2,f3,f7,l0',aj,hlg,hpne,hPi,hc0,hqne,hvi];refine W.en (fun E2=>E2 1=aj p /\ E2 2=aa v0 /\ E2 3=.ptr H.next 0 0 /\ E2 7=.lit (.int .i64 (P:Int)) /\ E2 8=aa n /\ E2 9=aa cN) (by simp only[go_sem,f1,f2,f3,f7,ll,nc]) fun E2 ⟨g1,g2,g3,g7,g8,g9⟩=>?_
 clear f1 f2 f3 f7;refine W.sq ?_;simp only[go_sem,g8];refine⟨by omega,?_⟩;obtain⟨R2,hR2⟩:∃R2,R2=ext R [.arr 0 42 (List.replicate n (.lit (.slice none 0 0)))]:=⟨_,rfl⟩
 have n2:R2.next=R.next+1:=hR2▸rfl
 have o2:Over R R2:=hR2▸.ext _ _
 have k5:=df hR2
 rw[<- hR2];clear hR2;refine W.en (fun E3=>E3 1=aj p /\ E3 2=aa v0 /\ E3 3=.ptr H.next 0 0 /\ E3 7=.lit (.int .i64 (P:Int)) /\ E3 8=aa n /\ E3 9=aa cN /\ E3 10=.own R.next 0 0 n 1) (by simp only[go_sem,g1,g2,g3,g7,g8,g9]) fun E3 ⟨h1,h2,h3,h7,h8,h9,h10⟩=>?_
 clear g1 g2 g3 g7 g8 g9
 let cs':Nat->List AVal:=fun k=>(List.range k).map (fun j=>AVal.own (R.next+1+j) 0 0 cN 1)++List.replicate (n-k) (.lit (.slice none 0 0))
 have csl:∀k,k<=n->(cs' k).length=n:=fun k hk=>by show (_++_:List AVal).length=n;simp;omega
 have cs_set:∀k,k<n->setAt (cs' k) k [.own (R.next+1+k) 0 0 cN 1]=cs' (k+1):=fun k hk=>by
  show setAt (_++List.replicate (n-k) _) k _=_++_;rw[show n-k=(n-(k+1))+1 by omega,TI,D7 (by simp),TZ,Tq,List.append_assoc];rfl
 have cs0:cs' 0=List.replicate n (.lit (.slice none 0 0)):=by show _++_=_;simp
 refine W.ik (fun s'=>s'.ρ 1=aj p/\s'.ρ 2=aa v0/\s'.ρ 3=.ptr H.next 0 0/\s'.ρ 7=.lit (.int .i64 (P:Int))/\s'.ρ 8=aa n/\s'.ρ 9=aa cN/\s'.ρ 10=.own R.next 0 0 n 1/\Over R s'.H/\dR R.next s'.H 42 3 (.own R.next 0 0 n 1) ((iy d (fixC p) v0 0 0).map ints)) ?_ ?_
 ·refine W.sq ?_;simp only[go_sem];refine W.block ?_;refine W.en (fun E2=>E2 1=aj p /\ E2 2=aa v0 /\ E2 3=.ptr H.next 0 0 /\ E2 7=.lit (.int .i64 (P:Int)) /\ E2 8=aa n /\ E2 9=aa cN /\ E2 10=.own R.next 0 0 n 1 /\ E2 11=aa 0) (by simp only[go_sem,h1,h2,h3,h7,h8,h9,h10]) fun E2 ⟨p1,p2,p3,p7,p8,p9,p10,p11⟩=>?_
  refine W.aG 70300024702976 (by rfl) (fun ρ H'=>∃k:Nat,ρ 11=aa k/\k<=n/\H'.next=R.next+1+k/\(∀id,id<R.next->H'.get id=R.get id)/\H'.get R.next=some (.arr 0 42 (cs' k))/\∀j,j<k->H'.get (R.next+1+j)=some (.arr 0 3 (ints (List.replicate cN 0)))) (fun ρ H=>n-(iv (ρ 11)).toNat) ?_ ?_
  ·simp only[go_sem,p11];exact⟨0,rfl,by omega,by omega,fun id h=>o2.old id h,by rw[cs0];exact k5,fun j hj=>absurd hj (S4 _)⟩
  rintro ρ H' ⟨k,q11,hk,hnx,hold,htop,hrows⟩;refine W.en (fun E4=>E4 1=aj p /\ E4 2=aa v0 /\ E4 3=.ptr H.next 0 0 /\ E4 7=.lit (.int .i64 (P:Int)) /\ E4 8=aa n /\ E4 9=aa cN /\ E4 10=.own R.next 0 0 n 1 /\ E4 11=aa k) (by simp only[go_sem,p1,p2,p3,p7,p8,p9,p10,q11]) fun E4 ⟨a1,a2,a3,a7,a8,a9,a10,a11⟩=>?_
  by_cases hb:(k:Int)<n
  ·have w1:=SF ((k:Int)+1) (by omega);have it:=ah htop;have hcb:(cN:Int)*8<=2 ^ 46/\(cN:Int)<=2 ^ 46:=(by omega);have hrep:List.replicate cN (AVal.lit (.int .i64 0))=ints (List.replicate cN 0):=(by simp[ints,aa]);have hset:=cs_set k (by omega);rw[<- hnx]at hset;have hcl':=csl k (by omega);have ite:∀L,(ext H' L).live R.next 0=_:=fun L=>(dh (by omega)).trans it;refine W.vs ?_;simp only[go_sem,a8,a9,a10,a11,hb,hcb,hrep,ite,hset,w1];refine⟨by rw[hcl'];omega,by rw[au,aS];omega,⟨k+1,by simp,by omega,by rw[au,aS,hnx];rfl,fun id h1=>by rw[ae,SI (by omega),bb (by omega)];exact hold id h1,by rw[ae,SK rfl],fun j hj=>?_⟩,by rw[q11];simp only[aa,aM];omega⟩;rw[ae,SI (by omega)];by_cases hjk:j=k
   ·subst hjk;rw[<- hnx];exact bX
   ·rw[bb (by omega)];exact hrows j (by omega)
  ·obtain rfl:k=n:=(by omega);refine W.vs ?_;simp only[go_sem,a1,a2,a3,a7,a8,a9,a10,a11,hb];have csn:cs' k=(List.range k).map (fun j=>AVal.own (R.next+1+j) 0 0 cN 1):=(by show _++_=_;simp);have csg:∀j c,(cs' k)[j]?=some c->j<k/\c=.own (R.next+1+j) 0 0 cN 1:=fun j c hc=>by
    have hj:=get_lt hc;rw[csl k (Nat.le_refl _)]at hj;rw[csn,List.getElem?_map,Tc hj]at hc;cases hc;exact⟨hj,rfl⟩
   refine⟨⟨by omega,hold⟩,cs' k,.inr ⟨R.next,0,Nat.le_refl _,by omega,by rw[csl k (Nat.le_refl _)],htop⟩,by rw[csl k (Nat.le_refl _),SM,tz,hn],fun j r c hr hc=>?_,fun i j a g g' n n' hi hj=>?_⟩
   ·obtain⟨hjk,rfl⟩:=csg j c hc;rw[So,<- hn,<- hcN,List.getElem?_map,TH,SK hjk]at hr;cases hr;exact .inr ⟨R.next+1+j,0,by omega,by omega,by rw[aH,S6],hrows j hjk⟩
   ·have e1:=AVal.own.inj (csg i _ hi).2;have e2:=AVal.own.inj (csg j _ hj).2;omega
 rintro⟨ρ,Hs⟩ ⟨q1,q2,q3,q7,q8,q9,q10,oS,hT⟩;simp only at q1 q2 q3 q7 q8 q9 q10 oS hT;refine W.seq ?_;refine W.sq ?_;simp only[go_sem];refine W.block ?_;refine W.en (fun E2=>E2 1=aj p /\ E2 2=aa v0 /\ E2 3=.ptr H.next 0 0 /\ E2 7=.lit (.int .i64 (P:Int)) /\ E2 8=aa n /\ E2 9=aa cN /\ E2 10=.own R.next 0 0 n 1 /\ E2 12=aa 0) (by simp only[go_sem,q1,q2,q3,q7,q8,q9,q10]) fun E2 ⟨p1,p2,p3,p7,p8,p9,p10,p12⟩=>?_
 clear q1 q2 q3 q7 q8 q9 q10;refine W.aG 10384593717069655256990623915307008 (by rfl) (fun ρ Hx=>∃X:Nat,ρ 12=aa X/\X<=cN/\Hs.next<=Hx.next/\Over R Hx/\dR R.next Hx 42 3 (.own R.next 0 0 n 1) ((iy d (fixC p) v0 X 0).map ints)) (fun ρ H=>cN-(iv (ρ 12)).toNat) ?_ ?_
 ·simp only[go_sem,p12];exact⟨0,rfl,by omega,oS,hT⟩
 rintro ρ2 Hx ⟨X,q12,hX,nsx,oX,hT⟩;refine W.en (fun E4=>E4 1=aj p /\ E4 2=aa v0 /\ E4 3=.ptr H.next 0 0 /\ E4 7=.lit (.int .i64 (P:Int)) /\ E4 8=aa n /\ E4 9=aa cN /\ E4 10=.own R.next 0 0 n 1 /\ E4 12=aa X) (by simp only[go_sem,p1,p2,p3,p7,p8,p9,p10,q12]) fun E4 ⟨a1,a2,a3,a7,a8,a9,a10,a12⟩=>?_
 by_cases hb:(X:Int)<cN;rotate_left
 ·obtain rfl:X=cN:=by omega
  refine W.vs ?_;simp only[go_sem,a9,a12,hb];refine W.vs ?_;simp only[go_sem,a10];rw[hcN,Sq]at hT;refine ar.aV aE hcl (oR.trans oX) ?_ hK;exact Df hT.De fun i hi=>by omega
 refine W.sq ?_;simp only[go_sem,a9,a12,hb];have xn:=oX.next;refine W.sq ?_;simp only[go_sem,a1];refine aw.clo (Sx p hpf _ _ fun qv H2 oq hQ=>⟨trivial,?_⟩);have qn:=oq.next;simp only[go_sem];refine W.en (fun E5=>E5 1=aj p /\ E5 2=aa v0 /\ E5 3=.ptr H.next 0 0 /\ E5 7=.lit (.int .i64 (P:Int)) /\ E5 8=aa n /\ E5 9=aa cN /\ E5 10=.own R.next 0 0 n 1 /\ E5 12=aa X /\ E5 13=qv /\ E5 14=aa 0) (by simp only[go_sem,a1,a2,a3,a7,a8,a9,a10,a12]) fun E5 ⟨b1,b2,b3,b7,b8,b9,b10,b12,b13,b14⟩=>?_
 clear a1 a2 a3 a7 a8 a9 a10 a12;have hp0:p=p.set P (gW l0 X 0):=by
  have:gW l0 X 0=l0:=by unfold gW;simp
  rw[this];exact(Sy hl0).symm
 refine W.aG 36884480948164378624 (by rfl) (fun ρ Hy=>∃j:Nat,ρ 14=aa j/\j<=n/\H2.next<=Hy.next/\Over Hx Hy/\dR Hx.next Hy 42 3 qv ((p.set P (gW l0 X j)).map ints)) (fun ρ H=>n-(iv (ρ 14)).toNat) ?_ ?_
 ·simp only[go_sem,b14];exact⟨0,rfl,by omega,oq,by rw[<- hp0];exact hQ⟩
 rintro ρ3 Hy ⟨j,q14,hj,ny2,oy,hQy⟩;refine W.en (fun E6=>E6 1=aj p /\ E6 2=aa v0 /\ E6 3=.ptr H.next 0 0 /\ E6 7=.lit (.int .i64 (P:Int)) /\ E6 8=aa n /\ E6 9=aa cN /\ E6 10=.own R.next 0 0 n 1 /\ E6 12=aa X /\ E6 13=qv /\ E6 14=aa j) (by simp only[go_sem,b1,b2,b3,b7,b8,b9,b10,b12,b13,q14]) fun E6 ⟨c1,c2,c3,c7,c8,c9,c10,c12,c13,c14⟩=>?_
 have xn:=oX.next;have yn:=oy.next;by_cases hc:(j:Int)<n
 ·have w1:=SF ((j:Int)+1) (by omega);have hrl:(gW l0 X j).length=n:=by rw[Eo (by omega),ll]
  obtain⟨idt,gt,idr,gr,cells,z1,z2,z3,z4,z5,z6,z7,z8,z9,z10⟩:=hQy.row (by decide) (k:=P) (r:=ints (gW l0 X j)) (by rw[List.getElem?_map,SX hplt];rfl) (fun h=>by have:=congrArg List.length h;rw[aH,hrl,List.length_nil]at this;omega);rw[SM,SO]at z1 z3;rw[aH,hrl]at z6;have z6n:=aJ z6;have jt:=ah z2;have jr:=ah z7;rw[z1]at c13;have hset:setAt (ints (gW l0 X j)) j [.lit (.int .i64 X)]=ints (gW l0 X (j+1)):=by
   rw[<- Sz (by omega)];exact fD (by omega)
  have hil:(ints (gW l0 X j)).length=n:=by rw[aH,hrl]
  refine W.vs ?_;simp only[go_sem,c7,c8,c12,c13,c14,hc,jt,jr,z6,hPi,hset,hil,w1];refine⟨by omega,by rw[au];omega,⟨j+1,rfl,by omega,by rw[au];omega,oy.upd (by omega) _,?_⟩,by rw[q14];simp only[aa,aM];omega⟩;have:=z10 (ints (gW l0 X (j+1))) (by rw[aH,aH,hrl,Eo (by omega),ll]);rw[<- Um,UD]at this;exact this
 obtain rfl:j=n:=by omega
 have hpX:p.set P (gW l0 X j)=jl d p v0 X:=by
  unfold jl;rw[<- hP,<- hn];have:=SA (l:=l0) (X:=(X:Int));rw[ll]at this;rw[this]
 rw[hpX]at hQy;have hXc:X<bV d v0:=by omega
 have hpo:=En hok hp hv0 hXc;have y0:=ah ((oy.old H.next (by omega)).trans ((oX.old H.next (by omega)).trans g0));refine W.vs ?_;simp only[go_sem,c3,c8,c13,c14,hc,y0];obtain⟨ns,hns⟩:∃ns,ns=bG d (fixC (jl d p v0 X)):=⟨_,rfl⟩
 have hn':NetOk d.grain ns:=by rw[hns];exact vr hok (po hpo)
 have hnl:d.nodes.length=ns.length:=by rw[hns,dB]
 have hcs:ak ns=ak d.nodes:=by rw[hns,kg]
 have hwn:bh ns=bh d.nodes:=by rw[hns,sP]
 have h8':ns.length<=8:=hn'.n1.2;have hc4:∀y∈ns,1<=y.card/\y.card<=4:=fun y hy=>(hn'.node y hy).1;have hc1:∀c∈ak ns,1<=c:=fun c hc=>by
  obtain⟨x,hx,rfl⟩:=SY.1 hc;exact(hn'.node x hx).1.1
 have hu:∀u∈d.utils,UtilOk ns u:=by rw[hns];exact fun u hu=>vu (hok.utils.2 u hu)
 have hu4:=hok.utils.1;obtain⟨hw1,hw2⟩:=uX hn';refine aw.mQ (args':=[dw d cs,aj (jl d p v0 X)]) aE oy (.cons (zF hq) (.cons (Df hQy.De fun i hi=>hi) .nil)) fun Ha oa=>?_;refine Ee d cs hq hf hok _ hpo Ha _ ⟨trivial,?_⟩;rw[<- hns];have an:=oa.next;simp only[go_sem,bL,cE];obtain⟨Hb,hHb⟩:∃Hb,Hb=ext Ha [.arr 0 81 [.lit (.int .i64 d.grain),.vec ns.length (aF ns)]]:=⟨_,rfl⟩
 have ob:Over Ha Hb:=hHb▸.ext _ _
 have nb:Hb.next=Ha.next+1:=hHb▸rfl
 have gb:=df hHb
 have lb:=ah gb;rw[<- hHb];refine aw.clo (pt d.grain ns (by omega) _ _ ⟨trivial,?_⟩);simp only[go_sem];refine W.en (fun E7=>E7 1=aj p /\ E7 2=aa v0 /\ E7 3=.ptr H.next 0 0 /\ E7 7=.lit (.int .i64 (P:Int)) /\ E7 8=aa j /\ E7 9=aa cN /\ E7 10=.own R.next 0 0 j 1 /\ E7 12=aa X /\ E7 15=.ptr Ha.next 0 0 /\ E7 16=af (ak ns) /\ E7 17=aa 0) (by simp only[go_sem,c1,c2,c3,c7,c8,c9,c10,c12]) fun E7 ⟨d1,d2,d3,d7,d8,d9,d10,d12,d15,d16,d17⟩=>?_
 clear c1 c2 c3 c7 c8 c9 c10 c12 c13;have hTb:dR R.next Hb 42 3 (.own R.next 0 0 j 1) ((iy d (fixC p) v0 X 0).map ints):=(hT.over oa).over ob;refine W.aG 10384593717068474665440275248054272 (by rfl) (fun ρ Hw=>∃k:Nat,ρ 17=aa k/\k<=bh ns/\Over R Hw/\Hw.next=Hb.next/\Hw.get Ha.next=Hb.get Ha.next/\dR R.next Hw 42 3 (.own R.next 0 0 j 1) ((iy d (fixC p) v0 X k).map ints)) (fun ρ H=>bh ns-(iv (ρ 17)).toNat) ?_ ?_
 ·simp only[go_sem,d17];exact⟨0,rfl,by omega,(oX.trans oa).trans ob,hTb⟩
 rintro ρ4 Hw ⟨k,q17,hk,ow,nw,gw,hTw⟩;refine W.en (fun E8=>E8 1=aj p /\ E8 2=aa v0 /\ E8 3=.ptr H.next 0 0 /\ E8 7=.lit (.int .i64 (P:Int)) /\ E8 8=aa j /\ E8 9=aa cN /\ E8 10=.own R.next 0 0 j 1 /\ E8 12=aa X /\ E8 15=.ptr Ha.next 0 0 /\ E8 16=af (ak ns) /\ E8 17=aa k) (by simp only[go_sem,d1,d2,d3,d7,d8,d9,d10,d12,d15,d16,q17]) fun E8 ⟨a1,a2,a3,a7,a8,a9,a10,a12,a15,a16,a17⟩=>?_
 clear d1 d2 d3 d7 d8 d9 d10 d12 d15 d16 d17;have hwi:ao (ak ns)=(bh ns:Int):=hw2.symm;have m0:=ah ((ow.old H.next (by omega)).trans g0);have mN:=ah (gw.trans gb);have wN:=ow.next;by_cases hkw:(k:Int)<bh ns;rotate_left
 ·obtain rfl:k=bh ns:=by omega
  refine W.vs ?_;simp only[go_sem,a15,a17,mN];refine aw.clo (vv d.grain ns h8' hc4 _ _ ⟨trivial,?_⟩);have w1:=SF ((X:Int)+1) (by omega);simp only[go_sem,hwi,hkw];refine W.vs ?_;simp only[go_sem,a12,w1];refine⟨by omega,⟨X+1,rfl,by omega,by omega,ow,?_⟩,by rw[q12];simp only[aa,aM];omega⟩;rw[<- Sp,<- hwn];exact hTw
 have hkw':k<bh d.nodes:=by omega
 obtain⟨vals,hvals⟩:∃vals,vals=aR (ak ns) k:=⟨_,rfl⟩
 have hvw:vals=wv d k:=by rw[hvals,hcs];rfl
 have hfv:bH (ak ns) vals:=by rw[hvals];exact kM hc1 _
 have hfd:bH (ak d.nodes) vals:=by rw[<- hcs];exact hfv
 have hvl:vals.length=ns.length:=by rw[hfv.1,cC]
 obtain⟨y,hy⟩:∃y,y=fa d (fixC (jl d p v0 X)) (az d).length v0 x:=⟨_,rfl⟩
 have hyg:ns[v0]?=some y:=by rw[hns,hy];exact eW hx
 have hyp:y.parents=x.parents:=by rw[hy];exact(gD ..).2
 have hpc:aP ns y=aP d.nodes x:=by rw[hns,pj];unfold aP;rw[hyp]
 have hin':eF y.parents ns.length:=by rw[hyp,<- hnl];exact hin
 have hyl:(y.parents.length:Int)<2 ^ 39:=by
  have:=hxp.len;rw[hyp];omega
 have hne:=dJ hyg;have ec1:=jY hyg;have hvn:(v0:Int)<ns.length:=by omega
 have sm:cY (aP ns y):=by rw[hpc];exact ps
 have hfp:bH (aP ns y) (aI vals y.parents):=by rw[hpc,hyp];exact pr hin hfd
 obtain⟨r1,r2⟩:=mB hok hx hfd;obtain⟨rI,hrI⟩:∃rI,rI=dk d.nodes v0 vals:=⟨_,rfl⟩
 rw[<- hrI]at r1 r2;have hidx:bJ (aP ns y) (aI vals y.parents)=(rI:Int):=by rw[hpc,hyp];exact r1.symm
 refine W.vs ?_;simp only[go_sem,a15,a17,mN];refine aw.clo (vv d.grain ns h8' hc4 _ _ ⟨trivial,?_⟩);simp only[go_sem,a15,a17,hwi,hkw,mN];refine aw.clo (yD d.grain ns h8' hc4 k (by omega) _ _ ⟨trivial,?_⟩);rw[<- hvals];simp only[go_sem];refine W.en (fun E9=>E9 2=aa v0 /\ E9 3=.ptr H.next 0 0 /\ E9 10=.own R.next 0 0 j 1 /\ E9 12=aa X /\ E9 15=.ptr Ha.next 0 0 /\ E9 16=af (ak ns) /\ E9 17=aa k /\ E9 18=af vals) (by simp only[go_sem,a2,a3,a10,a12,a15,a16,a17]) fun E9 ⟨b2,b3,b10,b12,b15,b16,b17,b18⟩=>?_
 clear a1 a2 a3 a7 a8 a9 a10 a12 a15 a16 a17;refine W.dr 10 [0,0,3,0,0,16,0,112,240,496] mixed ?_;simp only[go_sem,b2,b15,b18,mN,hvn,hne,ec1];refine⟨_,[],bf.pure fun H3=>yG d.grain ns v0 y hyg (by omega) hyl hin' H3 _ ⟨rfl,rfl⟩,?_⟩;simp only[go_sem];refine aw.clo (qG vals y.parents (by omega) hyl (fun q hq=>by rw[hvl];exact hin' q hq) _ _ ⟨trivial,?_⟩);simp only[go_sem];refine aw.clo (yF _ _ sm hfp _ _ ⟨trivial,?_⟩);simp only[go_sem,hidx];refine W.env fun E10 hE10=>?_;have c3:E10 3=.ptr H.next 0 0:=by rw[hE10];simp only[go_sem,b3]
 have c10:E10 10=.own R.next 0 0 j 1:=by rw[hE10];simp only[go_sem,b10]
 have c12:E10 12=aa X:=by rw[hE10];simp only[go_sem,b12]
 have c15:E10 15=.ptr Ha.next 0 0:=by rw[hE10];simp only[go_sem,b15]
 have c16:E10 16=af (ak ns):=by rw[hE10];simp only[go_sem,b16]
 have c17:E10 17=aa k:=by rw[hE10];simp only[go_sem,b17]
 have c18:E10 18=af vals:=by rw[hE10];simp only[go_sem,b18]
 have c19:E10 19=aa rI:=by rw[hE10];simp only[go_sem]
 clear hE10 b2 b3 b10 b12 b15 b16 b17 b18;have hrj:rI<bT d v0:=by rw[nr];exact r2
 obtain⟨idt,gt,idr,gr,cells,z1,z2,z3,z4,z5,z6,z7,z8,z9,z10⟩:=hTw.row (by decide) (k:=rI) (r:=ints (gV d (fixC p) v0 X k rI)) (by rw[List.getElem?_map,zD hrj];rfl) (fun h=>by have:=congrArg List.length h;rw[aH,qQ,List.length_nil]at this;omega);have z1':=(AVal.own.inj z1).1;have z2':=(AVal.own.inj z1).2.1;rw[<- z1',<- z2']at z2;rw[aH,qQ,<- hcN]at z6;rw[SM,tz,<- hn]at z3;have z6n:=aJ z6;have jt:=ah z2;have jr:=ah z7;have hrjI:(rI:Int)<j:=by omega
 have hxg:=zE (d:=d) (c:=fixC p) (v0:=v0) (X:=X) (k:=k) (r:=rI) (y:=X) hXc;have hxg':(ints (gV d (fixC p) v0 X k rI))[X]?=some (aa (gK d (fixC p) v0 X k rI X)):=by rw[ij,hxg];rfl
 have hxne:=aJ hxg';have hrl:(gV d (fixC p) v0 X k rI).length=cN:=by rw[qQ,hcN]
 have hril:(ints (gV d (fixC p) v0 X k rI)).length=cN:=by rw[aH,hrl]
 obtain⟨t,ht⟩:∃t,t=bt ns d.utils vals*weight ns vals:=⟨_,rfl⟩
 have tb:=ym hn' (by omega) hu hu4 hfv d.utils.length;rw[SH (Nat.le_refl _),Uf,<- ht]at tb;have xb:=Su hok h6 (fixC p) v0 X k rI X (by omega);have wt:=SF t (by omega);have ws:=SF (gK d (fixC p) v0 X k rI X+t) (by omega);have w1:=SF ((k:Int)+1) (by omega);have hstep:=Ss hok hp (X:=X) (k:=k) (r:=rI) hv0 hXc (by rw[<- hvw,hrI]) hrj;rw[<- hvw,<- hns]at hstep;have hut:bt d.nodes d.utils vals=bt ns d.utils vals:=by rw[hns];exact(Ci d _ d.utils vals).symm
 rw[hut,<- ht]at hstep;have hset:setAt (ints (gV d (fixC p) v0 X k rI)) X [.lit (.int .i64 (gK d (fixC p) v0 X k rI X+t))]=ints ((gV d (fixC p) v0 X k rI).set X (gK d (fixC p) v0 X k rI X+t)):=fD (by omega);have hXb:(X:Int)<cN:=hb;have idN:idr≠Ha.next:=fun e=>by
  have:=gw.trans gb;rw[<- e,z7]at this;cases this
 refine W.dr 21 [0,0,3,7,0,0,0,96,224,0,992,2016,0,0,0,28672,0,0,258048,520192,1048544] mixed ?_;simp only[go_sem,c3,c10,c12,c15,c16,c17,c18,c19,jt,jr,m0,mN,z6,hrjI,hxg',hXb];refine⟨_,[],bf.pure fun H3=>Ec d cs ns hnl vals h8' hc4 hu hu4 hfv H3 _ ⟨rfl,rfl⟩,?_⟩;simp only[go_sem];refine⟨_,[],bf.pure fun H3=>Dp d.grain ns hn' k (by omega) H3 _ ⟨rfl,rfl⟩,?_⟩;rw[<- hvals];simp only[go_sem,c3,c10,c12,c15,c16,c17,c18,c19,jr,hXb,hril,<- ht,wt,ws,hset,w1];refine⟨by omega,by rw[au];omega,⟨k+1,rfl,by omega,ow.upd (by omega) _,by rw[au];exact nw,by rw[ae,SI (fun e=>idN e.symm)];exact gw,?_⟩,by rw[q17];simp only[aa,aM];omega⟩;have:=z10 (ints ((gV d (fixC p) v0 X k rI).set X (gK d (fixC p) v0 X k rI X+t))) (by rw[aH,aH,SO]);rw[<- Um,<- hstep]at this;exact this
theorem D0 {d:InfP}{c:Nat->Nat->Int}{v r:Nat}(h:r<bT d v):(cU d c v)[r]?=some (((il d c v r (bV d v)).idxOf (jK d c v r):Nat):Int):=by
 unfold cU;rw[List.getElem?_map,Tc h];rfl
theorem zb {d:InfP}{c:Nat->Nat->Int}{v r:Nat}(h:r<bT d v):(eK d c v)[r]?=some (il d c v r (bV d v)):=by
 unfold eK;rw[List.getElem?_map,Tc h];rfl
theorem D1 (d:InfP)(c:Nat->Nat->Int)(v:Nat):(eK d c v).length=bT d v:=by simp[eK]
theorem D2 (d:InfP)(hok:InfOk d)(hf:InfFit d)(h6:d.nodes.length<=6)(p:List (List Int))(hp:PolOk d p)(hpf:ji p)(v0:Nat)(hv0:v0∈az d)
  (H:AHeap) (K:ARes->AHeap->Prop) (hK:∀v H',Over H H'->ay H.next H' 3 v (ints (cU d (fixC p) v0))->ar prog G0 H K (.tup [v,.lit (.bool (decide (dZ d p v0))),aa 0]) H'):ag prog G0 40 [cW d,aj p,aa (aU d.decs v0),aa v0] H K:=by
 obtain⟨v01,v02⟩:=eI.1 hv0;obtain⟨x,hx⟩:=get_of_lt v01;have hxc:=hok.n.card x (SE hx);obtain⟨nr,nc⟩:=kT hx (by omega);have hrc:=kU hok v01 v02;have hnr:1<=bT d v0/\bT d v0<=1024:=by unfold bT;omega
 have hcN:1<=bV d v0/\bV d v0<=4:=by omega
 have hplt:=nU hp hv0;obtain⟨l,hl⟩:=get_of_lt hplt;obtain⟨ll,lr⟩:=hp.row _ v0 x l (n9 hx v02) hx hl;have gl:(p.map af)[aU d.decs v0]?=some (af l):=by rw[List.getElem?_map,hl];rfl
 have gne:=aJ hl;have hpi:(aU d.decs v0:Int)<p.length:=by omega
 refine ag.st (n:=59) (rs:=[.tmp 8,.tmp 9,.tmp 10]) func40 ?_;simp only[go_sem,gI,bK];refine aw.clo (Rs d hok hf h6 p hp hpf v0 hv0 _ _ ⟨trivial,?_⟩);simp only[go_sem,aj];obtain⟨R,hR⟩:∃R,R=ext H [.arr 0 38 [.lit (.int .i64 d.grain),.vec d.nodes.length (aF d.nodes),.lit (.int .u64 (d.decs:Int)),.vec d.utils.length (aO d.utils)]]:=⟨_,rfl⟩
 have nR:R.next=H.next+1:=hR▸rfl
 have oR:Over H R:=hR▸.ext _ _
 rw[<- hR];have htl:=D1 d (fixC p) v0;refine W.en (fun E=>E 1=aj p /\ E 2=aa (aU d.decs v0) /\ E 8=.lit (.slice none 0 0) /\ E 9=.lit (.bool true) /\ E 26=aj (eK d (fixC p) v0) /\ E 27=aa (bT d v0) /\ E 28=aa 0) (by simp only[go_sem,aj,htl]) fun E ⟨e1,e2,e8,e9,e26,e27,e28⟩=>?_
 refine W.aG 144115187807478528 (by rfl) (fun ρ H'=>∃(k:Nat) (b:Bool),ρ 28=aa k/\k<=bT d v0/\Over R H'/\ay R.next H' 3 (ρ 8) (ints ((cU d (fixC p) v0).take k))/\ρ 9=.lit (.bool b)/\(b=true↔∀r,r<k->eJ d (fixC p) v0 r (fixC p (aU d.decs v0) r)=jK d (fixC p) v0 r)) (fun ρ H=>bT d v0-(iv (ρ 28)).toNat) ?_ ?_
 ·simp only[go_sem,e8,e9,e28];exact⟨0,true,rfl,by omega,.refl _,.nil,rfl,by simp⟩
 rintro ρ H' ⟨k,b,h28,hk,ov,h8,h9,hb9⟩;obtain⟨v8,hv8⟩:∃v8,v8=ρ 8:=⟨_,rfl⟩
 rw[<- hv8]at h8;refine W.en (fun E2=>E2 1=aj p /\ E2 2=aa (aU d.decs v0) /\ E2 8=v8 /\ E2 9=.lit (.bool b) /\ E2 26=aj (eK d (fixC p) v0) /\ E2 27=aa (bT d v0) /\ E2 28=aa k) (by simp only[go_sem,e1,e2,hv8,h9,e26,e27,h28]) fun E2 ⟨p1,p2,p8,p9,p26,p27,p28⟩=>?_
 refine W.vs ?_;have ovn:=ov.next;by_cases hb:(k:Int)<bT d v0
 ·have hkn:k<bT d v0:=by omega
  obtain⟨row,hrow⟩:∃row,row=il d (fixC p) v0 k (bV d v0):=⟨_,rfl⟩
  have hrl:row.length=bV d v0:=by rw[hrow];exact uO ..
  have htg:(eK d (fixC p) v0)[k]?=some row:=by rw[hrow];exact zb hkn
  have htg2:((eK d (fixC p) v0).map af)[k]?=some (af row):=by rw[List.getElem?_map,htg];rfl
  have htne:=aJ htg;have htk:(k:Int)<(eK d (fixC p) v0).length:=by omega
  have hr0:row≠[]:=fun h=>by rw[h]at hrl;simp at hrl;omega
  obtain⟨m,hm⟩:∃m,m=jK d (fixC p) v0 k:=⟨_,rfl⟩
  have hmr:fB row=m:=by rw[hm,hrow];rfl
  have hmm:m∈row:=by rw[<- hmr];exact uM hr0
  have hbg:(cU d (fixC p) v0)[k]?=some ((row.idxOf m:Nat):Int):=by rw[hrow,hm];exact D0 hkn
  obtain⟨a,ha⟩:=get_of_lt (l:=l) (i:=k) (by omega);have har:=lr a (SE ha);obtain⟨ax,rfl⟩:=SR har.1;have hax:ax<bV d v0:=by omega
  have hra:row[ax]?=some (eJ d (fixC p) v0 k (ax:Int)):=by rw[hrow];exact uN hax
  have hca:fixC p (aU d.decs v0) k=(ax:Int):=by unfold fixC;rw[bp hl,bp ha]
  have hlne:=aJ ha;have hkl:(k:Int)<l.length:=by omega
  have hrane:=aJ hra;have haxl:(ax:Int)<row.length:=by omega
  have w1:=SF ((k:Int)+1) (by omega);simp only[go_sem,p26,p27,p28,hb,aj,htg2,htne,htk];refine aw.clo (Q8 row hr0 (by omega) _ _ ⟨trivial,?_⟩);rw[hmr];simp only[go_sem];refine aw.clo (Rb row m hmm (by omega) _ _ ⟨trivial,?_⟩);obtain⟨pv,H2,hA,ov2,hO,hn2,_⟩:=jk ((row.idxOf m:Nat):Int) ov h8 (by rw[SN,qk];omega);have hnext:∀b':Bool,(b'=true↔b=true/\eJ d (fixC p) v0 k (ax:Int)=m)->(b'=true↔∀r,r<k+1->eJ d (fixC p) v0 r (fixC p (aU d.decs v0) r)=jK d (fixC p) v0 r):=fun b' h=>by
   rw[h,hb9];constructor
   ·rintro⟨h1,h2⟩ r hr;by_cases hrk:r=k
    ·subst hrk;rw[hca,h2,hm]
    ·exact h1 r (by omega)
   ·intro h1;exact⟨fun r hr=>h1 r (by omega),by rw[hm,<- hca];exact h1 k (by omega)⟩
  have hstep:ints ((cU d (fixC p) v0).take (k+1))=ints ((cU d (fixC p) v0).take k++[((row.idxOf m:Nat):Int)]):=by rw[aL hbg]
  have ov2n:=ov2.next;cases b with
  |false =>
   simp only[go_sem,p8,p9,p28,hA,w1];refine⟨by omega,⟨k+1,false,by simp,by omega,ov2,by rw[hstep];exact hO,rfl,hnext false (by simp)⟩,by rw[h28];simp only[aa,aM];omega⟩
  |true =>
   by_cases hq:eJ d (fixC p) v0 k (ax:Int)=m
   ·simp only[go_sem,p1,p2,p8,p9,p28,hA,w1,aj,gl,gne,hpi,ha,hlne,hkl,hra,hrane,haxl,hq];refine⟨by omega,⟨k+1,true,by simp,by omega,ov2,by rw[hstep];exact hO,rfl,hnext true (by simp[hq])⟩,by rw[h28];simp only[aa,aM];omega⟩
   ·simp only[go_sem,p1,p2,p8,p9,p28,hA,w1,aj,gl,gne,hpi,ha,hlne,hkl,hra,hrane,haxl,hq];refine⟨by omega,⟨k+1,false,by simp,by omega,ov2,by rw[hstep];exact hO,rfl,hnext false (by simp[hq])⟩,by rw[h28];simp only[aa,aM];omega⟩
 ·simp only[go_sem,p8,p9,p27,p28,hb];have hkn:k=bT d v0:=by omega
  rw[SH (by rw[qk];omega)]at h8;have hbb:b=decide (dZ d p v0):=by
   rw[UR,hb9,decide_eq_true_eq,hkn];rfl
  rw[hbb];exact hK _ _ (oR.trans ov) (h8.keep (by omega) (Nat.le_refl _) fun _ _ _ _ _ _=>rfl)
theorem Rt (d:InfP)(hok:InfOk d)(hf:InfFit d)(h6:d.nodes.length<=6)(p:List (List Int))(hp:PolOk d p)(hpf:ji p)(v0:Nat)(hv0:v0∈az d)
  (H:AHeap) (K:ARes->AHeap->Prop) (hK:K (.ret (.tup [af (cU d (fixC p) v0),.lit (.bool (decide (dZ d p v0))),aa 0])) H):ag prog G0 40 [cW d,aj p,aa (aU d.decs v0),aa v0] H K:=by
 refine ag.clo ⟨_,func40,rfl,rfl⟩ fun hcl=>D2 d hok hf h6 p hp hpf v0 hv0 H K fun v H' ov ho=>ar.aV aE hcl ov ?_ hK;exact .tup rfl fun i hi _=>match i,hi with
  |0,_=>ho.dG fun i hi=>hi
  |1,_=>.lit _
  |2,_=>.lit _
theorem qM {S:Nat->Prop}{H:AHeap}{nx:Nat}(d:InfP):Fz S H nx (cW d) (cW d):=by
 refine .agg rfl fun i hi _=>?_
 match i,hi with
 |0,_=>exact .lit _
 |1,_=>exact qJ _
 |2,_=>exact .lit _
 |3,_=>exact .vec rfl fun j h h'=>uU d.utils _ (Tk h)
theorem Ru (d:InfP)(hok:InfOk d)(hf:InfFit d)(h6:d.nodes.length<=6)(p:List (List Int))(hp:PolOk d p)(hpf:ji p)(v0:Nat)(hv0:v0∈az d)(H:AHeap)(lo:Nat)(qv:AVal)(hq:ay lo H 42 qv (p.map af))
  (K:ARes->AHeap->Prop) (hK:K (.ret (.tup [af (cU d (fixC p) v0),.lit (.bool (decide (dZ d p v0))),aa 0])) H):ag prog G0 40 [cW d,qv,aa (aU d.decs v0),aa v0] H K:=by
 refine(ag.frame (H:=H) (args:=[cW d,qv,aa (aU d.decs v0),aa v0]) (args':=[cW d,aj p,aa (aU d.decs v0),aa v0]) (v':=.tup [af (cU d (fixC p) v0),.lit (.bool (decide (dZ d p v0))),aa 0]) aE rfl (fun i hi _=>?_) (D2 d hok hf h6 p hp hpf v0 hv0 cz _ fun v H' ov ho=>ar.mk ov.next ⟨_,rfl,?_⟩)).mono ?_
 ·match i,hi with
  |0,_=>exact qM d
  |1,_ =>
   have:=hq.fz (S:=fun _=>True) (nx:=0) (cs':=p.map af) (fun _ _=>trivial) rfl fun i hi _=>by simp only[SV];exact .cI _
   rw[SM]at this;exact this
  |2,_=>exact .lit _
  |3,_=>exact .lit _
 ·refine .tup rfl fun i hi _=>?_
  match i,hi with
  |0,_=>exact ay.kj ho
  |1,_=>exact .lit _
  |2,_=>exact .lit _
 ·rintro r H' ⟨rfl,rfl⟩;exact hK
def ja (l:List Int)(x:Nat):Nat:=(l.take x).idxOf (fB (l.take x))
theorem xO {l:List Int}{x:Nat}(hx:0<x)(hl:x<=l.length):ja l x<x/\l[ja l x]?=some (fB (l.take x)):=by
 have hne:l.take x≠[]:=fun h=>by have:=congrArg List.length h;rw[SN,List.length_nil]at this;omega
 have hm:=uM hne;have h1:(l.take x).idxOf (fB (l.take x))<(l.take x).length:=VN hm;have h2:(l.take x)[(l.take x).idxOf (fB (l.take x))]?=some (fB (l.take x)):=by rw[SJ h1,List.getElem_idxOf h1]
 rw[SN]at h1;unfold ja;refine⟨by omega,?_⟩;rw[Tf (by omega)]at h2;exact h2
theorem NG {l:List Int}(hl:0<l.length):ja l 1=0:=by
 obtain⟨a,t,rfl⟩:∃a t,l=a :: t:=by
  cases l with
  |nil=>simp at hl
  |cons a t=>exact⟨a,t,rfl⟩
 have:=(xO (l:=a :: t) (x:=1) (by omega) (by simp)).1;omega
theorem NH {l:List Int}{x:Nat}{b:Int}(hx:0<x)(hb:l[x]?=some b):ja l (x+1)=if b > fB (l.take x) then x else ja l x:=by
 have hxl:=get_lt hb;have hne:l.take x≠[]:=fun h=>by have:=congrArg List.length h;rw[SN,List.length_nil]at this;omega
 have hm:=uM hne;unfold ja;rw[aL hb,DJ hne];by_cases h:b > fB (l.take x)
 ·rw[SK h,show max (fB (l.take x)) b=b by omega];have hnm:b ∉ l.take x:=fun hm'=>by have:=Cm hm';omega
  rw[List.idxOf_append,SI hnm,SN,TY (by omega)];simp
 ·rw[SI h,show max (fB (l.take x)) b=fB (l.take x) by omega,List.idxOf_append,SK hm]
def jX (d:InfP)(p:List (List Int))(v j:Nat):Bool:=decide (∀r,r<j->eJ d (fixC p) v r (fixC p (aU d.decs v) r)=jK d (fixC p) v r)
theorem NI (d:InfP)(p:List (List Int))(v:Nat):jX d p v 0=true:=Tm fun _ h=>absurd h (S4 _)
theorem NJ (d:InfP)(p:List (List Int))(v j:Nat):jX d p v (j+1)=(jX d p v j && decide (eJ d (fixC p) v j (fixC p (aU d.decs v) j)=jK d (fixC p) v j)):=by
 unfold jX;rw[<- Bool.decide_and];congr 1;refine propext ⟨fun h=>⟨fun r hr=>h r (by omega),h j (by omega)⟩,fun ⟨h1,h2⟩ r hr=>?_⟩;by_cases e:r=j
 ·subst e;exact h2
 ·exact h1 r (by omega)
theorem BM (d:InfP)(cs:List AVal)(hq:NodesQ (fun v=>d.decs.testBit v=true) d.nodes cs)(hf:InfFit d)(hok:InfOk d)(h6:d.nodes.length<=6)(p:List (List Int))(hp:PolOk d p)(k v:Nat)(hkv:(az d)[k]?=some v)
  (H:AHeap) (K:ARes->AHeap->Prop) (hF:Clo H->∀ov H',Over H H'->ay H.next H' 3 ov (ints (cU d (fixC p) v))->ar prog G0 H K (.tup [ov,.lit (.bool (decide (dZ d p v)))]) H'):ag prog G0 46 [dw d cs,aj p,aa k] H K:=by
 refine ag.clo ⟨_,func46,rfl,rfl⟩ fun hcl=>?_;have n8:=hok.n.n1;have hvm:v∈az d:=SE hkv;obtain⟨v1,v2,v3⟩:=eE hkv;obtain⟨x,hx⟩:=get_of_lt v1;have hxc:=hok.n.card x (SE hx);obtain⟨nr,nc⟩:=kT hx (by omega);have hrc:=kU hok v1 v2;have hnr:1<=bT d v/\bT d v<=1024:=by unfold bT;omega
 have hplt:=nU hp hvm;rw[v3]at hplt;obtain⟨l0,hl0⟩:=get_of_lt hplt;obtain⟨ll,lr⟩:=hp.row k v x l0 hkv hx hl0;rw[<- nr]at ll;have hlg:(p.map af)[k]?=some (af l0):=by rw[List.getElem?_map,hl0];rfl
 have hpne:=aJ hl0;have hPi:(k:Int)<p.length:=by omega
 refine ag.sw (n:=83) (rs:=[.tmp 6,.tmp 7]) func46 ?_;refine W.sq ?_;simp only[go_sem,im,gG];obtain⟨R,hR⟩:∃R,R=ext H [.arr 0 38 [.lit (.int .i64 d.grain),.vec d.nodes.length cs,.lit (.int .u64 (d.decs:Int)),.vec d.utils.length (aO d.utils)]]:=⟨_,rfl⟩
 have oR:Over H R:=hR▸.ext _ _
 have g0:=df hR
 rw[<- hR];clear hR;have l0':=ah g0;refine W.en (fun E=>E 1=aj p /\ E 2=aa k /\ E 3=.ptr H.next 0 0) (by simp only[go_sem]) fun E ⟨e1,e2,e3⟩=>?_
 have hdg:(ints (aW (az d)))[k]?=some (aa v):=by rw[ij];unfold aW;rw[List.getElem?_map,hkv];rfl
 have hdne:=aJ hdg;have hdl:(k:Int)<(aW (az d)).length:=by have:=get_lt hkv;simp only[aW,SM];omega
 refine W.seq ?_;refine W.dr 7 [0,0,0,4,0,28,60] mixed ?_;simp only[go_sem,e1,e2,e3,l0'];refine⟨_,[],bf.pure fun H3=>vg d cs hf.decs (by omega) H3 _ ⟨rfl,rfl⟩,?_⟩;simp only[go_sem,e1,e2,e3,hdg,hdne,hdl];refine aw.clo (SB d cs hq hf hok h6 p hp v hvm _ _ ⟨trivial,?_⟩);simp only[go_sem];refine W.sq ?_;simp only[go_sem];refine W.sq ?_;simp only[go_sem];refine W.en (fun E1=>E1 1=aj p /\ E1 2=aa k /\ E1 8=aj (eK d (fixC p) v) /\ E1 9=.lit (.slice none 0 0) /\ E1 10=.lit (.bool true)) (by simp only[go_sem,e1,e2]) fun E1 ⟨f1,f2,f8,f9,f10⟩=>?_
 clear e1 e2 e3;obtain⟨n,hn⟩:∃n,n=bT d v:=⟨_,rfl⟩
 obtain⟨cN,hcN⟩:∃c,c=bV d v:=⟨_,rfl⟩
 have hTl:(eK d (fixC p) v).length=n:=by rw[D1,hn]
 rw[<- hcN]at nc;rw[<- hn]at hnr ll;have hRl:∀r,(il d (fixC p) v r cN).length=cN:=fun r=>uO ..;have hTg:∀r,r<n->((eK d (fixC p) v).map af)[r]?=some (af (il d (fixC p) v r cN)):=fun r h=>by rw[List.getElem?_map,zb (by omega),<- hcN];rfl
 refine W.seq ?_;refine W.sq ?_;simp only[go_sem];refine W.block ?_;refine W.en (fun E2=>E2 1=aj p /\ E2 2=aa k /\ E2 8=aj (eK d (fixC p) v) /\ E2 9=.lit (.slice none 0 0) /\ E2 10=.lit (.bool true) /\ E2 11=aa 0) (by simp only[go_sem,f1,f2,f8,f9,f10]) fun E2 ⟨g1,g2,g8,g9,g10,g11⟩=>?_
 clear f1 f2 f8 f9 f10;refine W.aG 2417851639229258345233920 (by rfl) (fun ρ Hx=>∃(j:Nat) (ov:AVal),ρ 11=aa j/\j<=n/\Over R Hx/\ρ 9=ov/\ay R.next Hx 3 ov (ints ((cU d (fixC p) v).take j))/\ρ 10=.lit (.bool (jX d p v j))) (fun ρ H=>n-(iv (ρ 11)).toNat) ?_ ?_
 ·simp only[go_sem,g9,g10,g11];exact⟨0,_,rfl,by omega,.refl _,rfl,.nil,by rw[NI]⟩
 rintro ρ Hx ⟨j,ov,q11,hj,ox,q9,hO,q10⟩;refine W.en (fun E3=>E3 1=aj p /\ E3 2=aa k /\ E3 8=aj (eK d (fixC p) v) /\ E3 9=ov /\ E3 10=.lit (.bool (jX d p v j)) /\ E3 11=aa j) (by simp only[go_sem,g1,g2,g8,q9,q10,q11]) fun E3 ⟨a1,a2,a8,a9,a10,a11⟩=>?_
 have oxn:=ox.next;by_cases hb:(j:Int)<n;rotate_left
 ·obtain rfl:j=n:=by omega
  have hokn:jX d p v j=decide (dZ d p v):=by show decide _=decide _;unfold dZ;rw[hn]
  rw[hokn]at a10;rw[SH (by rw[qk];omega)]at hO;refine W.vs ?_;simp only[go_sem,a8,a11,aj,hTl,hb];refine W.vs ?_;simp only[go_sem,a9,a10];exact hF hcl _ Hx (oR.trans ox) (hO.keep oR.next (Nat.le_refl _) fun _ _ _ _ _ _=>rfl)
 have hTj:=hTg j (by omega);have hTne:=aJ (zb (d:=d) (c:=fixC p) (v:=v) (r:=j) (by omega));have hjn:(j:Int)<(eK d (fixC p) v).length:=by omega
 obtain⟨L,hL⟩:∃L,L=il d (fixC p) v j cN:=⟨_,rfl⟩
 rw[<- hL]at hTj;have hLl:L.length=cN:=by rw[hL];exact hRl j
 have hLn:L≠[]:=fun h=>by rw[h]at hLl;simp at hLl;omega
 refine W.sq ?_;simp only[go_sem,a8,a11,aj,hTl,hb];refine W.seq (W.block ?_);refine W.sq ?_;simp only[go_sem];refine W.ik (fun s'=>s'.H=Hx/\s'.ρ 1=aj p/\s'.ρ 2=aa k/\s'.ρ 8=aj (eK d (fixC p) v)/\s'.ρ 9=ov/\s'.ρ 10=.lit (.bool (jX d p v j))/\s'.ρ 11=aa j/\s'.ρ 12=aa (ja L cN)) ?_ ?_
 ·refine W.sq ?_;simp only[go_sem];refine W.block ?_;refine W.en (fun E4=>E4 1=aj p /\ E4 2=aa k /\ E4 8=aj (eK d (fixC p) v) /\ E4 9=ov /\ E4 10=.lit (.bool (jX d p v j)) /\ E4 11=aa j /\ E4 12=aa 0 /\ E4 13=aa 1) (by simp only[go_sem,a1,a2,a8,a9,a10,a11]) fun E4 ⟨b1,b2,b8,b9,b10,b11,b12,b13⟩=>?_
  refine W.aG 9007198986317824 (by rfl) (fun ρ2 Hy=>Hy=Hx/\∃y:Nat,ρ2 13=aa y/\1<=y/\y<=cN/\ρ2 12=aa (ja L y)) (fun ρ2 H=>cN-(iv (ρ2 13)).toNat) ?_ ?_
  ·simp only[go_sem,b12,b13];exact⟨1,rfl,by omega,by omega,by rw[NG (by omega)];rfl⟩
  rintro ρ2 Hy ⟨rfl,y,q13,hy1,hy,q12⟩;refine W.en (fun E5=>E5 1=aj p /\ E5 2=aa k /\ E5 8=aj (eK d (fixC p) v) /\ E5 9=ov /\ E5 10=.lit (.bool (jX d p v j)) /\ E5 11=aa j /\ E5 12=aa (ja L y) /\ E5 13=aa y) (by simp only[go_sem,b1,b2,b8,b9,b10,b11,q12,q13]) fun E5 ⟨c1,c2,c8,c9,c10,c11,c12,c13⟩=>?_
  by_cases hyb:(y:Int)<cN;rotate_left
  ·obtain rfl:y=cN:=(by omega);refine W.vs ?_;simp only[go_sem,c1,c2,c8,c9,c10,c11,c12,c13,aj,hTj,hTne,hjn,hLl,hyb]
  obtain⟨b,hbg⟩:=get_of_lt (l:=L) (i:=y) (by omega);obtain⟨am1,am2⟩:=xO (l:=L) (x:=y) (by omega) (by omega);have hbn:=aJ hbg;have w1:=SF ((y:Int)+1) (by omega);have ham:(ja L y:Int)<cN:=by omega
  have hst:=NH (l:=L) (x:=y) (by omega) hbg;refine W.vs ?_;simp only[go_sem,c8,c11,c13,aj,hTj,hTne,hjn,hLl,hyb];refine W.dr 14 [0,0,3,7,0,31,63,0,0,384,896,0,3968,8064] mixed ?_;by_cases hgt:b > fB (L.take y)
  ·rw[SK hgt]at hst;simp only[go_sem,c8,c11,c12,c13,aj,hTj,hTne,hjn,hLl,hyb,hbg,hbn,am2,ham,hgt,w1];exact⟨⟨y+1,rfl,by omega,by omega,by rw[hst]⟩,by rw[q13];simp only[aa,aM];omega⟩
  ·rw[SI hgt]at hst;simp only[go_sem,c8,c11,c12,c13,aj,hTj,hTne,hjn,hLl,hyb,hbg,hbn,am2,ham,hgt,w1];exact⟨⟨y+1,rfl,by omega,by omega,by rw[hst]⟩,by rw[q13];simp only[aa,aM];omega⟩
 rintro⟨ρ3,Hq⟩ ⟨hH,d1,d2,d8,d9,d10,d11,d12⟩;simp only at hH d1 d2 d8 d9 d10 d11 d12;rw[hH];clear hH Hq a1 a2 a8 a9 a10 a11;have w2:=SF ((j:Int)+1) (by omega);have hbg:(cU d (fixC p) v)[j]?=some ((ja L cN:Nat):Int):=by
  rw[D0 (by omega)];unfold jK;rw[<- hcN,<- hL];unfold ja;rw[SH (by omega)]
 have hbl:(cU d (fixC p) v).length=n:=by rw[qk,hn]
 obtain⟨v',H3,hA,ov3,hO3,n3,_⟩:=jk ((ja L cN:Nat):Int) ox hO (by rw[SN];omega);have h31:=hO3.one;have h3c:=hO3.cells;obtain⟨am1,am2⟩:=xO (l:=L) (x:=cN) (by omega) (by omega);rw[SH (by omega)]at am2;have ham:(ja L cN:Int)<cN:=by omega
 obtain⟨a,ha⟩:=get_of_lt (l:=l0) (i:=j) (by omega);have har:=lr a (SE ha);obtain⟨aN,rfl⟩:=SR har.1;have hane:=aJ ha;have hjl:(j:Int)<l0.length:=by omega
 have hLa:L[aN]?=some (eJ d (fixC p) v j (aN:Int)):=by rw[hL];exact uN (by omega)
 have hLan:=aJ hLa;have haN:(aN:Int)<cN:=by omega
 have hca:fixC p (aU d.decs v) j=(aN:Int):=by unfold fixC;rw[v3,bp hl0,bp ha]
 have hcm:jK d (fixC p) v j=fB L:=by unfold jK;rw[<- hcN,<- hL]
 have hos:=NJ d p v j;rw[hca,hcm]at hos;refine W.sq ?_;simp only[go_sem,d9,d12,hA];have fin:∀(r:Bool),r=jX d p v (j+1)->ay R.next H3 3 v' (ints ((cU d (fixC p) v).take (j+1))):=fun _ _=>by rw[aL hbg];exact hO3
 have n33:=ov3.next;cases hk1:jX d p v j with
 |false =>
  rw[hk1]at d10 hos;refine W.dr 22 [0,1,3,3,15,31,3,3,195,451,3,1987,4035,8191,16383,3,3,98307,229379,3,1015811,2064387] mixed ?_;simp only[go_sem,d10];refine W.vs ?_;simp only[go_sem,d11,w2];exact⟨by omega,⟨j+1,_,rfl,by omega,ov3,rfl,fin _ hos.symm,by rw[hos];rfl⟩,by rw[q11];simp only[aa,aM];omega⟩
 |true =>
  rw[hk1]at d10 hos;by_cases heq:eJ d (fixC p) v j (aN:Int)=fB L
  ·rw[Tm heq]at hos;refine W.dr 22 [0,1,3,3,15,31,3,3,195,451,3,1987,4035,8191,16383,3,3,98307,229379,3,1015811,2064387] mixed ?_;simp only[go_sem,d1,d2,d8,d10,d11,d12,aj,hTj,hTne,hjn,hLl,hlg,hpne,hPi,ha,hane,hjl,hLa,hLan,haN,am2,ham,heq];refine W.vs ?_;simp only[go_sem,d11,w2];exact⟨by omega,⟨j+1,_,rfl,by omega,ov3,rfl,fin _ hos.symm,by rw[hos];rfl⟩,by rw[q11];simp only[aa,aM];omega⟩
  ·rw[TD heq]at hos;refine W.dr 22 [0,1,3,3,15,31,3,3,195,451,3,1987,4035,8191,16383,3,3,98307,229379,3,1015811,2064387] mixed ?_;simp only[go_sem,d1,d2,d8,d10,d11,d12,aj,hTj,hTne,hjn,hLl,hlg,hpne,hPi,ha,hane,hjl,hLa,hLan,haN,am2,ham,heq];refine W.vs ?_;simp only[go_sem,d11,w2];exact⟨by omega,⟨j+1,_,rfl,by omega,ov3,rfl,fin _ hos.symm,by rw[hos];rfl⟩,by rw[q11];simp only[aa,aM];omega⟩
theorem NK (d:InfP)(cs:List AVal)(hq:NodesQ (fun v=>d.decs.testBit v=true) d.nodes cs)(hf:InfFit d)(hok:InfOk d)(h6:d.nodes.length<=6)(p:List (List Int))(hp:PolOk d p)(k v:Nat)(hkv:(az d)[k]?=some v)
  (H:AHeap) (K:ARes->AHeap->Prop) (hK:K (.ret (.tup [af (cU d (fixC p) v),.lit (.bool (decide (dZ d p v)))])) H):ag prog G0 46 [dw d cs,aj p,aa k] H K :=
 BM d cs hq hf hok h6 p hp k v hkv H K fun hcl _ _ o hO=>ar.aV (v':=.tup [af (cU d (fixC p) v),.lit (.bool (decide (dZ d p v)))]) aE hcl o (.tup rfl fun i hi _=>match i,hi with
  |0,_=>hO.dG fun _ h=>h
  |1,_=>.lit _) hK
theorem xP {S:Nat->Prop}{lo nx:Nat}{H:AHeap}{e:TypeId}{qv:AVal}{p:List (List Int)}(hq:ay lo H e qv (p.map af))(hS:∀i,lo<=i->S i):Fz S H nx qv (aj p):=by
 have:=hq.fz (S:=S) (nx:=nx) (cs':=p.map af) hS rfl fun i hi _=>by simp only[SV];exact .cI _
 rw[SM]at this;exact this
theorem NL (d:InfP)(cs:List AVal)(hq:NodesQ (fun v=>d.decs.testBit v=true) d.nodes cs)(hf:InfFit d)(hok:InfOk d)(h6:d.nodes.length<=6)(p:List (List Int))(hp:PolOk d p)(k v:Nat)(hkv:(az d)[k]?=some v)
  (H:AHeap) (lo:Nat) (qv:AVal) (ho:ay lo H 42 qv (p.map af)) (K:ARes->AHeap->Prop) (hK:K (.ret (.tup [af (cU d (fixC p) v),.lit (.bool (decide (dZ d p v)))])) H):ag prog G0 46 [dw d cs,qv,aa k] H K:=by
 refine(ag.frame (H:=H) (args:=[dw d cs,qv,aa k]) (args':=[dw d cs,aj p,aa k]) (v':=.tup [af (cU d (fixC p) v),.lit (.bool (decide (dZ d p v)))]) aE rfl (fun i hi _=>?_) (BM d cs hq hf hok h6 p hp k v hkv cz _ fun _ ov H' o hO=>ar.mk o.next ⟨_,rfl,?_⟩)).mono ?_
 ·match i,hi with
  |0,_=>exact zF hq
  |1,_=>exact xP ho fun _ _=>trivial
  |2,_=>exact .lit _
 ·refine .tup rfl fun i hi _=>?_
  match i,hi with
  |0,_=>exact ay.kj hO
  |1,_=>exact .lit _
 ·rintro r H' ⟨rfl,rfl⟩;exact hK
noncomputable def qN (d:InfP)(p:List (List Int)):Bool:=if cK d p=0 then decide (isLocal d p) else false
theorem zc {d:InfP}{p:List (List Int)}(h:cK d p=0):InfOk d/\PolOk d p:=by
 unfold cK at h;by_cases h1:InfOk d
 ·rw[dU h1]at h;by_cases h2:PolOk d p
  ·exact⟨h1,h2⟩
  ·rw[eV h2]at h;cases h
 ·rw[eV h1]at h;cases h
theorem vS (d:InfP)(hf:InfFit d)(h6:d.nodes.length<=6)(p:List (List Int))(hpf:ji p)(H:AHeap)(K:ARes->AHeap->Prop)(hK:K (.ret (.tup [.lit (.bool (qN d p)),aa (cK d p)])) H):
  ag prog G0 10 [cW d,aj p] H K:=by
 refine ag.clo ⟨_,func10,rfl,rfl⟩ fun hcl=>?_;refine ag.st (n:=38) (rs:=[.cell 4 4,.cell 5 46]) func10 ?_;simp only[go_sem,gI,bK];refine aw.clo (sS d hf p hpf _ _ ⟨trivial,?_⟩);by_cases he:cK d p=0;rotate_left
 ·simp only[go_sem,he];have hl:qN d p=false:=SI he;rw[hl]at hK;refine ar.aV aE hcl (.ext _ _) ?_ hK;exact .tup rfl fun i hi _=>match i,hi with
   |0,_=>.lit _
   |1,_=>.lit _
 obtain⟨hok,hp⟩:=zc he;have hl:qN d p=decide (isLocal d p):=SK he;rw[hl,he]at hK;rw[he];simp only[go_sem];refine aw.clo (tn d _ _ ⟨trivial,?_⟩);simp only[go_sem];obtain⟨R,hR⟩:∃R,R=ext (ext H [.arr 0 38 [.lit (.int .i64 d.grain),.vec d.nodes.length (aF d.nodes),.lit (.int .u64 (d.decs:Int)),.vec d.utils.length (aO d.utils)],.arr 0 33 [aj p],.arr 0 4 [.lit (.bool false)],.arr 0 46 [.lit (.int .i64 0)]]) [eh d]:=⟨_,rfl⟩
 have nR:R.next=H.next+5:=by rw[hR];rfl
 have oR:Over H R:=by rw[hR];exact(Over.ext _ _).trans (.ext _ _)
 have g0:R.get H.next=some (eh d):=by rw[hR,dp];exact bD H _ 0 (by simp)
 have g1:R.get (H.next+1)=some (.arr 0 33 [aj p]):=by rw[hR,dp];exact bD H _ 1 (by simp)
 have g2:R.get (H.next+2)=some (.arr 0 4 [.lit (.bool false)]):=by rw[hR,dp];exact bD H _ 2 (by simp)
 have g3:R.get (H.next+3)=some (.arr 0 46 [.lit (.int .i64 0)]):=by rw[hR,dp];exact bD H _ 3 (by simp)
 have g4:R.get (H.next+4)=some (eh d):=by rw[hR,dp];exact bD H _ 4 (by simp)
 rw[<- hR];refine W.env fun E hE=>?_;have e2:E 2=.ptr H.next 0 0:=by rw[hE];simp only[go_sem]
 have e3:E 3=.ptr (H.next+1) 0 0:=by rw[hE];simp only[go_sem]
 have e4:E 4=.ptr (H.next+2) 0 0:=by rw[hE];simp only[go_sem]
 have e5:E 5=.ptr (H.next+3) 0 0:=by rw[hE];simp only[go_sem]
 have e19:E 19=.clo 80 [] [.ptr (H.next+4) 0 0]:=by rw[hE];rfl
 clear hE;refine W.mc (f:=80) (first:=[]) (cap:=[.ptr (H.next+4) 0 0]) (by show E 19=_;exact e19) (tj d (by have:=hf.nodes.1;omega) hf.decs (H.next+4))
  (fun k Hx=>R.next<=Hx.next/\(∀id,id<R.next->Hx.get id=R.get id)/\∀j v,j<k->(az d)[j]?=some v->dZ d p v)
  (fun c Hx=>c=.ret/\R.next<=Hx.next/\(∀id,id<H.next->Hx.get id=R.get id)/\Hx.get (H.next+2)=some (.arr 0 4 [.lit (.bool false)])/\Hx.get (H.next+3)=some (.arr 0 46 [.lit (.int .i64 0)])/\¬isLocal d p)
  (fun k Hx h=>by rw[h.2.1 _ (by omega)];exact g4)
  (fun k Hx b h=>⟨h.1,fun id h1=>by rw[ae,SI (by omega)];exact h.2.1 id h1,h.2.2⟩)
  (fun c Hx b h=>⟨h.1,h.2.1,fun id h1=>by rw[ae,SI (by omega)];exact h.2.2.1 id h1,by rw[ae,SI (by omega)];exact h.2.2.2.1,by rw[ae,SI (by omega)];exact h.2.2.2.2.1,h.2.2.2.2.2⟩)
  (fun b=>⟨by rw[aS];omega,fun id h1=>bb h1,fun j v hj=>absurd hj (S4 _)⟩)
  (by decide) mK (fun _ _ _=>trivial) (fun _ _ _=>trivial) (fun k y Hx B Bb hy hj hn hB hBb=>?_) (fun Hx hj hn=>?_) (fun Hx hs hn=>?_) (fun i Hx hs hn=>by cases hs.1)
 ·obtain⟨v,hv,rfl⟩:=lW hy;have hvm:v∈az d:=SE hv;obtain⟨v1,v2,v3⟩:=eE hv;refine W.vs ?_;simp only[go_sem,fV,bA,ir,Ts,TS,Tx,Tz,hB];obtain⟨H3,hH3⟩:∃H3,H3=Hx.upd R.next Bb:=⟨_,rfl⟩
  rw[<- hH3];obtain⟨st,pd,n',en,ps',as',bo,hBe⟩:=hBb;have n3:H3.next=Hx.next:=by rw[hH3];rfl
  have o3:∀id,id≠R.next->H3.get id=Hx.get id:=fun id h=>by rw[hH3,ae,SI h]
  have jB:H3.get R.next=some Bb:=by rw[hH3,ae,SK rfl]
  have kold:∀id,id<R.next->H3.get id=R.get id:=fun id h=>(o3 _ (by omega)).trans (hj.2.1 _ h);have l0:=ah ((kold _ (by omega)).trans g0);have l1:=ah ((kold _ (by omega)).trans g1);have l2:=ah ((kold _ (by omega)).trans g2);have l3:=ah ((kold _ (by omega)).trans g3);unfold bK at l0;refine W.env fun E1 hE1=>?_;have m2:E1 2=.ptr H.next 0 0:=by rw[hE1];simp only[go_sem,bA,e2]
  have m3:E1 3=.ptr (H.next+1) 0 0:=by rw[hE1];simp only[go_sem,bA,e3]
  have m4:E1 4=.ptr (H.next+2) 0 0:=by rw[hE1];simp only[go_sem,bA,e4]
  have m5:E1 5=.ptr (H.next+3) 0 0:=by rw[hE1];simp only[go_sem,bA,e5]
  have m7:E1 7=aa (aU d.decs v):=by rw[hE1,v3];simp only[go_sem,bA]
  have m8:E1 8=aa v:=by rw[hE1];simp only[go_sem,bA]
  clear hE1;refine W.vs ?_;simp only[go_sem,m2,m3,m7,m8,l0,l1];refine aw.clo (Rt d hok hf h6 p hp hpf v hvm _ _ ⟨⟨st,pd,n',en,ps',as',bo,by rw[jB,hBe]⟩,?_⟩);have l3u:∀b,(H3.upd (H.next+2) b).live (H.next+3) 0=_:=fun b=>(bQ (by omega)).trans l3;by_cases hbest:dZ d p v
  ·rw[Tm hbest];simp only[go_sem,ep];exact⟨jB,by omega,by omega,fun id h=>kold id h,fun j w hj2 hw=>by
    by_cases hjk:j=k
    ·subst hjk;rw[hv]at hw;cases hw;exact hbest
    ·exact hj.2.2 j w (by omega) hw⟩
  ·rw[TD hbest];simp only[go_sem,m4,m5,l2,l3u,ep];refine⟨by simp only[ae];rw[SI (by omega),SI (by omega)];exact jB,by simp only[au];omega,by simp only[au];omega,fun id h=>by simp only[ae];rw[SI (by omega),SI (by omega)];exact kold id (by omega),by rw[ae,SI (by omega),ae,SK rfl],by rw[ae,SK rfl],fun hl=>hbest (hl v hvm)⟩
 ·rw[kY]at hj;have hloc:isLocal d p:=fun v hv=>by
   obtain⟨j,hjv⟩:=SW.1 hv;exact hj.2.2 j v (get_lt hjv) hjv
  have l2:=ah ((hj.2.1 _ (by omega)).trans g2);have l3:=ah ((hj.2.1 _ (by omega)).trans g3);have l3u:∀b,(Hx.upd (H.next+2) b).live (H.next+3) 0=_:=fun b=>(bQ (by omega)).trans l3;have l2u:∀c b',((Hx.upd (H.next+2) (.arr 0 4 [c])).upd (H.next+3) b').live (H.next+2) 0=some (4,[c]):=fun c b'=>(bQ (by omega)).trans jj;simp only[go_sem,e4,e5,l2,l3u,l2u];rw[Tm hloc]at hK;have ovx:Over H Hx:=⟨by omega,fun id h=>(hj.2.1 _ (by omega)).trans (oR.old _ h)⟩
  refine ar.aV aE hcl ((ovx.upd (by omega) _).upd (by omega) _) ?_ hK;exact .tup rfl fun i hi _=>match i,hi with
   |0,_=>.lit _
   |1,_=>.lit _
 ·obtain⟨_,h1,h2,h3,h4,h5⟩:=hs;have l2:=ah h3;have l3:=ah h4;simp only[go_sem,e4,e5,l2,l3];rw[TD h5]at hK;refine ar.aV aE hcl ⟨by omega,fun id h=>(h2 _ h).trans (oR.old _ h)⟩ ?_ hK;exact .tup rfl fun i hi _=>match i,hi with
   |0,_=>.lit _
   |1,_=>.lit _
end Go.Proofs
namespace Go.Hx
variable {P:Program}
theorem ay.DK {lo:Nat}{H:AHeap}{e:TypeId}{v:AVal}{cs:List AVal}(h:ay lo H e v cs){k:Nat}(hk:k<cs.length):∃id g,v=.own id g 0 cs.length 1/\lo<=id/\id<H.next/\H.get id=some (.arr g e cs)/\∀x,ay lo (H.upd id (.arr g e (cs.set k x))) e v (cs.set k x):=by
 rcases h with ⟨_,rfl⟩|⟨id,g,h1,h2,rfl,h4⟩
 ·simp at hk
 ·exact⟨id,g,rfl,h1,h2,h4,fun x=>.inr ⟨id,g,h1,by rw[au];exact h2,by rw[SO],by rw[ae,SK rfl]⟩⟩
end Go.Hx
namespace Go.Proofs
open Go.Hx Tryz
theorem DL {n:Nat}{f:Nat->Int}{B:Int}(h:∀i,i<n->-B<=f i/\f i<=B):-(B*n)<=SS n f/\SS n f<=B*n:=by
 induction n with
 |zero=>simp[sD]
 |succ n ih =>
  rw[gS];have h1:=ih fun i hi=>h i (by omega);have h2:=h n (by omega)
  push_cast
  rw[U6,U5];omega
theorem DM {d:InfP}(hok:InfOk d)(h6:d.nodes.length<=6)(c:Nat->Nat->Int):-20000000000000000<=iP d c/\iP d c<=20000000000000000:=by
 have hw:=za hok;have:=DL (n:=bh d.nodes) (B:=18662400000000) (f:=fun w=>if iO d c (wv d w)=true then fL d (wv d w) else 0) fun i _=>by
  have:=vM hok h6 (mC hok i);split<;>omega
 unfold iP;omega
def qK (d:InfP)(q:List (List Int)):List (List Int):=(az d).foldl (oY d) q
def qL (d:InfP)(q:List (List Int)):Nat->List (List Int)
 |0=>q
 |n+1=>qK d (qL d q n)
structure Imp (d:InfP)(p q:List (List Int))(n:Nat):Prop where
 ok:PolOk d q
 same:n=0->q=p
 loc:isLocal d p->n=0
 sum:iP d (fixC p)+n<=iP d (fixC q)
 it:q=qL d p n
 bef:∀j,j<n->¬isLocal d (qL d p j)
theorem Imp.start {d:InfP}{p:List (List Int)}(h:PolOk d p):Imp d p p 0:=⟨h,fun _=>rfl,fun _=>rfl,by simp,rfl,fun j h=>absurd h (S4 _)⟩
theorem Imp.uniq {d:InfP}{p q q':List (List Int)}{n n':Nat}(h:Imp d p q n)(hl:isLocal d q)(h':Imp d p q' n')(hl':isLocal d q'):q=q'/\n=n':=by
 have e:n=n':=by
  rcases Vc n n' with hlt|e|hlt
  ·exact absurd (h.it ▸ hl) (h'.bef n hlt)
  ·exact e
  ·exact absurd (h'.it ▸ hl') (h.bef n' hlt)
 subst e;exact⟨by rw[h.it,h'.it],rfl⟩
structure Rnd (d:InfP)(q:List (List Int))(k:Nat)(b:Bool)(r:List (List Int)):Prop where
 ok:PolOk d r
 no:b=false->r=q/\∀j v,j<k->(az d)[j]?=some v->dZ d q v
 yes:b=true->¬isLocal d q/\iP d (fixC q)<iP d (fixC r)
 fold:r=((az d).take k).foldl (oY d) q
theorem Rnd.start {d:InfP}{q:List (List Int)}(h:PolOk d q):Rnd d q 0 false q:=⟨h,fun _=>⟨rfl,fun j v hj=>absurd hj (S4 _)⟩,fun h=>Bool.noConfusion h,rfl⟩
theorem DN {d:InfP}{q r:List (List Int)}{k v:Nat}(h:r=((az d).take k).foldl (oY d) q)(hv:(az d)[k]?=some v):oY d r v=((az d).take (k+1)).foldl (oY d) q:=by
 rw[aL hv,TT,<- h];rfl
theorem Rnd.yU {d:InfP}{q r:List (List Int)}{k v:Nat}{b:Bool}(h:Rnd d q k b r)(hv:(az d)[k]?=some v)(hb:dZ d r v):Rnd d q (k+1) b r :=
 ⟨h.ok,fun e=>⟨(h.no e).1,fun j w hj hw=>by
  by_cases hjk:j=k
  ·subst hjk;rw[hv]at hw;cases hw;rw[<- (h.no e).1];exact hb
  ·exact(h.no e).2 j w (by omega) hw⟩,h.yes,by rw[<- DN h.fold hv];unfold oY;rw[SK hb]⟩
theorem Rnd.step {d:InfP}(hok:InfOk d){q r:List (List Int)}{k v:Nat}{b:Bool}(h:Rnd d q k b r)(hv:(az d)[k]?=some v)(hb:¬dZ d r v):Rnd d q (k+1) true (r.set (aU d.decs v) (cU d (fixC r) v)):=by
 have hvm:v∈az d:=SE hv;refine⟨OT hok h.ok hvm,fun e=>(Bool.noConfusion e),fun _=>?_,by rw[<- DN h.fold hv];unfold oY;rw[SI hb]⟩;have hg:=OW hok h.ok hvm hb;cases b with
 |false =>
  have e:=(h.no rfl).1;subst e;exact⟨fun hl=>hb (hl v hvm),hg⟩
 |true =>
  obtain⟨h1,h2⟩:=h.yes rfl;exact⟨h1,by omega⟩
theorem Rnd.done {d:InfP}{q r:List (List Int)}(h:Rnd d q (az d).length false r):r=q/\isLocal d q :=
 ⟨(h.no rfl).1,fun v hv=>by
  obtain⟨j,hj⟩:=SW.1 hv;exact(h.no rfl).2 j v (get_lt hj) hj⟩
theorem Imp.round {d:InfP}{p q r:List (List Int)}{n:Nat}(h:Imp d p q n)(hr:Rnd d q (az d).length true r):Imp d p r (n+1):=by
 obtain⟨h1,h2⟩:=hr.yes rfl;refine⟨hr.ok,fun e=>by omega,fun hl=>?_,?_,?_,fun j hj=>?_⟩;rotate_left 2
 ·show r=qK d (qL d p n);rw[<- h.it,hr.fold,TC];rfl
 ·by_cases hjn:j=n
  ·subst hjn;rw[<- h.it];exact h1
  ·exact h.bef j (by omega)
 ·have hn:=h.loc hl;rw[h.same hn]at h1;exact absurd hl h1
 ·have:=h.sum
  push_cast
  omega
theorem Imp.bound {d:InfP}(hok:InfOk d)(h6:d.nodes.length<=6){p q:List (List Int)}{n:Nat}(h:Imp d p q n):n<=40000000000000000:=by
 have h1:=DM hok h6 (fixC p);have h2:=DM hok h6 (fixC q);have:=h.sum;omega
theorem Rc (d:InfP)(hok:InfOk d)(h6:d.nodes.length<=6)(q:List (List Int))(hq:PolOk d q)(H:AHeap)(lo:Nat)(qv:AVal)(ho:ay lo H 42 qv (q.map af))
  (K:ARes->AHeap->Prop) (hK:K (.ret (.tup [dV (bW d q) (d.grain ^ d.nodes.length),aa 0])) H):ag prog G0 23 [cW d,qv] H K:=by
 refine(ag.frame (H:=H) (args:=[cW d,qv]) (args':=[cW d,aj q]) (v':=.tup [dV (bW d q) (d.grain ^ d.nodes.length),aa 0]) aE rfl (fun i hi _=>?_) (sL d (sH hok) q (lT hok hq) (CL h6 q) cz _ ⟨_,rfl,?_⟩)).mono ?_
 ·match i,hi with
  |0,_=>exact qM d
  |1,_ =>
   have:=ho.fz (S:=fun _=>True) (nx:=0) (cs':=q.map af) (fun _ _=>trivial) rfl fun i hi _=>by simp only[SV];exact .cI _
   rw[SM]at this;exact this
 ·rw[yp hok hq,nW hok hq];refine .tup rfl fun i hi _=>?_
  match i,hi with
  |0,_=>exact .agg rfl fun i hi _=>match i,hi with|0,_=>.lit _|1,_=>.lit _
  |1,_=>exact .lit _
 ·rintro r H' ⟨rfl,rfl⟩;exact hK
end Go.Proofs
