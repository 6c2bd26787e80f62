/- Own work: contracts. -/
import Derived.Test.YteolcdbjdgimhaaGreatConE
import Derived.Test.YteolcdbjdgimhaaGreatConF
import Derived.Test.YteolcdbjdgimhaaGreatConA
import Derived.Test.YteolcdbjdgimhaaGreatConC
import Derived.Test.YteolcdbjdgimhaaGreatConB
set_option linter.all false
set_option maxHeartbeats 8000000
set_option maxRecDepth 100000
namespace Go.Proofs
open Go.Hx Tryz
def mG (ns:List NodeP)(acc q:Int):Int:=if 0<=q/\q<ns.length/\acc<=1024 then acc*max 1 (min ((ak ns).getD q.toNat 0) 4) else acc
def jg (ns:List NodeP)(ps:List Int):Int:=ps.foldl (mG ns) 1
def jy (d:InfP)(v:Nat)(x:NodeP):NodeP:=if d.decs.testBit v=true/\x.rows=[]/\1<=x.card/\x.card<=4 then { x with rows:=List.replicate (jg d.nodes x.parents).toNat (bI d.grain x.card 0) } else x
def dC (d:InfP):List NodeP:=d.nodes.zipIdx.map fun p=>jy d p.2 p.1
theorem j9 (d:InfP):(dC d).length=d.nodes.length:=by simp[dC]
theorem qp {d:InfP}{v:Nat}{x:NodeP}(h:d.nodes[v]?=some x):(dC d)[v]?=some (jy d v x):=by
 unfold dC;rw[List.getElem?_map,Uz,h];simp
theorem Ph {ns:List NodeP}{a q:Int}(h:1<=a/\a<=4096):1<=mG ns a q/\mG ns a q<=4096:=by
 unfold mG;split
 ·rename_i hc;generalize hm:max 1 (min ((ak ns).getD q.toNat 0) 4)=m;have h1:1<=m/\m<=4:=by omega
  have h2:a*1<=a*m:=Tb h1.1 (by omega);have h3:a*m<=1024*4:=TJ hc.2.2 h1.2 (by omega) (by omega);omega
 ·exact h
theorem yh (ns:List NodeP)(ps:List Int):1<=jg ns ps/\jg ns ps<=4096:=by
 have:∀(l:List Int) (a:Int),1<=a/\a<=4096->1<=l.foldl (mG ns) a/\l.foldl (mG ns) a<=4096:=by
  intro l
  induction l with
  |nil=>exact fun a h=>h
  |cons q l ih=>exact fun a h=>ih _ (Ph h)
 exact this ps 1 (by omega)
theorem CB (ns:List NodeP)(l:List Int)(q:Int):jg ns (l++[q])=mG ns (jg ns l) q:=by unfold jg;rw[TT];rfl
theorem CC {ns:List NodeP}{x:NodeP}(hin:eF x.parents ns.length)(hc:∀y∈ns,1<=y.card/\y.card<=4)(hp:ao (aP ns x)<=1024):jg ns x.parents=ao (aP ns x):=by
 have key:∀k,k<=x.parents.length->jg ns (x.parents.take k)=ao ((aP ns x).take k):=by
  intro k
  induction k with
  |zero=>intro _;rfl
  |succ k ih =>
   intro hk;obtain⟨q,hq⟩:=get_of_lt (l:=x.parents) (i:=k) (by omega);have hqr:=hin q (SE hq);have hcq:(aP ns x)[k]?=some ((ak ns).getD q.toNat 0):=(by unfold aP aI;rw[List.getElem?_map,hq];rfl);rw[aL hq,aL hcq,CB,eQ,ih (by omega)];have hm:=oo hin hc _ (SE hcq);have hle:ao ((aP ns x).take k)<=1024:=by
    have h1:ao ((aP ns x).take k)*ao ((aP ns x).drop k)=ao (aP ns x):=(by rw[<- su,Tl]);have h2:=eD (l:=(aP ns x).take k) fun c h=>(oo hin hc c (S8 h)).1;have h3:=eD (l:=(aP ns x).drop k) fun c h=>(oo hin hc c (T3 h)).1;have h4:ao ((aP ns x).take k)*1<=ao ((aP ns x).take k)*ao ((aP ns x).drop k):=Tb h3 (by omega);omega
   unfold mG;rw[SK ⟨hqr.1,hqr.2,hle⟩];congr 1;omega
 have:=key x.parents.length (Nat.le_refl _);rw[SH (Nat.le_refl _),SH (by rw[show (aP ns x).length=_ from gJ _ _];exact Nat.le_refl _)]at this;exact this
theorem CD (d:InfP)(cs:List AVal)(hnq:NodesQ (fun v=>d.decs.testBit v=true) d.nodes cs)(hf:InfFit d)(H:AHeap)(K:ARes->AHeap->Prop)(hK:Clo H->∀(nh:AVal) (ks:List AVal) (H':AHeap),Over H H'->cG H.next H' 87 3 nh d.nodes.length ks->NodesQ (fun _=>False) (dC d) ks->ar prog G0 H K (.agg [.lit (.int .i64 d.grain),nh]) H'):ag prog G0 42 [dw d cs] H K:=by
 refine ag.clo ⟨_,func42,rfl,rfl⟩ fun hcl=>?_;have hl:=hf.nodes.1;refine ag.st (n:=106) (rs:=[.cell 2 81]) func42 ?_;simp only[go_sem,im,gG];obtain⟨Hb,hHb⟩:∃Hb,Hb=ext H [.arr 0 38 [.lit (.int .i64 d.grain),.vec d.nodes.length cs,.lit (.int .u64 (d.decs:Int)),.vec d.utils.length (aO d.utils)],.arr 0 81 [.lit (.int .i64 0),.lit (.slice none 0 0)],.arr 0 81 [.lit (.int .i64 d.grain),.lit (.slice none 0 0)]]:=⟨_,rfl⟩
 rw[<- hHb];have g0:=df hHb
 have g1:=gE hHb 1 rfl
 have g2:=gE hHb 2 rfl
 have nb:Hb.next=H.next+3:=hHb▸rfl
 have ob:Over H Hb:=hHb▸.ext _ _
 clear hHb;refine W.aG 40564819207303340847894502557680 (by rfl) (fun ρ Hx=>∃(k:Nat) (nh:AVal) (ks:List AVal),ρ 4=aa k/\k<=d.nodes.length/\Hb.next<=Hx.next/\(∀id,id<H.next+2->Hx.get id=Hb.get id)/\Hx.get (H.next+2)=some (.arr 0 81 [.lit (.int .i64 d.grain),nh])/\cG (H.next+3) Hx 87 3 nh k ks/\NodesQ (fun _=>False) ((dC d).take k) ks) (fun ρ H=>d.nodes.length-(iv (ρ 4)).toNat) ?_ ?_
 ·simp only[go_sem];exact⟨0,_,[],rfl,by omega,g2,.nil,.nil⟩
 rintro ρ Hx ⟨k,nh,ks,h4,hk,hnx,hold,hbn,hO,hQ⟩;refine W.en (fun E=>E 1=.ptr H.next 0 0 /\ E 2=.ptr (H.next+1) 0 0 /\ E 3=.ptr (H.next+2) 0 0 /\ E 4=aa k) (by simp only[go_sem,h4]) fun E ⟨e1,e2,e3,e4⟩=>?_
 refine W.vs ?_;have l0:=ah ((hold H.next (by omega)).trans g0);by_cases hb:(k:Int)<d.nodes.length
 ·obtain⟨x,hx⟩:=get_of_lt (l:=d.nodes) (i:=k) (by omega);obtain⟨f1,f2,f3⟩:=hf.nodes.2 x (SE hx);have hne:=hnq.ne hx;obtain⟨rv,c0,_,hdis,hdE⟩:=hnq.part hx;have c1:k*3+3<=cs.length:=by rw[hnq.len];omega
  have w1:=SF ((k:Int)+1) (by omega);have rvo:rv.one=true:=by rcases hdis with h|h<;>rw[h]<;>first|rfl|(unfold bq;split<;>rfl)
  have rvc:rv.cells=[rv]:=by rcases hdis with h|h<;>rw[h]<;>first|rfl|(unfold bq;split<;>rfl)
  have rvl:∀H,dY H rv=some (.lit (.int .i64 x.rows.length)):=fun H=>by
   rcases hdis with h|h<;>rw[h]
   ·rfl
   ·unfold bq;split
    ·rename_i h;rw[h];rfl
    ·rfl
  have step:∀(Hq:AHeap) (rq:AVal) (y:NodeP),jy d k x=y->y.card=x.card->y.parents=x.parents->(rq=aj y.rows\/rq=bq y)->Hx.next<Hq.next->(∀id,id<Hx.next->Hq.get id=Hx.get id) ->
    ∃nh2 H3,bM prog (ext Hq [.arr 0 87 [.lit (.int .i64 x.card),.vec x.parents.length (ints x.parents),rq]]) (Hq.next+1) 34 34 nh (.own Hq.next 0 0 1 3)=some (nh2,H3)/\nh2.cells=[nh2]/\nh2.one=true/\H3.live (H.next+2) 0=some (81,[.lit (.int .i64 d.grain),nh]) /\
     ∀b,b=.arr 0 81 [.lit (.int .i64 d.grain),nh2]->Hb.next<=(H3.upd (H.next+2) b).next/\(∀id,id<H.next+2->(H3.upd (H.next+2) b).get id=Hb.get id)/\(H3.upd (H.next+2) b).get (H.next+2)=some (.arr 0 81 [.lit (.int .i64 d.grain),nh2])/\cG (H.next+3) (H3.upd (H.next+2) b) 87 3 nh2 (k+1) (ks++[.lit (.int .i64 x.card),.vec x.parents.length (ints x.parents),rq])/\NodesQ (fun _=>False) ((dC d).take (k+1)) (ks++[.lit (.int .i64 x.card),.vec x.parents.length (ints x.parents),rq]):=by
   intro Hq rq y hy y1 y2 hrq hqn hqo;have hOq:cG (H.next+3) Hq 87 3 nh k ks:=hO.keep (by omega) fun id g _ h _=>hqo id h;have rqo:rq.one=true:=by rcases hrq with h|h<;>rw[h]<;>first|rfl|(unfold bq;split<;>rfl)
   obtain⟨nh2,H3,hA,hO3,hn3,hp3⟩:=mR (P:=prog) (xs:=[.lit (.int .i64 x.card),.vec x.parents.length (ints x.parents),rq]) Tryz.underlying34 Tryz.sf Tryz.sj (by simp only[List.all_cons,List.all_nil,rqo];rfl) rfl (by rw[Tryz.sh];omega) hOq (by omega) rfl;have keep:∀id,id<H.next+3->H3.get id=Hx.get id:=fun id h=>(hp3 id (by omega) (hOq.ne h)).trans (hqo id (by omega));refine⟨nh2,H3,hA,hO3.cells,hO3.one,ah ((keep _ (by omega)).trans hbn),fun b hb=>⟨by rw[au];omega,fun id h=>by rw[ae,SI (by omega),keep id (by omega)];exact hold id h,by rw[ae,SK rfl,hb],?_⟩⟩;have e:NodesQ (fun _=>False) ((dC d).take (k+1)) (ks++[.lit (.int .i64 x.card),.vec x.parents.length (ints x.parents),rq]):=by
    rw[aL (qp hx),hy];have:=hQ.snoc (x:=y) (rv:=rq) hrq fun h=>h.elim;rw[y1,y2]at this;exact this
   refine⟨?_,e⟩;exact hO3.keep (by rw[au];omega) fun id g h1 _ _=>by rw[ae,SI (by omega)]
  obtain⟨Hp,hHp⟩:∃Hp,Hp=ext Hx [.arr 0 87 [.lit (.int .i64 x.card),.vec x.parents.length (ints x.parents),rv]]:=⟨_,rfl⟩
  have np:Hp.next=Hx.next+1:=hHp▸rfl
  have gP:=df hHp
  have pold:∀id,id<Hx.next->Hp.get id=Hx.get id:=fun id h=>by rw[hHp];exact bb h
  have m0:=ah ((pold H.next (by omega)).trans ((hold H.next (by omega)).trans g0));have m2:=ah ((pold (H.next+2) (by omega)).trans hbn);have mP:=ah gP;simp only [go_sem,e1,e4,l0,hb,hne,c0,c1,rvo];rw [← hHp];simp only [go_sem,m0,e4];refine aw.clo (ve d.decs k hf.decs _ _ ⟨trivial,?_⟩);have no : ¬ (d.decs.testBit k=true∧x.rows=[]∧1≤x.card∧x.card≤4)→∃ nh2 H3,bM prog (ext Hp [.arr 0 87 [.lit (.int .i64 x.card),.vec x.parents.length (ints x.parents),rv]]) (Hp.next+1) 34 34 nh (.own Hp.next 0 0 1 3)=some (nh2,H3)∧nh2.cells=[nh2]∧nh2.one=true∧H3.live (H.next+2) 0=some (81,[.lit (.int .i64 d.grain),nh]) ∧
     ∀b,b=.arr 0 81 [.lit (.int .i64 d.grain),nh2]->Hb.next<=(H3.upd (H.next+2) b).next/\(∀id,id<H.next+2->(H3.upd (H.next+2) b).get id=Hb.get id)/\(H3.upd (H.next+2) b).get (H.next+2)=some (.arr 0 81 [.lit (.int .i64 d.grain),nh2])/\cG (H.next+3) (H3.upd (H.next+2) b) 87 3 nh2 (k+1) (ks++[.lit (.int .i64 x.card),.vec x.parents.length (ints x.parents),rv])/\NodesQ (fun _=>False) ((dC d).take (k+1)) (ks++[.lit (.int .i64 x.card),.vec x.parents.length (ints x.parents),rv]):=fun h =>
   step Hp rv x (SI h) rfl rfl hdis (by omega) pold
  cases hbit:d.decs.testBit k
  ·obtain⟨nh2,H3,hA,nc,no1,ln,st⟩:=no fun h=>by rw[hbit]at h;cases h.1
   simp only[go_sem,e3,e4,m2,mP,hA,nc,no1,ln,w1];exact⟨(st _ rfl).1,⟨k+1,nh2,_,rfl,by omega,(st _ rfl).1,(st _ rfl).2.1,(st _ rfl).2.2.1,(st _ rfl).2.2.2.1,(st _ rfl).2.2.2.2⟩,by rw[h4];simp only[aa,aM];omega⟩
  by_cases hr0:x.rows=[]
  rotate_left
  ·obtain⟨nh2,H3,hA,nc,no1,ln,st⟩:=no fun h=>hr0 h.2.1;have hr0':¬(x.rows.length:Int)=0:=fun h=>hr0 (SP (by omega));simp only[go_sem,e3,e4,m2,mP,rvl,hr0',hA,nc,no1,ln,w1];exact⟨(st _ rfl).1,⟨k+1,nh2,_,rfl,by omega,(st _ rfl).1,(st _ rfl).2.1,(st _ rfl).2.2.1,(st _ rfl).2.2.2.1,(st _ rfl).2.2.2.2⟩,by rw[h4];simp only[aa,aM];omega⟩
  have hrn:rv=.lit (.slice none 0 0):=(hdE hbit).trans (SK hr0);by_cases hc1:x.card >= 1;rotate_left
  ·obtain⟨nh2,H3,hA,nc,no1,ln,st⟩:=no fun h=>hc1 h.2.2.1;rw[hrn]at mP hA;simp only[go_sem,e3,e4,m2,mP,hc1,hA,nc,no1,ln,w1];exact⟨(st _ rfl).1,⟨k+1,nh2,_,rfl,by omega,(st _ rfl).1,(st _ rfl).2.1,(st _ rfl).2.2.1,(st _ rfl).2.2.2.1,(st _ rfl).2.2.2.2⟩,by rw[h4];simp only[aa,aM];omega⟩
  by_cases hc4:x.card<=4;rotate_left
  ·obtain⟨nh2,H3,hA,nc,no1,ln,st⟩:=no fun h=>hc4 h.2.2.2;rw[hrn]at mP hA;simp only[go_sem,e3,e4,m2,mP,hc1,hc4,hA,nc,no1,ln,w1];exact⟨(st _ rfl).1,⟨k+1,nh2,_,rfl,by omega,(st _ rfl).1,(st _ rfl).2.1,(st _ rfl).2.2.1,(st _ rfl).2.2.2.1,(st _ rfl).2.2.2.2⟩,by rw[h4];simp only[aa,aM];omega⟩
  clear no;rw[hrn]at mP gP;simp only[go_sem,mP,hc1,hc4];refine W.aG 2417851639158889605235136 (by rfl) (fun ρ2 Hq=>Hq=Hp/\∃j:Nat,ρ2 7=aa j/\j<=x.parents.length/\ρ2 6=aa (jg d.nodes (x.parents.take j))) (fun ρ2 H=>x.parents.length-(iv (ρ2 7)).toNat) ?_ ?_
  ·simp only[go_sem];exact⟨0,rfl,by omega,rfl⟩
  rintro ρ2 Hq ⟨hHq,j,h7,hj,h6⟩;subst hHq;refine W.en (fun E2=>E2 1=.ptr H.next 0 0 /\ E2 2=.ptr (H.next+1) 0 0 /\ E2 3=.ptr (H.next+2) 0 0 /\ E2 4=aa k /\ E2 5=.ptr Hx.next 0 0 /\ E2 6=aa (jg d.nodes (x.parents.take j)) /\ E2 7=aa j) (by simp only[go_sem,e1,e2,e3,e4,h6,h7]) fun E2 ⟨f1,f2,f3,f4,f5,f6,f7⟩=>?_
  refine W.vs ?_;by_cases hb2:(j:Int)<x.parents.length
  ·obtain⟨q,hq⟩:=get_of_lt (l:=x.parents) (i:=j) (by omega);have hqne:=aJ hq;have hs:=CB d.nodes (x.parents.take j) q;rw[<- aL hq]at hs;have hrr:=yh d.nodes (x.parents.take j);have w2:=SF ((j:Int)+1) (by omega);unfold mG at hs;by_cases q0:q >= 0;rotate_left
   ·rw[SI (fun h=>q0 h.1)]at hs;simp only[go_sem,f5,f6,f7,mP,hb2,hq,hqne,q0,w2];exact⟨⟨j+1,rfl,by omega,by rw[hs]⟩,by rw[h7];simp only[aa,aM];omega⟩
   by_cases q1:q<d.nodes.length;rotate_left
   ·rw[SI (fun h=>q1 h.2.1)]at hs;simp only[go_sem,f1,f5,f6,f7,mP,m0,hb2,hq,hqne,q0,q1,w2];exact⟨⟨j+1,rfl,by omega,by rw[hs]⟩,by rw[h7];simp only[aa,aM];omega⟩
   by_cases q2:jg d.nodes (x.parents.take j)<=1024;rotate_left
   ·rw[SI (fun h=>q2 h.2.2)]at hs;simp only[go_sem,f1,f5,f6,f7,mP,m0,hb2,hq,hqne,q0,q1,q2,w2];exact⟨⟨j+1,rfl,by omega,by rw[hs]⟩,by rw[h7];simp only[aa,aM];omega⟩
   rw[SK ⟨q0,q1,q2⟩]at hs;obtain⟨u,rfl⟩:=SR q0;obtain⟨z,hz⟩:=get_of_lt (l:=d.nodes) (i:=u) (by omega);have z0:=hnq.c0 hz;have zne:=hnq.ne hz;rw[Int.toNat_natCast,bp (dm hz)]at hs;have hm4:1<=max 1 (min z.card 4)/\max 1 (min z.card 4)<=4:=(by omega);have hmm:(if (if 4<z.card then 4 else z.card) > 1 then if 4<z.card then 4 else z.card else 1)=max 1 (min z.card 4):=(by split<;>split<;>omega);generalize max 1 (min z.card 4)=m at hs hm4 hmm;have hp1:jg d.nodes (x.parents.take j)*m<=1024*4:=TJ q2 hm4.2 (by omega) (by omega);have hp0:0<=jg d.nodes (x.parents.take j)*m:=T8 (by omega) (by omega);have w3:=SF (jg d.nodes (x.parents.take j)*m) (by omega);simp only[go_sem,f1,f5,f6,f7,mP,m0,hb2,hq,hqne,q0,q1,q2,w2,zne,z0,hmm,w3];exact⟨⟨j+1,rfl,by omega,by rw[hs]⟩,by rw[h7];simp only[aa,aM];omega⟩
  ·have hje:j=x.parents.length:=(by omega);rw[hje,SH (Nat.le_refl _)]at f6;have hRr:=yh d.nodes x.parents;obtain⟨R,hR⟩:=SR (show 0<=jg d.nodes x.parents by omega);rw[hR]at f6;obtain⟨cn,hcn⟩:=SR (show 0<=x.card by omega);have hcn0:(0:Int)<cn:=(by omega);have hcn1:1<=cn:=(by omega);have hcn2:(cn:Int) >= 0:=(by omega);have ury:jy d k x={ x with rows:=List.replicate R (bI d.grain x.card 0) }:=by
    unfold jy;rw[SK ⟨hbit,hr0,hc1,hc4⟩,hR,Int.toNat_natCast]
   simp only[go_sem,f4,f5,f7,mP,hb2];refine W.me (Q':=fun e s2=>e=.exit 4/\∃rq,s2.ρ 1=.ptr H.next 0 0/\s2.ρ 2=.ptr (H.next+1) 0 0/\s2.ρ 3=.ptr (H.next+2) 0 0/\s2.ρ 4=aa k/\s2.ρ 5=.ptr Hx.next 0 0/\Hq.next<=s2.H.next/\(∀id,id<Hx.next->s2.H.get id=Hx.get id)/\s2.H.get Hx.next=some (.arr 0 87 [.lit (.int .i64 x.card),.vec x.parents.length (ints x.parents),rq])/\eY Hq.next s2.H 42 3 rq (List.replicate R (ints (bI d.grain x.card 0)))) ?_ ?_;rotate_left
   ·rintro e s2 ⟨rfl,rq,a1,a2,a3,a4,a5,hn2,ho2,hP2,hO2⟩;have hv:=hO2.fz (S:=fun id=>Hq.next<=id) (nx:=s2.H.next) (rows':=List.replicate R (ints (bI d.grain x.card 0))) (fun _ h=>h) rfl fun j r r' h1 h2=>by
     rw[h1]at h2;cases h2;refine⟨rfl,fun i hi _=>?_⟩;have hr:=Tr (SE h1);subst hr;have e0:(ints (bI d.grain x.card 0))[i]?=some (ints (bI d.grain x.card 0))[i]:=SJ hi;generalize (ints (bI d.grain x.card 0))[i]=a at e0 ⊢;rw[ij]at e0;obtain⟨b,_,rfl⟩:=SG.1 e0;exact .lit _
    rw[S6,UQ]at hv;have hvv:(AVal.vec R (List.replicate R (.vec (ints (bI d.grain x.card 0)).length (ints (bI d.grain x.card 0)))))=aj (List.replicate R (bI d.grain x.card 0)):=by
     unfold aj af;rw[S6,UQ,aH]
    rw[hvv]at hv;refine⟨⟨s2.ρ,s2.H.gT Hq.next Hx.next (.arr 0 87 [.lit (.int .i64 x.card),.vec x.parents.length (ints x.parents),aj (List.replicate R (bI d.grain x.card 0))])⟩,cJ.gT aE hP2 (by omega) rfl (fun i hi _=>?_),Nat.le_refl _,trivial,?_⟩
    ·match i,hi with
     |0,_=>exact .lit _
     |1,_=>exact .cI _
     |2,_=>exact hv
    obtain⟨He,hHe⟩:∃He,He=s2.H.gT Hq.next Hx.next (.arr 0 87 [.lit (.int .i64 x.card),.vec x.parents.length (ints x.parents),aj (List.replicate R (bI d.grain x.card 0))]):=⟨_,rfl⟩
    rw[<- hHe];have gPe:He.get Hx.next=some (.arr 0 87 [.lit (.int .i64 x.card),.vec x.parents.length (ints x.parents),aj (List.replicate R (bI d.grain x.card 0))]):=(by rw[hHe];exact Cr (by omega));have hoe:∀id,id<Hx.next->He.get id=Hx.get id:=fun id h=>by rw[hHe,Cs (by omega) (by omega)];exact ho2 id h
    have hne':He.next=s2.H.next:=(by rw[hHe];rfl);clear hHe hv hP2 hO2;have lPe:=ah gPe;have l2e:=ah ((hoe (H.next+2) (by omega)).trans hbn);obtain⟨nh2,H3,hA,nc,no1,ln,st⟩:=step He (aj (List.replicate R (bI d.grain x.card 0))) _ ury rfl rfl (.inl rfl) (by omega) hoe;simp only[go_sem,a2,a3,a4,a5,lPe,l2e,hA,nc,no1,ln,w1];exact⟨(st _ rfl).1,⟨k+1,nh2,_,rfl,by omega,(st _ rfl).1,(st _ rfl).2.1,(st _ rfl).2.2.1,(st _ rfl).2.2.2.1,(st _ rfl).2.2.2.2⟩,by rw[h4];simp only[aa,aM];omega⟩
   refine W.aG 633822882262475471490002191872 (by rfl) (fun ρ3 Hy=>∃(i:Nat) (rq:AVal),ρ3 9=aa i/\i<=R/\Hq.next<=Hy.next/\(∀id,id<Hx.next->Hy.get id=Hx.get id)/\Hy.get Hx.next=some (.arr 0 87 [.lit (.int .i64 x.card),.vec x.parents.length (ints x.parents),rq])/\eY Hq.next Hy 42 3 rq (List.replicate i (ints (bI d.grain x.card 0)))) (fun ρ3 H=>R-(iv (ρ3 9)).toNat) ?_ ?_
   ·simp only[go_sem];exact⟨0,_,rfl,by omega,pold,gP,.nil⟩
   rintro ρ3 Hy ⟨i,rq,h9,hi,hny,hyo,hyP,hOy⟩;refine W.env fun E3 hE3=>?_;have a1:E3 1=.ptr H.next 0 0:=(by rw[hE3];simp only[go_sem,f1]);have a2:E3 2=.ptr (H.next+1) 0 0:=(by rw[hE3];simp only[go_sem,f2]);have a3:E3 3=.ptr (H.next+2) 0 0:=(by rw[hE3];simp only[go_sem,f3]);have a4:E3 4=aa k:=(by rw[hE3];simp only[go_sem,f4]);have a5:E3 5=.ptr Hx.next 0 0:=(by rw[hE3];simp only[go_sem,f5]);have a6:E3 6=aa R:=(by rw[hE3];simp only[go_sem,f6]);have a9:E3 9=aa i:=(by rw[hE3];simp only[go_sem,h9]);clear hE3;refine W.vs ?_;by_cases hb3:(i:Int)<R
   ·have w3:=SF ((i:Int)+1) (by omega);have yP:=ah hyP;have y0:=ah ((hyo H.next (by omega)).trans ((hold H.next (by omega)).trans g0));rw[hcn]at yP;have y0e:∀L,(ext Hy L).live H.next 0=_:=fun L=>(dh (by omega)).trans y0;have yPe:∀L,(ext Hy L).live Hx.next 0=_:=fun L=>(dh (by omega)).trans yP;have hun:(AVal.lit (.int .i64 d.grain) :: List.drop 1 (List.replicate cn (.lit (.int .i64 0))))=ints (bI d.grain x.card 0):=by
     unfold bI;rw[hcn,Int.toNat_natCast];obtain⟨m,rfl⟩:∃m,cn=m+1:=⟨cn-1,by omega⟩
     simp[TI,ints,aa]
    have hul:(bI d.grain x.card 0).length=cn:=(by rw[sQ,hcn];rfl);obtain⟨Hw,hHw⟩:∃Hw,Hw=ext Hy [.arr 0 3 (ints (bI d.grain x.card 0))]:=⟨_,rfl⟩
    have hwn:Hw.next=Hy.next+1:=(by rw[hHw];rfl);have hwo:Over Hy Hw:=(by rw[hHw];exact .ext _ _);have hwg:Hw.get Hy.next=some (.arr 0 3 (ints (bI d.grain x.card 0))):=(by rw[hHw];exact bX);have wP:Hw.live Hx.next 0=_:=(hwo.live (by omega)).trans yP;obtain⟨rq',Hj,hA,hO',hnj,hpj⟩:=eY.app (P:=prog) (H:=Hw) (n:=Hw.next+1) (t:=33) (x:=.own Hy.next 0 0 cn 1) (r:=ints (bI d.grain x.card 0)) Tryz.underlying33 Tryz.jv Tryz.jH Tryz.jG (by decide) (by rw[S6];omega) (hOy.over hwo) (by omega) (.inr ⟨Hy.next,0,by omega,by omega,by rw[aH,hul],hwg⟩) rfl;have keep:∀id,id<Hq.next->Hj.get id=Hy.get id:=fun id h=>(hpj id (by omega) h).trans (hwo.old id (by omega));have jP:Hj.live Hx.next 0=_:=ah ((keep _ (by omega)).trans hyP);obtain⟨cs',hcs'⟩:=id hO';have rc:=hcs'.1.cells;have ro:=hcs'.1.one;rw[hwn,hHw,dp]at hA;simp only[List.cons_append,List.nil_append,Uk,Nat.reduceAdd]at hA;simp only[go_sem,a1,a5,a6,a9,hb3,yP,y0e,yPe,hcn0,hcn2,hun,hA,jP,rc,ro,w3];refine⟨by omega,by simp;omega,by rw[au];omega,⟨i+1,rq',rfl,by omega,by rw[au];omega,fun id h=>by rw[ae,SI (by omega),keep id (by omega)];exact hyo id h,by rw[ae,SK rfl],?_⟩,by rw[h9];simp only[aa,aM];omega⟩;rw[UZ];exact hO'.upd (by omega)
   ·simp only[go_sem,a1,a2,a3,a4,a5,a6,a9,hb3];have:i=R:=(by omega);subst this;exact⟨rq,hny,hyo,hyP,hOy⟩
 ·have hke:k=d.nodes.length:=by omega
  have l2:=ah hbn;have l1:=ah ((hold (H.next+1) (by omega)).trans g1);have nc:=hO.cells;have no:=hO.one;simp only[go_sem,e1,e2,e3,e4,l0,l1,l2,hb,no];rw[hke]at hO hQ;rw[SH (by rw[j9];exact Nat.le_refl _)]at hQ;refine hK hcl nh ks _ ⟨by rw[au];have:=ob.next;omega,fun id h=>by rw[ae,SI (by omega),hold id (by omega)];exact ob.old id h⟩ ?_ hQ;rcases hO with ⟨h,hz,hc⟩|⟨id,gg,k1,k2,h,k4,k5⟩
  ·exact .inl ⟨h,hz,hc⟩
  ·exact .inr ⟨id,gg,by omega,by rw[au];exact k2,h,k4,by rw[ae,SI (by omega)];exact k5⟩
theorem CE (d:InfP)(cs:List AVal)(hq:NodesQ (fun v=>d.decs.testBit v=true) d.nodes cs)(hf:InfFit d)(H:AHeap)(K:ARes->AHeap->Prop)(hK:K (.ret (bL d.grain (dC d))) H):ag prog G0 42 [dw d cs] H K:=by
 refine CD d cs hq hf H K fun hcl nh ks H' ho hO hQ=>?_;refine ar.aV (v':=bL d.grain (dC d)) aE hcl ho (.agg rfl fun i hi _=>?_) hK
 match i,hi with
 |0,_=>exact .lit _
 |1,_ =>
  show Fz _ _ _ nh (cE (dC d));unfold cE;rw[j9];rcases hO with ⟨h,hz,hc⟩|⟨id,gg,k1,k2,h,k4,k5⟩
  ·have:dC d=[]:=SP (by rw[j9];exact hz);rw[h,hz,this];exact .nil
  ·rw[h];refine .frz k1 k5 (by rw[iI,j9]) fun j hj h2 h'=>?_;have e0:(0:Nat)+j=j:=Nat.zero_add j;have h3:j<ks.length:=(by omega);have:=fun Hq=>hQ.uK (S:=fun id=>H.next<=id) (H:=Hq) (nx:=H.next) j h3 h';simpa only[e0] using this _
theorem Pi (d:InfP)(cs:List AVal)(hq:NodesQ (fun v=>d.decs.testBit v=true) d.nodes cs)(hf:InfFit d)(H:AHeap)(K:ARes->AHeap->Prop)(hK:∀(nh:AVal) (ks:List AVal) (H':AHeap),Over H H'->cG H.next H' 87 3 nh d.nodes.length ks->NodesQ (fun _=>False) (dC d) ks->K (.ret (.agg [.lit (.int .i64 d.grain),nh])) H'):ag prog G0 42 [dw d cs] H K :=
 CD d cs hq hf H K fun _ nh ks H' ho hO hQ=>ar.mk ho.next (hK nh ks H' ho hO hQ)
theorem Pj {cs:List Int}(hc:∀c∈cs,1<=c):∀(k:Nat) (ps:List Int),k<=cs.length->ps.Pairwise (·<·)->(∀p∈ps,0<=p/\p<k)->ao (aI cs ps)<=ao (cs.take k):=by
 intro k
 induction k with
 |zero =>
  intro ps _ _ h;cases ps with
  |nil=>exact Int.le_refl _
  |cons p ps=>have:=h p (by simp);omega
 |succ k ih =>
  intro ps hk hw h;obtain⟨c,hck⟩:=get_of_lt (l:=cs) (i:=k) (by omega);have c1:=hc c (SE hck);rw[aL hck,eQ];have hp:=eD (l:=cs.take k) fun c h=>hc c (S8 h);rcases V4 ps with rfl|⟨qs,q,rfl⟩
  ·show 1<=_;have:=TJ hp c1 (by omega) (by omega);omega
  ·rw[V5]at hw h ⊢;have hq:=h q (by simp);obtain⟨w1,_,w3⟩:=Uy.1 hw;have hqs:∀p∈qs,0<=p/\p<q:=fun p hp=>⟨(h p (by simp[hp])).1,w3 p hp q (by simp)⟩
   by_cases hqk:q=k
   ·have h1:=ih qs (by omega) w1 fun p hp=>by have:=hqs p hp;omega
    unfold aI at h1 ⊢;rw[Tq,su];have e:ao (List.map (fun p=>cs.getD p.toNat 0) [q])=c:=by
     rw[hqk];simp only[List.map_cons,List.map_nil,Int.toNat_natCast,bp hck,jf,gm,U5]
    rw[e];exact UE h1 (by omega)
   ·have h1:=ih (qs++[q]) (by omega) hw fun p hp=>by
     rcases S5.1 hp with h'|h'
     ·have:=hqs p h';omega
     ·obtain rfl:=List.mem_singleton.1 h';omega
    have h2:ao (cs.take k)*1<=ao (cs.take k)*c:=Tb c1 (by omega);omega
theorem sE {ns:List NodeP}{x:NodeP}(hp:bO x.parents ns.length)(hc:∀y∈ns,1<=y.card/\y.card<=4):ao (aP ns x)<=ao (ak ns):=by
 have h:=Pj (cs:=ak ns) (fun c h=>by
  obtain⟨y,hy,rfl⟩:=SY.1 h;exact(hc y hy).1) ns.length x.parents (by rw[cC];exact Nat.le_refl _) hp.1 hp.2
 rw[SH (by rw[cC];exact Nat.le_refl _)]at h;exact h
theorem yi {d:InfP}(h:InfOk d):dC d=bG d fun _ _=>0:=by
 apply Ti;intro v;rcases S9 v d.nodes.length with hv|hv
 ·obtain⟨x,hx⟩:=get_of_lt hv;rw[qp hx,eW hx];unfold jy;by_cases hb:d.decs.testBit v=true
  ·obtain⟨x1,x2⟩:=h.n.dec v x hx hb;have hc:=h.n.card x (SE hx);rw[SK ⟨hb,x1,hc.1,hc.2⟩,lg hx hb];have hsz:=h.net.size;rw[kg]at hsz;have hle:=sE x2 h.n.card;rw[CC (fun q hq=>by have:=x2.2 q hq;omega) h.n.card (by omega),x1,List.nil_append];congr 2;unfold di bB;rw[UA,TK]
  ·rw[SI fun h=>hb h.1,kh hb]
 ·rw[SQ (by rw[j9];exact hv),SQ (by rw[dB];exact hv)]
def dq (d:InfP)(v:Nat):Int × Int:=match d.nodes[v]? with
 |some x=>(bB d.nodes x,x.card)
 |none=>(0,0)
def aT (d:InfP):List (Int × Int):=(az d).map (dq d)
def dQ (l:List (Int × Int)):List AVal:=(l.map fun p=>[aa p.1,aa p.2]).flatten
theorem uV {l:List (Int × Int)}{i:Nat}{p:Int × Int}(h:l[i]?=some p):(dQ l)[i*2]?=some (aa p.1):=je (f:=fun p:Int × Int=>[aa p.1,aa p.2]) (z:=2) (fun _=>rfl) l i 0 p h (by omega)
theorem yj {l:List (Int × Int)}{i:Nat}{p:Int × Int}(h:l[i]?=some p):(dQ l)[i*2+1]?=some (aa p.2):=je (f:=fun p:Int × Int=>[aa p.1,aa p.2]) (z:=2) (fun _=>rfl) l i 1 p h (by omega)
theorem Pk (l:List (Int × Int)):(dQ l).length=l.length*2:=kJ (f:=fun p:Int × Int=>[aa p.1,aa p.2]) (fun _=>rfl) l
theorem yk {l:List (Int × Int)}{i:Nat}{p:Int × Int}(h:l[i]?=some p):¬dQ l=[]:=fun e=>by
 have:=uV h;rw[e]at this;simp at this
theorem CF (l:List (Int × Int))(p:Int × Int):dQ (l++[p])=dQ l++[aa p.1,aa p.2]:=by unfold dQ;simp
theorem CG {S:Nat->Prop}{H:AHeap}{nx:Nat}(l:List (Int × Int)):∀c∈dQ l,Fz S H nx c c:=by
 intro c hc;unfold dQ at hc;obtain⟨r,hr,hc⟩:=Uh.1 hc;obtain⟨x,_,rfl⟩:=SY.1 hr;simp only[List.mem_cons,List.not_mem_nil,or_false]at hc;rcases hc with rfl|rfl<;>exact .lit _
theorem kU {d:InfP}(h:InfOk d){v:Nat}(hv:v<d.nodes.length)(hb:d.decs.testBit v=true):1<=(dq d v).1/\(dq d v).1<=1024/\1<=(dq d v).2/\(dq d v).2<=4:=by
 obtain⟨x,hx⟩:=get_of_lt hv;obtain⟨x1,x2⟩:=h.n.dec v x hx hb;have hc:=h.n.card x (SE hx);have hsz:=h.net.size;rw[kg]at hsz;have hle:=sE x2 h.n.card;have hps:=eD (l:=aP d.nodes x) fun c hc=>(oo (fun q hq=>by have:=x2.2 q hq;omega) h.n.card c hc).1;unfold dq;rw[hx];show 1<=((bB d.nodes x:Nat):Int)/\((bB d.nodes x:Nat):Int)<=1024/\1<=x.card/\x.card<=4;unfold bB;omega
theorem CH (d:InfP)(cs:List AVal)(hq:NodesQ (fun v=>d.decs.testBit v=true) d.nodes cs)(hf:InfFit d)(hok:InfOk d)(H:AHeap)(K:ARes->AHeap->Prop)(hK:K (.ret (.vec (aT d).length (dQ (aT d)))) H):ag prog G0 35 [dw d cs] H K:=by
 refine ag.clo ⟨_,func35,rfl,rfl⟩ fun hcl=>?_;have hl:=hf.nodes.1;have hn8:=hok.n.n1.2;refine ag.st (n:=41) (rs:=[.tmp 2]) func35 ?_;simp only[go_sem,im,gG];obtain⟨H1,hH1⟩:∃H1,H1=ext H [.arr 0 38 [.lit (.int .i64 d.grain),.vec d.nodes.length cs,.lit (.int .u64 (d.decs:Int)),.vec d.utils.length (aO d.utils)]]:=⟨_,rfl⟩
 have g0:=df hH1
 have n1:H1.next=H.next+1:=hH1▸rfl
 have o1:Over H H1:=hH1▸.ext _ _
 rw[<- hH1];clear hH1;have m0:=ah g0;refine aw.clo (CE d cs hq hf _ _ ⟨trivial,?_⟩);rw[yi hok];simp only[go_sem,bL,cE];obtain⟨H2,hH2⟩:∃H2,H2=ext H1 [.arr 0 81 [.lit (.int .i64 d.grain),.vec (bG d fun _ _=>0).length (aF (bG d fun _ _=>0))]]:=⟨_,rfl⟩
 have g1:=df hH2
 have o2:Over H1 H2:=hH2▸.ext _ _
 have n2:H2.next=H1.next+1:=hH2▸rfl
 have k0:=(o2.live (g:=0) (by omega:H.next<H1.next)).trans m0;have k1:=ah g1;rw[<- hH2];clear hH2;simp only[go_sem,k0];refine aw.clo (vg d cs hf.decs (by omega) _ _ ⟨trivial,?_⟩);simp only[go_sem];have dl:(aW (az d)).length=(az d).length:=by simp[aW]
 have dl8:(az d).length<=d.nodes.length:=fY;refine W.aG 1099511625800 (by rfl) (fun ρ Hx=>∃(k:Nat) (ov:AVal),ρ 6=aa k/\k<=(az d).length/\Over H2 Hx/\ρ 3=ov/\cG H2.next Hx 97 2 ov k (dQ ((aT d).take k))) (fun ρ H=>(az d).length-(iv (ρ 6)).toNat) ?_ ?_
 ·simp only[go_sem];exact⟨0,_,rfl,by omega,.refl _,rfl,.nil⟩
 rintro ρ Hx ⟨k,ov,h6,hk,hov,h3,hO⟩;refine W.en (fun E=>E 3=ov /\ E 4=.ptr H1.next 0 0 /\ E 5=af (aW (az d)) /\ E 6=aa k) (by simp only[go_sem,h3,h6]) fun E ⟨e3,e4,e5,e6⟩=>?_
 refine W.vs ?_;have x1:=(hov.live (g:=0) (by omega:H1.next<H2.next)).trans k1;have onx:=hov.next;by_cases hb:(k:Int)<(az d).length
 ·obtain⟨v,hv⟩:=get_of_lt (l:=az d) (i:=k) (by omega);obtain⟨v1,v2,_⟩:=eE hv;obtain⟨x,hx⟩:=get_of_lt v1;have hvi:(aW (az d))[k]?=some (v:Int):=by unfold aW;rw[List.getElem?_map,hv];rfl
  have hvne:=aJ hvi;have hfx:=eW (c:=fun _ _=>0) hx;have f0:=iJ hfx;have f2:=qf hfx;have fne:=dJ hfx;have hvl:(v:Int)<(bG d fun _ _=>0).length:=by rw[dB];omega
  have w1:=SF ((k:Int)+1) (by omega);have hrc:dq d v=(((fa d (fun _ _=>0) (az d).length v x).rows.length:Int),(fa d (fun _ _=>0) (az d).length v x).card):=by
   rw[lg hx v2];unfold dq;rw[hx];have:=(hok.n.dec v x hx v2).1;simp[this,di]
  generalize fa d (fun _ _=>0) (az d).length v x=y at f0 f2 hrc;obtain⟨ov',Hj,hA,hO',hnj,hpj⟩:=mR (P:=prog) (t:=95) (xs:=[aa y.rows.length,aa y.card]) Tryz.underlying95 Tryz.xK Tryz.xM rfl rfl (by rw[Tryz.xL];omega) hO onx rfl;simp only[aa]at hA;simp only[go_sem,e5,e6,dl,hb];refine W.dr 22 [0,0,2,0,0,24,56,126,254,510,1022,0,2048,0,0,24576,57344,129024,260096,522240,1048574,2097150] mixed ?_;simp only[go_sem,e3,e4,e5,e6,dl,hb,hvi,hvne,x1,f0,f2,fne,hvl,w1,hA,aj];have hrg:(aT d)[k]?=some (dq d v):=by unfold aT;rw[List.getElem?_map,hv];rfl
  refine⟨by omega,⟨k+1,ov',rfl,by omega,⟨by omega,fun id h=>(hpj id (by omega) (hO.ne h)).trans (hov.old id h)⟩,rfl,?_⟩,by rw[h6];simp only[aa,aM];omega⟩;rw[aL hrg,CF,hrc];exact hO'
 ·have hke:k=(az d).length:=by omega
  simp only[go_sem,e3,e5,e6,dl,hb];have hrl:(aT d).length=(az d).length:=by simp[aT]
  rw[hke,SH (by omega)]at hO;refine ar.aV aE hcl ((o1.trans o2).trans hov) ?_ hK;rw[hrl];have oh2:=(o1.trans o2).next;rcases hO with ⟨h,hz,hc⟩|⟨id,gg,k1,k2,h,k4,k5⟩
  ·rw[h,hz,hc];exact .nil
  ·rw[h];refine .frz (by omega) k5 k4 fun j hj h2 h'=>?_;have e0:(0:Nat)+j=j:=Nat.zero_add j;have h3:j<(dQ (aT d)).length:=(by omega);have:=fun Hq=>CG (S:=fun id=>H.next<=id) (H:=Hq) (nx:=H.next) (aT d) _ (Tk h3);simpa only[e0] using this _
theorem Pl (d:InfP)(hf:InfFit d)(hok:InfOk d)(H:AHeap)(K:ARes->AHeap->Prop)(hK:K (.ret (.vec (aT d).length (dQ (aT d)))) H):ag prog G0 35 [sI d] H K:=CH d _ (ya _ _) hf hok H K hK
def sF (l:List (Int × Int))(ps:List (List Int)):Prop:=ps.length=l.length/\∀(k:Nat) (p:Int × Int) (r:List Int),l[k]?=some p->ps[k]?=some r->(r.length:Int)=p.1/\∀a∈r,0<=a/\a<p.2
theorem sG {d:InfP}{p:List (List Int)}:PolOk d p↔sF (aT d) p:=by
 have hg:∀(k v:Nat) (x:NodeP),(az d)[k]?=some v->d.nodes[v]?=some x->(aT d)[k]?=some ((bB d.nodes x:Int),x.card):=fun k v x hv hx=>by
  unfold aT;rw[List.getElem?_map,hv,Option.map_some];unfold dq;rw[hx]
 constructor
 ·intro h;refine⟨by rw[h.len];simp[aT],fun k q r hq hr=>?_⟩;obtain⟨v,hv⟩:=get_of_lt (l:=az d) (i:=k) (by have:=get_lt hr;rw[h.len]at this;exact this);obtain⟨v1,_⟩:=eE hv;obtain⟨x,hx⟩:=get_of_lt v1;rw[hg k v x hv hx]at hq;cases hq;obtain⟨a,b⟩:=h.row k v x r hv hx hr;exact⟨by rw[a],b⟩
 ·intro h;refine⟨by rw[h.1];simp[aT],fun k v x l hv hx hl=>?_⟩;obtain⟨a,b⟩:=h.2 k _ l (hg k v x hv hx) hl;exact⟨by simp only at a;omega,b⟩
theorem Pm (d:InfP)(hf:InfFit d)(hok:InfOk d)(bs:List Int)(hbl:(bs.length:Int)<2 ^ 63)(hb8:∀x∈bs,U8 x)(H:AHeap)(K:ARes->AHeap->Prop)(hK:∀p,PolOk d p->K (.ret (aj p)) H):ag prog G0 7 [sI d,.vec bs.length (bZ bs)] H K:=by
 refine ag.clo ⟨_,func7,rfl,rfl⟩ fun hcl=>?_;have hn8:=hok.n.n1.2;refine ag.st (n:=57) (rs:=[.tmp 4]) func7 ?_;simp only[go_sem,CY,vf];obtain⟨H1,hH1⟩:∃H1,H1=ext H [.arr 0 38 [.lit (.int .i64 d.grain),.vec d.nodes.length (aY d.nodes),.lit (.int .u64 (d.decs:Int)),.vec d.utils.length (aO d.utils)]]:=⟨_,rfl⟩
 have n1:H1.next=H.next+1:=hH1▸rfl
 have o1:Over H H1:=hH1▸.ext _ _
 rw[<- hH1];clear hH1;refine aw.clo (Pl d hf hok _ _ ⟨trivial,?_⟩);have rl:(aT d).length=(az d).length:=by simp[aT]
 have dl8:(az d).length<=d.nodes.length:=fY;have rr:∀p∈aT d,1<=p.1/\p.1<=1024/\1<=p.2/\p.2<=4:=fun p hp=>by
  unfold aT at hp;obtain⟨v,hv,rfl⟩:=SY.1 hp;obtain⟨v1,v2⟩:=eI.1 hv;exact kU hok v1 v2
 generalize hL:aT d=L at rl rr;simp only[go_sem];refine W.aG 72057594037915552 (by rfl) (fun ρ Hx=>∃(k at':Nat) (ps:List (List Int)),ρ 8=aa k/\k<=L.length/\ρ 7=aa at'/\at'<=k*1024/\H1.next<=Hx.next/\(∀id,id<H1.next->Hx.get id=H1.get id)/\eY H1.next Hx 42 3 (ρ 5) (ps.map ints)/\sF (L.take k) ps) (fun ρ H=>L.length-(iv (ρ 8)).toNat) ?_ ?_
 ·simp only[go_sem];exact⟨0,0,[],rfl,by omega,rfl,by omega,.nil,rfl,fun k p r _ h=>by simp at h⟩
 rintro ρ Hx ⟨k,at',ps,h8,hk,h7,hat,hnx,hold,h5,hfit⟩;obtain⟨ov,hov⟩:∃ov,ov=ρ 5:=⟨_,rfl⟩
 rw[<- hov]at h5;refine W.en (fun E=>E 1=.vec bs.length (bZ bs) /\ E 5=ov /\ E 6=.vec L.length (dQ L) /\ E 7=aa at' /\ E 8=aa k) (by simp only[go_sem,hov,h7,h8]) fun E ⟨e1,e5,e6,e7,e8⟩=>?_
 refine W.vs ?_;by_cases hb:(k:Int)<L.length
 ·obtain⟨⟨c1,c2⟩,hp⟩:=get_of_lt (l:=L) (i:=k) (by omega);obtain⟨r1,r2,r3,r4⟩:=rr _ (SE hp);dsimp only at r1 r2 r3 r4;have p0:=uV hp;have p1:=yj hp;have pne:=yk hp;have w1:=SF ((k:Int)+1) (by omega);simp only[go_sem,e6,e8,hb];refine W.aG 4503599626325632 (by rfl) (fun ρ2 Hy=>∃(j:Nat) (q:List Int),ρ2 10=aa j/\(j:Int)<=c1/\q.length=j/\ρ2 7=aa ((at'+j:Nat):Int)/\(∀a∈q,0<=a/\a<c2)/\Over Hx Hy/\ay Hx.next Hy 3 (ρ2 9) (ints q)) (fun ρ2 H=>c1.toNat-(iv (ρ2 10)).toNat) ?_ ?_
  ·simp only[go_sem,e7];exact⟨0,[],rfl,by omega,rfl,rfl,by simp,.refl _,.nil⟩
  rintro ρ2 Hy ⟨j,q,h10,hj,hql,h7',hq,hxy,h9⟩;obtain⟨qv,hqv⟩:∃qv,qv=ρ2 9:=⟨_,rfl⟩
  rw[<- hqv]at h9;refine W.en (fun E2=>E2 1=.vec bs.length (bZ bs) /\ E2 5=ov /\ E2 6=.vec L.length (dQ L) /\ E2 7=aa ((at'+j:Nat):Int) /\ E2 8=aa k /\ E2 9=qv /\ E2 10=aa j) (by simp only[go_sem,e1,e5,e6,h7',e8,hqv,h10]) fun E2 ⟨f1,f5,f6,f7,f8,f9,f10⟩=>?_
  refine W.vs ?_;by_cases hb2:(j:Int)<c1
  ·obtain⟨m,hm⟩:∃m:Nat,m=at'+j:=⟨_,rfl⟩
   rw[<- hm]at f7;have w2:=SF ((j:Int)+1) (by omega);have w3:=SF ((m:Int)+1) (by omega);have app:∀a:Int,0<=a/\a<c2->∃v' H2,bM prog (ext Hy [.arr 0 3 [.lit (.int .i64 a)]]) (Hy.next+1) 42 42 qv (.own Hy.next 0 0 1 1)=some (v',H2)/\Hx.next<=H2.next/\∀a' ,a'=a->(∀b∈q++[a'],0<=b/\b<c2)/\Over Hx H2/\ay Hx.next H2 3 v' (ints (q++[a'])):=fun a ha=>by
    obtain⟨v',H2,hA,ho2,hO2,hn2,_⟩:=jk a hxy h9 (by omega);refine⟨v',H2,hA,by have:=hxy.next;omega,fun a' ha'=>?_⟩;subst ha';exact⟨fun b hb=>by rcases S5.1 hb with h|h;exact hq b h;obtain rfl:=List.mem_singleton.1 h;exact ha,ho2,hO2⟩
   by_cases hz:(bs.length:Int) > 0
   ·have hzn:¬(bs.length:Int)=0:=(by omega);have m1:(m:Int).tmod bs.length=((m % bs.length:Nat):Int):=(by rw[Ta (by omega)];rfl);have m2:=U0 m (show bs.length > 0 by omega);obtain⟨z,hzz⟩:∃z,z=m % bs.length:=⟨_,rfl⟩
    rw[<- hzz]at m1 m2;have hz0:(z:Int) >= 0:=(by omega);have hzl:(z:Int)<bs.length:=(by omega);obtain⟨b,hbg⟩:=get_of_lt (l:=bs) (i:=z) m2;have b8:=hb8 b (SE hbg);have hbg':=rZ hbg;have hbne:=aJ hbg';unfold U8 at b8;have w4:IntKind.i64.wrap b=b:=SF _ (by omega);have c2n:¬c2=0:=(by omega);have tb:b.tmod c2=b % c2:=Ta b8.1;have tb0:=TP b c2n;have tb1:=TO b (show 0<c2 by omega);have w5:IntKind.i64.wrap (b % c2)=b % c2:=SF _ (by omega);obtain⟨v',Hj,hA,hjn,fin⟩:=app (b % c2) ⟨tb0,tb1⟩;obtain⟨fi1,fi2,fi3⟩:=fin _ rfl;simp only[go_sem,f1,f6,f8,f10,p0,pne,hb,hb2,hz];refine W.dr 13 [0,0,0,4,14,31,63,127,0,0,768,1792,3840] mixed ?_;simp only[go_sem,f1,f6,f7,f8,f9,f10,p1,pne,hb,hzn,m1,hz0,hzl,hbg',hbne,w4,c2n,tb,w2,w3,hA];exact⟨by omega,⟨j+1,q++[_],rfl,by omega,by simp;omega,by rw[show ((at'+(j+1):Nat):Int)=(m:Int)+1 by omega],fi1,fi2,fi3⟩,by rw[h10];simp only[aa,aM];omega⟩
   ·obtain⟨v',Hj,hA,hjn,fin⟩:=app 0 ⟨by omega,by omega⟩;obtain⟨fi1,fi2,fi3⟩:=fin _ rfl;simp only[go_sem,f1,f6,f7,f8,f9,f10,p0,pne,hb,hb2,hz,w2,w3,hA];exact⟨by omega,⟨j+1,q++[_],rfl,by omega,by simp;omega,by rw[show ((at'+(j+1):Nat):Int)=(m:Int)+1 by omega],fi1,fi2,fi3⟩,by rw[h10];simp only[aa,aM];omega⟩
  ·have hjc:(j:Int)=c1:=(by omega);have h9':ay H1.next Hy 3 qv (ints q):=h9.keep hnx (Nat.le_refl _) fun _ _ _ _ _ _=>rfl;have xyn:=hxy.next;obtain⟨ov',Hj,hA,hO',hnj,hpj⟩:=eY.app (P:=prog) (n:=Hy.next+1) (t:=33) Tryz.underlying33 Tryz.jv Tryz.jH Tryz.jG (by decide) (by rw[SM,hfit.1,SN];omega) (h5.over hxy) (by omega) h9' rfl;have qvc:=h9.cells;simp only[go_sem,f5,f6,f7,f8,f9,f10,p0,pne,hb,hb2,w1,qvc,T0,List.drop_one,List.tail_cons,List.append_nil,hA];have pl:=hfit.1;rw[SN]at pl;refine⟨by omega,⟨k+1,at'+j,ps++[q],rfl,by omega,rfl,by omega,by omega,fun id h=>by rw[hpj id (by omega) h,hxy.old id (by omega)];exact hold id h,by rw[Tq];exact hO',by rw[aL hp];simp;omega,fun i p r hp' hr=>?_⟩,by rw[h8];simp only[aa,aM];omega⟩;rw[aL hp]at hp';rcases S9 i ps.length with h|h
   ·rw[SU h]at hr;rw[SU (by rw[SN];omega)]at hp';exact hfit.2 i p r hp' hr
   ·have hi:=get_lt hr;simp at hi;obtain rfl:i=ps.length:=(by omega);rw[SZ (by omega)]at hr;rw[SZ (by rw[SN];omega),SN]at hp';rw[Ut]at hr;rw[show ps.length-min k L.length=0 by omega]at hp';cases hr;cases hp';exact⟨by omega,hq⟩
 ·simp only[go_sem,e5,e6,e8,hb];have hke:k=L.length:=by omega
  rw[hke,SH (Nat.le_refl _)]at hfit;refine ar.aV (v':=aj ps) aE hcl ⟨by omega,fun id h=>by rw[hold id (by omega)];exact o1.old id h⟩ ?_ (hK ps (sG.2 (by rw[hL];exact hfit)));have:=h5.fz (S:=fun id=>H.next<=id) (nx:=H.next) (rows':=ps.map ints) (fun i h=>by omega) rfl fun j r r' h1 h2=>by
   rw[h1]at h2;cases h2;refine⟨rfl,fun i hi _=>?_⟩;rw[List.getElem?_map]at h1;obtain⟨z,_,rfl⟩:=SG.1 h1;have e0:(ints z)[i]?=some (ints z)[i]:=SJ hi;generalize (ints z)[i]=a at e0 ⊢;rw[ij]at e0;obtain⟨b,_,rfl⟩:=SG.1 e0;exact .lit _
  rw[SM,UW]at this;have e:(ps.map ((fun r:List AVal=>AVal.vec r.length r) ∘ ints))=ps.map af:=Th fun z _=>by simp[Function.comp,af,aH]
  rw[e]at this;exact this
end Go.Proofs
namespace Go.Hx
open Go.Proofs.R01 (pureRun_bind)
variable {P:Program} {t e:TypeId} {x y:Operand} {k k':IntKind} {a b c d:Int}
theorem LL (n:Nat)(he:P.underlying e=some (.int k)):bF P (Op.equalIn (n+1) e (.int k' a) (.int k' b))=some (a == b):=by
 unfold Op.equalIn;simp[underlying,program,he,bF,bind,Sem.bind,pure]
theorem Bt (n : Nat) {f g : Field} (ht : P.underlying t = some (.struct #[f, g])) (hsi : P.stoodInHeld t = false) (hf : f.type = e) (hg : g.type = e) (fn : f.name ≠ "_") (gn : g.name ≠ "_") (fo : f.offset = 0) (go : g.offset = 1) (he : P.underlying e = some (.int k)) :
  bF P (Op.equalIn (n+2) t (.agg #[.int k' a,.int k' b]) (.agg #[.int k' c,.int k' d]))=some (a == c && b == d):=by
 unfold Op.equalIn;have e1:∀ {α:Type} (f':TypeDesc->Sem α),bF P (underlying t >>= f')=bF P (f' (.struct #[f,g])):=fun f'=>pureRun_bind (by simp[underlying,program,ht,bF,bind,Sem.bind,pure]);have e0:∀ {α:Type} (f':Program->Sem α),bF P (program >>= f')=bF P (f' P):=fun f'=>pureRun_bind (by simp[program,bF]);have e3:∀ {α:Type} (cs:Array Value) (o:Nat) (v:Value) (f':Value->Sem α),cs[o]?=some v->bF P (part e cs o >>= f')=bF P (f' v):=fun cs o v f' h=>pureRun_bind (by simp[part,isAgg,underlying,program,he,h,bF,bind,Sem.bind,pure]);have e4:∀ {α:Type} (p q:Int) (f':Bool->Sem α),bF P (Op.equalIn (n+1) e (.int k' p) (.int k' q) >>= f')=bF P (f' (p == q)):=fun p q f'=>pureRun_bind (LL n he);rw[e1];dsimp only;rw[e0,hsi];simp only[Bool.false_eq_true,if_false,<- Array.forIn_toList,List.forIn_cons,List.forIn_nil,fn,gn,hf,hg,fo,go,ne_eq,not_false_eq_true,if_true,bind_assoc,pure_bind];rw[e3 _ _ (.int k' a) _ rfl,e3 _ _ (.int k' c) _ rfl,e4];by_cases h:(a == c)=true
 ·rw[h];simp only[Bool.not_true,Bool.false_eq_true,if_false,pure_bind,bind_assoc];rw[e3 _ _ (.int k' b) _ rfl,e3 _ _ (.int k' d) _ rfl,e4];by_cases h2:(b == d)=true
  ·rw[h2];rfl
  ·rw[UO]at h2;rw[h2];rfl
 ·rw[UO]at h;rw[h];rfl
theorem LM {f g : Field} (ht : P.underlying t = some (.struct #[f, g])) (hsi : P.stoodInHeld t = false) (hf : f.type = e) (hg : g.type = e) (fn : f.name ≠ "_") (gn : g.name ≠ "_") (fo : f.offset = 0) (go : g.offset = 1) (he : P.underlying e = some (.int k)) (hq : P.eqGuardType P.depth t = false) :
  bx P .neq t x y (.agg [.lit (.int k' a),.lit (.int k' b)]) (.agg [.lit (.int k' c),.lit (.int k' d)])=some (.lit (.bool (!(a == c && b == d)))):=by
 show (bF P (do eqGuard .neq t x y (.agg #[.int k' a,.int k' b]) (.agg #[.int k' c,.int k' d]);binOp .neq t (.agg #[.int k' a,.int k' b]) (.agg #[.int k' c,.int k' d]))).map _=_;have h0:bF P (eqGuard .neq t x y (.agg #[.int k' a,.int k' b]) (.agg #[.int k' c,.int k' d]))=some ():=by
  simp[eqGuard,program,hq,bF,bind,Sem.bind,pure]
 have h1:binOp .neq t (.agg #[.int k' a,.int k' b]) (.agg #[.int k' c,.int k' d])=(Op.equalIn (9998+2) t (.agg #[.int k' a,.int k' b]) (.agg #[.int k' c,.int k' d]) >>= fun r=>pure (Value.bool (!r))):=rfl;rw[pureRun_bind h0,h1,pureRun_bind (Bt 9998 ht hsi hf hg fn gn fo go he)];rfl
theorem LN {P : Program} {t e : TypeId} {x y : Operand} {k k' : IntKind} {a b c d : Int} {f g : Field} (ht : P.underlying t = some (.struct #[f, g])) (hsi : P.stoodInHeld t = false) (hf : f.type = e) (hg : g.type = e) (fn : f.name ≠ "_") (gn : g.name ≠ "_") (fo : f.offset = 0) (go : g.offset = 1) (he : P.underlying e = some (.int k)) (hq : P.eqGuardType P.depth t = false) :
  bx P .eql t x y (.agg [.lit (.int k' a),.lit (.int k' b)]) (.agg [.lit (.int k' c),.lit (.int k' d)])=some (.lit (.bool (a == c && b == d))):=by
 show (bF P (do eqGuard .eql t x y (.agg #[.int k' a,.int k' b]) (.agg #[.int k' c,.int k' d]);binOp .eql t (.agg #[.int k' a,.int k' b]) (.agg #[.int k' c,.int k' d]))).map _=_;have h0:bF P (eqGuard .eql t x y (.agg #[.int k' a,.int k' b]) (.agg #[.int k' c,.int k' d]))=some ():=by
  simp[eqGuard,program,hq,bF,bind,Sem.bind,pure]
 have h1:binOp .eql t (.agg #[.int k' a,.int k' b]) (.agg #[.int k' c,.int k' d])=(Op.equalIn (9998+2) t (.agg #[.int k' a,.int k' b]) (.agg #[.int k' c,.int k' d]) >>= fun r=>pure (Value.bool r)):=rfl;rw[pureRun_bind h0,h1,pureRun_bind (Bt 9998 ht hsi hf hg fn gn fo go he)];rfl
attribute [go_sem] D3
end Go.Hx
namespace Go.Proofs
open Go.Hx Tryz
theorem LO {o1 o2:Operand}(a b c d:Int):bx prog .neq 50 o1 o2 (.agg [.lit (.int .i64 a),.lit (.int .i64 b)]) (.agg [.lit (.int .i64 c),.lit (.int .i64 d)])=some (.lit (.bool (!(a == c && b == d)))) :=
 LM Tryz.underlying50 (by kernel_rfl) rfl rfl (by decide) (by decide) rfl rfl Tryz.underlying3 (by kernel_rfl)
theorem Bu {o1 o2:Operand}(a b c d:Int):bx prog .eql 50 o1 o2 (.agg [.lit (.int .i64 a),.lit (.int .i64 b)]) (.agg [.lit (.int .i64 c),.lit (.int .i64 d)])=some (.lit (.bool (a == c && b == d))) :=
 LN Tryz.underlying50 (by kernel_rfl) rfl rfl (by decide) (by decide) rfl rfl Tryz.underlying3 (by kernel_rfl)
end Go.Proofs
namespace Go.Hx
variable {P:Program} {G:Nat->Option (List AVal)}
theorem R8 {H:AHeap}(hc:Clo H):FzH (fun _=>False) H H where
 gone id hs:=hs.elim
 kept id b _ hb:=by
  have hbb:=hc.below id b hb;refine⟨hc.lt id b hb,b,hb,?_⟩;cases b with
  |rsv=>trivial
  |mp=>rfl
  |arr g e cells=>exact⟨rfl,rfl,rfl,fun i h _=>.dead (hbb i h)⟩
  |loop st pend n env ps asg body=>exact⟨rfl,rfl,rfl,rfl,rfl,rfl,rfl,fun t ht=>.dead (hbb t ht)⟩
 none id _ hb:=hb
theorem ag.zu {H:AHeap}{f:FuncId}{args args':List AVal}{K:ARes->AHeap->Prop}(hG:fm G)(hl:args'.length=args.length)(hv:∀i (h:i<args.length) (h':i<args'.length),Fz (fun _=>False) H H.next args[i] args'[i])
  (h:ag P G f args' H K):ag P G f args H K:=by
 refine⟨h.1,fun Γ w cargs R hr=>?_⟩;have F:=R8 R.clo;have R0:=F.rel hG R;have E0:Evo Γ H w (iF (fun _=>False) Γ) H w:=F.bE;refine(h.2 _ w cargs R0 ⟨by have:=hr.1;omega,fun i h1 h2=>(hv i (by omega) h1).sound R F (hr.2 i (by omega) h2)⟩).mono ?_;rintro e w' ⟨r,H',Γ',h1,h2,h3,h4,h5⟩;exact⟨r,H',Γ',h1,h2,h3,E0.trans (Nat.le_refl _) h4,h5⟩
end Go.Hx
namespace Go.Proofs
open Go.Hx Tryz
variable {P:Program}
theorem Bn (w a r n:Int)(hw:0<=w/\w<=255)(ha:0<=a/\a<=255)(hr:0<=r/\r<=255)(g:Int)(ns:List NodeP)(cs:List AVal){e:Nat->Prop}(hq:NodesQ e ns cs)(m:Nat)(hm:m<2 ^ 30)(hs:SmallN m ns)(H:AHeap)(K:ARes->AHeap->Prop)
  (hK:∀g' ns' cs,(g',ns',cs)=fq (w % 12) (a % (ns.length:Int)).toNat r n g ns->SmallN (m+1) ns'->NodesQ (fun v=>¬w % 12=5\/∀x,ns[v]?=some x->x.rows=[]) ns' cs->(w % 12=0->ns'=ns)/\ns'.length<=ns.length+1->K (.ret (.agg [aa g',.vec ns'.length cs])) H):
  ag prog G0 37 [.agg (kH w a r n),.agg [aa g,.vec ns.length cs]] H K:=by
 refine ag.zu aE (args':=[.agg (kH w a r n),bL g ns]) rfl (fun i h h'=>?_) (Lc w a r n hw ha hr g ns m hm hs H K hK)
 match i,h with
 |0,_ =>
  refine .agg rfl fun j hj _=>?_
  match j,hj with
  |0,_=>exact .lit _
  |1,_=>exact .lit _
  |2,_=>exact .lit _
  |3,_=>exact .lit _
 |1,_ =>
  refine .agg rfl fun j hj _=>?_
  match j,hj with
  |0,_=>exact .lit _
  |1,_=>exact .vec (by rw[hq.len,iI]) fun i h h'=>hq.uK i h h'
theorem NodesQ.Bo {e:Nat->Prop}{ns:List NodeP}{cs:List AVal}(h:NodesQ e ns cs){S:Nat->Prop}{H:AHeap}{nx:Nat}(i:Nat)(h1:i<cs.length):Fz S H nx cs[i] cs[i]:=by
 have hb:i / 3<ns.length:=by rw[h.len]at h1;omega
 obtain⟨x,hx⟩:=get_of_lt hb;obtain⟨rv,a,b,c,d,_⟩:=h.node _ x hx;have hp:i=(i / 3)*3+i % 3:=by omega
 have g1:cs[i]?=some cs[i]:=SJ h1;generalize cs[i]=u at g1 ⊢;have c3:i % 3=0\/i % 3=1\/i % 3=2:=by omega
 rcases c3 with c0|c0|c0
 ·rw[hp,c0,Nat.add_zero,a]at g1;cases g1;exact .lit _
 ·rw[hp,c0,b]at g1;cases g1;exact .cI _
 ·rw[hp,c0,c]at g1;cases g1;rcases d with d|d<;>rw[d]
  ·exact .aj _
  ·exact Ce x
structure UtilsS (m:Nat)(us:List UtilP):Prop where
 len:us.length<=m
 util:∀u∈us,u.vars.length<=m/\u.w.length<=m
def rX (w:Int)(b:List AVal)(n:Int):List AVal:=.lit (.int .u8 w) :: b++[.lit (.int .i64 n)]
def cP (us:List UtilP)(k:Nat)(pv wv:AVal):List AVal:=((aO (us.take k)).set 0 pv).set 1 wv
theorem uz (us:List UtilP)(k:Nat)(pv wv:AVal):(cP us k pv wv).length=(us.take k).length*2:=by unfold cP;rw[SO,SO,kK]
theorem Lo (l:List UtilP)(u:UtilP):aO (l++[u])=aO l++[af u.vars,af u.w]:=by unfold aO;simp[UtilP.cells]
theorem Lp {us:List UtilP}{k:Nat}{u:UtilP}(h:us[k]?=some u)(h0:0<k)(pv wv:AVal):cP us (k+1) pv wv=cP us k pv wv++[af u.vars,af u.w]:=by
 have hl:=kK (us.take k);have hkl:(us.take k).length=k:=by rw[SN];have:=get_lt h;omega
 unfold cP;rw[aL h,Lo,UM _ _ (by omega),UM _ _ (by rw[SO];omega)]
theorem Lq {us:List UtilP}{u:UtilP}(h:us[0]?=some u)(pv wv:AVal):cP us 1 pv wv=[pv,wv]:=by
 unfold cP;rw[aL h];rfl
theorem Bp (us:List UtilP)(pv wv:AVal):cP us 0 pv wv=[]:=rfl
def uA (us:List UtilP)(lo k:Nat)(H:AHeap)(uh:AVal):Prop :=
 ∃pv wv,cG lo H 90 2 uh k (cP us k pv wv)/\(0<k->∃u,us[0]?=some u/\ay lo H 3 pv (ints u.vars)/\ay lo H 3 wv (ints u.w)/\∀i g n g' n',pv=.own i g 0 n 1->wv≠.own i g' 0 n' 1)
def rY (H:AHeap)(i:Nat):Nat:=match H.get i with
 |some (.arr _ _ [_,_,_,.own _ _ _ l _])=>l
 |_=>0
theorem Bq {us:List UtilP}{k lo:Nat}{u:UtilP}(hu0:us[k]?=some u){Hx:AHeap}(hlo:lo<=Hx.next){pv wv:AVal}(hPW:0<k->∃u,us[0]?=some u/\ay lo Hx 3 pv (ints u.vars)/\ay lo Hx 3 wv (ints u.w)/\∀i g n g' n',pv=.own i g 0 n 1->wv≠.own i g' 0 n' 1)
  {s2:St} (nx2:Hx.next<=s2.H.next) (kp2:∀i g e c,lo<=i->i<Hx.next->Hx.get i=some (.arr g e c)->e≠90->s2.H.get i=Hx.get i) {uh2 pk wk:AVal} (oZ:cG lo s2.H 90 2 uh2 (k+1) (cP us k pv wv++[pk,wk])) (oP:ay Hx.next s2.H 3 pk (ints u.vars)) (oW:ay Hx.next s2.H 3 wk (ints u.w))
  (hpw:∀i g n g' n',pk=.own i g 0 n 1->wk≠.own i g' 0 n' 1):∃H3,cJ P G0 s2 ⟨s2.ρ,H3⟩/\H3.next=s2.H.next/\(∀i,i<lo->H3.get i=s2.H.get i)/\uA us lo (k+1) H3 uh2:=by
 rcases TG k with hk0|hk0
 ·refine⟨s2.H,.same,rfl,fun _ _=>rfl,pk,wk,?_,fun _=>⟨u,by rw[<- hk0];exact hu0,oP.keep hlo (Nat.le_refl _) fun _ _ _ _ _ _=>rfl,oW.keep hlo (Nat.le_refl _) fun _ _ _ _ _ _=>rfl,hpw⟩⟩;subst hk0;rw[Bp,List.nil_append]at oZ;rw[Lq hu0];exact oZ
 ·have ec:=Lp hu0 hk0 pv wv;rcases oZ with ⟨_,h0,_⟩|⟨id,gg,z1,z2,z3,z4,z5⟩
  ·omega
  have hgone:∀ {v:AVal} {l:List Int},ay Hx.next s2.H 3 v (ints l)->Fz (fun i=>Hx.next<=i/\i≠id) s2.H s2.H.next v (af l):=fun {v l} hv=>by
   have:=rT (S:=fun i=>Hx.next<=i/\i≠id) (nx:=s2.H.next) (cs':=ints l) hv (fun i g h1 _ h3=>⟨h1,fun he=>by
    subst he;rw[z5]at h3;cases h3⟩) rfl fun i hi _=>by simp only[ints,SV];exact .lit _
   rw[aH]at this;exact this
  obtain⟨pn,hpn⟩:∃Hm,Hm=s2.H.gR Hx.next id (.arr gg 90 (cP us (k+1) pv wv)):=⟨_,rfl⟩
  have hmn:pn.next=s2.H.next:=by rw[hpn];rfl
  have hlow:∀i,i<Hx.next->i≠id->pn.get i=s2.H.get i:=fun i h1 h2=>by rw[hpn];exact rS h1 h2
  refine⟨pn,?_,hmn,fun i h=>hlow i (by omega) (by omega),pv,wv,.inr ⟨id,gg,z1,by omega,z3,by rw[ec];simpa using z4,by rw[hpn];exact uu⟩,fun _=>?_⟩
  ·rw[hpn];refine cJ.gR aE z5 (by rw[ec];simp) (fun hbel i hi hi'=>?_);have e1:=SJ hi;have e2:=SJ hi';have hm:=hbel _ (Tk hi);generalize (cP us k pv wv++[pk,wk])[i]=u1 at e1 hm ⊢;generalize (cP us (k+1) pv wv)[i]=u2 at e2 ⊢;rw[ec]at e2;by_cases hip:i<(cP us k pv wv).length
   ·rw[SU hip]at e1 e2;rw[e1]at e2;cases e2;exact .dead hm
   ·rw[SZ (by omega)]at e1 e2;have h3:i-(cP us k pv wv).length=0\/i-(cP us k pv wv).length=1:=by
     rw[List.length_append]at hi;simp at hi;omega
    rcases h3 with h|h<;>rw[h]at e1 e2<;>cases e1<;>cases e2
    ·exact hgone oP
    ·exact hgone oW
  ·obtain⟨u0,h0,hP,hW,hn⟩:=hPW hk0;have hkp:∀i g c,lo<=i->i<Hx.next->Hx.get i=some (.arr g 3 c)->pn.get i=Hx.get i:=fun i g c h1 h2 h3=>by
    have h4:=kp2 i g _ _ h1 h2 h3 (by decide);rw[hlow i h2 (fun he=>by
     subst he;rw[h4,h3]at z5;cases z5)]
    exact h4
   exact⟨u0,h0,hP.keep (Nat.le_refl _) (by omega) fun i g h1 h2 h3 _=>hkp i g _ h1 h2 h3,hW.keep (Nat.le_refl _) (by omega) fun i g h1 h2 h3 _=>hkp i g _ h1 h2 h3,hn⟩
theorem Lr {us:List UtilP}(h:0<us.length)(u':UtilP):aO (us.set 0 u')=((aO us).set 0 (af u'.vars)).set 1 (af u'.w):=by
 cases us with
 |nil=>exact absurd h (UK _)
 |cons u us=>rfl
theorem uB {us:List UtilP}{lo nx:Nat}{H:AHeap}{S:Nat->Prop}{uh pv wv:AVal}{us':List UtilP}(hO:cG lo H 90 2 uh us.length (cP us us.length pv wv))(hS:∀i,lo<=i->S i)(h0:us=[]->us'=[])
  (hP:0<us.length->∃u',us'=us.set 0 u'/\Fz S H nx pv (af u'.vars)/\Fz S H nx wv (af u'.w)):Fz S H nx uh (.vec us'.length (aO us')):=by
 rcases TG us.length with hl|hl
 ·have e0:us=[]:=SP hl;subst e0;rw[h0 rfl];exact uy hO hS rfl fun i h=>absurd h (by rw[uz];simp)
 ·obtain⟨u',rfl,hp,hw⟩:=hP hl;rw[SO,Lr hl];refine uy hO hS (by rw[uz];simp[kK]) fun i h h'=>?_;unfold cP at h ⊢;simp only[TC,Ur];by_cases h1:1=i
  ·rw[SK h1,SK h1];exact hw
  ·rw[SI h1,SI h1];by_cases h2:0=i
   ·rw[SK h2,SK h2];exact hp
   ·rw[SI h2,SI h2];have hil:i<(aO us).length:=(by simpa using h');have:∀c∈aO us,Fz S H nx c c:=fun c hc=>by
     unfold aO at hc;obtain⟨r,hr,hc⟩:=Uh.1 hc;obtain⟨x,_,rfl⟩:=SY.1 hr;unfold UtilP.cells at hc;simp only[List.mem_cons,List.not_mem_nil,or_false]at hc;rcases hc with rfl|rfl<;>exact .cI _
    exact this _ (Tk _)
def pZ (c a n:Int)(us:List UtilP):List UtilP:=match us[0]? with
 |none=>List.replicate 5 ⟨[],[1]⟩
 |some u=>if c=5 then us.set 0 ⟨u.vars++[n],u.w⟩ else if c=6/\0<u.w.length then us.set 0 ⟨u.vars,u.w.set (a % (u.w.length:Int)).toNat n⟩ else (us++List.replicate 5 (⟨[],[1]⟩:UtilP)).take (max us.length 5)
def iZ (w w5 a r n5 n:Int)(d:InfP):InfP × List AVal :=
 if w % 8<4 then (⟨(fq (w5 % 12) (a % (d.nodes.length:Int)).toNat r n5 d.grain d.nodes).1,(fq (w5 % 12) (a % (d.nodes.length:Int)).toNat r n5 d.grain d.nodes).2.1,d.decs,d.utils⟩,(fq (w5 % 12) (a % (d.nodes.length:Int)).toNat r n5 d.grain d.nodes).2.2)
 else (⟨d.grain,d.nodes,if w % 8=4 then d.decs ^^^ (n % 18446744073709551616).toNat else d.decs,if w % 8=4 then d.utils else pZ (w % 8) a n d.utils⟩,(fq 0 0 0 d.grain d.grain d.nodes).2.2)
theorem Ls (g:Int)(ns:List NodeP):(fq 0 0 0 g g ns).1=g:=by
 unfold fq;split
 ·rfl
 ·rfl
theorem Lt (w w5 a r n5 n:Int)(hw:0<=w/\w<=255)(hw5:0<=w5/\w5<=255)(ha:0<=a/\a<=255)(hr:0<=r/\r<=255)(d:InfP)(cs0:List AVal){e0:Nat->Prop}(hq:NodesQ e0 d.nodes cs0)(m:Nat)(hm:m<2 ^ 29)(hs:SmallN m d.nodes)(hu:UtilsS m d.utils)(hd:d.decs<2 ^ 64)
  (hdec:∀v x,d.nodes[v]?=some x->d.decs.testBit v=true->x.rows=[]) (H:AHeap) (K:ARes->AHeap->Prop)
  (hK:∀y cs,(y,cs)=iZ w w5 a r n5 n d->InfFit y->NodesQ (fun v=>y.decs.testBit v=true) y.nodes cs->y.nodes.length<=d.nodes.length+1->K (.ret (dw y cs)) H):
  ag prog G0 9 [.agg (rX w (kH w5 a r n5) n),dw d cs0] H K:=by
 refine ag.clo ⟨_,func9,rfl,rfl⟩ fun hcl=>?_;refine ag.sw (n:=153) (rs:=[.cell 4 38]) func9 ?_;refine W.sq ?_;simp only[go_sem,rX,kH,im,gG];obtain⟨Hb,hHb⟩:∃Hb,Hb=ext H [.arr 0 32 [.lit (.int .u8 w),.lit (.int .u8 w5),.lit (.int .u8 a),.lit (.int .u8 r),.lit (.int .i64 n5),.lit (.int .i64 n)],.arr 0 38 [.lit (.int .i64 d.grain),.vec d.nodes.length cs0,.lit (.int .u64 (d.decs:Int)),.vec d.utils.length (aO d.utils)],.arr 0 38 [.lit (.int .i64 0),.lit (.slice none 0 0),.lit (.int .u64 0),.lit (.slice none 0 0)]]:=⟨_,rfl⟩
 have b0:=df hHb
 have b1:=gE hHb 1 rfl
 have b2:=gE hHb 2 rfl
 have nb:Hb.next=H.next+3:=hHb▸rfl
 have ob:Over H Hb:=hHb▸.ext _ _
 rw[<- hHb];clear hHb;have l0:=ah b0;have l1:=ah b1;refine W.en (fun E=>E 2=.ptr H.next 0 0 /\ E 3=.ptr (H.next+1) 0 0 /\ E 4=.ptr (H.next+2) 0 0) (by simp only[go_sem]) fun E ⟨e2,e3,e4⟩=>?_
 refine W.sq ?_;simp only[go_sem,e3,l1];obtain⟨Hc,hHc⟩:∃Hc,Hc=ext Hb [.arr 0 38 [.lit (.int .i64 d.grain),.lit (.slice none 0 0),.lit (.int .u64 (d.decs:Int)),.lit (.slice none 0 0)]]:=⟨_,rfl⟩
 have oc:Over Hb Hc:=hHc▸.ext _ _
 have nc:Hc.next=H.next+4:=by rw[hHc,aS];simp;omega
 have c3:Hc.get (H.next+3)=some (.arr 0 38 [.lit (.int .i64 d.grain),.lit (.slice none 0 0),.lit (.int .u64 (d.decs:Int)),.lit (.slice none 0 0)]):=by rw[hHc,<- nb];exact bX
 rw[<- hHc];clear hHc;have m1:Hc.live (H.next+1) 0=_:=(oc.live (by omega)).trans l1;refine W.sq ?_;simp only[go_sem,e3,m1];refine aw.clo (Bn 0 0 0 d.grain ⟨by omega,by omega⟩ ⟨by omega,by omega⟩ ⟨by omega,by omega⟩ d.grain d.nodes cs0 hq m (by omega) hs _ _ fun g1 ns1 cs1 hB1 hs1 hq1 h01=>⟨trivial,?_⟩);obtain rfl:ns1=d.nodes:=h01.1 rfl;have hqT:NodesQ (fun _=>True) d.nodes cs1:=hq1.mono fun _ _=>.inl (by decide);rw[show ((0:Int) % (d.nodes.length:Int)).toNat=0 by simp,show (0:Int) % 12=0 from rfl]at hB1;obtain rfl:g1=d.grain:=by have:=congrArg (·.1) hB1;simp only at this;rw[this];exact Ls _ _
 have hcs1:cs1=(fq 0 0 0 d.grain d.grain d.nodes).2.2:=by rw[<- hB1]
 clear hq1 h01 hs1 hq hB1;simp only[go_sem];obtain⟨Hd,hHd⟩:∃Hd,Hd=ext Hc [.arr 0 81 [.lit (.int .i64 d.grain),.vec d.nodes.length cs1]]:=⟨_,rfl⟩
 have od:Over Hc Hd:=hHd▸.ext _ _
 have nd:Hd.next=H.next+5:=by rw[hHd,aS];simp;omega
 have d4:Hd.get (H.next+4)=some (.arr 0 81 [.lit (.int .i64 d.grain),.vec d.nodes.length cs1]):=by rw[hHd,<- nc];exact bX
 rw[<- hHd];clear hHd;have d0:Hd.get H.next=_:=(od.old _ (by omega)).trans ((oc.old _ (by omega)).trans b0);have d1:Hd.get (H.next+1)=_:=(od.old _ (by omega)).trans ((oc.old _ (by omega)).trans b1);have d2:Hd.get (H.next+2)=_:=(od.old _ (by omega)).trans ((oc.old _ (by omega)).trans b2);have d3:Hd.get (H.next+3)=_:=(od.old _ (by omega)).trans c3;have dold:∀i,i<H.next->Hd.get i=H.get i:=fun i h=>(od.old i (by omega)).trans ((oc.old i (by omega)).trans (ob.old i h));clear l0 l1 m1 c3 b0 b1 b2;refine W.en (fun E1=>E1 2=.ptr H.next 0 0 /\ E1 3=.ptr (H.next+1) 0 0 /\ E1 4=.ptr (H.next+2) 0 0 /\ E1 5=.ptr (H.next+3) 0 0 /\ E1 6=.ptr (H.next+4) 0 0) (by simp only[go_sem,e2,e3,e4,nb,nc]) fun E1 ⟨f2,f3,f4,f5,f6⟩=>?_
 clear e2 e3 e4 ob oc od;have hul:=hu.len;refine W.ik (fun s'=>s'.ρ 2=.ptr H.next 0 0/\s'.ρ 3=.ptr (H.next+1) 0 0/\s'.ρ 4=.ptr (H.next+2) 0 0/\s'.ρ 5=.ptr (H.next+3) 0 0/\s'.ρ 6=.ptr (H.next+4) 0 0/\Hd.next<=s'.H.next/\(∀id,id<H.next+5->id≠H.next+3->s'.H.get id=Hd.get id)/\∃uh,s'.H.get (H.next+3)=some (.arr 0 38 [.lit (.int .i64 d.grain),.lit (.slice none 0 0),.lit (.int .u64 (d.decs:Int)),uh])/\uA d.utils (H.next+5) d.utils.length s'.H uh) ?_ ?_
 ·refine W.sq ?_;simp only[go_sem];refine W.block ?_;refine W.en (fun E2=>E2 2=.ptr H.next 0 0 /\ E2 3=.ptr (H.next+1) 0 0 /\ E2 4=.ptr (H.next+2) 0 0 /\ E2 5=.ptr (H.next+3) 0 0 /\ E2 6=.ptr (H.next+4) 0 0 /\ E2 7=aa 0) (by simp only[go_sem,f2,f3,f4,f5,f6]) fun E2 ⟨g2,g3,g4,g5,g6,g7⟩=>?_
  refine W.aG 2251799809491072 (by rfl) (fun ρ Hx=>∃(k:Nat) (uh:AVal),ρ 7=aa k/\k<=d.utils.length/\Hd.next<=Hx.next/\(∀id,id<H.next+5->id≠H.next+3->Hx.get id=Hd.get id)/\Hx.get (H.next+3)=some (.arr 0 38 [.lit (.int .i64 d.grain),.lit (.slice none 0 0),.lit (.int .u64 (d.decs:Int)),uh])/\uA d.utils (H.next+5) k Hx uh) (fun ρ H=>d.utils.length-(iv (ρ 7)).toNat) ?_ ?_
  ·simp only[go_sem,g7];exact⟨0,_,rfl,by omega,d3,.lit (.slice none 0 0),.lit (.slice none 0 0),by rw[Bp];exact .nil,fun h=>absurd h (S4 _)⟩
  rintro ρ Hx ⟨k,uh,h7,hk,nx,hold,hx3,pv,wv,hO,hPW⟩;refine W.en (fun E3=>E3 2=.ptr H.next 0 0 /\ E3 3=.ptr (H.next+1) 0 0 /\ E3 4=.ptr (H.next+2) 0 0 /\ E3 5=.ptr (H.next+3) 0 0 /\ E3 6=.ptr (H.next+4) 0 0 /\ E3 7=aa k) (by simp only[go_sem,g2,g3,g4,g5,g6,h7]) fun E3 ⟨a2,a3,a4,a5,a6,a7⟩=>?_
  have x1:=ah ((hold _ (by omega) (by omega)).trans d1);have x3:=ah hx3;by_cases hb:(k:Int)<d.utils.length;rotate_left
  ·refine W.vs ?_;simp only[go_sem,a2,a3,a4,a5,a6,a7,x1,hb];obtain rfl:k=d.utils.length:=(by omega);exact⟨nx,hold,uh,hx3,pv,wv,hO,hPW⟩
  obtain⟨u,hu0⟩:=get_of_lt (l:=d.utils) (i:=k) (by omega);obtain⟨u1,u2⟩:=hu.util u (SE hu0);have q0:=B1 hu0;have q1:=Om hu0;have qn:=qg hu0;refine W.sq ?_;simp only[go_sem,a3,a7,x1,hb];refine W.seq ?_;refine W.me (Q':=fun e s2=>e=.normal/\s2.ρ 7=aa k/\Hx.next<=s2.H.next/\(∀id,id<H.next+5->id≠H.next+3->s2.H.get id=Hd.get id)/\(∀i g e c,i<Hx.next->i≠H.next+3->Hx.get i=some (.arr g e c)->e≠90->s2.H.get i=Hx.get i)/\∃uh2 pk wk,s2.H.get (H.next+3)=some (.arr 0 38 [.lit (.int .i64 d.grain),.lit (.slice none 0 0),.lit (.int .u64 (d.decs:Int)),uh2])/\cG (H.next+5) s2.H 90 2 uh2 (k+1) (cP d.utils k pv wv++[pk,wk])/\ay Hx.next s2.H 3 pk (ints u.vars)/\ay Hx.next s2.H 3 wk (ints u.w)/\∀i g n g' n',pk=.own i g 0 n 1->wk≠.own i g' 0 n' 1) ?_ ?_;rotate_left
  ·rintro e s2 ⟨rfl,a7',nx2,old2,kp2,uh2,pk,wk,gx3,oZ,oP,oW,hpw⟩;have w1:=SF ((k:Int)+1) (by omega);obtain⟨H3,hw3,n3,k3,hI⟩:=Bq (P:=prog) hu0 (Hx:=Hx) (by omega) hPW (s2:=s2) nx2 (fun i g e c h1 h2 h3 h4=>kp2 i g e c h2 (by omega) h3 h4) oZ oP oW hpw;refine⟨⟨s2.ρ,H3⟩,hw3,by rw[n3];exact Nat.le_refl _,trivial,?_⟩;simp only[go_sem];refine W.vs ?_;simp only[go_sem,a7',w1];exact⟨by omega,⟨k+1,uh2,rfl,by omega,by omega,fun i h1 h2=>(k3 i h1).trans (old2 i h1 h2),(k3 _ (by omega)).trans gx3,hI⟩,by rw[h7];simp only[aa,aM];omega⟩
  refine W.block ?_;have x1e:∀L,(ext Hx L).live (H.next+1) 0=_:=fun L=>(dh (by omega)).trans x1;obtain⟨Hp,hHp⟩:∃Hp,Hp=ext Hx [.arr 0 3 (List.replicate 0 (.lit (.int .i64 0)))]:=⟨_,rfl⟩
  have np:Hp.next=Hx.next+1:=hHp▸rfl
  have op:Over Hx Hp:=hHp▸.ext _ _
  have p0:ay Hx.next Hp 3 (.own Hx.next 0 0 0 1) []:=by rw[hHp];exact .new
  obtain⟨pk,H2,hA1,oP,n2,hp2⟩:=lK (P:=prog) (H:=Hp) (t:=42) (n:=Hx.next+1) (lo:=Hx.next) (src:=ints u.vars) Tryz.underlying42 Tryz.dz Tryz.dH (gQ _) (by rw[Tryz.dL,aH,List.length_nil];omega) p0 (by omega) (by omega);rw[List.nil_append]at oP;rw[aH]at hA1;have o2:∀i,i<Hx.next->H2.get i=Hx.get i:=fun i h=>(hp2 i (by omega) fun g n hv=>by have:=(AVal.own.inj hv).1;omega).trans (op.old i h);have y1:H2.live (H.next+1) 0=_:=ah ((o2 _ (by omega)).trans ((hold _ (by omega) (by omega)).trans d1));have y1e:∀L,(ext H2 L).live (H.next+1) 0=_:=fun L=>(dh (by omega)).trans y1;obtain⟨Hq,hHq⟩:∃Hq,Hq=ext H2 [.arr 0 3 (List.replicate 0 (.lit (.int .i64 0)))]:=⟨_,rfl⟩
  have nq:Hq.next=H2.next+1:=hHq▸rfl
  have oq:Over H2 Hq:=hHq▸.ext _ _
  have q0':ay H2.next Hq 3 (.own H2.next 0 0 0 1) []:=by rw[hHq];exact .new
  obtain⟨wk,H3,hA2,oW,n3,hp3⟩:=lK (P:=prog) (H:=Hq) (t:=42) (n:=H2.next+1) (lo:=H2.next) (src:=ints u.w) Tryz.underlying42 Tryz.dz Tryz.dH (gQ _) (by rw[Tryz.dL,aH,List.length_nil];omega) q0' (by omega) (by omega);rw[List.nil_append]at oW;rw[aH]at hA2;have o3:∀i,i<H2.next->H3.get i=H2.get i:=fun i h=>(hp3 i (by omega) fun g n hv=>by have:=(AVal.own.inj hv).1;omega).trans (oq.old i h);rw[hHp]at hA1;rw[hHq]at hA2;have pk1:=oP.one;have pkc:=oP.cells;have wk1:=oW.one;have wkc:=oW.cells;have hO3:cG (H.next+5) H3 90 2 uh k (cP d.utils k pv wv):=hO.keep (by omega) fun i g h1 h2 h3=>by rw[o3 i (by omega),o2 i h2]
  obtain⟨uh2,H4,hA3,oZ,n4,hp4⟩:=mR (P:=prog) (H:=H3) (t:=36) (xs:=[pk,wk]) (m:=H3.next+1) Tryz.underlying36 Tryz.uD Tryz.uF (by simp only[List.all_cons,List.all_nil,pk1,wk1];rfl) rfl (by rw[Tryz.uE];omega) hO3 (by omega) rfl;have hk4:∀i,i<H.next+5->H4.get i=Hx.get i:=fun i h=>(hp4 i (by omega) (hO3.ne (by omega))).trans ((o3 i (by omega)).trans (o2 i (by omega)));have une:∀ {i g e c},H3.get i=some (.arr g e c)->e≠90->∀g n,uh≠.own i g 0 n 2:=fun {i g e c} h1 h2 g' n hv=>by
   rcases hO3 with ⟨h,_⟩|⟨i2,g2,_,_,h,_,h4⟩
   ·rw[h]at hv;cases hv
   ·rw[h]at hv;obtain rfl:=(AVal.own.inj hv).1;rw[h4]at h1;cases h1;exact h2 rfl
  have l4:=ah ((hk4 _ (by omega)).trans hx3);have uh21:=oZ.one;have uh2c:=oZ.cells;obtain⟨H5,hH5⟩:∃H5,H5=H4.upd (H.next+3) (.arr 0 38 [.lit (.int .i64 d.grain),.lit (.slice none 0 0),.lit (.int .u64 (d.decs:Int)),uh2]):=⟨_,rfl⟩
  have n5':H5.next=H4.next:=by rw[hH5,au]
  have o5:∀i,i≠H.next+3->H5.get i=H4.get i:=fun i h=>by rw[hH5,ae,SI h]
  have fin:Hx.next<=H5.next/\(∀id,id<H.next+5->¬id=H.next+3->H5.get id=Hd.get id)/\(∀i g e c,i<Hx.next->¬i=H.next+3->Hx.get i=some (.arr g e c)->¬e=90->H5.get i=Hx.get i)/\∃uh2 pk wk,H5.get (H.next+3)=some (.arr 0 38 [.lit (.int .i64 d.grain),.lit (.slice none 0 0),.lit (.int .u64 (d.decs:Int)),uh2])/\cG (H.next+5) H5 90 2 uh2 (k+1) (cP d.utils k pv wv++[pk,wk])/\ay Hx.next H5 3 pk (ints u.vars)/\ay Hx.next H5 3 wk (ints u.w)/\∀i g n g' n',pk=.own i g 0 n 1->¬wk=.own i g' 0 n' 1:=by
   refine⟨by omega,fun i h1 h2=>by rw[o5 i h2,hk4 i h1];exact hold i h1 h2,fun i g e c h1 h2 h3 h4=>?_,uh2,pk,wk,by rw[hH5,ae,SK rfl],oZ.keep (by omega) fun i g h1 _ _=>o5 i (by omega),?_,?_,fun i g n g' n' h1 h2=>?_⟩
   ·have h5:H3.get i=Hx.get i:=(o3 i (by omega)).trans (o2 i h1);rw[o5 i h2,hp4 i (by omega) (une (h5.trans h3) h4),h5]
   ·refine oP.keep (Nat.le_refl _) (by omega) fun i g h1 h2 h3 _=>?_;have h5:H3.get i=H2.get i:=o3 i h2;rw[o5 i (by omega),hp4 i (by omega) (une (h5.trans h3) (by decide)),h5]
   ·refine oW.keep (by omega) (by omega) fun i g h1 h2 h3 _=>?_;rw[o5 i (by omega),hp4 i h2 (une h3 (by decide))]
   ·rcases oP with ⟨hp,_⟩|⟨i2,g2,_,a2,hp,_⟩
    ·rw[hp]at h1;cases h1
    ·rcases oW with ⟨hw,_⟩|⟨i3,g3,b1,_,hw,_⟩
     ·rw[hw]at h2;cases h2
     ·rw[hp]at h1;rw[hw]at h2;have e1:=(AVal.own.inj h1).1;have e2:=(AVal.own.inj h2).1;omega
  refine W.dr 20 [0,1,0,0,8,0,56,120,248,508,0,0,2048,0,14336,30720,63488,131068,262140,524284] mixed ?_;rcases hO with ⟨hv,_⟩|⟨iu,gu,z1,z2,hv,z4,z5⟩
  ·subst hv;simp only[go_sem,a3,a5,a7,x3,hb,q0,q1,qn,x1e,y1e,hA1,hA2,hA3,pkc,wkc,l4,uh21,uh2c];rw[<- hH5]
   repeat' (first|exact fin|refine And.intro ?_ ?_|(intro x hx;omega))
  ·subst hv;simp only[go_sem,a3,a5,a7,x3,hb,q0,q1,qn,x1e,y1e,hA1,hA2,hA3,pkc,wkc,l4,uh21,uh2c];rw[<- hH5]
   repeat' (first|exact fin|refine And.intro ?_ ?_|(intro x hx;omega))
 rintro⟨ρ3,Hx⟩ ⟨m2,m3,m4,m5,m6,nx,hold,uh,hx3,pv,wv,hO,hPW⟩;simp only at m2 m3 m4 m5 m6 nx hold hx3 hO hPW;have x0:=(hold H.next (by omega) (by omega)).trans d0;have x2:=(hold (H.next+2) (by omega) (by omega)).trans d2;have x4:=(hold (H.next+4) (by omega) (by omega)).trans d4;have xold:∀i,i<H.next->Hx.get i=H.get i:=fun i h=>(hold i (by omega) (by omega)).trans (dold i h);clear hold d0 d1 d2 d3 d4 dold
  -- what the switch leaves
 obtain⟨Φ,hΦ⟩:∃ Φ:St->Prop,∀s',Φ s'↔(s'.ρ 4=.ptr (H.next+2) 0 0/\s'.ρ 5=.ptr (H.next+3) 0 0/\s'.ρ 6=.ptr (H.next+4) 0 0/\∃(g':Int) (ns':List NodeP) (cs':List AVal) (D:Nat) (us':List UtilP) (uv:AVal),Hx.next<=s'.H.next/\(∀i,i<H.next->s'.H.get i=H.get i)/\s'.H.get (H.next+2)=Hx.get (H.next+2)/\s'.H.get (H.next+3)=some (.arr 0 38 [.lit (.int .i64 d.grain),.lit (.slice none 0 0),.lit (.int .u64 (D:Int)),uv])/\s'.H.get (H.next+4)=some (.arr 0 81 [.lit (.int .i64 g'),.vec ns'.length cs'])/\uv.one=true/\uv.cells=[uv]/\SmallN (m+2) ns'/\UtilsS (m+5) us'/\D<2 ^ 64/\NodesQ (fun v=>D.testBit v=true) ns' cs'/\ns'.length<=d.nodes.length+1/\((⟨g',ns',D,us'⟩:InfP),cs')=iZ w w5 a r n5 n d /\
   (∀H3,H3.next=s'.H.next->(∀i,i≠H.next+2->i≠H.next+3->H3.get i=s'.H.get i)->Fz (fun i=>H.next<=i) H3 H.next uv (.vec us'.length (aO us')))):=⟨_,fun _=>Iff.rfl⟩
 refine W.ik Φ ?_ ?_;rotate_left
 ·rintro⟨ρ5,H5⟩ hq5;obtain⟨f4,f5,f6,g',ns',cs',D,us',uv,n5,o5,p2,p3,p4,uv1,uvc,hsn,hsu,hD,hnq,hnl,hBI,hfz⟩:=(hΦ _).1 hq5;simp only at f4 f5 f6 n5 o5 p2 p3 p4 hfz;rw[x2]at p2;have k2:=ah p2;have k3:=ah p3;have k4:=ah p4;refine W.seq ?_;refine W.dr 6 [0,1,0,4,3,19] mixed ?_;simp only[go_sem,f5,f6,k3,k4];refine⟨⟨fun _ h=>by omega,fun _ h=>by omega⟩,?_⟩;obtain⟨H6,hH6⟩:∃H6,H6=(H5.upd (H.next+3) (.arr 0 38 [.lit (.int .i64 g'),.lit (.slice none 0 0),.lit (.int .u64 (D:Int)),uv])).upd (H.next+3) (.arr 0 38 [.lit (.int .i64 g'),.vec ns'.length cs',.lit (.int .u64 (D:Int)),uv]):=⟨_,rfl⟩
  rw[<- hH6];have n6:H6.next=H5.next:=by rw[hH6,au,au]
  have o6:∀i,i≠H.next+3->H6.get i=H5.get i:=fun i h=>by rw[hH6,ae,SI h,ae,SI h]
  have j3:H6.live (H.next+3) 0=some (38,[.lit (.int .i64 g'),.vec ns'.length cs',.lit (.int .u64 (D:Int)),uv]):=by rw[hH6];exact jj
  have j2:=ah ((o6 (H.next+2) (by omega)).trans p2);clear hH6;refine W.vs ?_;simp only[go_sem,f4,f5,j2,j3,uv1];refine ar.aV (v':=dw ⟨g',ns',D,us'⟩ cs') aE hcl ⟨by rw[au];omega,fun i h=>by rw[ae,SI (by omega),o6 i (by omega)];exact o5 i h⟩ (.agg rfl fun i hi _=>?_) (hK ⟨g',ns',D,us'⟩ cs' hBI ⟨⟨by have:=hsn.len;show (ns'.length:Int)<_;omega,fun x hx=>?_⟩,hD,by have:=hsu.len;show (us'.length:Int)<_;omega,fun u hu=>?_⟩ hnq hnl)
  ·match i,hi with
   |0,_=>exact .lit _
   |1,_=>exact .vec rfl fun j h _=>hnq.Bo j h
   |2,_=>exact .lit _
   |3,_=>exact hfz _ (by rw[au,n6]) fun i h1 h2=>by rw[ae,SI h1,o6 i h2]
  ·obtain⟨h1,h2,h3⟩:=hsn.node x hx;exact⟨by omega,by omega,fun r hr=>by have:=(h3 r hr).2;omega⟩
  ·obtain⟨h1,h2⟩:=hsu.util u hu;exact⟨by omega,by omega⟩
 have w8:Int.tmod w 8=w % 8:=Ta hw.1;refine W.block ?_;refine W.en (fun E=>E 2=.ptr H.next 0 0 /\ E 4=.ptr (H.next+2) 0 0 /\ E 5=.ptr (H.next+3) 0 0 /\ E 6=.ptr (H.next+4) 0 0) (by simp only[go_sem,m2,m4,m5,m6]) fun E ⟨t2,t4,t5,t6⟩=>?_
 clear m2 m3 m4 m5 m6;have k0:=ah x0;have k3:=ah hx3;have k4:=ah x4
  -- the utilities as they are
 have hP0:0<d.utils.length->∃u,d.utils[0]?=some u/\ay (H.next+5) Hx 3 pv (ints u.vars)/\ay (H.next+5) Hx 3 wv (ints u.w)/\∀i g n g' n',pv=.own i g 0 n 1->wv≠.own i g' 0 n' 1:=hPW;have usame:∀H3:AHeap,Hx.next<=H3.next->(∀i,H.next+5<=i->i<Hx.next->H3.get i=Hx.get i)->Fz (fun i=>H.next<=i) H3 H.next uh (.vec d.utils.length (aO d.utils)):=fun H3 h1 h2=>by
  refine uB (hO.keep h1 fun i g h3 h4 _=>h2 i h3 h4) (fun i h=>by show H.next<=i;omega) id fun hl=>?_;obtain⟨u,h3,hP,hW,_⟩:=hP0 hl;exact⟨u,(lh h3).symm,(hP.keep (Nat.le_refl _) h1 fun i g h3 h4 _ _=>h2 i h3 h4).dG fun i h=>by show H.next<=i;omega,(hW.keep (Nat.le_refl _) h1 fun i g h3 h4 _ _=>h2 i h3 h4).dG fun i h=>by show H.next<=i;omega⟩
 have uh1:=hO.one;have uhc:=hO.cells;have hsm2:SmallN (m+2) d.nodes:=hs.mono (by omega);have hu5:UtilsS (m+5) d.utils:=⟨by omega,fun u h=>by have:=hu.util u h;omega⟩
 have hqD:∀D:Nat,NodesQ (fun v=>D.testBit v=true) d.nodes cs1:=fun D=>hqT.mono fun _ _=>trivial;by_cases h4:w % 8<4
 ·refine W.sq ?_;simp only[go_sem,t2,k0,w8,h4];refine W.cond (t:=true) rfl ?_;refine W.vs ?_;simp only[go_sem,t2,t6,k0,k4];refine aw.clo (Bn w5 a r n5 hw5 ha hr d.grain d.nodes cs1 hqT m (by omega) hs _ _ fun g2 ns2 cs2 hB2 hs2 hq2 h02=>⟨trivial,?_⟩);simp only[go_sem,t6,k4];refine(hΦ _).2 ⟨by simp only[go_sem,t4],by simp only[go_sem,t5],by simp only[go_sem,t6],g2,ns2,cs2,d.decs,d.utils,uh,by rw[au];exact Nat.le_refl _,fun i h=>by rw[ae,SI (by omega)];exact xold i h,by rw[ae,SI (by omega)],by rw[ae,SI (by omega)];exact hx3,by rw[ae,SK rfl],uh1,uhc,hs2.mono (by omega),hu5,hd,hq2.mono fun v hv=>.inr fun x hx=>hdec v x hx hv,h02.2,by unfold iZ;rw[SK h4,<- hB2],fun H3 h7 h8=>usame H3 (by rw[h7,au];exact Nat.le_refl _) fun i h9 _=>by rw[h8 i (by omega) (by omega),ae,SI (by omega)]⟩
 refine W.sq ?_;simp only[go_sem,t2,k0,w8,h4];refine W.cond (t:=false) rfl ?_;by_cases h5:w % 8=4
 ·refine W.sq ?_;simp only[go_sem,t2,k0,w8,h5];refine W.cond (t:=true) rfl ?_;refine W.vs ?_;obtain⟨nN,hn1,hn2,hn3⟩:∃nN:Nat,IntKind.u64.wrap n=(nN:Int)/\nN<2 ^ 64/\nN=(n % 18446744073709551616).toNat:=by
   have h1:IntKind.u64.wrap n=n % 18446744073709551616:=rfl;refine⟨(n % 18446744073709551616).toNat,?_,?_,rfl⟩<;>omega
  have hxr:=fun t x y=>Rz (P:=prog) (t:=t) (x:=x) (y:=y) hd hn2;simp only[go_sem,t2,t5,k0,k3,hn1,hxr];refine(hΦ _).2 ⟨by simp only[go_sem,t4],by simp only[go_sem,t5],by simp only[go_sem,t6],d.grain,d.nodes,cs1,d.decs ^^^ nN,d.utils,uh,by rw[au];exact Nat.le_refl _,fun i h=>by rw[ae,SI (by omega)];exact xold i h,by rw[ae,SI (by omega)],by rw[ae,SK rfl],by rw[ae,SI (by omega)];exact x4,uh1,uhc,hsm2,hu5,Vu hd hn2,hqD _,Uc _,by unfold iZ;rw[SI h4,SK h5,SK h5,<- hn3,<- hcs1],fun H3 h7 h8=>usame H3 (by rw[h7,au];exact Nat.le_refl _) fun i h9 _=>by rw[h8 i (by omega) (by omega),ae,SI (by omega)]⟩
 refine W.sq ?_;simp only[go_sem,t2,k0,w8,h5];refine W.cond (t:=false) rfl ?_;have ulen:dY Hx uh=some (aa d.utils.length):=by
  rcases hO with ⟨z1,z2,z3⟩|⟨id,gg,z1,z2,z3,z4,z5⟩
  ·rw[z1,z2];rfl
  ·rw[z3];unfold dY;simp[ah z5,aa]
 have hzero:¬ 0<d.utils.length->d.utils.length=0:=fun h=>by omega
 refine W.ik (fun s'=>s'.H=Hx/\s'.ρ 2=.ptr H.next 0 0/\s'.ρ 4=.ptr (H.next+2) 0 0/\s'.ρ 5=.ptr (H.next+3) 0 0/\s'.ρ 6=.ptr (H.next+4) 0 0/\s'.ρ 83=.lit (.bool (decide (w % 8=5/\0<d.utils.length)))) ?_ ?_
 ·refine W.vs ?_;by_cases h6:w % 8=5
  ·by_cases h7:0<d.utils.length
   ·have h7i:(0:Int)<d.utils.length:=(by omega);simp only[go_sem,t2,t5,k0,k3,ulen,w8,h6,h7,h7i];exact⟨t4,t6⟩
   ·have h7i:=hzero h7;simp only[go_sem,t2,t5,k0,k3,ulen,w8,h6,h7i];exact⟨t4,t6⟩
  ·simp only[go_sem,t2,t5,k0,w8,h6];exact⟨t4,t6⟩
 rintro⟨ρ6,H6⟩ ⟨hH,v2,v4,v5,v6,v83⟩;simp only at hH v2 v4 v5 v6 v83;rw[hH];clear hH H6;by_cases h6:w % 8=5/\0<d.utils.length
 ·have h7:=h6.2;rw[Tm h6]at v83;refine W.cond (t:=true) v83 ?_;rcases hO with ⟨_,z2,_⟩|⟨iu,gu,z1,z2,z3,z4,z5⟩
  ·omega
  subst z3;obtain⟨u,hu0,hP,hW,hpw⟩:=hP0 h7;obtain⟨cu,hcu⟩:∃cu,cu=cP d.utils d.utils.length pv wv:=⟨_,rfl⟩
  rw[<- hcu]at z4 z5;have ku:=ah z5;have hcl2:(aO d.utils).length=d.utils.length*2:=kK _;have hcu':cu=((aO d.utils).set 0 pv).set 1 wv:=by rw[hcu];unfold cP;rw[TC]
  have cu0:cu[0]?=some pv:=by rw[hcu',S3 (by omega),SX (by omega)]
  have cune:=aJ cu0;have h7i:(0:Int)<d.utils.length:=by omega
  have u1:=(hu.util u (SE hu0)).1;obtain⟨pv2,H2,hA2,oP,n2,hp2⟩:=fW (P:=prog) (H:=Hx) (t:=42) (x:=aa n) (n:=Hx.next+1) Tryz.underlying42 Tryz.dz Tryz.dH rfl (by rw[Tryz.dL,aH];omega) hP (by omega) rfl;simp only[aa]at hA2;have pne:∀i g2 e2 c2,Hx.get i=some (.arr g2 e2 c2)->e2≠3->∀g n,pv≠.own i g 0 n 1:=fun i g2 e2 c2 h1 h2 g n hv=>by
   rcases hP with ⟨h3,_⟩|⟨i3,g3,_,_,h3,h4⟩
   ·rw[h3]at hv;cases hv
   ·rw[h3]at hv;obtain rfl:=(AVal.own.inj hv).1;rw[h4]at h1;cases h1;exact h2 rfl
  have j1:H2.get iu=_:=(hp2 iu z2 (pne _ _ _ _ z5 (by decide))).trans z5;have ju:=ah j1;have jo:∀i,i<H.next+5->H2.get i=Hx.get i:=fun i h=>hp2 i (by omega) (hP.ne h);have e1:setAt cu 0 [pv2]=cP d.utils d.utils.length pv2 wv:=by
   rw[eM (by omega),hcu'];unfold cP;rw[TC,Vx _ _ (by omega),UD]
  have e1':(pv2 :: cu.drop 1)=cP d.utils d.utils.length pv2 wv:=by rw[<- e1];rfl
  have pv21:=oP.one;have pv2c:=oP.cells;have c1l:1<=cu.length:=by omega
  have fin5:∀E':Env,E' 4=.ptr (H.next+2) 0 0->E' 5=.ptr (H.next+3) 0 0->E' 6=.ptr (H.next+4) 0 0->Φ ⟨E',H2.upd iu (.arr gu 90 (cP d.utils d.utils.length pv2 wv))⟩:=fun E' f4 f5 f6=>by
   refine(hΦ _).2 ⟨f4,f5,f6,d.grain,d.nodes,cs1,d.decs,d.utils.set 0 ⟨u.vars++[n],u.w⟩,_,by rw[au];exact n2,fun i h=>by rw[ae,SI (by omega),jo i (by omega)];exact xold i h,by rw[ae,SI (by omega),jo _ (by omega)],by rw[ae,SI (by omega),jo _ (by omega)];exact hx3,by rw[ae,SI (by omega),jo _ (by omega)];exact x4,uh1,uhc,hsm2,⟨by rw[SO];omega,fun u' hu'=>?_⟩,hd,hqD _,Uc _,by unfold iZ;rw[SI h4,SI h5,SI h5,<- hcs1];unfold pZ;rw[hu0];simp only;rw[SK h6.1],fun H3 h7 h8=>?_⟩
   ·rcases Tg hu' with h|rfl
    ·exact hu5.util u' h
    ·have:=hu.util u (SE hu0);exact⟨by simp;omega,by show u.w.length<=_;omega⟩
   ·have k3':∀i g2 e2 c2,H.next+5<=i->H2.get i=some (.arr g2 e2 c2)->e2≠90->H3.get i=H2.get i:=fun i g2 e2 c2 h1 h3 h4=>by
     rw[h8 i (by omega) (by omega),ae,SI];rintro rfl;rw[j1]at h3;cases h3;exact h4 rfl
    have oP3:ay (H.next+5) H3 3 pv2 (ints (u.vars++[n])):=by
     have:=oP.keep (H':=H3) (Nat.le_refl _) (by rw[h7,au];exact Nat.le_refl _) fun i g h1 _ h3 _=>k3' i g _ _ h1 h3 (by decide);simpa[ints] using this
    have oW3:ay (H.next+5) H3 3 wv (ints u.w):=hW.keep (Nat.le_refl _) (by rw[h7,au];omega) fun i g h1 h2 h3 h4=>by
     have h5:H2.get i=Hx.get i:=hp2 i h2 fun g' n' hv=>hpw _ _ _ _ _ hv h4;exact(k3' i g _ _ h1 (h5.trans h3) (by decide)).trans h5
    refine uB (us:=d.utils) (pv:=pv2) (wv:=wv) (H:=H3) (.inr ⟨iu,gu,z1,by rw[h7,au];omega,rfl,by rw[uz,TC],by rw[h8 iu (by omega) (by omega),ae,SK rfl]⟩) (fun i h=>by show H.next<=i;omega) (fun h=>by rw[h];rfl) fun _=>⟨⟨u.vars++[n],u.w⟩,rfl,oP3.dG fun i h=>by show H.next<=i;omega,oW3.dG fun i h=>by show H.next<=i;omega⟩
  refine W.dr 11 [0,1,0,4,12,28,60,0,128,384,1020] mixed ?_;rcases hP with ⟨hv,_⟩|⟨i3,g3,_,_,hv,h4⟩
  ·subst hv;simp only[go_sem,v2,v5,k0,k3,ku,cu0,h7i,hA2,ju,pv21,pv2c,c1l]
   repeat' (first|refine And.intro ?_ ?_|(intro x hx;omega)|omega)
   rw[e1'];exact fin5 _ (by simp only[go_sem,v4]) (by simp only[go_sem,v5]) (by simp only[go_sem,v6])
  ·rw[aH]at hv;subst hv;simp only[go_sem,v2,v5,k0,k3,ku,cu0,h7i,hA2,ju,pv21,pv2c,c1l]
   repeat' (first|refine And.intro ?_ ?_|(intro x hx;omega)|omega)
   rw[e1'];exact fin5 _ (by simp only[go_sem,v4]) (by simp only[go_sem,v5]) (by simp only[go_sem,v6])
 rw[TD h6]at v83;refine W.cond (t:=false) v83 ?_;have hP6:∃b:Bool,(b=true↔w % 8=6/\∃u,d.utils[0]?=some u/\0<u.w.length):=by
  classical exact⟨decide _,decide_eq_true_iff⟩
 obtain⟨b6,hb6⟩:=hP6;refine W.ik (fun s'=>s'.H=Hx/\s'.ρ 2=.ptr H.next 0 0/\s'.ρ 4=.ptr (H.next+2) 0 0/\s'.ρ 5=.ptr (H.next+3) 0 0/\s'.ρ 6=.ptr (H.next+4) 0 0/\s'.ρ 107=.lit (.bool b6)) ?_ ?_
 ·refine W.vs ?_;by_cases h7:w % 8=6
  ·by_cases h8:0<d.utils.length
   ·have h8i:(0:Int)<d.utils.length:=(by omega);rcases hO with ⟨_,z2,_⟩|⟨iu,gu,z1,z2,z3,z4,z5⟩
    ·omega
    subst z3;obtain⟨u,hu0,hP,hW,hpw⟩:=hP0 h8;obtain⟨cu,hcu⟩:∃cu,cu=cP d.utils d.utils.length pv wv:=⟨_,rfl⟩
    rw[<- hcu]at z4 z5;have ku:=ah z5;have hcl2:(aO d.utils).length=d.utils.length*2:=kK _;have hcu':cu=((aO d.utils).set 0 pv).set 1 wv:=(by rw[hcu];unfold cP;rw[TC]);have cu1:cu[1]?=some wv:=(by rw[hcu',SX (by rw[SO];omega)]);have cune:=aJ cu1;have wlen:dY Hx wv=some (aa u.w.length):=by
     rcases hW with ⟨h1,h2⟩|⟨i,g',_,_,h1,h2⟩
     ·have:u.w.length=0:=(by have:=congrArg List.length h2;rwa [aH]at this);rw[h1,this];rfl
     ·rw[h1];unfold dY;simp[ah h2,aa,aH]
    by_cases h9:0<u.w.length
    ·have h9i:(0:Int)<u.w.length:=(by omega);have:b6=true:=hb6.2 ⟨h7,u,hu0,h9⟩;simp only[go_sem,v2,v5,k0,k3,ku,w8,h7,h8i,ulen,cu1,wlen,h9i];exact⟨v4,v6,by rw[this]⟩
    ·have h9i:¬(0:Int)<u.w.length:=(by omega);have:b6=false:=by
      rw[<- UO,hb6];rintro⟨_,u',hu',h⟩;rw[hu0]at hu';cases hu';exact h9 h
     simp only[go_sem,v2,v5,k0,k3,ku,w8,h7,h8i,ulen,cu1,wlen,h9i];exact⟨v4,v6,by rw[this]⟩
   ·have h8i:=hzero h8;have:b6=false:=by
     rw[<- UO,hb6];rintro⟨_,u',hu',h⟩;have:=get_lt hu';omega
    simp only[go_sem,v2,v5,k0,k3,ulen,w8,h7,h8i];exact⟨v4,v6,by rw[this]⟩
  ·have:b6=false:=by
    rw[<- UO,hb6];exact fun h=>h7 h.1
   simp only[go_sem,v2,v5,k0,w8,h7];exact⟨v4,v6,by rw[this]⟩
 rintro⟨ρ7,H7⟩ ⟨hH,y2,y4,y5,y6,y107⟩;simp only at hH y2 y4 y5 y6 y107;rw[hH];clear hH H7 v2 v4 v5 v6 v83;refine W.cond (t:=b6) y107 ?_;cases hbb:b6;rotate_left
 ·obtain⟨h7,u0,hu0',h9⟩:=hb6.1 hbb;have h8:=get_lt hu0';have h8i:(0:Int)<d.utils.length:=by omega
  have h9i:(0:Int)<u0.w.length:=by omega
  have h9n:¬(u0.w.length:Int)=0:=by omega
  rcases hO with ⟨_,z2,_⟩|⟨iu,gu,z1,z2,z3,z4,z5⟩
  ·omega
  subst z3;obtain⟨u,hu0,hP,hW,hpw⟩:=hP0 h8;obtain rfl:u=u0:=Option.some.inj (hu0.symm.trans hu0');rcases hW with ⟨_,hWn⟩|⟨iw,gw,r1,r2,r3,r4⟩
  ·have:=congrArg List.length hWn;rw[aH,List.length_nil]at this;omega
  rw[aH]at r3;obtain⟨cu,hcu⟩:∃cu,cu=cP d.utils d.utils.length pv wv:=⟨_,rfl⟩
  rw[<- hcu]at z4 z5;have ku:=ah z5;have kw:=ah r4;have hcl2:(aO d.utils).length=d.utils.length*2:=kK _;have hcu':cu=((aO d.utils).set 0 pv).set 1 wv:=by rw[hcu];unfold cP;rw[TC]
  have cu1:cu[1]?=some (.own iw gw 0 u.w.length 1):=by rw[hcu',SX (by rw[SO];omega),r3]
  have cune:=aJ cu1;have wq:=SF a (by omega);have hRe:Int.tmod a u.w.length=a % u.w.length:=Ta ha.1;have hR0:=TP a h9n;have hR1:=TO a h9i;obtain⟨Rn,hRn⟩:=SR hR0;have wle:=(hu.util u (SE hu0)).2;have wR:=SF (Rn:Int) (by omega);have hRl:Rn<u.w.length:=by omega
  have hRli:(Rn:Int)<u.w.length:=by omega
  have e1:setAt (ints u.w) Rn [.lit (.int .i64 n)]=ints (u.w.set Rn n):=fD hRl;have wne:¬ints u.w=[]:=fun h=>by have:=congrArg List.length h;rw[aH,List.length_nil]at this;omega
  show W _ _ _ _ (Code.region ..) _ _;refine W.dr 18 [0,1,3,7,15,0,32,96,224,0,512,1536,3584,7680,15872,32736,0,65536] mixed ?_;simp only[go_sem,y2,y5,k0,k3,ku,kw,cu1,h8i,h9n,wq,hRe,hRn,hRli,e1];refine⟨by omega,?_⟩;have wi:iw≠iu:=fun h=>by
   rw[h,z5]at r4;cases r4
  refine(hΦ _).2 ⟨by simp only[go_sem,y4],by simp only[go_sem,y5],by simp only[go_sem,y6],d.grain,d.nodes,cs1,d.decs,d.utils.set 0 ⟨u.vars,u.w.set Rn n⟩,_,by rw[au];exact Nat.le_refl _,fun i h=>by rw[ae,SI (by omega)];exact xold i h,by rw[ae,SI (by omega)],by rw[ae,SI (by omega)];exact hx3,by rw[ae,SI (by omega)];exact x4,uh1,uhc,hsm2,⟨by rw[SO];omega,fun u' hu'=>?_⟩,hd,hqD _,Uc _,by unfold iZ;rw[SI h4,SI h5,SI h5,<- hcs1];unfold pZ;rw[hu0];simp only;rw[SI (by omega),SK ⟨h7,h9⟩,show (a % (u.w.length:Int)).toNat=Rn by omega],fun H3 h7 h8=>?_⟩
  ·rcases Tg hu' with h|rfl
   ·exact hu5.util u' h
   ·have:=hu.util u (SE hu0);exact⟨by show u.vars.length<=_;omega,by show (u.w.set Rn n).length<=_;rw[SO];omega⟩
  ·have k3':∀i,H.next+5<=i->i≠iw->H3.get i=Hx.get i:=fun i h1 h3=>by rw[h8 i (by omega) (by omega),ae,SI h3]
   have oP3:ay (H.next+5) H3 3 pv (ints u.vars):=hP.keep (Nat.le_refl _) (by rw[h7,au];exact Nat.le_refl _) fun i g h1 _ _ h4=>k3' i h1 fun h=>hpw _ _ _ gw u.w.length h4 (by rw[r3,h]);have oW3:ay (H.next+5) H3 3 wv (ints (u.w.set Rn n)):=.inr ⟨iw,gw,r1,by rw[h7,au];exact r2,by rw[r3,aH,SO],by rw[h8 iw (by omega) (by omega),ae,SK rfl]⟩;refine uB (us:=d.utils) (pv:=pv) (wv:=wv) (H:=H3) (.inr ⟨iu,gu,z1,by rw[h7,au];exact z2,rfl,by rw[uz,TC],by rw[k3' iu z1 fun h=>wi h.symm,z5,hcu]⟩) (fun i h=>by show H.next<=i;omega) (fun h=>by rw[h];rfl) fun _=>⟨⟨u.vars,u.w.set Rn n⟩,rfl,oP3.dG fun i h=>by show H.next<=i;omega,oW3.dG fun i h=>by show H.next<=i;omega⟩
 ·show W _ _ _ _ (Code.block ..) _ _;refine W.block ?_;obtain⟨us2,hus2⟩:∃us2,us2=d.utils++List.replicate 5 (⟨[],[1]⟩:UtilP):=⟨_,rfl⟩
  have hBd:∀k:Nat,k=max d.utils.length 5->((⟨d.grain,d.nodes,d.decs,us2.take k⟩:InfP),cs1)=iZ w w5 a r n5 n d:=fun k hk=>by
   unfold iZ;rw[SI h4,SI h5,SI h5,<- hcs1];unfold pZ;cases hu0:d.utils[0]? with
   |none =>
    have hl0:d.utils=[]:=SP (by have:=Ud.1 hu0;omega);rw[hus2,hl0,hk,hl0];rfl
   |some u =>
    have h8:=get_lt hu0;simp only;rw[SI (fun h=>h6 ⟨h,h8⟩),SI (fun h=>by
     have:=hb6.2 ⟨h.1,u,hu0,h.2⟩;rw[hbb]at this;cases this),hus2,hk]
  have tk:∀k,k<=d.utils.length->us2.take k=d.utils.take k:=fun k h=>by rw[hus2,List.take_append_of_le_length h]
  have get2:∀k,d.utils.length<=k->k<5->us2[k]?=some ⟨[],[1]⟩:=fun k h1 h2=>by rw[hus2,SZ h1,TH,SK (by omega)]
  refine W.aG 4609434218613702656 (by rfl) (fun ρ Hy=>∃(k:Nat) (uh:AVal),d.utils.length<=k/\(k<=5\/k=d.utils.length)/\Hx.next<=Hy.next/\(∀i,i<H.next+5->i≠H.next+3->Hy.get i=Hx.get i)/\Hy.get (H.next+3)=some (.arr 0 38 [.lit (.int .i64 d.grain),.lit (.slice none 0 0),.lit (.int .u64 (d.decs:Int)),uh])/\uA us2 (H.next+5) k Hy uh) (fun ρ Hy=>5-rY Hy (H.next+3)) ?_ ?_
  ·refine⟨d.utils.length,uh,Nat.le_refl _,.inr rfl,Nat.le_refl _,fun _ _ _=>rfl,hx3,pv,wv,?_,fun h=>?_⟩
   ·have:cP us2 d.utils.length pv wv=cP d.utils d.utils.length pv wv:=(by unfold cP;rw[tk _ (Nat.le_refl _)]);rw[this];exact hO
   ·obtain⟨u,h1,h2⟩:=hP0 h;exact⟨u,by rw[hus2,SU h];exact h1,h2⟩
  rintro ρ8 Hy ⟨k,uhy,hk0,hk1,ny,yo,y3,pvy,wvy,yO,yPW⟩;refine W.en (fun E3=>E3 4=.ptr (H.next+2) 0 0 /\ E3 5=.ptr (H.next+3) 0 0 /\ E3 6=.ptr (H.next+4) 0 0) (by simp only[go_sem,y4,y5,y6]) fun E3 ⟨a4,a5,a6⟩=>?_
  have ky:=ah y3;have yl:dY Hy uhy=some (aa k)/\rY Hy (H.next+3)=k:=by
   unfold rY;rw[y3];rcases yO with ⟨z1,z2,z3⟩|⟨id,gg,z1,z2,z3,z4,z5⟩
   ·rw[z1,z2];exact⟨rfl,rfl⟩
   ·rw[z3];unfold dY;simp[ah z5,aa]
  obtain⟨yl1,yl2⟩:=yl;by_cases hk5:(k:Int)<5;rotate_left
  ·refine W.vs ?_;simp only[go_sem,a5,ky,yl1,hk5];have hl2:us2.length=d.utils.length+5:=(by rw[hus2];simp);have hlk:(us2.take k).length=k:=(by rw[SN];omega);have hO3:cP (us2.take k) (us2.take k).length pvy wvy=cP us2 k pvy wvy:=(by unfold cP;rw[TC]);refine(hΦ _).2 ⟨by simp only[go_sem,a4],by simp only[go_sem,a5],by simp only[go_sem,a6],d.grain,d.nodes,cs1,d.decs,us2.take k,uhy,ny,fun i h=>by rw[yo i (by omega) (by omega)];exact xold i h,yo _ (by omega) (by omega),y3,(yo _ (by omega) (by omega)).trans x4,yO.one,yO.cells,hsm2,⟨by rw[hlk];omega,fun u hu'=>?_⟩,hd,hqD _,Uc _,hBd k (by omega),fun H3 h7 h8=>?_⟩
   ·have:=S8 hu';rw[hus2]at this;rcases S5.1 this with h|h
    ·exact hu5.util u h
    ·rw[Tr h];exact⟨by simp,by simp⟩
   ·have h7':H3.next=Hy.next:=h7;have kk:∀i,H.next+5<=i->H3.get i=Hy.get i:=fun i h=>h8 i (by omega) (by omega);refine uB (us:=us2.take k) (pv:=pvy) (wv:=wvy) (H:=H3) (by rw[hO3,hlk];exact yO.keep (by omega) fun i g h1 _ _=>kk i h1) (fun i h=>by show H.next<=i;omega) id fun hl=>?_;obtain⟨u,q1,qP,qW,_⟩:=yPW (by omega);exact⟨u,(lh (by rw[Tf (by omega)];exact q1)).symm,(qP.keep (Nat.le_refl _) (by omega) fun i g h1 _ _ _=>kk i h1).dG fun i h=>by show H.next<=i;omega,(qW.keep (Nat.le_refl _) (by omega) fun i g h1 _ _ _=>kk i h1).dG fun i h=>by show H.next<=i;omega⟩
  obtain⟨He,hHe⟩:∃He,He=ext Hy [.arr 0 3 [.lit (.int .i64 1)]]:=⟨_,rfl⟩
  have ne':He.next=Hy.next+1:=by rw[hHe];rfl
  have oe:Over Hy He:=hHe▸.ext _ _
  have hOe:cG (H.next+5) He 90 2 uhy k (cP us2 k pvy wvy):=yO.over oe;obtain⟨uh2,H4,hA3,oZ,n4,hp4⟩:=mR (P:=prog) (H:=He) (t:=36) (xs:=[.lit (.slice none 0 0),.own Hy.next 0 0 1 1]) (m:=Hy.next+2) Tryz.underlying36 Tryz.uD Tryz.uF rfl rfl (by rw[Tryz.uE];omega) hOe (by omega) (by omega);have k4':∀i,i<H.next+5->H4.get i=Hy.get i:=fun i h=>(hp4 i (by omega) (hOe.ne h)).trans (oe.old i (by omega));have l4:=ah ((k4' _ (by omega)).trans y3);have uh21:=oZ.one;have uh2c:=oZ.cells;rw[ne',hHe,dp]at hA3;simp only[List.cons_append,List.nil_append]at hA3;refine W.me (Q':=fun e s2=>e=.normal/\Hy.next<=s2.H.next/\(∀i,i<H.next+5->i≠H.next+3->s2.H.get i=Hx.get i)/\(∀i g e c,H.next+5<=i->i<Hy.next->Hy.get i=some (.arr g e c)->e≠90->s2.H.get i=Hy.get i)/\s2.H.get (H.next+3)=some (.arr 0 38 [.lit (.int .i64 d.grain),.lit (.slice none 0 0),.lit (.int .u64 (d.decs:Int)),uh2])/\cG (H.next+5) s2.H 90 2 uh2 (k+1) (cP us2 k pvy wvy++[.lit (.slice none 0 0),.own Hy.next 0 0 1 1])/\ay Hy.next s2.H 3 (.own Hy.next 0 0 1 1) (ints [1])) ?_ ?_
  ·refine W.vs ?_;simp only[go_sem,a5,ky,yl1,hk5,hA3,l4,uh21,uh2c];have hne4:∀i g e c,He.get i=some (.arr g e c)->e≠90->∀g n,uhy≠.own i g 0 n 2:=fun i g e c h1 h2 g' n hv=>by
    rcases hOe with ⟨h,_⟩|⟨i2,g2,_,_,h,_,h4⟩
    ·rw[h]at hv;cases hv
    ·rw[h]at hv;obtain rfl:=(AVal.own.inj hv).1;rw[h4]at h1;cases h1;exact h2 rfl
   have e3:He.get Hy.next=some (.arr 0 3 [.lit (.int .i64 1)]):=(by rw[hHe];exact cq ..);refine⟨by rw[au];omega,fun i h1 h2=>by rw[ae,SI h2,k4' i h1];exact yo i h1 h2,fun i g e c h1 h2 h3 h4=>?_,by rw[ae,SK rfl],oZ.keep (by rw[au];exact Nat.le_refl _) fun i g h1 _ _=>by rw[ae,SI (by omega)],.inr ⟨Hy.next,0,Nat.le_refl _,by rw[au];omega,rfl,?_⟩⟩
   ·have h5:=oe.old i h2;rw[ae,SI (by omega),hp4 i (by omega) (hne4 _ _ _ _ (h5.trans h3) h4),h5]
   ·rw[ae,SI (by omega),hp4 _ (by omega) (hne4 _ _ _ _ e3 (by decide)),e3];rfl
  ·rintro e s2 ⟨rfl,n2,o2,kp2,g3,oZ2,oW2⟩;obtain⟨H3,hw3,n3,k3'',hI⟩:=Bq (P:=prog) (get2 k hk0 (by omega)) (Hx:=Hy) (by omega) yPW (s2:=s2) n2 kp2 oZ2 .nil oW2 fun i g n g' n' h=>by cases h
   refine⟨⟨s2.ρ,H3⟩,hw3,by rw[n3];exact Nat.le_refl _,trivial,?_⟩;simp only[go_sem];have hg3:=(k3'' (H.next+3) (by omega)).trans g3;have ul2:rY H3 (H.next+3)=k+1:=by
    obtain⟨pv3,wv3,hO3,_⟩:=hI;unfold rY;rw[hg3];rcases hO3 with ⟨_,z2,_⟩|⟨id,gg,_,_,z3,_⟩
    ·omega
    ·rw[z3]
   rw[ul2,yl2];exact⟨by omega,⟨k+1,uh2,by omega,by omega,by omega,fun i h1 h2=>(k3'' i h1).trans (o2 i h1 h2),hg3,hI⟩,by omega⟩
end Go.Proofs
namespace Go.Proofs
open Go.Hx Tryz
structure B20 where
 w:Int
 w5:Int
 a:Int
 r:Int
 n5:Int
 n:Int
def B20.cells (b:B20):List AVal:=rX b.w (kH b.w5 b.a b.r b.n5) b.n
structure B20.Ok (b:B20):Prop where
 w:0<=b.w/\b.w<=255
 w5:0<=b.w5/\b.w5<=255
 a:0<=b.a/\b.a<=255
 r:0<=b.r/\b.r<=255
end Go.Proofs
namespace Go.Proofs.YteolcdbjdgimhaaGreat
open Go.ChangeShapes Go.WideShapes Go.ChangeAt Go.RowKit Go.Hx
section
variable {W:World} {H:Type} {enc:TypeId × Value->H} {spare:Nat->Bool} {held:Bool}
theorem r9 {n:Int}(h:(Lit.int .u8 n).wf=true):0<=n/\n<=255:=by
 have:=mw h;unfold U8 at this;omega
theorem LI:fG enc Tryz.prog W spare held 30 fun _ zs=>∃w a r n:Int,zs=kH w a r n/\(0<=w/\w<=255)/\(0<=a/\a<=255)/\(0<=r/\r<=255):=by
 have hu:=Tryz.underlying30;have c1:=Tryz.nH;have c2:=Tryz.dz;refine(pV (φ:=fun i _ xs=>if i=3 then ∃n,xs=[.lit (.int .i64 n)] else ∃n,xs=[.lit (.int .u8 n)]/\(Lit.int .u8 n).wf=true) hu
  (fun cs hcs=>by
   have hc:Tryz.prog.cellsOf 30=4:=(by kernel_rfl);rw[hc]at hcs
   match cs,hcs with
   | [a,b,c,d],_=>simp[c1,c2])
  (fun i hi=>match i,hi with
   |0,_=>(jE Tryz.underlying5).mono fun _ _ ⟨n,_,h,w⟩=>⟨n,h,w⟩
   |1,_=>(jE Tryz.underlying5).mono fun _ _ ⟨n,_,h,w⟩=>⟨n,h,w⟩
   |2,_=>(jE Tryz.underlying5).mono fun _ _ ⟨n,_,h,w⟩=>⟨n,h,w⟩
   |3,_=>(jE Tryz.underlying3).mono fun _ _ ⟨n,_,h,_⟩=>⟨n,h⟩)).mono fun d zs ⟨ds,rows,_,e,hl1,hl2,hall⟩=>?_
 match rows,ds,hl2,hl1,hall with
 | [x,y,z,u],[d0,d1,d2,d3],_,_,hall =>
  obtain⟨n0,e0,w0⟩:=hall 0 (by simp) (by simp);obtain⟨n1,e1,w1⟩:=hall 1 (by simp) (by simp);obtain⟨n2,e2,w2⟩:=hall 2 (by simp) (by simp);obtain⟨n3,e3⟩:=hall 3 (by simp) (by simp);simp only[Tp,T5]at e0 e1 e2 e3;subst e0;subst e1;subst e2;subst e3;exact⟨n0,n1,n2,n3,by rw[e];rfl,r9 w0,r9 w1,r9 w2⟩
theorem LJ:fG enc Tryz.prog W spare held 32 fun _ zs=>∃b:B20,zs=b.cells/\b.Ok:=by
 have hu:=Tryz.underlying32;have c1:=Tryz.nH;have c2:=Tryz.dz;have c3:=Tryz.BB;refine(pV (φ:=fun i _ xs=>if i=0 then ∃n,xs=[.lit (.int .u8 n)]/\(Lit.int .u8 n).wf=true else if i=1 then ∃w a r n:Int,xs=kH w a r n/\(0<=w/\w<=255)/\(0<=a/\a<=255)/\(0<=r/\r<=255) else ∃n,xs=[.lit (.int .i64 n)]) hu
  (fun cs hcs=>by
   have hc:Tryz.prog.cellsOf 32=6:=(by kernel_rfl);rw[hc]at hcs
   match cs,hcs with
   | [a,b,c,d,e,f],_=>simp[c1,c2,c3])
  (fun i hi=>match i,hi with
   |0,_=>(jE Tryz.underlying5).mono fun _ _ ⟨n,_,h,w⟩=>⟨n,h,w⟩
   |1,_=>LI.mono fun _ _ h=>h
   |2,_=>(jE Tryz.underlying3).mono fun _ _ ⟨n,_,h,_⟩=>⟨n,h⟩)).mono fun d zs ⟨ds,rows,_,e,hl1,hl2,hall⟩=>?_
 match rows,ds,hl2,hl1,hall with
 | [x,y,z],[d0,d1,d2],_,_,hall =>
  obtain⟨n0,e0,w0⟩:=hall 0 (by simp) (by simp);obtain⟨w5,a,r,n5,e1,k0,k1,k2⟩:=hall 1 (by simp) (by simp);obtain⟨n,e2⟩:=hall 2 (by simp) (by simp);simp only[Tp,T5]at e0 e1 e2;subst e0;subst e1;subst e2;exact⟨⟨n0,w5,a,r,n5,n⟩,by rw[e];rfl,⟨r9 w0,k0,k1,k2⟩⟩
theorem LK {r:Reach}{b:Nat}{v:Value}{d:DataW H}{ps:List MemPlace}(hval:Value.okWide Tryz.prog W r b 32 v)(hd:DataW.Trod enc Tryz.prog W 0 spare held 32 v d ps):
  ∃x:B20,RelV Tryz.prog iA cz W (.agg x.cells) v/\x.Ok:=by
 obtain⟨xs,h1,x,rfl,h2⟩:=AI LJ (.inl ⟨_,Tryz.underlying32⟩) hval hd;exact⟨x,h1,h2⟩
end
end Go.Proofs.YteolcdbjdgimhaaGreat
namespace Go.Proofs
open Go.Hx Tryz
theorem Pn {d:InfP}(h:RightN d):d.decs<2 ^ d.nodes.length:=by
 have h1:=h.decs;rw[Vb]at h1;exact(Nat.div_eq_zero_iff_lt (VK _)).1 h1
theorem uW {ns:List NodeP}{vars:List Int}(h8:ns.length<=8)(hp:bO vars ns.length)(hc:∀y∈ns,1<=y.card/\y.card<=4):vars.length<=12:=by
 have:=(pq h8 hp hc).1
 rwa [gJ]at this
theorem sH {d:InfP}(h:InfOk d):InfFit d:=by
 have n8:=h.n.n1;refine⟨⟨by omega,fun x hx=>?_⟩,?_,by have:=h.utils.1;omega,fun u hu=>?_⟩
 ·obtain⟨v,hv⟩:=SW.1 hx;have hn:=h.net.node _ (SE (eW (c:=fun _ _=>0) hv));have hr:=h.net.rows _ (SE (eW (c:=fun _ _=>0) hv));rw[(gD ..).1,(gD ..).2,dB]at hn;unfold fO at hr;rw[pj]at hr;have hpl:=uW n8.2 hn.2 h.n.card;refine⟨by omega,?_⟩;by_cases hb:d.decs.testBit v=true
  ·rw[(h.n.dec v x hv hb).1];exact⟨by simp,fun r hr=>by cases hr⟩
  ·rw[kh hb]at hr;have:=(iQ n8.2 hn.2 h.n.card).prod;refine⟨by omega,fun r hr'=>?_⟩;have:=(hr.2 r hr').1;omega
 ·exact S1 (Pn h.n) (Te (by decide) (by omega))
 ·have hu':=h.utils.2 u hu;have:=uW n8.2 hu'.vars h.n.card;have:=(pq n8.2 hu'.vars h.n.card).prod;have:=hu'.size;omega
theorem lT {d:InfP}(h:InfOk d){p:List (List Int)}(hp:PolOk d p):ji p:=by
 have n8:=h.n.n1;have:=fY (D:=d.decs) (n:=d.nodes.length);have hl:=hp.len;refine⟨by unfold az at hl;omega,fun r hr=>?_⟩;obtain⟨k,hk⟩:=SW.1 hr;obtain⟨v,hv⟩:=get_of_lt (l:=az d) (i:=k) (by have:=get_lt hk;omega);obtain⟨v1,v2,_⟩:=eE hv;obtain⟨x,hx⟩:=get_of_lt v1;have h1:=(hp.row k v x r hv hx hk).1;have h2:=kU h v1 v2;unfold dq at h2;rw[hx]at h2;dsimp only at h2;omega
theorem nW {d:InfP}(h:InfOk d){p:List (List Int)}(hp:PolOk d p):cK d p=0:=by
 unfold cK;rw[dU h,dU hp];rfl
theorem CI (k:Nat)(h:k<=6):(60:Int) ^ k<=46656000000:=by
 have h1:(60:Nat) ^ k<=60 ^ 6:=Te (by decide) h;have h2:(60:Nat) ^ 6=46656000000:=by decide
 rw[h2]at h1;have h3:=Int.ofNat_le.2 h1;rw[Int.natCast_pow]at h3;exact h3
theorem CJ {g:Int}{ns:List NodeP}(h:NetOk g ns)(h6:ns.length<=6){vals:List Int}(hf:bH (ak ns) vals):0<=weight ns vals/\weight ns vals<=46656000000:=by
 have hb:∀w∈fy ns vals,0<=w/\w<=60:=fun w hw=>by
  obtain⟨v,hv,rfl⟩:=SY.1 hw;obtain⟨x,hx⟩:=get_of_lt (Tn.1 hv);obtain⟨i,r,a,w,hR⟩:=qE h hx hf;rw[hR.eq];have:=hR.wb;have:=h.g1;omega
 have h1:=nL (b:=60) (by omega) hb;have h2:=CI (fy ns vals).length (by rw[sC];omega);exact⟨h1.1,VE h1.2 h2⟩
theorem uX {g:Int}{ns:List NodeP}(h:NetOk g ns):bh ns<=1024/\(bh ns:Int)=ao (ak ns):=by
 have h1:=h.size;have h2:=eD (l:=ak ns) fun c hc=>by
  obtain⟨x,hx,rfl⟩:=SY.1 hc;exact(h.node x hx).1.1
 unfold bh;omega
theorem ym {g:Int}{ns:List NodeP}{us:List UtilP}(h:NetOk g ns)(h6:ns.length<=6)(hu:∀u∈us,UtilOk ns u)(h4:us.length<=4){vals:List Int}(hf:bH (ak ns) vals)(j:Nat):
  -18662400000000<=weight ns vals*bt ns (us.take j) vals/\weight ns vals*bt ns (us.take j) vals<=18662400000000:=by
 obtain⟨a,b⟩:=CJ h h6 hf;obtain⟨c,d⟩:=mM hu h4 vals j;generalize weight ns vals=w at *
 generalize bt ns (us.take j) vals=u at *
 constructor
 ·have h1:w*(-400)<=w*u:=Tb c a;omega
 ·have h1:w*u<=w*400:=Tb d a;omega
theorem CK {g:Int}{ns:List NodeP}{us:List UtilP}(h:NetOk g ns)(h6:ns.length<=6)(hu:∀u∈us,UtilOk ns u)(h4:us.length<=4):∀k:Nat,-(18662400000000*k:Int)<=fK ns us k/\fK ns us k<=18662400000000*k:=by
 intro k
 induction k with
 |zero=>simp[fK]
 |succ k ih =>
  rw[yb];have h1:∀c∈ak ns,1<=c:=fun c hc=>by
   obtain⟨x,hx,rfl⟩:=SY.1 hc;exact(h.node x hx).1.1
  have:=ym h h6 hu h4 (kM h1 k) us.length;rw[SH (Nat.le_refl _)]at this
  push_cast
  omega
theorem CL {d:InfP}(h6:d.nodes.length<=6)(p:List (List Int)):Do d p:=by
 intro hok hp k hk;have hn:=vr hok (po hp);have:=CK hn (by rw[dB];exact h6) (us:=d.utils) (fun u hu=>vu (hok.utils.2 u hu)) hok.utils.1 k;have hw:=(uX hn).1;rw[sP]at hw;omega
theorem yp {d:InfP}{q:List (List Int)}(hok:InfOk d)(hq:PolOk d q):ke d q=dV (bW d q) (d.grain ^ d.nodes.length):=by
 unfold ke;rw[SK (nW hok hq)]
def SS (n:Nat)(f:Nat->Int):Int:=((List.range n).map f).sum
theorem sD (f:Nat->Int):SS 0 f=0:=rfl
theorem gS (n:Nat)(f:Nat->Int):SS (n+1) f=SS n f+f n:=by unfold SS;rw[TZ];simp
theorem oV {n:Nat}{f g:Nat->Int}(h:∀i,i<n->f i=g i):SS n f=SS n g:=by
 unfold SS;congr 1;exact Th fun i hi=>h i (Tn.1 hi)
theorem OI (n:Nat)(f g:Nat->Int):SS n (fun i=>f i+g i)=SS n f+SS n g:=by
 induction n with
 |zero=>rfl
 |succ n ih=>rw[gS,gS,gS,ih];omega
theorem Cg (n:Nat):SS n (fun _=>0)=0:=by
 induction n with
 |zero=>rfl
 |succ n ih=>rw[gS,ih];rfl
theorem OJ (n m:Nat)(f:Nat->Nat->Int):SS n (fun i=>SS m (f i))=SS m (fun j=>SS n fun i=>f i j):=by
 induction n with
 |zero=>simp only[sD];rw[Cg]
 |succ n ih=>simp only[gS];rw[ih,OI]
theorem OK {m a:Nat}(h:a<m)(t:Int):SS m (fun j=>if j=a then t else 0)=t:=by
 induction m with
 |zero=>omega
 |succ m ih =>
  rw[gS];by_cases e:a=m
  ·subst e;rw[SK rfl,oV (g:=fun _=>0) fun i hi=>SI (by omega),Cg];omega
  ·rw[ih (by omega),SI (fun h=>e h.symm)];omega
theorem OL {n:Nat}{f g:Nat->Int}(h:∀i,i<n->f i<=g i):SS n f<=SS n g:=by
 induction n with
 |zero=>exact Int.le_refl _
 |succ n ih =>
  rw[gS,gS];have:=ih fun i hi=>h i (by omega);have:=h n (by omega);omega
theorem OM {n:Nat}{f g:Nat->Int}(h:∀i,i<n->f i<=g i){a:Nat}(ha:a<n)(hl:f a<g a):SS n f<SS n g:=by
 induction n with
 |zero=>omega
 |succ n ih =>
  rw[gS,gS];by_cases e:a=n
  ·subst e;have:=OL (n:=a) fun i hi=>h i (by omega);omega
  ·have:=ih (fun i hi=>h i (by omega)) (by omega);have:=h n (by omega);omega
theorem ON (ns:List NodeP)(us:List UtilP)(k:Nat):fK ns us k=SS k fun i=>weight ns (aR (ak ns) i)*bt ns us (aR (ak ns) i):=rfl
def j8 (d:InfP)(vals:List Int)(v:Nat):Int:=if d.decs.testBit v=true then d.grain else mA d.nodes vals v
def eT (d:InfP)(vals:List Int):Int:=ao ((List.range d.nodes.length).map (j8 d vals))
def fL (d:InfP)(vals:List Int):Int:=eT d vals*bt d.nodes d.utils vals
def dk (ns:List NodeP)(v:Nat)(vals:List Int):Nat:=match ns[v]? with
 |some x=>(bJ (aP ns x) (aI vals x.parents)).toNat
 |none=>0
def jJ (d:InfP)(c:Nat->Nat->Int)(vals:List Int)(v:Nat):Bool:=decide (c (aU d.decs v) (dk d.nodes v vals)=vals.getD v 0)
def iO (d:InfP)(c:Nat->Nat->Int)(vals:List Int):Bool:=(az d).all (jJ d c vals)
def fM (d:InfP)(c:Nat->Nat->Int)(v0:Nat)(vals:List Int):Bool:=(az d).all fun v=>decide (v=v0) ||jJ d c vals v
theorem OO {l:List Int}(h:(0:Int)∈l):ao l=0:=by
 induction l with
 |nil=>cases h
 |cons x l ih =>
  rw[jf];rcases List.mem_cons.1 h with rfl|h
  ·rw[V6]
  ·rw[ih h,VD]
theorem OP {g card a b:Int}(ha:0<=a/\a<card)(hb:0<=b/\b<card):(bI g card a).getD b.toNat 0=if a=b then g else 0:=by
 unfold bI;rw[S2,TM];by_cases h:a=b
 ·subst h;rw[SK rfl,SK (by rw[S6];omega),SK rfl];rfl
 ·rw[SI (by omega),SI h,TH,SK (by omega)];rfl
theorem Ci (d:InfP)(c:Nat->Nat->Int)(us:List UtilP)(vals:List Int):bt (bG d c) us vals=bt d.nodes us vals:=by
 unfold bt lQ;rw[kg]
theorem mB {d:InfP}(hok:InfOk d){v:Nat}{x:NodeP}(hx:d.nodes[v]?=some x){vals:List Int}(hf:bH (ak d.nodes) vals):(dk d.nodes v vals:Int)=bJ (aP d.nodes x) (aI vals x.parents)/\dk d.nodes v vals<bB d.nodes x:=by
 have hpl:bO x.parents d.nodes.length:=by
  have:=(hok.net.node _ (SE (eW (c:=fun _ _=>0) hx))).2;rw[(gD ..).2,dB]at this;exact this
 have hin:eF x.parents d.nodes.length:=fun q hq=>by have:=hpl.2 q hq;omega
 have hr:=jZ (pr hin hf);unfold dk bB;rw[hx];simp only;omega
theorem Cj {d:InfP}(hok:InfOk d){c:Nat->Nat->Int}(hc:vp d c){vals:List Int}(hf:bH (ak d.nodes) vals){v:Nat}(hv:v<d.nodes.length):
  mA (bG d c) vals v=if d.decs.testBit v=true/\jJ d c vals v=false then 0 else j8 d vals v:=by
 obtain⟨x,hx⟩:=get_of_lt hv;unfold mA;rw[eW hx];simp only;unfold nS;rw[pj,(gD ..).2];show ((fa d c (az d).length v x).rows.getD (bJ (aP d.nodes (fa d c (az d).length v x)) (aI vals x.parents)).toNat []).getD (vals.getD v 0).toNat 0=_;have hpc:aP d.nodes (fa d c (az d).length v x)=aP d.nodes x:=by unfold aP;rw[(gD ..).2]
 rw[hpc];obtain⟨r1,r2⟩:=mB hok hx hf;have hri:dk d.nodes v vals=(bJ (aP d.nodes x) (aI vals x.parents)).toNat:=by unfold dk;rw[hx]
 rw[<- hri];obtain⟨a,ha⟩:=get_of_lt (l:=vals) (i:=v) (by rw[hf.1,cC];exact hv);have hab:=hf.2 v x.card a (dm hx) ha;by_cases hb:d.decs.testBit v=true
 ·have hcc:=hc _ v (dk d.nodes v vals) x (n9 hx hb) hx r2;have hrows:(fa d c (az d).length v x).rows=di d.grain d.nodes c (aU d.decs v) x:=by
   rw[lg hx hb];show x.rows++_=_;rw[(hok.n.dec v x hx hb).1,List.nil_append]
  have hrow:(di d.grain d.nodes c (aU d.decs v) x).getD (dk d.nodes v vals) []=bI d.grain x.card (c (aU d.decs v) (dk d.nodes v vals)):=by
   unfold di;rw[S2,List.getElem?_map,Tc r2];rfl
  rw[hrows,hrow,bp ha,OP hcc hab];unfold jJ j8;rw[bp ha,SK hb];by_cases he:c (aU d.decs v) (dk d.nodes v vals)=a
  ·rw[SK he,SI (by simp[he])]
  ·rw[SI he,SK ⟨hb,by simp[he]⟩]
 ·rw[kh hb,SI fun h=>hb h.1];unfold j8 mA;rw[SI hb,hx];simp only;unfold nS;rw[<- hri]
theorem Ck {d:InfP}(hok:InfOk d){c:Nat->Nat->Int}(hc:vp d c){vals:List Int}(hf:bH (ak d.nodes) vals):
  weight (bG d c) vals=if iO d c vals=true then eT d vals else 0:=by
 unfold weight fy;rw[dB];by_cases h:iO d c vals=true
 ·rw[SK h];unfold eT;congr 1;refine Th fun v hv=>?_;have hv':=Tn.1 hv;rw[Cj hok hc hf hv',SI];rintro⟨hb,ha⟩;unfold iO at h;have:=Td.1 h v (eI.2 ⟨hv',hb⟩);rw[ha]at this;cases this
 ·rw[SI h];refine OO ?_;unfold iO at h;rw[Td]at h;obtain⟨v,hv⟩:=We.1 h;obtain⟨hvm,hva⟩:=Classical.not_imp.1 hv;obtain⟨v1,v2⟩:=eI.1 hvm;refine SY.2 ⟨v,Tn.2 v1,?_⟩;rw[Cj hok hc hf v1,SK ⟨v2,by simpa using hva⟩]
def wv (d:InfP)(w:Nat):List Int:=aR (ak d.nodes) w
theorem mC {d:InfP}(hok:InfOk d)(w:Nat):bH (ak d.nodes) (wv d w):=kM (fun c hc=>by
 obtain⟨x,hx,rfl⟩:=SY.1 hc;exact(hok.n.card x hx).1) _
def iP (d:InfP)(c:Nat->Nat->Int):Int:=SS (bh d.nodes) fun w=>if iO d c (wv d w)=true then fL d (wv d w) else 0
theorem OQ {d:InfP}(hok:InfOk d){p:List (List Int)}(hp:PolOk d p):bW d p=iP d (fixC p):=by
 unfold bW iP;rw[ON];refine oV fun w _=>?_;rw[kg,Ci];show weight (bG d (fixC p)) (wv d w)*bt d.nodes d.utils (wv d w)=_;rw[Ck hok (po hp) (mC hok w)];show (if iO d (fixC p) (wv d w)=true then eT d (wv d w) else 0)*bt d.nodes d.utils (wv d w)=_;by_cases h:iO d (fixC p) (wv d w)=true
 ·rw[SK h,SK h];rfl
 ·rw[SI h,SI h,V6]
def eJ (d:InfP)(c:Nat->Nat->Int)(v0 r:Nat)(x:Int):Int :=
 SS (bh d.nodes) fun w=>if fM d c v0 (wv d w)=true/\dk d.nodes v0 (wv d w)=r/\(wv d w).getD v0 0=x then fL d (wv d w) else 0
theorem yc {d:InfP}{c:Nat->Nat->Int}{v0:Nat}(hv:v0∈az d)(vals:List Int):iO d c vals=true↔fM d c v0 vals=true/\c (aU d.decs v0) (dk d.nodes v0 vals)=vals.getD v0 0:=by
 unfold iO fM;rw[Td,Td];constructor
 ·intro h;exact⟨fun v hv=>by rw[h v hv];simp,of_decide_eq_true (h v0 hv)⟩
 ·rintro⟨h1,h2⟩ v hvm;have:=h1 v hvm;rw[T7,decide_eq_true_eq]at this;rcases this with rfl|h
  ·exact Tm h2
  ·exact h
theorem Cl {d:InfP}(hok:InfOk d){c:Nat->Nat->Int}{v0:Nat}{x0:NodeP}(hx:d.nodes[v0]?=some x0)(hb:d.decs.testBit v0=true):
  iP d c=SS (bB d.nodes x0) fun r=>eJ d c v0 r (c (aU d.decs v0) r):=by
 unfold iP eJ;rw[OJ];refine oV fun w _=>?_;obtain⟨_,r2⟩:=mB hok hx (mC hok w);have hv:v0∈az d:=eI.2 ⟨get_lt hx,hb⟩;have e:∀r,r<bB d.nodes x0->(if fM d c v0 (wv d w)=true/\dk d.nodes v0 (wv d w)=r/\(wv d w).getD v0 0=c (aU d.decs v0) r then fL d (wv d w) else 0)=if r=dk d.nodes v0 (wv d w) then (if iO d c (wv d w)=true then fL d (wv d w) else 0) else 0:=fun r _=>by
  by_cases h:r=dk d.nodes v0 (wv d w)
  ·subst h;rw[SK rfl];by_cases ha:iO d c (wv d w)=true
   ·obtain⟨a1,a2⟩:=(yc hv _).1 ha;rw[SK ha,SK ⟨a1,rfl,a2.symm⟩]
   ·rw[SI ha,SI fun h=>ha ((yc hv _).2 ⟨h.1,h.2.2.symm⟩)]
  ·rw[SI h,SI fun h'=>h h'.2.1.symm]
 rw[oV e,OK r2]
theorem OS {d:InfP}{c c':Nat->Nat->Int}{v0:Nat}(h:∀v∈az d,v≠v0->∀r,c (aU d.decs v) r=c' (aU d.decs v) r)(r:Nat)(x:Int):eJ d c v0 r x=eJ d c' v0 r x:=by
 have e:∀vals,fM d c v0 vals=fM d c' v0 vals:=fun vals=>by
  unfold fM;rw[UR,Td,Td];have hk:∀v∈az d,(decide (v=v0) ||jJ d c vals v)=(decide (v=v0) ||jJ d c' vals v):=fun v hv=>by
   by_cases hvv:v=v0
   ·simp[hvv]
   ·unfold jJ;rw[h v hv hvv]
  exact⟨fun h1 v hv=>by rw[<- hk v hv];exact h1 v hv,fun h1 v hv=>by rw[hk v hv];exact h1 v hv⟩
 unfold eJ;exact oV fun w _=>by rw[e]
def fB:List Int->Int
 | []=>0
 |a :: l=>l.foldl max a
theorem foldl_max (l:List Int):∀a,a<=l.foldl max a/\(∀x∈l,x<=l.foldl max a)/\(l.foldl max a=a\/l.foldl max a∈l):=by
 induction l with
 |nil=>exact fun a=>⟨Int.le_refl _,fun x h=>(by cases h),.inl rfl⟩
 |cons b l ih =>
  intro a;obtain⟨h1,h2,h3⟩:=ih (max a b);simp only[Ts];refine⟨by omega,fun x hx=>?_,?_⟩
  ·rcases List.mem_cons.1 hx with rfl|hx
   ·omega
   ·exact h2 x hx
  ·rcases h3 with h3|h3
   ·rw[h3];rcases Int.le_total a b with h|h
    ·rw[Int.max_eq_right h];exact .inr (by simp)
    ·rw[Int.max_eq_left h];exact .inl rfl
   ·exact .inr (by simp[h3])
theorem Cm {l:List Int}{x:Int}(h:x∈l):x<=fB l:=by
 cases l with
 |nil=>cases h
 |cons a l =>
  obtain⟨h1,h2,_⟩:=foldl_max l a;rcases List.mem_cons.1 h with rfl|h
  ·exact h1
  ·exact h2 x h
theorem uM {l:List Int}(h:l≠[]):fB l∈l:=by
 cases l with
 |nil=>exact absurd rfl h
 |cons a l =>
  rcases(foldl_max l a).2.2 with h|h
  ·show l.foldl max a∈_;rw[h];simp
  ·exact UN _ h
def il (d:InfP)(c:Nat->Nat->Int)(v0 r:Nat)(n:Nat):List Int:=(List.range n).map fun (x:Nat)=>eJ d c v0 r (x:Int)
theorem uN {d:InfP}{c:Nat->Nat->Int}{v0 r n x:Nat}(h:x<n):(il d c v0 r n)[x]?=some (eJ d c v0 r (x:Int)):=by unfold il;rw[List.getElem?_map,Tc h];rfl
theorem uO (d:InfP)(c:Nat->Nat->Int)(v0 r n:Nat):(il d c v0 r n).length=n:=by simp[il]
def bT (d:InfP)(v:Nat):Nat:=(dq d v).1.toNat
def bV (d:InfP)(v:Nat):Nat:=(dq d v).2.toNat
def jK (d:InfP)(c:Nat->Nat->Int)(v r:Nat):Int:=fB (il d c v r (bV d v))
def cU (d:InfP)(c:Nat->Nat->Int)(v:Nat):List Int:=(List.range (bT d v)).map fun r=>(((il d c v r (bV d v)).idxOf (jK d c v r):Nat):Int)
def dZ (d:InfP)(p:List (List Int))(v:Nat):Prop:=∀r,r<bT d v->eJ d (fixC p) v r (fixC p (aU d.decs v) r)=jK d (fixC p) v r
instance (d:InfP)(p:List (List Int))(v:Nat):Decidable (dZ d p v):=by unfold dZ;infer_instance
theorem kT {d:InfP}{v:Nat}{x:NodeP}(hx:d.nodes[v]?=some x)(hc:0<=x.card):bT d v=bB d.nodes x/\(bV d v:Int)=x.card:=by
 unfold bT bV dq;rw[hx];simp only[Int.toNat_natCast];exact⟨trivial,by omega⟩
theorem yd {d:InfP}(hok:InfOk d)(c:Nat->Nat->Int){v:Nat}(hv:v∈az d){r:Nat}(hr:r<bT d v):
  ∃b:Nat,(cU d c v)[r]?=some (b:Int)/\b<bV d v/\eJ d c v r (b:Int)=jK d c v r:=by
 obtain⟨v1,v2⟩:=eI.1 hv;have hrc:=kU hok v1 v2;have hn:1<=bV d v:=by unfold bV;omega
 have hne:il d c v r (bV d v)≠[]:=fun h=>by
  have:=uO d c v r (bV d v);rw[h]at this;simp at this;omega
 have hm:=uM hne;have hlt:=VN hm;have hget:=List.getElem_idxOf hlt;have hlt2:(il d c v r (bV d v)).idxOf (fB (il d c v r (bV d v)))<bV d v:=by have:=uO d c v r (bV d v);omega
 refine⟨_,by unfold cU;rw[List.getElem?_map,Tc hr];rfl,hlt2,?_⟩;have h2:=uN (d:=d) (c:=c) (v0:=v) (r:=r) hlt2;rw[SJ hlt,hget]at h2;exact(Option.some.inj h2).symm
theorem qk (d:InfP)(c:Nat->Nat->Int)(v:Nat):(cU d c v).length=bT d v:=by simp[cU]
theorem uQ {p:List (List Int)}{k:Nat}(hk:k<p.length)(l:List Int)(k' r:Nat):fixC (p.set k l) k' r=if k'=k then l.getD r 0 else fixC p k' r:=by
 unfold fixC;rw[S2 (l:=p.set k l),TM];by_cases h:k=k'
 ·subst h;rw[SK rfl,SK hk,SK rfl];rfl
 ·rw[SI h,SI fun e=>h e.symm,S2 (l:=p)]
theorem Cn {d:InfP}{v w:Nat}(hv:v∈az d)(hw:w∈az d)(h:aU d.decs v=aU d.decs w):v=w:=by
 obtain⟨v1,v2⟩:=eI.1 hv;obtain⟨w1,w2⟩:=eI.1 hw;have a:=kQ v1 v2;have b:=kQ w1 w2;rw[h,b]at a;exact(Option.some.inj a).symm
theorem nU {d:InfP}{p:List (List Int)}(hp:PolOk d p){v:Nat}(hv:v∈az d):aU d.decs v<p.length:=by
 obtain⟨v1,v2⟩:=eI.1 hv;rw[hp.len];exact get_lt (kQ v1 v2)
theorem Co {d:InfP}{p:List (List Int)}(hp:PolOk d p){v:Nat}{x:NodeP}(hx:d.nodes[v]?=some x)(hb:d.decs.testBit v=true){l:List Int}(hl:l.length=bB d.nodes x)(ha:∀a∈l,0<=a/\a<x.card):PolOk d (p.set (aU d.decs v) l):=by
 have hd:=n9 hx hb;refine⟨by rw[SO];exact hp.len,fun k w y l' hw hy hl'=>?_⟩;by_cases h:aU d.decs v=k
 ·subst h;rw[hd]at hw;cases hw;rw[hx]at hy;cases hy;rw[SX (by rw[hp.len];exact get_lt hd)]at hl';cases hl';exact⟨hl,ha⟩
 ·rw[S3 h]at hl';exact hp.row k w y l' hw hy hl'
theorem OT {d:InfP}(hok:InfOk d){p:List (List Int)}(hp:PolOk d p){v:Nat}(hv:v∈az d):PolOk d (p.set (aU d.decs v) (cU d (fixC p) v)):=by
 obtain⟨v1,v2⟩:=eI.1 hv;obtain⟨x,hx⟩:=get_of_lt v1;have hc:=hok.n.card x (SE hx);obtain⟨n1,n2⟩:=kT hx (by omega);refine Co hp hx v2 (by rw[qk,n1]) fun a ha=>?_;obtain⟨r,hr⟩:=SW.1 ha;obtain⟨b,h1,h2,_⟩:=yd hok (fixC p) hv (r:=r) (by have:=get_lt hr;rwa [qk]at this);rw[h1]at hr;cases hr;omega
theorem OU {d:InfP}(hok:InfOk d){p:List (List Int)}(hp:PolOk d p){v:Nat}(hv:v∈az d)(l:List Int):iP d (fixC (p.set (aU d.decs v) l))=SS (bT d v) fun r=>eJ d (fixC p) v r (l.getD r 0):=by
 obtain⟨v1,v2⟩:=eI.1 hv;obtain⟨x,hx⟩:=get_of_lt v1;have hc:=hok.n.card x (SE hx);obtain⟨n1,_⟩:=kT hx (by omega);rw[Cl hok hx v2,n1];refine oV fun r _=>?_;rw[uQ (nU hp hv),SK rfl];exact OS (fun w hw hne r=>by
  rw[uQ (nU hp hv),SI fun e=>hne (Cn hw hv e)]) _ _
theorem OV {d:InfP}(hok:InfOk d)(p:List (List Int)){v:Nat}(hv:v∈az d):iP d (fixC p)=SS (bT d v) fun r=>eJ d (fixC p) v r (fixC p (aU d.decs v) r):=by
 obtain⟨v1,v2⟩:=eI.1 hv;obtain⟨x,hx⟩:=get_of_lt v1;have hc:=hok.n.card x (SE hx);obtain⟨n1,_⟩:=kT hx (by omega);rw[Cl hok hx v2,n1]
theorem Cp {d:InfP}(c:Nat->Nat->Int)(v r:Nat){a:Int}(ha:0<=a/\a<bV d v):eJ d c v r a<=jK d c v r:=by
 obtain⟨b,rfl⟩:=SR ha.1;exact Cm (SE (uN (d:=d) (c:=c) (v0:=v) (r:=r) (n:=bV d v) (by omega)))
theorem Cq {d:InfP}(hok:InfOk d){p:List (List Int)}(hp:PolOk d p){v r:Nat}(hv:v∈az d)(hr:r<bT d v):0<=fixC p (aU d.decs v) r/\fixC p (aU d.decs v) r<bV d v:=by
 obtain⟨v1,v2⟩:=eI.1 hv;obtain⟨x,hx⟩:=get_of_lt v1;have hc:=hok.n.card x (SE hx);obtain⟨n1,n2⟩:=kT hx (by omega);rw[n2];exact po hp _ v r x (n9 hx v2) hx (by omega)
theorem OW {d:InfP}(hok:InfOk d){p:List (List Int)}(hp:PolOk d p){v:Nat}(hv:v∈az d)(h:¬dZ d p v):iP d (fixC p)<iP d (fixC (p.set (aU d.decs v) (cU d (fixC p) v))):=by
 rw[OU hok hp hv,OV hok p hv];have hle:∀r,r<bT d v->eJ d (fixC p) v r (fixC p (aU d.decs v) r)<=eJ d (fixC p) v r ((cU d (fixC p) v).getD r 0):=fun r hr=>by
  obtain⟨b,h1,_,h3⟩:=yd hok (fixC p) hv hr;rw[bp h1,h3];exact Cp _ _ _ (Cq hok hp hv hr)
 obtain⟨r,hr⟩:=We.1 h;obtain⟨hr1,hr2⟩:=Classical.not_imp.1 hr;refine OM hle hr1 ?_;obtain⟨b,h1,_,h3⟩:=yd hok (fixC p) hv hr1;have:=Cp (d:=d) (fixC p) v r (Cq hok hp hv hr1);rw[bp h1,h3];omega
def isLocal (d:InfP)(p:List (List Int)):Prop:=∀v∈az d,dZ d p v
instance (d:InfP)(p:List (List Int)):Decidable (isLocal d p):=by unfold isLocal;infer_instance
def oY (d:InfP)(p:List (List Int))(v:Nat):List (List Int):=if dZ d p v then p else p.set (aU d.decs v) (cU d (fixC p) v)
end Go.Proofs
