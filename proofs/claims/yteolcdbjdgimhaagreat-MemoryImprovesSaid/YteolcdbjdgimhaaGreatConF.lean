/-
  What the laws of this chapter have in common at their doors: the parameters. No conditions.
-/
import Derived.Test.YteolcdbjdgimhaaGreatRows
import Derived.Test.YteolcdbjdgimhaaGreatConE
import Derived.Test.YteolcdbjdgimhaaGreatLibB
import Derived.ProofKit
import Derived.Test.YteolcdbjdgimhaaGreatConB
set_option linter.all false
set_option maxHeartbeats 8000000
set_option maxRecDepth 100000
namespace Go.Proofs.YteolcdbjdgimhaaGreat
open Go.ChangeShapes Go.WideShapes Go.ChangeAt Go.RowKit Go.Hx
theorem Tryz.own:ownKnob Tryz.prog.godebug=none:=by kernel_rfl
theorem Tryz.laidOut:laidOutB Tryz.prog=true:=by kernel_rfl
theorem Tryz.LA:Tryz.prog.underlying 4=some .bool:=by kernel_rfl
section
variable {W:World} {H:Type} {enc:TypeId × Value->H} {spare:Nat->Bool} {held:Bool}
theorem nD {n:Nat}(h:n<=maxLen):(n:Int)<2 ^ 63:=by
 have:maxLen=9223372036854775807:=by decide
 omega
theorem mw {n:Int}(h:(Lit.int .u8 n).wf=true):U8 n:=by
 have:=wf_u8 h;unfold U8;omega
theorem LB:fG enc Tryz.prog W spare held 143 fun _ zs=>∃x:DrP,zs=x.cells/\x.Ok:=by
 have hu:=Tryz.underlying143;have c1:=Tryz.nH;have c2:=Tryz.xJ;refine(pV (φ:=fun i _ xs=>if i=2 then ∃l:List Int,xs=[.vec l.length (lG .u8 l)]/\l.length<=maxLen/\∀c,c∈l->(Lit.int .u8 c).wf=true else ∃n,xs=[.lit (.int .u8 n)]/\(Lit.int .u8 n).wf=true) hu
  (fun cs hcs=>by
   have hc:Tryz.prog.cellsOf 143=3:=(by kernel_rfl);rw[hc]at hcs
   match cs,hcs with
   | [a,b,c],_=>simp[c1,c2])
  (fun i hi=>match i,hi with
   |0,_=>(jE Tryz.underlying5).mono fun _ _ ⟨n,_,h,w⟩=>⟨n,h,w⟩
   |1,_=>(jE Tryz.underlying5).mono fun _ _ ⟨n,_,h,w⟩=>⟨n,h,w⟩
   |2,_=>(rA Tryz.underlying23 Tryz.underlying5 c1).mono fun _ _ h=>h)).mono fun d zs ⟨ds,rows,_,e,hl1,hl2,hall⟩=>?_
 match rows,ds,hl2,hl1,hall with
 | [x,y,z],[d0,d1,d2],_,_,hall =>
  obtain⟨n0,e0,w0⟩:=hall 0 (by simp) (by simp);obtain⟨n1,e1,w1⟩:=hall 1 (by simp) (by simp);obtain⟨l,e2,w2,w3⟩:=hall 2 (by simp) (by simp);simp only[Tp,T5]at e0 e1 e2;subst e0;subst e1;subst e2;refine⟨⟨n0,n1,l⟩,by rw[e];rfl,?_⟩;exact⟨mw w0,mw w1,nD w2,fun c hc=>mw (w3 c hc)⟩
theorem wf_i8 {n:Int}(h:(Lit.int .i8 n).wf=true):I8 n:=by
 have:-128<=n/\n<=127:=by simpa[Lit.wf,IntKind.min,IntKind.max,IntKind.signed,IntKind.bits] using h
 unfold I8;omega
theorem LC:fG enc Tryz.prog W spare held 93 fun _ zs=>∃x:UtD,zs=x.cells/\x.Ok:=by
 have hu:=Tryz.underlying93;have c1:=Tryz.nH;have c2:=Tryz.BF;have c3:=Tryz.BL;refine(pV (φ:=fun i _ xs=>if i=1 then ∃l:List Int,xs=[.vec l.length (lG .i8 l)]/\l.length<=maxLen/\∀c,c∈l->(Lit.int .i8 c).wf=true else ∃n,xs=[.lit (.int .u8 n)]/\(Lit.int .u8 n).wf=true) hu
  (fun cs hcs=>by
   have hc:Tryz.prog.cellsOf 93=2:=(by kernel_rfl);rw[hc]at hcs
   match cs,hcs with
   | [a,b],_=>simp[c1,c2])
  (fun i hi=>match i,hi with
   |0,_=>(jE Tryz.underlying5).mono fun _ _ ⟨n,_,h,w⟩=>⟨n,h,w⟩
   |1,_=>(rA Tryz.underlying91 Tryz.underlying147 c3).mono fun _ _ h=>h)).mono fun d zs ⟨ds,rows,_,e,hl1,hl2,hall⟩=>?_
 match rows,ds,hl2,hl1,hall with
 | [x,y],[d0,d1],_,_,hall =>
  obtain⟨n0,e0,w0⟩:=hall 0 (by simp) (by simp);obtain⟨l,e2,w2,w3⟩:=hall 1 (by simp) (by simp);simp only[Tp,T5]at e0 e2;subst e0;subst e2;refine⟨⟨n0,l⟩,by rw[e];rfl,?_⟩;exact⟨mw w0,nD w2,fun c hc=>wf_i8 (w3 c hc)⟩
theorem Bs {α:Type}{t e:TypeId}{f:α->List AVal}{q:α->Prop}(ht:Tryz.prog.underlying t=some (.slice e))(hz:0<Tryz.prog.cellsOf e)(he:fG enc Tryz.prog W spare held e fun _ zs=>∃x:α,zs=f x/\q x):
  fG enc Tryz.prog W spare held t fun _ zs=>∃l:List α,zs=[.vec l.length (l.map f).flatten]/\l.length<=maxLen/\∀x∈l,q x :=
 (wD ht hz he).mono fun d zs h=>by
  rcases h with ⟨_,rfl⟩|⟨ds,rest,rows,_,rfl,hr,_,hl⟩
  ·exact⟨[],rfl,UF _,fun c h=>by cases h⟩
  ·obtain⟨l,rfl,hq⟩:=wE (f:=f) (q:=q) (fun d zs h=>h) hr;exact⟨l,by rw[SM],by simpa using hl,hq⟩
theorem LD:fG enc Tryz.prog W spare held 25 fun _ zs=>∃(g:Int) (ps:List DrP) (ord:List Int),zs=[.lit (.int .u8 g),.vec ps.length (fZ ps),.vec ord.length (bZ ord)]/\U8 g/\(∀x∈ps,x.Ok)/\(ps.length:Int)<2 ^ 63/\(ord.length:Int)<2 ^ 63/\∀x∈ord,U8 x:=by
 have hu:=Tryz.underlying25;have c1:=Tryz.nH;have c2:=Tryz.xJ;have c3:=Tryz.By;have c4:=Tryz.BK;refine(pV (φ:=fun i _ xs=>if i=2 then ∃l:List Int,xs=[.vec l.length (lG .u8 l)]/\l.length<=maxLen/\∀c,c∈l->(Lit.int .u8 c).wf=true else if i=1 then ∃l:List DrP,xs=[.vec l.length (l.map DrP.cells).flatten]/\l.length<=maxLen/\∀x∈l,x.Ok else ∃n,xs=[.lit (.int .u8 n)]/\(Lit.int .u8 n).wf=true) hu
  (fun cs hcs=>by
   have hc:Tryz.prog.cellsOf 25=3:=(by kernel_rfl);rw[hc]at hcs
   match cs,hcs with
   | [a,b,c],_=>simp[c1,c2,c3])
  (fun i hi=>match i,hi with
   |0,_=>(jE Tryz.underlying5).mono fun _ _ ⟨n,_,h,w⟩=>⟨n,h,w⟩
   |1,_=>(Bs Tryz.underlying22 (by rw[c4];decide) LB).mono fun _ _ h=>h
   |2,_=>(rA Tryz.underlying23 Tryz.underlying5 c1).mono fun _ _ h=>h)).mono fun d zs ⟨ds,rows,_,e,hl1,hl2,hall⟩=>?_
 match rows,ds,hl2,hl1,hall with
 | [x,y,z],[d0,d1,d2],_,_,hall =>
  obtain⟨n0,e0,w0⟩:=hall 0 (by simp) (by simp);obtain⟨ps,e1,w1,w1'⟩:=hall 1 (by simp) (by simp);obtain⟨l,e2,w2,w3⟩:=hall 2 (by simp) (by simp);simp only[Tp,T5]at e0 e1 e2;subst e0;subst e1;subst e2;exact⟨n0,ps,l,by rw[e];rfl,mw w0,w1',nD w1,nD w2,fun c hc=>mw (w3 c hc)⟩
theorem LF:fG enc Tryz.prog W spare held 28 fun _ zs=>∃d:D20,zs=d.cells/\d.Ok:=by
 have hu:=Tryz.underlying28;have c1:=Tryz.nH;have c2:=Tryz.Bx;have c3:=Tryz.Bz;have c4:=Tryz.BA;have c5:=Tryz.BG;refine(pV (φ:=fun i _ xs=>if i=0 then ∃(g:Int) (ps:List DrP) (ord:List Int),xs=[.lit (.int .u8 g),.vec ps.length (fZ ps),.vec ord.length (bZ ord)]/\U8 g/\(∀x∈ps,x.Ok)/\(ps.length:Int)<2 ^ 63/\(ord.length:Int)<2 ^ 63/\∀x∈ord,U8 x
   else if i=1 then ∃n,xs=[.lit (.int .u8 n)]/\(Lit.int .u8 n).wf=true else if i=2 then ∃b,xs=[.lit (.bool b)] else ∃l:List UtD,xs=[.vec l.length (l.map UtD.cells).flatten]/\l.length<=maxLen/\∀x∈l,x.Ok) hu
  (fun cs hcs=>by
   have hc:Tryz.prog.cellsOf 28=6:=(by kernel_rfl);rw[hc]at hcs
   match cs,hcs with
   | [a,b,c,d,e,f],_=>simp[c1,c2,c3,c4])
  (fun i hi=>match i,hi with
   |0,_=>LD.mono fun _ _ h=>h
   |1,_=>(jE Tryz.underlying5).mono fun _ _ ⟨n,_,h,w⟩=>⟨n,h,w⟩
   |2,_=>(FK Tryz.underlying4).mono fun _ _ ⟨n,_,h⟩=>⟨n,h⟩
   |3,_=>(Bs Tryz.underlying26 (by rw[c5];decide) LC).mono fun _ _ h=>h)).mono fun d zs ⟨ds,rows,_,e,hl1,hl2,hall⟩=>?_
 match rows,ds,hl2,hl1,hall with
 | [x,y,z,u],[d0,d1,d2,d3],_,_,hall =>
  obtain⟨g,ps,ord,e0,w0,w0',w0'',w0''',w04⟩:=hall 0 (by simp) (by simp);obtain⟨n1,e1,w1⟩:=hall 1 (by simp) (by simp);obtain⟨b,e2⟩:=hall 2 (by simp) (by simp);obtain⟨us,e3,w3,w3'⟩:=hall 3 (by simp) (by simp);simp only[Tp,T5]at e0 e1 e2 e3;subst e0;subst e1;subst e2;subst e3;exact⟨⟨g,ps,ord,n1,b,us⟩,by rw[e];rfl,⟨w0,w0',w0'',w0''',w04,mw w1,w3',nD w3⟩⟩
theorem LG {r:Reach}{b:Nat}{v:Value}{d:DataW H}{ps:List MemPlace}(hval:Value.okWide Tryz.prog W r b 28 v)(hd:DataW.Trod enc Tryz.prog W 0 spare held 28 v d ps):
  ∃x:D20,RelV Tryz.prog iA cz W (.agg x.cells) v/\x.Ok:=by
 obtain⟨xs,h1,x,rfl,h2⟩:=AI LF (.inl ⟨_,Tryz.underlying28⟩) hval hd;exact⟨x,h1,h2⟩
theorem LH {r:Reach}{b:Nat}{v:Value}{d:DataW H}{ps:List MemPlace}(hval:Value.okWide Tryz.prog W r b 23 v)(hd:DataW.Trod enc Tryz.prog W 0 spare held 23 v d ps):
  ∃l:List Int,RelV Tryz.prog iA cz W (.vec l.length (bZ l)) v/\(l.length:Int)<2 ^ 63/\∀x∈l,U8 x:=by
 obtain⟨l,h1,h2,h3⟩:=FQ Tryz.underlying23 Tryz.underlying5 Tryz.nH hval hd;exact⟨l,h1,nD h2,fun c hc=>mw (h3 c hc)⟩
end
end Go.Proofs.YteolcdbjdgimhaaGreat
namespace Go.Hx
variable {P:Program}
structure OwnM (lo:Nat)(H:AHeap)(e1 e0:TypeId)(v:AVal)(ids:List Nat)(rows:List (List AVal)):Prop where
 len:ids.length=rows.length
 nd:ids.Nodup
 rng:∀i∈ids,lo<=i/\i<H.next
 top:ay lo H e1 v (List.zipWith (fun i n=>AVal.own i 0 0 n 1) ids (rows.map List.length))
 row:∀(k id:Nat) (r:List AVal),ids[k]?=some id->rows[k]?=some r->H.get id=some (.arr 0 e0 r)
theorem OwnM.nil {lo:Nat}{H:AHeap}{e1 e0:TypeId}:OwnM lo H e1 e0 (.lit (.slice none 0 0)) [] [] :=
 ⟨rfl,.nil,fun i h=>(by cases h),.nil,fun k id r h=>(by simp at h)⟩
theorem OwnM.keep {lo:Nat}{H H':AHeap}{e1 e0:TypeId}{v:AVal}{ids:List Nat}{rows:List (List AVal)}(h:OwnM lo H e1 e0 v ids rows)(hn:H.next<=H'.next)(hk:∀id,lo<=id->id<H.next->H'.get id=H.get id):OwnM lo H' e1 e0 v ids rows :=
 ⟨h.len,h.nd,fun i hi=>⟨(h.rng i hi).1,by have:=(h.rng i hi).2;omega⟩,h.top.keep (Nat.le_refl _) hn fun id _ h1 h2 _ _=>hk id h1 h2,fun k id r h1 h2=>by
  have:=h.rng id (SE h1);rw[hk id this.1 this.2];exact h.row k id r h1 h2⟩
theorem OwnM.app {lo n:Nat}{H:AHeap}{e1 e0:TypeId}{v:AVal}{ids:List Nat}{rows:List (List AVal)}{r:List AVal}{t:TypeId}{z:List AVal}(ht:P.underlying t=some (.slice e1))(hz:P.cellsOf e1=1)(hzero:bR P e1=some z)(hby:P.bytesOf e1=24)(hne:e1≠e0)
  (hb:rows.length<2 ^ 40) (h:OwnM lo H e1 e0 v ids rows) (hlo:lo<=H.next) (hn:n=H.next+2):
  ∃v' H',bM P (ext (ext H [.arr 0 e0 r]) [.arr 0 e1 [.own H.next 0 0 r.length 1]]) n t t v (.own (H.next+1) 0 0 1 1)=some (v',H')/\OwnM lo H' e1 e0 v' (ids++[H.next]) (rows++[r])/\H.next<=H'.next/\(∀k,k<H.next->k<lo->H'.get k=H.get k):=by
 obtain⟨Hb,hHb⟩:∃Hb,Hb=ext H [.arr 0 e0 r]:=⟨_,rfl⟩
 have nb:Hb.next=H.next+1:=hHb▸rfl
 have ob:Over H Hb:=hHb▸.ext _ _
 have gb:=df hHb
 have htop:=h.top.over ob;obtain⟨v',H',hA,hO,hL,hp⟩:=fW (P:=P) (H:=Hb) (t:=t) (x:=.own H.next 0 0 r.length 1) (n:=n) ht hz hzero rfl (by rw[hby];simp[h.len];omega) htop (by omega) (by omega);rw[nb,hHb]at hA;have old:∀id g,lo<=id->id<Hb.next->Hb.get id=some (.arr g e0 r)->H'.get id=Hb.get id:=fun id g h1 h2 h3=>hp id h2 fun g' m he=>by
  rcases htop with ⟨hv,_⟩|⟨i,g2,_,_,hv,h4⟩
  ·rw[hv]at he;cases he
  ·rw[hv]at he;obtain rfl:i=id:=(AVal.own.inj he).1;rw[h4]at h3;cases h3;exact hne rfl
 have oldr:∀id g q,lo<=id->id<Hb.next->Hb.get id=some (.arr g e0 q)->H'.get id=Hb.get id:=fun id g q h1 h2 h3=>hp id h2 fun g' m he=>by
  rcases htop with ⟨hv,_⟩|⟨i,g2,_,_,hv,h4⟩
  ·rw[hv]at he;cases he
  ·rw[hv]at he;obtain rfl:i=id:=(AVal.own.inj he).1;rw[h4]at h3;cases h3;exact hne rfl
 refine⟨v',H',hA,⟨by simp[h.len],List.nodup_append.2 ⟨h.nd,by simp,fun a ha b hb=>by
  obtain rfl:=List.mem_singleton.1 hb;have:=(h.rng a ha).2;omega⟩,fun i hi=>?_,?_,fun k id q h1 h2=>?_⟩,by omega,fun k hk hkl=>?_⟩
 ·rcases S5.1 hi with h1|h1
  ·have:=h.rng i h1;omega
  ·obtain rfl:=List.mem_singleton.1 h1;omega
 ·rw[Tq,List.zipWith_append (by rw[SM];exact h.len)];exact hO
 ·have hk:=Tj.1 h1;obtain⟨hk,_⟩:=hk;rw[List.length_append,T0]at hk;rcases S9 k ids.length with hlt|hge
  ·rw[SU hlt]at h1;rw[SU (by rw[<- h.len];exact hlt)]at h2;have hr:=h.rng id (SE h1);have hg:=h.row k id q h1 h2;rw[oldr id 0 q hr.1 (by omega) ((ob.old id hr.2).trans hg),ob.old id hr.2];exact hg
  ·obtain rfl:k=ids.length:=(by omega);rw[SZ (Nat.le_refl _),Ut]at h1;rw[h.len,SZ (Nat.le_refl _),Ut]at h2;cases h1;cases h2;rw[oldr H.next 0 r hlo (by omega) gb];exact gb
 ·rw[hp k (by omega) fun g m he=>?_,ob.old k hk];rcases htop with ⟨hv,_⟩|⟨i,g2,a1,_,hv,h4⟩
  ·rw[hv]at he;cases he
  ·rw[hv]at he;have:=(AVal.own.inj he).1;omega
theorem OwnM.zm {lo:Nat}{H:AHeap}{e1 e0:TypeId}{v:AVal}{ids:List Nat}{rows:List (List AVal)}(h:OwnM lo H e1 e0 v ids rows)(h0:rows≠[]):∃id g,lo<=id/\id<H.next/\v=.own id g 0 rows.length 1/\H.get id=some (.arr g e1 (List.zipWith (fun i n=>AVal.own i 0 0 n 1) ids (rows.map List.length)))/\(e1≠e0->id ∉ ids):=by
 have hzl:(List.zipWith (fun i n=>AVal.own i 0 0 n 1) ids (rows.map List.length)).length=rows.length:=by simp[h.len]
 rcases h.top with ⟨hv,h4⟩|⟨i,g,a,b,hv,h4⟩
 ·rw[h4]at hzl;exact absurd (SP hzl.symm) h0
 ·refine⟨i,g,a,b,by rw[hv,hzl],h4,fun hne hm=>?_⟩;obtain⟨k,hk⟩:=SW.1 hm;have hkl:k<rows.length:=by rw[<- h.len];exact(Tj.1 hk).1
  have:=h.row k i _ hk (SJ hkl);rw[h4]at this;exact hne (Blk.arr.inj (Option.some.inj this)).2.1
theorem OwnM.store {lo:Nat}{H:AHeap}{e1 e0:TypeId}{v:AVal}{ids:List Nat}{rows:List (List AVal)}(h:OwnM lo H e1 e0 v ids rows)(hne:e1≠e0){k id:Nat}{r r':List AVal}(hk:ids[k]?=some id)(hr:rows[k]?=some r)(hl:r'.length=r.length):OwnM lo (H.upd id (.arr 0 e0 r')) e1 e0 v ids (rows.set k r'):=by
 have hid:=h.rng id (SE hk);have h0:rows≠[]:=fun e=>by rw[e]at hr;simp at hr
 refine⟨by rw[SO];exact h.len,h.nd,fun i hi=>by rw[au];exact h.rng i hi,?_,fun j id' q h1 h2=>?_⟩
 ·have e:(rows.set k r').map List.length=rows.map List.length:=by
   rw[Um,hl];apply Ti;intro i;rw[TM];split
   ·rename_i hi;subst hi;have hkl:=(Tj.1 hr).1;rw[SK (by rw[SM];exact hkl),List.getElem?_map,hr];rfl
   ·rfl
  rw[e];obtain⟨i,g,a,b,_,h4,h5⟩:=h.zm h0;refine h.top.keep (Nat.le_refl _) (by rw[au];exact Nat.le_refl _) fun i2 g2 _ _ h3 _=>?_;rw[ae,SI];rintro rfl;rw[h.row k i2 r hk hr]at h3;cases h3;exact hne rfl
 ·rw[ae];by_cases hj:j=k
  ·subst hj;rw[hk]at h1;cases h1;rw[SX (Tj.1 hr).1]at h2;cases h2;rw[SK rfl]
  ·rw[S3 (fun e=>hj e.symm)]at h2;rw[SI,h.row j id' q h1 h2];rintro rfl;exact hj ((Uo (Tj.1 h1).1 h.nd).1 (by rw[h1,hk]))
theorem OwnM.fz {S:Nat->Prop}{lo nx:Nat}{H:AHeap}{e1 e0:TypeId}{v:AVal}{ids:List Nat}{rows:List (List AVal)}(h:OwnM lo H e1 e0 v ids rows)(hS:∀i,lo<=i->S i)(hr:∀r∈rows,∀c∈r,Fz S H nx c c):
  Fz S H nx v (.vec rows.length (rows.map fun r=>.vec r.length r)):=by
 have hz:(List.zipWith (fun i n=>AVal.own i 0 0 n 1) ids (rows.map List.length)).length=rows.length:=by simp[h.len]
 have:=h.top.fz (S:=S) (nx:=nx) (cs':=rows.map fun r=>.vec r.length r) hS (by simp[h.len]) fun i hi hi'=>by
  simp only[SV,Wa];have hil:i<rows.length:=by omega
  have hii:i<ids.length:=by rw[h.len];exact hil
  refine .frz (hS _ (h.rng _ (Tk hii)).1) (h.row i _ _ (SJ hii) (SJ hil)) (by simp) fun j hj h2 h'=>?_;have e0:(0:Nat)+j=j:=Nat.zero_add j;have h3:=hr rows[i] (Tk hil) _ (Tk h');simpa only[e0] using h3
 rw[SM]at this;exact this
end Go.Hx
namespace Go.Hx
variable {P:Program} {G:Nat->Option (List AVal)}
def AHeap.gR (H:AHeap)(n ob:Nat)(b:Blk):AHeap:=⟨fun id=>if id=ob then some b else if n<=id then none else H.get id,H.next⟩
theorem uu {H:AHeap}{n ob:Nat}{b:Blk}:(H.gR n ob b).get ob=some b:=by simp[AHeap.gR]
theorem rS {H:AHeap}{n ob id:Nat}{b:Blk}(h:id<n)(h2:id≠ob):(H.gR n ob b).get id=H.get id:=by simp[AHeap.gR,VV.2 h,h2]
theorem K6 {H:AHeap}(hc:Clo H){n ob g:Nat}{e:TypeId}{cells cells':List AVal}(hob:H.get ob=some (.arr g e cells))(hl:cells'.length=cells.length)
  (hcell:∀i (h:i<cells.length) (h':i<cells'.length),Fz (fun id=>n<=id/\id≠ob) H H.next cells[i] cells'[i]):FzH (fun id=>n<=id/\id≠ob) H (H.gR n ob (.arr g e cells')) where
 gone id hs:=by simp[AHeap.gR,hs.1,hs.2]
 kept id b hs hb:=by
  have hbb:=hc.below id b hb;refine⟨hc.lt id b hb,?_⟩;by_cases h:id=ob
  ·subst h;rw[hob]at hb;cases hb;exact⟨.arr g e cells',uu,rfl,rfl,hl,hcell⟩
  ·have hn:¬n<=id:=fun hn=>hs ⟨hn,h⟩;refine⟨b,by simp[AHeap.gR,h,hn,hb],?_⟩;cases b with
   |rsv=>trivial
   |mp=>rfl
   |arr g e cells=>exact⟨rfl,rfl,rfl,fun i h _=>.dead (hbb i h)⟩
   |loop st pend n env ps asg body=>exact⟨rfl,rfl,rfl,rfl,rfl,rfl,rfl,fun t ht=>.dead (hbb t ht)⟩
 none id hs hb:=by
  by_cases h:id=ob
  ·subst h;rw[hob]at hb;cases hb
  ·have hn:¬n<=id:=fun hn=>hs ⟨hn,h⟩;simp[AHeap.gR,h,hn,hb]
theorem cJ.gR (hG:fm G){s:St}{n ob g:Nat}{e:TypeId}{cells cells':List AVal}(hob:s.H.get ob=some (.arr g e cells))(hl:cells'.length=cells.length)
  (hcell:(∀c∈cells,Below s.H.next c)->∀i (h:i<cells.length) (h':i<cells'.length),Fz (fun id=>n<=id/\id≠ob) s.H s.H.next cells[i] cells'[i]):cJ P G s ⟨s.ρ,s.H.gR n ob (.arr g e cells')⟩:=by
 intro n' wb Γ a w hs;exact cJ.freeze (s:=s) (s':=⟨s.ρ,s.H.gR n ob (.arr g e cells')⟩) hG (K6 hs.heap.clo hob hl (hcell fun c hc=>by
  obtain⟨i,hi,rfl⟩:=V8.1 hc;exact hs.heap.clo.below ob _ hob i hi)) (fun t=>.dead (hs.env t).nt) n' wb Γ a w hs
theorem K7 {H:AHeap}{t e:TypeId}{n:Nat}{src:List AVal}{z:List AVal}(ht:P.underlying t=some (.slice e))(hz:P.cellsOf e=1)(hzero:bR P e=some z)(h0:0<src.length)
  (hb:src.length*P.bytesOf e<=2 ^ 46/\src.length<=2 ^ 46) (hn:n=H.next):bM P H n t t (.lit (.slice none 0 0)) (.vec src.length src)=some (.own n 0 0 src.length 1,ext H [.arr 0 e src]):=by
 have hsrc:cV H 1 (.vec src.length src)=some (src.length,src):=by
  unfold cV;simp
 unfold bM;rw[ht];simp only[hzero,hz,Option.bind_some];rw[hsrc];simp only[Option.bind_some];rw[SI (by omega),SK hb,rR hn];rfl
theorem OwnM.Bh {lo n:Nat}{H:AHeap}{e1 e0:TypeId}{v:AVal}{ids:List Nat}{rows:List (List AVal)}{r:List AVal}{t:TypeId}{z:List AVal}(h:OwnM lo H e1 e0 v ids rows)(ht:P.underlying t=some (.slice e1))(hz:P.cellsOf e1=1)(hzero:bR P e1=some z)(hby:P.bytesOf e1=24)(hne:e1≠e0)
  (hb:rows.length<2 ^ 40) (hlo:lo<=H.next) (hn:n=H.next+2):
  ∃v' H',bM P (ext (ext H [.arr 0 e0 r]) [.arr 0 e1 [.own H.next 0 0 r.length 1]]) n t t v (.own (H.next+1) 0 0 1 1)=some (v',H')/\OwnM lo H' e1 e0 v' (ids++[H.next]) (rows++[r])/\H.next<=H'.next/\(∀k,k<H.next->(∀g n,v≠.own k g 0 n 1)->H'.get k=H.get k):=by
 obtain⟨v',H',hA,hO,hn',_⟩:=h.app (P:=P) (r:=r) ht hz hzero hby hne hb hlo hn;have nb:(ext H [.arr 0 e0 r]).next=H.next+1:=rfl;obtain⟨v2,H2,hA2,_,_,hp⟩:=fW (P:=P) (H:=ext H [.arr 0 e0 r]) (t:=t) (x:=.own H.next 0 0 r.length 1) (n:=n) ht hz hzero rfl (by rw[hby];simp[h.len];omega) (h.top.over (.ext _ _)) (by rw[nb];omega) (by rw[nb];omega);rw[nb]at hA2;have e:(v2,H2)=(v',H'):=Option.some.inj (hA2.symm.trans hA);cases e;exact⟨_,_,hA,hO,hn',fun k hk hne=>(hp k (by rw[nb];omega) hne).trans (dv _ _ _ hk)⟩
theorem OwnM.ne {lo:Nat}{H:AHeap}{e1 e0:TypeId}{v:AVal}{ids:List Nat}{rows:List (List AVal)}(h:OwnM lo H e1 e0 v ids rows){k g':Nat}{e:TypeId}{c:List AVal}(hk:H.get k=some (.arr g' e c))(he:e≠e1):∀g n,v≠.own k g 0 n 1:=fun g n hv=>by
 rcases h.top with ⟨h1,_⟩|⟨i,g2,_,_,h1,h2⟩
 ·rw[h1]at hv;cases hv
 ·rw[h1]at hv;obtain rfl:=(AVal.own.inj hv).1;rw[hk]at h2;cases h2;exact he rfl
theorem W.ik {n:Nat}{rd:Option Nat}{Q:AX->St->Prop}{s:St}{x y:Code}(Φ:St->Prop)(h:W P G n rd x (fun ax s'=>ax=.normal/\Φ s') s)(h2:∀s',Φ s'->W P G n rd y Q s'):W P G n rd (.seq x y) Q s :=
 W.seq (h.mono fun ax s' ⟨e,hp⟩=>by subst e;exact h2 s' hp)
theorem cJ.same {s:St}:cJ P G s s:=by
 intro n wb Γ a w hs;exact⟨Γ,hs,.refl _ _ _,fun _ _ h _=>h⟩
end Go.Hx
namespace Go.Proofs
open Go.Hx
structure NodO (lo:Nat)(H:AHeap)(pv rv:AVal)(ids:List Nat)(x:NodeP):Prop where
 par:ay lo H 3 pv (ints x.parents)
 rows:OwnM lo H 42 3 rv ids (x.rows.map ints)
 dj:∀id g n,pv=.own id g 0 n 1->id ∉ ids
 nil:x.rows=[]->rv=.lit (.slice none 0 0)
theorem NodO.keep {lo:Nat}{H H':AHeap}{pv rv:AVal}{ids:List Nat}{x:NodeP}(h:NodO lo H pv rv ids x)(hn:H.next<=H'.next)(hk:∀id,lo<=id->id<H.next->H'.get id=H.get id):NodO lo H' pv rv ids x :=
 ⟨h.par.keep (Nat.le_refl _) hn fun id _ h1 h2 _ _=>hk id h1 h2,h.rows.keep hn hk,h.dj,h.nil⟩
theorem NodO.over {lo:Nat}{H H':AHeap}{pv rv:AVal}{ids:List Nat}{x:NodeP}(h:NodO lo H pv rv ids x)(o:Over H H'):NodO lo H' pv rv ids x:=h.keep o.next fun id _ h2=>o.old id h2
theorem NodO.keepE {lo:Nat}{H H':AHeap}{pv rv:AVal}{ids:List Nat}{x:NodeP}(h:NodO lo H pv rv ids x)(hn:H.next<=H'.next)(hk:∀id g e c,lo<=id->id<H.next->H.get id=some (.arr g e c)->e≠87->H'.get id=H.get id):NodO lo H' pv rv ids x :=
 ⟨h.par.keep (Nat.le_refl _) hn fun id g h1 h2 h3 _=>hk id g _ _ h1 h2 h3 (by decide),⟨h.rows.len,h.rows.nd,fun i hi=>⟨(h.rows.rng i hi).1,by have:=(h.rows.rng i hi).2;omega⟩,h.rows.top.keep (Nat.le_refl _) hn fun id g h1 h2 h3 _=>hk id g _ _ h1 h2 h3 (by decide),fun k id r h1 h2=>by
  have h3:=h.rows.rng id (SE h1);have h4:=h.rows.row k id r h1 h2;rw[hk id _ _ _ h3.1 h3.2 h4 (by decide)];exact h4⟩,h.dj,h.nil⟩
theorem uw {lo:Nat}{H:AHeap}{e1 e0:TypeId}{v:AVal}{ids:List Nat}{rows:List (List AVal)}(h:OwnM lo H e1 e0 v ids rows):v.one=true/\v.cells=[v]:=⟨h.top.one,h.top.cells⟩
theorem rT {S:Nat->Prop}{lo nx:Nat}{H:AHeap}{e:TypeId}{v:AVal}{cs cs':List AVal}(h:ay lo H e v cs)(hS:∀i g,lo<=i->i<H.next->H.get i=some (.arr g e cs)->S i)(hl:cs'.length=cs.length)
  (hc:∀i (h:i<cs.length) (h':i<cs'.length),Fz S H nx cs[i] cs'[i]):Fz S H nx v (.vec cs'.length cs'):=by
 rcases h with ⟨rfl,rfl⟩|⟨id,g,h1,h2,rfl,h4⟩
 ·obtain rfl:=SP hl;exact .nil
 ·rw[hl];refine .frz (hS id g h1 h2 h4) h4 (by omega) fun j hj h2 h'=>?_;simp only[Nat.zero_add]at h2 ⊢;exact hc j h2 h'
def rU (S:Nat->Prop)(lo:Nat)(H:AHeap):Prop:=∀i g e c,lo<=i->i<H.next->H.get i=some (.arr g e c)->e≠87->S i
theorem NodO.rV {S:Nat->Prop}{lo nx:Nat}{H:AHeap}{pv rv:AVal}{ids:List Nat}{x:NodeP}(h:NodO lo H pv rv ids x)(hS:rU S lo H):Fz S H nx pv (af x.parents):=by
 have:=rT (S:=S) (nx:=nx) (cs':=ints x.parents) h.par (fun i g h1 h2 h3=>hS i g _ _ h1 h2 h3 (by decide)) rfl fun i hi _=>by simp only[ints,SV];exact .lit _
 rw[aH]at this;exact this
theorem NodO.K8 {S:Nat->Prop}{lo nx:Nat}{H:AHeap}{pv rv:AVal}{ids:List Nat}{x:NodeP}(h:NodO lo H pv rv ids x)(hS:rU S lo H):Fz S H nx rv (aj x.rows):=by
 have hl:=h.rows.len;rw[SM]at hl;have:=rT (S:=S) (nx:=nx) (cs':=x.rows.map af) h.rows.top (fun i g h1 h2 h3=>hS i g _ _ h1 h2 h3 (by decide)) (by simp[hl]) fun i hi hi'=>by
  have hil:i<x.rows.length:=by simpa using hi'
  have hii:i<ids.length:=by omega
  simp only[SV,Wa,aH];have hid:=h.rows.rng _ (Tk hii);have hrow:=h.rows.row i _ _ (SJ hii) (show (x.rows.map ints)[i]?=some (ints x.rows[i]) by rw[List.getElem?_map,SJ hil];rfl);refine .frz (hS _ _ _ _ hid.1 hid.2 hrow (by decide)) hrow (by simp[aH]) fun j hj h2 h'=>?_;simp only[ints,SV];have e0:0+j=j:=Nat.zero_add j;simp only[e0];exact .lit _
 rw[SM]at this;exact this
theorem NodO.oO {S:Nat->Prop}{lo nx:Nat}{H:AHeap}{pv rv:AVal}{ids:List Nat}{x:NodeP}(h:NodO lo H pv rv ids x)(hS:rU S lo H):Fz S H nx rv (bq x):=by
 unfold bq;split
 ·rename_i e;rw[h.nil e];exact .lit _
 ·exact h.K8 hS
theorem NodO.low {lo lo':Nat}{H:AHeap}{pv rv:AVal}{ids:List Nat}{x:NodeP}(h:NodO lo H pv rv ids x)(hl:lo'<=lo):NodO lo' H pv rv ids x :=
 ⟨h.par.keep hl (Nat.le_refl _) fun _ _ _ _ _ _=>rfl,⟨h.rows.len,h.rows.nd,fun i hi=>⟨by have:=(h.rows.rng i hi).1;omega,(h.rows.rng i hi).2⟩,h.rows.top.keep hl (Nat.le_refl _) fun _ _ _ _ _ _=>rfl,h.rows.row⟩,h.dj,h.nil⟩
end Go.Proofs
namespace Go.Hx
theorem OwnM.elem {lo:Nat}{H:AHeap}{e1 e0:TypeId}{v:AVal}{ids:List Nat}{rows:List (List AVal)}(h:OwnM lo H e1 e0 v ids rows){i:Nat}(hi:i∈ids):∃r,H.get i=some (.arr 0 e0 r):=by
 obtain⟨k,hk⟩:=SW.1 hi;have hl:=(Tj.1 hk).1;rw[h.len]at hl;exact⟨_,h.row k i _ hk (SJ hl)⟩
theorem OwnM.xy {lo:Nat}{H H':AHeap}{e1 e0:TypeId}{v:AVal}{ids:List Nat}{rows:List (List AVal)}(h:OwnM lo H e1 e0 v ids rows)(hn:H.next<=H'.next)
  (hk:∀i g e c,lo<=i->i<H.next->H.get i=some (.arr g e c)->(e=e1\/i∈ids)->H'.get i=H.get i):OwnM lo H' e1 e0 v ids rows :=
 ⟨h.len,h.nd,fun i hi=>⟨(h.rng i hi).1,by have:=(h.rng i hi).2;omega⟩,h.top.keep (Nat.le_refl _) hn fun i g h1 h2 h3 _=>hk i g _ _ h1 h2 h3 (.inl rfl),fun k i r h1 h2=>by
  have h3:=h.rng i (SE h1);have h4:=h.row k i r h1 h2;rw[hk i _ _ _ h3.1 h3.2 h4 (.inr (SE h1))];exact h4⟩
end Go.Hx
namespace Go.Proofs
open Go.Hx
structure SmallN (m:Nat)(ns:List NodeP):Prop where
 len:ns.length<=m
 node:∀x∈ns,x.parents.length<=m/\x.rows.length<=m/\∀r∈x.rows,r≠[]/\r.length<=m
theorem SmallN.mono {m m':Nat}{ns:List NodeP}(h:SmallN m ns)(hm:m<=m'):SmallN m' ns :=
 ⟨Tt h.len hm,fun x hx=>by
  obtain⟨a,b,c⟩:=h.node x hx;exact⟨by omega,by omega,fun r hr=>⟨(c r hr).1,by have:=(c r hr).2;omega⟩⟩⟩
theorem SmallN.set {m:Nat}{ns:List NodeP}{A:Nat}{y:NodeP}(h:SmallN m ns)(hy:y.parents.length<=m/\y.rows.length<=m/\∀r∈y.rows,r≠[]/\r.length<=m):SmallN m (ns.set A y) :=
 ⟨by rw[SO];exact h.len,fun x hx=>by
  rcases Tg hx with h1|rfl
  ·exact h.node x h1
  ·exact hy⟩
def bS (ns:List NodeP)(A:Nat)(c pv rv:AVal):List AVal:=(((aY ns).set (A*3) c).set (A*3+1) pv).set (A*3+2) rv
theorem jV (ns:List NodeP)(A:Nat)(c pv rv:AVal):(bS ns A c pv rv).length=ns.length*3:=by unfold bS;simp[iM]
theorem xz {ns:List NodeP}{A:Nat}(h:A<ns.length)(c pv rv:AVal):(bS ns A c pv rv)[A*3]?=some c:=by
 unfold bS;rw[S3 (by omega),S3 (by omega),SX (by rw[iM];omega)]
theorem Bj {ns:List NodeP}{A:Nat}(h:A<ns.length)(c pv rv:AVal):(bS ns A c pv rv)[A*3+1]?=some pv:=by
 unfold bS;rw[S3 (by omega),SX (by rw[SO,iM];omega)]
theorem Bk {ns:List NodeP}{A:Nat}(h:A<ns.length)(c pv rv:AVal):(bS ns A c pv rv)[A*3+2]?=some rv:=by
 unfold bS;rw[SX (by rw[SO,SO,iM];omega)]
theorem xA {ns:List NodeP}{A i:Nat}(h0:i≠A*3)(h1:i≠A*3+1)(h2:i≠A*3+2)(c pv rv:AVal):(bS ns A c pv rv)[i]?=(aY ns)[i]?:=by
 unfold bS;rw[S3 (by omega),S3 (by omega),S3 (by omega)]
theorem Ld {ns:List NodeP}{A:Nat}(c c' pv rv:AVal):(bS ns A c pv rv).set (A*3) c'=bS ns A c' pv rv:=by
 unfold bS;rw[Vx _ _ (by omega),Vx (i:=A*3+1) _ _ (by omega),UD]
theorem Bl {ns:List NodeP}{A:Nat}(c pv pv' rv:AVal):(bS ns A c pv rv).set (A*3+1) pv'=bS ns A c pv' rv:=by
 unfold bS;rw[Vx _ _ (by omega),UD]
theorem Bm {ns:List NodeP}{A:Nat}(c pv rv rv':AVal):(bS ns A c pv rv).set (A*3+2) rv'=bS ns A c pv rv':=by
 unfold bS;rw[UD]
theorem Le {ns:List NodeP}{A:Nat}(h:A<ns.length)(c pv rv:AVal):¬bS ns A c pv rv=[]:=fun e=>by
 have:=xz h c pv rv;rw[e]at this;simp at this
theorem Lf {ns:List NodeP}{A:Nat}{x:NodeP}(h:ns[A]?=some x)(pv rv:AVal):((aY ns).set (A*3+1) pv).set (A*3+2) rv=bS ns A (aa x.card) pv rv:=by
 unfold bS;rw[lh (mz h)]
theorem ux {e:Nat->Prop}{ns:List NodeP}{A:Nat}{x':NodeP}{rv:AVal}(hA:A<ns.length)(hr:rv=aj x'.rows\/rv=bq x')(he:e A->rv=bq x'):NodesQ e (ns.set A x') (bS ns A (aa x'.card) (af x'.parents) rv):=by
 refine⟨by rw[jV,SO],fun v x hx=>?_⟩;by_cases h:v=A
 ·subst h;rw[SX hA]at hx;cases hx;exact⟨rv,xz hA _ _ _,Bj hA _ _ _,Bk hA _ _ _,hr,he⟩
 ·rw[S3 (by omega)]at hx;refine⟨bq x,?_,?_,?_,.inr rfl,fun _=>rfl⟩
  ·rw[xA (by omega) (by omega) (by omega)];exact mz hx
  ·rw[xA (by omega) (by omega) (by omega)];exact nQ hx
  ·rw[xA (by omega) (by omega) (by omega)];exact qj hx
theorem uy {S:Nat->Prop}{lo nx z n:Nat}{H:AHeap}{e:TypeId}{v:AVal}{cs cs':List AVal}(h:cG lo H e z v n cs)(hS:∀i,lo<=i->S i)(hl:cs'.length=cs.length)
  (hc:∀i (h:i<cs.length) (h':i<cs'.length),Fz S H nx cs[i] cs'[i]):Fz S H nx v (.vec n cs'):=by
 rcases h with ⟨rfl,rfl,rfl⟩|⟨id,g,h1,_,rfl,h3,h4⟩
 ·obtain rfl:=SP hl;exact .nil
 ·refine .frz (hS id h1) h4 (by omega) fun j hj h2 h'=>?_;simp only[Nat.zero_add]at h2 ⊢;exact hc j h2 h'
theorem xB {S:Nat->Prop}{H:AHeap}{nx A:Nat}{ns:List NodeP}{c:Int}{pv rv pv' rv':AVal}(hp:Fz S H nx pv pv')(hr:Fz S H nx rv rv'):∀i (h:i<(bS ns A (aa c) pv rv).length) (h':i<(bS ns A (aa c) pv' rv').length),Fz S H nx (bS ns A (aa c) pv rv)[i] (bS ns A (aa c) pv' rv')[i]:=by
 unfold bS;intro i h h';simp only[Ur];by_cases h2:A*3+2=i
 ·rw[SK h2,SK h2];exact hr
 ·rw[SI h2,SI h2];by_cases h1:A*3+1=i
  ·rw[SK h1,SK h1];exact hp
  ·rw[SI h1,SI h1];by_cases h0:A*3=i
   ·rw[SK h0];exact .lit _
   ·rw[SI h0];exact uJ ns _ (Tk _)
theorem Lg {S:Nat->Prop}{lo nx:Nat}{H H':AHeap}{v:AVal}{ids:List Nat}{rows:List (List Int)}{R idt gt:Nat}{w:AVal}{r':List Int}{cells:List AVal}(h:OwnM lo H 42 3 v ids (rows.map ints))(hS:∀i,lo<=i->S i)(hR:R<rows.length)(ht:lo<=idt)
  (hcell:cells.length=rows.length) (hsame:∀(j id:Nat) (r:List Int),j≠R->ids[j]?=some id->rows[j]?=some r->cells[j]?=some (.own id 0 0 r.length 1)/\H'.get id=H.get id) (hw:cells[R]?=some w) (hg:H'.get idt=some (.arr gt 42 cells)) (hfw:Fz S H' nx w (af r')):
  Fz S H' nx (.own idt gt 0 rows.length 1) (aj (rows.set R r')):=by
 have hl:=h.len;rw[SM]at hl;have:Fz S H' nx (.own idt gt 0 rows.length 1) (.vec rows.length ((rows.set R r').map af)):=by
  refine .frz (hS idt ht) hg (by simp) fun j hj h2 h'=>?_;simp only[Nat.zero_add]at h2 ⊢;have hjr:j<rows.length:=by omega
  have e1:=SJ h2;generalize cells[j]=u at e1 ⊢;rw[SV,Ur];split
  ·rename_i e;subst e;rw[hw]at e1;cases e1;exact hfw
  ·rename_i e;have hij:j<ids.length:=(by omega);obtain⟨c1,c2⟩:=hsame j _ _ (fun h=>e h.symm) (SJ hij) (SJ hjr);rw[c1]at e1;cases e1;have hid:=h.rng _ (Tk hij);have hrow:=h.row j _ _ (SJ hij) (show (rows.map ints)[j]?=some (ints rows[j]) by rw[List.getElem?_map,SJ hjr];rfl);rw[<- c2]at hrow;refine .frz (hS _ hid.1) hrow (by simp[aH]) fun i hi h3 h4=>?_;have e0:0+i=i:=Nat.zero_add i;simp only[e0,ints,SV];exact .lit _
 have e:aj (rows.set R r')=.vec rows.length ((rows.set R r').map af):=by unfold aj;rw[SO]
 rw[e];exact this
structure RowAt (lo:Nat)(H:AHeap)(rv:AVal)(ids:List Nat)(rows:List (List Int))(R:Nat)(q:List Int)(idt gt:Nat)(cells:List AVal)(idr:Nat):Prop where
 rv:rv=.own idt gt 0 rows.length 1
 top:H.get idt=some (.arr gt 42 cells)
 tlo:lo<=idt/\idt<H.next
 len:cells.length=rows.length
 at':cells[R]?=some (.own idr 0 0 q.length 1)
 row:H.get idr=some (.arr 0 3 (ints q))
 rlo:lo<=idr/\idr<H.next
 ne:idt≠idr
 id:ids[R]?=some idr
 q:rows[R]?=some q
 cell:∀(j i:Nat) (r:List Int),ids[j]?=some i->rows[j]?=some r->cells[j]?=some (.own i 0 0 r.length 1)
 nm:idt ∉ ids
theorem OwnM.rowAt {lo:Nat}{H:AHeap}{rv:AVal}{ids:List Nat}{rows:List (List Int)}(h:OwnM lo H 42 3 rv ids (rows.map ints)){R:Nat}{q:List Int}(hq:rows[R]?=some q):∃idt gt cells idr,RowAt lo H rv ids rows R q idt gt cells idr:=by
 have hR:=get_lt hq;have hl:=h.len;rw[SM]at hl;have h0:rows.map ints≠[]:=by intro e;have:=congrArg List.length e;simp at this;rw[this]at hR;simp at hR
 obtain⟨idt,gt,a,b,c,d,f⟩:=h.zm h0;obtain⟨idr,hidr⟩:=get_of_lt (show R<ids.length by omega);have hrow:=h.row R idr (ints q) hidr (by rw[List.getElem?_map,hq];rfl);have hcell:∀(j i:Nat) (r:List Int),ids[j]?=some i->rows[j]?=some r->(List.zipWith (fun i n=>AVal.own i 0 0 n 1) ids ((rows.map ints).map List.length))[j]?=some (.own i 0 0 r.length 1):=fun j i r h1 h2=>by
  rw[Vo,h1,List.getElem?_map,List.getElem?_map,h2];simp[aH]
 refine⟨idt,gt,_,idr,by rw[c,SM],d,⟨a,b⟩,by simp[hl],hcell R idr q hidr hq,hrow,h.rng _ (SE hidr),?_,hidr,hq,hcell,f (by decide)⟩;rintro rfl;exact f (by decide) (SE hidr)
theorem RowAt.Lh {S:Nat->Prop}{lo nx:Nat}{H H':AHeap}{rv:AVal}{ids:List Nat}{rows:List (List Int)}{R:Nat}{q:List Int}{idt gt:Nat}{cells:List AVal}{idr:Nat}(h:RowAt lo H rv ids rows R q idt gt cells idr)(hM:OwnM lo H' 42 3 rv ids (rows.map ints))(hS:∀i,lo<=i->S i)(ht:H'.get idt=some (.arr gt 42 cells)):
  Fz S H' nx (.own idt gt 0 R 1) (aj (rows.take R)):=by
 have hR:=get_lt h.q;have hl:=hM.len;rw[SM]at hl;have:Fz S H' nx (.own idt gt 0 R 1) (.vec R ((rows.take R).map af)):=by
  refine .frz (hS idt h.tlo.1) ht (by simp;omega) fun j hj h2 h'=>?_;simp only[Nat.zero_add]at h2 ⊢;have hjr:j<rows.length:=by omega
  have hij:j<ids.length:=by omega
  have e1:=SJ h2;generalize cells[j]=u at e1 ⊢;rw[h.cell j _ _ (SJ hij) (SJ hjr)]at e1;cases e1;rw[SV,Un];have hid:=hM.rng _ (Tk hij);have hrow:=hM.row j _ _ (SJ hij) (show (rows.map ints)[j]?=some (ints rows[j]) by rw[List.getElem?_map,SJ hjr];rfl);refine .frz (hS _ hid.1) hrow (by simp[aH]) fun i hi h3 h4=>?_;have e0:0+i=i:=Nat.zero_add i;simp only[e0,ints,SV];exact .lit _
 have e:aj (rows.take R)=.vec R ((rows.take R).map af):=by unfold aj;rw[SN,TY (by omega)]
 rw[e];exact this
theorem RowAt.Li {S:Nat->Prop}{lo nx:Nat}{H H':AHeap}{rv:AVal}{ids:List Nat}{rows:List (List Int)}{R:Nat}{q:List Int}{idt gt:Nat}{cells:List AVal}{idr:Nat}(h:RowAt lo H rv ids rows R q idt gt cells idr)(hM:OwnM lo H 42 3 rv ids (rows.map ints))(hS:∀i,lo<=i->S i){w:AVal}{q':List Int}
  (ht:H'.get idt=some (.arr gt 42 (cells.set R w))) (hk:∀i∈ids,i≠idr->H'.get i=H.get i) (hw:Fz S H' nx w (af q')):Fz S H' nx rv (aj (rows.set R q')):=by
 have hR:=get_lt h.q;rw[h.rv];refine Lg (gt:=gt) hM hS hR h.tlo.1 (by rw[SO];exact h.len) (fun j i r hj h1 h2=>⟨by rw[S3 (fun e=>hj e.symm)];exact h.cell j i r h1 h2,hk i (SE h1) ?_⟩) (by rw[SX (by rw[h.len];exact hR)]) ht hw;rintro rfl;exact hj ((Uo (get_lt h1) hM.nd).1 (by rw[h1,h.id]))
theorem NodesQ.take {e:Nat->Prop}{ns:List NodeP}{cs:List AVal}(h:NodesQ e ns cs)(k:Nat):NodesQ e (ns.take k) (cs.take (k*3)):=by
 refine⟨by rw[SN,SN,h.len];omega,fun v x hx=>?_⟩;have hv:=get_lt hx;rw[SN]at hv;rw[Tf (by omega)]at hx;obtain⟨rv,a,b,c,d⟩:=h.node v x hx;exact⟨rv,by rw[Tf (by omega)];exact a,by rw[Tf (by omega)];exact b,by rw[Tf (by omega)];exact c,d⟩
theorem SmallN.take {m:Nat}{ns:List NodeP}(h:SmallN m ns)(k:Nat):SmallN m (ns.take k):=⟨by rw[SN];have:=h.len;omega,fun x hx=>h.node x (S8 hx)⟩
def jW:Nat->Int->Int->List Int->List Int
 |0,_,_,l=>l
 |f+1,i,k,l=>if i<k then jW f (i+1) (k-1) ((l.set i.toNat (l.getD k.toNat 0)).set k.toNat (l.getD i.toNat 0)) else l
def jF (c n g:Int)(q:List Int):List Int:=if c=6 then q.set 0 n else if c=7 then q++[0] else if c=8 then g :: List.replicate (q.length-1) 0 else jW (q.length+1) 0 ((q.length:Int)-1) q
def eC (c r n g:Int)(x:NodeP):NodeP × AVal :=
 if c=1 then ({ x with card:=n },bq x) else if c=2 then ({ x with parents:=x.parents++[n] },bq x) else if c=3 then ({ x with parents:=[] },bq x)
 else if c=4 then ({ x with rows:=x.rows++[[n]] },bq { x with rows:=x.rows++[[n]] })
 else match x.rows[(r % (x.rows.length:Int)).toNat]? with
  |none=>(x,bq x)
  |some q=>if c=5 then ({ x with rows:=x.rows.take (r % (x.rows.length:Int)).toNat },aj (x.rows.take (r % (x.rows.length:Int)).toNat))
   else ({ x with rows:=x.rows.set (r % (x.rows.length:Int)).toNat (jF c n g q) },aj (x.rows.set (r % (x.rows.length:Int)).toNat (jF c n g q)))
def fq (c:Int)(A:Nat)(r n g:Int)(ns:List NodeP):Int × List NodeP × List AVal:=match ns[A]? with
 |none=>(g,[],[])
 |some x=>if c=0 then (n,ns,bS ns A (aa x.card) (af x.parents) (bq x))
  else if c=10 then (g,ns++[⟨1,[],[[g]]⟩],bS ns A (aa x.card) (af x.parents) (bq x)++[aa 1,af [],bq ⟨1,[],[[g]]⟩])
  else if c=11 then (g,ns.take (ns.length-1),(bS ns A (aa x.card) (af x.parents) (bq x)).take ((ns.length-1)*3))
  else (g,ns.set A (eC c r n g x).1,bS ns A (aa (eC c r n g x).1.card) (af (eC c r n g x).1.parents) (eC c r n g x).2)
theorem rW {c r n g:Int}{x:NodeP}(hc:4<c)(hx:x.rows=[]):eC c r n g x=(x,bq x):=by
 unfold eC;rw[SI (by omega),SI (by omega),SI (by omega),SI (by omega),hx];rfl
theorem Lj {r n g:Int}{x:NodeP}{R:Nat}{q:List Int}(hq:x.rows[R]?=some q)(hR:R=(r % (x.rows.length:Int)).toNat):eC 5 r n g x=({ x with rows:=x.rows.take R },aj (x.rows.take R)):=by
 subst hR;unfold eC;rw[SI (by omega),SI (by omega),SI (by omega),SI (by omega),hq];rfl
theorem Lk {c r n g:Int}{x:NodeP}{R:Nat}{q:List Int}(hc:5<c)(hq:x.rows[R]?=some q)(hR:R=(r % (x.rows.length:Int)).toNat):eC c r n g x=({ x with rows:=x.rows.set R (jF c n g q) },aj (x.rows.set R (jF c n g q))):=by
 subst hR;unfold eC;rw[SI (by omega),SI (by omega),SI (by omega),SI (by omega),hq];simp only;rw[SI (by omega)]
theorem Ll:∀(f:Nat) (i k:Int) (l:List Int),(jW f i k l).length=l.length:=by
 intro f
 induction f with
 |zero=>intro i k l;rfl
 |succ f ih=>intro i k l;unfold jW;split<;>simp[ih]
theorem Lm {f:Nat}{i k:Int}{l:List Int}(h:¬i<k):jW f i k l=l:=by
 cases f with
 |zero=>rfl
 |succ f=>unfold jW;rw[SI h]
theorem Ln {f iN kN:Nat}{l:List Int}{qa qb:Int}(h:(iN:Int)<kN)(ha:l[iN]?=some qa)(hb:l[kN]?=some qb):jW f ((iN:Int)+1) ((kN:Int)-1) ((l.set iN qb).set kN qa)=jW (f+1) iN kN l:=by
 conv=>rhs;unfold jW
 rw[SK h];simp[List.getD,ha,hb]
def kH (w a r n:Int):List AVal:=[.lit (.int .u8 w),.lit (.int .u8 a),.lit (.int .u8 r),.lit (.int .i64 n)]
def eP (ns:List NodeP)(a k:Nat)(pv rv:AVal):List AVal:=((aY (ns.take k)).set (a*3+1) pv).set (a*3+2) rv
theorem K9 (ns:List NodeP)(a k:Nat)(pv rv:AVal):(eP ns a k pv rv).length=(ns.take k).length*3:=by unfold eP;rw[SO,SO,iM]
theorem La {ns:List NodeP}{k:Nat}{x:NodeP}(h:ns[k]?=some x)(pv rv pk rk:AVal):eP ns k k pv rv++[aa x.card,pk,rk]=eP ns k (k+1) pk rk:=by
 have hk:=get_lt h;have hl:=iM (ns.take k);have hkl:(ns.take k).length=k:=by rw[SN];omega
 unfold eP;rw[TF (l:=aY (ns.take k)) (by omega),TF (by omega),aL h,x9,To _ _ (by omega),To _ _ (by omega),hl,hkl,show k*3+1-k*3=1 by omega,show k*3+2-k*3=2 by omega];rfl
theorem Lb {ns:List NodeP}{a k:Nat}{x:NodeP}(h:ns[k]?=some x)(hne:k≠a)(pv rv:AVal):eP ns a (k+1) pv rv=eP ns a k pv rv++[aa x.card,af x.parents,bq x]:=by
 have hk:=get_lt h;have hl:=iM (ns.take k);have hkl:(ns.take k).length=k:=by rw[SN];omega
 unfold eP;rw[aL h,x9];by_cases ha:a<k
 ·rw[UM _ _ (by omega),UM _ _ (by rw[SO];omega)]
 ·rw[TF (by simp[hl];omega),TF (by simp[hl];omega),TF (l:=aY (ns.take k)) (by omega),TF (by omega)]
def Bi (ns:List NodeP)(a lo:Nat)(k:Nat)(H:AHeap)(nh:AVal):Prop :=
 ∃pv rv,cG lo H 87 3 nh k (eP ns a k pv rv)/\pv.one=true/\rv.one=true/\(a<k->∃x,ns[a]?=some x/\∃ids,NodO lo H pv rv ids x)
theorem Lc (w a r n:Int)(hw:0<=w/\w<=255)(ha:0<=a/\a<=255)(hr:0<=r/\r<=255)(g:Int)(ns:List NodeP)(m:Nat)(hm:m<2 ^ 30)(hs:SmallN m ns)(H:AHeap)(K:ARes->AHeap->Prop)
  (hK:∀g' ns' cs,(g',ns',cs)=fq (w % 12) (a % (ns.length:Int)).toNat r n g ns->SmallN (m+1) ns'->NodesQ (fun v=>¬w % 12=5\/∀x,ns[v]?=some x->x.rows=[]) ns' cs->(w % 12=0->ns'=ns)/\ns'.length<=ns.length+1->K (.ret (.agg [aa g',.vec ns'.length cs])) H):
  ag Tryz.prog G0 37 [.agg (kH w a r n),bL g ns] H K:=by
 refine ag.clo ⟨_,Tryz.func37,rfl,rfl⟩ fun hcl=>?_;refine ag.sw (n:=323) (rs:=[.cell 4 81]) Tryz.func37 ?_;refine W.sq ?_;simp only[go_sem,kH,bL,cE];obtain⟨Hb,hHb⟩:∃Hb,Hb=ext H [.arr 0 30 [.lit (.int .u8 w),.lit (.int .u8 a),.lit (.int .u8 r),.lit (.int .i64 n)],.arr 0 81 [.lit (.int .i64 g),.vec ns.length (aF ns)],.arr 0 81 [.lit (.int .i64 0),.lit (.slice none 0 0)]]:=⟨_,rfl⟩
 have b0:=df hHb
 have b1:=gE hHb 1 rfl
 have b2:=gE hHb 2 rfl
 have nb:Hb.next=H.next+3:=hHb▸rfl
 have ob:Over H Hb:=hHb▸.ext _ _
 rw[<- hHb];clear hHb;obtain⟨A,hA⟩:∃A:Nat,A=(a % (ns.length:Int)).toNat:=⟨_,rfl⟩
 have hsl:=hs.len;refine W.en (fun E=>E 2=.ptr H.next 0 0 /\ E 3=.ptr (H.next+1) 0 0 /\ E 4=.ptr (H.next+2) 0 0) (by simp only[go_sem]) fun E ⟨e2,e3,e4⟩=>?_
 refine W.sq ?_;simp only[go_sem];refine W.ik (fun s'=>s'.ρ 2=.ptr H.next 0 0/\s'.ρ 3=.ptr (H.next+1) 0 0/\s'.ρ 4=.ptr (H.next+2) 0 0/\Hb.next<=s'.H.next/\(∀id,id<H.next+3->s'.H.get id=Hb.get id)/\Bi ns A (H.next+3) ns.length s'.H (s'.ρ 5)) ?_ ?_;rotate_left
 ·rintro⟨ρ3,Hx⟩ ⟨m2,m3,m4,nx,hold,pv,rv,hO,pv1,rv1,hNA⟩;simp only at m2 m3 m4 nx hold hO hNA;obtain⟨nh,h5⟩:∃nh,ρ3 5=nh:=⟨_,rfl⟩
  rw[h5]at hO;have l1:=ah ((hold _ (by omega)).trans b1);have nh1:=hO.one;have nhc:=hO.cells;refine W.sq ?_;simp only[go_sem,m3,h5,l1,nh1,nhc];obtain⟨Hs,hHs⟩:∃Hs,Hs=Hx.upd (H.next+1) (.arr 0 81 [.lit (.int .i64 g),nh]):=⟨_,rfl⟩
  rw[<- hHs];have sn:Hs.next=Hx.next:=by rw[hHs];rfl
  have so:∀id,id≠H.next+1->Hs.get id=Hx.get id:=fun id h=>by rw[hHs,ae,SI h]
  have g1:Hs.get (H.next+1)=some (.arr 0 81 [.lit (.int .i64 g),nh]):=by rw[hHs,ae,SK rfl]
  have g2:Hs.get (H.next+2)=_:=(so _ (by omega)).trans ((hold _ (by omega)).trans b2);have s1:=ah g1;have s0:Hs.live H.next 0=_:=ah ((so _ (by omega)).trans ((hold _ (by omega)).trans b0));have s2:=ah g2;have sO:cG (H.next+3) Hs 87 3 nh ns.length (eP ns A ns.length pv rv):=hO.keep (by omega) fun id _ h _ _=>so id (by omega);have sold:∀id,id<H.next->Hs.get id=H.get id:=fun id h=>by rw[so id (by omega),hold id (by omega)];exact ob.old id h
  refine W.en (fun E=>E 2=.ptr H.next 0 0 /\ E 3=.ptr (H.next+1) 0 0 /\ E 4=.ptr (H.next+2) 0 0 /\ E 5=nh) (by simp only[go_sem,m2,m3,m4,h5]) fun E ⟨t2,t3,t4,t5⟩=>?_
  clear hHs l1 hO;by_cases hn0:ns.length=0
  ·have hns:ns=[]:=SP hn0;have hlen:dY Hs nh=some (.lit (.int .i64 0)):=by
    rcases sO with ⟨z1,z2,z3⟩|⟨id,gg,z1,z2,z3,z4,z5⟩
    ·rw[z1];rfl
    ·rw[z3,hn0];unfold dY;simp[ah z5]
   refine W.vs ?_;simp only[go_sem,t3,t4,t5,s1,s2,hlen,nh1];refine ar.aV (v':=.agg [aa g,.vec 0 []]) aE hcl (H2:=Hs.upd (H.next+2) _) ⟨by rw[au];omega,fun id h=>by rw[ae,SI (by omega)];exact sold id h⟩ (.agg rfl fun i hi _=>?_) ?_
   ·match i,hi with
    |0,_=>exact .lit _
    |1,_ =>
     have hO2:cG (H.next+3) (Hs.upd (H.next+2) (.arr 0 81 [.lit (.int .i64 g),nh])) 87 3 nh ns.length (eP ns A ns.length pv rv):=sO.keep (by rw[au];omega) fun id _ h _ _=>by rw[ae,SI (by omega)]
     have hl0:(eP ns A ns.length pv rv).length=0:=(by rw[K9,hn0];rfl);have:=uy (S:=fun id=>H.next<=id) (nx:=H.next) (cs':=[]) hO2 (fun i hi=>by omega) (by rw[hl0];rfl) fun i hi=>absurd hi (by omega);rw[hn0]at this;exact this
   ·have:=hK g [] [] (by rw[hns];rfl) ⟨by simp,fun x hx=>by simp at hx⟩ ⟨rfl,fun v x hx=>by simp at hx⟩ ⟨fun _=>hns.symm,by simp⟩;exact this
  have hn1:0<ns.length:=by omega
  rcases sO with ⟨_,z2,_⟩|⟨id,gg,z1,z2,z3,z4,z5⟩
  ·omega
  subst z3;have sid:=ah z5;have hn0':¬(ns.length:Int)=0:=by omega
  refine W.sq ?_;simp only[go_sem,t5,sid,hn0'];have hAlt:A<ns.length:=by
   have:=TO a (show (0:Int)<ns.length by omega);have:=TP a (show (ns.length:Int)≠0 by omega);omega
  have hAe:Int.tmod a ns.length=A:=by rw[Ta ha.1];have:=TP a (show (ns.length:Int)≠0 by omega);omega
  obtain⟨x,hx,ids,hN0⟩:=hNA hAlt;have hN:NodO (H.next+3) Hs pv rv ids x:=hN0.keep (by omega) fun id h _=>so id (by omega);clear hN0 hNA;obtain⟨x1,x2,x3⟩:=hs.node x (SE hx);have ecs:eP ns A ns.length pv rv=bS ns A (aa x.card) pv rv:=by unfold eP;rw[SH (Nat.le_refl _)];exact Lf hx _ _
  obtain⟨cs0,hcs0⟩:∃c,c=bS ns A (aa x.card) pv rv:=⟨_,rfl⟩
  rw[ecs,<- hcs0]at z4 z5 sid;have c0:=xz (ns:=ns) hAlt (aa x.card) pv rv;have c1:=Bj (ns:=ns) hAlt (aa x.card) pv rv;have c2:=Bk (ns:=ns) hAlt (aa x.card) pv rv;have cl:=jV ns A (aa x.card) pv rv;have cne:=Le (ns:=ns) hAlt (aa x.card) pv rv;rw[<- hcs0]at c0 c1 c2 cl cne;have hA0:(A:Int)<ns.length:=by omega
  have wa:=SF a (by omega);have wA:=SF (A:Int) (by omega);refine W.sq ?_;simp only[go_sem,t2,t5,s0,sid,hAe,hn0',hA0,wa];refine W.sq ?_;simp only[go_sem];have rvl:dY Hs rv=some (aa x.rows.length):=by
   have hl:=hN.rows.len;rw[SM]at hl;rcases hN.rows.top with ⟨h1,h2⟩|⟨i,g',_,_,h1,h2⟩
   ·have h3:(List.zipWith (fun i n=>AVal.own i 0 0 n 1) ids ((x.rows.map ints).map List.length)).length=0:=(by rw[h2];rfl);simp[hl]at h3;rw[h1,h3];rfl
   ·rw[h1];unfold dY;simp[ah h2,hl,aa]
  refine W.en (fun E=>E 2=.ptr H.next 0 0 /\ E 3=.ptr (H.next+1) 0 0 /\ E 4=.ptr (H.next+2) 0 0 /\ E 5=.own id gg 0 ns.length 3 /\ E 10=.ptr id gg (A*3) /\ E 11=aa (-1)) (by simp only[go_sem,t2,t3,t4,t5]) fun E ⟨u2,u3,u4,u5,u10,u11⟩=>?_
  refine W.ik (fun s'=>s'.H=Hs/\s'.ρ 2=.ptr H.next 0 0/\s'.ρ 3=.ptr (H.next+1) 0 0/\s'.ρ 4=.ptr (H.next+2) 0 0/\s'.ρ 10=.ptr id gg (A*3)/\∃R:Int,s'.ρ 11=aa R/\(x.rows=[]/\R=-1\/x.rows≠[]/\0<=R/\R<x.rows.length/\R=r % (x.rows.length:Int))) ?_ ?_
  ·refine W.sq ?_;by_cases hr0:x.rows=[]
   ·simp only[go_sem,u10,sid,c2,rvl,hr0];refine W.cond (t:=false) rfl ?_;refine W.vs ?_;simp only[go_sem];refine⟨u2,u3,u4,u10,-1,u11,?_⟩;simp[hr0]
   ·have hr1:0<x.rows.length:=T1.2 hr0;have hr2:(0:Int)<x.rows.length:=(by omega);have hr3:¬(x.rows.length:Int)=0:=(by omega);have wr:=SF r (by omega);have hRe:Int.tmod r x.rows.length=r % x.rows.length:=Ta hr.1;have hR0:=TP r hr3;have hR1:=TO r hr2;have wR:=SF (r % (x.rows.length:Int)) (by omega);simp only[go_sem,u10,sid,c2,rvl,hr2];refine W.cond (t:=true) rfl ?_;refine W.dr 8 [0,1,3,0,8,24,56,120] Tryz.mixed ?_;simp only[go_sem,u2,u10,s0,sid,c2,rvl,hr3,wr,hRe];exact⟨u3,u4,_,rfl,.inr ⟨hr0,hR0,hR1,rfl⟩⟩
  rintro⟨ρ4,H4⟩ ⟨hH,v2,v3,v4,v10,R,v11,hR⟩;simp only at hH v2 v3 v4 v10 v11;rw[hH];clear hH;have w8:Int.tmod w 12=w % 12:=Ta hw.1;obtain⟨e,he⟩:∃e:Nat->Prop,e=fun v=>¬w % 12=5\/∀x,ns[v]?=some x->x.rows=[]:=⟨_,rfl⟩
  rw[<- he]at hK;obtain⟨Φ,hΦ⟩:∃ Φ:St->Prop,∀s',Φ s'↔(s'.ρ 3=.ptr (H.next+1) 0 0/\s'.ρ 4=.ptr (H.next+2) 0 0/\∃(g':Int) (nv:AVal) (ns':List NodeP) (cs':List AVal),Hs.next<=s'.H.next/\(∀i,i<H.next->s'.H.get i=H.get i)/\s'.H.get (H.next+1)=some (.arr 0 81 [.lit (.int .i64 g'),nv])/\nv.one=true/\nv.cells=[nv]/\(∃q,s'.H.get (H.next+2)=some (.arr 0 81 q)/\q.length=2)/\(∀H3,H3.next=s'.H.next->(∀i,i≠H.next+2->H3.get i=s'.H.get i)->Fz (fun i=>H.next<=i) H3 H.next nv (.vec ns'.length cs'))/\SmallN (m+1) ns'/\NodesQ e ns' cs'/\(w % 12=0->ns'=ns)/\ns'.length<=ns.length+1/\(g',ns',cs')=fq (w % 12) A r n g ns):=⟨_,fun _=>Iff.rfl⟩
  refine W.ik Φ ?_ ?_;rotate_left
  ·rintro⟨ρ5,H5⟩ hq5;obtain⟨f3,f4,g',nv,ns',cs',n5,o5,p5,nv1,nvc,⟨q,q5,ql⟩,hfz,hsm,hnq,hw0,hw1,hbn⟩:=(hΦ _).1 hq5;simp only at f3 f4 n5 o5 p5 q5 hfz;have l5:=ah p5;obtain⟨q0,q1,rfl⟩:∃q0 q1,q=[q0,q1]:=by
    match q,ql with
    | [q0,q1],_=>exact⟨q0,q1,rfl⟩
   have l6:=ah q5;refine W.vs ?_;simp only[go_sem,f3,f4,l5,l6,nv1];refine ar.aV (v':=.agg [aa g',.vec ns'.length cs']) aE hcl ⟨by rw[au];omega,fun i h=>by rw[ae,SI (by omega)];exact o5 i h⟩ (.agg rfl fun i hi _=>?_) (hK g' ns' cs' (by rw[<- hA];exact hbn) hsm hnq ⟨hw0,hw1⟩)
   match i,hi with
   |0,_=>exact .lit _
   |1,_=>exact hfz _ rfl fun i h=>by rw[ae,SI h]
  refine W.sq ?_;simp only[go_sem,v2,s0,w8];obtain⟨c,hc⟩:∃c,c=w % 12:=⟨_,rfl⟩
  have hc0:0<=c/\c<12:=by omega
  rw[<- hc];refine W.en (fun E=>E 2=.ptr H.next 0 0 /\ E 3=.ptr (H.next+1) 0 0 /\ E 4=.ptr (H.next+2) 0 0 /\ E 10=.ptr id gg (A*3) /\ E 11=aa R /\ E 101=.lit (.int .u8 c)) (by simp only[go_sem,v2,v3,v4,v10,v11]) fun E ⟨u2,u3,u4,u10,u11,u101⟩=>?_
  clear v2 v3 v4 v10 v11 t2 t3 t4 t5;refine W.block ?_;clear hK;have g2':∃q,Hs.get (H.next+2)=some (.arr 0 81 q)/\q.length=2:=⟨_,g2,rfl⟩
  have hfin:∀(H3:AHeap) (cc:Int) (pv' rv' pw rw:AVal),H3.get id=some (.arr gg 87 (bS ns A (aa cc) pv' rv'))->Fz (fun i=>H.next<=i) H3 H.next pv' pw->Fz (fun i=>H.next<=i) H3 H.next rv' rw->Fz (fun i=>H.next<=i) H3 H.next (.own id gg 0 ns.length 3) (.vec ns.length (bS ns A (aa cc) pw rw)):=fun H3 cc pv' rv' pw rw h1 h2 h3=>by
   refine .frz (show H.next<=id by omega) h1 (jV ..) fun j hj h2' h'=>?_;simp only[Nat.zero_add]at h2' ⊢;exact xB h2 h3 j h2' h'
  have hgone:∀H3:AHeap,rU (fun i=>H.next<=i) (H.next+3) H3:=fun H3 i g e c h1 _ _ _=>by show H.next<=i;omega
  have hset:ns.set A x=ns:=lh hx;have hsm0:SmallN (m+1) ns:=hs.mono (Uc m);have bN:c≠0->c≠10->c≠11->fq c A r n g ns=(g,ns.set A (eC c r n g x).1,bS ns A (aa (eC c r n g x).1.card) (af (eC c r n g x).1.parents) (eC c r n g x).2):=fun y0 y1 y2=>by
   unfold fq;rw[hx];simp only;rw[SI y0,SI y1,SI y2]
    -- the nodes as they are
  have same:∀H3:AHeap,Hs.next<=H3.next->(∀i,H.next+3<=i->i<Hs.next->H3.get i=Hs.get i)->Fz (fun i=>H.next<=i) H3 H.next (.own id gg 0 ns.length 3) (.vec ns.length (bS ns A (aa x.card) (af x.parents) (bq x))):=fun H3 h1 h2=>by
   have hN3:=hN.keep (H':=H3) h1 h2;refine hfin H3 _ _ _ _ _ ?_ (hN3.rV (hgone _)) (hN3.oO (hgone _));rw[h2 id z1 z2,z5,hcs0]
  have nq0:NodesQ e ns (bS ns A (aa x.card) (af x.parents) (bq x)):=by
   have:=ux (e:=e) (x':=x) (rv:=bq x) hAlt (.inr rfl) fun _=>rfl;rw[hset]at this;exact this
  have noch:∀E':Env,c≠0->c≠10->c≠11->eC c r n g x=(x,bq x)->E' 3=.ptr (H.next+1) 0 0->E' 4=.ptr (H.next+2) 0 0->Φ ⟨E',Hs⟩:=fun E' y0 y1 y2 y3 h3 h4=>(hΦ _).2 ⟨h3,h4,g,.own id gg 0 ns.length 3,ns,_,Nat.le_refl _,sold,g1,rfl,rfl,g2',fun H3 h5 h6=>same H3 (by rw[h5];exact Nat.le_refl _) fun i h7 _=>h6 i (by omega),hsm0,nq0,fun _=>rfl,by omega,by rw[<- hc,bN y0 y1 y2,y3,hset]⟩;by_cases h0:c=0
  ·refine W.sq ?_;simp only[go_sem,u101,h0];refine W.cond (t:=true) rfl ?_;refine W.vs ?_;simp only[go_sem,u2,u3,s0,s1];refine(hΦ _).2 ⟨by simp only[go_sem,u3],by simp only[go_sem,u4],n,.own id gg 0 ns.length 3,ns,_,by rw[au];exact Nat.le_refl _,fun i h=>by rw[ae,SI (by omega)];exact sold i h,by rw[ae,SK rfl],rfl,rfl,?_,fun H3 h5 h6=>same H3 (by rw[h5,au];exact Nat.le_refl _) fun i h7 _=>by rw[h6 i (by omega),ae,SI (by omega)],hsm0,nq0,fun _=>rfl,by omega,by rw[<- hc,h0];unfold fq;rw[hx];rfl⟩;obtain⟨q,hq,ql⟩:=g2';exact⟨q,by rw[ae,SI (by omega)];exact hq,ql⟩
    -- one node set anew
  have hset1:∀(E':Env) (H2:AHeap) (x':NodeP) (pv' rv' rw:AVal),E' 3=.ptr (H.next+1) 0 0->E' 4=.ptr (H.next+2) 0 0->Hs.next<=H2.next->(∀i,i<H.next+3->H2.get i=Hs.get i)->H2.get id=some (.arr gg 87 (bS ns A (aa x'.card) pv' rv')) ->
    (∀H3:AHeap,H3.next=H2.next->(∀i,i≠H.next+2->H3.get i=H2.get i)->Fz (fun i=>H.next<=i) H3 H.next pv' (af x'.parents)/\Fz (fun i=>H.next<=i) H3 H.next rv' rw)->(rw=aj x'.rows\/rw=bq x')->(e A->rw=bq x')->(x'.parents.length<=m+1/\x'.rows.length<=m+1/\∀r∈x'.rows,r≠[]/\r.length<=m+1)->c≠10->c≠11->eC c r n g x=(x',rw)->Φ ⟨E',H2⟩:=by
   intro E' H2 x' pv' rv' rw h3 h4 hn ho hid hfz hr he2 hsz y1 y2 y3;refine(hΦ _).2 ⟨h3,h4,g,.own id gg 0 ns.length 3,ns.set A x',bS ns A (aa x'.card) (af x'.parents) rw,hn,fun i h=>by rw[ho i (by omega)];exact sold i h,(ho _ (by omega)).trans g1,rfl,rfl,?_,fun H3 h5 h6=>?_,hsm0.set hsz,ux hAlt hr he2,fun h=>absurd (hc.trans h) h0,by rw[SO];omega,by rw[<- hc,bN h0 y1 y2,y3]⟩
   ·obtain⟨q,hq,ql⟩:=g2';exact⟨q,(ho _ (by omega)).trans hq,ql⟩
   ·obtain⟨f1,f2⟩:=hfz H3 h5 h6;have:=hfin H3 x'.card pv' rv' _ _ ((h6 id (by omega)).trans hid) f1 f2;rw[SO];exact this
  have par3:∀H3:AHeap,Hs.next<=H3.next->(∀i g2 e2 c2,H.next+3<=i->i<Hs.next->Hs.get i=some (.arr g2 e2 c2)->e2≠87->H3.get i=Hs.get i)->Fz (fun i=>H.next<=i) H3 H.next pv (af x.parents)/\Fz (fun i=>H.next<=i) H3 H.next rv (bq x):=fun H3 h1 h2=>by
   have hN3:=hN.keepE (H':=H3) h1 h2;exact⟨hN3.rV (hgone _),hN3.oO (hgone _)⟩
  have xsz:x.parents.length<=m+1/\x.rows.length<=m+1/\∀r∈x.rows,r≠[]/\r.length<=m+1:=⟨by omega,by omega,fun r hr=>⟨(x3 r hr).1,by have:=(x3 r hr).2;omega⟩⟩
  have nid:∀ {i g2 e2 c2},Hs.get i=some (.arr g2 e2 c2)->e2≠87->i≠id:=fun h1 h2 h3=>by
   rw[h3,z5]at h1;cases h1;exact h2 rfl
  have pne:∀i g2 e2 c2,Hs.get i=some (.arr g2 e2 c2)->e2≠3->∀g n,pv≠.own i g 0 n 1:=fun i g2 e2 c2 h1 h2 g n hv=>by
   rcases hN.par with ⟨h3,_⟩|⟨i3,g3,_,_,h3,h4⟩
   ·rw[h3]at hv;cases hv
   ·rw[h3]at hv;obtain rfl:=(AVal.own.inj hv).1;rw[h4]at h1;cases h1;exact h2 rfl
  have plo:∀i,i<H.next+3->∀g n,pv≠.own i g 0 n 1:=fun i h g n hv=>by
   rcases hN.par with ⟨h3,_⟩|⟨i3,g3,h1,_,h3,h4⟩
   ·rw[h3]at hv;cases hv
   ·rw[h3]at hv;have:=(AVal.own.inj hv).1;omega
  refine W.sq ?_;simp only[go_sem,u101,h0];refine W.cond (t:=false) rfl ?_;by_cases h1:c=1
  ·refine W.sq ?_;simp only[go_sem,u101,h1];refine W.cond (t:=true) rfl ?_;refine W.vs ?_;have c1l:A*3+1<=cs0.length:=(by omega);have e1:setAt cs0 (A*3) [.lit (.int .i64 n)]=bS ns A (aa n) pv rv:=(by rw[eM (by omega),hcs0,Ld];rfl);simp only[go_sem,u2,u10,s0,sid,c1l,e1];refine hset1 _ _ { x with card:=n } pv rv (bq x) (by simp only[go_sem,u3]) (by simp only[go_sem,u4]) (by rw[au];exact Nat.le_refl _) (fun i h=>by rw[ae,SI (by omega)]) (by rw[ae,SK rfl];rfl) (fun H3 h5 h6=>?_) (.inr rfl) (fun _=>rfl) xsz (by omega) (by omega) (by rw[h1];rfl);exact par3 H3 (by rw[h5,au];exact Nat.le_refl _) fun i g2 e2 c2 h1 _ h3 h4=>by rw[h6 i (by omega),ae,SI (nid h3 h4)]
  refine W.sq ?_;simp only[go_sem,u101,h1];refine W.cond (t:=false) rfl ?_;by_cases h2:c=2
  ·refine W.sq ?_;simp only[go_sem,u101,h2];refine W.cond (t:=true) rfl ?_;obtain⟨pv2,H2,hA2,oP,n2,hp2⟩:=fW (P:=Tryz.prog) (H:=Hs) (t:=42) (x:=aa n) (n:=Hs.next+1) Tryz.underlying42 Tryz.dz Tryz.dH rfl (by rw[Tryz.dL,aH];omega) hN.par (by omega) rfl;simp only[aa]at hA2;have kid:H2.get id=_:=(hp2 _ (by omega) (pne _ _ _ _ z5 (by decide))).trans z5;have lid:=ah kid;have c1l:A*3+2<=cs0.length:=(by omega);have e1:setAt cs0 (A*3+1) [pv2]=bS ns A (aa x.card) pv2 rv:=(by rw[eM (by omega),hcs0,Bl]);have pv21:=oP.one;have pv2c:=oP.cells;have fin2:∀E':Env,E' 3=.ptr (H.next+1) 0 0->E' 4=.ptr (H.next+2) 0 0->Φ ⟨E',H2.upd id (.arr gg 87 (bS ns A (aa x.card) pv2 rv))⟩:=fun E' h3 h4=>by
    refine hset1 _ _ { x with parents:=x.parents++[n] } pv2 rv (bq x) h3 h4 (by rw[au];omega) (fun i h=>by rw[ae,SI (by omega)];exact hp2 i (by omega) (plo i h)) (by rw[ae,SK rfl]) (fun H3 h5 h6=>?_) (.inr rfl) (fun _=>rfl) ⟨by simp;omega,xsz.2.1,xsz.2.2⟩ (by omega) (by omega) (by rw[h2];rfl);have k3:∀i g2 e2 c2,H.next+3<=i->H2.get i=some (.arr g2 e2 c2)->e2≠87->H3.get i=H2.get i:=fun i g2 e2 c2 h1 h3 h4=>by
     rw[h6 i (by omega),ae,SI];rintro rfl;rw[kid]at h3;cases h3;exact h4 rfl
    have oP3:ay (H.next+3) H3 3 pv2 (ints (x.parents++[n])):=by
     have:=oP.keep (H':=H3) (Nat.le_refl _) (by rw[h5,au];exact Nat.le_refl _) fun i g h1 _ h3 _=>k3 i g _ _ h1 h3 (by decide);simpa[ints] using this
    have rM:=hN.rows.xy (H':=H3) (by rw[h5,au];omega) fun i g2 e2 c2 h1 h2 h3 h4=>by
     have h7:H2.get i=Hs.get i:=hp2 i h2 fun g n hv=>by
      rcases h4 with h4|h4
      ·exact pne _ _ _ _ h3 (by rw[h4];decide) _ _ hv
      ·exact hN.dj _ _ _ hv h4
     refine(k3 i g2 e2 c2 h1 (h7.trans h3) ?_).trans h7;rcases h4 with h4|h4
     ·rw[h4];decide
     ·have:=hN.rows.elem h4;rw[h3]at this;obtain⟨_,this⟩:=this;cases this;decide
    have hN3:NodO (H.next+3) H3 (.lit (.slice none 0 0)) rv ids { x with parents:=[] }:=⟨.nil,rM,fun _ _ _ h=>(by cases h),hN.nil⟩
    exact⟨oP3.dG fun i h=>by omega,hN3.oO (hgone _)⟩
   refine W.dr 9 [0,0,2,6,14,0,32,96,254] Tryz.mixed ?_;rcases hN.par with ⟨hv,_⟩|⟨i3,g3,_,_,hv,h4⟩
   ·subst hv;simp only[go_sem,u2,u10,s0,sid,c1,c1l,e1,hA2,lid,pv21,pv2c];exact⟨⟨fun _ h=>by omega,fun _ h=>by omega,fun _ h=>by omega⟩,fin2 _ (by simp only[go_sem,u3]) (by simp only[go_sem,u4])⟩
   ·rw[aH]at hv;subst hv;simp only[go_sem,u2,u10,s0,sid,c1,c1l,e1,hA2,lid,pv21,pv2c];exact⟨⟨fun _ h=>by omega,fun _ h=>by omega,fun _ h=>by omega⟩,fin2 _ (by simp only[go_sem,u3]) (by simp only[go_sem,u4])⟩
  refine W.sq ?_;simp only[go_sem,u101,h2];refine W.cond (t:=false) rfl ?_;by_cases h3:c=3
  ·refine W.sq ?_;simp only[go_sem,u101,h3];refine W.cond (t:=true) rfl ?_;refine W.vs ?_;have c1l:A*3+2<=cs0.length:=(by omega);have e1:setAt cs0 (A*3+1) [.lit (.slice none 0 0)]=bS ns A (aa x.card) (.lit (.slice none 0 0)) rv:=(by rw[eM (by omega),hcs0,Bl]);simp only[go_sem,u10,sid,c1l,e1];refine hset1 _ _ { x with parents:=[] } (.lit (.slice none 0 0)) rv (bq x) (by simp only[go_sem,u3]) (by simp only[go_sem,u4]) (by rw[au];exact Nat.le_refl _) (fun i h=>by rw[ae,SI (by omega)]) (by rw[ae,SK rfl];rfl) (fun H3 h5 h6=>?_) (.inr rfl) (fun _=>rfl) ⟨by simp,xsz.2.1,xsz.2.2⟩ (by omega) (by omega) (by rw[h3];rfl);exact⟨.nil,(par3 H3 (by rw[h5,au];exact Nat.le_refl _) fun i g2 e2 c2 h1 _ h3 h4=>by rw[h6 i (by omega),ae,SI (nid h3 h4)]).2⟩
  refine W.sq ?_;simp only[go_sem,u101,h3];refine W.cond (t:=false) rfl ?_;by_cases h4:c=4
  ·refine W.sq ?_;simp only[go_sem,u101,h4];refine W.cond (t:=true) rfl ?_;obtain⟨rv2,H2,hA2,oM,n2,hp2⟩:=hN.rows.Bh (P:=Tryz.prog) (n:=Hs.next+1+1) (t:=33) (r:=ints [n]) Tryz.underlying33 Tryz.jv Tryz.jH Tryz.jG (by decide) (by rw[SM];omega) (by omega) rfl;rw[aH]at hA2;simp only[ints,aa,List.map_cons,List.map_nil,List.length_cons,List.length_nil,Nat.zero_add]at hA2;have kid:H2.get id=_:=(hp2 _ (by omega) (hN.rows.ne z5 (by decide))).trans z5;have lid:=ah kid;have e1:setAt cs0 (A*3+2) [rv2]=bS ns A (aa x.card) pv rv2:=(by rw[eM (by omega),hcs0,Bm]);have rv21:=oM.top.one;have rv2c:=oM.top.cells;have fin4:∀E':Env,E' 3=.ptr (H.next+1) 0 0->E' 4=.ptr (H.next+2) 0 0->Φ ⟨E',H2.upd id (.arr gg 87 (bS ns A (aa x.card) pv rv2))⟩:=fun E' h3' h4'=>by
    have hne:({ x with rows:=x.rows++[[n]] }:NodeP).rows≠[]:=(by simp);refine hset1 _ _ { x with rows:=x.rows++[[n]] } pv rv2 (bq { x with rows:=x.rows++[[n]] }) h3' h4' (by rw[au];omega) (fun i h=>by rw[ae,SI (by omega)];exact hp2 i (by omega) (hN.rows.top.ne (by omega))) (by rw[ae,SK rfl]) (fun H3 h5 h6=>?_) (.inr rfl) (fun _=>rfl) ⟨xsz.1,by simp;omega,fun r hr=>?_⟩ (by omega) (by omega) (by rw[h4];rfl)
    ·have k3:∀i g2 e2 c2,H.next+3<=i->H2.get i=some (.arr g2 e2 c2)->e2≠87->H3.get i=H2.get i:=fun i g2 e2 c2 h1 h3 h4=>by
      rw[h6 i (by omega),ae,SI];rintro rfl;rw[kid]at h3;cases h3;exact h4 rfl
     have oP3:=hN.par.keep (H':=H3) (Nat.le_refl _) (by rw[h5,au];omega) fun i g h1 h2 h3 _=>by
      have h7:H2.get i=Hs.get i:=hp2 i h2 (hN.rows.ne h3 (by decide));exact(k3 i g _ _ h1 (h7.trans h3) (by decide)).trans h7
     have rM:OwnM (H.next+3) H3 42 3 rv2 (ids++[Hs.next]) ((x.rows++[[n]]).map ints):=by
      have:=oM.xy (H':=H3) (by rw[h5,au];exact Nat.le_refl _) fun i g2 e2 c2 h1 _ h3 h4=>k3 i g2 e2 c2 h1 h3 (by
       rcases h4 with h4|h4
       ·rw[h4];decide
       ·have:=oM.elem h4;rw[h3]at this;obtain⟨_,this⟩:=this;cases this;decide)
      rw[Tq];exact this
     have hN3:NodO (H.next+3) H3 (.lit (.slice none 0 0)) rv2 (ids++[Hs.next]) { x with parents:=[],rows:=x.rows++[[n]] }:=⟨.nil,rM,fun _ _ _ h=>(by cases h),fun h=>by simp at h⟩
     exact⟨oP3.dG fun i h=>by omega,hN3.oO (hgone _)⟩
    ·rcases S5.1 hr with h|h
     ·exact xsz.2.2 r h
     ·obtain rfl:=List.mem_singleton.1 h;exact⟨by simp,by simp⟩
   refine W.dr 10 [0,0,2,6,14,0,32,96,224,510] Tryz.mixed ?_;have hl:ids.length=x.rows.length:=(by have:=hN.rows.len;rwa [SM]at this);rcases hN.rows.top with ⟨hv,_⟩|⟨i3,g3,_,_,hv,h4⟩
   ·subst hv;simp only[go_sem,u2,u10,s0,sid,c2,hA2,lid,rv21,rv2c,e1];exact⟨⟨fun _ h=>by omega,fun _ h=>by omega,fun _ h=>by omega⟩,⟨fun _ h=>by omega,fun _ h=>by omega,fun _ h=>by omega⟩,by omega,fin4 _ (by simp only[go_sem,u3]) (by simp only[go_sem,u4])⟩
   ·subst hv;simp only[go_sem,u2,u10,s0,sid,c2,hA2,lid,rv21,rv2c,e1];exact⟨⟨fun _ h=>by omega,fun _ h=>by omega,fun _ h=>by omega⟩,⟨fun _ h=>by omega,fun _ h=>by omega,fun _ h=>by omega⟩,by omega,fin4 _ (by simp only[go_sem,u3]) (by simp only[go_sem,u4])⟩
  refine W.sq ?_;simp only[go_sem,u101,h4];refine W.cond (t:=false) rfl ?_
    -- one row of the node
  have row:R=-1/\x.rows=[]\/∃(Rn:Nat) (q:List Int) (idt gt:Nat) (cells:List AVal) (idr:Nat),R=(Rn:Int)/\RowAt (H.next+3) Hs rv ids x.rows Rn q idt gt cells idr/\Rn=(r % (x.rows.length:Int)).toNat:=by
   rcases hR with ⟨hR2,hR⟩|⟨_,hR0,hR1,hR3⟩
   ·exact .inl ⟨hR,hR2⟩
   ·obtain⟨Rn,rfl⟩:=SR hR0;obtain⟨q,hq⟩:=get_of_lt (l:=x.rows) (i:=Rn) (by omega);obtain⟨idt,gt,cells,idr,hra⟩:=OwnM.rowAt hN.rows hq;exact .inr ⟨Rn,q,idt,gt,cells,idr,rfl,hra,by omega⟩
  have pkeep:∀H3:AHeap,Hs.next<=H3.next->(∀i g,H.next+3<=i->i<Hs.next->Hs.get i=some (.arr g 3 (ints x.parents))->(∀j,j∈ids->i≠j)->H3.get i=Hs.get i)->Fz (fun i=>H.next<=i) H3 H.next pv (af x.parents):=fun H3 h1 h2=>by
   have:=hN.par.keep (H':=H3) (Nat.le_refl _) h1 fun i g h3 h4 h5 h6=>h2 i g h3 h4 h5 fun j hj he=>by
    subst he;exact hN.dj _ _ _ h6 hj
   exact this.dG fun i h=>by omega
  have rsz:∀(Rn:Nat) (q q':List Int),x.rows[Rn]?=some q->q'≠[]->q'.length<=q.length+1->(x.parents.length<=m+1/\(x.rows.set Rn q').length<=m+1/\∀r∈x.rows.set Rn q',r≠[]/\r.length<=m+1):=fun Rn q q' hq h1 h2=>⟨xsz.1,by rw[SO];exact xsz.2.1,fun r hr=>by
   rcases Tg hr with h|rfl
   ·exact xsz.2.2 r h
   ·have:=(x3 q (SE hq)).2;exact⟨h1,by omega⟩⟩
  by_cases h5:c=5
  ·refine W.sq ?_;simp only[go_sem,u101,h5];refine W.cond (t:=true) rfl ?_;rcases row with ⟨hR1,hRN⟩|⟨Rn,q,idt,gt,cells,idr,hR1,hra,hRn⟩
   ·refine W.vs ?_;simp only[go_sem,u11,hR1];exact noch _ h0 (by omega) (by omega) (rW (by omega) hRN) (by simp only[go_sem,u3]) (by simp only[go_sem,u4])
   ·refine W.vs ?_;have hRl:=get_lt hra.q;have hrv:=hra.rv;have lt:=ah hra.top;have ltl:=hra.len;have e1:setAt cs0 (A*3+2) [.own idt gt 0 Rn 1]=bS ns A (aa x.card) pv (.own idt gt 0 Rn 1):=(by rw[eM (by omega),hcs0,Bm]);simp only[go_sem,u10,u11,hR1,sid,c2,hrv,lt,e1];refine⟨by omega,by omega,?_⟩;refine hset1 _ _ { x with rows:=x.rows.take Rn } pv (.own idt gt 0 Rn 1) (aj (x.rows.take Rn)) (by simp only[go_sem,u3]) (by simp only[go_sem,u4]) (by rw[au];exact Nat.le_refl _) (fun i h=>by rw[ae,SI (by omega)]) (by rw[ae,SK rfl];rfl) (fun H3 h7 h8=>?_) (.inl rfl) (fun hE=>?_) ⟨xsz.1,by simp;omega,fun r hr=>xsz.2.2 r (S8 hr)⟩ (by omega) (by omega) (by rw[h5];exact Lj hra.q hRn)
    ·have hk3:∀i g2 e2 c2,H.next+3<=i->Hs.get i=some (.arr g2 e2 c2)->e2≠87->H3.get i=Hs.get i:=fun i g2 e2 c2 h1 h3 h4=>by rw[h8 i (by omega),ae,SI (nid h3 h4)]
     have hM3:=hN.rows.xy (H':=H3) (by rw[h7,au];exact Nat.le_refl _) fun i g2 e2 c2 h1 _ h3 h4=>hk3 i g2 e2 c2 h1 h3 (by
      rcases h4 with h4|h4
      ·rw[h4];decide
      ·obtain⟨_,this⟩:=hN.rows.elem h4;rw[h3]at this;cases this;decide)
     exact⟨pkeep H3 (by rw[h7,au];exact Nat.le_refl _) fun i g h1 _ h3 _=>hk3 i g _ _ h1 h3 (by decide),RowAt.Lh hra hM3 (fun i h=>by show H.next<=i;omega) ((hk3 idt _ _ _ hra.tlo.1 hra.top (by decide)).trans hra.top)⟩
    ·rw[he]at hE;rcases hE with hE|hE
     ·omega
     ·have:=hE x hx;rw[this]at hRl;simp at hRl
  refine W.sq ?_;simp only[go_sem,u101,h5];refine W.cond (t:=false) rfl ?_
    -- a row's block turned,or its handle
  have fin6:∀(E':Env) (H2:AHeap) (Rn:Nat) (q q':List Int) (idt gt:Nat) (cells:List AVal) (idr:Nat) (wv:AVal),RowAt (H.next+3) Hs rv ids x.rows Rn q idt gt cells idr->E' 3=.ptr (H.next+1) 0 0->E' 4=.ptr (H.next+2) 0 0->q'≠[]->q'.length<=q.length+1->5<c->c≠10->c≠11->Rn=(r % (x.rows.length:Int)).toNat->q'=jF c n g q->Hs.next<=H2.next->(∀i,i<Hs.next->i≠idt->i≠idr->H2.get i=Hs.get i) ->
    H2.get idt=some (.arr gt 42 (cells.set Rn wv))->(∀H3:AHeap,H3.next=H2.next->(∀i,i≠H.next+2->H3.get i=H2.get i)->Fz (fun i=>H.next<=i) H3 H.next wv (af q'))->Φ ⟨E',H2⟩:=by
   intro E' H2 Rn q q' idt gt cells idr wv hra h3 h4 hq1 hq2 hc5 hc10 hc11 hRn hqB hn hk ht hfz;have hRl:=get_lt hra.q;have d1:=hra.tlo;have d2:=hra.rlo;have hrne:x.rows.set Rn q'≠[]:=fun h=>by
    have:=congrArg List.length h;rw[SO]at this;simp at this;rw[this]at hRl;simp at hRl
   have hrw:bq { x with rows:=x.rows.set Rn q' }=aj (x.rows.set Rn q'):=sB hrne;refine hset1 E' H2 { x with rows:=x.rows.set Rn q' } pv rv (aj (x.rows.set Rn q')) h3 h4 hn (fun i h=>hk i (by omega) (by omega) (by omega)) ?_ (fun H3 h7 h8=>?_) (.inl rfl) (fun _=>hrw.symm) (rsz Rn q q' hra.q hq1 hq2) hc10 hc11 (by rw[Lk hc5 hra.q hRn,hqB])
   ·rw[hk id z2 (fun h=>nid hra.top (by decide) h.symm) (fun h=>nid hra.row (by decide) h.symm),z5,hcs0]
   ·have hpk:=pkeep H3 (by rw[h7];exact hn) fun i g h1 h2 h3 h4=>by
     rw[h8 i (by omega)];refine hk i h2 (fun h=>?_) (h4 idr (SE hra.id));rw[h,hra.top]at h3;cases h3
    refine⟨hpk,RowAt.Li hra hN.rows (fun i h=>by show H.next<=i;omega) (by rw[h8 idt (by omega)];exact ht) (fun i hi hne=>?_) (hfz H3 h7 h8)⟩;have:=hN.rows.rng i hi;rw[h8 i (by omega)];exact hk i this.2 (fun h=>hra.nm (by rw[<- h];exact hi)) hne
  have cset:∀ {Rn:Nat} {q:List Int} {idt gt:Nat} {cells:List AVal} {idr:Nat},RowAt (H.next+3) Hs rv ids x.rows Rn q idt gt cells idr->cells.set Rn (.own idr 0 0 q.length 1)=cells:=fun hra=>lh hra.at';have fzrow:∀ {Rn:Nat} {q:List Int} {idt gt:Nat} {cells:List AVal} {idr:Nat},RowAt (H.next+3) Hs rv ids x.rows Rn q idt gt cells idr->∀(H3:AHeap) (l:List Int),l.length=q.length->H3.get idr=some (.arr 0 3 (ints l))->Fz (fun i=>H.next<=i) H3 H.next (.own idr 0 0 q.length 1) (af l):=fun {Rn q idt gt cells idr} hra H3 l hl hg=>by
   have:=hra.rlo;unfold af;rw[hl];refine .frz (show H.next<=idr by omega) hg (by rw[aH,hl,Nat.mul_one]) fun j hj h2 h'=>?_;simp only[Nat.zero_add,ints,SV];exact .lit _
  by_cases h6:c=6
  ·refine W.sq ?_;simp only[go_sem,u101,h6];refine W.cond (t:=true) rfl ?_;rcases row with ⟨hR1,hRN⟩|⟨Rn,q,idt,gt,cells,idr,hR1,hra,hRn⟩
   ·refine W.sq ?_;simp only[go_sem,u11,hR1];refine W.cond (t:=false) rfl ?_;refine W.vs ?_;simp only[go_sem];exact noch _ h0 (by omega) (by omega) (rW (by omega) hRN) (by simp only[go_sem,u3]) (by simp only[go_sem,u4])
   ·have hRl:=get_lt hra.q;have hrv:=hra.rv;have lt:=ah hra.top;have lr:=ah hra.row;have ltl:=hra.len;have hat:=hra.at';have tne:=aJ hat;have qe:=(x3 q (SE hra.q)).1;have ql:0<q.length:=T1.2 qe;have qli:(0:Int)<q.length:=(by omega);have qne:¬ints q=[]:=fun h=>by have:=congrArg List.length h;rw[aH,List.length_nil]at this;omega
    refine W.sq ?_;simp only[go_sem,u10,u11,hR1,sid,c2,hrv,lt,lr,hat,qli];refine⟨by omega,W.cond (t:=true) rfl ?_⟩;have e1:setAt (ints q) 0 [.lit (.int .i64 n)]=ints (q.set 0 n):=fD ql;refine W.dr 9 [0,1,3,7,0,31,63,0,128] Tryz.mixed ?_;simp only[go_sem,u2,u10,u11,hR1,s0,sid,c2,hrv,lt,lr,hat,qli];refine⟨by omega,by omega,fin6 _ _ Rn q (q.set 0 n) idt gt cells idr (.own idr 0 0 q.length 1) hra (by simp only[go_sem,u3]) (by simp only[go_sem,u4]) (fun h=>by have:=congrArg List.length h;rw[SO,List.length_nil]at this;omega) (by rw[SO];omega) (by omega) (by omega) (by omega) hRn (by rw[h6];rfl) (by rw[au];exact Nat.le_refl _) (fun i _ _ h2=>by rw[ae,SI h2]) (by rw[cset hra,ae,SI hra.ne];exact hra.top) fun H3 h7 h8=>fzrow hra H3 _ (SO ..) ?_⟩;rw[h8 idr (by have:=hra.rlo;omega),ae,SK rfl];cases q with
    |nil=>exact absurd rfl qe
    |cons a t=>rfl
  refine W.sq ?_;simp only[go_sem,u101,h6];refine W.cond (t:=false) rfl ?_;by_cases h7:c=7
  ·refine W.sq ?_;simp only[go_sem,u101,h7];refine W.cond (t:=true) rfl ?_;rcases row with ⟨hR1,hRN⟩|⟨Rn,q,idt,gt,cells,idr,hR1,hra,hRn⟩
   ·refine W.sq ?_;simp only[go_sem,u11,hR1];refine W.cond (t:=false) rfl ?_;refine W.vs ?_;simp only[go_sem];exact noch _ h0 (by omega) (by omega) (rW (by omega) hRN) (by simp only[go_sem,u3]) (by simp only[go_sem,u4])
   ·have hRl:=get_lt hra.q;have hrv:=hra.rv;have lt:=ah hra.top;have lr:=ah hra.row;have ltl:=hra.len;have hat:=hra.at';have tne:=aJ hat;refine W.sq ?_;simp only[go_sem,u11,hR1];refine W.cond (t:=true) rfl ?_;have hG:ay (H.next+3) Hs 3 (.own idr 0 0 q.length 1) (ints q):=.inr ⟨idr,0,hra.rlo.1,hra.rlo.2,by rw[aH],hra.row⟩;have hq2:=(x3 q (SE hra.q)).2;obtain⟨w2,H2,hA2,oW,n2,hp2⟩:=fW (P:=Tryz.prog) (H:=Hs) (t:=42) (x:=aa 0) (n:=Hs.next+1) Tryz.underlying42 Tryz.dz Tryz.dH rfl (by rw[Tryz.dL,aH];omega) hG (by omega) rfl;simp only[aa]at hA2;have k2:∀i,i<Hs.next->i≠idr->H2.get i=Hs.get i:=fun i h1 h2=>hp2 i h1 fun g n hv=>h2 (AVal.own.inj hv).1.symm;have lt2:=ah ((k2 idt hra.tlo.2 hra.ne).trans hra.top);have w21:=oW.one;have w2c:=oW.cells;have e1:setAt cells Rn [w2]=cells.set Rn w2:=eM (by omega);refine W.dr 14 [0,1,3,7,0,0,32,96,224,0,992,2016,0,8160] Tryz.mixed ?_;simp only[go_sem,u10,u11,hR1,sid,c2,hrv,lt,ltl,hat,hA2,lt2,w21,w2c,e1];have dd1:=hra.tlo;have dd2:=hra.rlo;have dd3:idr≠id:=nid hra.row (by decide);refine⟨by omega,by repeat' (first|refine And.intro ?_ ?_|(intro x hx;omega)),by repeat' (first|refine And.intro ?_ ?_|(intro x hx;omega)),by omega,by omega,fin6 _ _ Rn q (q++[0]) idt gt cells idr w2 hra (by simp only[go_sem,u3]) (by simp only[go_sem,u4]) (by simp) (by simp) (by omega) (by omega) (by omega) hRn (by rw[h7];rfl) (by rw[au];omega) (fun i h1 h2 h3=>by rw[ae,SI h2];exact k2 i h1 h3) (by rw[ae,SK rfl]) fun H3 h7 h8=>?_⟩;have oW3:ay (H.next+3) H3 3 w2 (ints (q++[0])):=by
     have:=oW.keep (H':=H3) (Nat.le_refl _) (by rw[h7,au];exact Nat.le_refl _) fun i g h1 _ h3 _=>by
      rw[h8 i (by omega),ae,SI];rintro rfl;rw[(k2 _ hra.tlo.2 hra.ne).trans hra.top]at h3;cases h3
     simpa[ints] using this
    exact oW3.dG fun i h=>by omega
  refine W.sq ?_;simp only[go_sem,u101,h7];refine W.cond (t:=false) rfl ?_;by_cases h8:c=8
  ·refine W.sq ?_;simp only[go_sem,u101,h8];refine W.cond (t:=true) rfl ?_;rcases row with ⟨hR1,hRN⟩|⟨Rn,q,idt,gt,cells,idr,hR1,hra,hRn⟩
   ·refine W.sq ?_;simp only[go_sem,u11,hR1];refine W.cond (t:=false) rfl ?_;refine W.vs ?_;simp only[go_sem];exact noch _ h0 (by omega) (by omega) (rW (by omega) hRN) (by simp only[go_sem,u3]) (by simp only[go_sem,u4])
   ·have hRl:=get_lt hra.q;have hrv:=hra.rv;have lt:=ah hra.top;have lr:=ah hra.row;have ltl:=hra.len;have hat:=hra.at';have tne:=aJ hat;have qe:=(x3 q (SE hra.q)).1;have ql:0<q.length:=T1.2 qe;have qli:(0:Int)<q.length:=(by omega);refine W.sq ?_;simp only[go_sem,u10,u11,hR1,sid,c2,hrv,lt,lr,hat,qli];refine⟨by omega,W.cond (t:=true) rfl ?_⟩;refine W.seq ?_;refine W.dr 14 [0,1,3,7,0,0,32,96,224,0,992,2016,4064,8160] Tryz.mixed ?_;have dd1:=hra.tlo;have dd2:=hra.rlo;have dd3:idr≠id:=nid hra.row (by decide);have dd4:idt≠id:=nid hra.top (by decide);have hq2:=(x3 q (SE hra.q)).2;have lte:∀L,(ext Hs L).live idt gt=_:=fun L=>(dh (by omega)).trans lt;have side:∀L,(ext Hs L).live id gg=_:=fun L=>(dh (by omega)).trans sid;have e1:setAt cells Rn [.own Hs.next 0 0 q.length 1]=cells.set Rn (.own Hs.next 0 0 q.length 1):=eM (by omega);simp only[go_sem,u10,u11,hR1,sid,c2,hrv,lt,lr,ltl,hat,lte,e1];obtain⟨H2,hH2⟩:∃H2,H2=(ext Hs [.arr 0 3 (List.replicate q.length (.lit (.int .i64 0)))]).upd idt (.arr gt 42 (cells.set Rn (.own Hs.next 0 0 q.length 1))):=⟨_,rfl⟩
    rw[<- hH2];have n2:H2.next=Hs.next+1:=(by rw[hH2];rfl);have k2:∀i,i<Hs.next->i≠idt->H2.get i=Hs.get i:=fun i h1 h2=>by rw[hH2,ae,SI h2];exact dv _ _ _ h1
    have t2:H2.get idt=some (.arr gt 42 (cells.set Rn (.own Hs.next 0 0 q.length 1))):=(by rw[hH2,ae,SK rfl]);have r2:H2.get Hs.next=some (.arr 0 3 (List.replicate q.length (.lit (.int .i64 0)))):=(by rw[hH2,ae,SI (by omega)];exact cq ..);clear hH2;have lt2:=ah t2;have lr2:=ah r2;have lid2:=ah ((k2 id z2 (fun h=>dd4 h.symm)).trans z5);have l12:=ah ((k2 (H.next+1) (by omega) (by omega)).trans g1);have at2:(cells.set Rn (.own Hs.next 0 0 q.length 1))[Rn]?=some (.own Hs.next 0 0 q.length 1):=SX (by omega);have tne2:=aJ at2;have len2:(cells.set Rn (.own Hs.next 0 0 q.length 1)).length=x.rows.length:=(by rw[SO];exact ltl);have rne:¬List.replicate q.length (AVal.lit (.int .i64 0))=[]:=fun h=>by have:=congrArg List.length h;rw[S6,List.length_nil]at this;omega
    refine⟨by omega,by omega,by repeat' (first|refine And.intro ?_ ?_|(intro x hx;omega)),by omega,by omega,?_⟩;refine W.dr 9 [0,1,3,7,0,31,63,0,128] Tryz.mixed ?_;simp only[go_sem,u3,u10,u11,hR1,lid2,l12,c2,hrv,lt2,lr2,at2,qli];refine⟨by omega,by rw[S6];omega,fin6 _ _ Rn q (g :: List.replicate (q.length-1) 0) idt gt cells idr (.own Hs.next 0 0 q.length 1) hra (by simp only[go_sem,u3]) (by simp only[go_sem,u4]) (by simp) (by rw[List.length_cons,S6];omega) (by omega) (by omega) (by omega) hRn (by rw[h8];rfl) (by rw[au];omega) (fun i h1 h2 _=>by rw[ae,SI (by omega)];exact k2 i h1 h2) (by rw[ae,SI (by omega)];exact t2) fun H3 h7 h8=>?_⟩;obtain⟨ml,hml⟩:∃ml,q.length=ml+1:=⟨q.length-1,by omega⟩
    have hgr:H3.get Hs.next=some (.arr 0 3 (ints (g :: List.replicate ml 0))):=by
     rw[h8 Hs.next (by omega),ae,SK rfl,hml];simp[TI,ints,aa]
    unfold af;rw[hml,U9,show (g :: List.replicate ml (0:Int)).length=ml+1 by simp];refine .frz (show H.next<=Hs.next by omega) hgr (by rw[aH];simp) fun j hj h2 h'=>?_;simp only[Nat.zero_add,ints,SV];exact .lit _
  refine W.sq ?_;simp only[go_sem,u101,h8];refine W.cond (t:=false) rfl ?_;by_cases h9:c=9
  ·refine W.sq ?_;simp only[go_sem,u101,h9];refine W.cond (t:=true) rfl ?_;rcases row with ⟨hR1,hRN⟩|⟨Rn,q,idt,gt,cells,idr,hR1,hra,hRn⟩
   ·refine W.sq ?_;simp only[go_sem,u11,hR1];refine W.cond (t:=false) rfl ?_;refine W.vs ?_;simp only[go_sem];exact noch _ h0 (by omega) (by omega) (rW (by omega) hRN) (by simp only[go_sem,u3]) (by simp only[go_sem,u4])
   ·have hRl:=get_lt hra.q;have hrv:=hra.rv;have lt:=ah hra.top;have lr:=ah hra.row;have ltl:=hra.len;have hat:=hra.at';have tne:=aJ hat;have hq2:=(x3 q (SE hra.q)).2;have w1:=SF ((q.length:Int)-1) (by omega);refine W.sq ?_;simp only[go_sem,u11,hR1];refine W.cond (t:=true) rfl ?_;refine W.seq ?_;refine W.dr 10 [0,1,3,7,0,31,63,127,255,0] Tryz.mixed ?_;simp only[go_sem,u10,u11,hR1,sid,c2,hrv,lt,lr,hat,w1];have qe:=(x3 q (SE hra.q)).1;have ql:0<q.length:=T1.2 qe;refine⟨by omega,W.block ?_⟩;refine W.env fun E1 hE1=>?_;have y3:E1 3=.ptr (H.next+1) 0 0:=(by rw[hE1];simp only[go_sem,u3]);have y4:E1 4=.ptr (H.next+2) 0 0:=(by rw[hE1];simp only[go_sem,u4]);have y10:E1 10=.ptr id gg (A*3):=(by rw[hE1];simp only[go_sem,u10]);have y11:E1 11=aa (Rn:Int):=(by rw[hE1];simp only[go_sem,u11,hR1]);have y12:E1 12=aa 0:=(by rw[hE1];simp only[go_sem]);have y13:E1 13=aa ((q.length:Int)-1):=(by rw[hE1];simp only[go_sem]);clear hE1;refine W.aG 2085924839766484109564043631985174802744541411009508283535333416154492349816150761370611118080 (by kernel_rfl) (fun ρ Hy=>∃(i k:Int) (l:List Int) (fu:Nat),ρ 12=aa i/\ρ 13=aa k/\0<=i/\k<q.length/\i<=q.length/\-1<=k/\l.length=q.length/\Hy.next=Hs.next/\(∀j,j≠idr->Hy.get j=Hs.get j)/\Hy.get idr=some (.arr 0 3 (ints l))/\jW fu i k l=jW (q.length+1) 0 ((q.length:Int)-1) q/\k-i<fu) (fun ρ H=>(iv (ρ 13)-iv (ρ 12)+1).toNat) ?_ ?_
    ·simp only[go_sem,y12,y13];exact⟨0,_,q,q.length+1,rfl,rfl,by omega,by omega,by omega,by omega,rfl,hra.row,rfl,by omega⟩
    rintro ρ5 Hy ⟨i,k,l,fu,h12,h13,i0,k0,i1,k1,hl,ny,yo,yr,hrev,hfu⟩;refine W.env fun E2 hE2=>?_;have a3:E2 3=.ptr (H.next+1) 0 0:=(by rw[hE2];simp only[go_sem,y3]);have a4:E2 4=.ptr (H.next+2) 0 0:=(by rw[hE2];simp only[go_sem,y4]);have a10:E2 10=.ptr id gg (A*3):=(by rw[hE2];simp only[go_sem,y10]);have a11:E2 11=aa (Rn:Int):=(by rw[hE2];simp only[go_sem,y11]);have a12:E2 12=aa i:=(by rw[hE2];simp only[go_sem,h12]);have a13:E2 13=aa k:=(by rw[hE2];simp only[go_sem,h13]);clear hE2;have dd1:=hra.tlo;have dd2:=hra.rlo;have dd3:id≠idr:=fun h=>nid hra.row (by decide) h.symm;have lidy:=ah ((yo id dd3).trans z5);have lty:=ah ((yo idt hra.ne).trans hra.top);have lry:=ah yr;by_cases hik:i<k;rotate_left
    ·refine W.vs ?_;simp only[go_sem,a12,a13,hik];refine fin6 _ _ Rn q l idt gt cells idr (.own idr 0 0 q.length 1) hra (by simp only[go_sem,a3]) (by simp only[go_sem,a4]) (fun h=>by rw[h]at hl;simp at hl;omega) (by omega) (by omega) (by omega) (by omega) hRn (by rw[h9,show jF 9 n g q=jW (q.length+1) 0 ((q.length:Int)-1) q from rfl,<- hrev,Lm hik]) (by omega) (fun j _ _ h2=>yo j h2) (by rw[cset hra,yo idt hra.ne];exact hra.top) fun H3 h7 h8=>fzrow hra H3 l hl (by rw[h8 idr (by omega)];exact yr)
    obtain⟨iN,rfl⟩:=SR i0;obtain⟨kN,rfl⟩:=SR (show 0<=k by omega);obtain⟨qa,hqa⟩:=get_of_lt (l:=l) (i:=iN) (by omega);obtain⟨qb,hqb⟩:=get_of_lt (l:=l) (i:=kN) (by omega);have ia:(ints l)[iN]?=some (aa qa):=(by rw[ij,hqa];rfl);have ib:(ints l)[kN]?=some (aa qb):=(by rw[ij,hqb];rfl);have lne:=aJ ia;have ill:(ints l).length=q.length:=(by rw[aH];exact hl);have b1':(iN:Int)<q.length:=(by omega);have b2':(kN:Int)<q.length:=(by omega);refine W.sq ?_;simp only[go_sem,a12,a13,hik];refine W.seq (W.block ?_);refine W.sq ?_;simp only[go_sem,a10,a11,a12,lidy,c2,hrv,lty,hat,lry,ia,b1'];refine⟨by omega,?_⟩;refine W.seq ?_;refine W.dr 18 [0,1,3,7,0,31,63,0,0,256,768,1792,0,7936,16128,0,65280,130816] Tryz.mixed ?_;have eA:setAt (ints l) iN [.lit (.int .i64 qb)]=ints (l.set iN qb):=fD (by omega);simp only[go_sem,a10,a11,a12,a13,lidy,c2,hrv,lty,hat,lry,ib,ill,b1',b2',eA];refine⟨by omega,by omega,by omega,?_⟩;obtain⟨Hz,hHz⟩:∃Hz,Hz=Hy.upd idr (.arr 0 3 (ints (l.set iN qb))):=⟨_,rfl⟩
    rw[<- hHz];have nz:Hz.next=Hs.next:=(by rw[hHz,au];exact ny);have zo:∀j,j≠idr->Hz.get j=Hs.get j:=fun j h=>by rw[hHz,ae,SI h];exact yo j h
    have zr:Hz.get idr=some (.arr 0 3 (ints (l.set iN qb))):=(by rw[hHz,ae,SK rfl]);clear hHz;have lidz:=ah ((zo id dd3).trans z5);have ltz:=ah ((zo idt hra.ne).trans hra.top);have lrz:=ah zr;have zll:(ints (l.set iN qb)).length=q.length:=(by rw[aH,SO];exact hl);have zne:¬ints (l.set iN qb)=[]:=fun h=>by have:=congrArg List.length h;rw[zll,List.length_nil]at this;omega
    have eB:setAt (ints (l.set iN qb)) kN [.lit (.int .i64 qa)]=ints ((l.set iN qb).set kN qa):=fD (by rw[SO];omega);have wk:=SF ((kN:Int)-1) (by omega);have wi:=SF ((iN:Int)+1) (by omega);refine W.vs ?_;simp only[go_sem,a10,a11,a13,lidz,c2,hrv,ltz,hat,lrz,zll,b2',eB,wk];refine⟨by omega,by omega,?_⟩;refine W.vs ?_;simp only[go_sem,a12,a13,wi];obtain⟨fv,rfl⟩:∃fv,fu=fv+1:=⟨fu-1,by omega⟩
    refine⟨by rw[au];omega,⟨(iN:Int)+1,(kN:Int)-1,(l.set iN qb).set kN qa,fv,rfl,rfl,by omega,by omega,by omega,by omega,by rw[SO,SO];exact hl,by rw[au];exact nz,fun j h=>by rw[ae,SI h];exact zo j h,by rw[ae,SK rfl],by rw[<- hrev,Ln hik hqa hqb],by omega⟩,by rw[h12,h13];simp only[aa,aM];omega⟩
  refine W.sq ?_;simp only[go_sem,u101,h9];refine W.cond (t:=false) rfl ?_;by_cases h10:c=10
  ·refine W.sq ?_;simp only[go_sem,u101,h10];refine W.cond (t:=true) rfl ?_;obtain⟨He,hHe⟩:∃He,He=ext Hs [.arr 0 3 [.lit (.int .i64 g)],.arr 0 42 [.own Hs.next 0 0 1 1]]:=⟨_,rfl⟩
   have ne':He.next=Hs.next+2:=(by rw[hHe];rfl);have oe:Over Hs He:=(by rw[hHe];exact .ext _ _);have zO:cG (H.next+3) He 87 3 (.own id gg 0 ns.length 3) ns.length cs0:=.inr ⟨id,gg,z1,by omega,rfl,z4,(oe.old id z2).trans z5⟩;obtain⟨nh2,H2,hA2,oZ,n2,hp2⟩:=mR (P:=Tryz.prog) (H:=He) (t:=34) (xs:=[.lit (.int .i64 1),.lit (.slice none 0 0),.own (Hs.next+1) 0 0 1 1]) (m:=Hs.next+3) Tryz.underlying34 Tryz.sf Tryz.sj rfl rfl (by rw[Tryz.sh];omega) zO (by omega) (by omega);have l12:=ah ((hp2 (H.next+1) (by omega) fun g' n hv=>by have:=(AVal.own.inj hv).1;omega).trans ((oe.old _ (by omega)).trans g1));have kk:∀i,i<He.next->i≠id->H2.get i=He.get i:=fun i h1 h2=>hp2 i h1 fun g' n hv=>h2 (AVal.own.inj hv).1.symm;have r1:He.get Hs.next=some (.arr 0 3 [.lit (.int .i64 g)]):=(by rw[hHe];exact bD Hs _ 0 (by simp));have r2:He.get (Hs.next+1)=some (.arr 0 42 [.own Hs.next 0 0 1 1]):=(by rw[hHe];exact bD Hs _ 1 (by simp));have nh1':=oZ.one;have nhc':=oZ.cells;rw[ne',hHe,dp]at hA2;simp only[List.cons_append,List.nil_append]at hA2;refine W.vs ?_;simp only[go_sem,u3,s1,hA2,l12,nh1',nhc'];refine(hΦ _).2 ⟨by simp only[go_sem,u3],by simp only[go_sem,u4],g,nh2,ns++[⟨1,[],[[g]]⟩],bS ns A (aa x.card) (af x.parents) (bq x)++[aa 1,af [],bq ⟨1,[],[[g]]⟩],by rw[au];omega,fun i h=>by rw[ae,SI (by omega),kk i (by omega) (by omega),oe.old i (by omega)];exact sold i h,by rw[ae,SK rfl],nh1',nhc',?_,fun H3 h5 h6=>?_,⟨by have:=hs.len;simp;omega,fun y hy=>?_⟩,nq0.snoc (x:=⟨1,[],[[g]]⟩) (.inr rfl) fun _=>rfl,fun h=>absurd (hc.trans h) h0,by simp,by rw[<- hc,h10];unfold fq;rw[hx];rfl⟩
   ·obtain⟨q,hq,ql⟩:=g2';exact⟨q,by rw[ae,SI (by omega),kk _ (by omega) (by omega),oe.old _ (by omega)];exact hq,ql⟩
   ·have hk3:∀i,H.next+3<=i->H3.get i=H2.get i:=fun i h=>by rw[h6 i (by omega),ae,SI (by omega)]
    have n3:H3.next=H2.next:=(by rw[h5,au]);have oZ3:=oZ.keep (H':=H3) (by omega) fun i g h1 _ _=>hk3 i h1;have hN3:NodO (H.next+3) H3 pv rv ids x:=hN.keepE (by omega) fun i g2 e2 c2 h1 h2 h3 h4=>by rw[hk3 i h1,kk i (by omega) (nid h3 h4),oe.old i h2]
    have hl1:(ns++[(⟨1,[],[[g]]⟩:NodeP)]).length=ns.length+1:=(by simp);rw[hl1];refine uy oZ3 (fun i h=>by show H.next<=i;omega) (by rw[hcs0];simp[jV]) fun i hi hi'=>?_;have e1:=SJ hi;have e2:=SJ hi';generalize (cs0++[AVal.lit (.int .i64 1),.lit (.slice none 0 0),.own (Hs.next+1) 0 0 1 1])[i]=u at e1 ⊢;generalize (bS ns A (aa x.card) (af x.parents) (bq x)++[aa 1,af [],bq ⟨1,[],[[g]]⟩])[i]=u' at e2 ⊢;rw[hcs0]at e1;by_cases hi3:i<ns.length*3
    ·rw[SU (by rw[jV];exact hi3)]at e1 e2;have:=xB (S:=fun i=>H.next<=i) (H:=H3) (nx:=H.next) (ns:=ns) (A:=A) (c:=x.card) (hN3.rV (hgone _)) (hN3.oO (hgone _)) i (by rw[jV];exact hi3) (by rw[jV];exact hi3);rw[SJ (by rw[jV];exact hi3)]at e1 e2;rw[Option.some.inj e1,Option.some.inj e2]at this;exact this
    ·rw[SZ (by rw[jV];omega),jV]at e1 e2;have hil:i<ns.length*3+3:=(by rw[List.length_append,hcs0,jV]at hi;simpa using hi);have h3:i-ns.length*3=0\/i-ns.length*3=1\/i-ns.length*3=2:=(by omega);rcases h3 with h|h|h<;>rw[h]at e1 e2<;>cases e1<;>cases e2
     ·exact .lit _
     ·exact .nil
     ·have hr1:H3.get (Hs.next+1)=_:=(hk3 _ (by omega)).trans ((kk _ (by omega) (by omega)).trans r2);have hr0:H3.get Hs.next=_:=(hk3 _ (by omega)).trans ((kk _ (by omega) (by omega)).trans r1);show Fz _ _ _ _ (aj [[g]]);refine .frz (show H.next<=Hs.next+1 by omega) hr1 rfl fun j hj h2 h'=>?_;obtain rfl:j=0:=(by omega);refine .frz (show H.next<=Hs.next by omega) hr0 rfl fun j hj h2 h'=>?_;obtain rfl:j=0:=(by omega);exact .lit _
   ·rcases S5.1 hy with hy|hy
    ·exact hsm0.node y hy
    ·obtain rfl:=List.mem_singleton.1 hy;exact⟨by simp,by simp,fun r hr=>by simp at hr;subst hr;exact⟨by simp,by simp⟩⟩
  refine W.sq ?_;simp only[go_sem,u101,h10];refine W.cond (t:=false) rfl ?_;refine W.vs ?_;have wn:=SF ((ns.length:Int)-1) (by omega);simp only[go_sem,u3,s1,sid,wn];refine⟨by omega,(hΦ _).2 ⟨by simp only[go_sem,u3],by simp only[go_sem,u4],g,_,ns.take (ns.length-1),(bS ns A (aa x.card) (af x.parents) (bq x)).take ((ns.length-1)*3),by rw[au];exact Nat.le_refl _,fun i h=>by rw[ae,SI (by omega)];exact sold i h,by rw[ae,SK rfl],rfl,rfl,?_,fun H3 h5 h6=>?_,hsm0.take _,nq0.take _,fun h=>absurd (hc.trans h) h0,by rw[SN];omega,by rw[<- hc,show c=11 by omega];unfold fq;rw[hx];rfl⟩⟩
  ·obtain⟨q,hq,ql⟩:=g2';exact⟨q,by rw[ae,SI (by omega)];exact hq,ql⟩
  ·have hk3:∀i,H.next+3<=i->H3.get i=Hs.get i:=fun i h=>by rw[h6 i (by omega),ae,SI (by omega)]
   have hN3:NodO (H.next+3) H3 pv rv ids x:=hN.keep (by rw[h5,au];exact Nat.le_refl _) fun i h1 _=>hk3 i h1;have e1:((ns.length:Int)-1).toNat=ns.length-1:=(by omega);have e2:(ns.take (ns.length-1)).length=ns.length-1:=(by rw[SN];omega);rw[e1,e2];refine .frz (show H.next<=id by omega) ((hk3 id z1).trans z5) (by rw[SN,jV];omega) fun j hj h2 h'=>?_;have e0:0+j=j:=Nat.zero_add j;simp only[e0,hcs0,Un];exact xB (hN3.rV (hgone _)) (hN3.oO (hgone _)) j _ _
 refine W.sq ?_;simp only[go_sem];refine W.block ?_;refine W.en (fun E1=>E1 2=.ptr H.next 0 0 /\ E1 3=.ptr (H.next+1) 0 0 /\ E1 4=.ptr (H.next+2) 0 0 /\ E1 5=.lit (.slice none 0 0) /\ E1 6=aa 0) (by simp only[go_sem,e2,e3,e4]) fun E1 ⟨a2,a3,a4,a5,a6⟩=>?_
 refine W.aG 1180591620717411271648 (by rfl) (fun ρ Hx=>∃(k:Nat),ρ 6=aa k/\k<=ns.length/\Hb.next<=Hx.next/\(∀id,id<H.next+3->Hx.get id=Hb.get id)/\Bi ns A (H.next+3) k Hx (ρ 5)) (fun ρ H=>ns.length-(iv (ρ 6)).toNat) ?_ ?_
 ·simp only[go_sem,a5,a6];refine⟨0,rfl,by omega,.lit (.slice none 0 0),.lit (.slice none 0 0),?_,rfl,rfl,fun h=>absurd h (S4 _)⟩;have:eP ns A 0 (.lit (.slice none 0 0)) (.lit (.slice none 0 0))=[]:=rfl;rw[this];exact .nil
 rintro ρ Hx ⟨k,h6,hk,nx,hold,hC⟩;obtain⟨nh,h5⟩:∃nh,ρ 5=nh:=⟨_,rfl⟩
 rw[h5]at hC;refine W.en (fun E2=>E2 2=.ptr H.next 0 0 /\ E2 3=.ptr (H.next+1) 0 0 /\ E2 4=.ptr (H.next+2) 0 0 /\ E2 5=nh /\ E2 6=aa k) (by simp only[go_sem,a2,a3,a4,h5,h6]) fun E2 ⟨c2,c3,c4,c5,c6⟩=>?_
 have l1:=ah ((hold _ (by omega)).trans b1);by_cases hb:(k:Int)<ns.length;rotate_left
 ·have hke:k=ns.length:=by omega
  rw[hke]at hC;refine W.vs ?_;simp only[go_sem,c2,c3,c4,c5,c6,l1,hb];exact⟨nx,hold,hC⟩
 obtain⟨x,hx⟩:=get_of_lt (l:=ns) (i:=k) (by omega);have q0:=iJ hx;have q1:=jY hx;have q2:=qf hx;have qn:=dJ hx;obtain⟨x1,x2,x3⟩:=hs.node x (SE hx);refine W.sq ?_;simp only[go_sem,c3,c6,l1,hb];obtain⟨pv,rv,hO,pv1,rv1,hNA⟩:=hC;refine W.seq ?_;refine W.me (Q':=fun e s2=>e=.normal/\s2.ρ 6=aa k/\Hx.next<=s2.H.next/\(∀id,id<H.next+3->s2.H.get id=Hb.get id)/\(∀i g e c,i<Hx.next->Hx.get i=some (.arr g e c)->e≠87->s2.H.get i=Hx.get i)/\∃pk rk ids,cG (H.next+3) s2.H 87 3 (s2.ρ 5) (k+1) (eP ns A k pv rv++[aa x.card,pk,rk])/\NodO (Hx.next+1) s2.H pk rk ids x) ?_ ?_;rotate_left
 ·rintro e s2 ⟨rfl,a6',nx2,old2,kp2,pk,rk,ids,oZ,nodK⟩;have w1:=SF ((k:Int)+1) (by omega);by_cases hkA:k=A
  ·refine⟨s2,.same,Nat.le_refl _,trivial,?_⟩;simp only[go_sem];refine W.vs ?_;simp only[go_sem,a6',w1];refine⟨by omega,⟨k+1,rfl,by omega,by omega,old2,pk,rk,?_,nodK.par.one,(uw nodK.rows).1,fun _=>⟨x,by rw[<- hkA];exact hx,ids,nodK.low (by omega)⟩⟩,by rw[h6];simp only[aa,aM];omega⟩;rw[<- hkA]at oZ ⊢;rw[La hx]at oZ;exact oZ
  ·rcases oZ with ⟨_,h0,_⟩|⟨id,gg,z1,z2,z3,z4,z5⟩
   ·omega
   have ec:=Lb hx hkA pv rv;have hgone:rU (fun i=>Hx.next<=i/\i≠id) (Hx.next+1) s2.H:=fun i g e c h1 h2 h3 h4=>⟨by omega,fun he=>by
    subst he;rw[z5]at h3;cases h3;exact h4 rfl⟩
   refine⟨⟨s2.ρ,s2.H.gR Hx.next id (.arr gg 87 (eP ns A (k+1) pv rv))⟩,cJ.gR aE z5 (by rw[ec];simp) (fun hbel i hi hi'=>?_),Nat.le_refl _,trivial,?_⟩
   ·have e1:=SJ hi;have e2:=SJ hi';have hm:=hbel _ (Tk hi);generalize (eP ns A k pv rv++[aa x.card,pk,rk])[i]=u at e1 hm ⊢;generalize (eP ns A (k+1) pv rv)[i]=u' at e2 ⊢;rw[ec]at e2;by_cases hip:i<(eP ns A k pv rv).length
    ·rw[SU hip]at e1 e2;rw[e1]at e2;cases e2;exact .dead hm
    ·rw[SZ (by omega)]at e1 e2;have h3:i-(eP ns A k pv rv).length=0\/i-(eP ns A k pv rv).length=1\/i-(eP ns A k pv rv).length=2:=by
      rw[List.length_append]at hi;simp at hi;omega
     rcases h3 with h|h|h<;>rw[h]at e1 e2<;>cases e1<;>cases e2
     ·exact .lit _
     ·exact nodK.rV hgone
     ·exact nodK.oO hgone
   ·simp only[go_sem];refine W.vs ?_;simp only[go_sem,a6',w1];have hmn:(s2.H.gR Hx.next id (.arr gg 87 (eP ns A (k+1) pv rv))).next=s2.H.next:=rfl;refine⟨by rw[hmn];omega,⟨k+1,rfl,by omega,by rw[hmn];omega,fun i hi=>?_,pv,rv,.inr ⟨id,gg,z1,by rw[hmn];exact z2,z3,by rw[ec];simpa using z4,uu⟩,pv1,rv1,fun hlt=>?_⟩,by rw[h6];simp only[aa,aM];omega⟩
    ·rw[rS (by omega) (by omega)];exact old2 i hi
    ·obtain⟨y,hy,ids',hNy⟩:=hNA (by omega);refine⟨y,hy,ids',hNy.keepE (by rw[hmn];omega) fun i g e c h1 h2 h3 h4=>?_⟩;rw[rS h2 (fun he=>by
      subst he;rw[kp2 i g e c h2 h3 h4,h3]at z5;cases z5;exact h4 rfl)]
     exact kp2 i g e c h2 h3 h4
 refine W.block ?_;refine W.sq ?_;simp only[go_sem,c3,c6,l1,hb,q0,qn];obtain⟨Hp,hHp⟩:∃Hp,Hp=ext Hx [.arr 0 87 [.lit (.int .i64 x.card),.lit (.slice none 0 0),.lit (.slice none 0 0)]]:=⟨_,rfl⟩
 have np:Hp.next=Hx.next+1:=hHp▸rfl
 have op:Over Hx Hp:=hHp▸.ext _ _
 have gP:=df hHp
 rw[<- hHp];clear hHp;refine W.en (fun E3=>E3 2=.ptr H.next 0 0 /\ E3 3=.ptr (H.next+1) 0 0 /\ E3 5=nh /\ E3 6=aa k /\ E3 7=.ptr Hx.next 0 0) (by simp only[go_sem,c2,c3,c5,c6]) fun E3 ⟨d2,d3,d5,d6,d7⟩=>?_
 have lP:=ah gP;have l1p:Hp.live (H.next+1) 0=_:=(op.live (by omega)).trans l1;refine W.seq ?_;refine W.dr 8 [0,1,0,4,0,28,60,124] Tryz.mixed ?_;simp only[go_sem,d3,d6,d7,lP,l1p,hb,q1,qn];obtain⟨pk,H2,hA2,oP,n2,hp2⟩:=lK (P:=Tryz.prog) (H:=Hp) (t:=42) (n:=Hp.next) (lo:=Hp.next) (src:=ints x.parents) Tryz.underlying42 Tryz.dz Tryz.dH (gQ _) (by rw[Tryz.dL,aH,List.length_nil];omega) .nil (Nat.le_refl _) rfl;rw[List.nil_append]at oP;rw[aH]at hA2;have o2:Over Hp H2:=⟨n2,fun id h=>hp2 id h fun g m=>by simp⟩
 have lP2:H2.live Hx.next 0=_:=(o2.live (by omega)).trans lP;have pk1:=oP.one;have pkc:=oP.cells;simp only[go_sem,d7,hA2,lP2,pk1,pkc];obtain⟨H3,hH3⟩:∃H3,H3=H2.upd Hx.next (.arr 0 87 [.lit (.int .i64 x.card),pk,.lit (.slice none 0 0)]):=⟨_,rfl⟩
 have n3:H3.next=H2.next:=by rw[hH3];rfl
 have h3o:∀id,id<Hx.next->H3.get id=Hx.get id:=fun id h=>by rw[hH3,ae,SI (by omega),o2.old id (by omega),op.old id h]
 have h3P:H3.get Hx.next=some (.arr 0 87 [.lit (.int .i64 x.card),pk,.lit (.slice none 0 0)]):=by rw[hH3,ae,SK rfl]
 have h3N:NodO (Hx.next+1) H3 pk (.lit (.slice none 0 0)) [] ⟨x.card,x.parents,x.rows.take 0⟩:=⟨oP.keep (by omega) (by omega) fun id g h1 _ _ _=>by rw[hH3,ae,SI (by omega)],.nil,fun _ _ _ _=>by simp,fun _=>rfl⟩
 rw[<- hH3];clear hH3 hA2 lP2 o2 hp2 oP;refine W.en (fun E4=>E4 2=.ptr H.next 0 0 /\ E4 3=.ptr (H.next+1) 0 0 /\ E4 5=nh /\ E4 6=aa k /\ E4 7=.ptr Hx.next 0 0) (by simp only[go_sem,d2,d3,d5,d6,d7]) fun E4 ⟨f2,f3,f5,f6,f7⟩=>?_
 refine W.ik (fun s'=>s'.ρ 5=nh/\s'.ρ 6=aa k/\s'.ρ 7=.ptr Hx.next 0 0/\Hx.next<s'.H.next/\(∀id,id<Hx.next->s'.H.get id=Hx.get id)/\∃rk ids,s'.H.get Hx.next=some (.arr 0 87 [.lit (.int .i64 x.card),pk,rk])/\NodO (Hx.next+1) s'.H pk rk ids x) ?_ ?_
 ·refine W.sq ?_;simp only[go_sem];refine W.block ?_;refine W.en (fun E5=>E5 3=.ptr (H.next+1) 0 0 /\ E5 5=nh /\ E5 6=aa k /\ E5 7=.ptr Hx.next 0 0 /\ E5 8=aa 0) (by simp only[go_sem,f3,f5,f6,f7]) fun E5 ⟨g3,g5,g6,g7,g8⟩=>?_
  refine W.aG 73786975745082393344 (by rfl) (fun ρ2 Hy=>∃(i:Nat) (rk:AVal) (ids:List Nat),ρ2 8=aa i/\i<=x.rows.length/\H3.next<=Hy.next/\(∀id,id<Hx.next->Hy.get id=Hx.get id)/\Hy.get Hx.next=some (.arr 0 87 [.lit (.int .i64 x.card),pk,rk])/\NodO (Hx.next+1) Hy pk rk ids ⟨x.card,x.parents,x.rows.take i⟩) (fun ρ H=>x.rows.length-(iv (ρ 8)).toNat) ?_ ?_
  ·simp only[go_sem,g8];exact⟨0,_,[],rfl,by omega,h3o,h3P,h3N⟩
  rintro ρ2 Hy ⟨i,rk,ids,h8,hi,ny,yo,yP,yN⟩;have l1y:=ah ((yo _ (by omega)).trans ((hold _ (by omega)).trans b1));have lPy:=ah yP;refine W.en (fun E6=>E6 3=.ptr (H.next+1) 0 0 /\ E6 5=nh /\ E6 6=aa k /\ E6 7=.ptr Hx.next 0 0 /\ E6 8=aa i) (by simp only[go_sem,g3,g5,g6,g7,h8]) fun E6 ⟨k3,k5,k6,k7,k8⟩=>?_
  by_cases hbi:(i:Int)<x.rows.length;rotate_left
  ·refine W.vs ?_;simp only[go_sem,k3,k5,k6,k7,k8,l1y,hb,q2,qn,aj,hbi];rw[SH (by omega)]at yN;exact⟨by omega,yo,rk,ids,yP,yN⟩
  obtain⟨q,hq⟩:=get_of_lt (l:=x.rows) (i:=i) (by omega);obtain⟨qe,ql⟩:=x3 q (SE hq);have ql0:0<q.length:=T1.2 qe;have hqi:(x.rows.map af)[i]?=some (af q):=by rw[List.getElem?_map,hq];rfl
  have hqn:=aJ hq;refine W.sq ?_;simp only[go_sem,k3,k6,k8,l1y,hb,q2,qn,aj,hbi];refine W.seq (W.block ?_);refine W.sq ?_;simp only[go_sem];have yN1:x.rows.take (i+1)=x.rows.take i++[q]:=aL hq;have hA1:=K7 (P:=Tryz.prog) (H:=Hy) (t:=42) (n:=Hy.next) (src:=ints q) Tryz.underlying42 Tryz.dz Tryz.dH (by rw[aH];exact ql0) (by rw[Tryz.dL,aH];omega) rfl;obtain⟨rk',Hz,hA3,oM,nz,pz⟩:=yN.rows.Bh (P:=Tryz.prog) (n:=Hy.next+1+1) (t:=33) (r:=ints q) Tryz.underlying33 Tryz.jv Tryz.jH Tryz.jG (by decide) (by rw[SM,SN];omega) (by omega) rfl;rw[aH]at hA1 hA3;have lPe:∀L,(ext Hy L).live Hx.next 0=_:=fun L=>(dh (by omega)).trans lPy;have l1e:∀L,(ext Hy L).live (H.next+1) 0=_:=fun L=>(dh (by omega)).trans l1y;obtain⟨rv1,rvc⟩:=uw oM;have lPz:Hz.live Hx.next 0=_:=ah ((pz Hx.next (by omega) (yN.rows.ne yP (by decide))).trans yP);refine W.dr 14 [0,1,0,0,8,0,56,120,248,0,1016,2040,4092,8188] Tryz.mixed ?_;simp only[go_sem,k3,k6,k7,k8,l1y,lPy,hb,q2,qn,aj,hbi,hqi,hqn,hA1,hA3,lPz,rv1,rvc];refine⟨⟨fun _ h=>by omega,fun _ h=>by omega⟩,⟨fun _ h=>by omega,fun _ h=>by omega⟩,?_⟩;have w1:=SF ((i:Int)+1) (by omega);have zo:∀id g e c,id<Hy.next->Hy.get id=some (.arr g e c)->e≠42->Hz.get id=Hy.get id:=fun id g e c h h2 h3=>pz id h (yN.rows.ne h2 h3);refine W.vs ?_;simp only[go_sem,k8,w1];refine⟨by rw[au];omega,⟨i+1,rk',ids++[Hy.next],rfl,by omega,by rw[au];omega,fun id h=>?_,by rw[ae,SK rfl],?_⟩,by rw[h8];simp only[aa,aM];omega⟩
  ·rw[ae,SI (by omega),pz id (by omega) (yN.rows.top.ne (by omega))];exact yo id h
  ·rw[yN1];have oM':OwnM (Hx.next+1) (Hz.upd Hx.next (.arr 0 87 [.lit (.int .i64 x.card),pk,rk'])) 42 3 rk' (ids++[Hy.next]) ((x.rows.take i++[q]).map ints):=by
    rw[Tq];exact oM.keep (by rw[au];exact Nat.le_refl _) fun id h1 _=>by rw[ae,SI (by omega)]
   refine⟨yN.par.keep (Nat.le_refl _) (by rw[au];omega) fun id g h1 h2 h3 _=>by rw[ae,SI (by omega)];exact zo id _ _ _ h2 h3 (by decide),oM',fun id g m hp hm=>?_,fun e=>absurd e (by simp)⟩;rcases S5.1 hm with hm|hm
   ·exact yN.dj id g m hp hm
   ·obtain rfl:=List.mem_singleton.1 hm;rcases yN.par with ⟨h1,_⟩|⟨i2,g2,_,h2,h1,_⟩
    ·rw[h1]at hp;cases hp
    ·rw[h1]at hp;have:=(AVal.own.inj hp).1;omega
 rintro⟨ρn,Hn⟩ ⟨m5,m6,m7,nN,oN,rk,ids,gN,nodN⟩;simp only at m5 m6 m7 nN oN gN nodN;have lN:=ah gN;have rk1:=(uw nodN.rows).1;have rkc:=(uw nodN.rows).2;have hOn:=hO.keep (H':=Hn) (by omega) fun id g _ h _=>oN id h;obtain⟨nh',H5,hA5,oZ,n5,p5⟩:=mR (P:=Tryz.prog) (H:=Hn) (t:=34) (xs:=[.lit (.int .i64 x.card),pk,rk]) (m:=Hn.next+1) Tryz.underlying34 Tryz.sf Tryz.sj (by simp only[List.all_cons,List.all_nil,pk1,rk1];rfl) rfl (by rw[Tryz.sh];omega) hOn (by omega) rfl;have nhe:∀id g e c,Hn.get id=some (.arr g e c)->e≠87->∀g m,nh≠.own id g 0 m 3:=fun id g e c h1 h2 g' m hv=>by
  rcases hOn with ⟨h,_⟩|⟨i2,g2,_,_,h,_,h4⟩
  ·rw[h]at hv;cases hv
  ·rw[h]at hv;obtain rfl:=(AVal.own.inj hv).1;rw[h4]at h1;cases h1;exact h2 rfl
 have nh1:=oZ.one;have nhc:=oZ.cells;refine W.vs ?_;simp only[go_sem,m5,m6,m7,lN,hA5];have keepE:∀id g e c,id<Hn.next->Hn.get id=some (.arr g e c)->e≠87->H5.get id=Hn.get id:=fun id g e c h1 h2 h3=>p5 id h1 (nhe id g e c h2 h3);refine⟨by omega,fun id h=>?_,fun i g e c h1 h2 h3=>by rw[keepE i g e c (by omega) ((oN i h1).trans h2) h3,oN i h1],pk,rk,ids,oZ,nodN.keepE n5 fun id g e c _ h1 h2 h3=>keepE id g e c h1 h2 h3⟩
 ·rw[p5 id (by omega) (hOn.ne h),oN id (by omega)];exact hold id h
end Go.Proofs
namespace Go.Hx
variable {P:Program} {G:Nat->Option (List AVal)}
def AHeap.gT (H:AHeap)(n ob:Nat)(b:Blk):AHeap:=⟨fun id=>if n<=id then none else if id=ob then some b else H.get id,H.next⟩
theorem Cr {H:AHeap}{n ob:Nat}{b:Blk}(h:ob<n):(H.gT n ob b).get ob=some b:=by simp[AHeap.gT,VV.2 h]
theorem Cs {H:AHeap}{n ob id:Nat}{b:Blk}(h:id<n)(h2:id≠ob):(H.gT n ob b).get id=H.get id:=by simp[AHeap.gT,VV.2 h,h2]
theorem OZ {H:AHeap}(hc:Clo H){n ob g:Nat}{e:TypeId}{cells cells':List AVal}(hob:H.get ob=some (.arr g e cells))(hlt:ob<n)(hl:cells'.length=cells.length)
  (hcell:∀i (h:i<cells.length) (h':i<cells'.length),Fz (fun id=>n<=id) H H.next cells[i] cells'[i]):FzH (fun id=>n<=id) H (H.gT n ob (.arr g e cells')) where
 gone id hs:=by simp[AHeap.gT,hs]
 kept id b hs hb:=by
  have hbb:=hc.below id b hb;refine⟨hc.lt id b hb,?_⟩;by_cases h:id=ob
  ·subst h;rw[hob]at hb;cases hb;exact⟨.arr g e cells',by simp[AHeap.gT,hs],rfl,rfl,hl,hcell⟩
  ·refine⟨b,by simp[AHeap.gT,hs,h,hb],?_⟩;cases b with
   |rsv=>trivial
   |mp=>rfl
   |arr g e cells=>exact⟨rfl,rfl,rfl,fun i h _=>.dead (hbb i h)⟩
   |loop st pend n env ps asg body=>exact⟨rfl,rfl,rfl,rfl,rfl,rfl,rfl,fun t ht=>.dead (hbb t ht)⟩
 none id hs hb:=by
  by_cases h:id=ob
  ·subst h;rw[hob]at hb;cases hb
  ·simp[AHeap.gT,hs,h,hb]
theorem cJ.gT (hG:fm G){s:St}{n ob g:Nat}{e:TypeId}{cells cells':List AVal}(hob:s.H.get ob=some (.arr g e cells))(hlt:ob<n)(hl:cells'.length=cells.length)
  (hcell:∀i (h:i<cells.length) (h':i<cells'.length),Fz (fun id=>n<=id) s.H s.H.next cells[i] cells'[i]):cJ P G s ⟨s.ρ,s.H.gT n ob (.arr g e cells')⟩:=by
 intro n' wb Γ a w hs;exact cJ.freeze (s:=s) (s':=⟨s.ρ,s.H.gT n ob (.arr g e cells')⟩) hG (OZ hs.heap.clo hob hlt hl hcell) (fun t=>.dead (hs.env t).nt) n' wb Γ a w hs
theorem eY.upd {lo:Nat}{H:AHeap}{e1 e0:TypeId}{v:AVal}{rows:List (List AVal)}(h:eY lo H e1 e0 v rows){k:Nat}{b:Blk}(hk:k<lo):eY lo (H.upd k b) e1 e0 v rows:=by
 obtain⟨cs,c1,c2,c3⟩:=h;refine⟨cs,c1.keep (Nat.le_refl _) (by rw[au];exact Nat.le_refl _) fun id _ h1 _ _ _=>by rw[ae,SI (by omega)],c2,fun j r c hr hc=>(c3 j r c hr hc).keep (Nat.le_refl _) (by rw[au];exact Nat.le_refl _) fun id _ h1 _ _ _=>by rw[ae,SI (by omega)]⟩
end Go.Hx
