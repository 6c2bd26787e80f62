/-
  Regions that draw their order. Own work: no program stands in this text.
-/
import Derived.Test.YtakancljiekbhaaLibA
import Derived.OrdersIn
set_option linter.all false
namespace Go.Hx
variable {P:Program} {G:Nat->Option (List AVal)} {Γ Γ':aC} {H H':AHeap} {w w':World}
def aI:AVal->List Nat
 | .own id _ _ _ _=>[id]
 | .ptr id _ _=>[id]
 | _=>[]
def dH:AVal->List Nat
 | .yld id=>[id]
 | _=>[]
structure FP where
 eff:List Nat
 rs:List Nat
def jR:AVal->Bool
 | .own ..=>true
 | _=>false
def js (P:Program)(t:TypeId)(x:AVal):List Nat:=match P.underlying t with
 | some (.slice _)=>aI x
 | _=>[]
def ij (P:Program)(id:Nat)(b:Builtin)(ats:List TypeId)(args:List AVal):FP :=
 match b,ats,args with
 | .append,_,[s,x]=>if jR s then ⟨aI s,aI s++aI x⟩ else ⟨[id],aI x⟩
 | .copy,_,[d,x]=>⟨aI d,aI d++aI x⟩
 | .clear,_,[d]=>⟨aI d,aI d⟩
 | .len,[t],[x]=>⟨[],js P t x⟩
 | _,_,_=>⟨[],[]⟩
def bh (P:Program)(G:Nat->Option (List AVal))(ρ:Env)(id:Nat):Op->FP
 | .load _ a=>⟨[],aI (ak G ρ a)⟩
 | .nilCheck a=>⟨[],aI (ak G ρ a)⟩
 | .slice _ a _ _ _=>⟨[],aI (ak G ρ a)⟩
 | .fieldAddr _ a _=>⟨[],aI (ak G ρ a)⟩
 | .indexAddr _ a _=>⟨[],aI (ak G ρ a)⟩
 | .convert _ _ a=>⟨[],aI (ak G ρ a)⟩
 | .store _ a _=>⟨aI (ak G ρ a),aI (ak G ρ a)⟩
 | .alloc _=>⟨[id],[]⟩
 | .box _ _=>⟨[id],[]⟩
 | .buildSlice _ _ _=>⟨[id],[]⟩
 | .makeSlice _ _ _=>⟨[id],[]⟩
 | .makeMap _ _=>⟨[id],[]⟩
 | .lookup _ x _ _=>⟨[],dH (ak G ρ x)⟩
 | .mapUpdate _ m _ _|.insert _ m _ _|.mapEntry _ m _|.entryStore _ m _ _=>⟨dH (ak G ρ m),dH (ak G ρ m)⟩
 | .call c=>match c.callee with
  | .builtin b=>ij P id b c.argTypes.toList (c.args.toList.map (ak G ρ))
  | _=>⟨[],[]⟩
 | _=>⟨[],[]⟩
def dI (e:Option (Nat × Blk))(g:Nat->Option Blk):Nat->Option Blk :=
 match e with
 | none=>g
 | some (k,b)=>fun j=>if j=k then some b else g j
def eT (H:AHeap):Prop:=∀ id b,H.get id=some b->id<H.next
theorem iU (wf:eT H){id gen:Nat}{ec:TypeId × List AVal}(h:H.live id gen=some ec):id<H.next:=wf id _ (hZ (e:=ec.1) (cells:=ec.2) h)
theorem ju {H2:AHeap}{id:Nat}(h:H2.get id=H.get id)(gen:Nat):H2.live id gen=H.live id gen:=by unfold AHeap.live;rw[h]
def Local (P:Program)(G:Nat->Option (List AVal))(ρ:Env)(H:AHeap)(o:Op)(v:AVal)(H':AHeap)(f:FP):Prop :=
 ∃ (e:Option (Nat × Blk)) (al:Bool),H'.get=dI e H.get/\H'.next=(if al then H.next+1 else H.next) /\
  (∀ k b,e=some (k,b)->k∈f.eff/\(al=false->k∈f.rs))/\(al=true->∃ b,e=some (H.next,b))/\(∀ r,r∈f.rs->r<H.next) /\
  ∀ H2:AHeap,(∀ r,r∈f.rs->H2.get r=H.get r)->(al=true->H2.get H.next=some .rsv/\H.next≠H2.next)->aj P G ρ H2 H.next o=some (v,⟨dI e H2.get,H2.next⟩)
theorem cT {ρ:Env}{o:Op}{v:AVal}{f:FP}(hrs:∀ r,r∈f.rs->r<H.next)(h:∀ H2:AHeap,(∀ r,r∈f.rs->H2.get r=H.get r)->aj P G ρ H2 H.next o=some (v,H2)):Local P G ρ H o v H f:=by
 refine⟨none,false,rfl,rfl,?_,?_,hrs,fun H2 ha _=>h H2 ha⟩
 ·intro k b h;cases h
 ·intro h;cases h
theorem ot {ρ:Env}{o:Op}{v:AVal}{f:FP}{b:Blk}(hl:H.lay H.next b=some H')(hta:H.next∈f.eff)(hrs:∀ r,r∈f.rs->r<H.next)
  (h:∀ H2:AHeap,(∀ r,r∈f.rs->H2.get r=H.get r)->∀ H2',H2.lay H.next b=some H2'->aj P G ρ H2 H.next o=some (v,H2')):Local P G ρ H o v H' f:=by
 obtain⟨h1,h2⟩:=iQ hl;have h2':H'.next=H.next+1:=by
  unfold AHeap.lay at hl;rw[if_pos rfl]at hl;simp only[Option.some.injEq]at hl;rw[<- hl]
 refine⟨some (H.next,b),true,funext h1,by simp [h2'],?_,?_,hrs,fun H2 ha hr=>?_⟩
 ·intro k b' hk;simp only[Option.some.injEq,Prod.mk.injEq]at hk;exact⟨hk.1 ▸ hta,fun h=>by cases h⟩
 ·exact fun _=>⟨b,rfl⟩
 ·obtain⟨hr1,hr2⟩:=hr rfl;refine h H2 ha _ ?_;unfold AHeap.lay;rw[if_neg hr2,hr1];rfl
theorem lp {ρ:Env}{o:Op}{v:AVal}{f:FP}{id:Nat}{b:Blk}(hid:id∈f.eff)(hid':id∈f.rs)(hrs:∀ r,r∈f.rs->r<H.next)
  (h:∀ H2:AHeap,(∀ r,r∈f.rs->H2.get r=H.get r)->aj P G ρ H2 H.next o=some (v,H2.upd id b)):Local P G ρ H o v (H.upd id b) f:=by
 refine⟨some (id,b),false,rfl,rfl,?_,?_,hrs,fun H2 ha _=>h H2 ha⟩
 ·intro k b' hk;simp only[Option.some.injEq,Prod.mk.injEq]at hk;exact⟨hk.1 ▸ hid,fun _=>hk.1 ▸ hid'⟩
 ·intro h;cases h
theorem cu {n:Nat}:∀ r,r∈([]:List Nat)->r<n:=fun _ h=>by cases h
theorem eZ {n id:Nat}(h:id<n):∀ r,r∈[id]->r<n:=fun r hr=>by
 simp only[List.mem_singleton]at hr;omega
theorem FI {H2:AHeap}{t:TypeId}{a:AVal}(h:∀ r,r∈aI a->H2.get r=H.get r):eS P H2 t a=eS P H t a:=by
 cases a with
 | ptr id gen off=>simp only[eS];rw[h id (by simp [aI])]
 | _=>rfl
theorem FJ (wf:eT H){t:TypeId}{a v:AVal}(h:eS P H t a=some v):∀ r,r∈aI a->r<H.next:=by
 cases a with
 | ptr id gen off =>
  refine eZ ?_;simp only[eS]at h;split at h
  ·rename_i hg;exact wf _ _ hg
  ·cases h
 | own=>simp [eS]at h
 | _=>exact cu
theorem FK {t:TypeId}{a v:AVal}(h:gE P H t a v=some H'):∃ id gen off g e cells,a=.ptr id gen off/\H.get id=some (.arr g e cells)/\∃ cells',H'=H.upd id (.arr g e cells') /\
  ∀ H2:AHeap,H2.get id=H.get id->gE P H2 t a v=some (H2.upd id (.arr g e cells')):=by
 cases a with
 | ptr id gen off =>
  simp only[gE]at h;split at h
  ·rename_i g e cells hg;split at h
   ·rename_i hc;simp only[Option.some.injEq]at h;refine⟨id,gen,off,g,e,cells,rfl,hg,_,h.symm,fun H2 h2=>?_⟩;simp only[gE];rw[h2,hg];simp only;rw[if_pos hc]
   ·cases h
  ·cases h
 | _=>simp [gE]at h
theorem FL (wf:eT H){t:TypeId}{x v:AVal}{i:Int}(h:kZ P H t x i=some v):(∀ r,r∈aI x->r<H.next)/\∀ H2:AHeap,(∀ r,r∈aI x->H2.get r=H.get r)->kZ P H2 t x i=some v:=by
 unfold kZ at h ⊢;split at h
 ·split at h
  ·rename_i hc;split at h
   ·rename_i id gen off;simp only[Option.map_eq_some_iff]at h;obtain⟨ec,hl,hv⟩:=h;refine⟨eZ (iU wf hl),fun H2 h2=>?_⟩;rw[if_pos hc];simp only[ju (h2 id (by simp [aI])),hl,Option.map_some,hv]
   ·refine⟨cu,fun H2 _=>?_⟩;rw[if_pos hc];exact h
   ·cases h
  ·cases h
 ·split at h
  ·rename_i hc;split at h
   ·rename_i id gen off len sz;split at h
    ·rename_i hi;simp only[Option.map_eq_some_iff]at h;obtain⟨ec,hl,hv⟩:=h;refine⟨eZ (iU wf hl),fun H2 h2=>?_⟩;rw[if_pos hc,if_pos hi];simp only[ju (h2 id (by simp [aI])),hl,Option.map_some,hv]
    ·cases h
   ·refine⟨cu,fun H2 _=>?_⟩;rw[if_pos hc];exact h
   ·cases h
  ·cases h
 ·cases h
theorem FM (wf:eT H){t:TypeId}{x v:AVal}{lo hi:Option AVal}(h:kq P H t x lo hi=some v):(∀ r,r∈aI x->r<H.next)/\∀ H2:AHeap,(∀ r,r∈aI x->H2.get r=H.get r)->kq P H2 t x lo hi=some v:=by
 unfold kq at h ⊢;split at h
 ·split at h
  ·rename_i hc;split at h
   ·rename_i id gen off;split at h
    ·rename_i e' cells hl;refine⟨eZ (iU wf hl),fun H2 h2=>?_⟩;rw[if_pos hc];simp only[ju (h2 id (by simp [aI])),hl];exact h
    ·cases h
   ·refine⟨cu,fun H2 _=>?_⟩;rw[if_pos hc];exact h
   ·cases h
  ·cases h
 ·split at h
  ·rename_i hc;split at h
   ·rename_i id gen off len sz;split at h
    ·rename_i hi;have h0:=h;simp only[Option.bind_eq_some_iff]at h;obtain⟨ec,hl,_⟩:=h;refine⟨eZ (iU wf hl),fun H2 h2=>?_⟩;rw[if_pos hc,if_pos hi,ju (h2 id (by simp [aI]))];exact h0
    ·cases h
   ·refine⟨cu,fun H2 _=>?_⟩;rw[if_pos hc];exact h
   ·refine⟨cu,fun H2 _=>?_⟩;rw[if_pos hc];exact h
   ·cases h
  ·cases h
 ·split at h
  ·exact⟨cu,fun H2 _=>h⟩
  ·cases h
 ·cases h
theorem FN (wf:eT H){t:TypeId}{x v:AVal}(h:ks P H t x=some v):(∀ r,r∈js P t x->r<H.next)/\∀ H2:AHeap,(∀ r,r∈js P t x->H2.get r=H.get r)->ks P H2 t x=some v:=by
 unfold ks js at *
 cases hu:P.underlying t with
 | none=>rw[hu]at h;cases h
 | some d =>
  rw[hu]at h;cases d with
  | slice e =>
   simp only at h ⊢;split at h
   ·exact⟨cu,fun _ _=>h⟩
   ·rename_i id gen off len sz;simp only[Option.map_eq_some_iff]at h;obtain⟨ec,hl,hv⟩:=h;refine⟨eZ (iU wf hl),fun H2 h2=>?_⟩;simp only[ju (h2 id (by simp [aI])),hl,Option.map_some,hv]
   ·exact⟨cu,fun _ _=>h⟩
   ·cases h
  | string=>exact⟨cu,fun _ _=>h⟩
  | array n e=>exact⟨cu,fun _ _=>h⟩
  | _=>cases h
theorem vT (wf:eT H){sz:Nat}{x:AVal}{r:Nat × List AVal}(h:cD H sz x=some r):(∀ r,r∈aI x->r<H.next)/\∀ H2:AHeap,(∀ r,r∈aI x->H2.get r=H.get r)->cD H2 sz x=some r:=by
 unfold cD at h ⊢;split at h
 ·exact⟨cu,fun _ _=>h⟩
 ·rename_i id gen off len sz';split at h
  ·rename_i hsz;simp only[Option.map_eq_some_iff]at h;obtain⟨ec,hl,hv⟩:=h;refine⟨eZ (iU wf hl),fun H2 h2=>?_⟩;rw[if_pos hsz];simp only[ju (h2 id (by simp [aI])),hl,Option.map_some,hv]
  ·cases h
 ·exact⟨cu,fun _ _=>h⟩
 ·cases h
theorem Ap {a b:List Nat}{p:Nat->Prop}(h1:∀ r,r∈a->p r)(h2:∀ r,r∈b->p r):∀ r,r∈a++b->p r:=fun r hr=>(List.mem_append.1 hr).elim (h1 r) (h2 r)
theorem FO (wf:eT H){ρ:Env}{c:Call}{t u:TypeId}{s x v:AVal}(hb:c.callee=.builtin .append)(hats:c.argTypes.toList=[t,u])(hargs:c.args.toList.map (ak G ρ)=[s,x])
  (h:bC P H H.next t u s x=some (v,H')):Local P G ρ H (.call c) v H' (bh P G ρ H.next (.call c)):=by
 have hfp:bh P G ρ H.next (.call c)=if jR s then ⟨aI s,aI s++aI x⟩ else ⟨[H.next],aI x⟩:=by
  simp only[bh,hb,hats,hargs,ij]
 have hop:∀ H2:AHeap,aj P G ρ H2 H.next (.call c)=bC P H2 H.next t u s x:=fun H2=>by
  simp only[aj,hb,hats,hargs,fA]
 rw[hfp];unfold bC at h;split at h
 ·rename_i e he;split at h
  ·rename_i e' he';simp only[Option.bind_eq_some_iff]at h;obtain⟨z,hz,nx,hsrc,h⟩:=h;obtain⟨hxlt,hxl⟩:=vT wf hsrc;split at h
   ·simp only[jR,Bool.false_eq_true,if_false];split at h
    ·rename_i hn0;simp only[Option.some.injEq,Prod.mk.injEq]at h;obtain⟨rfl,rfl⟩:=h;refine cT hxlt fun H2 h2=>?_;rw[hop];simp only[bC,he,he',hz,hxl H2 h2,Option.bind_some,if_pos hn0]
    ·rename_i hn0;split at h
     ·rename_i hb;simp only[Option.map_eq_some_iff,Prod.mk.injEq]at h;obtain⟨H3,hl,rfl,rfl⟩:=h;refine ot hl (by simp) hxlt fun H2 h2 H2' hl2=>?_;rw[hop];simp only[bC,he,he',hz,hxl H2 h2,Option.bind_some,if_neg hn0,if_pos hb,hl2,Option.map_some]
     ·cases h
   ·rename_i id' gen off len sz;simp only[jR,if_true];simp only[Option.bind_eq_some_iff]at h;obtain⟨ec,hl,h⟩:=h;have hlt:∀ r,r∈aI (.own id' gen off len sz)++aI x->r<H.next:=Ap (eZ (iU wf hl)) hxlt;have hl2:∀ H2:AHeap,(∀ r,r∈aI (.own id' gen off len sz)++aI x->H2.get r=H.get r)->H2.live id' gen=some ec:=fun H2 h2=>by
     rw[ju (h2 id' (by simp [aI]))];exact hl
    have hx2:∀ H2:AHeap,(∀ r,r∈aI (.own id' gen off len sz)++aI x->H2.get r=H.get r)->cD H2 (P.cellsOf e) x=some nx:=fun H2 h2 =>
     hxl H2 fun r hr=>h2 r (List.mem_append_right _ hr)
    split at h
    ·rename_i hc;split at h
     ·rename_i hn0;simp only[Option.some.injEq,Prod.mk.injEq]at h;obtain⟨rfl,rfl⟩:=h;refine cT hlt fun H2 h2=>?_;rw[hop];simp only[bC,he,he',hz,hx2 H2 h2,hl2 H2 h2,Option.bind_some];rw[if_pos hc,if_pos hn0]
     ·rename_i hn0;simp only[Option.some.injEq,Prod.mk.injEq]at h;obtain⟨rfl,rfl⟩:=h;refine lp (by simp [aI]) (by simp [aI]) hlt fun H2 h2=>?_;rw[hop];simp only[bC,he,he',hz,hx2 H2 h2,hl2 H2 h2,Option.bind_some];rw[if_pos hc,if_neg hn0]
    ·cases h
   ·cases h
  ·cases h
 ·cases h
theorem FQ (wf:eT H){ρ:Env}{c:Call}{t u:TypeId}{s x v:AVal}(hb:c.callee=.builtin .copy)(hats:c.argTypes.toList=[t,u])(hargs:c.args.toList.map (ak G ρ)=[s,x])
  (h:jN P H t s x=some (v,H')):Local P G ρ H (.call c) v H' (bh P G ρ H.next (.call c)):=by
 have hfp:bh P G ρ H.next (.call c)=⟨aI s,aI s++aI x⟩:=by
  simp only[bh,hb,hats,hargs,ij]
 have hop:∀ H2:AHeap,aj P G ρ H2 H.next (.call c)=jN P H2 t s x:=fun H2=>by
  simp only[aj,hb,hats,hargs,fA]
 rw[hfp];unfold jN at h;split at h
 ·rename_i e he;split at h
  ·rename_i hs;simp only[Option.bind_eq_some_iff]at h;obtain⟨nx,hsrc,h⟩:=h;obtain⟨hxlt,hxl⟩:=vT wf hsrc;split at h
   ·rename_i id' gen off len sz;simp only[Option.bind_eq_some_iff]at h;obtain⟨ec,hl,h⟩:=h;have hlt:∀ r,r∈aI (.own id' gen off len sz)++aI x->r<H.next:=Ap (eZ (iU wf hl)) hxlt;split at h
    ·rename_i hc;simp only[Option.some.injEq,Prod.mk.injEq]at h;obtain⟨rfl,rfl⟩:=h;refine lp (by simp [aI]) (by simp [aI]) hlt fun H2 h2=>?_;have hl2:H2.live id' gen=some ec:=by
      rw[ju (h2 id' (by simp [aI]))];exact hl
     rw[hop];simp only[jN,he,hs,if_true,hxl H2 fun r hr=>h2 r (List.mem_append_right _ hr),hl2,Option.bind_some];rw[if_pos hc]
    ·cases h
   ·cases h
  ·cases h
 ·cases h
theorem FR (wf:eT H){ρ:Env}{c:Call}{t:TypeId}{s v:AVal}(hb:c.callee=.builtin .clear)(hats:c.argTypes.toList=[t])(hargs:c.args.toList.map (ak G ρ)=[s])
  (h:jO P H t s=some (v,H')):Local P G ρ H (.call c) v H' (bh P G ρ H.next (.call c)):=by
 have hfp:bh P G ρ H.next (.call c)=⟨aI s,aI s⟩:=by
  simp only[bh,hb,hats,hargs,ij]
 have hop:∀ H2:AHeap,aj P G ρ H2 H.next (.call c)=jO P H2 t s:=fun H2=>by
  simp only[aj,hb,hats,hargs,fA]
 rw[hfp];unfold jO at h;split at h
 ·rename_i e he;split at h
  ·simp only[Option.some.injEq,Prod.mk.injEq]at h;obtain⟨rfl,rfl⟩:=h;refine cT (fun r hr=>by cases hr) fun H2 h2=>?_;rw[hop];simp only[jO,he]
  ·rename_i id' gen off len sz;simp only[Option.bind_eq_some_iff]at h;obtain⟨ec,hl,h⟩:=h;have hlt:∀ r,r∈aI (.own id' gen off len sz)->r<H.next:=eZ (iU wf hl);have hl2:∀ H2:AHeap,(∀ r,r∈aI (.own id' gen off len sz)->H2.get r=H.get r)->H2.live id' gen=some ec:=fun H2 h2=>by
    rw[ju (h2 id' (by simp [aI]))];exact hl
   split at h
   ·rename_i h0;simp only[Option.some.injEq,Prod.mk.injEq]at h;obtain⟨rfl,rfl⟩:=h;refine cT hlt fun H2 h2=>?_;rw[hop];simp only[jO,he,hl2 H2 h2,Option.bind_some];rw[if_pos h0]
   ·rename_i h0;simp only[Option.bind_eq_some_iff]at h;obtain⟨z,hz,h⟩:=h;split at h
    ·rename_i hc;simp only[Option.some.injEq,Prod.mk.injEq]at h;obtain⟨rfl,rfl⟩:=h;refine lp (by simp [aI]) (by simp [aI]) hlt fun H2 h2=>?_;rw[hop];simp only[jO,he,hl2 H2 h2,hz,Option.bind_some];rw[if_neg h0,if_pos hc]
    ·cases h
  ·cases h
 ·cases h
theorem Aq (wf:eT H){ρ:Env}{o:Op}{t:TypeId}{m k x:Operand}{v:AVal}(h:ku P H t (ak G ρ m) (ak G ρ k) (ak G ρ x)=some (v,H'))(hfp:bh P G ρ H.next o=⟨dH (ak G ρ m),dH (ak G ρ m)⟩)
  (hop:∀ H2:AHeap,aj P G ρ H2 H.next o=ku P H2 t (ak G ρ m) (ak G ρ k) (ak G ρ x)):Local P G ρ H o v H' (bh P G ρ H.next o):=by
 rw[hfp];unfold ku at h;split at h
 ·rename_i hm;split at h
  ·rename_i id k' u hx hk hu;split at h
   ·rename_i es hg;simp only[Option.some.injEq,Prod.mk.injEq]at h;obtain⟨rfl,rfl⟩:=h;refine lp (by rw[hx];simp [dH]) (by rw[hx];simp [dH]) (by rw[hx];exact eZ (wf _ _ hg)) fun H2 h2=>?_;have hg2:H2.get id=some (.mp es):=(by rw[h2 id (by rw[hx];simp [dH])];exact hg);rw[hop];simp only[ku,hm,if_true,hx,hk,hu,hg2]
   ·cases h
  ·cases h
 ·cases h
theorem FS (wf:eT H){s d:TypeId}{x v:AVal}(h:jj P H s d x=some v):(∀ r,r∈aI x->r<H.next)/\∀ H2:AHeap,(∀ r,r∈aI x->H2.get r=H.get r)->jj P H2 s d x=some v:=by
 have bytes:∀ y:AVal,lf P H s d y=some v->(∀ r,r∈aI y->r<H.next)/\∀ H2:AHeap,(∀ r,r∈aI y->H2.get r=H.get r)->lf P H2 s d y=some v:=by
  intro y h;unfold lf at h;split at h
  ·rename_i hsb;simp only[Option.bind_eq_some_iff]at h;obtain⟨nl,hs,h⟩:=h;obtain⟨h1,h2⟩:=vT wf hs;refine⟨h1,fun H2 ha=>?_⟩;unfold lf;rw[if_pos hsb,h2 H2 ha];exact h
  ·cases h
 unfold jj at h;split at h
 ·exact bytes _ h
 ·exact bytes _ h
 ·rename_i hne1 hne2;refine⟨fun r hr=>?_,fun H2 _=>?_⟩
  ·unfold jP at h;split at h
   ·rename_i a ha;cases x<;>simp_all [aI,AVal.bX]
   ·cases h
  ·unfold jj;split
   ·exact absurd rfl (hne1 _ _ _ _ _)
   ·exact absurd rfl (hne2 _ _)
   ·exact h
theorem vU (wf:eT H){ρ:Env}{o:Op}{v:AVal}(h:aj P G ρ H H.next o=some (v,H')):Local P G ρ H o v H' (bh P G ρ H.next o):=by
 cases o with
 | makeMap t r =>
  simp only[aj]at h;split at h
  ·simp only[Option.map_eq_some_iff,Prod.mk.injEq]at h;obtain⟨H3,hl,rfl,rfl⟩:=h;refine ot hl (by simp [bh]) cu fun H2 _ H2' hl2=>?_;simp only[aj,hl2,Option.map_some]
  ·cases h
 | lookup t x i ok =>
  simp only[aj,Option.map_eq_some_iff,Prod.mk.injEq]at h;obtain⟨v',hv,rfl,rfl⟩:=h;have hfp:bh P G ρ H.next (.lookup t x i ok)=⟨[],dH (ak G ρ x)⟩:=rfl;rw[hfp];unfold nS at hv;split at hv
  ·rename_i hm;split at hv
   ·rename_i hx hi;refine cT (by rw[hx];exact cu) fun H2 _=>?_;simp only[aj,nS,hm,if_true,hx,hi];simp only[Option.some.injEq]at hv;simp [hv]
   ·rename_i id k hx hi;split at hv
    ·rename_i es hg;refine cT (by rw[hx];exact eZ (wf _ _ hg)) fun H2 h2=>?_;have hg2:H2.get id=some (.mp es):=(by rw[h2 id (by rw[hx];simp [dH])];exact hg);simp only[aj,nS,hm,if_true,hx,hi,hg2];simp only[Option.some.injEq]at hv;simp [hv]
    ·cases hv
   ·cases hv
  ·cases hv
 | mapUpdate t m k x=>exact Aq wf (by simp only[aj]at h;exact h) (by rfl) fun H2=>rfl
 | insert t m k x=>exact Aq wf (by simp only[aj]at h;exact h) (by rfl) fun H2=>rfl
 | mapEntry t m k =>
  simp only[aj]at h;have hfp:bh P G ρ H.next (.mapEntry t m k)=⟨dH (ak G ρ m),dH (ak G ρ m)⟩:=rfl;rw[hfp];unfold mA at h;split at h
  ·rename_i hm;split at h
   ·rename_i id k' hx hk;split at h
    ·rename_i es hg;have hg2:∀ H2:AHeap,(∀ r,r∈dH (ak G ρ m)->H2.get r=H.get r)->H2.get id=some (.mp es):=fun H2 h2=>by rw[h2 id (by rw[hx];simp [dH])];exact hg
     split at h
     ·rename_i n u hf;simp only[Option.some.injEq,Prod.mk.injEq]at h;obtain⟨rfl,rfl⟩:=h;refine lp (by rw[hx];simp [dH]) (by rw[hx];simp [dH]) (by rw[hx];exact eZ (wf _ _ hg)) fun H2 h2=>?_;simp only[aj,mA,hm,if_true,hx,hk,hg2 H2 h2,hf]
     ·rename_i hf;simp only[Option.some.injEq,Prod.mk.injEq]at h;obtain⟨rfl,rfl⟩:=h;refine lp (by rw[hx];simp [dH]) (by rw[hx];simp [dH]) (by rw[hx];exact eZ (wf _ _ hg)) fun H2 h2=>?_;simp only[aj,mA,hm,if_true,hx,hk,hg2 H2 h2,hf]
    ·cases h
   ·cases h
  ·cases h
 | entryStore t m s x =>
  simp only[aj]at h;have hfp:bh P G ρ H.next (.entryStore t m s x)=⟨dH (ak G ρ m),dH (ak G ρ m)⟩:=rfl;rw[hfp];unfold nT at h;split at h
  ·rename_i id s' u hx hs hu;split at h
   ·rename_i es hg;split at h
    ·rename_i hlt;simp only[Option.some.injEq,Prod.mk.injEq]at h;obtain⟨rfl,rfl⟩:=h;refine lp (by rw[hx];simp [dH]) (by rw[hx];simp [dH]) (by rw[hx];exact eZ (wf _ _ hg)) fun H2 h2=>?_;have hg2:H2.get id=some (.mp es):=(by rw[h2 id (by rw[hx];simp [dH])];exact hg);simp only[aj,nT,hx,hs,hu,hg2];rw[if_pos hlt]
    ·cases h
   ·cases h
  ·cases h
 | alloc e =>
  simp only[aj,Option.bind_eq_some_iff,Option.map_eq_some_iff,Prod.mk.injEq]at h;obtain⟨z,hz,H3,hl,rfl,rfl⟩:=h;refine ot hl (by simp [bh]) cu fun H2 _ H2' hl2=>?_;simp only[aj,hz,hl2,Option.bind_some,Option.map_some]
 | box e x =>
  simp only[aj,Option.map_eq_some_iff,Prod.mk.injEq]at h;obtain⟨H3,hl,rfl,rfl⟩:=h;refine ot hl (by simp [bh]) cu fun H2 _ H2' hl2=>?_;simp only[aj,hl2,Option.map_some]
 | buildSlice t len parts =>
  simp only[aj,ji]at h;split at h
  ·rename_i e he;split at h
   ·rename_i hc;simp only[Option.bind_eq_some_iff,Option.map_eq_some_iff,Prod.mk.injEq]at h;obtain⟨z,hz,cells,hcl,H3,hl,rfl,rfl⟩:=h;refine ot hl (by simp [bh]) cu fun H2 _ H2' hl2=>?_;simp only[aj,ji,he];rw[if_pos hc];simp only[hz,hcl,hl2,Option.bind_some,Option.map_some]
   ·cases h
  ·cases h
 | makeSlice t l c =>
  simp only[aj,iR]at h;split at h
  ·rename_i e k l' k' c' he hl' hc';split at h
   ·rename_i hc;simp only[Option.bind_eq_some_iff,Option.map_eq_some_iff,Prod.mk.injEq]at h;obtain⟨cells,hz,H3,hl,rfl,rfl⟩:=h;refine ot hl (by simp [bh]) cu fun H2 _ H2' hl2=>?_;simp only[aj,iR,he,hl',hc'];rw[if_pos hc];simp only[hz,hl2,Option.bind_some,Option.map_some]
   ·cases h
  ·cases h
 | store t a x =>
  simp only[aj]at h;split at h
  ·rename_i hu;simp only[Option.map_eq_some_iff,Prod.mk.injEq]at h;obtain⟨H3,hst,rfl,rfl⟩:=h;obtain⟨id,gen,off,g,e,cells,ha,hg,cells',rfl,hall⟩:=FK hst;have hfp:bh P G ρ H.next (.store t a x)=⟨[id],[id]⟩:=(by simp only[bh,ha,aI]);rw[hfp];refine lp (by simp) (by simp) (eZ (wf _ _ hg)) fun H2 h2=>?_;simp only[aj,hu,if_true,hall H2 (h2 id (by simp)),Option.map_some]
  ·cases h
 | load t p =>
  simp only[aj,Option.map_eq_some_iff,Prod.mk.injEq]at h;obtain⟨v',hv,rfl,rfl⟩:=h;refine cT (FJ wf hv) fun H2 h2=>?_;simp only[aj,FI h2,hv,Option.map_some]
 | nilCheck p =>
  simp only[aj,Option.map_eq_some_iff,Prod.mk.injEq]at h;obtain⟨v',hv,rfl,rfl⟩:=h;have hv0:=hv;unfold jk at hv;split at hv
  ·rename_i id gen off hp;simp only[Option.map_eq_some_iff]at hv;obtain⟨ec,hl,hv⟩:=hv;have hfp:bh P G ρ H.next (.nilCheck p)=⟨[],[id]⟩:=(by simp only[bh,hp,aI]);rw[hfp];refine cT (eZ (iU wf hl)) fun H2 h2=>?_;subst hv;simp only[aj,hp,jk,ju (h2 id (by simp)),hl,Option.map_some]
  ·rename_i hp;have hfp:bh P G ρ H.next (.nilCheck p)=⟨[],[]⟩:=(by simp only[bh,hp,aI]);rw[hfp];refine cT cu fun H2 _=>?_;simp only[aj,hp,jk,Option.map_some,Option.some.injEq]at hv ⊢;rw[hv]
  ·rename_i hp;have hfp:bh P G ρ H.next (.nilCheck p)=⟨[],[]⟩:=(by simp only[bh,hp,aI]);rw[hfp];refine cT cu fun H2 _=>?_;simp only[aj,hp,jk,Option.map_some,Option.some.injEq]at hv ⊢;rw[hv]
  ·cases hv
 | slice t x lo hi mx =>
  simp only[aj]at h;split at h
  ·simp only[Option.map_eq_some_iff,Prod.mk.injEq]at h;obtain⟨v',hv,rfl,rfl⟩:=h;obtain⟨h1,h2⟩:=FM wf hv;refine cT h1 fun H2 h3=>?_;simp only[aj,h2 H2 h3,Option.map_some]
  ·cases h
 | indexAddr t x i =>
  simp only[aj]at h;split at h
  ·rename_i k i' hi;simp only[Option.map_eq_some_iff,Prod.mk.injEq]at h;obtain⟨v',hv,rfl,rfl⟩:=h;obtain⟨h1,h2⟩:=FL wf hv;refine cT h1 fun H2 h3=>?_;simp only[aj,hi,h2 H2 h3,Option.map_some]
  ·cases h
 | fieldAddr s x f =>
  simp only[aj,Option.bind_eq_some_iff]at h;obtain⟨of,hof,h⟩:=h;split at h
  ·rename_i id gen off hx;simp only[Option.map_eq_some_iff,Prod.mk.injEq]at h;obtain⟨ec,hl,rfl,rfl⟩:=h;have hfp:bh P G ρ H.next (.fieldAddr s x f)=⟨[],[id]⟩:=(by simp only[bh,hx,aI]);rw[hfp];refine cT (eZ (iU wf hl)) fun H2 h2=>?_;simp only[aj,hof,Option.bind_some,hx,ju (h2 id (by simp)),hl,Option.map_some]
  ·rename_i cells off hx;simp only[Option.some.injEq,Prod.mk.injEq]at h;obtain⟨rfl,rfl⟩:=h;have hfp:bh P G ρ H.next (.fieldAddr s x f)=⟨[],[]⟩:=(by simp only[bh,hx,aI]);rw[hfp];refine cT cu fun H2 _=>?_;simp only[aj,hof,Option.bind_some,hx]
  ·cases h
 | call c =>
  have h0:=h;simp only[aj]at h;split at h
  ·rename_i b hb;unfold fA at h;split at h
   ·rename_i t x hats hargs;simp only[Option.map_eq_some_iff,Prod.mk.injEq]at h;obtain⟨v',hv,rfl,rfl⟩:=h;obtain⟨h1,h2⟩:=FN wf hv;have hfp:bh P G ρ H.next (.call c)=⟨[],js P t x⟩:=(by simp only[bh,hb,hats,hargs,ij]);rw[hfp];refine cT h1 fun H2 h3=>?_;simp only[aj,hb,hats,hargs,fA,h2 H2 h3,Option.map_some]
   ·rename_i hats hargs;exact FO wf hb hats hargs h
   ·rename_i hats hargs;exact FQ wf hb hats hargs h
   ·rename_i hats hargs;exact FR wf hb hats hargs h
   ·rename_i hats;simp only[Option.bind_eq_some_iff,Option.map_eq_some_iff,Prod.mk.injEq]at h;obtain⟨vs,h1,v',h2,rfl,rfl⟩:=h;have hfp:bh P G ρ H.next (.call c)=⟨[],[]⟩:=(by simp only[bh,hb,ij]);rw[hfp];refine cT cu fun H2 _=>?_;simp only[aj,hb,fA,h1,h2,Option.bind_some,Option.map_some]
   ·rename_i hats;simp only[Option.bind_eq_some_iff,Option.map_eq_some_iff,Prod.mk.injEq]at h;obtain⟨vs,h1,v',h2,rfl,rfl⟩:=h;have hfp:bh P G ρ H.next (.call c)=⟨[],[]⟩:=(by simp only[bh,hb,ij]);rw[hfp];refine cT cu fun H2 _=>?_;simp only[aj,hb,fA,h1,h2,Option.bind_some,Option.map_some]
   ·cases h
  ·cases h
 | pick c a b =>
  simp only[aj]at h;split at h
  ·rename_i t ht;simp only[Option.some.injEq,Prod.mk.injEq]at h;obtain⟨rfl,rfl⟩:=h;refine cT cu fun H2 _=>?_;simp only[aj,ht]
  ·cases h
 | makeFunc fn f c =>
  simp only[aj]at h;split at h
  ·simp only[Option.some.injEq,Prod.mk.injEq]at h;obtain⟨rfl,rfl⟩:=h;exact cT cu fun H2 _=>by simp only[aj]
  ·cases h
 | makeInterface t x =>
  simp only[aj]at h;split at h
  ·rename_i y hy;simp only[Option.map_eq_some_iff,Prod.mk.injEq]at h;obtain⟨v',hv,rfl,rfl⟩:=h;refine cT cu fun H2 _=>?_;simp only[aj,hy,hv,Option.map_some]
  ·cases h
 | field s x f =>
  simp only[aj,Option.bind_eq_some_iff]at h;obtain⟨of,hof,h⟩:=h;split at h
  ·rename_i hx;simp only[Option.map_eq_some_iff,Prod.mk.injEq]at h;obtain⟨v',hv,rfl,rfl⟩:=h;refine cT cu fun H2 _=>?_;simp only[aj,hof,Option.bind_some,hx,hv,Option.map_some]
  ·rename_i hx;simp only[Option.map_eq_some_iff,Prod.mk.injEq]at h;obtain⟨v',hv,rfl,rfl⟩:=h;refine cT cu fun H2 _=>?_;simp only[aj,hof,Option.bind_some,hx,hv,Option.map_some]
  ·cases h
 | move x=>simp only[aj,Option.some.injEq,Prod.mk.injEq]at h;obtain⟨rfl,rfl⟩:=h;exact cT cu fun H2 _=>by simp only[aj]
 | assign x=>simp only[aj,Option.some.injEq,Prod.mk.injEq]at h;obtain⟨rfl,rfl⟩:=h;exact cT cu fun H2 _=>by simp only[aj]
 | build t p=>simp only[aj,Option.map_eq_some_iff,Prod.mk.injEq]at h;obtain⟨v',hv,rfl,rfl⟩:=h;exact cT cu fun H2 _=>by simp only[aj,hv,Option.map_some]
 | binOp a b c d e=>simp only[aj,Option.map_eq_some_iff,Prod.mk.injEq]at h;obtain⟨v',hv,rfl,rfl⟩:=h;exact cT cu fun H2 _=>by simp only[aj,hv,Option.map_some]
 | unOp a b c=>simp only[aj,Option.map_eq_some_iff,Prod.mk.injEq]at h;obtain⟨v',hv,rfl,rfl⟩:=h;exact cT cu fun H2 _=>by simp only[aj,hv,Option.map_some]
 | convert a b c =>
  simp only[aj,Option.map_eq_some_iff,Prod.mk.injEq]at h;obtain⟨v',hv,rfl,rfl⟩:=h;obtain⟨h1,h2⟩:=FS wf hv;refine cT h1 fun H2 ha=>?_;simp only[aj,h2 H2 ha,Option.map_some]
 | index a b c=>simp only[aj,Option.map_eq_some_iff,Prod.mk.injEq]at h;obtain⟨v',hv,rfl,rfl⟩:=h;exact cT cu fun H2 _=>by simp only[aj,hv,Option.map_some]
 | extract a b=>simp only[aj,Option.map_eq_some_iff,Prod.mk.injEq]at h;obtain⟨v',hv,rfl,rfl⟩:=h;exact cT cu fun H2 _=>by simp only[aj,hv,Option.map_some]
 | _=>simp [aj]at h
theorem Ar {ρ ρ':Env}{o:Op}{id:Nat}(h:∀ x,x∈o.operands->ak G ρ x=ak G ρ' x):aj P G ρ H id o=aj P G ρ' H id o:=by
 have hparts:∀ (ps:Array (Nat × Operand)),(∀ x,x∈(ps.toList.map (·.2)).toArray->ak G ρ x=ak G ρ' x)->ps.toList.map (fun p=>(p.1,ak G ρ p.2))=ps.toList.map (fun p=>(p.1,ak G ρ' p.2)):=by
  intro ps hp;refine List.map_congr_left fun p hpm=>?_;rw[hp p.2 (by simpa using ⟨p.1,by simpa using hpm⟩)]
 have hlist:∀ (ps:Array Operand),(∀ x,x∈ps->ak G ρ x=ak G ρ' x)->ps.toList.map (ak G ρ)=ps.toList.map (ak G ρ'):=by
  intro ps hp;exact List.map_congr_left fun p hpm=>hp p (by simpa using hpm)
 cases o with
 | build t ps=>simp only[aj];rw[hparts ps h]
 | buildSlice t len ps=>simp only[aj];rw[hparts ps h]
 | makeFunc fn f c =>
  simp only[aj];rw[hlist f fun x hx=>h x (by simp [Op.operands,hx]),hlist c fun x hx=>h x (by simp [Op.operands,hx])]
 | slice t x lo hi mx =>
  have hx:=h x (by simp [Op.operands]);have hlo:lo.map (ak G ρ)=lo.map (ak G ρ'):=by
   cases lo with
   | none=>rfl
   | some l=>simp only[Option.map_some];rw[h l (by simp [Op.operands])]
  have hhi:hi.map (ak G ρ)=hi.map (ak G ρ'):=by
   cases hi with
   | none=>rfl
   | some l=>simp only[Option.map_some];rw[h l (by simp [Op.operands])]
  simp only[aj,hx,hlo,hhi]
 | call c =>
  simp only[aj];rw[hlist c.args fun x hx=>h x (by
   simp only[Op.operands,Call.operands];split<;>simp [hx])]
 | pick c a b=>simp only[aj,h c (by simp [Op.operands]),h a (by simp [Op.operands]),h b (by simp [Op.operands])]
 | store t a x=>simp only[aj,h a (by simp [Op.operands]),h x (by simp [Op.operands])]
 | binOp op t x y u=>simp only[aj,h x (by simp [Op.operands]),h y (by simp [Op.operands])]
 | makeSlice t l c=>simp only[aj,h l (by simp [Op.operands]),h c (by simp [Op.operands])]
 | indexAddr t x i=>simp only[aj,h x (by simp [Op.operands]),h i (by simp [Op.operands])]
 | index t x i=>simp only[aj,h x (by simp [Op.operands]),h i (by simp [Op.operands])]
 | move x=>simp only[aj,h x (by simp [Op.operands])]
 | assign x=>simp only[aj,h x (by simp [Op.operands])]
 | box e x=>simp only[aj,h x (by simp [Op.operands])]
 | load e x=>simp only[aj,h x (by simp [Op.operands])]
 | nilCheck x=>simp only[aj,h x (by simp [Op.operands])]
 | unOp a b x=>simp only[aj,h x (by simp [Op.operands])]
 | convert a b x=>simp only[aj,h x (by simp [Op.operands])]
 | makeInterface t x=>simp only[aj,h x (by simp [Op.operands])]
 | fieldAddr s x f=>simp only[aj,h x (by simp [Op.operands])]
 | field s x f=>simp only[aj,h x (by simp [Op.operands])]
 | extract x i=>simp only[aj,h x (by simp [Op.operands])]
 | lookup t x i ok=>simp only[aj,h x (by simp [Op.operands]),h i (by simp [Op.operands])]
 | mapUpdate t m k x=>simp only[aj,h m (by simp [Op.operands]),h k (by simp [Op.operands]),h x (by simp [Op.operands])]
 | insert t m k x=>simp only[aj,h m (by simp [Op.operands]),h k (by simp [Op.operands]),h x (by simp [Op.operands])]
 | mapEntry t m k=>simp only[aj,h m (by simp [Op.operands]),h k (by simp [Op.operands])]
 | entryStore t m s x=>simp only[aj,h m (by simp [Op.operands]),h s (by simp [Op.operands]),h x (by simp [Op.operands])]
 | _=>rfl
end Go.Hx
namespace Go.Hx
variable {P:Program} {G:Nat->Option (List AVal)} {Γ Γ':aC} {H H':AHeap} {w w':World}
def dA (P:Program)(G:Nat->Option (List AVal))(fv:AVal)(args:List AVal)(H:AHeap)(v:AVal)(rs:List Nat):Prop :=
 (∀ r,r∈rs->r<H.next)/\∀ H2:AHeap,(∀ r,r∈rs->H2.get r=H.get r)->H.next<=H2.next->aB P G fv args H2 fun r H3=>r=.ret v/\H3=H2
def ct (P:Program)(G:Nat->Option (List AVal))(o:Oper)(K:FP->St->Prop)(s:St):Prop :=
 match o.op with
 | .call { callee:=.value fv,args,.. }=>∃ v rs,dA P G (ak G s.ρ fv) (args.toList.map (ak G s.ρ)) s.H v rs/\K ⟨[],rs⟩ ⟨aH s.ρ o.dst v,s.H⟩
 | op=>aV (aj P G s.ρ s.H s.H.next op) fun vH=>K (bh P G s.ρ s.H.next op) ⟨aH s.ρ o.dst vH.1,vH.2⟩
def dJ (i:Nat)(f:FP)(acc:List (Nat × FP)):List (Nat × FP) :=
 match f with
 | ⟨[],[]⟩=>acc
 | f=>(i,f) :: acc
def fN (b:Nat)(f:FP)(acc:List (Nat × FP)):Prop :=
 ∀ p,p∈acc->b.testBit p.1=false->(∀ r,r∈f.eff->r ∉ p.2.rs)/\(∀ r,r∈p.2.eff->r ∉ f.rs)
def dE (P:Program)(G:Nat->Option (List AVal))(all:Array Oper)(tail:St->Prop):List Nat->Nat->List (Nat × FP)->List Oper->St->Prop
 | b :: bs,i,acc,o :: rest,s=>aV (eG all s.ρ o) fun t=>if t=true then ct P G o (fun f s'=>fN b f acc/\dE P G all tail bs (i+1) (dJ i f acc) rest s') s
   else dE P G all tail bs (i+1) acc rest ⟨aH s.ρ o.dst (.lit undef),s.H⟩
 | _,_,_,[],s=>tail s
 | [],_,_,_ :: _,_=>False
def sD (o:Oper):List Nat:=(o.after.toList.filter fun e=>Region.binds .any e).map (·.on)
def sE (x:Option Tmp)(l:List Tmp):Bool:=match x with|some d=>!l.contains d|none=>true
def sF (all:Array Oper)(x y:Oper):Bool :=
 sE x.dst (y.looksAt all) && sE y.dst (x.looksAt all) && (match x.dst with|some d=>y.dst != some d|none=>true)
def da (bs:List Nat)(i:Nat):Nat:=(bs[i]?).getD 0
def vV (bs:List Nat)(i:Nat)(o:Oper):Bool :=
 let es:=sD o
 let b:=da bs i
 es.all (fun e=>decide (e<i)) && decide (b<2 ^ i) &&
 (List.range i).all (fun j=>!b.testBit j || es.any fun e=>e == j || (da bs e).testBit j)
def qw (all:Array Oper)(bs:List Nat)(K:Nat):Bool :=
 decide (bs.length=K) && decide (K<=all.size) &&
 (List.range all.size).all (fun i=>match all[i]? with|some o=>vV (bs++(List.range' K (all.size - K)).map fun m=>2 ^ m - 1) i o|none=>false) &&
 (List.range K).all fun i=>match all[i]? with
  | some o=>(List.range i).all fun j=>(da bs i).testBit j || (match all[j]? with|some o'=>sF all o' o|none=>false)
  | none=>false
structure Dt where
 v:AVal
 e:Option (Nat × Blk)
 al:Bool
 f:FP
def fa (all:Array Oper)(i:Nat):Option Tmp:=(all[i]?).bind (·.dst)
def aU (all:Array Oper)(d:Nat->Dt)(ρ0:Env):Nat->(Nat->Bool)->Env
 | 0,_=>ρ0
 | n+1,D=>if D n then aH (aU all d ρ0 n D) (fa all n) (d n).v else aU all d ρ0 n D
def aO (d:Nat->Dt)(g0:Nat->Option Blk):Nat->(Nat->Bool)->Nat->Option Blk
 | 0,_=>g0
 | n+1,D=>if D n then dI (d n).e (aO d g0 n D) else aO d g0 n D
def aE (d:Nat->Dt):Nat->Nat
 | 0=>0
 | n+1=>aE d n+(if (d n).al then 1 else 0)
def cY (x:Dt):Option Nat:=x.e.map (·.1)
theorem ou {e:Option (Nat × Blk)}{g:Nat->Option Blk}{r:Nat}(h:e.map (·.1)≠some r):dI e g r=g r:=by
 cases e with
 | none=>rfl
 | some kb =>
  simp only[dI];rw[if_neg];rintro rfl;exact h rfl
theorem ow {ρ:Env}{x:Option Tmp}{v:AVal}{t:Tmp}(h:x≠some t):aH ρ x v t=ρ t:=by
 cases x with
 | none=>rfl
 | some d =>
  simp only[aH];rw[if_neg];rintro rfl;exact h rfl
theorem sG {ρ ρ':Env}{x:Option Tmp}{v:AVal}{t:Tmp}(h:ρ t=ρ' t):aH ρ x v t=aH ρ' x v t:=by
 cases x with
 | none=>exact h
 | some d=>simp only[aH,h]
theorem sH {e:Option (Nat × Blk)}{g g':Nat->Option Blk}{r:Nat}(h:g r=g' r):dI e g r=dI e g' r:=by
 cases e with
 | none=>exact h
 | some kb=>simp only[dI,h]
theorem As {ρ:Env}{x y:Option Tmp}{v u:AVal}(h:∀ d,x=some d->y≠some d):aH (aH ρ x v) y u=aH (aH ρ y u) x v:=by
 funext t
 by_cases hx:x=some t
 ·rw[ow (h t hx)];exact sG (ow (h t hx)).symm
 ·rw[ow (ρ:=aH ρ y u) hx];exact sG (ow hx)
theorem FT {e e':Option (Nat × Blk)}{g:Nat->Option Blk}(h:∀ r,e.map (·.1)=some r->e'.map (·.1)≠some r):dI e' (dI e g)=dI e (dI e' g):=by
 funext r
 by_cases hx:e.map (·.1)=some r
 ·rw[ou (h r hx)];exact sH (ou (h r hx)).symm
 ·rw[ou (g:=dI e' g) hx];exact sH (ou hx)
section
variable {all:Array Oper} {d d':Nat->Dt} {ρ0:Env} {g0 g0':Nat->Option Blk} {D D':Nat->Bool}
theorem mC {t:Tmp}:∀ {n:Nat},(∀ j,j<n->fa all j=some t->D j=D' j)->aU all d ρ0 n D t=aU all d ρ0 n D' t:=by
 intro n
 induction n with
 | zero=>intro _;rfl
 | succ n ih =>
  intro h;have h0:=ih fun j hj=>h j (by omega);simp only[aU];by_cases hd:fa all n=some t
  ·rw[h n (by omega) hd];split
   ·exact sG h0
   ·exact h0
  ·have:∀ (b:Bool) (ρ:Env),(if b=true then aH ρ (fa all n) (d n).v else ρ) t=ρ t:=by
    intro b ρ;split
    ·exact ow hd
    ·rfl
   rw[this,this];exact h0
theorem vt {m:Nat}:∀ {n:Nat},m<=n->aU all d ρ0 n (fun j=>decide (j<m))=aU all d ρ0 m fun _=>true:=by
 have low:∀ k,k<=m->aU all d ρ0 k (fun j=>decide (j<m))=aU all d ρ0 k fun _=>true:=by
  intro k
  induction k with
  | zero=>intro _;rfl
  | succ k ih =>
   intro hk;simp only[aU];rw[ih (by omega),if_pos (by simp;omega)];simp
 intro n
 induction n with
 | zero =>
  intro hm;obtain rfl:m=0:=by omega
  exact low 0 (by omega)
 | succ n ih =>
  intro hm;by_cases h:m=n+1
  ·subst h;exact low (n+1) (by omega)
  ·simp only[aU];rw[if_neg (by simp;omega)];exact ih (by omega)
theorem mD {r:Nat}:∀ {n:Nat},(∀ j,j<n->cY (d j)=some r->D j=D' j)->aO d g0 n D r=aO d g0 n D' r:=by
 intro n
 induction n with
 | zero=>intro _;rfl
 | succ n ih =>
  intro h;have h0:=ih fun j hj=>h j (by omega);simp only[aO];by_cases hd:cY (d n)=some r
  ·rw[h n (by omega) hd];split
   ·exact sH h0
   ·exact h0
  ·have:∀ (b:Bool) (g:Nat->Option Blk),(if b=true then dI (d n).e g else g) r=g r:=by
    intro b g;split
    ·exact ou hd
    ·rfl
   rw[this,this];exact h0
theorem vu {m:Nat}:∀ {n:Nat},m<=n->aO d g0 n (fun j=>decide (j<m))=aO d g0 m fun _=>true:=by
 have low:∀ k,k<=m->aO d g0 k (fun j=>decide (j<m))=aO d g0 k fun _=>true:=by
  intro k
  induction k with
  | zero=>intro _;rfl
  | succ k ih =>
   intro hk;simp only[aO];rw[ih (by omega),if_pos (by simp;omega)];simp
 intro n
 induction n with
 | zero =>
  intro hm;obtain rfl:m=0:=by omega
  exact low 0 (by omega)
 | succ n ih =>
  intro hm;by_cases h:m=n+1
  ·subst h;exact low (n+1) (by omega)
  ·simp only[aO];rw[if_neg (by simp;omega)];exact ih (by omega)
theorem qc {r:Nat}:∀ {n:Nat},(g0 r=g0' r\/∃ j,j<n/\D j=true/\cY (d j)=some r)->aO d g0 n D r=aO d g0' n D r:=by
 intro n
 induction n with
 | zero =>
  rintro(h|⟨j,hj,_⟩)
  ·exact h
  ·omega
 | succ n ih =>
  intro h;simp only[aO];by_cases hD:D n=true
  ·rw[if_pos hD,if_pos hD];by_cases ht:cY (d n)=some r
   ·cases he:(d n).e with
    | none=>simp [cY,he]at ht
    | some kb =>
     simp only[cY,he,Option.map_some,Option.some.injEq]at ht;simp only[dI];rw[if_pos ht.symm,if_pos ht.symm]
   ·refine sH (ih ?_);rcases h with h|⟨j,hj,h1,h2⟩
    ·exact .inl h
    ·by_cases hjn:j=n
     ·subst hjn;exact absurd h2 ht
     ·exact .inr ⟨j,by omega,h1,h2⟩
  ·rw[if_neg hD,if_neg hD];refine ih ?_;rcases h with h|⟨j,hj,h1,h2⟩
   ·exact .inl h
   ·by_cases hjn:j=n
    ·subst hjn;exact absurd h1 hD
    ·exact .inr ⟨j,by omega,h1,h2⟩
theorem vv {r:Nat}:∀ {n:Nat},(∀ j,j<n->D j=true->cY (d j)≠some r)->aO d g0 n D r=g0 r:=by
 intro n
 induction n with
 | zero=>intro _;rfl
 | succ n ih =>
  intro h;simp only[aO];split
  ·rename_i hD;rw[ou (h n (by omega) hD)];exact ih fun j hj=>h j (by omega)
  ·exact ih fun j hj=>h j (by omega)
def bI (D:Nat->Bool)(i:Nat):Nat->Bool:=fun j=>if j=i then true else D j
theorem vw {i:Nat}(hD:D i=false):∀ {n:Nat},i<n->(∀ j,i<j->j<n->D j=true->∀ t,fa all i=some t->fa all j≠some t) ->
  aU all d ρ0 n (bI D i)=aH (aU all d ρ0 n D) (fa all i) (d i).v:=by
 intro n
 induction n with
 | zero=>intro h;omega
 | succ n ih =>
  intro hi h;by_cases hin:i=n
  ·subst hin;have h0:aU all d ρ0 i (bI D i)=aU all d ρ0 i D:=funext fun t=>mC fun j hj _=>by simp [bI,Nat.ne_of_lt hj]
   simp only[aU];rw[if_pos (by simp [bI]),if_neg (by simp [hD]),h0]
  ·have hw:bI D i n=D n:=(by simp [bI,Ne.symm hin]);have h0:=ih (by omega) fun j h1 h2=>h j h1 (by omega);simp only[aU,hw];split
   ·rename_i hDn;rw[h0];exact As (h n (by omega) (by omega) hDn)
   ·exact h0
theorem vy {i:Nat}(hD:D i=false):∀ {n:Nat},i<n->(∀ j,i<j->j<n->D j=true->∀ t,cY (d i)=some t->cY (d j)≠some t) ->
  aO d g0 n (bI D i)=dI (d i).e (aO d g0 n D):=by
 intro n
 induction n with
 | zero=>intro h;omega
 | succ n ih =>
  intro hi h;by_cases hin:i=n
  ·subst hin;have h0:aO d g0 i (bI D i)=aO d g0 i D:=funext fun t=>mD fun j hj _=>by simp [bI,Nat.ne_of_lt hj]
   simp only[aO];rw[if_pos (by simp [bI]),if_neg (by simp [hD]),h0]
  ·have hw:bI D i n=D n:=(by simp [bI,Ne.symm hin]);have h0:=ih (by omega) fun j h1 h2=>h j h1 (by omega);simp only[aO,hw];split
   ·rename_i hDn;rw[h0];exact FT (h n (by omega) (by omega) hDn)
   ·exact h0
theorem nZ {m n:Nat}(h:m<=n):aE d m<=aE d n:=by
 induction n with
 | zero =>
  have:m=0:=by omega
  subst this;exact Nat.le_refl _
 | succ n ih =>
  by_cases hm:m=n+1
  ·subst hm;exact Nat.le_refl _
  ·exact Nat.le_trans (ih (by omega)) (by simp [aE])
theorem qd {n c:Nat}(h:c<aE d n):∃ j,j<n/\(d j).al=true/\aE d j=c:=by
 induction n with
 | zero=>simp [aE]at h
 | succ n ih =>
  by_cases hc:c<aE d n
  ·obtain⟨j,h1,h2⟩:=ih hc;exact⟨j,by omega,h2⟩
  ·simp only[aE]at h;cases hal:(d n).al with
   | false=>simp [hal]at h;omega
   | true =>
    simp only[hal,if_true]at h;exact⟨n,by omega,hal,by omega⟩
theorem jQ {i n:Nat}(h:i<n)(hal:(d i).al=true):aE d i<aE d n:=by
 have:=nZ (d:=d) (m:=i+1) (n:=n) h;simp only[aE,hal,if_true]at this;omega
theorem qf {n:Nat}(h:∀ j,j<n->d j=d' j):aU all d ρ0 n D=aU all d' ρ0 n D:=by
 induction n with
 | zero=>rfl
 | succ n ih=>simp only[aU];rw[ih fun j hj=>h j (by omega),h n (by omega)]
theorem qg {n:Nat}(h:∀ j,j<n->d j=d' j):aO d g0 n D=aO d' g0 n D:=by
 induction n with
 | zero=>rfl
 | succ n ih=>simp only[aO];rw[ih fun j hj=>h j (by omega),h n (by omega)]
theorem eF {n:Nat}(h:∀ j,j<n->d j=d' j):aE d n=aE d' n:=by
 induction n with
 | zero=>rfl
 | succ n ih=>simp only[aE];rw[ih fun j hj=>h j (by omega),h n (by omega)]
end
def ExecOk (P:Program)(G:Nat->Option (List AVal))(all:Array Oper)(o:Oper)(id:Nat)(s s':St):Prop :=
 (eG all s.ρ o=some false/\s'=⟨aH s.ρ o.dst (.lit undef),s.H⟩) \/
 (eG all s.ρ o=some true/\∃ v,s'.ρ=aH s.ρ o.dst v /\
  (aj P G s.ρ s.H id o.op=some (v,s'.H) \/
   ∃ fv args ats,o.op=.call ⟨.value fv,args,ats⟩/\s'.H=s.H/\aB P G (ak G s.ρ fv) (args.toList.map (ak G s.ρ)) s.H fun r H3=>r=.ret v/\H3=s.H))
theorem vz {n:Nat}{wb:Base}{rd rb:Option Nat}{all:Array Oper}{o:Oper}{id i:Nat}{s s':St}{a:Act}{next:Act->World->Prop}{Q':Exit->Act->World->Prop}(ho:all[i]?=some o)(hd:eX n o=true)
  (hs:RelS P G n wb Γ s a w) (hr:dz Γ s.H rd rb) (h:ExecOk P G all o id s s')
  (hnext:∀ Γ' a' w',RelS P G n wb Γ' s' a' w'->Evo Γ s.H w Γ' s'.H w'->s.H.next<=s'.H.next->dz Γ' s'.H rd rb->(∃ cv,a'=a.put o.dst cv)->next a' w'):
  wpOpIn (dF rb) 0 P all Q' i next a w:=by
 have hdst:∀ d,o.dst=some d->d<n:=by
  intro d hd';unfold eX at hd;rw[hd']at hd;simpa using hd
 unfold wpOpIn;rw[ho];simp only;rcases h with ⟨hw,rfl⟩|⟨hw,v,hρ,h⟩
 ·rw[od hs hw];simp only[Bool.false_eq_true,if_false];refine⟨fun _ _=>trivial,?_⟩;have hs':=jq (v:=.lit undef) (cv:=undef) hs hdst (Evo.refl Γ s.H w) (Nat.le_refl _) hs.heap (.lit _);exact hnext Γ _ w hs' (Evo.refl _ _ _) (Nat.le_refl _) hr ⟨_,rfl⟩
 ·rw[od hs hw];simp only[if_true];obtain⟨ρ',H'⟩:=s';simp only at hρ;subst hρ;refine⟨fun _ _=>trivial,?_⟩;rcases h with hop|⟨fv,args,ats,hop,hH,hap⟩
  ·simp only at hop;rw[Oper.semAt_eq _ _ _ (fun c hc=>by rw[hc]at hop;simp [aj]at hop)];obtain⟨nx,cv,Γ',w',hrun,hnx,E,hn,R,hv⟩:=vM hs.heap (gF hs) hop;rw[hrun];have hri:=vR hr (vS hs.heap hop);have hs':=jq hs hdst E hn R hv;have hr':=hr.aW E hn hs.heap hri;rcases hnx with rfl|⟨rfl,rfl⟩
   ·exact hnext Γ' _ w' hs' E hn hr' ⟨_,rfl⟩
   ·exact hnext Γ' _ w' hs' E hn hr' ⟨_,rfl⟩
  ·simp only at hH;subst hH;rw[Oper.semAt_eq _ _ _ (fun c hc=>by rw[hc]at hop;cases hop)];obtain⟨d,h1,h2⟩:=hap Γ w (a.eval fv) (args.map a.eval) hs.heap (gF hs fv) ⟨by simp,fun i h1 h2=>by simp only[List.getElem_map,Array.getElem_map,Array.getElem_toList];exact gF hs _⟩;have hex:(execOp a.eval o).run P w=(invoke d.target d.args).run P w:=by
    unfold execOp;simp only[hop];unfold resolve;simp only;rw[ao h1]
   have hri:ef s.H rd:=by
    cases rd with
    | none=>trivial
    | some id =>
     obtain⟨b,st,pend,n,env,ps,asg,body,_,_,h3⟩:=hr;exact⟨_,_,_,_,_,_,_,h3⟩
   have cont:∀ e w',gG P G Γ s.H w (fun r H3=>r=.ret v/\H3=s.H) e w'->(match e with
     | .returned v=>next (a.put o.dst v) w'
     | .panicked chain=>Q' (.panic chain) a w'
     | .outgrown=>LetsOut Q'):=by
    rintro e w' ⟨r,H',Γ',hend,⟨rfl,rfl⟩,R,E,hn⟩;have hr':=hr.aW E hn hs.heap hri;cases e with
    | returned cv=>exact hnext Γ' _ w' (jq hs hdst E hn R hend) E hn hr' ⟨_,rfl⟩
    | panicked chain=>exact hend.elim
    | outgrown=>exact hend.elim
   rw[hex];rcases h2 with ⟨f,as,h3,h4⟩|⟨l,f,tm,asg,body,h3,h4⟩|⟨cv,w',h3,h4⟩
   ·rw[h3];refine⟨fun hc=>by simp [Fence.wide]at hc,?_⟩;have h4':CallsIn (dF rb) 0 P f as w _:=h4;refine h4'.mono ?_;intro e w' hp;have:=cont e w' hp;cases e<;>exact this
   ·rw[h3];refine⟨fun hc=>by simp [Fence.wide]at hc,?_⟩;have h4':RoundIn (dF rb) 0 P l f tm asg body w _:=h4;refine h4'.mono ?_;intro e w' hp;have:=cont e w' hp;cases e<;>exact this
   ·rw[h3];exact cont (.returned cv) w' h4
def kx (d:Nat->Dt)(H0:AHeap)(m:Nat):AHeap:=⟨aO d H0.get m fun _=>true,H0.next+aE d m⟩
def canon (all:Array Oper)(d:Nat->Dt)(s0:St)(m:Nat):St:=⟨aU all d s0.ρ m fun _=>true,kx d s0.H m⟩
structure GoodAt (P:Program)(G:Nat->Option (List AVal))(all:Array Oper)(bs:List Nat)(s0:St)(d:Nat->Dt)(i:Nat):Prop where
 step:∀ o,all[i]?=some o->∀ ρ2 H2,(∀ t,t∈o.looksAt all->ρ2 t=(canon all d s0 i).ρ t)->(∀ r,r∈(d i).f.rs->H2.get r=(canon all d s0 i).H.get r) ->
  ((d i).al=true->H2.get (s0.H.next+aE d i)=some .rsv/\s0.H.next+aE d i≠H2.next)->s0.H.next+aE d i<=H2.next ->
  ExecOk P G all o (s0.H.next+aE d i) ⟨ρ2,H2⟩ ⟨aH ρ2 o.dst (d i).v,⟨dI (d i).e H2.get,H2.next⟩⟩
 eff:∀ k b,(d i).e=some (k,b)->k∈(d i).f.eff/\((d i).al=false->k∈(d i).f.rs)
 al:(d i).al=true->∃ b,(d i).e=some (s0.H.next+aE d i,b)
 lt:∀ r,r∈(d i).f.rs->r<s0.H.next+aE d i
 apart:∀ j,j<i->(da bs i).testBit j=false->(∀ r,r∈(d i).f.eff->r ∉ (d j).f.rs)/\(∀ r,r∈(d j).f.eff->r ∉ (d i).f.rs)
theorem oA {all:Array Oper}{o:Oper}{ρ ρ':Env}(h:∀ t,t∈o.looksAt all->ρ' t=ρ t):eG all ρ' o=eG all ρ o:=by
 unfold eG;cases hg:o.guard with
 | none=>rfl
 | some gw =>
  obtain⟨j,want⟩:=gw;simp only;cases hd:(all[j]?).bind (·.dst) with
  | none=>rfl
  | some d =>
   simp only;rw[h d (by simp [Oper.looksAt,hg,hd])]
theorem sI {all:Array Oper}{o:Oper}{ρ ρ':Env}(h:∀ t,t∈o.looksAt all->ρ' t=ρ t):∀ x,x∈o.op.operands->ak G ρ' x=ak G ρ x:=by
 intro x hx;cases x with
 | tmp t=>exact h t (List.mem_append_left _ (List.mem_filterMap.2 ⟨.tmp t,by simpa using hx,rfl⟩))
 | _=>rfl
def bO (d:Nat->Dt)(m:Nat)(x:Dt):Nat->Dt:=fun j=>if j=m then x else d j
theorem fB {d:Nat->Dt}{m:Nat}{x:Dt}{i:Nat}(h:i<m):d i=bO d m x i:=by simp [bO,Nat.ne_of_lt h]
theorem cE {d:Nat->Dt}{m:Nat}{x:Dt}:bO d m x m=x:=by simp [bO]
theorem ky {all:Array Oper}{d d':Nat->Dt}{s0:St}{m:Nat}(h:∀ j,j<m->d j=d' j):canon all d s0 m=canon all d' s0 m:=by
 unfold canon kx;rw[qf h,qg h,eF h]
theorem GoodAt.below {all:Array Oper}{bs:List Nat}{s0:St}{d d':Nat->Dt}{i:Nat}(g:GoodAt P G all bs s0 d i)(h:∀ j,j<=i->d j=d' j):GoodAt P G all bs s0 d' i:=by
 have hi:=h i (Nat.le_refl _);have hn:aE d i=aE d' i:=eF fun j hj=>h j (by omega);have hc:canon all d s0 i=canon all d' s0 i:=ky fun j hj=>h j (by omega);obtain⟨a,b,c,e,f⟩:=g;refine⟨?_,?_,?_,?_,?_⟩
 ·rw[<- hi,<- hn,<- hc];exact a
 ·rw[<- hi];exact b
 ·rw[<- hi,<- hn];exact c
 ·rw[<- hi,<- hn];exact e
 ·intro j hj hb;rw[<- hi,<- h j (by omega)];exact f j hj hb
def jm (d:Nat->Dt)(m:Nat)(acc:List (Nat × FP)):Prop:=∀ j,j<m->(d j).f=⟨[],[]⟩\/(j,(d j).f)∈acc
theorem jm.add {d:Nat->Dt}{m:Nat}{acc:List (Nat × FP)}(h:jm d m acc)(x:Dt):jm (bO d m x) (m+1) (dJ m x.f acc):=by
 intro j hj;have key:∀ p,p∈acc->p∈dJ m x.f acc:=by
  intro p hp;unfold dJ;split
  ·exact hp
  ·exact List.mem_cons_of_mem _ hp
 by_cases hjm:j=m
 ·subst hjm;rw[cE];by_cases hf:x.f=⟨[],[]⟩
  ·exact .inl hf
  ·refine .inr ?_;unfold dJ;split
   ·rename_i h0;exact absurd h0 hf
   ·exact List.mem_cons_self
 ·rw[<- fB (x:=x) (by omega)];exact(h j (by omega)).imp id (key _)
theorem qh {d:Nat->Dt}{m:Nat}{acc:List (Nat × FP)}{b:Nat}{f:FP}(hc:jm d m acc)(h:fN b f acc):∀ j,j<m->b.testBit j=false->(∀ r,r∈f.eff->r ∉ (d j).f.rs)/\(∀ r,r∈(d j).f.eff->r ∉ f.rs):=by
 intro j hj hb;rcases hc j hj with h0|h1
 ·rw[h0];exact⟨fun r _ h=>(by cases h),fun r h=>(by cases h)⟩
 ·exact h _ h1 hb
theorem mF {all:Array Oper}{d:Nat->Dt}{s0:St}{m:Nat}{x:Dt}{o:Oper}(ho:all[m]?=some o):
  canon all (bO d m x) s0 (m+1)=⟨aH (canon all d s0 m).ρ o.dst x.v,⟨dI x.e (canon all d s0 m).H.get,(canon all d s0 m).H.next+(if x.al then 1 else 0)⟩⟩:=by
 have hb:∀ j,j<m->d j=bO d m x j:=fun j hj=>fB hj;unfold canon kx;simp only[aU,aO,aE,if_true,cE];rw[<- qf hb,<- qg hb,<- eF hb];simp only[fa,ho,Option.bind_some,Nat.add_assoc]
theorem mG {all:Array Oper}{bs:List Nat}{s0:St}{d:Nat->Dt}{m:Nat}{x:Dt}(hg:∀ i,i<m->GoodAt P G all bs s0 d i)(hx:GoodAt P G all bs s0 (bO d m x) m):
  ∀ i,i<m+1->GoodAt P G all bs s0 (bO d m x) i:=by
 intro i hi;by_cases him:i=m
 ·subst him;exact hx
 ·exact(hg i (by omega)).below fun j hj=>fB (by omega)
theorem trace {all:Array Oper}{bs:List Nat}{s0:St}{tail:St->Prop}{K:Nat}(hbs:bs.length=K)(hK:K<=all.size):∀ (k m:Nat) (d:Nat->Dt) (acc:List (Nat × FP)),k+m=K ->
  (∀ i,i<m->GoodAt P G all bs s0 d i)->jm d m acc->eT (canon all d s0 m).H->dE P G all tail (bs.drop m) m acc ((all.toList.take K).drop m) (canon all d s0 m) ->
  ∃ d',(∀ i,i<K->GoodAt P G all bs s0 d' i)/\tail (canon all d' s0 K):=by
 intro k
 induction k with
 | zero =>
  intro m d acc hm hg hc wf h;obtain rfl:m=K:=by omega
  refine⟨d,hg,?_⟩;have:(all.toList.take m).drop m=[]:=by
   apply List.drop_eq_nil_of_le;simp only[List.length_take];omega
  rw[this]at h;cases hb:bs.drop m with
  | nil=>rw[hb]at h;simpa only[dE] using h
  | cons b bs'=>rw[hb]at h;simpa only[dE] using h
 | succ k ih =>
  intro m d acc hm hg hc wf h;have hmK:m<K:=by omega
  have hms:m<all.size:=by omega
  have ho:all[m]?=some all[m]:=Array.getElem?_eq_getElem hms;have hbm:bs.drop m=da bs m :: bs.drop (m+1):=by
   rw[List.drop_eq_getElem_cons (by omega)];congr 1;simp [da,List.getElem?_eq_getElem (show m<bs.length by omega)]
  have hom:(all.toList.take K).drop m=all[m] :: (all.toList.take K).drop (m+1):=by
   rw[List.drop_eq_getElem_cons (by simp only[List.length_take,Array.length_toList];omega)];congr 1;simp
  rw[hbm,hom]at h;simp only[dE]at h;obtain⟨t,ht,h⟩:=h;have hnext:(canon all d s0 m).H.next=s0.H.next+aE d m:=rfl;cases t with
  | false =>
   simp only[Bool.false_eq_true,if_false]at h
   let x:Dt:=⟨.lit undef,none,false,⟨[],[]⟩⟩
   have hb:∀ j,j<m->d j=bO d m x j:=fun j hj=>fB hj;have hcan:canon all (bO d m x) s0 (m+1)=⟨aH (canon all d s0 m).ρ all[m].dst (.lit undef),(canon all d s0 m).H⟩:=mF ho;have hgx:GoodAt P G all bs s0 (bO d m x) m:=by
    refine⟨?_,?_,?_,?_,?_⟩
    ·rw[cE,<- ky hb];intro o ho' ρ2 H2 h1 h2 h3 _;rw[ho]at ho';cases ho';refine .inl ⟨?_,rfl⟩;simp only;rw[oA h1,ht]
    ·rw[cE];intro k b he;cases he
    ·rw[cE];intro he;cases he
    ·rw[cE];intro r hr;cases hr
    ·rw[cE];intro j hj hbit;exact⟨fun r hr=>(by cases hr),fun r hr hr'=>(by cases hr')⟩
   refine ih (m+1) (bO d m x) acc (by omega) (mG hg hgx) (hc.add x) ?_ ?_
   ·rw[hcan];exact wf
   ·rw[hcan];exact h
  | true =>
   simp only[if_true]at h;unfold ct at h;split at h
   ·rename_i fv args ats hop;obtain⟨v,rs,⟨hlt,hcall⟩,hap,h⟩:=h
    let x:Dt:=⟨v,none,false,⟨[],rs⟩⟩
    have hb:∀ j,j<m->d j=bO d m x j:=fun j hj=>fB hj;have hcan:canon all (bO d m x) s0 (m+1)=⟨aH (canon all d s0 m).ρ all[m].dst v,(canon all d s0 m).H⟩:=mF ho;have hgx:GoodAt P G all bs s0 (bO d m x) m:=by
     refine⟨?_,?_,?_,?_,?_⟩
     ·rw[cE,<- ky hb];intro o ho' ρ2 H2 h1 h2 h3 h4;rw[ho]at ho';cases ho';refine .inr ⟨?_,v,rfl,.inr ⟨fv,args,ats,hop,rfl,?_⟩⟩
      ·simp only;rw[oA h1,ht]
      ·have hev:=sI (G:=G) h1;have e1:ak G ρ2 fv=ak G (canon all d s0 m).ρ fv:=hev fv (by simp [hop,Op.operands,Call.operands]);have e2:args.toList.map (ak G ρ2)=args.toList.map (ak G (canon all d s0 m).ρ) :=
        List.map_congr_left fun y hy=>hev y (by simp only[hop,Op.operands,Call.operands];simp;exact .inr (by simpa using hy))
       simp only;rw[e1,e2];exact hcall H2 h2 (by rw[hnext,eF hb];exact h4)
     ·rw[cE];intro k b he;cases he
     ·rw[cE];intro he;cases he
     ·rw[cE,<- eF hb];exact hlt
     ·rw[cE];intro j hj hbit;rw[<- fB hj];exact qh hc hap j hj hbit
    refine ih (m+1) (bO d m x) _ (by omega) (mG hg hgx) (hc.add x) ?_ ?_
    ·rw[hcan];exact wf
    ·rw[hcan];exact h
   ·obtain⟨⟨v,H'⟩,hop,hap,h⟩:=h;obtain⟨e,al,hget,hnx,heff,hal,hlt,hloc⟩:=vU wf hop
    let x:Dt:=⟨v,e,al,bh P G (canon all d s0 m).ρ (canon all d s0 m).H.next all[m].op⟩
    have hb:∀ j,j<m->d j=bO d m x j:=fun j hj=>fB hj;have hcan:canon all (bO d m x) s0 (m+1)=⟨aH (canon all d s0 m).ρ all[m].dst v,H'⟩:=by
     rw[mF ho];congr 1;cases H';simp only at hget hnx;simp only[AHeap.mk.injEq];refine⟨hget.symm,?_⟩;rw[hnx];simp only[x];cases al<;>simp
    have hgx:GoodAt P G all bs s0 (bO d m x) m:=by
     refine⟨?_,?_,?_,?_,?_⟩
     ·rw[cE,<- ky hb,<- eF hb];intro o ho' ρ2 H2 h1 h2 h3 h4;rw[ho]at ho';cases ho';refine .inr ⟨?_,v,rfl,.inl ?_⟩
      ·simp only;rw[oA h1,ht]
      ·simp only;rw[Ar (ρ':=(canon all d s0 m).ρ) (sI h1)];exact hloc H2 h2 h3
     ·rw[cE];exact heff
     ·rw[cE,<- eF hb];exact hal
     ·rw[cE,<- eF hb];exact hlt
     ·rw[cE];intro j hj hbit;rw[<- fB hj];exact qh hc hap j hj hbit
    have wf':eT H':=by
     intro id b hid;rw[hget]at hid;rw[hnx];cases e with
     | none =>
      have:=wf id b hid;split<;>omega
     | some kb =>
      obtain⟨k0,b0⟩:=kb;simp only[dI]at hid;split at hid
      ·rename_i hk;subst hk;cases al with
       | true =>
        obtain⟨b1,hb1⟩:=hal rfl;simp only[Option.some.injEq,Prod.mk.injEq]at hb1;simp only[if_true];omega
       | false =>
        have:=hlt _ ((heff id b0 rfl).2 rfl);simpa using this
      ·have:=wf id b hid;split<;>omega
    refine ih (m+1) (bO d m x) _ (by omega) (mG hg hgx) (hc.add x) ?_ ?_
    ·rw[hcan];exact wf'
    ·rw[hcan];exact h
end Go.Hx
namespace Go.Hx
variable {P:Program} {G:Nat->Option (List AVal)} {Γ Γ':aC} {H H':AHeap} {w w':World}
structure Static (all:Array Oper)(bs:List Nat)(K:Nat):Prop where
 len:bs.length=K
 le:K<=all.size
 down:∀ i o,all[i]?=some o->∀ e,e∈o.after->Region.binds .any e=true->e.on<i
 just:∀ i o j,all[i]?=some o->(if i<K then (da bs i).testBit j=true else j<i)->∃ e,e∈o.after/\Region.binds .any e=true/\(e.on=j\/(if e.on<K then (da bs e.on).testBit j=true else j<e.on))
 apart:∀ i j oi oj,i<K->j<i->all[i]?=some oi->all[j]?=some oj->(da bs i).testBit j=false->sF all oj oi=true
theorem AI {o:Oper}{k:Nat}:k∈sD o↔∃ e,e∈o.after/\Region.binds .any e=true/\e.on=k:=by
 simp [sD,and_assoc]
theorem AJ {bs:List Nat}{K N i j:Nat}(hl:bs.length=K)(hi:i<N)(hK:K<=N):
  (da (bs++(List.range' K (N - K)).map fun m=>2 ^ m - 1) i).testBit j=true↔(if i<K then (da bs i).testBit j=true else j<i):=by
 unfold da;by_cases h:i<K
 ·rw[if_pos h,List.getElem?_append_left (by omega)]
 ·rw[if_neg h,List.getElem?_append_right (by omega),List.getElem?_map,List.getElem?_range' (by omega)];simp only[Option.map_some,Option.getD_some,Nat.testBit_two_pow_sub_one,decide_eq_true_eq];have:K+1*(i - bs.length)=i:=by omega
  rw[this]
theorem AK {all:Array Oper}{bs:List Nat}{K:Nat}(h:qw all bs K=true):Static all bs K:=by
 unfold qw at h;simp only[Bool.and_eq_true,decide_eq_true_eq,List.all_eq_true,List.mem_range]at h;obtain⟨⟨⟨hlen,hle⟩,hone⟩,hap⟩:=h;have hlt:∀ i o,all[i]?=some o->i<all.size:=fun i o ho=>(Array.getElem?_eq_some_iff.1 ho).1;have hdown:∀ i o,all[i]?=some o->∀ e,e∈o.after->Region.binds .any e=true->e.on<i:=by
  intro i o ho e he hb;have h1:=hone i (hlt i o ho);rw[ho]at h1;simp only[vV,Bool.and_eq_true,List.all_eq_true,decide_eq_true_eq]at h1;exact h1.1.1 e.on (AI.2 ⟨e,he,hb,rfl⟩)
 refine⟨hlen,hle,hdown,?_,?_⟩
 ·intro i o j ho hj;have hi:=hlt i o ho;have h1:=hone i hi;rw[ho]at h1;simp only[vV,Bool.and_eq_true,List.all_eq_true,decide_eq_true_eq,List.mem_range]at h1;obtain⟨⟨_,hb⟩,h2⟩:=h1;have hbit:=(AJ (j:=j) hlen hi hle).2 hj;have hji:j<i:=by
   rcases Nat.lt_or_ge j i with h|h
   ·exact h
   ·have:=Nat.testBit_lt_two_pow (Nat.lt_of_lt_of_le hb (Nat.pow_le_pow_right (by omega) h));rw[hbit]at this;cases this
  have h3:=h2 j hji;rw[hbit]at h3;simp only[Bool.not_true,Bool.false_or,List.any_eq_true,Bool.or_eq_true,beq_iff_eq]at h3;obtain⟨k,hk,h4⟩:=h3;obtain⟨e,he,hbe,rfl⟩:=AI.1 hk;refine⟨e,he,hbe,h4.imp id fun h5=>?_⟩;exact(AJ (j:=j) hlen (Nat.lt_trans (hdown i o ho e he hbe) hi) hle).1 h5
 ·intro i j oi oj hi hj hoi hoj hbit;have h1:=hap i hi;rw[hoi]at h1;simp only[List.all_eq_true,List.mem_range]at h1;have h2:=h1 j hj;rw[hbit,hoj]at h2;simpa using h2
theorem AL {x:Option Tmp}{l:List Tmp}{t:Tmp}(h:sE x l=true)(hx:x=some t):t ∉ l:=by
 subst hx;simpa [sE] using h
theorem oI {all:Array Oper}{x y:Oper}(h:sF all x y=true):(∀ t,x.dst=some t->t ∉ y.looksAt all)/\(∀ t,y.dst=some t->t ∉ x.looksAt all)/\(∀ t,x.dst=some t->y.dst≠some t):=by
 simp only[sF,Bool.and_eq_true]at h;obtain⟨⟨h1,h2⟩,h3⟩:=h;refine⟨fun t ht=>AL h1 ht,fun t ht=>AL h2 ht,fun t ht=>?_⟩;rw[ht]at h3;simpa using h3
def sN (all:Array Oper)(L:Nat->Bool):Prop:=∀ i o,L i=true->all[i]?=some o->∀ e,e∈o.after->Region.binds .any e=true->L e.on=true
theorem Static.ahead {all:Array Oper}{bs:List Nat}{K:Nat}(S:Static all bs K){L:Nat->Bool}(hL:sN all L):∀ i o j,all[i]?=some o->(∀ e,e∈o.after->Region.binds .any e=true->L e.on=true) ->
  (if i<K then (da bs i).testBit j=true else j<i)->L j=true:=by
 intro i
 induction i using Nat.strongRecOn with
 | _ i ih =>
  intro o j ho hdir hj;obtain⟨e,he,hb,h⟩:=S.just i o j ho hj;have hon:=hdir e he hb;rcases h with rfl|h
  ·exact hon
  ·have hlt:=S.down i o ho e he hb;have hi:=(Array.getElem?_eq_some_iff.1 ho).1;exact ih e.on hlt all[e.on] j (Array.getElem?_eq_getElem (by omega)) (hL e.on _ hon (Array.getElem?_eq_getElem (by omega))) h
def bE (H:AHeap)(k:Nat):AHeap:=⟨fun j=>if H.next<=j/\j<H.next+k then some .rsv else H.get j,H.next+k⟩
theorem qx (H:AHeap)(k:Nat):Evo Γ H w Γ (bE H k) w where
 os:=rfl
 tape:=rfl
 output:=rfl
 size:=Nat.le_refl _
 keep:=fun _ _ h=>⟨rfl,h⟩
 live:=fun id h1 _ x' hx=>by
  refine⟨x',?_,Blk.le_refl _ _ _⟩;simp only[bE]at hx;rw[if_neg (by omega)]at hx;exact hx
 frz:=fun _ _=>rfl
theorem oJ (w:World):Evo Γ H w Γ H { w with drawn:=w.drawn+1 } where
 os:=rfl
 tape:=rfl
 output:=rfl
 size:=Nat.le_refl _
 keep:=fun _ _ h=>⟨rfl,h⟩
 live:=fun _ _ _ x' hx=>⟨x',hx,Blk.le_refl _ _ _⟩
 frz:=fun _ _=>rfl
theorem RelH.move (R:RelH P G Γ H w)(hheap:w'.heap=w.heap)(E:Evo Γ H w Γ H' w')(hn:H.next<=H'.next)(hget:∀ id b,H'.get id=some b->H.get id=some b\/(b=.rsv/\H.get id=none/\id<H'.next))(hsame:∀ id b,H.get id=some b->H'.get id=some b):RelH P G Γ H' w' where
 arr id g e cells hg:=by
  rcases hget _ _ hg with h|h
  ·have h1:=R.arr id g e cells h;cases hΓ:Γ id with
   | none=>rw[hΓ]at h1;exact h1
   | some y =>
    obtain⟨b,base,n⟩:=y;rw[hΓ]at h1;obtain⟨c,a1,a2,a3,a4⟩:=h1;exact⟨c,by rw[hheap];exact a1,a2,a3,fun i hi=>let ⟨cv,b1,b2⟩:=a4 i hi;⟨cv,b1,b2.aW E hn⟩⟩
  ·cases h.1
 loop id st pend n env ps asg body hg:=by
  rcases hget _ _ hg with h|h
  ·obtain⟨b,rr,a1,a2,a3,a4,a5,a6,a7,a8,a9⟩:=R.loop id st pend n env ps asg body h;exact⟨b,rr,a1,by rw[hheap];exact a2,a3,a4,a5,a6,a7,a8,fun t ht=>(a9 t ht).aW E hn⟩
  ·cases h.1
 mp id es hg:=by
  rcases hget _ _ hg with h|h
  ·obtain⟨b,a1,a2⟩:=R.mp id es h;exact⟨b,a1,by rw[hheap];exact a2⟩
  ·cases h.1
 rsv id hg:=by
  rcases hget _ _ hg with h|h
  ·exact R.rsv id h
  ·cases hΓ:Γ id with
   | none=>rfl
   | some x =>
    obtain⟨y,hy⟩:=R.dom id x hΓ;rw[h.2.1]at hy;cases hy
 inj:=R.inj
 dom id x h:=let ⟨y,hy⟩:=R.dom id x h;⟨y,hsame _ _ hy⟩
 lt id b base n h:=by rw[hheap];exact R.lt id b base n h
 next id y h:=by
  rcases hget _ _ h with h|h
  ·exact Nat.lt_of_lt_of_le (R.next id y h) hn
  ·exact h.2.2
 glob g cells h:=(R.glob g cells h).aW E hn
 gsz:=R.nJ E
theorem AM (R:RelH P G Γ H w)(k:Nat):RelH P G Γ (bE H k) w:=by
 have hnone:∀ id,H.next<=id->H.get id=none:=by
  intro id h;cases hg:H.get id with
  | none=>rfl
  | some y=>have:=R.next id y hg;omega
 refine R.move rfl (qx H k) (by simp [bE]) (fun id b hb=>?_) (fun id b hb=>?_)
 ·simp only[bE]at hb;split at hb
  ·rename_i hc;simp only[Option.some.injEq]at hb;exact .inr ⟨hb.symm,hnone id hc.1,hc.2⟩
  ·exact .inl hb
 ·simp only[bE];rw[if_neg]
  ·exact hb
  ·have:=R.next id b hb;omega
theorem RelS.move {n:Nat}{wb:Base}{s:St}{a:Act}(hs:RelS P G n wb Γ s a w){H':AHeap}(E:Evo Γ s.H w Γ H' w')(hn:s.H.next<=H'.next)(R:RelH P G Γ H' w'):RelS P G n wb Γ ⟨s.ρ,H'⟩ a w' :=
 ⟨hs.size,fun t=>(hs.env t).aW E hn,R,hs.defers.aW E,Nat.le_trans hs.low E.size⟩
theorem dz.move {rd rb:Option Nat}(h:dz Γ H rd rb)(hk:∀ id b,H.get id=some b->H'.get id=some b):dz Γ H' rd rb:=by
 cases rd with
 | none=>exact h
 | some id =>
  obtain⟨b,st,pend,n,env,ps,asg,body,h1,h2,h3⟩:=h;exact⟨b,_,_,_,_,_,_,_,h1,h2,hk _ _ h3⟩
def dU (all:Array Oper)(d:Nat->Dt)(s0:St)(K:Nat)(D:Nat->Bool):St :=
 ⟨aU all d s0.ρ K D,⟨aO d (bE s0.H (aE d K)).get K D,s0.H.next+aE d K⟩⟩
theorem lu {all:Array Oper}{j:Nat}{o:Oper}(h:all[j]?=some o):fa all j=o.dst:=by simp [fa,h]
theorem vA {all:Array Oper}{bs:List Nat}{K:Nat}(S:Static all bs K){d:Nat->Dt}{s0:St}(hg:∀ i,i<K->GoodAt P G all bs s0 d i){D:Nat->Bool}{i:Nat}{o:Oper}(hi:i<K)(ho:all[i]?=some o)(hDi:D i=false)
  (hdown:∀ j,j<i->(da bs i).testBit j=true->D j=true) (hup:∀ j,i<j->j<K->D j=true->(da bs j).testBit i=false):
  ExecOk P G all o (s0.H.next+aE d i) (dU all d s0 K D) (dU all d s0 K (bI D i)):=by
 have hget:∀ j,j<K->∃ oj,all[j]?=some oj:=fun j hj=>⟨_,Array.getElem?_eq_getElem (Nat.lt_of_lt_of_le hj S.le)⟩
 have hgi:=hg i hi;have tgtE:∀ j r,j<K->cY (d j)=some r->r∈(d j).f.eff/\(((d j).al=true/\r=s0.H.next+aE d j)\/((d j).al=false/\r∈(d j).f.rs)):=by
  intro j r hj ht;unfold cY at ht;cases he:(d j).e with
  | none=>rw[he]at ht;cases ht
  | some kb =>
   obtain⟨k,b⟩:=kb;rw[he]at ht;simp only[Option.map_some,Option.some.injEq]at ht;subst ht;obtain⟨h1,h2⟩:=(hg j hj).eff k b he;refine⟨h1,?_⟩;cases hal:(d j).al with
   | true =>
    obtain⟨b',hb'⟩:=(hg j hj).al hal;rw[he]at hb';simp only[Option.some.injEq,Prod.mk.injEq]at hb';exact .inl ⟨rfl,hb'.1⟩
   | false=>exact .inr ⟨rfl,h2 hal⟩
 have rangeK:∀ r,r<s0.H.next+aE d i->((bE s0.H (aE d K)).get r=s0.H.get r\/∃ j,j<i/\(fun _:Nat=>true) j=true/\cY (d j)=some r):=by
  intro r hr;by_cases h:s0.H.next<=r
  ·obtain⟨j,h1,h2,h3⟩:=qd (d:=d) (n:=i) (c:=r - s0.H.next) (by omega);obtain⟨b,hb⟩:=(hg j (by omega)).al h2;refine .inr ⟨j,h1,rfl,?_⟩;unfold cY;rw[hb,h3];simp only[Option.map_some,Option.some.injEq];omega
  ·left;simp only[bE];rw[if_neg (by omega)]
 have henv:∀ t,t∈o.looksAt all->aU all d s0.ρ K D t=(canon all d s0 i).ρ t:=by
  intro t ht;show _=aU all d s0.ρ i (fun _=>true) t;rw[<- vt (all:=all) (d:=d) (ρ0:=s0.ρ) (m:=i) (n:=K) (by omega)];refine mC fun j hj hdj=>?_;obtain⟨oj,hoj⟩:=hget j hj;rw[lu hoj]at hdj;rcases Nat.lt_trichotomy j i with h|rfl|h
  ·cases hb:(da bs i).testBit j with
   | true=>rw[hdown j h hb];simp [h]
   | false=>exact absurd ht ((oI (S.apart i j o oj hi h ho hoj hb)).1 t hdj)
  ·rw[hDi];simp
  ·cases hD:D j with
   | false=>symm;simp;omega
   | true=>exact absurd ht ((oI (S.apart j i oj o hj h hoj ho (hup j h hj hD))).2.1 t hdj)
 have hheap:∀ r,r∈(d i).f.rs->aO d (bE s0.H (aE d K)).get K D r=(canon all d s0 i).H.get r:=by
  intro r hr;show _=aO d s0.H.get i (fun _=>true) r;rw[<- qc (g0:=(bE s0.H (aE d K)).get) (rangeK r (hgi.lt r hr)),<- vu (m:=i) (n:=K) (by omega)];refine mD fun j hj ht=>?_;obtain⟨he,_⟩:=tgtE j r hj ht;rcases Nat.lt_trichotomy j i with h|rfl|h
  ·cases hb:(da bs i).testBit j with
   | true=>rw[hdown j h hb];simp [h]
   | false=>exact absurd hr ((hgi.apart j h hb).2 r he)
  ·rw[hDi];simp
  ·cases hD:D j with
   | false=>symm;simp;omega
   | true=>exact absurd hr (((hg j hj).apart i h (hup j h hj hD)).1 r he)
 have hal:(d i).al=true->aO d (bE s0.H (aE d K)).get K D (s0.H.next+aE d i)=some .rsv/\s0.H.next+aE d i≠s0.H.next+aE d K:=by
  intro hal;have hlt:=jQ hi hal;refine⟨?_,by omega⟩;obtain⟨b,hb⟩:=hgi.al hal;have heff:=(hgi.eff _ _ hb).1;rw[vv]
  ·simp only[bE];rw[if_pos (by omega)]
  ·intro j hj hD ht;obtain⟨h1,h2⟩:=tgtE j _ hj ht;rcases Nat.lt_trichotomy j i with h|rfl|h
   ·rcases h2 with ⟨h2,h3⟩|⟨h2,h3⟩
    ·have:=jQ h h2;omega
    ·have:=(hg j hj).lt _ h3;have:=nZ (d:=d) (Nat.le_of_lt h);omega
   ·rw[hDi]at hD;cases hD
   ·rcases h2 with ⟨h2,h3⟩|⟨h2,h3⟩
    ·have:=jQ h hal;omega
    ·exact absurd h3 (((hg j hj).apart i h (hup j h hj hD)).2 _ heff)
 have:=hgi.step o ho (aU all d s0.ρ K D) ⟨aO d (bE s0.H (aE d K)).get K D,s0.H.next+aE d K⟩ henv hheap hal (by have:=nZ (d:=d) (Nat.le_of_lt hi);simp only;omega);have e1:aU all d s0.ρ K (bI D i)=aH (aU all d s0.ρ K D) o.dst (d i).v:=by
  rw[vw hDi hi,lu ho];intro j h hj hD t hti;obtain⟨oj,hoj⟩:=hget j hj;rw[lu ho]at hti;rw[lu hoj];exact(oI (S.apart j i oj o hj h hoj ho (hup j h hj hD))).2.2 t hti
 have e2:aO d (bE s0.H (aE d K)).get K (bI D i)=dI (d i).e (aO d (bE s0.H (aE d K)).get K D):=by
  refine vy hDi hi fun j h hj hD r hti htj=>?_;obtain⟨a1,a2⟩:=tgtE i r hi hti;obtain⟨b1,b2⟩:=tgtE j r hj htj;obtain⟨c1,c2⟩:=(hg j hj).apart i h (hup j h hj hD);rcases b2 with ⟨b2,b3⟩|⟨b2,b3⟩
  ·rcases a2 with ⟨a2,a3⟩|⟨a2,a3⟩
   ·have:=jQ h a2;omega
   ·exact c1 r b1 a3
  ·exact c2 r a1 b3
 unfold dU;rw[e1,e2];exact this
theorem qi {all:Array Oper}{bs:List Nat}{K:Nat}{d:Nat->Dt}{s0:St}(hg:∀ i,i<K->GoodAt P G all bs s0 d i){D:Nat->Bool}(hD:∀ j,j<K->D j=true):dU all d s0 K D=canon all d s0 K:=by
 unfold dU canon kx;have e1:aU all d s0.ρ K D=aU all d s0.ρ K fun _=>true:=funext fun t=>mC fun j hj _=>hD j hj;have e2:aO d (bE s0.H (aE d K)).get K D=aO d s0.H.get K fun _=>true:=by
  funext r
  rw[mD (D':=fun _=>true) fun j hj _=>hD j hj];refine qc ?_;by_cases h:s0.H.next<=r/\r<s0.H.next+aE d K
  ·obtain⟨j,h1,h2,h3⟩:=qd (d:=d) (n:=K) (c:=r - s0.H.next) (by omega);obtain⟨b,hb⟩:=(hg j h1).al h2;refine .inr ⟨j,h1,rfl,?_⟩;unfold cY;rw[hb,h3];simp only[Option.map_some,Option.some.injEq];omega
  ·left;simp only[bE];rw[if_neg h]
 rw[e1,e2]
theorem vB {all:Array Oper}{K:Nat}{d:Nat->Dt}{s0:St}{D:Nat->Bool}(hD:∀ j,j<K->D j=false):dU all d s0 K D=⟨s0.ρ,bE s0.H (aE d K)⟩:=by
 unfold dU;have e1:∀ n,n<=K->aU all d s0.ρ n D=s0.ρ:=by
  intro n
  induction n with
  | zero=>intro _;rfl
  | succ n ih=>intro h;simp only[aU];rw[if_neg (by simp [hD n h])];exact ih (by omega)
 have e2:∀ n,n<=K->aO d (bE s0.H (aE d K)).get n D=(bE s0.H (aE d K)).get:=by
  intro n
  induction n with
  | zero=>intro _;rfl
  | succ n ih=>intro h;simp only[aO];rw[if_neg (by simp [hD n h])];exact ih (by omega)
 rw[e1 K (Nat.le_refl _),e2 K (Nat.le_refl _)];rfl
end Go.Hx
namespace Go.Hx
variable {P:Program} {G:Nat->Option (List AVal)} {Γ Γ':aC} {H H':AHeap} {w w':World}
def eh (listed:Array Bool):Nat->Nat
 | 0=>0
 | n+1=>eh listed n+(if listed.getD n true=false then 1 else 0)
theorem vY {listed:Array Bool}{i:Nat}(hi:listed.getD i true=false):∀ n,eh (listed.setIfInBounds i true) n+(if i<n then 1 else 0)=eh listed n:=by
 have hsz:i<listed.size:=by
  rcases Nat.lt_or_ge i listed.size with h|h
  ·exact h
  ·rw[Array.getD_eq_getD_getElem?,Array.getElem?_eq_none h]at hi;cases hi
 intro n
 induction n with
 | zero=>simp [eh]
 | succ n ih =>
  simp only[eh];by_cases hin:n=i
  ·subst hin;have:(listed.setIfInBounds n true).getD n true=true:=(by simp [hsz]);have h2:(if n<n then 1 else 0)=0:=if_neg (Nat.lt_irrefl n);have h3:(if n<n+1 then 1 else 0)=1:=if_pos (Nat.lt_succ_self n);rw[h2]at ih;rw[this,h3,hi];simp;omega
  ·rw[getD_set_ne true (Ne.symm hin)];have h4:(if i<n+1 then 1 else 0)=(if i<n then 1 else 0):=by
    by_cases h:i<n
    ·rw[if_pos h,if_pos (show i<n+1 by omega)]
    ·rw[if_neg h,if_neg (show ¬ i<n+1 by omega)]
   rw[h4];generalize (if i<n then 1 else 0)=x at ih ⊢;omega
theorem sP {listed:Array Bool}{n:Nat}(h:eh listed n=0):∀ j,j<n->listed.getD j true=true:=by
 induction n with
 | zero=>intro j hj;omega
 | succ n ih =>
  simp only[eh]at h;intro j hj;by_cases hjn:j=n
  ·subst hjn;cases hl:listed.getD j true with
   | true=>rfl
   | false=>rw[hl]at h;simp at h
  ·exact ih (by omega) j (by omega)
theorem sQ {n:Nat}:∀ m,m<=n->eh (Array.replicate n false) m=m:=by
 intro m
 induction m with
 | zero=>intro _;rfl
 | succ m ih =>
  intro h;simp only[eh];rw[ih (by omega),if_pos];rw[Array.getD_eq_getD_getElem?,Array.getElem?_replicate,if_pos (by omega)];rfl
theorem mJ {listed:Array Bool}{i:Nat}(h:i<listed.size)(x y:Bool):listed.getD i x=listed.getD i y:=by
 simp [Array.getD_eq_getD_getElem?,Array.getElem?_eq_getElem h]
section
variable {n:Nat} {wb:Base} {rd rb:Option Nat} {Q:AX->St->Prop} {all:Array Oper} {bs:List Nat} {K:Nat} {id:Nat} {dr:Bool}
theorem sR (S:Static all bs K)(hfit:∀ o,o∈all.toList->eX n o=true):∀ (r m:Nat) (listed:Array Bool) (s:St) (Γ:aC) (a:Act) (w:World),r+m=all.size->K<=m->listed.size=all.size->eh listed all.size=r ->
  (∀ j,j<all.size->(listed.getD j true=true↔j<m))->di P G rd Q all (all.toList.drop m) s->RelS P G n wb Γ s a w->dz Γ s.H rd rb ->
  ∀ (Q':Exit->Act->World->Prop),(∀ e a' w',fM P G n wb rd rb (wr (.region id all dr)) Γ s.H a w Q e a' w'->Q' e a' w')->wpAnyIn (dF rb) 0 P .any all Q' r listed a w:=by
 intro r
 induction r with
 | zero =>
  intro m listed s Γ a w hm hKm hsz hc hl h hs hr Q' hq;have:all.toList.drop m=[]:=List.drop_eq_nil_of_le (by simp;omega);rw[this]at h;refine⟨?_,hq _ _ _ (.here (x:=.normal) trivial h hs hr)⟩;rw[List.eq_nil_iff_forall_not_mem];intro j hj;obtain⟨h1,o,ho,_⟩:=mem_ready.1 hj;have hjs:=(Array.getElem?_eq_some_iff.1 ho).1;rw[(hl j hjs).2 (by omega)]at h1;cases h1
 | succ r ih =>
  intro m listed s Γ a w hm hKm hsz hc hl h hs hr Q' hq;have hms:m<all.size:=by omega
  have ho:all[m]?=some all[m]:=Array.getElem?_eq_getElem hms;have hmun:listed.getD m true=false:=by
   cases hx:listed.getD m true with
   | false=>rfl
   | true=>have:=(hl m hms).1 hx;omega
  have hready:m∈Region.ready .any all listed:=by
   refine mem_ready.2 ⟨hmun,_,ho,fun e he hb=>?_⟩;have:=S.down m _ ho e he hb;rw[mJ (by omega) false true];exact(hl e.on (by omega)).2 this
  refine⟨fun h0=>(by rw[h0]at hready;cases hready),fun i hi=>?_⟩;obtain⟨hiun,oi,hoi,hall⟩:=mem_ready.1 hi;have his:=(Array.getElem?_eq_some_iff.1 hoi).1;have him:m<=i:=by
   rcases Nat.lt_or_ge i m with h|h
   ·rw[(hl i his).2 h]at hiun;cases hiun
   ·exact h
  have hL:sN all fun j=>listed.getD j false:=by
   intro k ok hk hok e he hb;have hks:=(Array.getElem?_eq_some_iff.1 hok).1;have h1:=S.down k ok hok e he hb;simp only at hk ⊢;rw[mJ (by omega) false true]at hk ⊢;have:=(hl k hks).1 hk;exact(hl _ (by omega)).2 (by omega)
  have hieq:i=m:=by
   rcases Nat.lt_or_ge m i with h|h
   ·have h1:=S.ahead hL i oi m hoi hall (by rw[if_neg (by omega)];exact h);rw[mJ (by omega) false true,hmun]at h1;cases h1
   ·omega
  subst hieq;have hlist:all.toList.drop i=all[i] :: all.toList.drop (i+1):=by
   rw[List.drop_eq_getElem_cons (by simpa using hms)];simp
  rw[hlist]at h;simp only[di]at h;have hl':∀ j,j<all.size->((listed.setIfInBounds i true).getD j true=true↔j<i+1):=by
   intro j hj;by_cases hji:j=i
   ·subst hji;simp
   ·rw[getD_set_ne true (Ne.symm hji),hl j hj];omega
  have hc':eh (listed.setIfInBounds i true) all.size=r:=by
   have:=vY hmun all.size;rw[if_pos hms]at this;omega
  have hd:=hfit all[i] (by simp);obtain⟨t,ht,h⟩:=h;unfold wpOpIn;rw[ho];simp only;rw[od hs ht];cases t with
  | true =>
   simp only[if_true]at h ⊢;refine Ah hd hs hr h ?_ ?_
   ·rintro Γ' s' a' w' hk hs' E hn hr' ⟨cv,rfl⟩;exact ih (i+1) _ s' Γ' _ w' (by omega) (by omega) (by simpa using hsz) hc' hl' hk hs' hr' Q' fun e a'' w'' hp=>hq _ _ _ (hp.step E hn (oh hms cv) fun _ h=>h)
   ·rintro Γ' s' a' w' chain hp hc hs' E hn hr' rfl;exact hq _ _ _ ⟨.panic,s',Γ',hc,hp,hs',E,hn,hr',.refl _ _⟩
  | false =>
   simp only[Bool.false_eq_true,if_false]at h ⊢;refine⟨fun _ _=>trivial,?_⟩;have hdst:∀ d,all[i].dst=some d->d<n:=by
    intro d hd';unfold eX at hd;rw[hd']at hd;simpa using hd
   have hs':=jq (v:=.lit undef) (cv:=undef) hs hdst (Evo.refl Γ s.H w) (Nat.le_refl _) hs.heap (.lit _);exact ih (i+1) _ ⟨aH s.ρ all[i].dst (.lit undef),s.H⟩ Γ _ w (by omega) (by omega) (by simpa using hsz) hc' hl' h hs' hr Q' fun e a'' w'' hp=>hq _ _ _ (hp.step (Evo.refl _ _ _) (Nat.le_refl _) (oh hms _) fun _ h=>h)
theorem vC (S:Static all bs K)(hfit:∀ o,o∈all.toList->eX n o=true){d:Nat->Dt}{s0:St}(hg:∀ i,i<K->GoodAt P G all bs s0 d i)(htail:di P G rd Q all (all.toList.drop K) (canon all d s0 K)):
  ∀ (r:Nat) (listed:Array Bool) (D:Nat->Bool) (Γ:aC) (a:Act) (w:World),listed.size=all.size->eh listed all.size=r->(∀ j,j<all.size->listed.getD j true=D j)->(∀ j,D j=true->j<K)->sN all D ->
  RelS P G n wb Γ (dU all d s0 K D) a w->dz Γ (dU all d s0 K D).H rd rb ->
  ∀ (Q':Exit->Act->World->Prop),(∀ e a' w',fM P G n wb rd rb (wr (.region id all dr)) Γ (dU all d s0 K D).H a w Q e a' w'->Q' e a' w')->wpAnyIn (dF rb) 0 P .any all Q' r listed a w:=by
 intro r
 induction r with
 | zero =>
  intro listed D Γ a w hsz hc hl hlow hL hs hr Q' hq;have hall:∀ j,j<K->D j=true:=fun j hj=>by rw[<- hl j (Nat.lt_of_lt_of_le hj S.le)];exact sP hc j (Nat.lt_of_lt_of_le hj S.le)
  have hKs:K=all.size:=by
   rcases Nat.lt_or_ge K all.size with h|h
   ·have h1:=sP hc K h;rw[hl K h]at h1;have:=hlow K h1;omega
   ·have:=S.le;omega
  rw[qi hg hall]at hs hr hq;exact sR S hfit 0 K listed _ Γ a w (by omega) (Nat.le_refl _) hsz hc (fun j hj=>by rw[hl j hj];exact⟨hlow j,hall j⟩) htail hs hr Q' hq
 | succ r ih =>
  intro listed D Γ a w hsz hc hl hlow hL hs hr Q' hq;by_cases hall:∀ j,j<K->D j=true
  ·rw[qi hg hall]at hs hr hq;have hcount:∀ m,m<=all.size->eh listed m=m - K:=by
    intro m
    induction m with
    | zero=>intro _;simp [eh]
    | succ m ihm =>
     intro hm;simp only[eh];rw[ihm (by omega),hl m (by omega)];by_cases hmK:m<K
     ·rw[hall m hmK];simp;omega
     ·have:D m=false:=by
       cases hD:D m with
       | false=>rfl
       | true=>exact absurd (hlow m hD) hmK
      rw[this];simp;omega
   have h1:=hcount all.size (Nat.le_refl _);exact sR S hfit (r+1) K listed _ Γ a w (by have:=S.le;omega) (Nat.le_refl _) hsz hc (fun j hj=>by rw[hl j hj];exact⟨hlow j,hall j⟩) htail hs hr Q' hq
  ·have hex:∃ j,j<K/\D j=false:=by
    by_cases h:∃ j,j<K/\D j=false
    ·exact h
    ·refine absurd (fun j hj=>?_) hall;cases hD:D j with
     | true=>rfl
     | false=>exact absurd ⟨j,hj,hD⟩ h
   have least:∀ k,(∃ j,j<k/\j<K/\D j=false)->∃ j,j<K/\D j=false/\∀ i,i<j->D i=true:=by
    intro k
    induction k with
    | zero=>rintro⟨j,hj,_⟩;omega
    | succ k ihk =>
     rintro⟨j,h1,h2,h3⟩;by_cases h:∃ j,j<k/\j<K/\D j=false
     ·exact ihk h
     ·refine⟨j,h2,h3,fun i hi=>?_⟩;cases hD:D i with
      | true=>rfl
      | false=>exact absurd ⟨i,by omega,by omega,hD⟩ h
   obtain⟨j0,hj0K,hj0,hbelow⟩:=least K (let ⟨j,h1,h2⟩:=hex;⟨j,h1,h1,h2⟩);have hj0s:j0<all.size:=Nat.lt_of_lt_of_le hj0K S.le;have hr0:j0∈Region.ready .any all listed:=by
    refine mem_ready.2 ⟨by rw[hl j0 hj0s];exact hj0,_,Array.getElem?_eq_getElem hj0s,fun e he hb=>?_⟩;have hlt:=S.down j0 _ (Array.getElem?_eq_getElem hj0s) e he hb;rw[mJ (by omega) false true,hl e.on (by omega)];exact hbelow _ hlt
   refine⟨fun h0=>(by rw[h0]at hr0;cases hr0),fun i hi=>?_⟩;obtain⟨hiun,oi,hoi,hdir⟩:=mem_ready.1 hi;have his:=(Array.getElem?_eq_some_iff.1 hoi).1;have hdirD:∀ e,e∈oi.after->Region.binds .any e=true->D e.on=true:=fun e he hb=>by
    have:=S.down i oi hoi e he hb;rw[<- hl e.on (by omega),<- mJ (by omega) false true];exact hdir e he hb
   have hahead:=S.ahead hL i oi;have hiK:i<K:=by
    rcases Nat.lt_or_ge i K with h|h
    ·exact h
    ·have:=hahead j0 hoi hdirD (by rw[if_neg (by omega)];omega);rw[hj0]at this;cases this
   have hDi:D i=false:=(by rw[<- hl i his];exact hiun);have hex:=vA (P:=P) (G:=G) S hg hiK hoi hDi (fun j hj hb=>hahead j hoi hdirD (by rw[if_pos hiK];exact hb)) (fun j h1 h2 hD=>by
    cases hb:(da bs j).testBit i with
    | false=>rfl
    | true =>
     have hjs:j<all.size:=Nat.lt_of_lt_of_le h2 S.le;have:=S.ahead hL j _ i (Array.getElem?_eq_getElem hjs) (fun e he hbe=>hL j _ hD (Array.getElem?_eq_getElem hjs) e he hbe) (by rw[if_pos h2];exact hb);rw[hDi]at this;cases this)
   have hoi':oi=all[i]:=by
    rw[Array.getElem?_eq_getElem his]at hoi;exact(Option.some.inj hoi).symm
   refine vz hoi (hfit oi (by rw[hoi'];simp)) hs hr hex ?_;rintro Γ' a' w' hs' E hn hr' ⟨cv,rfl⟩;have hc':eh (listed.setIfInBounds i true) all.size=r:=by
    have:=vY hiun all.size;rw[if_pos his]at this;omega
   refine ih (listed.setIfInBounds i true) (bI D i) Γ' _ w' (by simpa using hsz) hc' ?_ ?_ ?_ hs' hr' Q' fun e a'' w'' hp=>hq _ _ _ (hp.step E hn (by rw[hoi'];exact oh his cv) fun _ h=>h)
   ·intro j hj;by_cases hji:j=i
    ·subst hji;simp [bI]
    ·rw[getD_set_ne true (Ne.symm hji),hl j hj];simp [bI,hji]
   ·intro j hj;by_cases hji:j=i
    ·subst hji;exact hiK
    ·simp only[bI,if_neg hji]at hj;exact hlow j hj
   ·intro k ok hk hok e he hb;by_cases hki:k=i
    ·subst hki;rw[hoi]at hok;cases hok;have:=hdirD e he hb;simp only[bI];split
     ·rfl
     ·exact this
    ·simp only[bI,if_neg hki]at hk;have:=hL k ok hk hok e he hb;simp only[bI];split
     ·rfl
     ·exact this
theorem W.draw {s:St}(K:Nat)(bs:List Nat)(hm:P.follows .mixedOrders=true)(hfit:all.toList.all (eX n)=true)(hst:qw all bs K=true)
  (h:dE P G all (di P G rd Q all (all.toList.drop K)) bs 0 [] (all.toList.take K) s):W P G n rd (.region id all true) Q s:=by
 intro wb Γ a w rb hs hr;have S:=AK hst;have hfit':∀ o,o∈all.toList->eX n o=true:=fun o ho=>List.all_eq_true.1 hfit o ho;have wf:eT s.H:=fun id b hb=>hs.heap.next id b hb;have hcan0:canon all (fun _=>⟨.lit undef,none,false,⟨[],[]⟩⟩) s 0=s:=rfl;obtain⟨d,hg,htail⟩:=trace (P:=P) (G:=G) (all:=all) (bs:=bs) (s0:=s) (tail:=di P G rd Q all (all.toList.drop K)) S.len S.le K 0 (fun _=>⟨.lit undef,none,false,⟨[],[]⟩⟩) [] (by omega)
  (fun i hi=>by omega) (fun j hj=>by omega) (by rw[hcan0];exact wf) (by rw[hcan0];exact h)
 refine wpIn_region_any hm ?_
 let w1:World:={ w with drawn:=w.drawn+1 }
 have R1:RelH P G Γ s.H w1:=hs.heap.move rfl (oJ w) (Nat.le_refl _) (fun id b hb=>.inl hb) fun id b hb=>hb;have hs1:RelS P G n wb Γ s a w1:=hs.move (oJ w) (Nat.le_refl _) R1;have hs2:RelS P G n wb Γ ⟨s.ρ,bE s.H (aE d K)⟩ a w1:=hs1.move (qx _ _) (by simp [bE]) (AM R1 _);have hr2:dz Γ (bE s.H (aE d K)) rd rb:=hr.move fun id b hb=>by
  simp only[bE];rw[if_neg]
  ·exact hb
  ·have:=hs.heap.next id b hb;omega
 have e0:dU all d s K (fun _=>false)=⟨s.ρ,bE s.H (aE d K)⟩:=vB fun _ _=>rfl;refine vC (wb:=wb) (id:=id) (dr:=true) S hfit' hg htail all.size _ (fun _=>false) Γ a w1 (by simp) (sQ _ (Nat.le_refl _)) ?_ ?_ ?_ ?_ ?_ _ ?_
 ·intro j hj;rw[Array.getD_eq_getD_getElem?,Array.getElem?_replicate,if_pos hj];rfl
 ·intro j hj;cases hj
 ·intro i o hi;cases hi
 ·rw[e0];exact hs2
 ·rw[e0];exact hr2
 ·rw[e0];intro e a' w' hp;refine hp.step ?_ (by simp [bE]) (.refl _ _) fun _ h=>h;exact Evo.trans (oJ w) (Nat.le_refl _) (qx _ _)
end
end Go.Hx
namespace Go.Hx
variable {P:Program} {G:Nat->Option (List AVal)}
theorem lq {α:Type}(a:α)(K:α->Prop):aV (some a) K=K a:=by simp [aV]
theorem sJ {α:Type}(K:α->Prop):aV none K=False:=by simp [aV]
theorem vW {α β:Type}(o:Option α)(f:α->Option β)(K:β->Prop):aV (o.bind f) K=aV o fun a=>aV (f a) K:=by
 cases o<;>simp [aV]
theorem fO {α β:Type}(o:Option α)(f:α->β)(K:β->Prop):aV (o.map f) K=aV o fun a=>K (f a):=by
 cases o<;>simp [aV]
theorem At {α:Type}(c:Prop)[Decidable c](a:Option α)(K:α->Prop):aV (if c then a else none) K=(c/\aV a K):=by
 by_cases h:c<;>simp [h,aV]
theorem sK {α:Type}{o:Option α}{K K':α->Prop}(h:∀ a,K a=K' a):aV o K=aV o K':=by
 have:K=K':=funext h;subst this;rfl
theorem FU (p q:Prop):fX true p q=p:=by simp [fX]
theorem FV (p q:Prop):fX false p q=q:=by simp [fX]
theorem fX.mk {t:Bool}{p q:Prop}(h1:t=true->p)(h2:t=false->q):fX t p q:=⟨h1,h2⟩
theorem FW {f:FuncId}{args args':List AVal}{H H':AHeap}{K:ARes->AHeap->Prop}(h2:args=args')(h3:H=H'):af P G f args H K=af P G f args' H' K:=by
 rw[h2,h3]
theorem FX {n:Nat}{rd:Option Nat}{c:Code}{Q:AX->St->Prop}{s s':St}(h:s=s'):W P G n rd c Q s=W P G n rd c Q s':=by rw[h]
attribute [congr] FW FX
theorem FY (K:St->Prop)(Q:AX->St->Prop)(s:St):ie K Q .normal s=K s:=(rfl)
theorem FZ (K:St->Prop)(Q:AX->St->Prop)(i:Nat)(s:St):ie K Q (.exit i) s=Q (.exit i) s:=(rfl)
theorem F1 (K:St->Prop)(Q:AX->St->Prop)(i:Nat)(s:St):ie K Q (.goto i) s=Q (.goto i) s:=(rfl)
theorem F3 (K:St->Prop)(Q:AX->St->Prop)(s:St):ie K Q .ret s=Q .ret s:=(rfl)
theorem F4 (K:St->Prop)(Q:AX->St->Prop)(s:St):ie K Q .panic s=Q .panic s:=(rfl)
theorem F5 (i:Nat)(Q:AX->St->Prop)(s:St):kA i Q .normal s=Q .normal s:=(rfl)
theorem F6 (i j:Nat)(Q:AX->St->Prop)(s:St):kA i Q (.exit j) s=if j=i then Q .normal s else Q (.exit j) s:=(rfl)
theorem F7 (i j:Nat)(Q:AX->St->Prop)(s:St):kA i Q (.goto j) s=Q (.goto j) s:=(rfl)
theorem F8 (i:Nat)(Q:AX->St->Prop)(s:St):kA i Q .ret s=Q .ret s:=(rfl)
theorem F9 (i:Nat)(Q:AX->St->Prop)(s:St):kA i Q .panic s=Q .panic s:=(rfl)
theorem Ga (Q:AX->St->Prop)(s:St):mI Q .normal s=Q .normal s:=(rfl)
theorem Gb (i:Nat)(Q:AX->St->Prop)(s:St):mI Q (.exit i) s=Q (.exit i) s:=(rfl)
theorem Gc (Q:AX->St->Prop)(s:St):mI Q .ret s=Q .ret s:=(rfl)
theorem Gd (Q:AX->St->Prop)(s:St):mI Q .panic s=Q .panic s:=(rfl)
section code
variable {n:Nat} {rd:Option Nat} {Q:AX->St->Prop} {s:St}
theorem Ge:vc P G n rd .skip Q s=Q .normal s:=(rfl)
theorem Gf (l:Nat):vc P G n rd (.label l) Q s=Q .normal s:=(rfl)
theorem Gg (id:Nat)(ops:Array Oper):vc P G n rd (.region id ops false) Q s=di P G rd Q ops ops.toList s:=(rfl)
theorem Gh (id:Nat)(ops:Array Oper):vc P G n rd (.region id ops true) Q s=W P G n rd (.region id ops true) Q s:=(rfl)
theorem Gi (a b:Code):vc P G n rd (.seq a b) Q s=vc P G n rd a (ie (vc P G n rd b Q) Q) s:=(rfl)
theorem Gj (id:Nat)(c:Code):vc P G n rd (.block id c) Q s=vc P G n rd c (kA id Q) s:=(rfl)
theorem Gk (c:Code):vc P G n rd (.loop c) Q s=W P G n rd (.loop c) Q s:=(rfl)
theorem Gl (f:Operand)(ps:Array Tmp)(asg c:Code):vc P G n rd (.rangeFunc f ps asg c) Q s=W P G n rd (.rangeFunc f ps asg c) Q s:=(rfl)
theorem Gm (i:Nat):vc P G n rd (.exit i) Q s=Q (.exit i) s:=(rfl)
theorem Gn (c:Code):vc P G n rd (.scope c) Q s=vc P G n rd c (mI Q) s:=(rfl)
theorem Gp (i:Nat):vc P G n rd (.goto i) Q s=Q (.goto i) s:=(rfl)
theorem Gq:vc P G n rd .ret Q s=Q .ret s:=(rfl)
def Au:AVal->Option Bool
 | .lit (.bool t)=>some t
 | _=>none
theorem Gr (t:Bool):Au (.lit (.bool t))=some t:=rfl
theorem Gs (c:Operand)(a b:Code):vc P G n rd (.cond c a b) Q s=aV (Au (ak G s.ρ c)) fun t=>fX t (vc P G n rd a Q s) (vc P G n rd b Q s):=by
 simp only[vc];congr 1
end code
theorem Gt (ρ:Env)(t:Tmp):ak G ρ (.tmp t)=ρ t:=rfl
theorem Gu (ρ:Env)(v:Value):ak G ρ (.const v)=.lit v:=rfl
theorem Gv (ρ:Env)(f:FuncId):ak G ρ (.func f)=.clo f [] []:=rfl
theorem Gw (ρ:Env)(d:Tmp)(v:AVal)(t:Tmp):aH ρ (some d) v t=if t=d then v else ρ t:=rfl
theorem Gx (ρ:Env)(v:AVal):aH ρ none v=ρ:=rfl
theorem Gy (ws:Nat)(ρ ρ₀:Env)(t:Nat):mask ws ρ ρ₀ t=if ws / 2 ^ t % 2=1 then ρ t else ρ₀ t:=rfl
def iv:AVal->Int
 | .lit (.int _ n)=>n
 | _=>0
theorem aK (k:IntKind)(n:Int):iv (.lit (.int k n))=n:=rfl
theorem vX (l:List AVal)(t:Nat):fY l t=(l[t]?).getD (.lit undef):=rfl
theorem Gz (rs:List ResultVar)(H:AHeap)(K:ARes->AHeap->Prop)(s:St):qt P G rs H K .ret s=aV (eg P s.H s.ρ rs) fun vs=>av P G H K (gH vs) s.H:=(rfl)
theorem GA (rs:List ResultVar)(H:AHeap)(K:ARes->AHeap->Prop)(s:St):qt P G rs H K .normal s=aV (eg P s.H s.ρ rs) fun vs=>av P G H K (gH vs) s.H:=(rfl)
theorem GB (H:AHeap)(ρ:Env):eg P H ρ []=some []:=rfl
theorem GC (H:AHeap)(ρ:Env)(t:Tmp)(r:List ResultVar):eg P H ρ (.tmp t :: r)=(eg P H ρ r).map (ρ t :: ·):=rfl
theorem GE (H:AHeap)(ρ:Env)(a:Tmp)(t:TypeId)(r:List ResultVar):eg P H ρ (.cell a t :: r)=(eS P H t (ρ a)).bind fun v=>(eg P H ρ r).map (v :: ·):=rfl
theorem GF (v:AVal):gH [v]=v:=rfl
theorem GG (v u:AVal)(r:List AVal):gH (v :: u :: r)=.tup (v :: u :: r):=rfl
theorem GH:gH []=.tup []:=rfl
section ops
variable {rd:Option Nat} {Q:AX->St->Prop} {K:St->Prop} {s:St} {d:Option Tmp} {ty:TypeId} {pos:String} {aft:Array Edge} {g:Option (Nat × Bool)}
theorem GI (all:Array Oper):di P G rd Q all [] s=Q .normal s:=(rfl)
theorem GJ (all:Array Oper)(op:Op)(rest:List Oper):di P G rd Q all (⟨d,op,ty,pos,aft,none⟩ :: rest) s=aN P G rd Q ⟨d,op,ty,pos,aft,none⟩ (di P G rd Q all rest) s:=by
 simp [di,eG,lq]
theorem GK (all:Array Oper)(op:Op)(rest:List Oper)(j:Nat)(want:Bool):di P G rd Q all (⟨d,op,ty,pos,aft,some (j,want)⟩ :: rest) s =
  aV (eG all s.ρ ⟨d,op,ty,pos,aft,some (j,want)⟩) fun t=>if t=true then aN P G rd Q ⟨d,op,ty,pos,aft,some (j,want)⟩ (di P G rd Q all rest) s else di P G rd Q all rest ⟨aH s.ρ d (.lit undef),s.H⟩:=(rfl)
def GL (P:Program)(G:Nat->Option (List AVal))(fv:AVal)(args:List AVal)(H:AHeap)(K:ARes->AHeap->Prop)(_d:TagR K:=.mk):Prop:=aB P G fv args H K
theorem GM (fv:Operand)(args:Array Operand)(ats:Array TypeId):aN P G rd Q ⟨d,.call ⟨.value fv,args,ats⟩,ty,pos,aft,g⟩ K s =
  GL P G (ak G s.ρ fv) (args.toList.map (ak G s.ρ)) s.H fun r H'=>ef H' rd/\match r with
   | .ret v=>K ⟨aH s.ρ d v,H'⟩
   | .panic=>Q .panic ⟨s.ρ,H'⟩:=(rfl)
theorem GN (x:Operand):aN P G rd Q ⟨d,.panic x,ty,pos,aft,g⟩ K s=((∃ t v,(ak G s.ρ x)=.lit (.iface t v))/\Q .panic s):=(rfl)
theorem GO (x:Operand):aN P G rd Q ⟨d,.move x,ty,pos,aft,g⟩ K s=K ⟨aH s.ρ d (ak G s.ρ x),s.H⟩:=by simp [aN,aj,lq]
theorem GP (x:Operand):aN P G rd Q ⟨d,.assign x,ty,pos,aft,g⟩ K s=K ⟨aH s.ρ d (ak G s.ρ x),s.H⟩:=by simp [aN,aj,lq]
theorem GQ (c a b:Operand):aN P G rd Q ⟨d,.pick c a b,ty,pos,aft,g⟩ K s=aV (match ak G s.ρ c with|.lit (.bool t)=>some t|_=>none) fun t=>K ⟨aH s.ρ d (if t then ak G s.ρ a else ak G s.ρ b),s.H⟩:=by
 simp only[aN,aj];split<;>simp_all [lq,sJ]
theorem GR (e:TypeId):aN P G rd Q ⟨d,.alloc e,ty,pos,aft,g⟩ K s=aV (bR P e) fun z=>aV (s.H.lay s.H.next (.arr 0 e z)) fun H'=>K ⟨aH s.ρ d (.ptr s.H.next 0 0),H'⟩:=by
 simp only[aN,aj,vW];exact sK fun _=>fO ..
theorem GS (e:TypeId)(x:Operand):aN P G rd Q ⟨d,.box e x,ty,pos,aft,g⟩ K s=aV (s.H.lay s.H.next (.arr 0 e (ak G s.ρ x).cells)) fun H'=>K ⟨aH s.ρ d (.ptr s.H.next 0 0),H'⟩:=by
 simp [aN,aj,fO]
theorem GT (t:TypeId)(parts:Array (Nat × Operand)):aN P G rd Q ⟨d,.build t parts,ty,pos,aft,g⟩ K s=aV (nV P t (parts.toList.map fun p=>(p.1,ak G s.ρ p.2))) fun v=>K ⟨aH s.ρ d v,s.H⟩:=by
 simp [aN,aj,fO]
theorem GU (t:TypeId)(len:Nat)(parts:Array (Nat × Operand)):aN P G rd Q ⟨d,.buildSlice t len parts,ty,pos,aft,g⟩ K s =
  aV (ji P s.H s.H.next t len (parts.toList.map fun p=>(p.1,ak G s.ρ p.2))) fun vH=>K ⟨aH s.ρ d vH.1,vH.2⟩:=by
 simp [aN,aj]
theorem GV (t:TypeId)(a:Operand):aN P G rd Q ⟨d,.load t a,ty,pos,aft,g⟩ K s=aV (eS P s.H t (ak G s.ρ a)) fun v=>K ⟨aH s.ρ d v,s.H⟩:=by
 simp [aN,aj,fO]
theorem GW (t:TypeId)(a x:Operand):aN P G rd Q ⟨d,.store t a x,ty,pos,aft,g⟩ K s=((P.underlying t).isSome=true/\aV (gE P s.H t (ak G s.ρ a) (ak G s.ρ x)) fun H'=>K ⟨aH s.ρ d (.lit undef),H'⟩):=by
 simp [aN,aj,At,fO]
theorem GX (x:Operand):aN P G rd Q ⟨d,.nilCheck x,ty,pos,aft,g⟩ K s=aV (jk s.H (ak G s.ρ x)) fun v=>K ⟨aH s.ρ d v,s.H⟩:=by
 simp [aN,aj,fO]
theorem GY (op:BinOp)(t:TypeId)(x y:Operand)(u:TypeId):aN P G rd Q ⟨d,.binOp op t x y u,ty,pos,aft,g⟩ K s =
  qq P op t (ig s.H op (ak G s.ρ x) (ak G s.ρ y)) (fun v=>K ⟨aH s.ρ d v,s.H⟩) (aV (aX P op t x y (ak G s.ρ x) (ak G s.ρ y)) fun v=>K ⟨aH s.ρ d v,s.H⟩):=by
 simp [aN,aj,fO]
theorem GZ (op:BinOp)(t:TypeId)(Kb:AVal->Prop)(p:Prop):qq P op t none Kb p=p:=rfl
theorem G1 (op:BinOp)(t:TypeId)(k:Bool)(Kb:AVal->Prop)(p:Prop):qq P op t (some k) Kb p=(kC (P.underlying t)=true/\∀ b:Bool,(k=true->b=false)->Kb (.lit (.bool (if op == .neq then !b else b)))):=rfl
theorem G2 (e:TypeId):kC (some (.slice e))=true:=rfl
theorem G3 (H:AHeap)(op:BinOp)(v:Value)(y:AVal):ig H op (.lit v) y=none:=by
 unfold ig;split<;>rfl
theorem G4 (H:AHeap)(n:Nat)(cells:List AVal):ig H .eql (.vec n cells) (.lit (.slice none 0 0))=some (decide (0<n)):=rfl
theorem G5 (H:AHeap)(n:Nat)(cells:List AVal):ig H .neq (.vec n cells) (.lit (.slice none 0 0))=some (decide (0<n)):=rfl
theorem G6:(BinOp.eql == BinOp.neq)=false:=rfl
theorem G7:(BinOp.neq == BinOp.neq)=true:=rfl
theorem G8 (op:UnOp)(t:TypeId)(x:Operand):aN P G rd Q ⟨d,.unOp op t x,ty,pos,aft,g⟩ K s=aV (pZ P op (ak G s.ρ x)) fun v=>K ⟨aH s.ρ d v,s.H⟩:=by
 simp [aN,aj,fO]
theorem G9 (a b:TypeId)(x:Operand):aN P G rd Q ⟨d,.convert a b x,ty,pos,aft,g⟩ K s=aV (jj P s.H a b (ak G s.ρ x)) fun v=>K ⟨aH s.ρ d v,s.H⟩:=by
 simp [aN,aj,fO]
theorem Hg (f:FuncId)(first cap:Array Operand):aN P G rd Q ⟨d,.makeFunc (.func f) first cap,ty,pos,aft,g⟩ K s=K ⟨aH s.ρ d (.clo f (first.toList.map (ak G s.ρ)) (cap.toList.map (ak G s.ρ))),s.H⟩:=by
 simp [aN,aj,lq]
theorem Hh (t:TypeId)(l c:Operand):aN P G rd Q ⟨d,.makeSlice t l c,ty,pos,aft,g⟩ K s=aV (iR P s.H s.H.next t (ak G s.ρ l) (ak G s.ρ c)) fun vH=>K ⟨aH s.ρ d vH.1,vH.2⟩:=by
 simp [aN,aj]
theorem Hl (t:TypeId)(x:Operand)(lo hi:Option Operand):aN P G rd Q ⟨d,.slice t x lo hi none,ty,pos,aft,g⟩ K s =
  aV (kq P s.H t (ak G s.ρ x) (lo.map (ak G s.ρ)) (hi.map (ak G s.ρ))) fun v=>K ⟨aH s.ρ d v,s.H⟩:=by
 simp [aN,aj,fO]
def oE (P:Program)(H:AHeap)(s:TypeId)(f:Nat)(x:AVal):Option AVal :=
 (bK P s f).bind fun of=>match x with
  | .ptr id gen off=>(H.live id gen).map fun _=>.ptr id gen (off+of.1)
  | .vptr cells off=>some (.vptr cells (off+of.1))
  | _=>none
theorem Ht (t:TypeId)(x:Operand)(f:Nat):aN P G rd Q ⟨d,.fieldAddr t x f,ty,pos,aft,g⟩ K s=aV (oE P s.H t f (ak G s.ρ x)) fun v=>K ⟨aH s.ρ d v,s.H⟩:=by
 simp only[aN,aj,oE,vW];refine sK fun of=>?_;split<;>simp_all [sJ,fO,lq]
def Av (P:Program)(t:TypeId)(f:Nat)(x:AVal):Option AVal :=
 (bK P t f).bind fun of=>match x with
  | .agg cells=>eD P of.2 cells of.1
  | .lit (.agg cs)=>eD P of.2 (cs.toList.map .lit) of.1
  | _=>none
def oF (P:Program)(H:AHeap)(t:TypeId)(x i:AVal):Option AVal:=match i with
 | .lit (.int _ i)=>kZ P H t x i
 | _=>none
theorem Hv (t:TypeId)(x i:Operand):aN P G rd Q ⟨d,.indexAddr t x i,ty,pos,aft,g⟩ K s=aV (oF P s.H t (ak G s.ρ x) (ak G s.ρ i)) fun v=>K ⟨aH s.ρ d v,s.H⟩:=by
 simp only[aN,aj,oF];split<;>simp_all [sJ,fO]
theorem HA (t:TypeId)(x i:Operand):aN P G rd Q ⟨d,.index t x i,ty,pos,aft,g⟩ K s=aV (lg P t (ak G s.ρ x) (ak G s.ρ i)) fun v=>K ⟨aH s.ρ d v,s.H⟩:=by
 simp [aN,aj,fO]
theorem HB (t:Operand)(i:Nat):aN P G rd Q ⟨d,.extract t i,ty,pos,aft,g⟩ K s=aV (kv (ak G s.ρ t) i) fun v=>K ⟨aH s.ρ d v,s.H⟩:=by
 simp [aN,aj,fO]
theorem HC (b:Builtin)(args:Array Operand)(ats:Array TypeId):aN P G rd Q ⟨d,.call ⟨.builtin b,args,ats⟩,ty,pos,aft,g⟩ K s =
  aV (fA P s.H s.H.next b ats.toList (args.toList.map (ak G s.ρ))) fun vH=>K ⟨aH s.ρ d vH.1,vH.2⟩:=by
 simp [aN,aj]
end ops
theorem builtin_len (H:AHeap)(id:Nat)(t:TypeId)(x:AVal):fA P H id .len [t] [x]=(ks P H t x).map fun v=>(v,H):=rfl
theorem builtin_append (H:AHeap)(id:Nat)(t u:TypeId)(s x:AVal):fA P H id .append [t,u] [s,x]=bC P H id t u s x:=rfl
theorem builtin_copy (H:AHeap)(id:Nat)(t u:TypeId)(s x:AVal):fA P H id .copy [t,u] [s,x]=jN P H t s x:=rfl
theorem builtin_min (H:AHeap)(id:Nat)(ts:List TypeId)(k:IntKind)(a b:Int):fA P H id .min ts [.lit (.int k a),.lit (.int k b)]=some (.lit (.int k (if b<a then b else a)),H):=by
 cases ts with
 | nil=>rfl
 | cons t ts=>rfl
theorem builtin_max (H:AHeap)(id:Nat)(ts:List TypeId)(k:IntKind)(a b:Int):fA P H id .max ts [.lit (.int k a),.lit (.int k b)]=some (.lit (.int k (if b > a then b else a)),H):=by
 cases ts with
 | nil=>rfl
 | cons t ts=>rfl
section nums
variable {t:TypeId} {x y:Operand} {k:IntKind} {a b:Int}
theorem Aw:aX P .add t x y (.lit (.int k a)) (.lit (.int k b))=some (.lit (.int k (k.wrap (a+b)))):=by
 simp [aX,AVal.bX,eqGuard,binOp,Op.intArith,cL,bind,Sem.bind,pure]
theorem Ax:aX P .sub t x y (.lit (.int k a)) (.lit (.int k b))=some (.lit (.int k (k.wrap (a - b)))):=by
 simp [aX,AVal.bX,eqGuard,binOp,Op.intArith,cL,bind,Sem.bind,pure]
theorem Ay:aX P .mul t x y (.lit (.int k a)) (.lit (.int k b))=some (.lit (.int k (k.wrap (a*b)))):=by
 simp [aX,AVal.bX,eqGuard,binOp,Op.intArith,cL,bind,Sem.bind,pure]
theorem HD:aX P .quo t x y (.lit (.int k a)) (.lit (.int k b))=if b≠0 then some (.lit (.int k (k.wrap (a.tdiv b)))) else none:=by
 by_cases h:b=0<;>simp [h,aX,AVal.bX,eqGuard,binOp,Op.intDiv,runtimePanic,program,goPanic,cL,bind,Sem.bind,pure]
theorem HE:aX P .rem t x y (.lit (.int k a)) (.lit (.int k b))=if b≠0 then some (.lit (.int k (a.tmod b))) else none:=by
 by_cases h:b=0<;>simp [h,aX,AVal.bX,eqGuard,binOp,Op.intDiv,runtimePanic,program,goPanic,cL,bind,Sem.bind,pure]
theorem Az:aX P .lss t x y (.lit (.int k a)) (.lit (.int k b))=some (.lit (.bool (decide (a<b)))):=by
 simp [aX,AVal.bX,eqGuard,binOp,Op.intCmp,cL,bind,Sem.bind,pure]
theorem AA:aX P .leq t x y (.lit (.int k a)) (.lit (.int k b))=some (.lit (.bool (decide (a<=b)))):=by
 simp [aX,AVal.bX,eqGuard,binOp,Op.intCmp,cL,bind,Sem.bind,pure]
theorem AB:aX P .gtr t x y (.lit (.int k a)) (.lit (.int k b))=some (.lit (.bool (decide (b<a)))):=by
 simp [aX,AVal.bX,eqGuard,binOp,Op.intCmp,cL,bind,Sem.bind,pure]
theorem AC:aX P .geq t x y (.lit (.int k a)) (.lit (.int k b))=some (.lit (.bool (decide (b<=a)))):=by
 simp [aX,AVal.bX,eqGuard,binOp,Op.intCmp,cL,bind,Sem.bind,pure]
theorem AD:aX P .eql t x y (.lit (.int k a)) (.lit (.int k b))=some (.lit (.bool (decide (a=b)))):=by
 simp [aX,AVal.bX,eqGuard,binOp,Op.intCmp,cL,bind,Sem.bind,pure];rfl
theorem AE:aX P .neq t x y (.lit (.int k a)) (.lit (.int k b))=some (.lit (.bool (!decide (a=b)))):=by
 simp [aX,AVal.bX,eqGuard,binOp,Op.intCmp,cL,bind,Sem.bind,pure];rfl
theorem HF (v:Bool):pZ P .not (.lit (.bool v))=some (.lit (.bool (!v))):=rfl
theorem HG (H:AHeap)(s d:TypeId)(v:Value):jj P H s d (.lit v)=jP P s d (.lit v):=rfl
theorem HH (H:AHeap)(s d:TypeId)(c:List AVal):jj P H s d (.agg c)=jP P s d (.agg c):=rfl
theorem HI {s d:TypeId}{k':IntKind}(hs:(P.underlying s).isSome=true)(hd:P.underlying d=some (.int k')):jP P s d (.lit (.int k a))=some (.lit (.int k' (k'.wrap a))):=by
 obtain⟨ds,hs⟩:=Option.isSome_iff_exists.1 hs;simp only[jP,AVal.bX];have:cL P (convert s d (.int k a))=some (.int k' (k'.wrap a)):=by
  simp [convert,underlying,program,hs,hd,cL,bind,Sem.bind,pure,Conv.intToInt]
 rw[this];rfl
end nums
def ext (H:AHeap)(L:List Blk):AHeap :=
 { get:=fun j=>if H.next<=j/\j<H.next+L.length then L[j - H.next]? else H.get j,next:=H.next+L.length }
theorem bJ (H:AHeap)(L:List Blk):(ext H L).next=H.next+L.length:=rfl
theorem sL (H:AHeap)(b:Blk):H.lay H.next b=some (ext H [b]):=by
 unfold AHeap.lay ext;rw[if_pos rfl];congr 2
 funext j
 by_cases h:j=H.next
 ·subst h;simp
 ·rw[if_neg h,if_neg];simp only[List.length_cons,List.length_nil];omega
theorem AF (H:AHeap)(L:List Blk)(b:Blk):(ext H L).lay (H.next+L.length) b=some (ext H (L++[b])):=by
 unfold AHeap.lay;rw[if_pos (bJ H L).symm];unfold ext;congr 2
 ·funext j
  simp only[List.length_append,List.length_cons,List.length_nil];by_cases h:j=H.next+L.length
  ·subst h;rw[if_pos rfl,if_pos (by omega),Nat.add_sub_cancel_left];simp
  ·rw[if_neg h];by_cases h2:H.next<=j/\j<H.next+L.length
   ·rw[if_pos h2,if_pos (by omega),List.getElem?_append_left (by omega)]
   ·rw[if_neg h2,if_neg (by omega)]
 ·simp only[List.length_append,List.length_cons,List.length_nil];omega
theorem HJ (H:AHeap)(L:List Blk)(i:Nat)(b:Blk)(h:L.length=i):(ext H L).lay (H.next+i) b=some (ext H (L++[b])):=by subst h;exact AF H L b
theorem bg (H:AHeap)(L:List Blk)(i:Nat)(h:i<L.length):(ext H L).get (H.next+i)=L[i]?:=by
 unfold ext;simp only;rw[if_pos (by omega),Nat.add_sub_cancel_left]
theorem cb (H:AHeap)(L:List Blk)(i:Nat)(h:i<H.next):(ext H L).get i=H.get i:=by
 unfold ext;simp only;rw[if_neg (by omega)]
theorem AG (H:AHeap)(L:List Blk)(i:Nat)(b:Blk)(h:i<L.length):(ext H L).upd (H.next+i) b=ext H (L.set i b):=by
 unfold ext AHeap.upd;simp only[List.length_set];congr 1
 funext j
 by_cases hj:j=H.next+i
 ·subst hj;rw[if_pos rfl,if_pos (by omega),Nat.add_sub_cancel_left,List.getElem?_set_self h]
 ·rw[if_neg hj];by_cases h2:H.next<=j/\j<H.next+L.length
  ·rw[if_pos h2,if_pos h2,List.getElem?_set_ne (by omega)]
  ·rw[if_neg h2,if_neg h2]
def sM (b:Option Blk)(gen:Nat):Option (TypeId × List AVal) :=
 match b with
 | some (.arr g e cells)=>if g=gen then some (e,cells) else none
 | _=>none
theorem HK (g gen:Nat)(e:TypeId)(cells:List AVal):sM (some (.arr g e cells)) gen=if g=gen then some (e,cells) else none:=rfl
theorem AH (H:AHeap)(L:List Blk)(i gen:Nat)(h:i<L.length):(ext H L).live (H.next+i) gen=sM L[i]? gen:=by
 unfold AHeap.live sM;rw[bg H L i h];rfl
theorem HL (H:AHeap)(b:Blk)(L:List Blk)(gen:Nat):(ext H (b :: L)).live H.next gen=sM (some b) gen:=AH H (b :: L) 0 gen (by simp)
theorem HM (H:AHeap)(c:Blk)(L:List Blk)(b:Blk):(ext H (c :: L)).upd H.next b=ext H (b :: L):=AG H (c :: L) 0 b (by simp)
end Go.Hx
namespace Go.Hx
variable {P:Program} {G:Nat->Option (List AVal)}
def qy (want:Bool):Option AVal->Option Bool
 | some (.lit (.bool b))=>some (b == want)
 | some (.lit _)=>some false
 | none=>some false
 | _=>none
theorem HN (want b:Bool):qy want (some (.lit (.bool b)))=some (b == want):=rfl
theorem HO (b:Bool):(b == true)=b:=by cases b<;>rfl
theorem HP (b:Bool):(b == false)=!b:=by cases b<;>rfl
theorem HQ (b:Bool)(p q:Prop):fX (!b) p q=fX b q p:=by cases b<;>simp [fX]
theorem AN (t:Bool)(p q:Prop):(if t=true then p else q)=fX t p q:=by cases t<;>simp [fX]
theorem AO (all:Array Oper)(ρ:Env)(d:Option Tmp)(op:Op)(ty:TypeId)(pos:String)(aft:Array Edge)(j:Nat)(want:Bool):
  eG all ρ ⟨d,op,ty,pos,aft,some (j,want)⟩=qy want (((all[j]?).bind (·.dst)).map ρ):=by
 unfold eG;simp only;cases (all[j]?).bind (·.dst) with
 | none=>rfl
 | some d =>
  simp only[Option.map_some];cases ρ d with
  | lit v=>cases v<;>rfl
  | _=>rfl
section
variable {rd:Option Nat} {Q:AX->St->Prop} {s:St} {d:Option Tmp} {ty:TypeId} {pos:String} {aft:Array Edge} {g:Option (Nat × Bool)}
theorem HR (all:Array Oper)(op:Op)(rest:List Oper)(j:Nat)(want:Bool):di P G rd Q all (⟨d,op,ty,pos,aft,some (j,want)⟩ :: rest) s =
  aV (qy want (((all[j]?).bind (·.dst)).map s.ρ)) fun t=>fX t (aN P G rd Q ⟨d,op,ty,pos,aft,some (j,want)⟩ (di P G rd Q all rest) s) (di P G rd Q all rest ⟨aH s.ρ d (.lit undef),s.H⟩):=by
 rw[GK,AO];exact sK fun _=>AN ..
variable {all:Array Oper} {tail:St->Prop} {b i:Nat} {bs:List Nat} {acc:List (Nat × FP)} {K:FP->St->Prop}
theorem HS (bs:List Nat):dE P G all tail bs i acc [] s=tail s:=by cases bs<;>rfl
theorem HT (op:Op)(rest:List Oper):dE P G all tail (b :: bs) i acc (⟨d,op,ty,pos,aft,none⟩ :: rest) s =
  ct P G ⟨d,op,ty,pos,aft,none⟩ (fun f s'=>fN b f acc/\dE P G all tail bs (i+1) (dJ i f acc) rest s') s:=by
 simp [dE,eG,aV]
theorem HU (op:Op)(rest:List Oper)(j:Nat)(want:Bool):dE P G all tail (b :: bs) i acc (⟨d,op,ty,pos,aft,some (j,want)⟩ :: rest) s =
  aV (qy want (((all[j]?).bind (·.dst)).map s.ρ)) fun t =>
   fX t (ct P G ⟨d,op,ty,pos,aft,some (j,want)⟩ (fun f s'=>fN b f acc/\dE P G all tail bs (i+1) (dJ i f acc) rest s') s)
    (dE P G all tail bs (i+1) acc rest ⟨aH s.ρ d (.lit undef),s.H⟩):=by
 simp only[dE,AO];exact sK fun _=>AN ..
theorem HV (fv:Operand)(args:Array Operand)(ats:Array TypeId):ct P G ⟨d,.call ⟨.value fv,args,ats⟩,ty,pos,aft,g⟩ K s =
  ∃ v rs,dA P G (ak G s.ρ fv) (args.toList.map (ak G s.ρ)) s.H v rs/\K ⟨[],rs⟩ ⟨aH s.ρ d v,s.H⟩:=(rfl)
abbrev QF:AX->St->Prop:=fun _ _=>False
theorem HW (x:Operand):ct P G ⟨d,.move x,ty,pos,aft,g⟩ K s=aN P G none QF ⟨d,.move x,ty,pos,aft,g⟩ (K ⟨[],[]⟩) s:=(rfl)
theorem HX (x:Operand):ct P G ⟨d,.assign x,ty,pos,aft,g⟩ K s=aN P G none QF ⟨d,.assign x,ty,pos,aft,g⟩ (K ⟨[],[]⟩) s:=(rfl)
theorem HY (c x y:Operand):ct P G ⟨d,.pick c x y,ty,pos,aft,g⟩ K s=aN P G none QF ⟨d,.pick c x y,ty,pos,aft,g⟩ (K ⟨[],[]⟩) s:=(rfl)
theorem HZ (e:TypeId):ct P G ⟨d,.alloc e,ty,pos,aft,g⟩ K s=aN P G none QF ⟨d,.alloc e,ty,pos,aft,g⟩ (K ⟨[s.H.next],[]⟩) s:=(rfl)
theorem H8 (e:TypeId)(x:Operand):ct P G ⟨d,.box e x,ty,pos,aft,g⟩ K s=aN P G none QF ⟨d,.box e x,ty,pos,aft,g⟩ (K ⟨[s.H.next],[]⟩) s:=(rfl)
theorem H9 (t:TypeId)(p:Array (Nat × Operand)):ct P G ⟨d,.build t p,ty,pos,aft,g⟩ K s=aN P G none QF ⟨d,.build t p,ty,pos,aft,g⟩ (K ⟨[],[]⟩) s:=(rfl)
theorem Ic (t:TypeId)(l:Nat)(p:Array (Nat × Operand)):ct P G ⟨d,.buildSlice t l p,ty,pos,aft,g⟩ K s=aN P G none QF ⟨d,.buildSlice t l p,ty,pos,aft,g⟩ (K ⟨[s.H.next],[]⟩) s:=(rfl)
theorem Ie (t:TypeId)(x:Operand):ct P G ⟨d,.load t x,ty,pos,aft,g⟩ K s=aN P G none QF ⟨d,.load t x,ty,pos,aft,g⟩ (K ⟨[],aI (ak G s.ρ x)⟩) s:=(rfl)
theorem If (t:TypeId)(x y:Operand):ct P G ⟨d,.store t x y,ty,pos,aft,g⟩ K s=aN P G none QF ⟨d,.store t x y,ty,pos,aft,g⟩ (K ⟨aI (ak G s.ρ x),aI (ak G s.ρ x)⟩) s:=(rfl)
theorem Ig (x:Operand):ct P G ⟨d,.nilCheck x,ty,pos,aft,g⟩ K s=aN P G none QF ⟨d,.nilCheck x,ty,pos,aft,g⟩ (K ⟨[],aI (ak G s.ρ x)⟩) s:=(rfl)
theorem Ih (op:BinOp)(t:TypeId)(x y:Operand)(u:TypeId):ct P G ⟨d,.binOp op t x y u,ty,pos,aft,g⟩ K s=aV (aX P op t x y (ak G s.ρ x) (ak G s.ρ y)) fun v=>K ⟨[],[]⟩ ⟨aH s.ρ d v,s.H⟩:=by
 simp only[ct,aj,fO];rfl
theorem Ii (op:UnOp)(t:TypeId)(x:Operand):ct P G ⟨d,.unOp op t x,ty,pos,aft,g⟩ K s=aN P G none QF ⟨d,.unOp op t x,ty,pos,aft,g⟩ (K ⟨[],[]⟩) s:=(rfl)
theorem Ik (t u:TypeId)(x:Operand):ct P G ⟨d,.convert t u x,ty,pos,aft,g⟩ K s=aN P G none QF ⟨d,.convert t u x,ty,pos,aft,g⟩ (K ⟨[],aI (ak G s.ρ x)⟩) s:=(rfl)
theorem Il (t:TypeId)(x:Operand):ct P G ⟨d,.makeInterface t x,ty,pos,aft,g⟩ K s=aN P G none QF ⟨d,.makeInterface t x,ty,pos,aft,g⟩ (K ⟨[],[]⟩) s:=(rfl)
theorem Im (f:Fn)(x y:Array Operand):ct P G ⟨d,.makeFunc f x y,ty,pos,aft,g⟩ K s=aN P G none QF ⟨d,.makeFunc f x y,ty,pos,aft,g⟩ (K ⟨[],[]⟩) s:=(rfl)
theorem Io (t:TypeId)(x y:Operand):ct P G ⟨d,.makeSlice t x y,ty,pos,aft,g⟩ K s=aN P G none QF ⟨d,.makeSlice t x y,ty,pos,aft,g⟩ (K ⟨[s.H.next],[]⟩) s:=(rfl)
theorem Ip (t:TypeId)(x:Operand)(lo hi mx:Option Operand):ct P G ⟨d,.slice t x lo hi mx,ty,pos,aft,g⟩ K s=aN P G none QF ⟨d,.slice t x lo hi mx,ty,pos,aft,g⟩ (K ⟨[],aI (ak G s.ρ x)⟩) s:=(rfl)
theorem Iq (t:TypeId)(x:Operand)(f:Nat):ct P G ⟨d,.fieldAddr t x f,ty,pos,aft,g⟩ K s=aN P G none QF ⟨d,.fieldAddr t x f,ty,pos,aft,g⟩ (K ⟨[],aI (ak G s.ρ x)⟩) s:=(rfl)
theorem Ir (t:TypeId)(x:Operand)(f:Nat):ct P G ⟨d,.field t x f,ty,pos,aft,g⟩ K s=aN P G none QF ⟨d,.field t x f,ty,pos,aft,g⟩ (K ⟨[],[]⟩) s:=(rfl)
theorem Is (t:TypeId)(x y:Operand):ct P G ⟨d,.indexAddr t x y,ty,pos,aft,g⟩ K s=aN P G none QF ⟨d,.indexAddr t x y,ty,pos,aft,g⟩ (K ⟨[],aI (ak G s.ρ x)⟩) s:=(rfl)
theorem It (t:TypeId)(x y:Operand):ct P G ⟨d,.index t x y,ty,pos,aft,g⟩ K s=aN P G none QF ⟨d,.index t x y,ty,pos,aft,g⟩ (K ⟨[],[]⟩) s:=(rfl)
theorem Iu (x:Operand)(f:Nat):ct P G ⟨d,.extract x f,ty,pos,aft,g⟩ K s=aN P G none QF ⟨d,.extract x f,ty,pos,aft,g⟩ (K ⟨[],[]⟩) s:=(rfl)
theorem Iv (f:Builtin)(args:Array Operand)(ats:Array TypeId):ct P G ⟨d,.call ⟨.builtin f,args,ats⟩,ty,pos,aft,g⟩ K s =
  aN P G none QF ⟨d,.call ⟨.builtin f,args,ats⟩,ty,pos,aft,g⟩ (K (ij P s.H.next f ats.toList (args.toList.map (ak G s.ρ)))) s:=rfl
end
theorem Iw (v:Value):aI (.lit v)=[]:=rfl
theorem Ix (n:Nat)(l:List AVal):aI (.vec n l)=[]:=rfl
theorem Iy (l:List AVal)(o:Nat):aI (.vptr l o)=[]:=rfl
theorem Iz (l:List AVal):aI (.agg l)=[]:=rfl
theorem IA (id g o l z:Nat):aI (.own id g o l z)=[id]:=rfl
theorem IB (id g o:Nat):aI (.ptr id g o)=[id]:=rfl
theorem IC (id g o l z:Nat):jR (.own id g o l z)=true:=rfl
theorem ID (v:Value):jR (.lit v)=false:=rfl
theorem IE (n:Nat)(l:List AVal):jR (.vec n l)=false:=rfl
theorem IF (id:Nat)(t:TypeId)(x:AVal):ij P id .len [t] [x]=⟨[],js P t x⟩:=rfl
theorem IG (id:Nat)(ts:List TypeId)(x y:AVal):ij P id .append ts [x,y]=if jR x=true then ⟨aI x,aI x++aI y⟩ else ⟨[id],aI y⟩:=by
 cases ts with
 | nil=>rfl
 | cons t ts=>cases ts<;>rfl
theorem IH (t:TypeId)(x:AVal)(h:aI x=[]):js P t x=[]:=by unfold js;split<;>first|exact h|rfl
theorem II (t:TypeId)(n:Nat)(l:List AVal):js P t (.vec n l)=[]:=IH _ _ rfl
def lx (f f':FP):Prop:=(∀ r,r∈f.eff->r ∉ f'.rs)/\(∀ r,r∈f'.eff->r ∉ f.rs)
theorem IJ (b:Nat)(f:FP):fN b f []=True:=by simp [fN]
theorem IK (b:Nat)(f:FP)(j:Nat)(f':FP)(acc:List (Nat × FP)):fN b f ((j,f') :: acc)=((b / 2 ^ j % 2=1\/lx f f')/\fN b f acc):=by
 simp only[fN,List.forall_mem_cons,Nat.testBit_eq_decide_div_mod_eq,decide_eq_false_iff_not,eq_iff_iff];refine and_congr ⟨fun h=>?_,fun h hb=>?_⟩ Iff.rfl
 ·by_cases hb:b / 2 ^ j % 2=1
  ·exact .inl hb
  ·exact .inr (h hb)
 ·rcases h with h|h
  ·exact absurd h hb
  ·exact h
theorem IL (b:Nat)(acc:List (Nat × FP)):fN b ⟨[],[]⟩ acc=True:=by
 simp [fN]
theorem IM (e r e' r':List Nat):lx ⟨e,r⟩ ⟨e',r'⟩=((∀ x,x∈e->x ∉ r')/\∀ x,x∈e'->x ∉ r):=rfl
theorem IN (i:Nat)(acc:List (Nat × FP)):dJ i ⟨[],[]⟩ acc=acc:=rfl
theorem IP (i x:Nat)(e r:List Nat)(acc:List (Nat × FP)):dJ i ⟨x :: e,r⟩ acc=(i,⟨x :: e,r⟩) :: acc:=rfl
theorem IQ (i x:Nat)(e r:List Nat)(acc:List (Nat × FP)):dJ i ⟨e,x :: r⟩ acc=(i,⟨e,x :: r⟩) :: acc:=by cases e<;>rfl
theorem dA.mk {f:FuncId}{first cap args:List AVal}{H:AHeap}{v:AVal}{rs:List Nat}(hlt:∀ r,r∈rs->r<H.next)
  (h:∀ H2:AHeap,(∀ r,r∈rs->H2.get r=H.get r)->H.next<=H2.next->af P G f (first++args++cap) H2 fun r H3=>r=.ret v/\H3=H2):dA P G (.clo f first cap) args H v rs :=
 ⟨hlt,fun H2 h1 h2=>aB.clo (h H2 h1 h2)⟩
theorem dA.pure {f:FuncId}{args:List AVal}{H:AHeap}{v:AVal}(h:∀ H2:AHeap,af P G f args H2 fun r H3=>r=.ret v/\H3=H2):dA P G (.clo f [] []) args H v [] :=
 dA.mk (fun _ h=>by cases h) fun H2 _ _=>by simpa using h H2
theorem af.pure {f:FuncId}{args:List AVal}{H:AHeap}{v:AVal}{K:ARes->AHeap->Prop}(h:∀ H2:AHeap,af P G f args H2 fun r H3=>r=.ret v/\H3=H2)(hk:K (.ret v) H):af P G f args H K :=
 (h H).mono fun r H3 ⟨h1,h2⟩=>by rw[h1,h2];exact hk
end Go.Hx
namespace Go.Hx
variable {P:Program} {G:Nat->Option (List AVal)} {H:AHeap}
def kE (H:AHeap)(x:AVal):Option AVal :=
 match x with
  | .vec len _=>some (.lit (.int .i64 len))
  | .own id gen _ len _=>(H.live id gen).map fun _=>.lit (.int .i64 len)
  | .lit (.slice none 0 0)=>some (.lit (.int .i64 0))
  | _=>none
def we (x:AVal):Option AVal :=
 match x with
  | .lit (.string s)=>some (.lit (.int .i64 s.size))
  | _=>none
def mK (d:Option TypeDesc)(H:AHeap)(x:AVal):Option AVal :=
 match d with
 | some (.slice _)=>kE H x
 | some .string=>we x
 | some (.array n _)=>some (.lit (.int .i64 n))
 | _=>none
theorem IZ (t:TypeId)(x:AVal):ks P H t x=mK (P.underlying t) H x:=rfl
theorem wo (e:TypeId)(x:AVal):mK (some (.slice e)) H x=kE H x:=rfl
theorem I3 (x:AVal):mK (some .string) H x=we x:=rfl
theorem I4 (n:Nat)(e:TypeId)(x:AVal):mK (some (.array n e)) H x=some (.lit (.int .i64 n)):=rfl
theorem I5 (n:Nat)(l:List AVal):kE H (.vec n l)=some (.lit (.int .i64 n)):=rfl
theorem AU (id g o n z:Nat):kE H (.own id g o n z)=(H.live id g).map fun _=>.lit (.int .i64 n):=rfl
theorem I6:kE H (.lit (.slice none 0 0))=some (.lit (.int .i64 0)):=rfl
theorem I7 (s:ByteArray):we (.lit (.string s))=some (.lit (.int .i64 s.size)):=rfl
def kF (d:Option TypeDesc)(n:Nat)(cells:List AVal)(off:Nat):Option AVal :=
 match d with
 | none=>none
 | some d=>if nL d then (if off+n<=cells.length then some (.agg ((cells.drop off).take n)) else none) else cells[off]?
theorem I8 (t:TypeId)(cells:List AVal)(off:Nat):eD P t cells off=kF (P.underlying t) (P.cellsOf t) cells off:=rfl
theorem I9 (k:IntKind)(n:Nat)(cells:List AVal)(off:Nat):kF (some (.int k)) n cells off=cells[off]?:=rfl
theorem Ja (n:Nat)(cells:List AVal)(off:Nat):kF (some .bool) n cells off=cells[off]?:=rfl
theorem Jb (n:Nat)(cells:List AVal)(off:Nat):kF (some .string) n cells off=cells[off]?:=rfl
theorem Jc (e:TypeId)(n:Nat)(cells:List AVal)(off:Nat):kF (some (.slice e)) n cells off=cells[off]?:=rfl
theorem Jd (e:TypeId)(n:Nat)(cells:List AVal)(off:Nat):kF (some (.pointer e)) n cells off=cells[off]?:=rfl
theorem Je (fs:Array Field)(n:Nat)(cells:List AVal)(off:Nat):kF (some (.struct fs)) n cells off=if off+n<=cells.length then some (.agg ((cells.drop off).take n)) else none:=rfl
theorem Jf (k:Nat)(e:TypeId)(n:Nat)(cells:List AVal)(off:Nat):kF (some (.array k e)) n cells off=if off+n<=cells.length then some (.agg ((cells.drop off).take n)) else none:=rfl
theorem Jg (cells vs:List AVal):setAt cells 0 vs=vs++cells.drop vs.length:=by simp [setAt]
theorem Jh (c:AVal)(cells vs:List AVal)(off:Nat):setAt (c :: cells) (off+1) vs=c :: setAt cells off vs:=by simp [setAt,Nat.succ_add]
theorem Ji (t:TypeId)(cells:List AVal)(off:Nat):eS P H t (.vptr cells off)=eD P t cells off:=rfl
theorem Jj (t:TypeId)(id gen off:Nat):eS P H t (.ptr id gen off)=(H.live id gen).bind fun ec=>eD P t ec.2 off:=by
 simp only[AHeap.live,eS];generalize H.get id=x;cases x with
 | none=>rfl
 | some b =>
  cases b with
  | arr g e cells =>
   simp only;by_cases hg:g=gen
   ·rw[if_pos hg,if_pos hg];rfl
   ·rw[if_neg hg,if_neg hg];rfl
  | _=>rfl
theorem Jk (t:TypeId)(id gen off:Nat)(v:AVal):gE P H t (.ptr id gen off) v =
  (H.live id gen).bind fun ec=>if v.cells.length=P.cellsOf t/\v.cells.all AVal.one=true/\off+v.cells.length<=ec.2.length then some (H.upd id (.arr gen ec.1 (setAt ec.2 off v.cells))) else none:=by
 simp only[AHeap.live,gE];generalize H.get id=x;cases x with
 | none=>rfl
 | some b =>
  cases b with
  | arr g e cells =>
   simp only;by_cases hg:g=gen
   ·subst hg;simp
   ·rw[if_neg hg,if_neg (fun h=>hg h.1)];rfl
  | _=>rfl
def sV (H:AHeap)(c:Nat)(x:AVal)(i:Int):Option AVal :=
 match x with
 | .own id gen off len sz=>if 0<=i/\i<(len:Int)/\sz=c then (H.live id gen).map fun _=>.ptr id gen (off+i.toNat*c) else none
 | .vec len cells=>if 0<=i/\i<(len:Int)/\cells≠[] then some (.vptr cells (i.toNat*c)) else none
 | _=>none
def qD (H:AHeap)(c n:Nat)(x:AVal)(i:Int):Option AVal :=
 if 0<=i/\i<(n:Int) then
   match x with
   | .ptr id gen off=>(H.live id gen).map fun _=>.ptr id gen (off+i.toNat*c)
   | .vptr cells off=>some (.vptr cells (off+i.toNat*c))
   | _=>none
 else none
def sW (P:Program)(H:AHeap)(d:Option TypeDesc)(x:AVal)(i:Int):Option AVal :=
 match d with
 | some (.array n e)=>if (P.underlying e).isSome then qD H (P.cellsOf e) n x i else none
 | some (.slice e)=>if (P.underlying e).isSome then sV H (P.cellsOf e) x i else none
 | _=>none
theorem Jl (t:TypeId)(x:AVal)(k:IntKind)(i:Int):oF P H t x (.lit (.int k i))=sW P H (P.underlying t) x i:=by
 simp only[oF,kZ,sW];cases P.underlying t with
 | none=>rfl
 | some d =>
  cases d with
  | array n e =>
   simp only[qD];by_cases h:(P.underlying e).isSome=true
   ·simp only[h,and_true,if_true];rfl
   ·rw[if_neg h,if_neg (fun h'=>h h'.2.2)]
  | slice e=>rfl
  | _=>rfl
theorem Jm (e:TypeId)(x:AVal)(i:Int):sW P H (some (.slice e)) x i=if (P.underlying e).isSome=true then sV H (P.cellsOf e) x i else none:=rfl
theorem Jn (n:Nat)(e:TypeId)(x:AVal)(i:Int):sW P H (some (.array n e)) x i=if (P.underlying e).isSome=true then qD H (P.cellsOf e) n x i else none:=rfl
theorem Jo (c n:Nat)(l:List AVal)(i:Int):sV H c (.vec n l) i=if 0<=i/\i<(n:Int)/\l≠[] then some (.vptr l (i.toNat*c)) else none:=rfl
theorem Jp (c id g o n z:Nat)(i:Int):sV H c (.own id g o n z) i=if 0<=i/\i<(n:Int)/\z=c then (H.live id g).map fun _=>.ptr id g (o+i.toNat*c) else none:=rfl
theorem Jq (c n:Nat)(l:List AVal)(o:Nat)(i:Int):qD H c n (.vptr l o) i=if 0<=i/\i<(n:Int) then some (.vptr l (o+i.toNat*c)) else none:=rfl
theorem Jr (c n id g o:Nat)(i:Int):qD H c n (.ptr id g o) i=if 0<=i/\i<(n:Int) then (H.live id g).map fun _=>.ptr id g (o+i.toNat*c) else none:=rfl
def qE (H : AHeap) (c : Nat) (x : AVal) (lo hi : Option AVal) : Option AVal :=
   match x with
   | .own id gen off len sz=>if sz=c then (H.live id gen).bind fun _=>(bM hi len len).bind fun h=>(bM lo 0 h).map fun l=>.own id gen (off+l*sz) (h - l) sz else none
   | .vec len cells=>if cells.length=len*c then (bM hi len len).bind fun h=>(bM lo 0 h).map fun l=>.vec (h - l) ((cells.drop (l*c)).take ((h - l)*c)) else none
   | .lit (.slice none 0 0)=>(bM hi 0 0).bind fun h=>(bM lo 0 h).map fun _=>.lit (.slice none 0 0)
   | _=>none
def wB (H : AHeap) (c n : Nat) (x : AVal) (lo hi : Option AVal) : Option AVal :=
   match x with
   | .ptr id gen off =>
    match H.live id gen with
    | some (_,cells) =>
     if off+n*c<=cells.length then
      (bM hi n n).bind fun h=>(bM lo 0 h).map fun l=>.own id gen (off+l*c) (h - l) c
     else none
    | none=>none
   | .vptr cells off=>if off+n*c≤cells.length then
      (bM hi n n).bind fun h=>(bM lo 0 h).map fun l=>.vec (h - l) ((cells.drop (off+l*c)).take ((h - l)*c))
     else none
   | _=>none
def wC (x:AVal)(lo hi:Option AVal):Option AVal :=
  match x with
  | .lit (.string s)=>(bM hi s.size s.size).bind fun h=>(bM lo 0 h).map fun l=>.lit (.string (s.extract l h))
  | _=>none
def sX (P:Program)(H:AHeap)(d:Option TypeDesc)(x:AVal)(lo hi:Option AVal):Option AVal :=
 match d with
 | some (.array n e)=>if (P.underlying e).isSome then wB H (P.cellsOf e) n x lo hi else none
 | some (.slice e)=>if (P.underlying e).isSome then qE H (P.cellsOf e) x lo hi else none
 | some .string=>wC x lo hi
 | _=>none
theorem Js (t:TypeId)(x:AVal)(lo hi:Option AVal):kq P H t x lo hi=sX P H (P.underlying t) x lo hi:=rfl
theorem Jt (e:TypeId)(x:AVal)(lo hi:Option AVal):sX P H (some (.slice e)) x lo hi=if (P.underlying e).isSome=true then qE H (P.cellsOf e) x lo hi else none:=rfl
theorem Ju (n:Nat)(e:TypeId)(x:AVal)(lo hi:Option AVal):sX P H (some (.array n e)) x lo hi=if (P.underlying e).isSome=true then wB H (P.cellsOf e) n x lo hi else none:=rfl
theorem Jv (x:AVal)(lo hi:Option AVal):sX P H (some .string) x lo hi=wC x lo hi:=rfl
theorem Jw (c id g o n z:Nat)(lo hi:Option AVal):qE H c (.own id g o n z) lo hi=if z=c then (H.live id g).bind fun _=>(bM hi n n).bind fun h=>(bM lo 0 h).map fun l=>.own id g (o+l*z) (h - l) z else none:=rfl
theorem Jx (c n:Nat)(cells:List AVal)(lo hi:Option AVal):qE H c (.vec n cells) lo hi=if cells.length=n*c then (bM hi n n).bind fun h=>(bM lo 0 h).map fun l=>.vec (h - l) ((cells.drop (l*c)).take ((h - l)*c)) else none:=rfl
theorem Jy (c:Nat)(lo hi:Option AVal):qE H c (.lit (.slice none 0 0)) lo hi=(bM hi 0 0).bind fun h=>(bM lo 0 h).map fun _=>.lit (.slice none 0 0):=rfl
theorem Jz (c n : Nat) (cells : List AVal) (off : Nat) (lo hi : Option AVal) : wB H c n (.vptr cells off) lo hi=if off+n*c≤cells.length then
      (bM hi n n).bind fun h=>(bM lo 0 h).map fun l=>.vec (h - l) ((cells.drop (off+l*c)).take ((h - l)*c)) else none:=rfl
theorem JA (s:ByteArray)(lo hi:Option AVal):wC (.lit (.string s)) lo hi=(bM hi s.size s.size).bind fun h=>(bM lo 0 h).map fun l=>.lit (.string (s.extract l h)):=rfl
theorem JB (d m:Nat):bM none d m=some d:=rfl
theorem JC (k:IntKind)(i:Int)(d m:Nat):bM (some (.lit (.int k i))) d m=if 0<=i/\i<=(m:Int) then some i.toNat else none:=rfl
theorem JD (sz n:Nat)(l:List AVal):cD H sz (.vec n l)=if l.length=n*sz then some (n,l) else none:=rfl
theorem qF (sz id g o n z:Nat):cD H sz (.own id g o n z)=if z=sz then (H.live id g).map fun x=>(n,(x.2.drop o).take (n*sz)) else none:=rfl
theorem wD (sz:Nat):cD H sz (.lit (.slice none 0 0))=some (0,[]):=rfl
def sY (P:Program)(H:AHeap)(id:Nat)(d0 d1:Option TypeDesc)(s x:AVal):Option (AVal × AHeap) :=
 match d0,d1 with
 | some (.slice e),some (.slice _)=>(bR P e).bind fun _=>(cD H (P.cellsOf e) x).bind fun nx =>
    match s with
    | .lit (.slice none 0 0) =>
     if nx.1=0 then some (s,H)
     else if nx.1*P.bytesOf e<=2 ^ 46/\nx.1<=2 ^ 46 then (H.lay id (.arr 0 e nx.2)).map fun H'=>(.own id 0 0 nx.1 (P.cellsOf e),H')
     else none
    | .own id' gen off len sz =>
     (H.live id' gen).bind fun ec =>
      if ec.1=e/\sz=P.cellsOf e/\off+len*sz=ec.2.length/\(len+nx.1)*P.bytesOf e<=2 ^ 46/\len+nx.1<=2 ^ 46/\nx.2.all AVal.one=true then
       if nx.1=0 then some (s,H)
       else some (.own id' (gen+1) 0 (len+nx.1) sz,H.upd id' (.arr (gen+1) e (ec.2.drop off++nx.2)))
      else none
    | _=>none
 | _,_=>none
theorem bT (id:Nat)(t u:TypeId)(s x:AVal):bC P H id t u s x=sY P H id (P.underlying t) (P.underlying u) s x:=by
 unfold bC sY;cases P.underlying t with
 | none=>rfl
 | some d =>
  cases d with
  | slice e =>
   cases P.underlying u with
   | none=>rfl
   | some d'=>cases d'<;>rfl
  | _=>rfl
theorem JE (id:Nat)(e u:TypeId)(x:AVal):sY P H id (some (.slice e)) (some (.slice u)) (.lit (.slice none 0 0)) x=(bR P e).bind fun _=>(cD H (P.cellsOf e) x).bind fun nx =>
  if nx.1=0 then some (.lit (.slice none 0 0),H) else if nx.1*P.bytesOf e<=2 ^ 46/\nx.1<=2 ^ 46 then (H.lay id (.arr 0 e nx.2)).map fun H'=>(.own id 0 0 nx.1 (P.cellsOf e),H') else none:=rfl
theorem JF (id:Nat)(e u:TypeId)(x:AVal)(id' gen off len sz:Nat):sY P H id (some (.slice e)) (some (.slice u)) (.own id' gen off len sz) x=(bR P e).bind fun _=>(cD H (P.cellsOf e) x).bind fun nx =>
  (H.live id' gen).bind fun ec =>
      if ec.1=e/\sz=P.cellsOf e/\off+len*sz=ec.2.length/\(len+nx.1)*P.bytesOf e<=2 ^ 46/\len+nx.1<=2 ^ 46/\nx.2.all AVal.one=true then
       if nx.1=0 then some (.own id' gen off len sz,H)
       else some (.own id' (gen+1) 0 (len+nx.1) sz,H.upd id' (.arr (gen+1) e (ec.2.drop off++nx.2)))
      else none:=rfl
def AV (P:Program)(H:AHeap)(d0:Option TypeDesc)(d x:AVal):Option (AVal × AHeap) :=
 match d0 with
 | some (.slice e) =>
  if (P.underlying e).isSome then
   (cD H (P.cellsOf e) x).bind fun nx =>
    match d with
    | .own id gen off len sz =>
     (H.live id gen).bind fun ec =>
      if sz=P.cellsOf e/\off+len*sz<=ec.2.length/\nx.2.all AVal.one=true then
       some (.lit (.int .i64 (min nx.1 len:Nat)),H.upd id (.arr gen ec.1 (setAt ec.2 off (nx.2.take (min nx.1 len*sz)))))
      else none
    | _=>none
  else none
 | _=>none
theorem JG (t:TypeId)(d x:AVal):jN P H t d x=AV P H (P.underlying t) d x:=rfl
theorem JH (e : TypeId) (id gen off len sz : Nat) (x : AVal) : AV P H (some (.slice e)) (.own id gen off len sz) x=if (P.underlying e).isSome=true then
   (cD H (P.cellsOf e) x).bind fun nx=>(H.live id gen).bind fun ec =>
      if sz=P.cellsOf e/\off+len*sz<=ec.2.length/\nx.2.all AVal.one=true then
       some (.lit (.int .i64 (min nx.1 len:Nat)),H.upd id (.arr gen ec.1 (setAt ec.2 off (nx.2.take (min nx.1 len*sz)))))
      else none
   else none:=rfl
def wE (P:Program)(H:AHeap)(id:Nat)(d:Option TypeDesc)(l c:AVal):Option (AVal × AHeap) :=
 match d,l,c with
 | some (.slice e),.lit (.int _ l),.lit (.int _ c) =>
  if 0<=l/\l<=c/\c*P.bytesOf e<=2 ^ 46/\c<=2 ^ 46 then
   (jh P e l.toNat).bind fun cells=>(H.lay id (.arr 0 e cells)).map fun H'=>(.own id 0 0 l.toNat (P.cellsOf e),H')
  else none
 | _,_,_=>none
theorem JI (id:Nat)(t:TypeId)(l c:AVal):iR P H id t l c=wE P H id (P.underlying t) l c:=by
 unfold iR wE;cases P.underlying t with
 | none=>rfl
 | some d=>rfl
theorem JJ (id : Nat) (e : TypeId) (k k' : IntKind) (l c : Int) : wE P H id (some (.slice e)) (.lit (.int k l)) (.lit (.int k' c))=if 0≤l∧l≤c∧c*P.bytesOf e≤2 ^ 46∧c≤2 ^ 46 then
   (jh P e l.toNat).bind fun cells=>(H.lay id (.arr 0 e cells)).map fun H'=>(.own id 0 0 l.toNat (P.cellsOf e),H')
  else none:=rfl
theorem JK (e:TypeId)(n:Nat):jh P e n=(bR P e).map fun z=>(List.replicate n z).flatten:=rfl
theorem JL (n:Nat)(v:AVal):(List.replicate n [v]).flatten=List.replicate n v:=by
 induction n with
 | zero=>rfl
 | succ n ih=>rw[List.replicate_succ,List.flatten_cons,ih,List.replicate_succ];rfl
def AW (P:Program)(H:AHeap)(id:Nat)(d:Option TypeDesc)(len:Nat)(parts:List (Nat × AVal)):Option (AVal × AHeap) :=
 match d with
 | some (.slice e) =>
  if len*P.cellsOf e<=2 ^ 24 then
   (jh P e len).bind fun z=>(eE (fun i=>some (i*P.cellsOf e,P.cellsOf e)) z parts).bind fun cells =>
    (H.lay id (.arr 0 e cells)).map fun H'=>(.own id 0 0 len (P.cellsOf e),H')
  else none
 | _=>none
theorem JM (id:Nat)(t:TypeId)(len:Nat)(parts:List (Nat × AVal)):ji P H id t len parts=AW P H id (P.underlying t) len parts:=rfl
theorem JN (id : Nat) (e : TypeId) (len : Nat) (parts : List (Nat × AVal)) : AW P H id (some (.slice e)) len parts=if len*P.cellsOf e≤2 ^ 24 then
   (jh P e len).bind fun z=>(eE (fun i=>some (i*P.cellsOf e,P.cellsOf e)) z parts).bind fun cells =>
    (H.lay id (.arr 0 e cells)).map fun H'=>(.own id 0 0 len (P.cellsOf e),H')
  else none:=rfl
def wG (P:Program)(t:TypeId)(d:Option TypeDesc)(parts:List (Nat × AVal)):Option AVal :=
 (bR P t).bind fun z =>
  match d with
  | some (.struct _)=>(jM P t).bind fun pl=>(eE (fun i=>pl[i]?) z parts).map .agg
  | some (.array _ e)=>if (P.underlying e).isSome then (eE (fun i=>some (i*P.cellsOf e,P.cellsOf e)) z parts).map .agg else none
  | _=>none
theorem JO (t:TypeId)(parts:List (Nat × AVal)):nV P t parts=wG P t (P.underlying t) parts:=rfl
theorem JP (t:TypeId)(fs:Array Field)(parts:List (Nat × AVal)):wG P t (some (.struct fs)) parts=(bR P t).bind fun z=>(jM P t).bind fun pl=>(eE (fun i=>pl[i]?) z parts).map .agg:=rfl
theorem JQ (t:TypeId)(n:Nat)(e:TypeId)(parts:List (Nat × AVal)):wG P t (some (.array n e)) parts=(bR P t).bind fun z=>if (P.underlying e).isSome=true then (eE (fun i=>some (i*P.cellsOf e,P.cellsOf e)) z parts).map .agg else none:=rfl
theorem JR (pl:Nat->Option (Nat × Nat))(cells:List AVal):eE pl cells []=some cells:=rfl
theorem JS (pl:Nat->Option (Nat × Nat))(cells:List AVal)(i:Nat)(v:AVal)(rest:List (Nat × AVal)):eE pl cells ((i,v) :: rest)=(pl i).bind fun os =>
  if v.cells.length=os.2/\os.1+v.cells.length<=cells.length then eE pl (setAt cells os.1 v.cells) rest else none:=by
 simp only[eE];cases pl i<;>rfl
theorem JT (k:IntKind)(n:Int):(AVal.lit (.int k n)).cells=[.lit (.int k n)]:=rfl
theorem JU (b:Bool):(AVal.lit (.bool b)).cells=[.lit (.bool b)]:=rfl
theorem JV (s:ByteArray):(AVal.lit (.string s)).cells=[.lit (.string s)]:=rfl
theorem JW (a:Option Addr)(n c:Nat):(AVal.lit (.slice a n c)).cells=[.lit (.slice a n c)]:=rfl
theorem JX (l:List AVal):(AVal.agg l).cells=l:=rfl
theorem JY (n:Nat)(l:List AVal):(AVal.vec n l).cells=[.vec n l]:=rfl
theorem JZ (a b c d e:Nat):(AVal.own a b c d e).cells=[.own a b c d e]:=rfl
theorem J0 (a b c:Nat):(AVal.ptr a b c).cells=[.ptr a b c]:=rfl
theorem J4 (k:IntKind)(n:Int):(AVal.lit (.int k n)).one=true:=rfl
theorem J5 (b:Bool):(AVal.lit (.bool b)).one=true:=rfl
theorem J6 (s:ByteArray):(AVal.lit (.string s)).one=true:=rfl
theorem J7 (a:Option Addr)(n c:Nat):(AVal.lit (.slice a n c)).one=true:=rfl
theorem J8 (n:Nat)(l:List AVal):(AVal.vec n l).one=true:=rfl
theorem J9 (a b c d e:Nat):(AVal.own a b c d e).one=true:=rfl
theorem Ka (a b c:Nat):(AVal.ptr a b c).one=true:=rfl
def aa (n:Int):AVal:=.lit (.int .i64 n)
def ints (l:List Int):List AVal:=l.map aa
def ae (l:List Int):AVal:=.vec l.length (ints l)
theorem aM (l:List Int):(ints l).length=l.length:=List.length_map ..
theorem fg (l:List Int)(i:Nat):(ints l)[i]?=(l[i]?).map aa:=List.getElem?_map ..
theorem AQ (l:List Int):ints l=[]↔l=[]:=List.map_eq_nil_iff
end Go.Hx
namespace Go.Hx
variable {P:Program} {G:Nat->Option (List AVal)} {Γ Γ':aC} {H H':AHeap} {w w':World}
inductive Below (n:Nat):AVal->Prop
 | lit (v:Value):Below n (.lit v)
 | vec {len:Nat} {cells:List AVal} (h:∀ i (h:i<cells.length),Below n cells[i]):Below n (.vec len cells)
 | vptr {off:Nat} {cells:List AVal} (h:∀ i (h:i<cells.length),Below n cells[i]):Below n (.vptr cells off)
 | agg {cells:List AVal} (h:∀ i (h:i<cells.length),Below n cells[i]):Below n (.agg cells)
 | tup {cells:List AVal} (h:∀ i (h:i<cells.length),Below n cells[i]):Below n (.tup cells)
 | clo {f:FuncId} {a b:List AVal} (h1:∀ i (h:i<a.length),Below n a[i]) (h2:∀ i (h:i<b.length),Below n b[i]):Below n (.clo f a b)
 | own {id g o l z:Nat} (h:id<n):Below n (.own id g o l z)
 | ptr {id g o:Nat} (h:id<n):Below n (.ptr id g o)
 | yld {id:Nat} (h:id<n):Below n (.yld id)
theorem RelV.qz {v:AVal}{cv:Value}(h:RelV P Γ H w v cv):Below H.next v:=by
 induction h with
 | lit v=>exact .lit v
 | vec0 a cap=>exact .vec fun i h=>absurd h (Nat.not_lt_zero _)
 | vec hb hlt hlen hcs hcell hrel ih=>exact .vec fun i h=>ih i h (by omega)
 | own h=>exact .own h.1
 | ptr h=>exact .ptr h.1
 | vptr hb hlt hcs hcell hrel ih=>exact .vptr fun i h=>ih i h (by omega)
 | agg hcs hrel ih=>exact .agg fun i h=>ih i h (by omega)
 | tup hcs hrel ih=>exact .tup fun i h=>ih i h (by omega)
 | clo hfs hcs hf hc ih1 ih2=>exact .clo (fun i h=>ih1 i h (by omega)) fun i h=>ih2 i h (by omega)
 | yld h=>exact .yld h.1
def IR (n:Nat):Blk->Prop
 | .arr _ _ cells=>∀ i (h:i<cells.length),Below n cells[i]
 | .loop _ _ m env _ _ _=>∀ t,t<m->Below n (env t)
 | .mp _=>True
 | .rsv=>True
structure Clo (H:AHeap):Prop where
 lt:∀ id b,H.get id=some b->id<H.next
 below:∀ id b,H.get id=some b->IR H.next b
theorem RelH.clo (R:RelH P G Γ H w):Clo H:=by
 refine⟨fun id b h=>R.next id b h,fun id b h=>?_⟩;cases b with
 | rsv=>trivial
 | mp=>trivial
 | arr g e cells =>
  intro i hi;have h1:=R.arr id g e cells h;split at h1
  ·obtain⟨c,_,_,_,h5⟩:=h1;obtain⟨cv,_,h6⟩:=h5 i hi;exact h6.qz
  ·subst h1;exact absurd hi (Nat.not_lt_zero _)
 | loop st pend n env ps asg body =>
  intro t ht;obtain⟨b,r,_,_,_,_,_,_,_,h8,h9⟩:=R.loop id st pend n env ps asg body h;exact(h9 t (by omega)).qz
inductive Fz (S:Nat->Prop)(H:AHeap)(nx:Nat):AVal->AVal->Prop
 | lit (v:Value):Fz S H nx (.lit v) (.lit v)
 | vec {len:Nat} {c c':List AVal} (hl:c'.length=c.length) (h:∀ i (h:i<c.length) (h':i<c'.length),Fz S H nx c[i] c'[i]):Fz S H nx (.vec len c) (.vec len c')
 | vptr {off:Nat} {c c':List AVal} (hl:c'.length=c.length) (h:∀ i (h:i<c.length) (h':i<c'.length),Fz S H nx c[i] c'[i]):Fz S H nx (.vptr c off) (.vptr c' off)
 | agg {c c':List AVal} (hl:c'.length=c.length) (h:∀ i (h:i<c.length) (h':i<c'.length),Fz S H nx c[i] c'[i]):Fz S H nx (.agg c) (.agg c')
 | tup {c c':List AVal} (hl:c'.length=c.length) (h:∀ i (h:i<c.length) (h':i<c'.length),Fz S H nx c[i] c'[i]):Fz S H nx (.tup c) (.tup c')
 | clo {f:FuncId} {a a' b b':List AVal} (ha:a'.length=a.length) (hb:b'.length=b.length) (h1:∀ i (h:i<a.length) (h':i<a'.length),Fz S H nx a[i] a'[i]) (h2:∀ i (h:i<b.length) (h':i<b'.length),Fz S H nx b[i] b'[i]):Fz S H nx (.clo f a b) (.clo f a' b')
 | own {id g o l z:Nat} (h:id<nx) (hs:¬ S id):Fz S H nx (.own id g o l z) (.own id g o l z)
 | ptr {id g o:Nat} (h:id<nx) (hs:¬ S id):Fz S H nx (.ptr id g o) (.ptr id g o)
 | yld {id:Nat} (h:id<nx) (hs:¬ S id):Fz S H nx (.yld id) (.yld id)
 | deadOwn {id g o l z:Nat} (h:id<nx) (hs:S id):Fz S H nx (.own id g o l z) (.own id g o l z)
 | deadPtr {id g o:Nat} (h:id<nx) (hs:S id):Fz S H nx (.ptr id g o) (.ptr id g o)
 | deadYld {id:Nat} (h:id<nx) (hs:S id):Fz S H nx (.yld id) (.yld id)
 | nil:Fz S H nx (.lit (.slice none 0 0)) (.vec 0 [])
 | frz {id g o l z:Nat} {e:TypeId} {cells c':List AVal} (hs:S id) (hg:H.get id=some (.arr g e cells)) (hl:c'.length=l*z)
   (h:∀ i (h:i<l*z) (h2:o+i<cells.length) (h':i<c'.length),Fz S H nx cells[o+i] c'[i]):Fz S H nx (.own id g o l z) (.vec l c')
 | pfrz {id g o:Nat} {e:TypeId} {cells c':List AVal} (hs:S id) (hg:H.get id=some (.arr g e cells)) (hne:cells≠[]) (hl:c'.length=cells.length)
   (h:∀ i (h:i<cells.length) (h':i<c'.length),Fz S H nx cells[i] c'[i]):Fz S H nx (.ptr id g o) (.vptr c' o)
theorem Fz.refl {S:Nat->Prop}{H:AHeap}{nx:Nat}{v:AVal}(h:Below nx v)(hs:∀ id,id<nx->¬ S id):Fz S H nx v v:=by
 induction h with
 | lit v=>exact .lit v
 | vec _ ih=>exact .vec rfl fun i h _=>ih i h
 | vptr _ ih=>exact .vptr rfl fun i h _=>ih i h
 | agg _ ih=>exact .agg rfl fun i h _=>ih i h
 | tup _ ih=>exact .tup rfl fun i h _=>ih i h
 | clo _ _ ih1 ih2=>exact .clo rfl rfl (fun i h _=>ih1 i h) fun i h _=>ih2 i h
 | own h=>exact .own h (hs _ h)
 | ptr h=>exact .ptr h (hs _ h)
 | yld h=>exact .yld h (hs _ h)
def AP (S:Nat->Prop)(H:AHeap)(nx:Nat):Blk->Blk->Prop
 | .arr g e c,.arr g' e' c'=>g'=g/\e'=e/\c'.length=c.length/\∀ i (_:i<c.length) (_:i<c'.length),Fz S H nx c[i] c'[i]
 | .loop st pend n env ps asg body,.loop st' pend' n' env' ps' asg' body'=>st'=st/\pend'=pend/\n'=n/\env'=env/\ps'=ps/\asg'=asg/\body'=body/\∀ t,t<n->Fz S H nx (env t) (env t)
 | .mp es,.mp es'=>es'=es
 | .rsv,.rsv=>True
 | _,_=>False
structure FzH (S:Nat->Prop)(H H':AHeap):Prop where
 gone:∀ id,S id->H'.get id=none
 kept:∀ id b,¬ S id->H.get id=some b->id<H'.next/\∃ b',H'.get id=some b'/\AP S H H'.next b b'
 none:∀ id,¬ S id->H.get id=none->H'.get id=none
open Classical in
noncomputable def fb (S:Nat->Prop)(Γ:aC):aC:=fun id=>if S id then none else Γ id
theorem ik {S:Nat->Prop}{id:Nat}(h:¬ S id):fb S Γ id=Γ id:=by simp [fb,h]
theorem jS {S:Nat->Prop}{id:Nat}{x:Nat × Nat × Nat}(h:fb S Γ id=some x):¬ S id/\Γ id=some x:=by
 unfold fb at h;split at h
 ·cases h
 ·exact⟨by assumption,h⟩
theorem sS {S:Nat->Prop}{b:Nat}(h:(fb S Γ).fw b):Γ.fw b:=by
 obtain⟨id,base,n,h⟩:=h;exact⟨id,base,n,(jS h).2⟩
theorem FzH.back {S:Nat->Prop}(F:FzH S H H'){id:Nat}{b':Blk}(h:H'.get id=some b'):¬ S id/\∃ b,H.get id=some b/\AP S H H'.next b b'/\id<H'.next:=by
 have hs:¬ S id:=fun hs=>by rw[F.gone id hs]at h;cases h
 refine⟨hs,?_⟩;cases hg:H.get id with
 | none=>rw[F.none id hs hg]at h;cases h
 | some b =>
  obtain⟨h1,b1,h2,h3⟩:=F.kept id b hs hg;rw[h]at h2;cases h2;exact⟨b,rfl,h3,h1⟩
theorem Fz.sound {S:Nat->Prop}(R:RelH P G Γ H w)(F:FzH S H H'){v v':AVal}(hf:Fz S H H'.next v v'):∀ {cv:Value},RelV P Γ H w v cv->RelV P (fb S Γ) H' w v' cv:=by
 induction hf with
 | lit v=>intro cv h;cases h;exact .lit _
 | nil=>intro cv h;cases h;exact .vec0 none 0
 | deadOwn hlt hs =>
  intro cv h;cases h with
  | own h=>exact .own ⟨hlt,h.2.1,fun hr=>(by rw[F.gone _ hs]at hr;cases hr),fun _ _ _ hg=>(by rw[F.gone _ hs]at hg;cases hg)⟩
 | deadPtr hlt hs =>
  intro cv h;cases h with
  | ptr h=>exact .ptr ⟨hlt,h.2.1,fun hr=>(by rw[F.gone _ hs]at hr;cases hr),fun _ _ _ hg=>(by rw[F.gone _ hs]at hg;cases hg)⟩
 | deadYld hlt hs =>
  intro cv h;cases h with
  | yld h=>exact .yld ⟨hlt,h.2.1,fun hr=>(by rw[F.gone _ hs]at hr;cases hr),fun _ _ _ _ _ _ _ hg=>(by rw[F.gone _ hs]at hg;cases hg),fun _ hg=>(by rw[F.gone _ hs]at hg;cases hg)⟩
 | vec hl hc ih =>
  intro cv h;cases h with
  | vec0 a cap =>
   rename_i c';have:c'=[]:=List.eq_nil_of_length_eq_zero hl;subst this;exact .vec0 a cap
  | vec hb hlt hlen hcs hcell hrel=>exact .vec (fun h=>hb (sS h)) hlt hlen (by omega) hcell fun i h1 h2=>ih i (by omega) h1 (hrel i (by omega) h2)
 | vptr hl hc ih =>
  intro cv h;cases h with
  | vptr hb hlt hcs hcell hrel=>exact .vptr (fun h=>hb (sS h)) hlt (by omega) hcell fun i h1 h2=>ih i (by omega) h1 (hrel i (by omega) h2)
 | agg hl hc ih =>
  intro cv h;cases h with
  | agg hcs hrel=>exact .agg (by omega) fun i h1 h2=>ih i (by omega) h1 (hrel i (by omega) h2)
 | tup hl hc ih =>
  intro cv h;cases h with
  | tup hcs hrel=>exact .tup (by omega) fun i h1 h2=>ih i (by omega) h1 (hrel i (by omega) h2)
 | clo ha hb h1 h2 ih1 ih2 =>
  intro cv h;cases h with
  | clo hfs hcs hf hc=>exact .clo (by omega) (by omega) (fun i a b=>ih1 i (by omega) a (hf i (by omega) b)) fun i a b=>ih2 i (by omega) a (hc i (by omega) b)
 | own hlt hs =>
  intro cv h;cases h with
  | own h =>
   obtain⟨h1,h2,h0,h3⟩:=h;refine .own ⟨hlt,h2,fun hr=>?_,fun g' e' cells' hg'=>?_⟩
   ·obtain⟨_,b,hb,hfb,_⟩:=F.back hr;cases b with
    | rsv=>exact h0 hb
    | _=>exact hfb.elim
   ·obtain⟨_,b,hb,hfb,_⟩:=F.back hg';cases b with
    | arr g e cells =>
     obtain⟨rfl,rfl,hlen,_⟩:=hfb;have:=h3 _ _ _ hb;rw[ik hs,hlen];exact this
    | _=>exact hfb.elim
 | ptr hlt hs =>
  intro cv h;cases h with
  | ptr h =>
   obtain⟨h1,h2,h0,h3⟩:=h;refine .ptr ⟨hlt,h2,fun hr=>?_,fun g' e' cells' hg'=>?_⟩
   ·obtain⟨_,b,hb,hfb,_⟩:=F.back hr;cases b with
    | rsv=>exact h0 hb
    | _=>exact hfb.elim
   ·obtain⟨_,b,hb,hfb,_⟩:=F.back hg';cases b with
    | arr g e cells =>
     obtain⟨rfl,rfl,hlen,_⟩:=hfb;have:=h3 _ _ _ hb;rw[ik hs];exact this
    | _=>exact hfb.elim
 | yld hlt hs =>
  intro cv h;cases h with
  | yld h =>
   obtain⟨h1,h2,h0,h3,h4⟩:=h;refine .yld ⟨hlt,h2,fun hr=>?_,fun st pend n env ps asg body hg'=>?_,fun es hg'=>?_⟩
   ·obtain⟨_,b,hb,hfb,_⟩:=F.back hr;cases b with
    | rsv=>exact h0 hb
    | _=>exact hfb.elim
   ·obtain⟨_,b,hb,hfb,_⟩:=F.back hg';cases b with
    | loop st0 pend0 n0 env0 ps0 asg0 body0 =>
     have:=h3 _ _ _ _ _ _ _ hb;rw[ik hs];exact this
    | _=>exact hfb.elim
   ·obtain⟨_,b,hb,hfb,_⟩:=F.back hg';cases b with
    | mp es0 =>
     have:=h4 _ hb;rw[ik hs];exact this
    | _=>exact hfb.elim
 | @frz id g o l z e cells c' hs hg hl hc ih =>
  intro cv h;cases h with
  | own h =>
   obtain⟨h1,h2,h0,h3⟩:=h;have h4:=(h3 _ _ _ hg).2 rfl;have harr:=R.arr id g e cells hg;cases hΓ:Γ id with
   | none =>
    rw[hΓ]at h4;obtain⟨rfl,rfl,rfl⟩:=h4;have:c'=[]:=List.eq_nil_of_length_eq_zero (by simpa using hl);subst this;exact .vec0 _ _
   | some y =>
    obtain⟨b,base,n⟩:=y;rw[hΓ]at h4 harr;obtain⟨a,cap,rfl,hcap,hoff,hor⟩:=h4;obtain⟨c,a1,a2,a3,a4⟩:=harr;rcases hor with ⟨rfl,hn⟩|⟨rfl,rfl⟩
    ·have hcell:∀ i,i<l*z->∃ cv,c[base+(o+i)]?=some cv/\∀ (h:o+i<cells.length),RelV P Γ H w cells[o+i] cv:=fun i hi=>by
      obtain⟨cv,b1,b2⟩:=a4 (o+i) (by omega);exact⟨cv,b1,fun _=>b2⟩
     let cs:List Value:=(List.range (l*z)).map fun i=>(c[base+(o+i)]?).getD undef
     have hcs:cs.length=c'.length:=(by simp [cs,hl]);refine .vec (cs:=cs) (fun ho=>?_) (R.lt _ _ _ _ hΓ) hcap hcs (fun i hi=>?_) fun i hi hi'=>?_
     ·obtain⟨id',base',n',h'⟩:=ho;obtain⟨hns,h''⟩:=jS h';have:=R.inj _ _ _ _ _ _ _ h'' hΓ;subst this;exact hns hs
     ·have hi2:i<l*z:=(by rw[hcs,hl]at hi;exact hi);obtain⟨cv,b1,_⟩:=hcell i hi2;have:cs[i]=cv:=(by simp [cs,b1]);rw[this];have he:base+o+i=base+(o+i):=(by omega);simp only[World.cell?,a1,he];exact b1
     ·have hi2:i<l*z:=(by rw[hl]at hi;exact hi);obtain⟨cv,b1,b2⟩:=hcell i hi2;have:cs[i]=cv:=(by simp [cs,b1]);rw[this];exact ih i hi2 (by omega) hi (b2 (by omega))
    ·have:c'=[]:=List.eq_nil_of_length_eq_zero (by simpa using hl);subst this;exact .vec0 _ _
 | @pfrz id g o e cells c' hs hg hne hl hc ih =>
  intro cv h;cases h with
  | ptr h =>
   obtain⟨h1,h2,h0,h3⟩:=h;obtain⟨b,base,n,hΓ,rfl⟩:=(h3 _ _ _ hg).2 rfl;have harr:=R.arr id g e cells hg;rw[hΓ]at harr;obtain⟨c,a1,a2,a3,a4⟩:=harr
   let cs:List Value:=(List.range cells.length).map fun i=>(c[base+i]?).getD undef
   have hcs:cs.length=c'.length:=(by simp [cs,hl]);have hcell:∀ i (hi:i<cells.length) (hi':i<cs.length),c[base+i]?=some cs[i]/\RelV P Γ H w cells[i] cs[i]:=fun i hi hi'=>by
    obtain⟨cv,b1,b2⟩:=a4 i hi;have:cs[i]=cv:=(by simp [cs,b1]);rw[this];exact⟨b1,b2⟩
   refine .vptr (cs:=cs) (fun ho=>?_) (R.lt _ _ _ _ hΓ) hcs (fun i hi=>?_) fun i hi hi'=>?_
   ·obtain⟨id',base',n',h'⟩:=ho;obtain⟨hns,h''⟩:=jS h';have:=R.inj _ _ _ _ _ _ _ h'' hΓ;subst this;exact hns hs
   ·simp only[World.cell?,a1];exact(hcell i (by omega) hi).1
   ·exact ih i (by omega) hi (hcell i (by omega) hi').2
theorem Fz.plain {S:Nat->Prop}{H:AHeap}{nx:Nat}{v:AVal}(h:Below 0 v):Fz S H nx v v:=by
 induction h with
 | lit v=>exact .lit v
 | vec _ ih=>exact .vec rfl fun i h _=>ih i h
 | vptr _ ih=>exact .vptr rfl fun i h _=>ih i h
 | agg _ ih=>exact .agg rfl fun i h _=>ih i h
 | tup _ ih=>exact .tup rfl fun i h _=>ih i h
 | clo _ _ ih1 ih2=>exact .clo rfl rfl (fun i h _=>ih1 i h) fun i h _=>ih2 i h
 | own h=>exact absurd h (Nat.not_lt_zero _)
 | ptr h=>exact absurd h (Nat.not_lt_zero _)
 | yld h=>exact absurd h (Nat.not_lt_zero _)
theorem Fz.ints {S:Nat->Prop}{H:AHeap}{nx id g o:Nat}{e:TypeId}{cells:List AVal}{x:List Int}{n:Nat}(hs:S id)(hg:H.get id=some (.arr g e cells))(hn:n=x.length)(hx:∀ i (h:i<x.length),cells[o+i]?=some (aa x[i])):
  Fz S H nx (.own id g o n 1) (ae x):=by
 subst hn;refine .frz hs hg (by simp [Go.Hx.ints]) fun i hi h2 h'=>?_;have h1:=hx i (by omega);rw[List.getElem?_eq_getElem h2]at h1;rw[Option.some.inj h1];have:(Go.Hx.ints x)[i]=aa x[i]:=by simp [Go.Hx.ints]
 rw[this];exact .lit _
theorem Fz.AQ {S:Nat->Prop}{H:AHeap}{nx:Nat}:Fz S H nx (.lit (.slice none 0 0)) (ae []):=.nil
theorem Fz.dk {S:Nat->Prop}{H:AHeap}{nx:Nat}(x:List Int):Fz S H nx (ae x) (ae x) :=
 .plain (.vec fun i h=>by simp only[Go.Hx.ints,List.getElem_map];exact .lit _)
theorem oK (x:List Int):(Go.Hx.ints x).all AVal.one=true:=by simp [Go.Hx.ints,aa,AVal.one,Value.oneCell]
def fP (G:Nat->Option (List AVal)):Prop:=∀ g cells,G g=some cells->Below 0 (.vptr cells 0)
theorem FzH.aW {S:Nat->Prop}(F:FzH S H H'):Evo Γ H w (fb S Γ) H' w where
 os:=rfl
 tape:=rfl
 output:=rfl
 size:=Nat.le_refl _
 keep:=fun _ _ h=>⟨rfl,fun h'=>h (sS h')⟩
 live:=fun id _ _ x' hx=>by
  obtain⟨hs,b,hb,hfb,_⟩:=F.back hx;refine⟨b,hb,?_⟩;cases b<;>cases x'<;>first|exact hfb.elim|skip
  ·obtain⟨rfl,rfl,hl,_⟩:=hfb;exact⟨Nat.le_refl _,fun _=>⟨ik hs,rfl,hl⟩⟩
  ·obtain⟨rfl,rfl,rfl,rfl,rfl,rfl,rfl,_⟩:=hfb;exact⟨ik hs,rfl,rfl,rfl,rfl,rfl⟩
  ·exact ik hs
  ·trivial
 frz:=fun _ _=>rfl
theorem FzH.rel {S:Nat->Prop}(hG:fP G)(R:RelH P G Γ H w)(F:FzH S H H'):RelH P G (fb S Γ) H' w where
 arr id g e cells hg:=by
  obtain⟨hs,b,hb,hfb,_⟩:=F.back hg;cases b with
  | arr g0 e0 c0 =>
   obtain⟨rfl,rfl,hl,hc⟩:=hfb;have h1:=R.arr _ _ _ _ hb;rw[ik hs];cases hΓ:Γ id with
   | none =>
    rw[hΓ]at h1;simp only at h1 ⊢;subst h1;exact List.eq_nil_of_length_eq_zero hl
   | some y =>
    obtain⟨b,base,n⟩:=y;rw[hΓ]at h1;obtain⟨c,a1,a2,a3,a4⟩:=h1;refine⟨c,a1,a2,by omega,fun i hi=>?_⟩;obtain⟨cv,b1,b2⟩:=a4 i (by omega);exact⟨cv,b1,(hc i (by omega) hi).sound R F b2⟩
  | _=>exact hfb.elim
 loop id st pend n env ps asg body hg:=by
  obtain⟨hs,b,hb,hfb,_⟩:=F.back hg;cases b with
  | loop =>
   obtain⟨rfl,rfl,rfl,rfl,rfl,rfl,rfl,hf⟩:=hfb;obtain⟨b,rr,a1,a2,a3,a4,a5,a6,a7,a8,a9⟩:=R.loop _ _ _ _ _ _ _ _ hb;exact⟨b,rr,by rw[ik hs];exact a1,a2,a3,a4,a5,a6,a7,a8,fun t ht=>(hf t (by omega)).sound R F (a9 t ht)⟩
  | _=>exact hfb.elim
 mp id es hg:=by
  obtain⟨hs,b,hb,hfb,_⟩:=F.back hg;cases b with
  | mp es0 =>
   have hfb':es=es0:=hfb;subst hfb';obtain⟨b,a1,a2⟩:=R.mp _ _ hb;exact⟨b,by rw[ik hs];exact a1,a2⟩
  | _=>exact hfb.elim
 rsv id hg:=by
  obtain⟨hs,b,hb,hfb,_⟩:=F.back hg;cases b with
  | rsv=>rw[ik hs];exact R.rsv id hb
  | _=>exact hfb.elim
 inj id id' b base n base' n' h h':=R.inj id id' b base n base' n' (jS h).2 (jS h').2
 dom id x h:=by
  obtain⟨hs,h⟩:=jS h;obtain⟨y,hy⟩:=R.dom id x h;obtain⟨_,b',hb',_⟩:=F.kept id y hs hy;exact⟨b',hb'⟩
 lt id b base n h:=R.lt id b base n (jS h).2
 next id y h:=by
  obtain⟨_,_,_,_,h⟩:=F.back h;exact h
 glob g cells h:=(Fz.plain (hG g cells h)).sound R F (R.glob g cells h)
 gsz:=R.gsz
theorem ll.freeze {S:Nat->Prop}(hG:fP G){v v':AVal}(F:FzH S H H')(hv:Fz S H H'.next v v'):ll P G H v H' v' :=
 fun Γ _ R=>⟨fb S Γ,F.rel hG R,F.aW,fun _ h=>hv.sound R F h⟩
theorem dG.freeze {S:Nat->Prop}(hG:fP G){s s':St}(F:FzH S s.H s'.H)(hv:∀ t,Fz S s.H s'.H.next (s.ρ t) (s'.ρ t)):dG P G s s':=by
 intro n wb Γ a w hs;have E:Evo Γ s.H w (fb S Γ) s'.H w:=F.aW;refine⟨fb S Γ,⟨hs.size,fun t=>(hv t).sound hs.heap F (hs.env t),F.rel hG hs.heap,hs.defers.aW E,hs.low⟩,E,fun rd rb hr hri=>?_⟩;cases rd with
 | none=>exact hr
 | some id =>
  obtain⟨b,st,pend,n,env,ps,asg,body,h1,h2,h3⟩:=hr;obtain⟨st',pend',n',env',ps',asg',body',h4⟩:=hri;obtain⟨hns,_⟩:=F.back h4;exact⟨b,_,_,_,_,_,_,_,h1,by rw[ik hns];exact h2,h4⟩
theorem IS (hc:Clo H)(L:List Blk):FzH (fun id=>H.next<=id) (ext H L) H where
 gone id hs:=by
  cases h:H.get id with
  | none=>rfl
  | some b=>have:=hc.lt id b h;omega
 kept id b hs hb:=by
  have hlt:id<H.next:=Nat.lt_of_not_le hs;rw[cb H L id hlt]at hb;have hbb:=hc.below id b hb;refine⟨hlt,b,hb,?_⟩;have hno:∀ i,i<H.next->¬ H.next<=i:=fun i h=>Nat.not_le_of_lt h;cases b with
  | rsv=>trivial
  | mp=>rfl
  | arr g e cells=>exact⟨rfl,rfl,rfl,fun i h _=>.refl (hbb i h) hno⟩
  | loop st pend n env ps asg body=>exact⟨rfl,rfl,rfl,rfl,rfl,rfl,rfl,fun t ht=>.refl (hbb t ht) hno⟩
 none id hs hb:=by
  rw[cb H L id (Nat.lt_of_not_le hs)]at hb;exact hb
theorem av.drop (hG:fP G)(hc:Clo H){L:List Blk}{K:ARes->AHeap->Prop}{v v':AVal}(hv:Fz (fun id=>H.next<=id) (ext H L) H.next v v')(hk:K (.ret v') H):av P G H K v (ext H L) :=
 ⟨v',H,.freeze hG (IS hc L) hv,Nat.le_refl _,hk⟩
theorem af.clo {f : FuncId} {args : List AVal} {K : ARes → AHeap → Prop} (hf : ∃ fn, P.funcs[f]? = some fn ∧ fn.body.isNone = false ∧ (fn.name == "runtime.NumGoroutine") = false) (h : Clo H → af P G f args H K) : af P G f args H K :=
 ⟨hf,fun Γ w cargs R hr=>(h R.clo).2 Γ w cargs R hr⟩
end Go.Hx
namespace Go.Hx
variable {P:Program} {G:Nat->Option (List AVal)} {Γ Γ':aC} {H H':AHeap} {w w':World}
theorem sT (R : RelH P G Γ H w) {id : Nat} {st : LoopState} {pend : Option Code} {n : Nat} {env : Env} {ps : Array Tmp} {asg body : Code} (hg : H.get id=some (.loop st pend n env ps asg body)) :
    ∃ b r,Γ id=some (b,0,0)/\w.heap[b]?=some (.loop r)/\r.state=st/\r.pending=pend/\r.params=ps/\r.assign=asg/\r.body=body/\r.tmps.size=n/\(∀ t (h:t<r.tmps.size),RelV P Γ H w (env t) r.tmps[t]) /\
      ∀ st' pend',RelH P G Γ (H.upd id (.loop st' pend' n env ps asg body)) (bD w b (.loop { r with state:=st',pending:=pend' })) /\
        Evo Γ H w Γ (H.upd id (.loop st' pend' n env ps asg body)) (bD w b (.loop { r with state:=st',pending:=pend' })):=by
  obtain⟨b,r,hΓ,hb,h1,h2,h3,h4,h5,h6,h7⟩:=R.loop id st pend n env ps asg body hg;refine⟨b,r,hΓ,hb,h1,h2,h3,h4,h5,h6,h7,fun st' pend'=>?_⟩;have hlt:=R.lt id b 0 0 hΓ;have E:Evo Γ H w Γ (H.upd id (.loop st' pend' n env ps asg body)) (bD w b (.loop { r with state:=st',pending:=pend' })) :=
    { os:=rfl,tape:=rfl,output:=rfl
      size:=by rw[iL];exact Nat.le_refl _
      keep:=fun c hc ho=>⟨by
        rw[dZ,if_neg];rintro⟨rfl,_⟩;exact ho ⟨id,0,0,hΓ⟩,ho⟩
      live:=fun i hi _ x' hx=>by
        rw[ag]at hx;split at hx
        · rename_i hii;subst hii;simp only[Option.some.injEq]at hx;subst hx;exact⟨_,hg,rfl,rfl,rfl,rfl,rfl,rfl⟩
        · exact⟨x',hx,Blk.le_refl _ _ _⟩
      frz:=fun a _=>pV hb (fun _ _ _ h=>by cases h) (fun _ _ _ h=>by cases h) a }
  refine⟨?_,E⟩;have hne:∀ i b' base n',Γ i=some (b',base,n')->i≠id->b'≠b:=fun i b' base n' hi hii hbb=>by
    subst hbb;exact hii (R.inj _ _ _ _ _ _ _ hi hΓ)
  exact
    { arr:=fun i g e cells hgi=>by
        rw[ag]at hgi;split at hgi
        · simp at hgi
        · rename_i hii;have h:=R.arr i g e cells hgi;cases hi:Γ i with
          | none=>rw[hi]at h;exact h
          | some y =>
            obtain⟨b',base,n'⟩:=y;rw[hi]at h;obtain⟨c,a1,a2,a3,a4⟩:=h;refine⟨c,?_,a2,a3,fun j hj=>let ⟨cv,b1,b2⟩:=a4 j hj;⟨cv,b1,b2.aW E (Nat.le_refl _)⟩⟩;rw[dZ,if_neg]
            · exact a1
            · rintro⟨h,_⟩;exact hne i b' base n' hi hii h
      loop:=fun i st2 pend2 n2 env2 ps2 asg2 body2 hgi=>by
        rw[ag]at hgi;split at hgi
        · rename_i hii;subst hii;simp only[Option.some.injEq,Blk.loop.injEq]at hgi;obtain⟨rfl,rfl,rfl,rfl,rfl,rfl,rfl⟩:=hgi;refine⟨b,{ r with state:=st',pending:=pend' },hΓ,by rw[dZ,if_pos ⟨rfl,hlt⟩],rfl,rfl,h3,h4,h5,h6,fun t ht=>(h7 t ht).aW E (Nat.le_refl _)⟩
        · rename_i hii;obtain⟨b2,r2,a1,a2,a3,a4,a5,a6,a7,a8,a9⟩:=R.loop i _ _ _ _ _ _ _ hgi;refine⟨b2,r2,a1,?_,a3,a4,a5,a6,a7,a8,fun t ht=>(a9 t ht).aW E (Nat.le_refl _)⟩;rw[dZ,if_neg]
          · exact a2
          · rintro⟨h,_⟩;exact hne i b2 0 0 a1 hii h
      mp:=fun i es hgi=>by
        rw[ag]at hgi;split at hgi
        · simp at hgi
        · rename_i hii;obtain⟨b2,a1,a2⟩:=R.mp i _ hgi;refine⟨b2,a1,?_⟩;rw[dZ,if_neg]
          · exact a2
          · rintro⟨h,_⟩;exact hne i b2 0 0 a1 hii h
      rsv:=fun i hgi=>by
        rw[ag]at hgi;split at hgi
        · simp at hgi
        · exact R.rsv i hgi
      inj:=R.inj
      dom:=fun i x hi=>by
        obtain⟨y,hy⟩:=R.dom i x hi;rw[ag];split
        · exact⟨_,rfl⟩
        · exact⟨y,hy⟩
      lt:=fun i b' base n' hi=>by rw[iL];exact R.lt i b' base n' hi
      next:=fun i y hy=>by
        rw[ag]at hy;split at hy
        · rename_i hii;subst hii;exact R.next _ _ hg
        · exact R.next i y hy
      glob:=fun g cells h=>(R.glob g cells h).aW E (Nat.le_refl _)
      gsz:=R.nJ E }
theorem qA {b:Nat}{r:Loop}(h:w.heap[b]?=some (.loop r)):(Instr.getLoop b).run P w=.ok r w:=by
  have hg:(getObj b).run P w=.ok (.loop r) w:=by simp [getObj,Sem.run,h]
  unfold Instr.getLoop;rw[ao hg];rfl
theorem vZ {b:Nat}{r:Loop}{o':Obj}(h:w.heap[b]?=some (.loop r)):(setObj b o').run P w=.ok () (bD w b o'):=by
  simp [setObj,Sem.run,h,bD]
theorem IT {b:Nat}{r:Loop}(h:w.heap[b]?=some (.loop r))(hs:r.state=.ready):(Instr.beginRound b).run P w=.ok () (bD w b (.loop { r with state:=.busy,pending:=r.pending })):=by
  unfold Instr.beginRound;rw[ao (qA h),ao (vZ h)];simp only[hs];rfl
theorem IU {b : Nat} {r : Loop} (h : w.heap[b]?=some (.loop r)) (j : Option Code) :
    (Instr.endRound b j).run P w=.ok (.bool j.isNone) (bD w b (.loop { r with state:=if j.isNone then .ready else .done,pending:=j })):=by
  unfold Instr.endRound;rw[ao (qA h),ao (vZ h)];rfl
theorem IV {b:Nat}{r:Loop}(h:w.heap[b]?=some (.loop r))(hs:(r.state == .busy)=false):(Instr.endLoop b).run P w=.ok r.pending (bD w b (.loop { r with state:=.exhausted,pending:=r.pending })):=by
  unfold Instr.endLoop;rw[ao (qA h)];simp only[hs,Bool.false_eq_true,if_false];rw[ao (vZ h)];rfl
def kD (ρ:Env)(l:List (Tmp × AVal)):Env:=l.foldl (fun ρ p=>aH ρ (some p.1) p.2) ρ
def dp (env:Env)(n:Nat):Env:=fun t=>if t<n then env t else .lit undef
def lC (st:LoopState)(pend:Option Code):Option Blk->Option Blk
  | some (.loop _ _ n env ps asg body)=>some (.loop st pend n env ps asg body)
  | _=>none
def AR:Option Blk->Option Blk
  | some (.loop .ready pend n env ps asg body)=>some (.loop .busy pend n env ps asg body)
  | _=>none
def v5 (id:Nat)(K:ARes->AHeap->Prop):AX->St->Prop
  | .normal,s=>aV (lC .ready none (s.H.get id)) fun b=>K (.ret (.lit (.bool true))) (s.H.upd id b)
  | .ret,s=>aV (lC .done (some .ret) (s.H.get id)) fun b=>K (.ret (.lit (.bool false))) (s.H.upd id b)
  | .exit i,s=>aV (lC .done (some (.exit i)) (s.H.get id)) fun b=>K (.ret (.lit (.bool false))) (s.H.upd id b)
  | .goto i,s=>aV (lC .done (some (.goto i)) (s.H.get id)) fun b=>K (.ret (.lit (.bool false))) (s.H.upd id b)
  | .panic,_=>False
def AS (P:Program)(G:Nat->Option (List AVal))(n id:Nat)(body:Code)(K:ARes->AHeap->Prop):AX->St->Prop
  | .normal,s=>aV (AR (s.H.get id)) fun b=>W P G n (some id) body (v5 id K) ⟨s.ρ,s.H.upd id b⟩
  | _,_=>False
theorem IW : ∀ (l : List (Tmp × AVal)) (cl : List (Tmp × Value)) (ρ : Env) (tmps : Array Value),l.length=cl.length→(∀ i (h : i<l.length) (h' : i<cl.length),l[i].1=cl[i].1∧l[i].1<tmps.size∧RelV P Γ H w l[i].2 cl[i].2) →
    (∀ t,RelV P Γ H w (ρ t) (tmps.getD t undef)) ->
    ((cl.foldl (fun tmps (p:Tmp × Value)=>tmps.setIfInBounds p.1 p.2) tmps).size=tmps.size)/\∀ t,RelV P Γ H w (kD ρ l t) ((cl.foldl (fun tmps (p:Tmp × Value)=>tmps.setIfInBounds p.1 p.2) tmps).getD t undef):=by
  intro l
  induction l with
  | nil =>
    intro cl ρ tmps hl _ he;cases cl with
    | nil=>exact⟨rfl,he⟩
    | cons=>simp at hl
  | cons x l ih =>
    intro cl ρ tmps hl h he;cases cl with
    | nil=>simp at hl
    | cons y cl =>
      obtain⟨h1,h2,h3⟩:=h 0 (by simp) (by simp);simp only[List.getElem_cons_zero]at h1 h2 h3;have:=ih cl (aH ρ (some x.1) x.2) (tmps.setIfInBounds y.1 y.2) (by simpa using hl) (fun i a b=>by
        have:=h (i+1) (by simpa using a) (by simpa using b);simp only[List.getElem_cons_succ]at this;simpa using this) (fun t=>by
          by_cases ht:t=x.1
          · subst ht;have e1:aH ρ (some x.1) x.2 x.1=x.2:=(by simp [aH]);have e2:(tmps.setIfInBounds y.1 y.2).getD x.1 undef=y.2:=(by rw[<- h1];simp [h2]);rw[e1,e2];exact h3
          · have e1 : aH ρ (some x.1) x.2 t=ρ t:=(by simp [aH,ht]);have e2 : (tmps.setIfInBounds y.1 y.2).getD t undef=tmps.getD t undef:=by
              simp only[Array.getD_eq_getD_getElem?];rw[Array.getElem?_setIfInBounds,if_neg (by rw[<- h1];exact fun h=>ht h.symm)]
            rw[e1,e2];exact he t)
      refine⟨?_,this.2⟩;have h4:=this.1;simp only[Array.size_setIfInBounds]at h4;exact h4
theorem IX {st:LoopState}{pend:Option Code}{x:Option Blk}{b:Blk}(h:lC st pend x=some b):∃ st0 p0 n env ps asg body,x=some (.loop st0 p0 n env ps asg body)/\b=.loop st pend n env ps asg body:=by
  unfold lC at h;split at h
  · cases h;exact⟨_,_,_,_,_,_,_,rfl,rfl⟩
  · cases h
theorem aB.yld {id : Nat} {args : List AVal} {K : ARes→AHeap→Prop} {pend : Option Code} {n : Nat} {env : Env} {ps : Array Tmp} {asg body : Code} (hg : H.get id=some (.loop .ready pend n env ps asg body)) (hl : args.length=ps.size)
    (hps:ps.toList.all (fun t=>decide (t<n))=true) (h:W P G n (some id) asg (AS P G n id body K) ⟨kD (dp env n) (ps.toList.zip args),H⟩):aB P G (.yld id) args H K:=by
  intro Γ w cfv cargs R hv hr;cases hv with
  | yld hy =>
    obtain⟨b,hΓ,rfl⟩:=hy.2.2.2.1 _ _ _ _ _ _ _ hg;obtain⟨b',r,hΓ',hb,h1,h2,h3,h4,h5,h6,h7,_⟩:=sT R hg;rw[hΓ]at hΓ';simp only[Option.some.injEq,Prod.mk.injEq]at hΓ';obtain⟨rfl,_⟩:=hΓ';have hsz:cargs.size=r.params.size:=(by rw[hr.1,hl,h3]);refine⟨{ target:=.fn (.yield b) #[],args:=#[]++cargs },rfl,.inr (.inl ⟨b,r.fn,(r.params.zip (#[]++cargs)).foldl (fun tmps (t,a)=>tmps.setIfInBounds t a) r.tmps,r.assign,r.body,?_,?_⟩)⟩
    · show (Instr.yield b (#[]++cargs)).run P w=_;unfold Instr.yield;rw[ao (qA hb)];have:¬ ((#[]++cargs).size≠r.params.size):=(by simp [hsz]);rw[if_neg this];rfl
    · refine roundIn_of_wpIn (F:=Fence.wide) trivial ?_;have hfold : (r.params.zip (#[]++cargs)).foldl (fun tmps (t,a)=>tmps.setIfInBounds t a) r.tmps=(r.params.toList.zip cargs.toList).foldl (fun tmps (p : Tmp × Value)=>tmps.setIfInBounds p.1 p.2) r.tmps:=by
        rw[<- Array.foldl_toList];simp
      rw [hfold,h4,h5];have hset:=IW (P:=P) (Γ:=Γ) (H:=H) (w:=w) (ps.toList.zip args) (r.params.toList.zip cargs.toList) (dp env n) r.tmps (by simp [hr.1,h3]) (fun i a c=>by
          simp only[List.length_zip,Array.length_toList]at a c;simp only[List.getElem_zip,Array.getElem_toList];refine⟨by simp only[h3],?_,hr.2 i (by omega) (by omega)⟩;rw[h6];have:=List.all_eq_true.1 hps (ps[i]'(by omega)) (by simp);simpa using this) (fun t=>by
          unfold dp;by_cases ht:t<n
          · rw[if_pos ht];have:r.tmps.getD t undef=r.tmps[t]'(by omega):=(by simp [h6,ht]);rw[this];exact h7 t (by omega)
          · rw[if_neg ht];have:r.tmps.getD t undef=undef:=(by simp [h6,ht]);rw[this];exact .lit _)
      have hs:RelS P G n ⟨0,[]⟩ Γ ⟨kD (dp env n) (ps.toList.zip args),H⟩ { tmps:=(r.params.toList.zip cargs.toList).foldl (fun tmps (p:Tmp × Value)=>tmps.setIfInBounds p.1 p.2) r.tmps,defers:=[] } w :=
        ⟨by rw[hset.1,h6],hset.2,R,⟨[],rfl,Marks.nil⟩,Nat.zero_le _⟩
      refine wpIn_mono (h ⟨0,[]⟩ Γ _ w (some b) hs ⟨b,_,_,_,_,_,_,_,rfl,hΓ,hg⟩) ?_;rintro e a₁ w₁ ⟨x,s₁,Γ₁,hx,hq,hs₁,E₁,hn₁,hr₁,_⟩;cases x with
      | normal =>
        cases e with
        | normal =>
          obtain⟨blk,hbg,hW⟩:=hq;obtain⟨b1,st1,p1,n1,env1,ps1,asg1,body1,hb1,hΓ₁,hg₁⟩:=hr₁;simp only[Option.some.injEq]at hb1;subst hb1;rw[hg₁]at hbg;have hst:st1=.ready/\blk=.loop .busy p1 n1 env1 ps1 asg1 body1:=by
            cases st1<;>simp [AR]at hbg
            exact⟨rfl,hbg.symm⟩
          obtain ⟨rfl,rfl⟩:=hst;obtain ⟨b2,r1,hΓ₂,hb2,k1,k2,k3,k4,k5,k6,k7,kset⟩:=sT hs₁.heap hg₁;rw [hΓ₁] at hΓ₂;simp only [Option.some.injEq,Prod.mk.injEq] at hΓ₂;obtain ⟨rfl,_⟩:=hΓ₂;obtain ⟨R2,E2⟩:=kset .busy r1.pending;rw [k2] at R2 E2;have hb3 : Γ₁ id=some (b,0,0):=hΓ₁;refine ⟨_,IT hb2 k1,?_⟩;rw [k2];refine wpIn_mono (hW ⟨0,[]⟩ Γ₁ a₁ _ (some b) (hs₁.move E2 (Nat.le_refl _) R2) ⟨b,_,_,_,_,_,_,_,rfl,hΓ₁,by rw [ag,if_pos rfl]⟩) ?_;rintro e a₂ w₂ ⟨x,s₂,Γ₂,hx,hq,hs₂,E3,hn₂,hr₂,_⟩;obtain ⟨b4,st4,p4,n4,env4,ps4,asg4,body4,hb4,hΓ₄,hg₄⟩:=hr₂;simp only [Option.some.injEq] at hb4;subst hb4;obtain ⟨b5,r5,hΓ₅,hb5,l1,l2,l3,l4,l5,l6,l7,lset⟩:=sT hs₂.heap hg₄;rw [hΓ₄] at hΓ₅;simp only [Option.some.injEq,Prod.mk.injEq] at hΓ₅;obtain ⟨rfl,_⟩:=hΓ₅;have E4 : Evo Γ H w Γ₂ s₂.H w₂:=(E₁.trans hn₁ E2).trans hn₁ E3;have hn4 : H.next≤s₂.H.next:=Nat.le_trans hn₁ hn₂;have fin : ∀ (j : Option Code) (v : Bool),v=j.isNone→aV (lC (if j.isNone then .ready else .done) j (s₂.H.get id)) (fun bl=>K (.ret (.lit (.bool v))) (s₂.H.upd id bl)) →
              ∃ cv w',(Instr.endRound b j).run P w₂=.ok cv w'/\gG P G Γ H w K (.returned cv) w':=by
            rintro j v rfl ⟨bl,hbl,hk⟩;obtain⟨R6,E6⟩:=lset (if j.isNone then .ready else .done) j;rw[hg₄]at hbl;obtain⟨_,_,_,_,_,_,_,heq,rfl⟩:=IX hbl;simp only[Option.some.injEq,Blk.loop.injEq]at heq;obtain⟨rfl,rfl,rfl,rfl,rfl,rfl,rfl⟩:=heq;exact⟨_,_,IU hb5 j,.ret (.lit (.bool j.isNone)),_,Γ₂,RelV.lit _,hk,R6,E4.trans hn4 E6,hn4⟩
          cases e with
          | normal=>cases x with
            | normal=>exact fin none true rfl hq
            | _=>exact hx.elim
          | ret=>cases x with
            | ret=>exact fin (some .ret) false rfl hq
            | _=>exact hx.elim
          | exit i=>cases x with
            | exit i' =>
              obtain rfl:i=i':=hx;exact fin (some (.exit i)) false rfl hq
            | _=>exact hx.elim
          | goto i=>cases x with
            | goto i' =>
              obtain rfl:i=i':=hx;exact fin (some (.goto i)) false rfl hq
            | _=>exact hx.elim
          | panic c=>cases x with
            | panic=>exact hq.elim
            | _=>exact hx.elim
          | outgrown=>cases x<;>exact hx.elim
        | _=>exact hx.elim
      | _=>exact hq.elim
theorem v7 (hos:w'.os=w.os)(ht:w'.tape=w.tape)(ho:w'.output=w.output)(hs:w.heap.size<=w'.heap.size)(hk:∀ b,b<w.heap.size->w'.heap[b]?=w.heap[b]?)(hz:∀ a,a.block<w.heap.size->w'.frozen? a=w.frozen? a)(R:RelH P G Γ H w):Evo Γ H w Γ H w'/\RelH P G Γ H w':=by
  have E:Evo Γ H w Γ H w':=⟨hos,ht,ho,hs,fun b hb h=>⟨hk b hb,h⟩,fun _ _ _ x' hx=>⟨x',hx,Blk.le_refl _ _ _⟩,hz⟩
  refine⟨E,?_⟩;exact
    { arr:=fun id g e cells hg=>by
        have h1:=R.arr id g e cells hg;cases hΓ:Γ id with
        | none=>rw[hΓ]at h1;exact h1
        | some y =>
          obtain⟨b,base,n⟩:=y;rw[hΓ]at h1;obtain⟨c,a1,a2,a3,a4⟩:=h1;exact⟨c,by rw[hk b (R.lt _ _ _ _ hΓ)];exact a1,a2,a3,fun i hi=>let ⟨cv,b1,b2⟩:=a4 i hi;⟨cv,b1,b2.aW E (Nat.le_refl _)⟩⟩
      loop:=fun id st pend n env ps asg body hg=>by
        obtain⟨b,rr,a1,a2,a3,a4,a5,a6,a7,a8,a9⟩:=R.loop id st pend n env ps asg body hg;exact⟨b,rr,a1,by rw[hk b (R.lt _ _ _ _ a1)];exact a2,a3,a4,a5,a6,a7,a8,fun t ht=>(a9 t ht).aW E (Nat.le_refl _)⟩
      mp:=fun id es hg=>by
        obtain⟨b,a1,a2⟩:=R.mp id es hg;exact⟨b,a1,by rw[hk b (R.lt _ _ _ _ a1)];exact a2⟩
      rsv:=R.rsv
      inj:=R.inj
      dom:=R.dom
      lt:=fun id b base n h=>Nat.lt_of_lt_of_le (R.lt id b base n h) hs
      next:=R.next
      glob:=fun g cells h=>(R.glob g cells h).aW E (Nat.le_refl _)
      gsz:=R.nJ E }
def qC:Option Blk->Option (Option Code × Blk)
  | some (.loop .busy ..)=>none
  | some (.loop _ pend n env ps asg body)=>some (pend,.loop .exhausted pend n env ps asg body)
  | _=>none
def AT (Q:AX->St->Prop)(s:St):Option Code->Prop
  | none=>Q .normal s
  | some .ret=>Q .ret s
  | some (.exit i)=>Q (.exit i) s
  | some (.goto i)=>Q (.goto i) s
  | _=>False
def sU (rd:Option Nat)(Q:AX->St->Prop)(ρ:Env)(id:Nat):ARes->AHeap->Prop
  | .ret _,H'=>ef H' rd/\aV (qC (H'.get id)) fun pb=>AT Q ⟨ρ,H'.upd id pb.2⟩ pb.1
  | .panic,H'=>ef H' rd/\Q .panic ⟨ρ,H'⟩
theorem IY {x:Option Blk}{pb:Option Code × Blk}(h:qC x=some pb):∃ st pend n env ps asg body,x=some (.loop st pend n env ps asg body)/\(st == .busy)=false/\pb=(pend,.loop .exhausted pend n env ps asg body):=by
  unfold qC at h;split at h
  · cases h
  · rename_i st pend n env ps asg body hne;cases h;refine⟨_,_,_,_,_,_,_,rfl,?_,rfl⟩;cases st with
    | busy=>exact absurd rfl (by first|exact hne|exact fun h=>hne _ _ _ _ _ _ h)
    | _=>rfl
  · cases h
section
variable {n:Nat} {rd:Option Nat} {Q:AX->St->Prop}
theorem W.rangeFunc {g : Operand} {ps : Array Tmp} {asg body : Code} {s : St} {f : FuncId} {first cap : List AVal} (hg : ak G s.ρ g=.clo f first cap)
    (h:aV (s.H.lay s.H.next (.loop .ready none n s.ρ ps asg body)) fun H1=>af P G f (first++[.yld s.H.next]++cap) H1 (sU rd Q s.ρ s.H.next)):W P G n rd (.rangeFunc g ps asg body) Q s:=by
  intro wb Γ a w rb hs hr;obtain⟨H1,hlay,hcall⟩:=h;have hlay2:H1=⟨fun j=>if j=s.H.next then some (.loop .ready none n s.ρ ps asg body) else s.H.get j,s.H.next+1⟩:=by
    unfold AHeap.lay at hlay;rw[if_pos rfl]at hlay;exact(Option.some.inj hlay).symm
  subst hlay2;refine wpIn_rangeFunc fun fn _=>?_;have he:=gF hs g;rw[hg]at he
  -- the world with the record
  have key : ∀ (w0 : World) (mark : List Deferred) (dblk : Nat),Evo Γ s.H w Γ s.H w0→RelH P G Γ s.H w0 →
      qp wb Γ w0 (mark++a.defers) ->
      ∀ w1,w1={ w0 with heap:=w0.heap.push (.loop { state:=.ready,pending:=none,fn:=fn,tmps:=a.tmps,params:=ps,assign:=asg,body:=body,defers:=dblk }) } ->
      (Instr.enterLoop fn a.tmps ps asg body (dF rb).round).run P w=.ok (w0.heap.size,mark) w1 ->
      ∃ (l:Nat) (mark:List Deferred) (w₁:World) (d:Deferred) (w₁':World) (f:FuncId) (args:Array Value) (w₂:World),
      (Instr.enterLoop fn a.tmps ps asg body (dF rb).round).run P w=.ok (l,mark) w₁ /\
      (resolve a.eval (rangeCall g l) 0).run P w₁=.ok d w₁' /\
      (∀ f',Target.leads P w₁' d.target d.args=some f'->(dF rb).fn f') /\
      (invoke d.target d.args).run P w₁'=.ok (.enter f args) w₂ /\
      ((dF rb).depth.isSome=true->1<=0) /\
      CallsIn (dF rb) (0 - 1) P f args w₂ (rangePost (dF rb) 0 P l (fM P G n wb rd rb (wr (.rangeFunc g ps asg body)) Γ s.H a w Q) { a with defers:=mark++a.defers }):=by
    intro w0 mark dblk E0 R0 hdef w1 hw1 hent
    let rec':Loop:={ state:=.ready,pending:=none,fn:=fn,tmps:=a.tmps,params:=ps,assign:=asg,body:=body,defers:=dblk }
    have hheap:w1.heap=w0.heap.push (.loop rec'):=(by rw[hw1]);have hsz1:w1.heap.size=w0.heap.size+1:=(by rw[hheap];simp);have hk1:∀ b,b<w0.heap.size->w1.heap[b]?=w0.heap[b]?:=fun b hb=>by
      rw[hheap,Array.getElem?_push];rw[if_neg (by omega)]
    have hget1:w1.heap[w0.heap.size]?=some (.loop rec'):=(by rw[hheap];simp);obtain⟨E1,R1⟩:=v7 (w':=w1) (by rw[hw1]) (by rw[hw1]) (by rw[hw1]) (by omega) hk1 (fun a _=>nO hheap (fun _ _ _ h=>by cases h) a) R0
    let Γ1:aC:=fun i=>if i=s.H.next then some (w0.heap.size,0,0) else Γ i
    let H1:AHeap:=⟨fun j=>if j=s.H.next then some (.loop .ready none n s.ρ ps asg body) else s.H.get j,s.H.next+1⟩
    have hfresh:∀ i y,s.H.get i=some y->i≠s.H.next:=fun i y hy h=>by have:=R0.next i y hy;omega
    have hΓfresh:∀ i x,Γ i=some x->i≠s.H.next:=fun i x hx=>let ⟨y,hy⟩:=R0.dom i x hx;hfresh i y hy
    have hΓ1:∀ i,i≠s.H.next->Γ1 i=Γ i:=fun i hi=>by simp only[Γ1];rw[if_neg hi]
    have hH1:∀ i,i≠s.H.next->H1.get i=s.H.get i:=fun i hi=>by simp only[H1];rw[if_neg hi]
    have E2:Evo Γ s.H w0 Γ1 H1 w1 :=
      { os:=by rw[hw1],tape:=by rw[hw1],output:=by rw[hw1],size:=by omega
        keep:=fun b hb ho=>⟨hk1 b hb,by
          rintro⟨i,base,m,hi⟩;simp only[Γ1]at hi;split at hi
          · simp only[Option.some.injEq,Prod.mk.injEq]at hi;omega
          · exact ho ⟨i,base,m,hi⟩⟩
        live:=fun i hi _ x' hx=>by
          rw[hH1 i (by omega)]at hx;refine⟨x',hx,?_⟩;have hΓi:Γ1 i=Γ i:=hΓ1 i (by omega);cases x' with
          | arr=>exact⟨Nat.le_refl _,fun _=>⟨hΓi,rfl,rfl⟩⟩
          | loop=>exact⟨hΓi,rfl,rfl,rfl,rfl,rfl⟩
          | mp=>exact hΓi
          | rsv=>trivial
        frz:=fun a _=>nO hheap (fun _ _ _ h=>by cases h) a }
    have hn1:s.H.next<=H1.next:=Nat.le_succ _;have tr:∀ v cv,RelV P Γ s.H w0 v cv->RelV P Γ1 H1 w1 v cv:=fun v cv h=>h.aW E2 hn1;have R2:RelH P G Γ1 H1 w1 :=
      { arr:=fun i g e cells hi=>by
          by_cases hii:i=s.H.next
          · simp only[H1]at hi;rw[if_pos hii]at hi;simp at hi
          · rw[hH1 i hii]at hi;have h:=R0.arr i g e cells hi;rw[hΓ1 i hii];cases hΓ:Γ i with
            | none=>rw[hΓ]at h;exact h
            | some y =>
              obtain⟨b,base,m⟩:=y;rw[hΓ]at h;obtain⟨c,a1,a2,a3,a4⟩:=h;exact⟨c,by rw[hk1 b (R0.lt _ _ _ _ hΓ)];exact a1,a2,a3,fun j hj=>let ⟨cv,b1,b2⟩:=a4 j hj;⟨cv,b1,tr _ _ b2⟩⟩
        loop:=fun i st2 pend2 n2 env2 ps2 asg2 body2 hi=>by
          by_cases hii:i=s.H.next
          · simp only [H1] at hi;rw [if_pos hii] at hi;simp only [Option.some.injEq,Blk.loop.injEq] at hi;obtain ⟨rfl,rfl,rfl,rfl,rfl,rfl,rfl⟩:=hi;refine ⟨w0.heap.size,rec',by simp only [Γ1];rw [if_pos hii],hget1,rfl,rfl,rfl,rfl,rfl,hs.size,fun t ht=>?_⟩;have:=((hs.env t).aW E0 (Nat.le_refl _)).aW E2 hn1;have e1 : a.tmps.getD t undef=a.tmps[t]'ht:=by
              have:t<a.tmps.size:=ht;simp [this]
            rw[e1]at this;exact this
          · rw[hH1 i hii]at hi;obtain⟨b2,r2,a1,a2,a3,a4,a5,a6,a7,a8,a9⟩:=R0.loop i _ _ _ _ _ _ _ hi;exact⟨b2,r2,by rw[hΓ1 i hii];exact a1,by rw[hk1 b2 (R0.lt _ _ _ _ a1)];exact a2,a3,a4,a5,a6,a7,a8,fun t ht=>tr _ _ (a9 t ht)⟩
        mp:=fun i es hi=>by
          by_cases hii:i=s.H.next
          · simp only[H1]at hi;rw[if_pos hii]at hi;simp at hi
          · rw[hH1 i hii]at hi;obtain⟨b2,a1,a2⟩:=R0.mp i _ hi;exact⟨b2,by rw[hΓ1 i hii];exact a1,by rw[hk1 b2 (R0.lt _ _ _ _ a1)];exact a2⟩
        rsv:=fun i hi=>by
          by_cases hii:i=s.H.next
          · simp only[H1]at hi;rw[if_pos hii]at hi;simp at hi
          · rw[hH1 i hii]at hi;rw[hΓ1 i hii];exact R0.rsv i hi
        inj:=fun i i' b base m base' m' h h'=>by
          by_cases h1:i=s.H.next
          · by_cases h2:i'=s.H.next
            · rw[h1,h2]
            · rw[hΓ1 i' h2]at h';simp only[Γ1]at h;rw[if_pos h1]at h;simp only[Option.some.injEq,Prod.mk.injEq]at h;have:=R0.lt _ _ _ _ h';omega
          · by_cases h2:i'=s.H.next
            · rw[hΓ1 i h1]at h;simp only[Γ1]at h';rw[if_pos h2]at h';simp only[Option.some.injEq,Prod.mk.injEq]at h';have:=R0.lt _ _ _ _ h;omega
            · rw[hΓ1 i h1]at h;rw[hΓ1 i' h2]at h';exact R0.inj _ _ _ _ _ _ _ h h'
        dom:=fun i x hi=>by
          by_cases hii:i=s.H.next
          · simp only[H1];rw[if_pos hii];exact⟨_,rfl⟩
          · rw[hΓ1 i hii]at hi;rw[hH1 i hii];exact R0.dom i x hi
        lt:=fun i b base m hi=>by
          by_cases hii:i=s.H.next
          · simp only[Γ1]at hi;rw[if_pos hii]at hi;simp only[Option.some.injEq,Prod.mk.injEq]at hi;omega
          · rw[hΓ1 i hii]at hi;have:=R0.lt _ _ _ _ hi;omega
        next:=fun i y hi=>by
          by_cases hii:i=s.H.next
          · show i<s.H.next+1;omega
          · rw[hH1 i hii]at hi;have:=R0.next i y hi;show i<s.H.next+1;omega
        glob:=fun g cells h=>tr _ _ (R0.glob g cells h)
        gsz:=R0.nJ E2 }
    have E3:Evo Γ s.H w Γ1 H1 w1:=E0.trans (Nat.le_refl _) E2;generalize hcg:a.eval g=cg at he;cases he with
    | @clo _ _ _ fs cs hfs hcs hf hc =>
      obtain⟨⟨fn',hfn',hb',hname'⟩,hcall⟩:=hcall;have hyld:RelV P Γ1 H1 w1 (.yld s.H.next) (.func (.yield w0.heap.size) #[] #[]) :=
        .yld ⟨Nat.lt_succ_self _,rfl,by simp [H1],fun st pend n env ps asg body hgi=>⟨w0.heap.size,by simp [Γ1],rfl⟩,fun es hgi=>by simp [H1]at hgi⟩
      have hargs:cZ P Γ1 H1 w1 (first++[.yld s.H.next]++cap) (fs.toArray++#[.func (.yield w0.heap.size) #[] #[]]++cs.toArray):=by
        refine sy (sy ⟨by simpa using hfs,fun i h1 h2=>?_⟩ ⟨rfl,fun i h1 h2=>?_⟩) ⟨by simpa using hcs,fun i h1 h2=>?_⟩
        · exact(by simpa using hf i h1 (by simpa using h2):RelV P Γ s.H w first[i] (fs.toArray[i])).aW E3 hn1
        · have:i=0:=(by simp at h1;omega);subst this;exact hyld
        · exact(by simpa using hc i h1 (by simpa using h2):RelV P Γ s.H w cap[i] (cs.toArray[i])).aW E3 hn1
      refine⟨w0.heap.size,mark,w1,{ target:=.fn (.func f) cs.toArray,args:=fs.toArray++#[.func (.yield w0.heap.size) #[] #[]] },w1,f,fs.toArray++#[.func (.yield w0.heap.size) #[] #[]]++cs.toArray,w1,hent,?_,fun _ _=>trivial,?_,fun hc=>by simp [Fence.wide]at hc,?_⟩
      · have hm:Array.map a.eval #[Operand.const (.func (.yield w0.heap.size) #[] #[])]=#[.func (.yield w0.heap.size) #[] #[]]:=(by simp [Act.eval]);unfold resolve;simp only[hcg,hm];rfl
      · show (callFunc f (fs.toArray++#[.func (.yield w0.heap.size) #[] #[]]++cs.toArray)).run P w1=_;unfold callFunc;rw[ao (run_program P w1)];simp only[hfn'];rw[hname',hb'];rfl
      · have h4 : CallsIn (dF rb) 0 P f (fs.toArray++#[.func (.yield w0.heap.size) #[] #[]]++cs.toArray) w1 _:=hcall Γ1 w1 _ R2 hargs;refine h4.mono ?_;rintro e w3 ⟨r,H',Γ',hend,hk,R',E',hn'⟩;have E5 : Evo Γ s.H w Γ' H' w3:=E3.trans hn1 E';have hn5 : s.H.next≤H'.next:=Nat.le_trans hn1 hn';have mkS : ∀ (H'' : AHeap) (w4 : World),RelH P G Γ' H'' w4→Evo Γ s.H w Γ' H'' w4→Evo Γ s.H w0 Γ' H'' w4→s.H.next≤H''.next→RelS P G n wb Γ' ⟨s.ρ,H''⟩ { a with defers:=mark++a.defers } w4 :=
          fun H'' w4 R'' E'' E0'' hn''=>⟨hs.size,fun t=>(hs.env t).aW E'' hn'',R'',hdef.aW E0'',Nat.le_trans hs.low E''.size⟩
        cases e with
        | returned cv =>
          cases r with
          | panic=>exact hend.elim
          | ret v =>
            obtain⟨hri,pb,hpb,hj⟩:=hk;obtain⟨st,pend,n2,env2,ps2,asg2,body2,hgl,hbusy,rfl⟩:=IY hpb;obtain⟨b,r2,hΓb,hb,l1,l2,l3,l4,l5,l6,l7,lset⟩:=sT R' hgl;obtain⟨R6,E6⟩:=lset .exhausted r2.pending;have hbl:b=w0.heap.size:=by
              obtain⟨x,hx,hle⟩:=E'.live s.H.next (Nat.lt_succ_self _) (Nat.lt_of_lt_of_le (Nat.lt_succ_self _) hn') _ hgl;have hx':H1.get s.H.next=some (.loop .ready none n s.ρ ps asg body):=(by simp [H1]);rw[hx']at hx;cases hx;have h1:=hle.1;rw[hΓb]at h1;simp only[Γ1,if_true,Option.some.injEq,Prod.mk.injEq]at h1;exact h1.1
            subst hbl;have hend':=IV (P:=P) hb (by rw[l1];exact hbusy);rw[l2]at R6 E6 hend';refine⟨pend,_,hend',?_⟩;have E7:=E5.trans hn5 E6;have hS:=mkS _ _ R6 E7 ((E2.trans hn1 E').trans hn5 E6) hn5;have hri':ef (H'.upd s.H.next (.loop .exhausted pend n2 env2 ps2 asg2 body2)) rd:=by
              cases rd with
              | none=>trivial
              | some i =>
                obtain⟨st3,pend3,n3,env3,ps3,asg3,body3,h3⟩:=hri;by_cases hii:i=s.H.next
                · exact⟨_,_,_,_,_,_,_,by rw[ag,if_pos hii]⟩
                · exact⟨_,_,_,_,_,_,_,by rw[ag,if_neg hii];exact h3⟩
            have hR:=hr.aW E7 hn5 hs.heap hri';have post:∀ (e:Exit) (x:AX),vQ e x->Q x ⟨s.ρ,H'.upd s.H.next (.loop .exhausted pend n2 env2 ps2 asg2 body2)⟩->fM P G n wb rd rb (wr (.rangeFunc g ps asg body)) Γ s.H a w Q e { a with defers:=mark++a.defers } _ :=
              fun e x hx hq=>⟨x,_,Γ',hx,hq,hS,E7,hn5,hR,fun t _=>rfl⟩
            simp only at hj;cases pend with
            | none=>exact post .normal .normal trivial hj
            | some c =>
              cases c with
              | ret=>exact wpIn_ret (post .ret .ret trivial hj)
              | exit i=>exact wpIn_exit (post (.exit i) (.exit i) rfl hj)
              | goto i=>exact wpIn_goto (post (.goto i) (.goto i) rfl hj)
              | _=>exact hj.elim
        | panicked chain =>
          cases r with
          | ret v=>exact hend.elim
          | panic =>
            exact⟨.panic,_,Γ',hend,hk.2,mkS _ _ R' E5 (E2.trans hn1 E') hn5,E5,hn5,hr.aW E5 hn5 hs.heap hk.1,fun t _=>rfl⟩
        | outgrown=>cases r<;>exact hend.elim
  cases rb with
  | none =>
    let w0:World:={ w with heap:=w.heap.push (.deferred (some [])) }
    have hk0:∀ b,b<w.heap.size->w0.heap[b]?=w.heap[b]?:=fun b hb=>by
      show (w.heap.push _)[b]?=_;rw[Array.getElem?_push,if_neg (by omega)]
    obtain⟨E0,R0⟩:=v7 (w:=w) (w':=w0) rfl rfl rfl (by simp [w0]) hk0 (fun a _=>nO (o:=.deferred (some [])) rfl (fun _ _ _ h=>by cases h) a) hs.heap;refine key w0 [{ target:=.collected w.heap.size,args:=#[] }] w.heap.size E0 R0 ?_ _ rfl rfl;obtain⟨m,hm,hmk⟩:=hs.defers;refine⟨{ target:=.collected w.heap.size,args:=#[] } :: m,by rw[hm];rfl,fun d hd=>?_,?_⟩
    · simp only[List.mem_cons]at hd;rcases hd with rfl|hd
      · refine⟨w.heap.size,rfl,hs.low,?_,by simp [w0]⟩;rintro⟨i,base,m,hi⟩;have:=hs.heap.lt _ _ _ _ hi;omega
      · obtain⟨r,h1,h2,h3⟩:=hmk.1 d hd;exact⟨r,h1,h2,h3.aW E0⟩
    · refine List.pairwise_cons.2 ⟨fun d hd=>?_,hmk.2⟩;obtain⟨r,h1,h2,h3⟩:=hmk.1 d hd;rw[h1];intro he;simp only[Target.collected.injEq]at he;have h4:=h3.2;rw[<- he,Array.getElem?_eq_none (Nat.le_refl _)]at h4;cases h4
  | some b0 =>
    have hlr:∃ r,w.heap[b0]?=some (.loop r):=by
      cases rd with
      | none=>cases hr
      | some id =>
        obtain⟨b,st,pend,n',env,ps',asg',body',h1,h2,h3⟩:=hr;obtain⟨b',r,h4,h5,_⟩:=hs.heap.loop _ _ _ _ _ _ _ _ h3;rw[h2]at h4;simp only[Option.some.injEq,Prod.mk.injEq]at h4 h1;rw[h1,h4.1];exact⟨r,h5⟩
    obtain⟨r,hlr⟩:=hlr;refine key w [] r.defers (Evo.refl _ _ _) hs.heap (by simpa using hs.defers) _ rfl ?_;show (Instr.enterLoop fn a.tmps ps asg body (some b0)).run P w=_;unfold Instr.enterLoop;simp only[bind_assoc,pure_bind];rw[ao (qA hlr)];rfl
end
end Go.Hx
namespace Go.Hx
variable {P:Program} {G:Nat->Option (List AVal)} {Γ Γ':aC} {H H':AHeap} {w w':World}
def cH:AHeap:=⟨fun _=>none,0⟩
inductive Fresh (H:AHeap):AVal->AVal->Prop
 | lit (v:Value):Fresh H (.lit v) (.lit v)
 | nil:Fresh H (.lit (.slice none 0 0)) (.vec 0 [])
 | vec0:Fresh H (.vec 0 []) (.vec 0 [])
 | agg {c c':List AVal} (hl:c'.length=c.length) (h:∀ i (h:i<c.length) (h':i<c'.length),Fresh H c[i] c'[i]):Fresh H (.agg c) (.agg c')
 | tup {c c':List AVal} (hl:c'.length=c.length) (h:∀ i (h:i<c.length) (h':i<c'.length),Fresh H c[i] c'[i]):Fresh H (.tup c) (.tup c')
 | own {id g o l z:Nat} {e:TypeId} {cells c':List AVal} (hg:H.get id=some (.arr g e cells)) (hl:c'.length=l*z)
   (h:∀ i (h:i<l*z) (h2:o+i<cells.length) (h':i<c'.length),Fresh H cells[o+i] c'[i]):Fresh H (.own id g o l z) (.vec l c')
theorem Fresh.sound (R:RelH P G Γ' H' w){N:Nat}(h1:∀ b,Γ'.fw b->N<=b)(h2:∀ b,Γ.fw b->b<N){v v':AVal}(hf:Fresh H' v v'):∀ {cv:Value},RelV P Γ' H' w v cv->RelV P Γ H w v' cv:=by
 induction hf with
 | lit v=>intro cv h;cases h;exact .lit _
 | nil=>intro cv h;cases h;exact .vec0 none 0
 | vec0 =>
  intro cv h;cases h with
  | vec0 a cap=>exact .vec0 a cap
  | vec hb hlt hlen hcs hcell hrel=>exact .vec0 _ _
 | agg hl hc ih =>
  intro cv h;cases h with
  | agg hcs hrel=>exact .agg (by omega) fun i a b=>ih i (by omega) a (hrel i (by omega) b)
 | tup hl hc ih =>
  intro cv h;cases h with
  | tup hcs hrel=>exact .tup (by omega) fun i a b=>ih i (by omega) a (hrel i (by omega) b)
 | @own id g o l z e cells c' hg hl hc ih =>
  intro cv h;cases h with
  | own h =>
   obtain⟨_,_,h0,h3⟩:=h;have h4:=(h3 _ _ _ hg).2 rfl;have harr:=R.arr id g e cells hg;cases hΓ:Γ' id with
   | none =>
    rw[hΓ]at h4;obtain⟨rfl,rfl,rfl⟩:=h4;have:c'=[]:=List.eq_nil_of_length_eq_zero (by simpa using hl);subst this;exact .vec0 _ _
   | some y =>
    obtain⟨b,base,n⟩:=y;rw[hΓ]at h4 harr;obtain⟨a,cap,rfl,hcap,hoff,hor⟩:=h4;obtain⟨c,a1,a2,a3,a4⟩:=harr;rcases hor with ⟨rfl,hn⟩|⟨rfl,rfl⟩
    ·have hcell:∀ i,i<l*z->∃ cv,c[base+(o+i)]?=some cv/\∀ (h:o+i<cells.length),RelV P Γ' H' w cells[o+i] cv:=fun i hi=>by
      obtain⟨cv,b1,b2⟩:=a4 (o+i) (by omega);exact⟨cv,b1,fun _=>b2⟩
     let cs:List Value:=(List.range (l*z)).map fun i=>(c[base+(o+i)]?).getD undef
     have hcs:cs.length=c'.length:=(by simp [cs,hl]);refine .vec (cs:=cs) (fun ho=>?_) (R.lt _ _ _ _ hΓ) hcap hcs (fun i hi=>?_) fun i hi hi'=>?_
     ·have:=h2 b ho;have:=h1 b ⟨id,base,n,hΓ⟩;omega
     ·have hi2:i<l*z:=(by rw[hcs,hl]at hi;exact hi);obtain⟨cv,b1,_⟩:=hcell i hi2;have:cs[i]=cv:=(by simp [cs,b1]);rw[this];have he:base+o+i=base+(o+i):=(by omega);simp only[World.cell?,a1,he];exact b1
     ·have hi2:i<l*z:=(by rw[hl]at hi;exact hi);obtain⟨cv,b1,b2⟩:=hcell i hi2;have:cs[i]=cv:=(by simp [cs,b1]);rw[this];exact ih i hi2 (by omega) hi (b2 (by omega))
    ·have:c'=[]:=List.eq_nil_of_length_eq_zero (by simpa using hl);subst this;exact .vec0 _ _
theorem EJ (H:AHeap):FzH (fun _=>True) H cH:=⟨fun _ _=>rfl,fun _ _ h=>absurd trivial h,fun _ h=>absurd trivial h⟩
theorem zA (b:Nat):¬ (fb (fun _=>True) Γ).fw b:=by
 rintro⟨id,base,n,h⟩;exact(jS h).1 trivial
def qj (o:Option AVal)(r:ARes)(H':AHeap):Prop:=match o with
 | some v'=>∃ v,r=.ret v/\Fresh H' v v'
 | none=>r=.panic
def zB:Option AVal->ARes
 | some v=>.ret v
 | none=>.panic
theorem af.EK {f:FuncId}{args args':List AVal}{o:Option AVal}(hG:fP G)(hl:args'.length=args.length)(hv:∀ i (h:i<args.length) (h':i<args'.length),Fz (fun _=>True) H 0 args[i] args'[i])
  (h:af P G f args' cH (qj o)):af P G f args H fun r H'=>r=zB o/\H'=H:=by
 refine⟨h.1,fun Γ w cargs R hr=>?_⟩;have F:=EJ H;have R0:RelH P G (fb (fun _=>True) Γ) cH w:=F.rel hG R;have hr0:cZ P (fb (fun _=>True) Γ) cH w args' cargs:=⟨by have:=hr.1;omega,fun i h1 h2=>(hv i (by omega) h1).sound R F (hr.2 i (by omega) h2)⟩
 refine(h.2 _ w cargs R0 hr0).mono ?_;rintro e w' ⟨r,H',Γ',hend,hg,R',E,hn⟩;have hown:∀ b,Γ'.fw b->w.heap.size<=b:=fun b hb=>Nat.le_of_not_lt fun hlt=>(E.keep b hlt (zA b)).2 hb;have hown2:∀ b,Γ.fw b->b<w.heap.size:=fun b ⟨id,base,n,hb⟩=>R.lt _ _ _ _ hb;obtain⟨E2,R2⟩:=v7 E.os E.tape E.output E.size (fun b hb=>(E.keep b hb (zA b)).1) E.frz R;refine⟨zB o,H,Γ,?_,⟨rfl,rfl⟩,R2,E2,Nat.le_refl _⟩;cases o with
 | some v' =>
  obtain⟨v,rfl,hf⟩:=hg;cases e with
  | returned cv=>exact hf.sound R' hown hown2 hend
  | _=>exact hend.elim
 | none =>
  have hg':r=.panic:=hg;subst hg';cases e with
  | panicked chain=>exact hend
  | _=>exact hend.elim
theorem af.frame {f:FuncId}{args args':List AVal}{v':AVal}(hG:fP G)(hl:args'.length=args.length)(hv:∀ i (h:i<args.length) (h':i<args'.length),Fz (fun _=>True) H 0 args[i] args'[i])
  (h:af P G f args' cH fun r H'=>∃ v,r=.ret v/\Fresh H' v v'):af P G f args H fun r H'=>r=.ret v'/\H'=H:=af.EK (o:=some v') hG hl hv h
end Go.Hx
namespace Go.Hx.Ev
open Go.Hx
variable {P:Program} {G:Nat->Option (List AVal)} {Γ Γ':aC} {H H':AHeap} {w w':World}
def cM (e g:Nat->Option Blk):Nat->Option Blk:=fun j=>match e j with
 | some b=>some b
 | none=>g j
def mB (e:Option (Nat × Blk)):Nat->Option Blk:=fun j=>match e with
 | some (k,b)=>if j=k then some b else none
 | none=>none
theorem zx (e:Option (Nat × Blk))(g:Nat->Option Blk):cM (mB e) g=dI e g:=by
 funext j
 cases e with
 | none=>rfl
 | some kb =>
  obtain⟨k,b⟩:=kb;simp only[cM,mB,dI];by_cases h:j=k
  ·rw[if_pos h,if_pos h]
  ·rw[if_neg h,if_neg h]
def lh (P:Program)(G:Nat->Option (List AVal))(fv:AVal)(args:List AVal)(H:AHeap)(v:AVal)(e:Nat->Option Blk)(k:Nat)(f:FP):Prop :=
 (∀ r,r∈f.rs->r<H.next)/\(∀ r,(e r).isSome=true->r∈f.eff/\((r∈f.rs/\∃ g t c,H.get r=some (.arr g t c))\/(H.next<=r/\r<H.next+k)))/\(∀ c,c<k->(e (H.next+c)).isSome=true) /\
 ∀ H2:AHeap,(∀ r,r∈f.rs->H2.get r=H.get r)->(∀ c,c<k->H2.get (H.next+c)=some .rsv)->H.next+k<=H2.next->aB P G fv args H2 fun r H3=>r=.ret v/\H3=⟨cM e H2.get,H2.next⟩
def ct (P:Program)(G:Nat->Option (List AVal))(o:Oper)(K:FP->St->Prop)(s:St):Prop :=
 match o.op with
 | .call { callee:=.value fv,args,.. }=>∃ v e k f,lh P G (ak G s.ρ fv) (args.toList.map (ak G s.ρ)) s.H v e k f/\K f ⟨aH s.ρ o.dst v,⟨cM e s.H.get,s.H.next+k⟩⟩
 | op=>aV (aj P G s.ρ s.H s.H.next op) fun vH=>K (bh P G s.ρ s.H.next op) ⟨aH s.ρ o.dst vH.1,vH.2⟩
def dE (P:Program)(G:Nat->Option (List AVal))(all:Array Oper)(tail:St->Prop):List Nat->Nat->List (Nat × FP)->List Oper->St->Prop
 | b :: bs,i,acc,o :: rest,s=>aV (eG all s.ρ o) fun t=>if t=true then ct P G o (fun f s'=>fN b f acc/\dE P G all tail bs (i+1) (dJ i f acc) rest s') s
   else dE P G all tail bs (i+1) acc rest ⟨aH s.ρ o.dst (.lit undef),s.H⟩
 | _,_,_,[],s=>tail s
 | [],_,_,_ :: _,_=>False
structure Dt where
 v:AVal
 e:Nat->Option Blk
 al:Nat
 f:FP
def aU (all:Array Oper)(d:Nat->Dt)(ρ0:Env):Nat->(Nat->Bool)->Env
 | 0,_=>ρ0
 | n+1,D=>if D n then aH (aU all d ρ0 n D) (fa all n) (d n).v else aU all d ρ0 n D
def aO (d:Nat->Dt)(g0:Nat->Option Blk):Nat->(Nat->Bool)->Nat->Option Blk
 | 0,_=>g0
 | n+1,D=>if D n then cM (d n).e (aO d g0 n D) else aO d g0 n D
def aE (d:Nat->Dt):Nat->Nat
 | 0=>0
 | n+1=>aE d n+(d n).al
def cY (x:Dt)(r:Nat):Prop:=(x.e r).isSome=true
theorem lj {e g:Nat->Option Blk}{r:Nat}(h:¬ (e r).isSome=true):cM e g r=g r:=by
 unfold cM;cases he:e r with
 | none=>rfl
 | some b=>rw[he]at h;exact absurd rfl h
theorem zy {e g g':Nat->Option Blk}{r:Nat}(h:(e r).isSome=true):cM e g r=cM e g' r:=by
 unfold cM;cases he:e r with
 | none=>rw[he]at h;cases h
 | some b=>rfl
theorem vr {e g g':Nat->Option Blk}{r:Nat}(h:g r=g' r):cM e g r=cM e g' r:=by
 unfold cM;rw[h]
theorem Ez {e e':Nat->Option Blk}{g:Nat->Option Blk}(h:∀ r,(e r).isSome=true->¬ (e' r).isSome=true):cM e' (cM e g)=cM e (cM e' g):=by
 funext r
 by_cases hx:(e r).isSome=true
 ·rw[lj (h r hx)];exact zy hx
 ·rw[lj (g:=cM e' g) hx];exact vr (lj hx)
section
variable {all:Array Oper} {d d':Nat->Dt} {ρ0:Env} {g0 g0':Nat->Option Blk} {D D':Nat->Bool}
theorem mC {t:Tmp}:∀ {n:Nat},(∀ j,j<n->fa all j=some t->D j=D' j)->aU all d ρ0 n D t=aU all d ρ0 n D' t:=by
 intro n
 induction n with
 | zero=>intro _;rfl
 | succ n ih =>
  intro h;have h0:=ih fun j hj=>h j (by omega);simp only[aU];by_cases hd:fa all n=some t
  ·rw[h n (by omega) hd];split
   ·exact sG h0
   ·exact h0
  ·have:∀ (b:Bool) (ρ:Env),(if b=true then aH ρ (fa all n) (d n).v else ρ) t=ρ t:=by
    intro b ρ;split
    ·exact ow hd
    ·rfl
   rw[this,this];exact h0
theorem vt {m:Nat}:∀ {n:Nat},m<=n->aU all d ρ0 n (fun j=>decide (j<m))=aU all d ρ0 m fun _=>true:=by
 have low:∀ k,k<=m->aU all d ρ0 k (fun j=>decide (j<m))=aU all d ρ0 k fun _=>true:=by
  intro k
  induction k with
  | zero=>intro _;rfl
  | succ k ih =>
   intro hk;simp only[aU];rw[ih (by omega),if_pos (by simp;omega)];simp
 intro n
 induction n with
 | zero =>
  intro hm;obtain rfl:m=0:=by omega
  exact low 0 (by omega)
 | succ n ih =>
  intro hm;by_cases h:m=n+1
  ·subst h;exact low (n+1) (by omega)
  ·simp only[aU];rw[if_neg (by simp;omega)];exact ih (by omega)
theorem mD {r:Nat}:∀ {n:Nat},(∀ j,j<n->cY (d j) r->D j=D' j)->aO d g0 n D r=aO d g0 n D' r:=by
 intro n
 induction n with
 | zero=>intro _;rfl
 | succ n ih =>
  intro h;have h0:=ih fun j hj=>h j (by omega);simp only[aO];by_cases hd:cY (d n) r
  ·rw[h n (by omega) hd];split
   ·exact vr h0
   ·exact h0
  ·have:∀ (b:Bool) (g:Nat->Option Blk),(if b=true then cM (d n).e g else g) r=g r:=by
    intro b g;split
    ·exact lj hd
    ·rfl
   rw[this,this];exact h0
theorem vu {m:Nat}:∀ {n:Nat},m<=n->aO d g0 n (fun j=>decide (j<m))=aO d g0 m fun _=>true:=by
 have low:∀ k,k<=m->aO d g0 k (fun j=>decide (j<m))=aO d g0 k fun _=>true:=by
  intro k
  induction k with
  | zero=>intro _;rfl
  | succ k ih =>
   intro hk;simp only[aO];rw[ih (by omega),if_pos (by simp;omega)];simp
 intro n
 induction n with
 | zero =>
  intro hm;obtain rfl:m=0:=by omega
  exact low 0 (by omega)
 | succ n ih =>
  intro hm;by_cases h:m=n+1
  ·subst h;exact low (n+1) (by omega)
  ·simp only[aO];rw[if_neg (by simp;omega)];exact ih (by omega)
theorem qc {r:Nat}:∀ {n:Nat},(g0 r=g0' r\/∃ j,j<n/\D j=true/\cY (d j) r)->aO d g0 n D r=aO d g0' n D r:=by
 intro n
 induction n with
 | zero =>
  rintro(h|⟨j,hj,_⟩)
  ·exact h
  ·omega
 | succ n ih =>
  intro h;simp only[aO];by_cases hD:D n=true
  ·rw[if_pos hD,if_pos hD];by_cases ht:cY (d n) r
   ·exact zy ht
   ·refine vr (ih ?_);rcases h with h|⟨j,hj,h1,h2⟩
    ·exact .inl h
    ·by_cases hjn:j=n
     ·subst hjn;exact absurd h2 ht
     ·exact .inr ⟨j,by omega,h1,h2⟩
  ·rw[if_neg hD,if_neg hD];refine ih ?_;rcases h with h|⟨j,hj,h1,h2⟩
   ·exact .inl h
   ·by_cases hjn:j=n
    ·subst hjn;exact absurd h1 hD
    ·exact .inr ⟨j,by omega,h1,h2⟩
theorem vv {r:Nat}:∀ {n:Nat},(∀ j,j<n->D j=true->¬ cY (d j) r)->aO d g0 n D r=g0 r:=by
 intro n
 induction n with
 | zero=>intro _;rfl
 | succ n ih =>
  intro h;simp only[aO];split
  ·rename_i hD;rw[lj (h n (by omega) hD)];exact ih fun j hj=>h j (by omega)
  ·exact ih fun j hj=>h j (by omega)
def bI (D:Nat->Bool)(i:Nat):Nat->Bool:=fun j=>if j=i then true else D j
theorem vw {i:Nat}(hD:D i=false):∀ {n:Nat},i<n->(∀ j,i<j->j<n->D j=true->∀ t,fa all i=some t->fa all j≠some t) ->
  aU all d ρ0 n (bI D i)=aH (aU all d ρ0 n D) (fa all i) (d i).v:=by
 intro n
 induction n with
 | zero=>intro h;omega
 | succ n ih =>
  intro hi h;by_cases hin:i=n
  ·subst hin;have h0:aU all d ρ0 i (bI D i)=aU all d ρ0 i D:=funext fun t=>mC fun j hj _=>by simp [bI,Nat.ne_of_lt hj]
   simp only[aU];rw[if_pos (by simp [bI]),if_neg (by simp [hD]),h0]
  ·have hw:bI D i n=D n:=(by simp [bI,Ne.symm hin]);have h0:=ih (by omega) fun j h1 h2=>h j h1 (by omega);simp only[aU,hw];split
   ·rename_i hDn;rw[h0];exact As (h n (by omega) (by omega) hDn)
   ·exact h0
theorem vy {i:Nat}(hD:D i=false):∀ {n:Nat},i<n->(∀ j,i<j->j<n->D j=true->∀ t,cY (d i) t->¬ cY (d j) t) ->
  aO d g0 n (bI D i)=cM (d i).e (aO d g0 n D):=by
 intro n
 induction n with
 | zero=>intro h;omega
 | succ n ih =>
  intro hi h;by_cases hin:i=n
  ·subst hin;have h0:aO d g0 i (bI D i)=aO d g0 i D:=funext fun t=>mD fun j hj _=>by simp [bI,Nat.ne_of_lt hj]
   simp only[aO];rw[if_pos (by simp [bI]),if_neg (by simp [hD]),h0]
  ·have hw:bI D i n=D n:=(by simp [bI,Ne.symm hin]);have h0:=ih (by omega) fun j h1 h2=>h j h1 (by omega);simp only[aO,hw];split
   ·rename_i hDn;rw[h0];exact Ez (h n (by omega) (by omega) hDn)
   ·exact h0
theorem nZ {m n:Nat}(h:m<=n):aE d m<=aE d n:=by
 induction n with
 | zero =>
  have:m=0:=by omega
  subst this;exact Nat.le_refl _
 | succ n ih =>
  by_cases hm:m=n+1
  ·subst hm;exact Nat.le_refl _
  ·exact Nat.le_trans (ih (by omega)) (by simp [aE])
theorem qd {n c:Nat}(h:c<aE d n):∃ j,j<n/\aE d j<=c/\c<aE d j+(d j).al:=by
 induction n with
 | zero=>simp [aE]at h
 | succ n ih =>
  by_cases hc:c<aE d n
  ·obtain⟨j,h1,h2⟩:=ih hc;exact⟨j,by omega,h2⟩
  ·simp only[aE]at h;exact⟨n,by omega,by omega,by omega⟩
theorem jQ {i n:Nat}(h:i<n):aE d i+(d i).al<=aE d n:=by
 have:=nZ (d:=d) (m:=i+1) (n:=n) h;simpa only[aE] using this
theorem qf {n:Nat}(h:∀ j,j<n->d j=d' j):aU all d ρ0 n D=aU all d' ρ0 n D:=by
 induction n with
 | zero=>rfl
 | succ n ih=>simp only[aU];rw[ih fun j hj=>h j (by omega),h n (by omega)]
theorem qg {n:Nat}(h:∀ j,j<n->d j=d' j):aO d g0 n D=aO d' g0 n D:=by
 induction n with
 | zero=>rfl
 | succ n ih=>simp only[aO];rw[ih fun j hj=>h j (by omega),h n (by omega)]
theorem eF {n:Nat}(h:∀ j,j<n->d j=d' j):aE d n=aE d' n:=by
 induction n with
 | zero=>rfl
 | succ n ih=>simp only[aE];rw[ih fun j hj=>h j (by omega),h n (by omega)]
end
def ExecOk (P:Program)(G:Nat->Option (List AVal))(all:Array Oper)(o:Oper)(id:Nat)(s s':St):Prop :=
 (eG all s.ρ o=some false/\s'=⟨aH s.ρ o.dst (.lit undef),s.H⟩) \/
 (eG all s.ρ o=some true/\∃ v,s'.ρ=aH s.ρ o.dst v /\
  (aj P G s.ρ s.H id o.op=some (v,s'.H) \/
   ∃ fv args ats,o.op=.call ⟨.value fv,args,ats⟩/\(∀ id st pend m env ps asg body,s.H.get id=some (.loop st pend m env ps asg body)->s'.H.get id=s.H.get id)/\aB P G (ak G s.ρ fv) (args.toList.map (ak G s.ρ)) s.H fun r H3=>r=.ret v/\H3=s'.H))
theorem vz {n:Nat}{wb:Base}{rd rb:Option Nat}{all:Array Oper}{o:Oper}{id i:Nat}{s s':St}{a:Act}{next:Act->World->Prop}{Q':Exit->Act->World->Prop}(ho:all[i]?=some o)(hd:eX n o=true)
  (hs:RelS P G n wb Γ s a w) (hr:dz Γ s.H rd rb) (h:ExecOk P G all o id s s')
  (hnext:∀ Γ' a' w',RelS P G n wb Γ' s' a' w'->Evo Γ s.H w Γ' s'.H w'->s.H.next<=s'.H.next->dz Γ' s'.H rd rb->(∃ cv,a'=a.put o.dst cv)->next a' w'):
  wpOpIn (dF rb) 0 P all Q' i next a w:=by
 have hdst:∀ d,o.dst=some d->d<n:=by
  intro d hd';unfold eX at hd;rw[hd']at hd;simpa using hd
 unfold wpOpIn;rw[ho];simp only;rcases h with ⟨hw,rfl⟩|⟨hw,v,hρ,h⟩
 ·rw[od hs hw];simp only[Bool.false_eq_true,if_false];refine⟨fun _ _=>trivial,?_⟩;have hs':=jq (v:=.lit undef) (cv:=undef) hs hdst (Evo.refl Γ s.H w) (Nat.le_refl _) hs.heap (.lit _);exact hnext Γ _ w hs' (Evo.refl _ _ _) (Nat.le_refl _) hr ⟨_,rfl⟩
 ·rw[od hs hw];simp only[if_true];obtain⟨ρ',H'⟩:=s';simp only at hρ;subst hρ;refine⟨fun _ _=>trivial,?_⟩;rcases h with hop|⟨fv,args,ats,hop,hH,hap⟩
  ·simp only at hop;rw[Oper.semAt_eq _ _ _ (fun c hc=>by rw[hc]at hop;simp [aj]at hop)];obtain⟨nx,cv,Γ',w',hrun,hnx,E,hn,R,hv⟩:=vM hs.heap (gF hs) hop;rw[hrun];have hri:=vR hr (vS hs.heap hop);have hs':=jq hs hdst E hn R hv;have hr':=hr.aW E hn hs.heap hri;rcases hnx with rfl|⟨rfl,rfl⟩
   ·exact hnext Γ' _ w' hs' E hn hr' ⟨_,rfl⟩
   ·exact hnext Γ' _ w' hs' E hn hr' ⟨_,rfl⟩
  ·rw[Oper.semAt_eq _ _ _ (fun c hc=>by rw[hc]at hop;cases hop)];obtain⟨d,h1,h2⟩:=hap Γ w (a.eval fv) (args.map a.eval) hs.heap (gF hs fv) ⟨by simp,fun i h1 h2=>by simp only[List.getElem_map,Array.getElem_map,Array.getElem_toList];exact gF hs _⟩;have hex:(execOp a.eval o).run P w=(invoke d.target d.args).run P w:=by
    unfold execOp;simp only[hop];unfold resolve;simp only;rw[ao h1]
   have hri:ef H' rd:=by
    cases rd with
    | none=>trivial
    | some id =>
     obtain⟨b,st,pend,n,env,ps,asg,body,_,_,h3⟩:=hr;exact⟨_,_,_,_,_,_,_,(hH _ _ _ _ _ _ _ _ h3).trans h3⟩
   have cont:∀ e w',gG P G Γ s.H w (fun r H3=>r=.ret v/\H3=H') e w'->(match e with
     | .returned v=>next (a.put o.dst v) w'
     | .panicked chain=>Q' (.panic chain) a w'
     | .outgrown=>LetsOut Q'):=by
    rintro e w' ⟨r,H4,Γ',hend,⟨rfl,rfl⟩,R,E,hn⟩;have hr':=hr.aW E hn hs.heap hri;cases e with
    | returned cv=>exact hnext Γ' _ w' (jq hs hdst E hn R hend) E hn hr' ⟨_,rfl⟩
    | panicked chain=>exact hend.elim
    | outgrown=>exact hend.elim
   rw[hex];rcases h2 with ⟨f,as,h3,h4⟩|⟨l,f,tm,asg,body,h3,h4⟩|⟨cv,w',h3,h4⟩
   ·rw[h3];refine⟨fun hc=>by simp [Fence.wide]at hc,?_⟩;have h4':CallsIn (dF rb) 0 P f as w _:=h4;refine h4'.mono ?_;intro e w' hp;have:=cont e w' hp;cases e<;>exact this
   ·rw[h3];refine⟨fun hc=>by simp [Fence.wide]at hc,?_⟩;have h4':RoundIn (dF rb) 0 P l f tm asg body w _:=h4;refine h4'.mono ?_;intro e w' hp;have:=cont e w' hp;cases e<;>exact this
   ·rw[h3];exact cont (.returned cv) w' h4
def kx (d:Nat->Dt)(H0:AHeap)(m:Nat):AHeap:=⟨aO d H0.get m fun _=>true,H0.next+aE d m⟩
def canon (all:Array Oper)(d:Nat->Dt)(s0:St)(m:Nat):St:=⟨aU all d s0.ρ m fun _=>true,kx d s0.H m⟩
structure GoodAt (P:Program)(G:Nat->Option (List AVal))(all:Array Oper)(bs:List Nat)(s0:St)(d:Nat->Dt)(i:Nat):Prop where
 step:∀ o,all[i]?=some o->∀ ρ2 H2,(∀ t,t∈o.looksAt all->ρ2 t=(canon all d s0 i).ρ t)->(∀ r,r∈(d i).f.rs->H2.get r=(canon all d s0 i).H.get r) ->
  (∀ c,c<(d i).al->H2.get (s0.H.next+aE d i+c)=some .rsv)->s0.H.next+aE d i+(d i).al<=H2.next ->
  ExecOk P G all o (s0.H.next+aE d i) ⟨ρ2,H2⟩ ⟨aH ρ2 o.dst (d i).v,⟨cM (d i).e H2.get,H2.next⟩⟩
 eff:∀ r,cY (d i) r->r∈(d i).f.eff/\(r∈(d i).f.rs\/(s0.H.next+aE d i<=r/\r<s0.H.next+aE d i+(d i).al))
 al:∀ c,c<(d i).al->cY (d i) (s0.H.next+aE d i+c)
 lt:∀ r,r∈(d i).f.rs->r<s0.H.next+aE d i
 apart:∀ j,j<i->(da bs i).testBit j=false->(∀ r,r∈(d i).f.eff->r ∉ (d j).f.rs)/\(∀ r,r∈(d j).f.eff->r ∉ (d i).f.rs)
def bO (d:Nat->Dt)(m:Nat)(x:Dt):Nat->Dt:=fun j=>if j=m then x else d j
theorem fB {d:Nat->Dt}{m:Nat}{x:Dt}{i:Nat}(h:i<m):d i=bO d m x i:=by simp [bO,Nat.ne_of_lt h]
theorem cE {d:Nat->Dt}{m:Nat}{x:Dt}:bO d m x m=x:=by simp [bO]
theorem ky {all:Array Oper}{d d':Nat->Dt}{s0:St}{m:Nat}(h:∀ j,j<m->d j=d' j):canon all d s0 m=canon all d' s0 m:=by
 unfold canon kx;rw[qf h,qg h,eF h]
theorem GoodAt.below {all:Array Oper}{bs:List Nat}{s0:St}{d d':Nat->Dt}{i:Nat}(g:GoodAt P G all bs s0 d i)(h:∀ j,j<=i->d j=d' j):GoodAt P G all bs s0 d' i:=by
 have hi:=h i (Nat.le_refl _);have hn:aE d i=aE d' i:=eF fun j hj=>h j (by omega);have hc:canon all d s0 i=canon all d' s0 i:=ky fun j hj=>h j (by omega);obtain⟨a,b,c,e,f⟩:=g;refine⟨?_,?_,?_,?_,?_⟩
 ·rw[<- hi,<- hn,<- hc];exact a
 ·rw[<- hi,<- hn];exact b
 ·rw[<- hi,<- hn];exact c
 ·rw[<- hi,<- hn];exact e
 ·intro j hj hb;rw[<- hi,<- h j (by omega)];exact f j hj hb
def jm (d:Nat->Dt)(m:Nat)(acc:List (Nat × FP)):Prop:=∀ j,j<m->(d j).f=⟨[],[]⟩\/(j,(d j).f)∈acc
theorem jm.add {d:Nat->Dt}{m:Nat}{acc:List (Nat × FP)}(h:jm d m acc)(x:Dt):jm (bO d m x) (m+1) (dJ m x.f acc):=by
 intro j hj;have key:∀ p,p∈acc->p∈dJ m x.f acc:=by
  intro p hp;unfold dJ;split
  ·exact hp
  ·exact List.mem_cons_of_mem _ hp
 by_cases hjm:j=m
 ·subst hjm;rw[cE];by_cases hf:x.f=⟨[],[]⟩
  ·exact .inl hf
  ·refine .inr ?_;unfold dJ;split
   ·rename_i h0;exact absurd h0 hf
   ·exact List.mem_cons_self
 ·rw[<- fB (x:=x) (by omega)];exact(h j (by omega)).imp id (key _)
theorem qh {d:Nat->Dt}{m:Nat}{acc:List (Nat × FP)}{b:Nat}{f:FP}(hc:jm d m acc)(h:fN b f acc):∀ j,j<m->b.testBit j=false->(∀ r,r∈f.eff->r ∉ (d j).f.rs)/\(∀ r,r∈(d j).f.eff->r ∉ f.rs):=by
 intro j hj hb;rcases hc j hj with h0|h1
 ·rw[h0];exact⟨fun r _ h=>(by cases h),fun r h=>(by cases h)⟩
 ·exact h _ h1 hb
theorem mF {all:Array Oper}{d:Nat->Dt}{s0:St}{m:Nat}{x:Dt}{o:Oper}(ho:all[m]?=some o):
  canon all (bO d m x) s0 (m+1)=⟨aH (canon all d s0 m).ρ o.dst x.v,⟨cM x.e (canon all d s0 m).H.get,(canon all d s0 m).H.next+x.al⟩⟩:=by
 have hb:∀ j,j<m->d j=bO d m x j:=fun j hj=>fB hj;unfold canon kx;simp only[aU,aO,aE,if_true,cE];rw[<- qf hb,<- qg hb,<- eF hb];simp only[fa,ho,Option.bind_some,Nat.add_assoc]
theorem mG {all:Array Oper}{bs:List Nat}{s0:St}{d:Nat->Dt}{m:Nat}{x:Dt}(hg:∀ i,i<m->GoodAt P G all bs s0 d i)(hx:GoodAt P G all bs s0 (bO d m x) m):
  ∀ i,i<m+1->GoodAt P G all bs s0 (bO d m x) i:=by
 intro i hi;by_cases him:i=m
 ·subst him;exact hx
 ·exact(hg i (by omega)).below fun j hj=>fB (by omega)
theorem trace {all:Array Oper}{bs:List Nat}{s0:St}{tail:St->Prop}{K:Nat}(hbs:bs.length=K)(hK:K<=all.size):∀ (k m:Nat) (d:Nat->Dt) (acc:List (Nat × FP)),k+m=K ->
  (∀ i,i<m->GoodAt P G all bs s0 d i)->jm d m acc->eT (canon all d s0 m).H->dE P G all tail (bs.drop m) m acc ((all.toList.take K).drop m) (canon all d s0 m) ->
  ∃ d',(∀ i,i<K->GoodAt P G all bs s0 d' i)/\tail (canon all d' s0 K):=by
 intro k
 induction k with
 | zero =>
  intro m d acc hm hg hc wf h;obtain rfl:m=K:=by omega
  refine⟨d,hg,?_⟩;have:(all.toList.take m).drop m=[]:=by
   apply List.drop_eq_nil_of_le;simp only[List.length_take];omega
  rw[this]at h;cases hb:bs.drop m with
  | nil=>rw[hb]at h;simpa only[dE] using h
  | cons b bs'=>rw[hb]at h;simpa only[dE] using h
 | succ k ih =>
  intro m d acc hm hg hc wf h;have hmK:m<K:=by omega
  have hms:m<all.size:=by omega
  have ho:all[m]?=some all[m]:=Array.getElem?_eq_getElem hms;have hbm:bs.drop m=da bs m :: bs.drop (m+1):=by
   rw[List.drop_eq_getElem_cons (by omega)];congr 1;simp [da,List.getElem?_eq_getElem (show m<bs.length by omega)]
  have hom:(all.toList.take K).drop m=all[m] :: (all.toList.take K).drop (m+1):=by
   rw[List.drop_eq_getElem_cons (by simp only[List.length_take,Array.length_toList];omega)];congr 1;simp
  rw[hbm,hom]at h;simp only[dE]at h;obtain⟨t,ht,h⟩:=h;have hnext:(canon all d s0 m).H.next=s0.H.next+aE d m:=rfl;cases t with
  | false =>
   simp only[Bool.false_eq_true,if_false]at h
   let x:Dt:=⟨.lit undef,fun _=>none,0,⟨[],[]⟩⟩
   have hb:∀ j,j<m->d j=bO d m x j:=fun j hj=>fB hj;have hcan:canon all (bO d m x) s0 (m+1)=⟨aH (canon all d s0 m).ρ all[m].dst (.lit undef),(canon all d s0 m).H⟩:=mF ho;have hgx:GoodAt P G all bs s0 (bO d m x) m:=by
    refine⟨?_,?_,?_,?_,?_⟩
    ·rw[cE,<- ky hb];intro o ho' ρ2 H2 h1 h2 h3 _;rw[ho]at ho';cases ho';refine .inl ⟨?_,rfl⟩;simp only;rw[oA h1,ht]
    ·rw[cE];intro k he;cases he
    ·rw[cE];intro c he;exact absurd he (Nat.not_lt_zero _)
    ·rw[cE];intro r hr;cases hr
    ·rw[cE];intro j hj hbit;exact⟨fun r hr=>(by cases hr),fun r hr hr'=>(by cases hr')⟩
   refine ih (m+1) (bO d m x) acc (by omega) (mG hg hgx) (hc.add x) ?_ ?_
   ·rw[hcan];exact wf
   ·rw[hcan];exact h
  | true =>
   simp only[if_true]at h;unfold ct at h;split at h
   ·rename_i fv args ats hop;obtain⟨v,e,k,f,⟨hlt,heff,hnew,hcall⟩,hap,h⟩:=h
    let x:Dt:=⟨v,e,k,f⟩
    have hb:∀ j,j<m->d j=bO d m x j:=fun j hj=>fB hj;have hcan:canon all (bO d m x) s0 (m+1)=⟨aH (canon all d s0 m).ρ all[m].dst v,⟨cM e (canon all d s0 m).H.get,(canon all d s0 m).H.next+k⟩⟩:=mF ho;have hgx:GoodAt P G all bs s0 (bO d m x) m:=by
     refine⟨?_,?_,?_,?_,?_⟩
     ·rw[cE,<- ky hb,<- eF hb];intro o ho' ρ2 H2 h1 h2 h3 h4;rw[ho]at ho';cases ho';refine .inr ⟨?_,v,rfl,.inr ⟨fv,args,ats,hop,?_,?_⟩⟩
      ·simp only;rw[oA h1,ht]
      ·intro id st pend q env ps asg body hid;refine lj fun hs=>?_;rcases(heff id hs).2 with ⟨hrs,g,t,c,hg⟩|⟨g1,g2⟩
       ·have e9:=h2 id hrs;simp only at hid;rw[hid,hg]at e9;cases e9
       ·obtain⟨c,rfl⟩:∃ c,id=(canon all d s0 m).H.next+c:=⟨id - (canon all d s0 m).H.next,by omega⟩
        have e9:H2.get ((canon all d s0 m).H.next+c)=some .rsv:=h3 c (show c<k by omega);simp only at hid;rw[hid]at e9;cases e9
      ·have hev:=sI (G:=G) h1;have e1:ak G ρ2 fv=ak G (canon all d s0 m).ρ fv:=hev fv (by simp [hop,Op.operands,Call.operands]);have e2:args.toList.map (ak G ρ2)=args.toList.map (ak G (canon all d s0 m).ρ) :=
        List.map_congr_left fun y hy=>hev y (by simp only[hop,Op.operands,Call.operands];simp;exact .inr (by simpa using hy))
       simp only;rw[e1,e2];exact hcall H2 h2 h3 h4
     ·rw[cE,<- eF hb];intro r hr;exact⟨(heff r hr).1,(heff r hr).2.imp (fun h=>h.1) id⟩
     ·rw[cE,<- eF hb];exact hnew
     ·rw[cE,<- eF hb];exact hlt
     ·rw[cE];intro j hj hbit;rw[<- fB hj];exact qh hc hap j hj hbit
    refine ih (m+1) (bO d m x) _ (by omega) (mG hg hgx) (hc.add x) ?_ ?_
    ·rw[hcan];intro id b hid;show id<(canon all d s0 m).H.next+k;simp only at hid;by_cases hs:(e id).isSome=true
     ·rcases(heff id hs).2 with ⟨hrs,_⟩|⟨_,g2⟩
      ·have:=hlt id hrs;omega
      ·exact g2
     ·rw[lj hs]at hid;have:=wf id b hid;omega
    ·rw[hcan];exact h
   ·obtain⟨⟨v,H'⟩,hop,hap,h⟩:=h;obtain⟨e,al,hget,hnx,heff,hal,hlt,hloc⟩:=vU wf hop
    let x:Dt:=⟨v,mB e,(if al=true then 1 else 0),bh P G (canon all d s0 m).ρ (canon all d s0 m).H.next all[m].op⟩
    have hb:∀ j,j<m->d j=bO d m x j:=fun j hj=>fB hj;have hcan:canon all (bO d m x) s0 (m+1)=⟨aH (canon all d s0 m).ρ all[m].dst v,H'⟩:=by
     rw[mF ho];congr 1;cases H';simp only at hget hnx;simp only[AHeap.mk.injEq];refine⟨(zx _ _).trans hget.symm,?_⟩;rw[hnx];simp only[x];cases al<;>simp
    have hgx:GoodAt P G all bs s0 (bO d m x) m:=by
     refine⟨?_,?_,?_,?_,?_⟩
     ·rw[cE,<- ky hb,<- eF hb];intro o ho' ρ2 H2 h1 h2 h3 h4;rw[ho]at ho';cases ho';refine .inr ⟨?_,v,rfl,.inl ?_⟩
      ·simp only;rw[oA h1,ht]
      ·simp only;rw[Ar (ρ':=(canon all d s0 m).ρ) (sI h1),zx];refine hloc H2 h2 fun ha=>?_;subst ha;have h5:=h3 0 (by simp [x]);simp only[x,if_true]at h4;refine⟨h5,?_⟩;rw[hnext];omega
     ·rw[cE,<- eF hb];intro r hr;unfold cY at hr;simp only[x,mB]at hr;cases he:e with
      | none=>rw[he]at hr;cases hr
      | some kb =>
       obtain⟨k0,b0⟩:=kb;rw[he]at hr;simp only at hr;by_cases hrk:r=k0
       ·subst hrk;obtain⟨h1,h2⟩:=heff r b0 he;refine⟨h1,?_⟩;cases hal2:al with
        | false=>exact .inl (h2 hal2)
        | true =>
         obtain⟨b1,hb1⟩:=hal hal2;rw[he]at hb1;simp only[Option.some.injEq,Prod.mk.injEq]at hb1;refine .inr ?_;simp only[x,hal2,if_true];rw[hnext]at hb1;omega
       ·rw[if_neg hrk]at hr;cases hr
     ·rw[cE,<- eF hb];intro c hc2;cases hal2:al with
      | false=>simp [x,hal2]at hc2
      | true =>
       simp only[x,hal2,if_true]at hc2;obtain⟨b1,hb1⟩:=hal hal2;obtain rfl:c=0:=(by omega);unfold cY;simp only[x,mB,hb1,Nat.add_zero];rw[hnext];simp
     ·rw[cE,<- eF hb];exact hlt
     ·rw[cE];intro j hj hbit;rw[<- fB hj];exact qh hc hap j hj hbit
    have wf':eT H':=by
     intro id b hid;rw[hget]at hid;rw[hnx];cases e with
     | none =>
      have:=wf id b hid;split<;>omega
     | some kb =>
      obtain⟨k0,b0⟩:=kb;simp only[dI]at hid;split at hid
      ·rename_i hk;subst hk;cases al with
       | true =>
        obtain⟨b1,hb1⟩:=hal rfl;simp only[Option.some.injEq,Prod.mk.injEq]at hb1;simp only[if_true];omega
       | false =>
        have:=hlt _ ((heff id b0 rfl).2 rfl);simpa using this
      ·have:=wf id b hid;split<;>omega
    refine ih (m+1) (bO d m x) _ (by omega) (mG hg hgx) (hc.add x) ?_ ?_
    ·rw[hcan];exact wf'
    ·rw[hcan];exact h
end Go.Hx.Ev
namespace Go.Hx.Ev
open Go.Hx
variable {P:Program} {G:Nat->Option (List AVal)} {Γ Γ':aC} {H H':AHeap} {w w':World}
def dU (all:Array Oper)(d:Nat->Dt)(s0:St)(K:Nat)(D:Nat->Bool):St :=
 ⟨aU all d s0.ρ K D,⟨aO d (bE s0.H (aE d K)).get K D,s0.H.next+aE d K⟩⟩
theorem vA {all:Array Oper}{bs:List Nat}{K:Nat}(S:Static all bs K){d:Nat->Dt}{s0:St}(hg:∀ i,i<K->GoodAt P G all bs s0 d i){D:Nat->Bool}{i:Nat}{o:Oper}(hi:i<K)(ho:all[i]?=some o)(hDi:D i=false)
  (hdown:∀ j,j<i->(da bs i).testBit j=true->D j=true) (hup:∀ j,i<j->j<K->D j=true->(da bs j).testBit i=false):
  ExecOk P G all o (s0.H.next+aE d i) (dU all d s0 K D) (dU all d s0 K (bI D i)):=by
 have hget:∀ j,j<K->∃ oj,all[j]?=some oj:=fun j hj=>⟨_,Array.getElem?_eq_getElem (Nat.lt_of_lt_of_le hj S.le)⟩
 have hgi:=hg i hi;have tgtE:∀ j r,j<K->cY (d j) r->r∈(d j).f.eff/\(r∈(d j).f.rs\/(s0.H.next+aE d j<=r/\r<s0.H.next+aE d j+(d j).al)):=fun j r hj ht=>(hg j hj).eff r ht;have rangeK:∀ r,r<s0.H.next+aE d i->((bE s0.H (aE d K)).get r=s0.H.get r\/∃ j,j<i/\(fun _:Nat=>true) j=true/\cY (d j) r):=by
  intro r hr;by_cases h:s0.H.next<=r
  ·obtain⟨j,h1,h2,h3⟩:=qd (d:=d) (n:=i) (c:=r - s0.H.next) (by omega);have:=(hg j (by omega)).al (r - s0.H.next - aE d j) (by omega);rw[show s0.H.next+aE d j+(r - s0.H.next - aE d j)=r by omega]at this;exact .inr ⟨j,h1,rfl,this⟩
  ·left;simp only[bE];rw[if_neg (by omega)]
 have henv:∀ t,t∈o.looksAt all->aU all d s0.ρ K D t=(canon all d s0 i).ρ t:=by
  intro t ht;show _=aU all d s0.ρ i (fun _=>true) t;rw[<- vt (all:=all) (d:=d) (ρ0:=s0.ρ) (m:=i) (n:=K) (by omega)];refine mC fun j hj hdj=>?_;obtain⟨oj,hoj⟩:=hget j hj;rw[lu hoj]at hdj;rcases Nat.lt_trichotomy j i with h|rfl|h
  ·cases hb:(da bs i).testBit j with
   | true=>rw[hdown j h hb];simp [h]
   | false=>exact absurd ht ((oI (S.apart i j o oj hi h ho hoj hb)).1 t hdj)
  ·rw[hDi];simp
  ·cases hD:D j with
   | false=>symm;simp;omega
   | true=>exact absurd ht ((oI (S.apart j i oj o hj h hoj ho (hup j h hj hD))).2.1 t hdj)
 have hheap:∀ r,r∈(d i).f.rs->aO d (bE s0.H (aE d K)).get K D r=(canon all d s0 i).H.get r:=by
  intro r hr;show _=aO d s0.H.get i (fun _=>true) r;rw[<- qc (g0:=(bE s0.H (aE d K)).get) (rangeK r (hgi.lt r hr)),<- vu (m:=i) (n:=K) (by omega)];refine mD fun j hj ht=>?_;obtain⟨he,_⟩:=tgtE j r hj ht;rcases Nat.lt_trichotomy j i with h|rfl|h
  ·cases hb:(da bs i).testBit j with
   | true=>rw[hdown j h hb];simp [h]
   | false=>exact absurd hr ((hgi.apart j h hb).2 r he)
  ·rw[hDi];simp
  ·cases hD:D j with
   | false=>symm;simp;omega
   | true=>exact absurd hr (((hg j hj).apart i h (hup j h hj hD)).1 r he)
 have hal:∀ c,c<(d i).al->aO d (bE s0.H (aE d K)).get K D (s0.H.next+aE d i+c)=some .rsv:=by
  intro c hc;have hlt:=jQ (d:=d) hi;have heff:=(hgi.eff _ (hgi.al c hc)).1;rw[vv]
  ·simp only[bE];rw[if_pos (by omega)]
  ·intro j hj hD ht;obtain⟨h1,h2⟩:=tgtE j _ hj ht;rcases Nat.lt_trichotomy j i with h|rfl|h
   ·rcases h2 with h3|⟨h2,h3⟩
    ·have:=(hg j hj).lt _ h3;have:=nZ (d:=d) (Nat.le_of_lt h);omega
    ·have:=jQ (d:=d) h;omega
   ·rw[hDi]at hD;cases hD
   ·rcases h2 with h3|⟨h2,h3⟩
    ·exact absurd h3 (((hg j hj).apart i h (hup j h hj hD)).2 _ heff)
    ·have:=jQ (d:=d) h;omega
 have:=hgi.step o ho (aU all d s0.ρ K D) ⟨aO d (bE s0.H (aE d K)).get K D,s0.H.next+aE d K⟩ henv hheap hal (by have:=jQ (d:=d) hi;simp only;omega);have e1:aU all d s0.ρ K (bI D i)=aH (aU all d s0.ρ K D) o.dst (d i).v:=by
  rw[vw hDi hi,lu ho];intro j h hj hD t hti;obtain⟨oj,hoj⟩:=hget j hj;rw[lu ho]at hti;rw[lu hoj];exact(oI (S.apart j i oj o hj h hoj ho (hup j h hj hD))).2.2 t hti
 have e2:aO d (bE s0.H (aE d K)).get K (bI D i)=cM (d i).e (aO d (bE s0.H (aE d K)).get K D):=by
  refine vy hDi hi fun j h hj hD r hti htj=>?_;obtain⟨a1,a2⟩:=tgtE i r hi hti;obtain⟨b1,b2⟩:=tgtE j r hj htj;obtain⟨c1,c2⟩:=(hg j hj).apart i h (hup j h hj hD);rcases b2 with b3|⟨b2,b3⟩
  ·exact c2 r a1 b3
  ·rcases a2 with a3|⟨a2,a3⟩
   ·exact c1 r b1 a3
   ·have:=jQ (d:=d) h;omega
 unfold dU;rw[e1,e2];exact this
theorem qi {all:Array Oper}{bs:List Nat}{K:Nat}{d:Nat->Dt}{s0:St}(hg:∀ i,i<K->GoodAt P G all bs s0 d i){D:Nat->Bool}(hD:∀ j,j<K->D j=true):dU all d s0 K D=canon all d s0 K:=by
 unfold dU canon kx;have e1:aU all d s0.ρ K D=aU all d s0.ρ K fun _=>true:=funext fun t=>mC fun j hj _=>hD j hj;have e2:aO d (bE s0.H (aE d K)).get K D=aO d s0.H.get K fun _=>true:=by
  funext r
  rw[mD (D':=fun _=>true) fun j hj _=>hD j hj];refine qc ?_;by_cases h:s0.H.next<=r/\r<s0.H.next+aE d K
  ·obtain⟨j,h1,h2,h3⟩:=qd (d:=d) (n:=K) (c:=r - s0.H.next) (by omega);have:=(hg j h1).al (r - s0.H.next - aE d j) (by omega);rw[show s0.H.next+aE d j+(r - s0.H.next - aE d j)=r by omega]at this;exact .inr ⟨j,h1,rfl,this⟩
  ·left;simp only[bE];rw[if_neg h]
 rw[e1,e2]
theorem vB {all:Array Oper}{K:Nat}{d:Nat->Dt}{s0:St}{D:Nat->Bool}(hD:∀ j,j<K->D j=false):dU all d s0 K D=⟨s0.ρ,bE s0.H (aE d K)⟩:=by
 unfold dU;have e1:∀ n,n<=K->aU all d s0.ρ n D=s0.ρ:=by
  intro n
  induction n with
  | zero=>intro _;rfl
  | succ n ih=>intro h;simp only[aU];rw[if_neg (by simp [hD n h])];exact ih (by omega)
 have e2:∀ n,n<=K->aO d (bE s0.H (aE d K)).get n D=(bE s0.H (aE d K)).get:=by
  intro n
  induction n with
  | zero=>intro _;rfl
  | succ n ih=>intro h;simp only[aO];rw[if_neg (by simp [hD n h])];exact ih (by omega)
 rw[e1 K (Nat.le_refl _),e2 K (Nat.le_refl _)];rfl
variable {n:Nat} {wb:Base} {rd rb:Option Nat} {Q:AX->St->Prop} {all:Array Oper} {bs:List Nat} {K:Nat} {id:Nat} {dr:Bool}
theorem vC (S:Static all bs K)(hfit:∀ o,o∈all.toList->eX n o=true){d:Nat->Dt}{s0:St}(hg:∀ i,i<K->GoodAt P G all bs s0 d i)(htail:di P G rd Q all (all.toList.drop K) (canon all d s0 K)):
  ∀ (r:Nat) (listed:Array Bool) (D:Nat->Bool) (Γ:aC) (a:Act) (w:World),listed.size=all.size->eh listed all.size=r->(∀ j,j<all.size->listed.getD j true=D j)->(∀ j,D j=true->j<K)->sN all D ->
  RelS P G n wb Γ (dU all d s0 K D) a w->dz Γ (dU all d s0 K D).H rd rb ->
  ∀ (Q':Exit->Act->World->Prop),(∀ e a' w',fM P G n wb rd rb (wr (.region id all dr)) Γ (dU all d s0 K D).H a w Q e a' w'->Q' e a' w')->wpAnyIn (dF rb) 0 P .any all Q' r listed a w:=by
 intro r
 induction r with
 | zero =>
  intro listed D Γ a w hsz hc hl hlow hL hs hr Q' hq;have hall:∀ j,j<K->D j=true:=fun j hj=>by rw[<- hl j (Nat.lt_of_lt_of_le hj S.le)];exact sP hc j (Nat.lt_of_lt_of_le hj S.le)
  have hKs:K=all.size:=by
   rcases Nat.lt_or_ge K all.size with h|h
   ·have h1:=sP hc K h;rw[hl K h]at h1;have:=hlow K h1;omega
   ·have:=S.le;omega
  rw[qi hg hall]at hs hr hq;exact sR S hfit 0 K listed _ Γ a w (by omega) (Nat.le_refl _) hsz hc (fun j hj=>by rw[hl j hj];exact⟨hlow j,hall j⟩) htail hs hr Q' hq
 | succ r ih =>
  intro listed D Γ a w hsz hc hl hlow hL hs hr Q' hq;by_cases hall:∀ j,j<K->D j=true
  ·rw[qi hg hall]at hs hr hq;have hcount:∀ m,m<=all.size->eh listed m=m - K:=by
    intro m
    induction m with
    | zero=>intro _;simp [eh]
    | succ m ihm =>
     intro hm;simp only[eh];rw[ihm (by omega),hl m (by omega)];by_cases hmK:m<K
     ·rw[hall m hmK];simp;omega
     ·have:D m=false:=by
       cases hD:D m with
       | false=>rfl
       | true=>exact absurd (hlow m hD) hmK
      rw[this];simp;omega
   have h1:=hcount all.size (Nat.le_refl _);exact sR S hfit (r+1) K listed _ Γ a w (by have:=S.le;omega) (Nat.le_refl _) hsz hc (fun j hj=>by rw[hl j hj];exact⟨hlow j,hall j⟩) htail hs hr Q' hq
  ·have hex:∃ j,j<K/\D j=false:=by
    by_cases h:∃ j,j<K/\D j=false
    ·exact h
    ·refine absurd (fun j hj=>?_) hall;cases hD:D j with
     | true=>rfl
     | false=>exact absurd ⟨j,hj,hD⟩ h
   have least:∀ k,(∃ j,j<k/\j<K/\D j=false)->∃ j,j<K/\D j=false/\∀ i,i<j->D i=true:=by
    intro k
    induction k with
    | zero=>rintro⟨j,hj,_⟩;omega
    | succ k ihk =>
     rintro⟨j,h1,h2,h3⟩;by_cases h:∃ j,j<k/\j<K/\D j=false
     ·exact ihk h
     ·refine⟨j,h2,h3,fun i hi=>?_⟩;cases hD:D i with
      | true=>rfl
      | false=>exact absurd ⟨i,by omega,by omega,hD⟩ h
   obtain⟨j0,hj0K,hj0,hbelow⟩:=least K (let ⟨j,h1,h2⟩:=hex;⟨j,h1,h1,h2⟩);have hj0s:j0<all.size:=Nat.lt_of_lt_of_le hj0K S.le;have hr0:j0∈Region.ready .any all listed:=by
    refine mem_ready.2 ⟨by rw[hl j0 hj0s];exact hj0,_,Array.getElem?_eq_getElem hj0s,fun e he hb=>?_⟩;have hlt:=S.down j0 _ (Array.getElem?_eq_getElem hj0s) e he hb;rw[mJ (by omega) false true,hl e.on (by omega)];exact hbelow _ hlt
   refine⟨fun h0=>(by rw[h0]at hr0;cases hr0),fun i hi=>?_⟩;obtain⟨hiun,oi,hoi,hdir⟩:=mem_ready.1 hi;have his:=(Array.getElem?_eq_some_iff.1 hoi).1;have hdirD:∀ e,e∈oi.after->Region.binds .any e=true->D e.on=true:=fun e he hb=>by
    have:=S.down i oi hoi e he hb;rw[<- hl e.on (by omega),<- mJ (by omega) false true];exact hdir e he hb
   have hahead:=S.ahead hL i oi;have hiK:i<K:=by
    rcases Nat.lt_or_ge i K with h|h
    ·exact h
    ·have:=hahead j0 hoi hdirD (by rw[if_neg (by omega)];omega);rw[hj0]at this;cases this
   have hDi:D i=false:=(by rw[<- hl i his];exact hiun);have hex:=vA (P:=P) (G:=G) S hg hiK hoi hDi (fun j hj hb=>hahead j hoi hdirD (by rw[if_pos hiK];exact hb)) (fun j h1 h2 hD=>by
    cases hb:(da bs j).testBit i with
    | false=>rfl
    | true =>
     have hjs:j<all.size:=Nat.lt_of_lt_of_le h2 S.le;have:=S.ahead hL j _ i (Array.getElem?_eq_getElem hjs) (fun e he hbe=>hL j _ hD (Array.getElem?_eq_getElem hjs) e he hbe) (by rw[if_pos h2];exact hb);rw[hDi]at this;cases this)
   have hoi':oi=all[i]:=by
    rw[Array.getElem?_eq_getElem his]at hoi;exact(Option.some.inj hoi).symm
   refine vz hoi (hfit oi (by rw[hoi'];simp)) hs hr hex ?_;rintro Γ' a' w' hs' E hn hr' ⟨cv,rfl⟩;have hc':eh (listed.setIfInBounds i true) all.size=r:=by
    have:=vY hiun all.size;rw[if_pos his]at this;omega
   refine ih (listed.setIfInBounds i true) (bI D i) Γ' _ w' (by simpa using hsz) hc' ?_ ?_ ?_ hs' hr' Q' fun e a'' w'' hp=>hq _ _ _ (hp.step E hn (by rw[hoi'];exact oh his cv) fun _ h=>h)
   ·intro j hj;by_cases hji:j=i
    ·subst hji;simp [bI]
    ·rw[getD_set_ne true (Ne.symm hji),hl j hj];simp [bI,hji]
   ·intro j hj;by_cases hji:j=i
    ·subst hji;exact hiK
    ·simp only[bI,if_neg hji]at hj;exact hlow j hj
   ·intro k ok hk hok e he hb;by_cases hki:k=i
    ·subst hki;rw[hoi]at hok;cases hok;have:=hdirD e he hb;simp only[bI];split
     ·rfl
     ·exact this
    ·simp only[bI,if_neg hki]at hk;have:=hL k ok hk hok e he hb;simp only[bI];split
     ·rfl
     ·exact this
theorem W.EA {s:St}(K:Nat)(bs:List Nat)(hm:P.follows .mixedOrders=true)(hfit:all.toList.all (eX n)=true)(hst:qw all bs K=true)
  (h:dE P G all (di P G rd Q all (all.toList.drop K)) bs 0 [] (all.toList.take K) s):W P G n rd (.region id all true) Q s:=by
 intro wb Γ a w rb hs hr;have S:=AK hst;have hfit':∀ o,o∈all.toList->eX n o=true:=fun o ho=>List.all_eq_true.1 hfit o ho;have wf:eT s.H:=fun id b hb=>hs.heap.next id b hb;have hcan0:canon all (fun _=>⟨.lit undef,fun _=>none,0,⟨[],[]⟩⟩) s 0=s:=rfl;obtain⟨d,hg,htail⟩:=trace (P:=P) (G:=G) (all:=all) (bs:=bs) (s0:=s) (tail:=di P G rd Q all (all.toList.drop K)) S.len S.le K 0 (fun _=>⟨.lit undef,fun _=>none,0,⟨[],[]⟩⟩) [] (by omega)
  (fun i hi=>by omega) (fun j hj=>by omega) (by rw[hcan0];exact wf) (by rw[hcan0];exact h)
 refine wpIn_region_any hm ?_
 let w1:World:={ w with drawn:=w.drawn+1 }
 have R1:RelH P G Γ s.H w1:=hs.heap.move rfl (oJ w) (Nat.le_refl _) (fun id b hb=>.inl hb) fun id b hb=>hb;have hs1:RelS P G n wb Γ s a w1:=hs.move (oJ w) (Nat.le_refl _) R1;have hs2:RelS P G n wb Γ ⟨s.ρ,bE s.H (aE d K)⟩ a w1:=hs1.move (qx _ _) (by simp [bE]) (AM R1 _);have hr2:dz Γ (bE s.H (aE d K)) rd rb:=hr.move fun id b hb=>by
  simp only[bE];rw[if_neg]
  ·exact hb
  ·have:=hs.heap.next id b hb;omega
 have e0:dU all d s K (fun _=>false)=⟨s.ρ,bE s.H (aE d K)⟩:=vB fun _ _=>rfl;refine vC (wb:=wb) (id:=id) (dr:=true) S hfit' hg htail all.size _ (fun _=>false) Γ a w1 (by simp) (sQ _ (Nat.le_refl _)) ?_ ?_ ?_ ?_ ?_ _ ?_
 ·intro j hj;rw[Array.getD_eq_getD_getElem?,Array.getElem?_replicate,if_pos hj];rfl
 ·intro j hj;cases hj
 ·intro i o hi;cases hi
 ·rw[e0];exact hs2
 ·rw[e0];exact hr2
 ·rw[e0];intro e a' w' hp;refine hp.step ?_ (by simp [bE]) (.refl _ _) fun _ h=>h;exact Evo.trans (oJ w) (Nat.le_refl _) (qx _ _)
end Go.Hx.Ev
namespace Go.Hx.Ev
open Go.Hx
variable {P:Program} {G:Nat->Option (List AVal)} {Γ Γ':aC} {H H':AHeap} {w w':World}
inductive Cln (K:Nat->Prop):AVal->Prop
 | lit (v:Value):Cln K (.lit v)
 | nil:Cln K (.vec 0 [])
 | agg {c:List AVal} (h:∀ i (h:i<c.length),Cln K c[i]):Cln K (.agg c)
 | tup {c:List AVal} (h:∀ i (h:i<c.length),Cln K c[i]):Cln K (.tup c)
 | clo {f:FuncId} {a b:List AVal} (h1:∀ i (h:i<a.length),Cln K a[i]) (h2:∀ i (h:i<b.length),Cln K b[i]):Cln K (.clo f a b)
 | own {id g o l z:Nat} (h:K id):Cln K (.own id g o l z)
 | ptr {id g o:Nat} (h:K id):Cln K (.ptr id g o)
theorem Cln.mono {K K':Nat->Prop}{v:AVal}(h:Cln K v)(hk:∀ id,K id->K' id):Cln K' v:=by
 induction h with
 | lit v=>exact .lit v
 | nil=>exact .nil
 | agg _ ih=>exact .agg ih
 | tup _ ih=>exact .tup ih
 | clo _ _ ih1 ih2=>exact .clo ih1 ih2
 | own h=>exact .own (hk _ h)
 | ptr h=>exact .ptr (hk _ h)
theorem Cln.fz {S:Nat->Prop}{nx:Nat}{v:AVal}(h:Cln (fun id=>¬ S id/\id<nx) v):Fz S H nx v v:=by
 induction h with
 | lit v=>exact .lit v
 | nil=>exact .vec rfl fun i h=>absurd h (Nat.not_lt_zero _)
 | agg _ ih=>exact .agg rfl fun i h _=>ih i h
 | tup _ ih=>exact .tup rfl fun i h _=>ih i h
 | clo _ _ ih1 ih2=>exact .clo rfl rfl (fun i h _=>ih1 i h) fun i h _=>ih2 i h
 | own h=>exact .own h.2 h.1
 | ptr h=>exact .ptr h.2 h.1
theorem Cln.sound {K:Nat->Prop}{Γ₁ Γ₂:aC}{H₁ H₂:AHeap}(hK:∀ id,K id->H₂.get id=H₁.get id/\Γ₂ id=Γ₁ id)(hn:H₁.next<=H₂.next){v:AVal}(h:Cln K v):
  ∀ {cv:Value},RelV P Γ₁ H₁ w v cv->RelV P Γ₂ H₂ w v cv:=by
 induction h with
 | lit v=>intro cv h;cases h;exact .lit _
 | nil =>
  intro cv h;cases h with
  | vec0 a cap=>exact .vec0 a cap
  | vec hb hlt hlen hcs hcell hrel=>exact .vec0 _ _
 | agg _ ih=>intro cv h;cases h with|agg hcs hrel=>exact .agg hcs fun i h1 h2=>ih i h1 (hrel i h1 h2)
 | tup _ ih=>intro cv h;cases h with|tup hcs hrel=>exact .tup hcs fun i h1 h2=>ih i h1 (hrel i h1 h2)
 | clo _ _ ih1 ih2=>intro cv h;cases h with|clo hfs hcs hf hc=>exact .clo hfs hcs (fun i h1 h2=>ih1 i h1 (hf i h1 h2)) fun i h1 h2=>ih2 i h1 (hc i h1 h2)
 | own h =>
  intro cv hv;cases hv with
  | own hv =>
   obtain⟨a,b,c,d⟩:=hv;obtain⟨e1,e2⟩:=hK _ h;refine .own ⟨by omega,b,by rw[e1];exact c,fun g e cells hg=>?_⟩;rw[e1]at hg;rw[e2];exact d g e cells hg
 | ptr h =>
  intro cv hv;cases hv with
  | ptr hv =>
   obtain⟨a,b,c,d⟩:=hv;obtain⟨e1,e2⟩:=hK _ h;refine .ptr ⟨by omega,b,by rw[e1];exact c,fun g e cells hg=>?_⟩;rw[e1]at hg;rw[e2];exact d g e cells hg
def jo (lo hi:Nat)(lv:Nat->Bool)(g:Nat->Option Blk):Nat->Option Blk:=fun id=>if lo<=id/\id<hi then (if lv id=true then g id else some (.arr 0 0 [])) else none
def sj (lo hi:Nat):List Nat:=(List.range (hi - lo)).map (·+lo)
theorem EB {lo hi r:Nat}(h1:lo<=r)(h2:r<hi):r∈sj lo hi:=by
 unfold sj;rw[List.mem_map];exact⟨r - lo,by rw[List.mem_range];omega,by omega⟩
open Classical in
theorem lh.mk {f:FuncId}{first cap args args':List AVal}{v:AVal}(Hs Hs':AHeap)(kp:Nat->Prop)(lv:Nat->Bool)(rs:List Nat)(hG:fP G)
  (hrs:∀ r,r∈rs->r<H.next) (hnx:Hs.next=H.next) (hle:Hs.next<=Hs'.next)
  (hkp:∀ id,kp id->id∈rs/\Hs.get id=H.get id/\Hs'.get id=H.get id/\∃ g e c,H.get id=some (.arr g e c)/\∀ i (h:i<c.length),Cln kp c[i])
  (hgone:∀ id,¬ kp id->Hs.get id=none)
  (hl:args'.length=(first++args++cap).length)
  (hargs:∀ H2:AHeap,(∀ r,r∈rs->H2.get r=H.get r)->∀ i (h:i<(first++args++cap).length) (h':i<args'.length),Fz (fun id=>¬ kp id) H2 H.next (first++args++cap)[i] args'[i])
  (hcall:af P G f args' Hs fun r H'=>r=.ret v/\H'=Hs')
  (hv:Cln (fun id=>kp id\/(H.next<=id/\id<Hs'.next/\lv id=true)) v)
  (hnew:∀ id,H.next<=id->id<Hs'.next->lv id=true->∃ g e c,Hs'.get id=some (.arr g e c)/\∀ i (h:i<c.length),Cln (fun id=>kp id\/(H.next<=id/\id<Hs'.next/\lv id=true)) c[i]):
  lh P G (.clo f first cap) args H v (jo H.next Hs'.next lv Hs'.get) (Hs'.next - H.next) ⟨sj H.next Hs'.next,rs⟩:=by
 have hsome:∀ id,H.next<=id->id<Hs'.next->(jo H.next Hs'.next lv Hs'.get id).isSome=true:=by
  intro id h1 h2;unfold jo;rw[if_pos ⟨h1,h2⟩];split
  ·rename_i h3;obtain⟨g,e,c,h4,_⟩:=hnew id h1 h2 h3;rw[h4];rfl
  ·rfl
 have hout:∀ id,(jo H.next Hs'.next lv Hs'.get id).isSome=true->H.next<=id/\id<Hs'.next:=by
  intro id h;unfold jo at h;split at h
  ·assumption
  ·cases h
 refine⟨hrs,fun r hr=>?_,fun c hc=>hsome _ (by omega) (by omega),?_⟩
 ·obtain⟨h1,h2⟩:=hout r hr;exact⟨EB h1 h2,.inr ⟨h1,by omega⟩⟩
 intro H2 hag hres hn2;refine aB.clo ⟨hcall.1,fun Γ w cargs R hr=>?_⟩
 let S:Nat->Prop:=fun id=>¬ kp id
 have kpO:∀ id,¬ S id->kp id:=fun id h=>Classical.byContradiction h;have hkH2:∀ id,kp id->H2.get id=H.get id:=fun id h=>hag id (hkp id h).1;have hlow:∀ id,kp id->id<H.next:=fun id h=>hrs id (hkp id h).1;have F:FzH S H2 Hs:=by
  refine⟨fun id hs=>hgone id hs,fun id b hs hb=>?_,fun id hs hb=>?_⟩
  ·have hk:=kpO id hs;obtain⟨h1,h2,h3,g,e,c,h4,h5⟩:=hkp id hk;rw[hkH2 id hk,h4]at hb;cases hb;refine⟨by rw[hnx];exact hlow id hk,.arr g e c,by rw[h2,h4],rfl,rfl,rfl,fun i hi _=>?_⟩;exact((h5 i hi).mono fun id hk=>⟨fun hs=>hs hk,by rw[hnx];exact hlow id hk⟩).fz
  ·have hk:=kpO id hs;obtain⟨h1,h2,h3,g,e,c,h4,h5⟩:=hkp id hk;rw[hkH2 id hk,h4]at hb;cases hb
 have R0:RelH P G (fb S Γ) Hs w:=F.rel hG R;have hr0:cZ P (fb S Γ) Hs w args' cargs:=⟨by have:=hr.1;omega,fun i h1 h2=>(by
  have:=hargs H2 hag i (by omega) h1;rw[<- hnx]at this;exact this.sound R F (hr.2 i (by omega) h2))⟩
 refine(hcall.2 _ w cargs R0 hr0).mono ?_;rintro e w' ⟨r,H',Γ',hend,⟨rfl,rfl⟩,R',E,hn⟩
 let nw:Nat->Prop:=fun id=>H.next<=id/\id<H'.next
 let lw:Nat->Prop:=fun id=>H.next<=id/\id<H'.next/\lv id=true
 let Γ3:aC:=fun id=>if lw id then Γ' id else Γ id
 let H3:AHeap:=⟨cM (jo H.next H'.next lv H'.get) H2.get,H2.next⟩
 have hnle:H'.next<=H2.next:=by omega
 have g3l:∀ id,lw id->Γ3 id=Γ' id:=fun id h=>if_pos h;have g3o:∀ id,¬ lw id->Γ3 id=Γ id:=fun id h=>if_neg h;have kold:∀ id,kp id->¬ nw id:=fun id h hn=>by have:=hlow id h;have:=hn.1;omega
 have koldl:∀ id,kp id->¬ lw id:=fun id h hn=>kold id h ⟨hn.1,hn.2.1⟩;have gk:∀ id,kp id->Γ' id=Γ id:=by
  intro id hk;obtain⟨h1,h2,h3,g,e,c,h4,h5⟩:=hkp id hk;have hlo:=hlow id hk;obtain⟨x,hx,hle'⟩:=E.live id (by omega) (by omega) (.arr g e c) (by rw[h3,h4]);rw[h2,h4]at hx;cases hx;rw[(hle'.2 rfl).1];exact ik fun hs=>hs hk
 have h3new:∀ id,nw id->H3.get id=jo H.next H'.next lv H'.get id:=by
  intro id h;show cM _ _ id=_;unfold cM;have:=hsome id h.1 h.2;split
  ·rename_i b hb;rw[hb]
  ·rename_i hb;rw[hb]at this;cases this
 have h3live:∀ id,lw id->H3.get id=H'.get id:=by
  intro id h;rw[h3new id ⟨h.1,h.2.1⟩];unfold jo;rw[if_pos ⟨h.1,h.2.1⟩,if_pos h.2.2]
 have h3dead:∀ id,nw id->¬ lw id->H3.get id=some (.arr 0 0 []):=by
  intro id h hl;rw[h3new id h];unfold jo;rw[if_pos h,if_neg fun h2=>hl ⟨h.1,h.2,h2⟩]
 have h3old:∀ id,¬ nw id->H3.get id=H2.get id:=by
  intro id h;show cM _ _ id=_;exact lj fun h'=>h (hout id h')
 have hrsv:∀ id,nw id->H2.get id=some .rsv:=by
  intro id h;have:=hres (id - H.next) (by have:=h.1;have:=h.2;omega)
  rwa [show H.next+(id - H.next)=id by have:=h.1;omega]at this
 have hΓnew:∀ id,nw id->Γ id=none:=fun id h=>R.rsv id (hrsv id h);have hfar:∀ id b base n,lw id->Γ' id=some (b,base,n)->w.heap.size<=b:=by
  intro id b base n hid hb;refine Nat.le_of_not_lt fun hlt=>?_;have hown:(fb S Γ).fw b:=Classical.byContradiction fun hno=>(E.keep b hlt hno).2 ⟨id,base,n,hb⟩;obtain⟨id0,base0,n0,h0⟩:=hown;obtain⟨hs0,h0⟩:=jS h0;have hk0:=kpO id0 hs0;rw[<- gk id0 hk0]at h0;have:=R'.inj _ _ _ _ _ _ _ h0 hb;subst this;exact koldl _ hk0 hid
 have EE:Evo Γ H2 w Γ3 H3 w':=by
  refine⟨E.os,E.tape,E.output,E.size,fun b hb ho=>⟨(E.keep b hb fun h=>ho (sS h)).1,?_⟩,fun id h1 h2 x' hx'=>?_,E.frz⟩
  ·rintro⟨id,base,n,h⟩;by_cases hl:lw id
   ·rw[g3l id hl]at h;have:=hfar id b base n hl h;omega
   ·rw[g3o id hl]at h;exact ho ⟨id,base,n,h⟩
  ·by_cases hnw:nw id
   ·exact⟨.rsv,hrsv id hnw,trivial⟩
   ·rw[h3old id hnw]at hx';refine⟨x',hx',?_⟩;have hg:Γ3 id=Γ id:=g3o id fun h=>hnw ⟨h.1,h.2.1⟩;cases x' with
    | arr g e c=>exact⟨Nat.le_refl _,fun _=>⟨hg,rfl,rfl⟩⟩
    | loop=>exact⟨hg,rfl,rfl,rfl,rfl,rfl⟩
    | rsv=>trivial
    | mp=>exact hg
 have hn3:H2.next<=H3.next:=Nat.le_refl _;have hK:∀ id,(kp id\/lw id)->H3.get id=H'.get id/\Γ3 id=Γ' id:=by
  rintro id (h|h)
  ·refine⟨?_,?_⟩
   ·rw[h3old id (kold id h),hkH2 id h,(hkp id h).2.2.1]
   ·rw[g3o id (koldl id h),gk id h]
  ·exact⟨h3live id h,g3l id h⟩
 have hle3:H'.next<=H3.next:=hnle;have hidden:∀ id b base n,¬ kp id->Γ id=some (b,base,n)->w'.heap[b]?=w.heap[b]?:=by
  intro id b base n hk h;refine(E.keep b (R.lt _ _ _ _ h) ?_).1;rintro⟨id0,base0,n0,h0⟩;obtain⟨hs0,h0⟩:=jS h0;have:=R.inj _ _ _ _ _ _ _ h h0;subst this;exact hs0 hk
 have R3:RelH P G Γ3 H3 w':=by
  refine⟨?_,?_,?_,?_,?_,?_,?_,?_,?_,?_⟩
  ·intro id g e cells hg;have main : (kp id∨lw id)→(∀ i (h : i<cells.length),Cln (fun id=>kp id∨lw id) cells[i])→H'.get id=some (.arr g e cells)→_:=fun hid hc hg'=>R'.arr id g e cells hg';have fin : (kp id∨lw id)→(∀ i (h : i<cells.length),Cln (fun id=>kp id∨lw id) cells[i])→H'.get id=some (.arr g e cells)→(match Γ3 id with
     | some (b,base,n)=>∃ c,w'.heap[b]?=some (.cells c e (0,0))/\c.size=n/\base+cells.length<=n /\
      ∀ i (h:i<cells.length),∃ cv,c[base+i]?=some cv/\RelV P Γ3 H3 w' cells[i] cv
     | none=>cells=[]):=by
    intro hid hc hg';have h1:=R'.arr id g e cells hg';rw[(hK id hid).2];cases hΓ:Γ' id with
    | none=>rw[hΓ]at h1;exact h1
    | some y =>
     obtain⟨b,base,n⟩:=y;rw[hΓ]at h1;obtain⟨c,a1,a2,a3,a4⟩:=h1;refine⟨c,a1,a2,a3,fun i hi=>?_⟩;obtain⟨cv,b1,b2⟩:=a4 i hi;exact⟨cv,b1,(hc i hi).sound hK hle3 b2⟩
   by_cases hl:lw id
   ·have hg':=hg;rw[h3live id hl]at hg';obtain⟨g0,e0,c0,h4,h5⟩:=hnew id hl.1 hl.2.1 hl.2.2;rw[h4]at hg';cases hg';exact fin (.inr hl) h5 h4
   ·by_cases hnw:nw id
    ·rw[h3dead id hnw hl]at hg;cases hg;rw[g3o id hl,hΓnew id hnw]
    ·rw[h3old id hnw]at hg;by_cases hk:kp id
     ·obtain⟨h1,h2,h3,g0,e0,c0,h4,h5⟩:=hkp id hk;rw[hkH2 id hk,h4]at hg;cases hg;exact fin (.inl hk) (fun i hi=>(h5 i hi).mono fun _ h=>.inl h) (by rw[h3,h4])
     ·have h1:=R.arr id g e cells hg;rw[g3o id hl];cases hΓ:Γ id with
      | none=>rw[hΓ]at h1;exact h1
      | some y =>
       obtain⟨b,base,n⟩:=y;rw[hΓ]at h1;obtain⟨c,a1,a2,a3,a4⟩:=h1;refine⟨c,by rw[hidden id b base n hk hΓ];exact a1,a2,a3,fun i hi=>?_⟩;obtain⟨cv,b1,b2⟩:=a4 i hi;exact⟨cv,b1,b2.aW EE hn3⟩
  ·intro id st pend n env ps asg body hg;by_cases hl:lw id
   ·rw[h3live id hl]at hg;obtain⟨g0,e0,c0,h4,h5⟩:=hnew id hl.1 hl.2.1 hl.2.2;rw[h4]at hg;cases hg
   ·by_cases hnw:nw id
    ·rw[h3dead id hnw hl]at hg;cases hg
    ·rw[h3old id hnw]at hg;have hk:¬ kp id:=fun hk=>by
      obtain⟨h1,h2,h3,g0,e0,c0,h4,h5⟩:=hkp id hk;rw[hkH2 id hk,h4]at hg;cases hg
     obtain⟨b,r,a1,a2,a3,a4,a5,a6,a7,a8,a9⟩:=R.loop id st pend n env ps asg body hg;exact⟨b,r,by rw[g3o id hl];exact a1,by rw[hidden id b 0 0 hk a1];exact a2,a3,a4,a5,a6,a7,a8,fun t ht=>(a9 t ht).aW EE hn3⟩
  ·intro id es hg;by_cases hl:lw id
   ·rw[h3live id hl]at hg;obtain⟨g0,e0,c0,h4,h5⟩:=hnew id hl.1 hl.2.1 hl.2.2;rw[h4]at hg;cases hg
   ·by_cases hnw:nw id
    ·rw[h3dead id hnw hl]at hg;cases hg
    ·rw[h3old id hnw]at hg;have hk:¬ kp id:=fun hk=>by
      obtain⟨h1,h2,h3,g0,e0,c0,h4,h5⟩:=hkp id hk;rw[hkH2 id hk,h4]at hg;cases hg
     obtain⟨b,a1,a2⟩:=R.mp id es hg;exact⟨b,by rw[g3o id hl];exact a1,by rw[hidden id b 0 0 hk a1];exact a2⟩
  ·intro id hg;have hnw:¬ nw id:=fun hnw=>by
    by_cases hl:lw id
    ·rw[h3live id hl]at hg;obtain⟨g0,e0,c0,h4,h5⟩:=hnew id hl.1 hl.2.1 hl.2.2;rw[h4]at hg;cases hg
    ·rw[h3dead id hnw hl]at hg;cases hg
   rw[h3old id hnw]at hg;rw[g3o id fun h=>hnw ⟨h.1,h.2.1⟩];exact R.rsv id hg
  ·intro id id' b base n base' n' h h';by_cases hl:lw id<;>by_cases hl':lw id'
   ·rw[g3l id hl]at h;rw[g3l id' hl']at h';exact R'.inj _ _ _ _ _ _ _ h h'
   ·rw[g3l id hl]at h;rw[g3o id' hl']at h';have:=hfar id b base n hl h;have:=R.lt _ _ _ _ h';omega
   ·rw[g3o id hl]at h;rw[g3l id' hl']at h';have:=hfar id' b base' n' hl' h';have:=R.lt _ _ _ _ h;omega
   ·rw[g3o id hl]at h;rw[g3o id' hl']at h';exact R.inj _ _ _ _ _ _ _ h h'
  ·intro id x h;by_cases hl:lw id
   ·obtain⟨g0,e0,c0,h4,h5⟩:=hnew id hl.1 hl.2.1 hl.2.2;exact⟨_,by rw[h3live id hl];exact h4⟩
   ·rw[g3o id hl]at h;by_cases hnw:nw id
    ·exact⟨_,h3dead id hnw hl⟩
    ·obtain⟨y,hy⟩:=R.dom id x h;exact⟨y,by rw[h3old id hnw];exact hy⟩
  ·intro id b base n h;by_cases hl:lw id
   ·rw[g3l id hl]at h;exact R'.lt _ _ _ _ h
   ·rw[g3o id hl]at h;exact Nat.lt_of_lt_of_le (R.lt _ _ _ _ h) E.size
  ·intro id y h;by_cases hnw:nw id
   ·have:=hnw.2;exact Nat.lt_of_lt_of_le this hnle
   ·rw[h3old id hnw]at h;exact R.next id y h
  ·intro g cells h;exact(R.glob g cells h).aW EE hn3
  ·exact R.nJ EE
 refine⟨.ret v,H3,Γ3,?_,⟨rfl,rfl⟩,R3,EE,hn3⟩;cases e with
 | returned cv=>exact hv.sound hK hle3 hend
 | panicked chain=>exact hend.elim
 | outgrown=>exact hend.elim
end Go.Hx.Ev
