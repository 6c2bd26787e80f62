/-
  Regions that draw their order. Own work: no program stands in this text.
-/
import Derived.Test.YtakancljiekbhaaLibA
import Derived.OrdersIn
set_option linter.all false
namespace Go.Hx
variable {P:Program} {G:Nat->Option (List AVal)} {Γ Γ':au} {H H':AHeap} {w w':World}
def aF:AVal->List Nat
 | .own id _ _ _ _=>[id]
 | .ptr id _ _=>[id]
 | _=>[]
def cN:AVal->List Nat
 | .yld id=>[id]
 | _=>[]
structure FP where
 eff:List Nat
 rs:List Nat
def jR:AVal->Bool
 | .own ..=>true
 | _=>false
def kz (P:Program)(t:TypeId)(x:AVal):List Nat:=match P.underlying t with
 | some (.slice _)=>aF x
 | _=>[]
def ib (P:Program)(id:Nat)(b:Builtin)(ats:List TypeId)(args:List AVal):FP :=
 match b,ats,args with
 | .append,_,[s,x]=>if jR s then ⟨aF s,aF s++aF x⟩ else ⟨[id],aF x⟩
 | .copy,_,[d,x]=>⟨aF d,aF d++aF x⟩
 | .clear,_,[d]=>⟨aF d,aF d⟩
 | .len,[t],[x]=>⟨[],kz P t x⟩
 | _,_,_=>⟨[],[]⟩
def aY (P:Program)(G:Nat->Option (List AVal))(ρ:Env)(id:Nat):Op->FP
 | .load _ a=>⟨[],aF (af G ρ a)⟩
 | .nilCheck a=>⟨[],aF (af G ρ a)⟩
 | .slice _ a _ _ _=>⟨[],aF (af G ρ a)⟩
 | .fieldAddr _ a _=>⟨[],aF (af G ρ a)⟩
 | .indexAddr _ a _=>⟨[],aF (af G ρ a)⟩
 | .convert _ _ a=>⟨[],aF (af G ρ a)⟩
 | .store _ a _=>⟨aF (af G ρ a),aF (af G ρ a)⟩
 | .alloc _=>⟨[id],[]⟩
 | .box _ _=>⟨[id],[]⟩
 | .buildSlice _ _ _=>⟨[id],[]⟩
 | .makeSlice _ _ _=>⟨[id],[]⟩
 | .makeMap _ _=>⟨[id],[]⟩
 | .lookup _ x _ _=>⟨[],cN (af G ρ x)⟩
 | .mapUpdate _ m _ _|.insert _ m _ _|.mapEntry _ m _|.entryStore _ m _ _=>⟨cN (af G ρ m),cN (af G ρ m)⟩
 | .call c=>match c.callee with
  | .builtin b=>ib P id b c.argTypes.toList (c.args.toList.map (af G ρ))
  | _=>⟨[],[]⟩
 | _=>⟨[],[]⟩
def dw (e:Option (Nat × Blk))(g:Nat->Option Blk):Nat->Option Blk :=
 match e with
 | none=>g
 | some (k,b)=>fun j=>if j=k then some b else g j
def eF (H:AHeap):Prop:=∀ id b,H.get id=some b->id<H.next
theorem iQ (wf:eF H){id gen:Nat}{ec:TypeId × List AVal}(h:H.live id gen=some ec):id<H.next:=wf id _ (hZ (e:=ec.1) (cells:=ec.2) h)
theorem jo {H2:AHeap}{id:Nat}(h:H2.get id=H.get id)(gen:Nat):H2.live id gen=H.live id gen:=by unfold AHeap.live;rw[h]
def Local (P:Program)(G:Nat->Option (List AVal))(ρ:Env)(H:AHeap)(o:Op)(v:AVal)(H':AHeap)(f:FP):Prop :=
 ∃ (e:Option (Nat × Blk)) (al:Bool),H'.get=dw e H.get/\H'.next=(if al then H.next+1 else H.next) /\
  (∀ k b,e=some (k,b)->k∈f.eff/\(al=false->k∈f.rs))/\(al=true->∃ b,e=some (H.next,b))/\(∀ r,r∈f.rs->r<H.next) /\
  ∀ H2:AHeap,(∀ r,r∈f.rs->H2.get r=H.get r)->(al=true->H2.get H.next=some .rsv/\H.next≠H2.next)->ag P G ρ H2 H.next o=some (v,⟨dw e H2.get,H2.next⟩)
theorem cI {ρ:Env}{o:Op}{v:AVal}{f:FP}(hrs:∀ r,r∈f.rs->r<H.next)(h:∀ H2:AHeap,(∀ r,r∈f.rs->H2.get r=H.get r)->ag P G ρ H2 H.next o=some (v,H2)):Local P G ρ H o v H f:=by
 refine⟨none,false,rfl,rfl,?_,?_,hrs,fun H2 ha _=>h H2 ha⟩
 ·intro k b h;cases h
 ·intro h;cases h
theorem nZ {ρ:Env}{o:Op}{v:AVal}{f:FP}{b:Blk}(hl:H.lay H.next b=some H')(hta:H.next∈f.eff)(hrs:∀ r,r∈f.rs->r<H.next)
  (h:∀ H2:AHeap,(∀ r,r∈f.rs->H2.get r=H.get r)->∀ H2',H2.lay H.next b=some H2'->ag P G ρ H2 H.next o=some (v,H2')):Local P G ρ H o v H' f:=by
 obtain⟨h1,h2⟩:=iK hl;have h2':H'.next=H.next+1:=by
  unfold AHeap.lay at hl;rw[RC rfl]at hl;simp only[Option.some.injEq]at hl;rw[<- hl]
 refine⟨some (H.next,b),true,funext h1,by simp [h2'],?_,?_,hrs,fun H2 ha hr=>?_⟩
 ·intro k b' hk;simp only[Option.some.injEq,Prod.mk.injEq]at hk;exact⟨hk.1 ▸ hta,fun h=>by cases h⟩
 ·exact fun _=>⟨b,rfl⟩
 ·obtain⟨hr1,hr2⟩:=hr rfl;refine h H2 ha _ ?_;unfold AHeap.lay;rw[RB hr2,hr1];rfl
theorem lf {ρ:Env}{o:Op}{v:AVal}{f:FP}{id:Nat}{b:Blk}(hid:id∈f.eff)(hid':id∈f.rs)(hrs:∀ r,r∈f.rs->r<H.next)
  (h:∀ H2:AHeap,(∀ r,r∈f.rs->H2.get r=H.get r)->ag P G ρ H2 H.next o=some (v,H2.upd id b)):Local P G ρ H o v (H.upd id b) f:=by
 refine⟨some (id,b),false,rfl,rfl,?_,?_,hrs,fun H2 ha _=>h H2 ha⟩
 ·intro k b' hk;simp only[Option.some.injEq,Prod.mk.injEq]at hk;exact⟨hk.1 ▸ hid,fun _=>hk.1 ▸ hid'⟩
 ·intro h;cases h
theorem bV {n:Nat}:∀ r,r∈([]:List Nat)->r<n:=fun _ h=>by cases h
theorem eR {n id:Nat}(h:id<n):∀ r,r∈[id]->r<n:=fun r hr=>by
 simp only[List.mem_singleton]at hr;omega
theorem Fp {H2:AHeap}{t:TypeId}{a:AVal}(h:∀ r,r∈aF a->H2.get r=H.get r):eE P H2 t a=eE P H t a:=by
 cases a with
 | ptr id gen off=>simp only[eE];rw[h id (by simp [aF])]
 | _=>rfl
theorem Fq (wf:eF H){t:TypeId}{a v:AVal}(h:eE P H t a=some v):∀ r,r∈aF a->r<H.next:=by
 cases a with
 | ptr id gen off =>
  refine eR ?_;simp only[eE]at h;split at h
  ·rename_i hg;exact wf _ _ hg
  ·cases h
 | own=>simp [eE]at h
 | _=>exact bV
theorem Fs {t:TypeId}{a v:AVal}(h:gh P H t a v=some H'):∃ id gen off g e cells,a=.ptr id gen off/\H.get id=some (.arr g e cells)/\∃ cells',H'=H.upd id (.arr g e cells') /\
  ∀ H2:AHeap,H2.get id=H.get id->gh P H2 t a v=some (H2.upd id (.arr g e cells')):=by
 cases a with
 | ptr id gen off =>
  simp only[gh]at h;split at h
  ·rename_i g e cells hg;split at h
   ·rename_i hc;simp only[Option.some.injEq]at h;refine⟨id,gen,off,g,e,cells,rfl,hg,_,h.symm,fun H2 h2=>?_⟩;simp only[gh];rw[h2,hg];simp only;rw[RC hc]
   ·cases h
  ·cases h
 | _=>simp [gh]at h
theorem Ft (wf:eF H){t:TypeId}{x v:AVal}{i:Int}(h:kS P H t x i=some v):(∀ r,r∈aF x->r<H.next)/\∀ H2:AHeap,(∀ r,r∈aF x->H2.get r=H.get r)->kS P H2 t x i=some v:=by
 unfold kS at h ⊢;split at h
 ·split at h
  ·rename_i hc;split at h
   ·rename_i id gen off;simp only[Rx]at h;obtain⟨ec,hl,hv⟩:=h;refine⟨eR (iQ wf hl),fun H2 h2=>?_⟩;rw[RC hc];simp only[jo (h2 id (by simp [aF])),hl,Option.map_some,hv]
   ·refine⟨bV,fun H2 _=>?_⟩;rw[RC hc];exact h
   ·cases h
  ·cases h
 ·split at h
  ·rename_i hc;split at h
   ·rename_i id gen off len sz;split at h
    ·rename_i hi;simp only[Rx]at h;obtain⟨ec,hl,hv⟩:=h;refine⟨eR (iQ wf hl),fun H2 h2=>?_⟩;rw[RC hc,RC hi];simp only[jo (h2 id (by simp [aF])),hl,Option.map_some,hv]
    ·cases h
   ·refine⟨bV,fun H2 _=>?_⟩;rw[RC hc];exact h
   ·cases h
  ·cases h
 ·cases h
theorem Fu (wf:eF H){t:TypeId}{x v:AVal}{lo hi:Option AVal}(h:ko P H t x lo hi=some v):(∀ r,r∈aF x->r<H.next)/\∀ H2:AHeap,(∀ r,r∈aF x->H2.get r=H.get r)->ko P H2 t x lo hi=some v:=by
 unfold ko at h ⊢;split at h
 ·split at h
  ·rename_i hc;split at h
   ·rename_i id gen off;split at h
    ·rename_i e' cells hl;refine⟨eR (iQ wf hl),fun H2 h2=>?_⟩;rw[RC hc];simp only[jo (h2 id (by simp [aF])),hl];exact h
    ·cases h
   ·refine⟨bV,fun H2 _=>?_⟩;rw[RC hc];exact h
   ·cases h
  ·cases h
 ·split at h
  ·rename_i hc;split at h
   ·rename_i id gen off len sz;split at h
    ·rename_i hi;have h0:=h;simp only[RD]at h;obtain⟨ec,hl,_⟩:=h;refine⟨eR (iQ wf hl),fun H2 h2=>?_⟩;rw[RC hc,RC hi,jo (h2 id (by simp [aF]))];exact h0
    ·cases h
   ·refine⟨bV,fun H2 _=>?_⟩;rw[RC hc];exact h
   ·refine⟨bV,fun H2 _=>?_⟩;rw[RC hc];exact h
   ·cases h
  ·cases h
 ·split at h
  ·exact⟨bV,fun H2 _=>h⟩
  ·cases h
 ·cases h
theorem Fv (wf:eF H){t:TypeId}{x v:AVal}(h:kq P H t x=some v):(∀ r,r∈kz P t x->r<H.next)/\∀ H2:AHeap,(∀ r,r∈kz P t x->H2.get r=H.get r)->kq P H2 t x=some v:=by
 unfold kq kz at *
 cases hu:P.underlying t with
 | none=>rw[hu]at h;cases h
 | some d =>
  rw[hu]at h;cases d with
  | slice e =>
   simp only at h ⊢;split at h
   ·exact⟨bV,fun _ _=>h⟩
   ·rename_i id gen off len sz;simp only[Rx]at h;obtain⟨ec,hl,hv⟩:=h;refine⟨eR (iQ wf hl),fun H2 h2=>?_⟩;simp only[jo (h2 id (by simp [aF])),hl,Option.map_some,hv]
   ·exact⟨bV,fun _ _=>h⟩
   ·cases h
  | string=>exact⟨bV,fun _ _=>h⟩
  | array n e=>exact⟨bV,fun _ _=>h⟩
  | _=>cases h
theorem vr (wf:eF H){sz:Nat}{x:AVal}{r:Nat × List AVal}(h:cM H sz x=some r):(∀ r,r∈aF x->r<H.next)/\∀ H2:AHeap,(∀ r,r∈aF x->H2.get r=H.get r)->cM H2 sz x=some r:=by
 unfold cM at h ⊢;split at h
 ·exact⟨bV,fun _ _=>h⟩
 ·rename_i id gen off len sz';split at h
  ·rename_i hsz;simp only[Rx]at h;obtain⟨ec,hl,hv⟩:=h;refine⟨eR (iQ wf hl),fun H2 h2=>?_⟩;rw[RC hsz];simp only[jo (h2 id (by simp [aF])),hl,Option.map_some,hv]
  ·cases h
 ·exact⟨bV,fun _ _=>h⟩
 ·cases h
theorem zH {a b:List Nat}{p:Nat->Prop}(h1:∀ r,r∈a->p r)(h2:∀ r,r∈b->p r):∀ r,r∈a++b->p r:=fun r hr=>(RX.1 hr).elim (h1 r) (h2 r)
theorem Fw (wf:eF H){ρ:Env}{c:Call}{t u:TypeId}{s x v:AVal}(hb:c.callee=.builtin .append)(hats:c.argTypes.toList=[t,u])(hargs:c.args.toList.map (af G ρ)=[s,x])
  (h:bF P H H.next t u s x=some (v,H')):Local P G ρ H (.call c) v H' (aY P G ρ H.next (.call c)):=by
 have hfp:aY P G ρ H.next (.call c)=if jR s then ⟨aF s,aF s++aF x⟩ else ⟨[H.next],aF x⟩:=by
  simp only[aY,hb,hats,hargs,ib]
 have hop:∀ H2:AHeap,ag P G ρ H2 H.next (.call c)=bF P H2 H.next t u s x:=fun H2=>by
  simp only[ag,hb,hats,hargs,fj]
 rw[hfp];unfold bF at h;split at h
 ·rename_i e he;split at h
  ·rename_i e' he';simp only[RD]at h;obtain⟨z,hz,nx,hsrc,h⟩:=h;obtain⟨hxlt,hxl⟩:=vr wf hsrc;split at h
   ·simp only[jR,Bool.false_eq_true,if_false];split at h
    ·rename_i hn0;simp only[Option.some.injEq,Prod.mk.injEq]at h;obtain⟨rfl,rfl⟩:=h;refine cI hxlt fun H2 h2=>?_;rw[hop];simp only[bF,he,he',hz,hxl H2 h2,Option.bind_some,RC hn0]
    ·rename_i hn0;split at h
     ·rename_i hb;simp only[Rx,Prod.mk.injEq]at h;obtain⟨H3,hl,rfl,rfl⟩:=h;refine nZ hl (by simp) hxlt fun H2 h2 H2' hl2=>?_;rw[hop];simp only[bF,he,he',hz,hxl H2 h2,Option.bind_some,RB hn0,RC hb,hl2,Option.map_some]
     ·cases h
   ·rename_i id' gen off len sz;simp only[jR,if_true];simp only[RD]at h;obtain⟨ec,hl,h⟩:=h;have hlt:∀ r,r∈aF (.own id' gen off len sz)++aF x->r<H.next:=zH (eR (iQ wf hl)) hxlt;have hl2:∀ H2:AHeap,(∀ r,r∈aF (.own id' gen off len sz)++aF x->H2.get r=H.get r)->H2.live id' gen=some ec:=fun H2 h2=>by
     rw[jo (h2 id' (by simp [aF]))];exact hl
    have hx2:∀ H2:AHeap,(∀ r,r∈aF (.own id' gen off len sz)++aF x->H2.get r=H.get r)->cM H2 (P.cellsOf e) x=some nx:=fun H2 h2 =>
     hxl H2 fun r hr=>h2 r (Ti _ hr)
    split at h
    ·rename_i hc;split at h
     ·rename_i hn0;simp only[Option.some.injEq,Prod.mk.injEq]at h;obtain⟨rfl,rfl⟩:=h;refine cI hlt fun H2 h2=>?_;rw[hop];simp only[bF,he,he',hz,hx2 H2 h2,hl2 H2 h2,Option.bind_some];rw[RC hc,RC hn0]
     ·rename_i hn0;simp only[Option.some.injEq,Prod.mk.injEq]at h;obtain⟨rfl,rfl⟩:=h;refine lf (by simp [aF]) (by simp [aF]) hlt fun H2 h2=>?_;rw[hop];simp only[bF,he,he',hz,hx2 H2 h2,hl2 H2 h2,Option.bind_some];rw[RC hc,RB hn0]
    ·cases h
   ·cases h
  ·cases h
 ·cases h
theorem Fx (wf:eF H){ρ:Env}{c:Call}{t u:TypeId}{s x v:AVal}(hb:c.callee=.builtin .copy)(hats:c.argTypes.toList=[t,u])(hargs:c.args.toList.map (af G ρ)=[s,x])
  (h:jN P H t s x=some (v,H')):Local P G ρ H (.call c) v H' (aY P G ρ H.next (.call c)):=by
 have hfp:aY P G ρ H.next (.call c)=⟨aF s,aF s++aF x⟩:=by
  simp only[aY,hb,hats,hargs,ib]
 have hop:∀ H2:AHeap,ag P G ρ H2 H.next (.call c)=jN P H2 t s x:=fun H2=>by
  simp only[ag,hb,hats,hargs,fj]
 rw[hfp];unfold jN at h;split at h
 ·rename_i e he;split at h
  ·rename_i hs;simp only[RD]at h;obtain⟨nx,hsrc,h⟩:=h;obtain⟨hxlt,hxl⟩:=vr wf hsrc;split at h
   ·rename_i id' gen off len sz;simp only[RD]at h;obtain⟨ec,hl,h⟩:=h;have hlt:∀ r,r∈aF (.own id' gen off len sz)++aF x->r<H.next:=zH (eR (iQ wf hl)) hxlt;split at h
    ·rename_i hc;simp only[Option.some.injEq,Prod.mk.injEq]at h;obtain⟨rfl,rfl⟩:=h;refine lf (by simp [aF]) (by simp [aF]) hlt fun H2 h2=>?_;have hl2:H2.live id' gen=some ec:=by
      rw[jo (h2 id' (by simp [aF]))];exact hl
     rw[hop];simp only[jN,he,hs,if_true,hxl H2 fun r hr=>h2 r (Ti _ hr),hl2,Option.bind_some];rw[RC hc]
    ·cases h
   ·cases h
  ·cases h
 ·cases h
theorem Fy (wf:eF H){ρ:Env}{c:Call}{t:TypeId}{s v:AVal}(hb:c.callee=.builtin .clear)(hats:c.argTypes.toList=[t])(hargs:c.args.toList.map (af G ρ)=[s])
  (h:jO P H t s=some (v,H')):Local P G ρ H (.call c) v H' (aY P G ρ H.next (.call c)):=by
 have hfp:aY P G ρ H.next (.call c)=⟨aF s,aF s⟩:=by
  simp only[aY,hb,hats,hargs,ib]
 have hop:∀ H2:AHeap,ag P G ρ H2 H.next (.call c)=jO P H2 t s:=fun H2=>by
  simp only[ag,hb,hats,hargs,fj]
 rw[hfp];unfold jO at h;split at h
 ·rename_i e he;split at h
  ·simp only[Option.some.injEq,Prod.mk.injEq]at h;obtain⟨rfl,rfl⟩:=h;refine cI (fun r hr=>by cases hr) fun H2 h2=>?_;rw[hop];simp only[jO,he]
  ·rename_i id' gen off len sz;simp only[RD]at h;obtain⟨ec,hl,h⟩:=h;have hlt:∀ r,r∈aF (.own id' gen off len sz)->r<H.next:=eR (iQ wf hl);have hl2:∀ H2:AHeap,(∀ r,r∈aF (.own id' gen off len sz)->H2.get r=H.get r)->H2.live id' gen=some ec:=fun H2 h2=>by
    rw[jo (h2 id' (by simp [aF]))];exact hl
   split at h
   ·rename_i h0;simp only[Option.some.injEq,Prod.mk.injEq]at h;obtain⟨rfl,rfl⟩:=h;refine cI hlt fun H2 h2=>?_;rw[hop];simp only[jO,he,hl2 H2 h2,Option.bind_some];rw[RC h0]
   ·rename_i h0;simp only[RD]at h;obtain⟨z,hz,h⟩:=h;split at h
    ·rename_i hc;simp only[Option.some.injEq,Prod.mk.injEq]at h;obtain⟨rfl,rfl⟩:=h;refine lf (by simp [aF]) (by simp [aF]) hlt fun H2 h2=>?_;rw[hop];simp only[jO,he,hl2 H2 h2,hz,Option.bind_some];rw[RB h0,RC hc]
    ·cases h
  ·cases h
 ·cases h
theorem zI (wf:eF H){ρ:Env}{o:Op}{t:TypeId}{m k x:Operand}{v:AVal}(h:iL P H t (af G ρ m) (af G ρ k) (af G ρ x)=some (v,H'))(hfp:aY P G ρ H.next o=⟨cN (af G ρ m),cN (af G ρ m)⟩)
  (hop:∀ H2:AHeap,ag P G ρ H2 H.next o=iL P H2 t (af G ρ m) (af G ρ k) (af G ρ x)):Local P G ρ H o v H' (aY P G ρ H.next o):=by
 rw[hfp];unfold iL at h;split at h
 ·rename_i hm;split at h
  ·rename_i id k' u hx hk hu;split at h
   ·rename_i es hg;simp only[Option.some.injEq,Prod.mk.injEq]at h;obtain⟨rfl,rfl⟩:=h;refine lf (by rw[hx];simp [cN]) (by rw[hx];simp [cN]) (by rw[hx];exact eR (wf _ _ hg)) fun H2 h2=>?_;have hg2:H2.get id=some (.mp es):=(by rw[h2 id (by rw[hx];simp [cN])];exact hg);rw[hop];simp only[iL,hm,if_true,hx,hk,hu,hg2]
   ·cases h
  ·cases h
 ·cases h
theorem FA (wf:eF H){s d:TypeId}{x v:AVal}(h:ji P H s d x=some v):(∀ r,r∈aF x->r<H.next)/\∀ H2:AHeap,(∀ r,r∈aF x->H2.get r=H.get r)->ji P H2 s d x=some v:=by
 have bytes:∀ y:AVal,kU P H s d y=some v->(∀ r,r∈aF y->r<H.next)/\∀ H2:AHeap,(∀ r,r∈aF y->H2.get r=H.get r)->kU P H2 s d y=some v:=by
  intro y h;unfold kU at h;split at h
  ·rename_i hsb;simp only[RD]at h;obtain⟨nl,hs,h⟩:=h;obtain⟨h1,h2⟩:=vr wf hs;refine⟨h1,fun H2 ha=>?_⟩;unfold kU;rw[RC hsb,h2 H2 ha];exact h
  ·cases h
 unfold ji at h;split at h
 ·exact bytes _ h
 ·exact bytes _ h
 ·rename_i hne1 hne2;refine⟨fun r hr=>?_,fun H2 _=>?_⟩
  ·unfold jP at h;split at h
   ·rename_i a ha;cases x<;>simp_all [aF,AVal.bK]
   ·cases h
  ·unfold ji;split
   ·exact absurd rfl (hne1 _ _ _ _ _)
   ·exact absurd rfl (hne2 _ _)
   ·exact h
theorem vt (wf:eF H){ρ:Env}{o:Op}{v:AVal}(h:ag P G ρ H H.next o=some (v,H')):Local P G ρ H o v H' (aY P G ρ H.next o):=by
 cases o with
 | makeMap t r =>
  simp only[ag]at h;split at h
  ·simp only[Rx,Prod.mk.injEq]at h;obtain⟨H3,hl,rfl,rfl⟩:=h;refine nZ hl (by simp [aY]) bV fun H2 _ H2' hl2=>?_;simp only[ag,hl2,Option.map_some]
  ·cases h
 | lookup t x i ok =>
  simp only[ag,Rx,Prod.mk.injEq]at h;obtain⟨v',hv,rfl,rfl⟩:=h;have hfp:aY P G ρ H.next (.lookup t x i ok)=⟨[],cN (af G ρ x)⟩:=rfl;rw[hfp];unfold jg at hv;split at hv
  ·rename_i hm;split at hv
   ·rename_i hx hi;refine cI (by rw[hx];exact bV) fun H2 _=>?_;simp only[ag,jg,hm,if_true,hx,hi];simp only[Option.some.injEq]at hv;simp [hv]
   ·rename_i id k hx hi;split at hv
    ·rename_i es hg;refine cI (by rw[hx];exact eR (wf _ _ hg)) fun H2 h2=>?_;have hg2:H2.get id=some (.mp es):=(by rw[h2 id (by rw[hx];simp [cN])];exact hg);simp only[ag,jg,hm,if_true,hx,hi,hg2];simp only[Option.some.injEq]at hv;simp [hv]
    ·cases hv
   ·cases hv
  ·cases hv
 | mapUpdate t m k x=>exact zI wf (by simp only[ag]at h;exact h) (by rfl) fun H2=>rfl
 | insert t m k x=>exact zI wf (by simp only[ag]at h;exact h) (by rfl) fun H2=>rfl
 | mapEntry t m k =>
  simp only[ag]at h;have hfp:aY P G ρ H.next (.mapEntry t m k)=⟨cN (af G ρ m),cN (af G ρ m)⟩:=rfl;rw[hfp];unfold mv at h;split at h
  ·rename_i hm;split at h
   ·rename_i id k' hx hk;split at h
    ·rename_i es hg;have hg2:∀ H2:AHeap,(∀ r,r∈cN (af G ρ m)->H2.get r=H.get r)->H2.get id=some (.mp es):=fun H2 h2=>by rw[h2 id (by rw[hx];simp [cN])];exact hg
     split at h
     ·rename_i n u hf;simp only[Option.some.injEq,Prod.mk.injEq]at h;obtain⟨rfl,rfl⟩:=h;refine lf (by rw[hx];simp [cN]) (by rw[hx];simp [cN]) (by rw[hx];exact eR (wf _ _ hg)) fun H2 h2=>?_;simp only[ag,mv,hm,if_true,hx,hk,hg2 H2 h2,hf]
     ·rename_i hf;simp only[Option.some.injEq,Prod.mk.injEq]at h;obtain⟨rfl,rfl⟩:=h;refine lf (by rw[hx];simp [cN]) (by rw[hx];simp [cN]) (by rw[hx];exact eR (wf _ _ hg)) fun H2 h2=>?_;simp only[ag,mv,hm,if_true,hx,hk,hg2 H2 h2,hf]
    ·cases h
   ·cases h
  ·cases h
 | entryStore t m s x =>
  simp only[ag]at h;have hfp:aY P G ρ H.next (.entryStore t m s x)=⟨cN (af G ρ m),cN (af G ρ m)⟩:=rfl;rw[hfp];unfold nL at h;split at h
  ·rename_i id s' u hx hs hu;split at h
   ·rename_i es hg;split at h
    ·rename_i hlt;simp only[Option.some.injEq,Prod.mk.injEq]at h;obtain⟨rfl,rfl⟩:=h;refine lf (by rw[hx];simp [cN]) (by rw[hx];simp [cN]) (by rw[hx];exact eR (wf _ _ hg)) fun H2 h2=>?_;have hg2:H2.get id=some (.mp es):=(by rw[h2 id (by rw[hx];simp [cN])];exact hg);simp only[ag,nL,hx,hs,hu,hg2];rw[RC hlt]
    ·cases h
   ·cases h
  ·cases h
 | alloc e =>
  simp only[ag,RD,Rx,Prod.mk.injEq]at h;obtain⟨z,hz,H3,hl,rfl,rfl⟩:=h;refine nZ hl (by simp [aY]) bV fun H2 _ H2' hl2=>?_;simp only[ag,hz,hl2,Option.bind_some,Option.map_some]
 | box e x =>
  simp only[ag,Rx,Prod.mk.injEq]at h;obtain⟨H3,hl,rfl,rfl⟩:=h;refine nZ hl (by simp [aY]) bV fun H2 _ H2' hl2=>?_;simp only[ag,hl2,Option.map_some]
 | buildSlice t len parts =>
  simp only[ag,jh]at h;split at h
  ·rename_i e he;split at h
   ·rename_i hc;simp only[RD,Rx,Prod.mk.injEq]at h;obtain⟨z,hz,cells,hcl,H3,hl,rfl,rfl⟩:=h;refine nZ hl (by simp [aY]) bV fun H2 _ H2' hl2=>?_;simp only[ag,jh,he];rw[RC hc];simp only[hz,hcl,hl2,Option.bind_some,Option.map_some]
   ·cases h
  ·cases h
 | makeSlice t l c =>
  simp only[ag,iM]at h;split at h
  ·rename_i e k l' k' c' he hl' hc';split at h
   ·rename_i hc;simp only[RD,Rx,Prod.mk.injEq]at h;obtain⟨cells,hz,H3,hl,rfl,rfl⟩:=h;refine nZ hl (by simp [aY]) bV fun H2 _ H2' hl2=>?_;simp only[ag,iM,he,hl',hc'];rw[RC hc];simp only[hz,hl2,Option.bind_some,Option.map_some]
   ·cases h
  ·cases h
 | store t a x =>
  simp only[ag]at h;split at h
  ·rename_i hu;simp only[Rx,Prod.mk.injEq]at h;obtain⟨H3,hst,rfl,rfl⟩:=h;obtain⟨id,gen,off,g,e,cells,ha,hg,cells',rfl,hall⟩:=Fs hst;have hfp:aY P G ρ H.next (.store t a x)=⟨[id],[id]⟩:=(by simp only[aY,ha,aF]);rw[hfp];refine lf (by simp) (by simp) (eR (wf _ _ hg)) fun H2 h2=>?_;simp only[ag,hu,if_true,hall H2 (h2 id (by simp)),Option.map_some]
  ·cases h
 | load t p =>
  simp only[ag,Rx,Prod.mk.injEq]at h;obtain⟨v',hv,rfl,rfl⟩:=h;refine cI (Fq wf hv) fun H2 h2=>?_;simp only[ag,Fp h2,hv,Option.map_some]
 | nilCheck p =>
  simp only[ag,Rx,Prod.mk.injEq]at h;obtain⟨v',hv,rfl,rfl⟩:=h;have hv0:=hv;unfold jj at hv;split at hv
  ·rename_i id gen off hp;simp only[Rx]at hv;obtain⟨ec,hl,hv⟩:=hv;have hfp:aY P G ρ H.next (.nilCheck p)=⟨[],[id]⟩:=(by simp only[aY,hp,aF]);rw[hfp];refine cI (eR (iQ wf hl)) fun H2 h2=>?_;subst hv;simp only[ag,hp,jj,jo (h2 id (by simp)),hl,Option.map_some]
  ·rename_i hp;have hfp:aY P G ρ H.next (.nilCheck p)=⟨[],[]⟩:=(by simp only[aY,hp,aF]);rw[hfp];refine cI bV fun H2 _=>?_;simp only[ag,hp,jj,Option.map_some,Option.some.injEq]at hv ⊢;rw[hv]
  ·rename_i hp;have hfp:aY P G ρ H.next (.nilCheck p)=⟨[],[]⟩:=(by simp only[aY,hp,aF]);rw[hfp];refine cI bV fun H2 _=>?_;simp only[ag,hp,jj,Option.map_some,Option.some.injEq]at hv ⊢;rw[hv]
  ·cases hv
 | slice t x lo hi mx =>
  simp only[ag]at h;split at h
  ·simp only[Rx,Prod.mk.injEq]at h;obtain⟨v',hv,rfl,rfl⟩:=h;obtain⟨h1,h2⟩:=Fu wf hv;refine cI h1 fun H2 h3=>?_;simp only[ag,h2 H2 h3,Option.map_some]
  ·cases h
 | indexAddr t x i =>
  simp only[ag]at h;split at h
  ·rename_i k i' hi;simp only[Rx,Prod.mk.injEq]at h;obtain⟨v',hv,rfl,rfl⟩:=h;obtain⟨h1,h2⟩:=Ft wf hv;refine cI h1 fun H2 h3=>?_;simp only[ag,hi,h2 H2 h3,Option.map_some]
  ·cases h
 | fieldAddr s x f =>
  simp only[ag,RD]at h;obtain⟨of,hof,h⟩:=h;split at h
  ·rename_i id gen off hx;simp only[Rx,Prod.mk.injEq]at h;obtain⟨ec,hl,rfl,rfl⟩:=h;have hfp:aY P G ρ H.next (.fieldAddr s x f)=⟨[],[id]⟩:=(by simp only[aY,hx,aF]);rw[hfp];refine cI (eR (iQ wf hl)) fun H2 h2=>?_;simp only[ag,hof,Option.bind_some,hx,jo (h2 id (by simp)),hl,Option.map_some]
  ·rename_i cells off hx;simp only[Option.some.injEq,Prod.mk.injEq]at h;obtain⟨rfl,rfl⟩:=h;have hfp:aY P G ρ H.next (.fieldAddr s x f)=⟨[],[]⟩:=(by simp only[aY,hx,aF]);rw[hfp];refine cI bV fun H2 _=>?_;simp only[ag,hof,Option.bind_some,hx]
  ·cases h
 | call c =>
  have h0:=h;simp only[ag]at h;split at h
  ·rename_i b hb;unfold fj at h;split at h
   ·rename_i t x hats hargs;simp only[Rx,Prod.mk.injEq]at h;obtain⟨v',hv,rfl,rfl⟩:=h;obtain⟨h1,h2⟩:=Fv wf hv;have hfp:aY P G ρ H.next (.call c)=⟨[],kz P t x⟩:=(by simp only[aY,hb,hats,hargs,ib]);rw[hfp];refine cI h1 fun H2 h3=>?_;simp only[ag,hb,hats,hargs,fj,h2 H2 h3,Option.map_some]
   ·rename_i hats hargs;exact Fw wf hb hats hargs h
   ·rename_i hats hargs;exact Fx wf hb hats hargs h
   ·rename_i hats hargs;exact Fy wf hb hats hargs h
   ·rename_i hats;simp only[RD,Rx,Prod.mk.injEq]at h;obtain⟨vs,h1,v',h2,rfl,rfl⟩:=h;have hfp:aY P G ρ H.next (.call c)=⟨[],[]⟩:=(by simp only[aY,hb,ib]);rw[hfp];refine cI bV fun H2 _=>?_;simp only[ag,hb,fj,h1,h2,Option.bind_some,Option.map_some]
   ·rename_i hats;simp only[RD,Rx,Prod.mk.injEq]at h;obtain⟨vs,h1,v',h2,rfl,rfl⟩:=h;have hfp:aY P G ρ H.next (.call c)=⟨[],[]⟩:=(by simp only[aY,hb,ib]);rw[hfp];refine cI bV fun H2 _=>?_;simp only[ag,hb,fj,h1,h2,Option.bind_some,Option.map_some]
   ·cases h
  ·cases h
 | pick c a b =>
  simp only[ag]at h;split at h
  ·rename_i t ht;simp only[Option.some.injEq,Prod.mk.injEq]at h;obtain⟨rfl,rfl⟩:=h;refine cI bV fun H2 _=>?_;simp only[ag,ht]
  ·cases h
 | makeFunc fn f c =>
  simp only[ag]at h;split at h
  ·simp only[Option.some.injEq,Prod.mk.injEq]at h;obtain⟨rfl,rfl⟩:=h;exact cI bV fun H2 _=>by simp only[ag]
  ·cases h
 | makeInterface t x =>
  simp only[ag]at h;split at h
  ·rename_i y hy;simp only[Rx,Prod.mk.injEq]at h;obtain⟨v',hv,rfl,rfl⟩:=h;refine cI bV fun H2 _=>?_;simp only[ag,hy,hv,Option.map_some]
  ·cases h
 | field s x f =>
  simp only[ag,RD]at h;obtain⟨of,hof,h⟩:=h;split at h
  ·rename_i hx;simp only[Rx,Prod.mk.injEq]at h;obtain⟨v',hv,rfl,rfl⟩:=h;refine cI bV fun H2 _=>?_;simp only[ag,hof,Option.bind_some,hx,hv,Option.map_some]
  ·rename_i hx;simp only[Rx,Prod.mk.injEq]at h;obtain⟨v',hv,rfl,rfl⟩:=h;refine cI bV fun H2 _=>?_;simp only[ag,hof,Option.bind_some,hx,hv,Option.map_some]
  ·cases h
 | move x=>simp only[ag,Option.some.injEq,Prod.mk.injEq]at h;obtain⟨rfl,rfl⟩:=h;exact cI bV fun H2 _=>by simp only[ag]
 | assign x=>simp only[ag,Option.some.injEq,Prod.mk.injEq]at h;obtain⟨rfl,rfl⟩:=h;exact cI bV fun H2 _=>by simp only[ag]
 | build t p=>simp only[ag,Rx,Prod.mk.injEq]at h;obtain⟨v',hv,rfl,rfl⟩:=h;exact cI bV fun H2 _=>by simp only[ag,hv,Option.map_some]
 | binOp a b c d e=>simp only[ag,Rx,Prod.mk.injEq]at h;obtain⟨v',hv,rfl,rfl⟩:=h;exact cI bV fun H2 _=>by simp only[ag,hv,Option.map_some]
 | unOp a b c=>simp only[ag,Rx,Prod.mk.injEq]at h;obtain⟨v',hv,rfl,rfl⟩:=h;exact cI bV fun H2 _=>by simp only[ag,hv,Option.map_some]
 | convert a b c =>
  simp only[ag,Rx,Prod.mk.injEq]at h;obtain⟨v',hv,rfl,rfl⟩:=h;obtain⟨h1,h2⟩:=FA wf hv;refine cI h1 fun H2 ha=>?_;simp only[ag,h2 H2 ha,Option.map_some]
 | index a b c=>simp only[ag,Rx,Prod.mk.injEq]at h;obtain⟨v',hv,rfl,rfl⟩:=h;exact cI bV fun H2 _=>by simp only[ag,hv,Option.map_some]
 | extract a b=>simp only[ag,Rx,Prod.mk.injEq]at h;obtain⟨v',hv,rfl,rfl⟩:=h;exact cI bV fun H2 _=>by simp only[ag,hv,Option.map_some]
 | _=>simp [ag]at h
theorem zJ {ρ ρ':Env}{o:Op}{id:Nat}(h:∀ x,x∈o.operands->af G ρ x=af G ρ' x):ag P G ρ H id o=ag P G ρ' H id o:=by
 have hparts:∀ (ps:Array (Nat × Operand)),(∀ x,x∈(ps.toList.map (·.2)).toArray->af G ρ x=af G ρ' x)->ps.toList.map (fun p=>(p.1,af G ρ p.2))=ps.toList.map (fun p=>(p.1,af G ρ' p.2)):=by
  intro ps hp;refine Sa fun p hpm=>?_;rw[hp p.2 (by simpa using ⟨p.1,by simpa using hpm⟩)]
 have hlist:∀ (ps:Array Operand),(∀ x,x∈ps->af G ρ x=af G ρ' x)->ps.toList.map (af G ρ)=ps.toList.map (af G ρ'):=by
  intro ps hp;exact Sa fun p hpm=>hp p (by simpa using hpm)
 cases o with
 | build t ps=>simp only[ag];rw[hparts ps h]
 | buildSlice t len ps=>simp only[ag];rw[hparts ps h]
 | makeFunc fn f c =>
  simp only[ag];rw[hlist f fun x hx=>h x (by simp [Op.operands,hx]),hlist c fun x hx=>h x (by simp [Op.operands,hx])]
 | slice t x lo hi mx =>
  have hx:=h x (by simp [Op.operands]);have hlo:lo.map (af G ρ)=lo.map (af G ρ'):=by
   cases lo with
   | none=>rfl
   | some l=>simp only[Option.map_some];rw[h l (by simp [Op.operands])]
  have hhi:hi.map (af G ρ)=hi.map (af G ρ'):=by
   cases hi with
   | none=>rfl
   | some l=>simp only[Option.map_some];rw[h l (by simp [Op.operands])]
  simp only[ag,hx,hlo,hhi]
 | call c =>
  simp only[ag];rw[hlist c.args fun x hx=>h x (by
   simp only[Op.operands,Call.operands];split<;>simp [hx])]
 | pick c a b=>simp only[ag,h c (by simp [Op.operands]),h a (by simp [Op.operands]),h b (by simp [Op.operands])]
 | store t a x=>simp only[ag,h a (by simp [Op.operands]),h x (by simp [Op.operands])]
 | binOp op t x y u=>simp only[ag,h x (by simp [Op.operands]),h y (by simp [Op.operands])]
 | makeSlice t l c=>simp only[ag,h l (by simp [Op.operands]),h c (by simp [Op.operands])]
 | indexAddr t x i=>simp only[ag,h x (by simp [Op.operands]),h i (by simp [Op.operands])]
 | index t x i=>simp only[ag,h x (by simp [Op.operands]),h i (by simp [Op.operands])]
 | move x=>simp only[ag,h x (by simp [Op.operands])]
 | assign x=>simp only[ag,h x (by simp [Op.operands])]
 | box e x=>simp only[ag,h x (by simp [Op.operands])]
 | load e x=>simp only[ag,h x (by simp [Op.operands])]
 | nilCheck x=>simp only[ag,h x (by simp [Op.operands])]
 | unOp a b x=>simp only[ag,h x (by simp [Op.operands])]
 | convert a b x=>simp only[ag,h x (by simp [Op.operands])]
 | makeInterface t x=>simp only[ag,h x (by simp [Op.operands])]
 | fieldAddr s x f=>simp only[ag,h x (by simp [Op.operands])]
 | field s x f=>simp only[ag,h x (by simp [Op.operands])]
 | extract x i=>simp only[ag,h x (by simp [Op.operands])]
 | lookup t x i ok=>simp only[ag,h x (by simp [Op.operands]),h i (by simp [Op.operands])]
 | mapUpdate t m k x=>simp only[ag,h m (by simp [Op.operands]),h k (by simp [Op.operands]),h x (by simp [Op.operands])]
 | insert t m k x=>simp only[ag,h m (by simp [Op.operands]),h k (by simp [Op.operands]),h x (by simp [Op.operands])]
 | mapEntry t m k=>simp only[ag,h m (by simp [Op.operands]),h k (by simp [Op.operands])]
 | entryStore t m s x=>simp only[ag,h m (by simp [Op.operands]),h s (by simp [Op.operands]),h x (by simp [Op.operands])]
 | _=>rfl
end Go.Hx
namespace Go.Hx
variable {P:Program} {G:Nat->Option (List AVal)} {Γ Γ':au} {H H':AHeap} {w w':World}
def ed (P:Program)(G:Nat->Option (List AVal))(fv:AVal)(args:List AVal)(H:AHeap)(v:AVal)(rs:List Nat):Prop :=
 (∀ r,r∈rs->r<H.next)/\∀ H2:AHeap,(∀ r,r∈rs->H2.get r=H.get r)->H.next<=H2.next->az P G fv args H2 fun r H3=>r=.ret v/\H3=H2
def bM (P:Program)(G:Nat->Option (List AVal))(o:Oper)(K:FP->St->Prop)(s:St):Prop :=
 match o.op with
 | .call { callee:=.value fv,args,.. }=>∃ v rs,ed P G (af G s.ρ fv) (args.toList.map (af G s.ρ)) s.H v rs/\K ⟨[],rs⟩ ⟨aE s.ρ o.dst v,s.H⟩
 | op=>aR (ag P G s.ρ s.H s.H.next op) fun vH=>K (aY P G s.ρ s.H.next op) ⟨aE s.ρ o.dst vH.1,vH.2⟩
def dx (i:Nat)(f:FP)(acc:List (Nat × FP)):List (Nat × FP) :=
 match f with
 | ⟨[],[]⟩=>acc
 | f=>(i,f) :: acc
def fG (b:Nat)(f:FP)(acc:List (Nat × FP)):Prop :=
 ∀ p,p∈acc->b.testBit p.1=false->(∀ r,r∈f.eff->r ∉ p.2.rs)/\(∀ r,r∈p.2.eff->r ∉ f.rs)
def dk (P:Program)(G:Nat->Option (List AVal))(all:Array Oper)(tail:St->Prop):List Nat->Nat->List (Nat × FP)->List Oper->St->Prop
 | b :: bs,i,acc,o :: rest,s=>aR (dZ all s.ρ o) fun t=>if t=true then bM P G o (fun f s'=>fG b f acc/\dk P G all tail bs (i+1) (dx i f acc) rest s') s
   else dk P G all tail bs (i+1) acc rest ⟨aE s.ρ o.dst (.lit undef),s.H⟩
 | _,_,_,[],s=>tail s
 | [],_,_,_ :: _,_=>False
def rX (o:Oper):List Nat:=(o.after.toList.filter fun e=>Region.binds .any e).map (·.on)
def rY (x:Option Tmp)(l:List Tmp):Bool:=match x with|some d=>!l.contains d|none=>true
def rZ (all:Array Oper)(x y:Oper):Bool :=
 rY x.dst (y.looksAt all) && rY y.dst (x.looksAt all) && (match x.dst with|some d=>y.dst != some d|none=>true)
def cT (bs:List Nat)(i:Nat):Nat:=(bs[i]?).getD 0
def vu (bs:List Nat)(i:Nat)(o:Oper):Bool :=
 let es:=rX o
 let b:=cT bs i
 es.all (fun e=>decide (e<i)) && decide (b<2 ^ i) &&
 (List.range i).all (fun j=>!b.testBit j || es.any fun e=>e == j || (cT bs e).testBit j)
def qc (all:Array Oper)(bs:List Nat)(K:Nat):Bool :=
 decide (bs.length=K) && decide (K<=all.size) &&
 (List.range all.size).all (fun i=>match all[i]? with|some o=>vu (bs++(List.range' K (all.size - K)).map fun m=>2 ^ m - 1) i o|none=>false) &&
 (List.range K).all fun i=>match all[i]? with
  | some o=>(List.range i).all fun j=>(cT bs i).testBit j || (match all[j]? with|some o'=>rZ all o' o|none=>false)
  | none=>false
structure Dt where
 v:AVal
 e:Option (Nat × Blk)
 al:Bool
 f:FP
def eT (all:Array Oper)(i:Nat):Option Tmp:=(all[i]?).bind (·.dst)
def aS (all:Array Oper)(d:Nat->Dt)(ρ0:Env):Nat->(Nat->Bool)->Env
 | 0,_=>ρ0
 | n+1,D=>if D n then aE (aS all d ρ0 n D) (eT all n) (d n).v else aS all d ρ0 n D
def aJ (d:Nat->Dt)(g0:Nat->Option Blk):Nat->(Nat->Bool)->Nat->Option Blk
 | 0,_=>g0
 | n+1,D=>if D n then dw (d n).e (aJ d g0 n D) else aJ d g0 n D
def aC (d:Nat->Dt):Nat->Nat
 | 0=>0
 | n+1=>aC d n+(if (d n).al then 1 else 0)
def cR (x:Dt):Option Nat:=x.e.map (·.1)
theorem n9 {e:Option (Nat × Blk)}{g:Nat->Option Blk}{r:Nat}(h:e.map (·.1)≠some r):dw e g r=g r:=by
 cases e with
 | none=>rfl
 | some kb =>
  simp only[dw];rw[RB];rintro rfl;exact h rfl
theorem od {ρ:Env}{x:Option Tmp}{v:AVal}{t:Tmp}(h:x≠some t):aE ρ x v t=ρ t:=by
 cases x with
 | none=>rfl
 | some d =>
  simp only[aE];rw[RB];rintro rfl;exact h rfl
theorem r6 {ρ ρ':Env}{x:Option Tmp}{v:AVal}{t:Tmp}(h:ρ t=ρ' t):aE ρ x v t=aE ρ' x v t:=by
 cases x with
 | none=>exact h
 | some d=>simp only[aE,h]
theorem r7 {e:Option (Nat × Blk)}{g g':Nat->Option Blk}{r:Nat}(h:g r=g' r):dw e g r=dw e g' r:=by
 cases e with
 | none=>exact h
 | some kb=>simp only[dw,h]
theorem zK {ρ:Env}{x y:Option Tmp}{v u:AVal}(h:∀ d,x=some d->y≠some d):aE (aE ρ x v) y u=aE (aE ρ y u) x v:=by
 funext t
 by_cases hx:x=some t
 ·rw[od (h t hx)];exact r6 (od (h t hx)).symm
 ·rw[od (ρ:=aE ρ y u) hx];exact r6 (od hx)
theorem FC {e e':Option (Nat × Blk)}{g:Nat->Option Blk}(h:∀ r,e.map (·.1)=some r->e'.map (·.1)≠some r):dw e' (dw e g)=dw e (dw e' g):=by
 funext r
 by_cases hx:e.map (·.1)=some r
 ·rw[n9 (h r hx)];exact r7 (n9 (h r hx)).symm
 ·rw[n9 (g:=dw e' g) hx];exact r7 (n9 hx)
section
variable {all:Array Oper} {d d':Nat->Dt} {ρ0:Env} {g0 g0':Nat->Option Blk} {D D':Nat->Bool}
theorem mz {t:Tmp}:∀ {n:Nat},(∀ j,j<n->eT all j=some t->D j=D' j)->aS all d ρ0 n D t=aS all d ρ0 n D' t:=by
 intro n
 induction n with
 | zero=>intro _;rfl
 | succ n ih =>
  intro h;have h0:=ih fun j hj=>h j (by omega);simp only[aS];by_cases hd:eT all n=some t
  ·rw[h n (by omega) hd];split
   ·exact r6 h0
   ·exact h0
  ·have:∀ (b:Bool) (ρ:Env),(if b=true then aE ρ (eT all n) (d n).v else ρ) t=ρ t:=by
    intro b ρ;split
    ·exact od hd
    ·rfl
   rw[this,this];exact h0
theorem uS {m:Nat}:∀ {n:Nat},m<=n->aS all d ρ0 n (fun j=>decide (j<m))=aS all d ρ0 m fun _=>true:=by
 have low:∀ k,k<=m->aS all d ρ0 k (fun j=>decide (j<m))=aS all d ρ0 k fun _=>true:=by
  intro k
  induction k with
  | zero=>intro _;rfl
  | succ k ih =>
   intro hk;simp only[aS];rw[ih (by omega),RC (by simp;omega)];simp
 intro n
 induction n with
 | zero =>
  intro hm;obtain rfl:m=0:=by omega
  exact low 0 (by omega)
 | succ n ih =>
  intro hm;by_cases h:m=n+1
  ·subst h;exact low (n+1) (by omega)
  ·simp only[aS];rw[RB (by simp;omega)];exact ih (by omega)
theorem mA {r:Nat}:∀ {n:Nat},(∀ j,j<n->cR (d j)=some r->D j=D' j)->aJ d g0 n D r=aJ d g0 n D' r:=by
 intro n
 induction n with
 | zero=>intro _;rfl
 | succ n ih =>
  intro h;have h0:=ih fun j hj=>h j (by omega);simp only[aJ];by_cases hd:cR (d n)=some r
  ·rw[h n (by omega) hd];split
   ·exact r7 h0
   ·exact h0
  ·have:∀ (b:Bool) (g:Nat->Option Blk),(if b=true then dw (d n).e g else g) r=g r:=by
    intro b g;split
    ·exact n9 hd
    ·rfl
   rw[this,this];exact h0
theorem uT {m:Nat}:∀ {n:Nat},m<=n->aJ d g0 n (fun j=>decide (j<m))=aJ d g0 m fun _=>true:=by
 have low:∀ k,k<=m->aJ d g0 k (fun j=>decide (j<m))=aJ d g0 k fun _=>true:=by
  intro k
  induction k with
  | zero=>intro _;rfl
  | succ k ih =>
   intro hk;simp only[aJ];rw[ih (by omega),RC (by simp;omega)];simp
 intro n
 induction n with
 | zero =>
  intro hm;obtain rfl:m=0:=by omega
  exact low 0 (by omega)
 | succ n ih =>
  intro hm;by_cases h:m=n+1
  ·subst h;exact low (n+1) (by omega)
  ·simp only[aJ];rw[RB (by simp;omega)];exact ih (by omega)
theorem pL {r:Nat}:∀ {n:Nat},(g0 r=g0' r\/∃ j,j<n/\D j=true/\cR (d j)=some r)->aJ d g0 n D r=aJ d g0' n D r:=by
 intro n
 induction n with
 | zero =>
  rintro(h|⟨j,hj,_⟩)
  ·exact h
  ·omega
 | succ n ih =>
  intro h;simp only[aJ];by_cases hD:D n=true
  ·rw[RC hD,RC hD];by_cases ht:cR (d n)=some r
   ·cases he:(d n).e with
    | none=>simp [cR,he]at ht
    | some kb =>
     simp only[cR,he,Option.map_some,Option.some.injEq]at ht;simp only[dw];rw[RC ht.symm,RC ht.symm]
   ·refine r7 (ih ?_);rcases h with h|⟨j,hj,h1,h2⟩
    ·exact .inl h
    ·by_cases hjn:j=n
     ·subst hjn;exact absurd h2 ht
     ·exact .inr ⟨j,by omega,h1,h2⟩
  ·rw[RB hD,RB hD];refine ih ?_;rcases h with h|⟨j,hj,h1,h2⟩
   ·exact .inl h
   ·by_cases hjn:j=n
    ·subst hjn;exact absurd h1 hD
    ·exact .inr ⟨j,by omega,h1,h2⟩
theorem uU {r:Nat}:∀ {n:Nat},(∀ j,j<n->D j=true->cR (d j)≠some r)->aJ d g0 n D r=g0 r:=by
 intro n
 induction n with
 | zero=>intro _;rfl
 | succ n ih =>
  intro h;simp only[aJ];split
  ·rename_i hD;rw[n9 (h n (by omega) hD)];exact ih fun j hj=>h j (by omega)
  ·exact ih fun j hj=>h j (by omega)
def bq (D:Nat->Bool)(i:Nat):Nat->Bool:=fun j=>if j=i then true else D j
theorem uV {i:Nat}(hD:D i=false):∀ {n:Nat},i<n->(∀ j,i<j->j<n->D j=true->∀ t,eT all i=some t->eT all j≠some t) ->
  aS all d ρ0 n (bq D i)=aE (aS all d ρ0 n D) (eT all i) (d i).v:=by
 intro n
 induction n with
 | zero=>intro h;omega
 | succ n ih =>
  intro hi h;by_cases hin:i=n
  ·subst hin;have h0:aS all d ρ0 i (bq D i)=aS all d ρ0 i D:=funext fun t=>mz fun j hj _=>by simp [bq,Uh hj]
   simp only[aS];rw[RC (by simp [bq]),RB (by simp [hD]),h0]
  ·have hw:bq D i n=D n:=(by simp [bq,Ne.symm hin]);have h0:=ih (by omega) fun j h1 h2=>h j h1 (by omega);simp only[aS,hw];split
   ·rename_i hDn;rw[h0];exact zK (h n (by omega) (by omega) hDn)
   ·exact h0
theorem uW {i:Nat}(hD:D i=false):∀ {n:Nat},i<n->(∀ j,i<j->j<n->D j=true->∀ t,cR (d i)=some t->cR (d j)≠some t) ->
  aJ d g0 n (bq D i)=dw (d i).e (aJ d g0 n D):=by
 intro n
 induction n with
 | zero=>intro h;omega
 | succ n ih =>
  intro hi h;by_cases hin:i=n
  ·subst hin;have h0:aJ d g0 i (bq D i)=aJ d g0 i D:=funext fun t=>mA fun j hj _=>by simp [bq,Uh hj]
   simp only[aJ];rw[RC (by simp [bq]),RB (by simp [hD]),h0]
  ·have hw:bq D i n=D n:=(by simp [bq,Ne.symm hin]);have h0:=ih (by omega) fun j h1 h2=>h j h1 (by omega);simp only[aJ,hw];split
   ·rename_i hDn;rw[h0];exact FC (h n (by omega) (by omega) hDn)
   ·exact h0
theorem nS {m n:Nat}(h:m<=n):aC d m<=aC d n:=by
 induction n with
 | zero =>
  have:m=0:=by omega
  subst this;exact Nat.le_refl _
 | succ n ih =>
  by_cases hm:m=n+1
  ·subst hm;exact Nat.le_refl _
  ·exact So (ih (by omega)) (by simp [aC])
theorem pM {n c:Nat}(h:c<aC d n):∃ j,j<n/\(d j).al=true/\aC d j=c:=by
 induction n with
 | zero=>simp [aC]at h
 | succ n ih =>
  by_cases hc:c<aC d n
  ·obtain⟨j,h1,h2⟩:=ih hc;exact⟨j,by omega,h2⟩
  ·simp only[aC]at h;cases hal:(d n).al with
   | false=>simp [hal]at h;omega
   | true =>
    simp only[hal,if_true]at h;exact⟨n,by omega,hal,by omega⟩
theorem jQ {i n:Nat}(h:i<n)(hal:(d i).al=true):aC d i<aC d n:=by
 have:=nS (d:=d) (m:=i+1) (n:=n) h;simp only[aC,hal,if_true]at this;omega
theorem pN {n:Nat}(h:∀ j,j<n->d j=d' j):aS all d ρ0 n D=aS all d' ρ0 n D:=by
 induction n with
 | zero=>rfl
 | succ n ih=>simp only[aS];rw[ih fun j hj=>h j (by omega),h n (by omega)]
theorem pO {n:Nat}(h:∀ j,j<n->d j=d' j):aJ d g0 n D=aJ d' g0 n D:=by
 induction n with
 | zero=>rfl
 | succ n ih=>simp only[aJ];rw[ih fun j hj=>h j (by omega),h n (by omega)]
theorem dY {n:Nat}(h:∀ j,j<n->d j=d' j):aC d n=aC d' n:=by
 induction n with
 | zero=>rfl
 | succ n ih=>simp only[aC];rw[ih fun j hj=>h j (by omega),h n (by omega)]
end
def ExecOk (P:Program)(G:Nat->Option (List AVal))(all:Array Oper)(o:Oper)(id:Nat)(s s':St):Prop :=
 (dZ all s.ρ o=some false/\s'=⟨aE s.ρ o.dst (.lit undef),s.H⟩) \/
 (dZ all s.ρ o=some true/\∃ v,s'.ρ=aE s.ρ o.dst v /\
  (ag P G s.ρ s.H id o.op=some (v,s'.H) \/
   ∃ fv args ats,o.op=.call ⟨.value fv,args,ats⟩/\s'.H=s.H/\az P G (af G s.ρ fv) (args.toList.map (af G s.ρ)) s.H fun r H3=>r=.ret v/\H3=s.H))
theorem uX {n:Nat}{wb:Base}{rd rb:Option Nat}{all:Array Oper}{o:Oper}{id i:Nat}{s s':St}{a:Act}{next:Act->World->Prop}{Q':Exit->Act->World->Prop}(ho:all[i]?=some o)(hd:eN n o=true)
  (hs:RelS P G n wb Γ s a w) (hr:db Γ s.H rd rb) (h:ExecOk P G all o id s s')
  (hnext:∀ Γ' a' w',RelS P G n wb Γ' s' a' w'->Evo Γ s.H w Γ' s'.H w'->s.H.next<=s'.H.next->db Γ' s'.H rd rb->(∃ cv,a'=a.put o.dst cv)->next a' w'):
  wpOpIn (dq rb) 0 P all Q' i next a w:=by
 have hdst:∀ d,o.dst=some d->d<n:=by
  intro d hd';unfold eN at hd;rw[hd']at hd;simpa using hd
 unfold wpOpIn;rw[ho];simp only;rcases h with ⟨hw,rfl⟩|⟨hw,v,hρ,h⟩
 ·rw[nV hs hw];simp only[Bool.false_eq_true,if_false];refine⟨fun _ _=>trivial,?_⟩;have hs':=jm (v:=.lit undef) (cv:=undef) hs hdst (Evo.refl Γ s.H w) (Nat.le_refl _) hs.heap (.lit _);exact hnext Γ _ w hs' (Evo.refl _ _ _) (Nat.le_refl _) hr ⟨_,rfl⟩
 ·rw[nV hs hw];simp only[if_true];obtain⟨ρ',H'⟩:=s';simp only at hρ;subst hρ;refine⟨fun _ _=>trivial,?_⟩;rcases h with hop|⟨fv,args,ats,hop,hH,hap⟩
  ·simp only at hop;rw[Oper.semAt_eq _ _ _ (fun c hc=>by rw[hc]at hop;simp [ag]at hop)];obtain⟨nx,cv,Γ',w',hrun,hnx,E,hn,R,hv⟩:=vk hs.heap (gu hs) hop;rw[hrun];have hri:=vp hr (vq hs.heap hop);have hs':=jm hs hdst E hn R hv;have hr':=hr.aU E hn hs.heap hri;rcases hnx with rfl|⟨rfl,rfl⟩
   ·exact hnext Γ' _ w' hs' E hn hr' ⟨_,rfl⟩
   ·exact hnext Γ' _ w' hs' E hn hr' ⟨_,rfl⟩
  ·simp only at hH;subst hH;rw[Oper.semAt_eq _ _ _ (fun c hc=>by rw[hc]at hop;cases hop)];obtain⟨d,h1,h2⟩:=hap Γ w (a.eval fv) (args.map a.eval) hs.heap (gu hs fv) ⟨by simp,fun i h1 h2=>by simp only[RQ,TM,SF];exact gu hs _⟩;have hex:(execOp a.eval o).run P w=(invoke d.target d.args).run P w:=by
    unfold execOp;simp only[hop];unfold resolve;simp only;rw[ak h1]
   have hri:dp s.H rd:=by
    cases rd with
    | none=>trivial
    | some id =>
     obtain⟨b,st,pend,n,env,ps,asg,body,_,_,h3⟩:=hr;exact⟨_,_,_,_,_,_,_,h3⟩
   have cont:∀ e w',gE P G Γ s.H w (fun r H3=>r=.ret v/\H3=s.H) e w'->(match e with
     | .returned v=>next (a.put o.dst v) w'
     | .panicked chain=>Q' (.panic chain) a w'
     | .outgrown=>LetsOut Q'):=by
    rintro e w' ⟨r,H',Γ',hend,⟨rfl,rfl⟩,R,E,hn⟩;have hr':=hr.aU E hn hs.heap hri;cases e with
    | returned cv=>exact hnext Γ' _ w' (jm hs hdst E hn R hend) E hn hr' ⟨_,rfl⟩
    | panicked chain=>exact hend.elim
    | outgrown=>exact hend.elim
   rw[hex];rcases h2 with ⟨f,as,h3,h4⟩|⟨l,f,tm,asg,body,h3,h4⟩|⟨cv,w',h3,h4⟩
   ·rw[h3];refine⟨fun hc=>by simp [Fence.wide]at hc,?_⟩;have h4':CallsIn (dq rb) 0 P f as w _:=h4;refine h4'.mono ?_;intro e w' hp;have:=cont e w' hp;cases e<;>exact this
   ·rw[h3];refine⟨fun hc=>by simp [Fence.wide]at hc,?_⟩;have h4':RoundIn (dq rb) 0 P l f tm asg body w _:=h4;refine h4'.mono ?_;intro e w' hp;have:=cont e w' hp;cases e<;>exact this
   ·rw[h3];exact cont (.returned cv) w' h4
def ks (d:Nat->Dt)(H0:AHeap)(m:Nat):AHeap:=⟨aJ d H0.get m fun _=>true,H0.next+aC d m⟩
def canon (all:Array Oper)(d:Nat->Dt)(s0:St)(m:Nat):St:=⟨aS all d s0.ρ m fun _=>true,ks d s0.H m⟩
structure GoodAt (P:Program)(G:Nat->Option (List AVal))(all:Array Oper)(bs:List Nat)(s0:St)(d:Nat->Dt)(i:Nat):Prop where
 step:∀ o,all[i]?=some o->∀ ρ2 H2,(∀ t,t∈o.looksAt all->ρ2 t=(canon all d s0 i).ρ t)->(∀ r,r∈(d i).f.rs->H2.get r=(canon all d s0 i).H.get r) ->
  ((d i).al=true->H2.get (s0.H.next+aC d i)=some .rsv/\s0.H.next+aC d i≠H2.next)->s0.H.next+aC d i<=H2.next ->
  ExecOk P G all o (s0.H.next+aC d i) ⟨ρ2,H2⟩ ⟨aE ρ2 o.dst (d i).v,⟨dw (d i).e H2.get,H2.next⟩⟩
 eff:∀ k b,(d i).e=some (k,b)->k∈(d i).f.eff/\((d i).al=false->k∈(d i).f.rs)
 al:(d i).al=true->∃ b,(d i).e=some (s0.H.next+aC d i,b)
 lt:∀ r,r∈(d i).f.rs->r<s0.H.next+aC d i
 apart:∀ j,j<i->(cT bs i).testBit j=false->(∀ r,r∈(d i).f.eff->r ∉ (d j).f.rs)/\(∀ r,r∈(d j).f.eff->r ∉ (d i).f.rs)
theorem oe {all:Array Oper}{o:Oper}{ρ ρ':Env}(h:∀ t,t∈o.looksAt all->ρ' t=ρ t):dZ all ρ' o=dZ all ρ o:=by
 unfold dZ;cases hg:o.guard with
 | none=>rfl
 | some gw =>
  obtain⟨j,want⟩:=gw;simp only;cases hd:(all[j]?).bind (·.dst) with
  | none=>rfl
  | some d =>
   simp only;rw[h d (by simp [Oper.looksAt,hg,hd])]
theorem r8 {all:Array Oper}{o:Oper}{ρ ρ':Env}(h:∀ t,t∈o.looksAt all->ρ' t=ρ t):∀ x,x∈o.op.operands->af G ρ' x=af G ρ x:=by
 intro x hx;cases x with
 | tmp t=>exact h t (Tn _ (List.mem_filterMap.2 ⟨.tmp t,by simpa using hx,rfl⟩))
 | _=>rfl
def bC (d:Nat->Dt)(m:Nat)(x:Dt):Nat->Dt:=fun j=>if j=m then x else d j
theorem fk {d:Nat->Dt}{m:Nat}{x:Dt}{i:Nat}(h:i<m):d i=bC d m x i:=by simp [bC,Uh h]
theorem bY {d:Nat->Dt}{m:Nat}{x:Dt}:bC d m x m=x:=by simp [bC]
theorem ku {all:Array Oper}{d d':Nat->Dt}{s0:St}{m:Nat}(h:∀ j,j<m->d j=d' j):canon all d s0 m=canon all d' s0 m:=by
 unfold canon ks;rw[pN h,pO h,dY h]
theorem GoodAt.below {all:Array Oper}{bs:List Nat}{s0:St}{d d':Nat->Dt}{i:Nat}(g:GoodAt P G all bs s0 d i)(h:∀ j,j<=i->d j=d' j):GoodAt P G all bs s0 d' i:=by
 have hi:=h i (Nat.le_refl _);have hn:aC d i=aC d' i:=dY fun j hj=>h j (by omega);have hc:canon all d s0 i=canon all d' s0 i:=ku fun j hj=>h j (by omega);obtain⟨a,b,c,e,f⟩:=g;refine⟨?_,?_,?_,?_,?_⟩
 ·rw[<- hi,<- hn,<- hc];exact a
 ·rw[<- hi];exact b
 ·rw[<- hi,<- hn];exact c
 ·rw[<- hi,<- hn];exact e
 ·intro j hj hb;rw[<- hi,<- h j (by omega)];exact f j hj hb
def jk (d:Nat->Dt)(m:Nat)(acc:List (Nat × FP)):Prop:=∀ j,j<m->(d j).f=⟨[],[]⟩\/(j,(d j).f)∈acc
theorem jk.add {d:Nat->Dt}{m:Nat}{acc:List (Nat × FP)}(h:jk d m acc)(x:Dt):jk (bC d m x) (m+1) (dx m x.f acc):=by
 intro j hj;have key:∀ p,p∈acc->p∈dx m x.f acc:=by
  intro p hp;unfold dx;split
  ·exact hp
  ·exact SE _ hp
 by_cases hjm:j=m
 ·subst hjm;rw[bY];by_cases hf:x.f=⟨[],[]⟩
  ·exact .inl hf
  ·refine .inr ?_;unfold dx;split
   ·rename_i h0;exact absurd h0 hf
   ·exact S9
 ·rw[<- fk (x:=x) (by omega)];exact(h j (by omega)).imp id (key _)
theorem pP {d:Nat->Dt}{m:Nat}{acc:List (Nat × FP)}{b:Nat}{f:FP}(hc:jk d m acc)(h:fG b f acc):∀ j,j<m->b.testBit j=false->(∀ r,r∈f.eff->r ∉ (d j).f.rs)/\(∀ r,r∈(d j).f.eff->r ∉ f.rs):=by
 intro j hj hb;rcases hc j hj with h0|h1
 ·rw[h0];exact⟨fun r _ h=>(by cases h),fun r h=>(by cases h)⟩
 ·exact h _ h1 hb
theorem mB {all:Array Oper}{d:Nat->Dt}{s0:St}{m:Nat}{x:Dt}{o:Oper}(ho:all[m]?=some o):
  canon all (bC d m x) s0 (m+1)=⟨aE (canon all d s0 m).ρ o.dst x.v,⟨dw x.e (canon all d s0 m).H.get,(canon all d s0 m).H.next+(if x.al then 1 else 0)⟩⟩:=by
 have hb:∀ j,j<m->d j=bC d m x j:=fun j hj=>fk hj;unfold canon ks;simp only[aS,aJ,aC,if_true,bY];rw[<- pN hb,<- pO hb,<- dY hb];simp only[eT,ho,Option.bind_some,Th]
theorem mC {all:Array Oper}{bs:List Nat}{s0:St}{d:Nat->Dt}{m:Nat}{x:Dt}(hg:∀ i,i<m->GoodAt P G all bs s0 d i)(hx:GoodAt P G all bs s0 (bC d m x) m):
  ∀ i,i<m+1->GoodAt P G all bs s0 (bC d m x) i:=by
 intro i hi;by_cases him:i=m
 ·subst him;exact hx
 ·exact(hg i (by omega)).below fun j hj=>fk (by omega)
theorem trace {all:Array Oper}{bs:List Nat}{s0:St}{tail:St->Prop}{K:Nat}(hbs:bs.length=K)(hK:K<=all.size):∀ (k m:Nat) (d:Nat->Dt) (acc:List (Nat × FP)),k+m=K ->
  (∀ i,i<m->GoodAt P G all bs s0 d i)->jk d m acc->eF (canon all d s0 m).H->dk P G all tail (bs.drop m) m acc ((all.toList.take K).drop m) (canon all d s0 m) ->
  ∃ d',(∀ i,i<K->GoodAt P G all bs s0 d' i)/\tail (canon all d' s0 K):=by
 intro k
 induction k with
 | zero =>
  intro m d acc hm hg hc wf h;obtain rfl:m=K:=by omega
  refine⟨d,hg,?_⟩;have:(all.toList.take m).drop m=[]:=by
   apply Uw;simp only[RH];omega
  rw[this]at h;cases hb:bs.drop m with
  | nil=>rw[hb]at h;simpa only[dk] using h
  | cons b bs'=>rw[hb]at h;simpa only[dk] using h
 | succ k ih =>
  intro m d acc hm hg hc wf h;have hmK:m<K:=by omega
  have hms:m<all.size:=by omega
  have ho:all[m]?=some all[m]:=RG hms;have hbm:bs.drop m=cT bs m :: bs.drop (m+1):=by
   rw[SC (by omega)];congr 1;simp [cT,Rz (show m<bs.length by omega)]
  have hom:(all.toList.take K).drop m=all[m] :: (all.toList.take K).drop (m+1):=by
   rw[SC (by simp only[RH,Tv];omega)];congr 1;simp
  rw[hbm,hom]at h;simp only[dk]at h;obtain⟨t,ht,h⟩:=h;have hnext:(canon all d s0 m).H.next=s0.H.next+aC d m:=rfl;cases t with
  | false =>
   simp only[Bool.false_eq_true,if_false]at h
   let x:Dt:=⟨.lit undef,none,false,⟨[],[]⟩⟩
   have hb:∀ j,j<m->d j=bC d m x j:=fun j hj=>fk hj;have hcan:canon all (bC d m x) s0 (m+1)=⟨aE (canon all d s0 m).ρ all[m].dst (.lit undef),(canon all d s0 m).H⟩:=mB ho;have hgx:GoodAt P G all bs s0 (bC d m x) m:=by
    refine⟨?_,?_,?_,?_,?_⟩
    ·rw[bY,<- ku hb];intro o ho' ρ2 H2 h1 h2 h3 _;rw[ho]at ho';cases ho';refine .inl ⟨?_,rfl⟩;simp only;rw[oe h1,ht]
    ·rw[bY];intro k b he;cases he
    ·rw[bY];intro he;cases he
    ·rw[bY];intro r hr;cases hr
    ·rw[bY];intro j hj hbit;exact⟨fun r hr=>(by cases hr),fun r hr hr'=>(by cases hr')⟩
   refine ih (m+1) (bC d m x) acc (by omega) (mC hg hgx) (hc.add x) ?_ ?_
   ·rw[hcan];exact wf
   ·rw[hcan];exact h
  | true =>
   simp only[if_true]at h;unfold bM at h;split at h
   ·rename_i fv args ats hop;obtain⟨v,rs,⟨hlt,hcall⟩,hap,h⟩:=h
    let x:Dt:=⟨v,none,false,⟨[],rs⟩⟩
    have hb:∀ j,j<m->d j=bC d m x j:=fun j hj=>fk hj;have hcan:canon all (bC d m x) s0 (m+1)=⟨aE (canon all d s0 m).ρ all[m].dst v,(canon all d s0 m).H⟩:=mB ho;have hgx:GoodAt P G all bs s0 (bC d m x) m:=by
     refine⟨?_,?_,?_,?_,?_⟩
     ·rw[bY,<- ku hb];intro o ho' ρ2 H2 h1 h2 h3 h4;rw[ho]at ho';cases ho';refine .inr ⟨?_,v,rfl,.inr ⟨fv,args,ats,hop,rfl,?_⟩⟩
      ·simp only;rw[oe h1,ht]
      ·have hev:=r8 (G:=G) h1;have e1:af G ρ2 fv=af G (canon all d s0 m).ρ fv:=hev fv (by simp [hop,Op.operands,Call.operands]);have e2:args.toList.map (af G ρ2)=args.toList.map (af G (canon all d s0 m).ρ) :=
        Sa fun y hy=>hev y (by simp only[hop,Op.operands,Call.operands];simp;exact .inr (by simpa using hy))
       simp only;rw[e1,e2];exact hcall H2 h2 (by rw[hnext,dY hb];exact h4)
     ·rw[bY];intro k b he;cases he
     ·rw[bY];intro he;cases he
     ·rw[bY,<- dY hb];exact hlt
     ·rw[bY];intro j hj hbit;rw[<- fk hj];exact pP hc hap j hj hbit
    refine ih (m+1) (bC d m x) _ (by omega) (mC hg hgx) (hc.add x) ?_ ?_
    ·rw[hcan];exact wf
    ·rw[hcan];exact h
   ·obtain⟨⟨v,H'⟩,hop,hap,h⟩:=h;obtain⟨e,al,hget,hnx,heff,hal,hlt,hloc⟩:=vt wf hop
    let x:Dt:=⟨v,e,al,aY P G (canon all d s0 m).ρ (canon all d s0 m).H.next all[m].op⟩
    have hb:∀ j,j<m->d j=bC d m x j:=fun j hj=>fk hj;have hcan:canon all (bC d m x) s0 (m+1)=⟨aE (canon all d s0 m).ρ all[m].dst v,H'⟩:=by
     rw[mB ho];congr 1;cases H';simp only at hget hnx;simp only[AHeap.mk.injEq];refine⟨hget.symm,?_⟩;rw[hnx];simp only[x];cases al<;>simp
    have hgx:GoodAt P G all bs s0 (bC d m x) m:=by
     refine⟨?_,?_,?_,?_,?_⟩
     ·rw[bY,<- ku hb,<- dY hb];intro o ho' ρ2 H2 h1 h2 h3 h4;rw[ho]at ho';cases ho';refine .inr ⟨?_,v,rfl,.inl ?_⟩
      ·simp only;rw[oe h1,ht]
      ·simp only;rw[zJ (ρ':=(canon all d s0 m).ρ) (r8 h1)];exact hloc H2 h2 h3
     ·rw[bY];exact heff
     ·rw[bY,<- dY hb];exact hal
     ·rw[bY,<- dY hb];exact hlt
     ·rw[bY];intro j hj hbit;rw[<- fk hj];exact pP hc hap j hj hbit
    have wf':eF H':=by
     intro id b hid;rw[hget]at hid;rw[hnx];cases e with
     | none =>
      have:=wf id b hid;split<;>omega
     | some kb =>
      obtain⟨k0,b0⟩:=kb;simp only[dw]at hid;split at hid
      ·rename_i hk;subst hk;cases al with
       | true =>
        obtain⟨b1,hb1⟩:=hal rfl;simp only[Option.some.injEq,Prod.mk.injEq]at hb1;simp only[if_true];omega
       | false =>
        have:=hlt _ ((heff id b0 rfl).2 rfl);simpa using this
      ·have:=wf id b hid;split<;>omega
    refine ih (m+1) (bC d m x) _ (by omega) (mC hg hgx) (hc.add x) ?_ ?_
    ·rw[hcan];exact wf'
    ·rw[hcan];exact h
end Go.Hx
namespace Go.Hx
variable {P:Program} {G:Nat->Option (List AVal)} {Γ Γ':au} {H H':AHeap} {w w':World}
structure Static (all:Array Oper)(bs:List Nat)(K:Nat):Prop where
 len:bs.length=K
 le:K<=all.size
 down:∀ i o,all[i]?=some o->∀ e,e∈o.after->Region.binds .any e=true->e.on<i
 just:∀ i o j,all[i]?=some o->(if i<K then (cT bs i).testBit j=true else j<i)->∃ e,e∈o.after/\Region.binds .any e=true/\(e.on=j\/(if e.on<K then (cT bs e.on).testBit j=true else j<e.on))
 apart:∀ i j oi oj,i<K->j<i->all[i]?=some oi->all[j]?=some oj->(cT bs i).testBit j=false->rZ all oj oi=true
theorem z9 {o:Oper}{k:Nat}:k∈rX o↔∃ e,e∈o.after/\Region.binds .any e=true/\e.on=k:=by
 simp [rX,and_assoc]
theorem Aa {bs:List Nat}{K N i j:Nat}(hl:bs.length=K)(hi:i<N)(hK:K<=N):
  (cT (bs++(List.range' K (N - K)).map fun m=>2 ^ m - 1) i).testBit j=true↔(if i<K then (cT bs i).testBit j=true else j<i):=by
 unfold cT;by_cases h:i<K
 ·rw[RC h,Si (by omega)]
 ·rw[RB h,Sb (by omega),List.getElem?_map,List.getElem?_range' (by omega)];simp only[Option.map_some,Option.getD_some,SV,decide_eq_true_eq];have:K+1*(i - bs.length)=i:=by omega
  rw[this]
theorem Ab {all:Array Oper}{bs:List Nat}{K:Nat}(h:qc all bs K=true):Static all bs K:=by
 unfold qc at h;simp only[RU,decide_eq_true_eq,Sg,RK]at h;obtain⟨⟨⟨hlen,hle⟩,hone⟩,hap⟩:=h;have hlt:∀ i o,all[i]?=some o->i<all.size:=fun i o ho=>(S4.1 ho).1;have hdown:∀ i o,all[i]?=some o->∀ e,e∈o.after->Region.binds .any e=true->e.on<i:=by
  intro i o ho e he hb;have h1:=hone i (hlt i o ho);rw[ho]at h1;simp only[vu,RU,Sg,decide_eq_true_eq]at h1;exact h1.1.1 e.on (z9.2 ⟨e,he,hb,rfl⟩)
 refine⟨hlen,hle,hdown,?_,?_⟩
 ·intro i o j ho hj;have hi:=hlt i o ho;have h1:=hone i hi;rw[ho]at h1;simp only[vu,RU,Sg,decide_eq_true_eq,RK]at h1;obtain⟨⟨_,hb⟩,h2⟩:=h1;have hbit:=(Aa (j:=j) hlen hi hle).2 hj;have hji:j<i:=by
   rcases RP j i with h|h
   ·exact h
   ·have:=Uv (RL hb (R8 (by omega) h));rw[hbit]at this;cases this
  have h3:=h2 j hji;rw[hbit]at h3;simp only[Bool.not_true,U4,List.any_eq_true,TK,beq_iff_eq]at h3;obtain⟨k,hk,h4⟩:=h3;obtain⟨e,he,hbe,rfl⟩:=z9.1 hk;refine⟨e,he,hbe,h4.imp id fun h5=>?_⟩;exact(Aa (j:=j) hlen (Nat.lt_trans (hdown i o ho e he hbe) hi) hle).1 h5
 ·intro i j oi oj hi hj hoi hoj hbit;have h1:=hap i hi;rw[hoi]at h1;simp only[Sg,RK]at h1;have h2:=h1 j hj;rw[hbit,hoj]at h2;simpa using h2
theorem Ac {x:Option Tmp}{l:List Tmp}{t:Tmp}(h:rY x l=true)(hx:x=some t):t ∉ l:=by
 subst hx;simpa [rY] using h
theorem oq {all:Array Oper}{x y:Oper}(h:rZ all x y=true):(∀ t,x.dst=some t->t ∉ y.looksAt all)/\(∀ t,y.dst=some t->t ∉ x.looksAt all)/\(∀ t,x.dst=some t->y.dst≠some t):=by
 simp only[rZ,RU]at h;obtain⟨⟨h1,h2⟩,h3⟩:=h;refine⟨fun t ht=>Ac h1 ht,fun t ht=>Ac h2 ht,fun t ht=>?_⟩;rw[ht]at h3;simpa using h3
def sf (all:Array Oper)(L:Nat->Bool):Prop:=∀ i o,L i=true->all[i]?=some o->∀ e,e∈o.after->Region.binds .any e=true->L e.on=true
theorem Static.ahead {all:Array Oper}{bs:List Nat}{K:Nat}(S:Static all bs K){L:Nat->Bool}(hL:sf all L):∀ i o j,all[i]?=some o->(∀ e,e∈o.after->Region.binds .any e=true->L e.on=true) ->
  (if i<K then (cT bs i).testBit j=true else j<i)->L j=true:=by
 intro i
 induction i using Nat.strongRecOn with
 | _ i ih =>
  intro o j ho hdir hj;obtain⟨e,he,hb,h⟩:=S.just i o j ho hj;have hon:=hdir e he hb;rcases h with rfl|h
  ·exact hon
  ·have hlt:=S.down i o ho e he hb;have hi:=(S4.1 ho).1;exact ih e.on hlt all[e.on] j (RG (by omega)) (hL e.on _ hon (RG (by omega))) h
def bg (H:AHeap)(k:Nat):AHeap:=⟨fun j=>if H.next<=j/\j<H.next+k then some .rsv else H.get j,H.next+k⟩
theorem qe (H:AHeap)(k:Nat):Evo Γ H w Γ (bg H k) w where
 os:=rfl
 tape:=rfl
 output:=rfl
 size:=Nat.le_refl _
 keep:=fun _ _ h=>⟨rfl,h⟩
 live:=fun id h1 _ x' hx=>by
  refine⟨x',?_,Blk.le_refl _ _ _⟩;simp only[bg]at hx;rw[RB (by omega)]at hx;exact hx
 frz:=fun _ _=>rfl
theorem ot (w:World):Evo Γ H w Γ H { w with drawn:=w.drawn+1 } where
 os:=rfl
 tape:=rfl
 output:=rfl
 size:=Nat.le_refl _
 keep:=fun _ _ h=>⟨rfl,h⟩
 live:=fun _ _ _ x' hx=>⟨x',hx,Blk.le_refl _ _ _⟩
 frz:=fun _ _=>rfl
theorem RelH.move (R:RelH P G Γ H w)(hheap:w'.heap=w.heap)(E:Evo Γ H w Γ H' w')(hn:H.next<=H'.next)(hget:∀ id b,H'.get id=some b->H.get id=some b\/(b=.rsv/\H.get id=none/\id<H'.next))(hsame:∀ id b,H.get id=some b->H'.get id=some b):RelH P G Γ H' w' where
 arr id g e cells hg:=by
  rcases hget _ _ hg with h|h
  ·have h1:=R.arr id g e cells h;cases hΓ:Γ id with
   | none=>rw[hΓ]at h1;exact h1
   | some y =>
    obtain⟨b,base,n⟩:=y;rw[hΓ]at h1;obtain⟨c,a1,a2,a3,a4⟩:=h1;exact⟨c,by rw[hheap];exact a1,a2,a3,fun i hi=>let ⟨cv,b1,b2⟩:=a4 i hi;⟨cv,b1,b2.aU E hn⟩⟩
  ·cases h.1
 loop id st pend n env ps asg body hg:=by
  rcases hget _ _ hg with h|h
  ·obtain⟨b,rr,a1,a2,a3,a4,a5,a6,a7,a8,a9⟩:=R.loop id st pend n env ps asg body h;exact⟨b,rr,a1,by rw[hheap];exact a2,a3,a4,a5,a6,a7,a8,fun t ht=>(a9 t ht).aU E hn⟩
  ·cases h.1
 mp id es hg:=by
  rcases hget _ _ hg with h|h
  ·obtain⟨b,a1,a2⟩:=R.mp id es h;exact⟨b,a1,by rw[hheap];exact a2⟩
  ·cases h.1
 rsv id hg:=by
  rcases hget _ _ hg with h|h
  ·exact R.rsv id h
  ·cases hΓ:Γ id with
   | none=>rfl
   | some x =>
    obtain⟨y,hy⟩:=R.dom id x hΓ;rw[h.2.1]at hy;cases hy
 inj:=R.inj
 dom id x h:=let ⟨y,hy⟩:=R.dom id x h;⟨y,hsame _ _ hy⟩
 lt id b base n h:=by rw[hheap];exact R.lt id b base n h
 next id y h:=by
  rcases hget _ _ h with h|h
  ·exact RL (R.next id y h) hn
  ·exact h.2.2
 glob g cells h:=(R.glob g cells h).aU E hn
 gsz:=R.nE E
theorem Ad (R:RelH P G Γ H w)(k:Nat):RelH P G Γ (bg H k) w:=by
 have hnone:∀ id,H.next<=id->H.get id=none:=by
  intro id h;cases hg:H.get id with
  | none=>rfl
  | some y=>have:=R.next id y hg;omega
 refine R.move rfl (qe H k) (by simp [bg]) (fun id b hb=>?_) (fun id b hb=>?_)
 ·simp only[bg]at hb;split at hb
  ·rename_i hc;simp only[Option.some.injEq]at hb;exact .inr ⟨hb.symm,hnone id hc.1,hc.2⟩
  ·exact .inl hb
 ·simp only[bg];rw[RB]
  ·exact hb
  ·have:=R.next id b hb;omega
theorem RelS.move {n:Nat}{wb:Base}{s:St}{a:Act}(hs:RelS P G n wb Γ s a w){H':AHeap}(E:Evo Γ s.H w Γ H' w')(hn:s.H.next<=H'.next)(R:RelH P G Γ H' w'):RelS P G n wb Γ ⟨s.ρ,H'⟩ a w' :=
 ⟨hs.size,fun t=>(hs.env t).aU E hn,R,hs.defers.aU E,So hs.low E.size⟩
theorem db.move {rd rb:Option Nat}(h:db Γ H rd rb)(hk:∀ id b,H.get id=some b->H'.get id=some b):db Γ H' rd rb:=by
 cases rd with
 | none=>exact h
 | some id =>
  obtain⟨b,st,pend,n,env,ps,asg,body,h1,h2,h3⟩:=h;exact⟨b,_,_,_,_,_,_,_,h1,h2,hk _ _ h3⟩
def dC (all:Array Oper)(d:Nat->Dt)(s0:St)(K:Nat)(D:Nat->Bool):St :=
 ⟨aS all d s0.ρ K D,⟨aJ d (bg s0.H (aC d K)).get K D,s0.H.next+aC d K⟩⟩
theorem lj {all:Array Oper}{j:Nat}{o:Oper}(h:all[j]?=some o):eT all j=o.dst:=by simp [eT,h]
theorem uY {all:Array Oper}{bs:List Nat}{K:Nat}(S:Static all bs K){d:Nat->Dt}{s0:St}(hg:∀ i,i<K->GoodAt P G all bs s0 d i){D:Nat->Bool}{i:Nat}{o:Oper}(hi:i<K)(ho:all[i]?=some o)(hDi:D i=false)
  (hdown:∀ j,j<i->(cT bs i).testBit j=true->D j=true) (hup:∀ j,i<j->j<K->D j=true->(cT bs j).testBit i=false):
  ExecOk P G all o (s0.H.next+aC d i) (dC all d s0 K D) (dC all d s0 K (bq D i)):=by
 have hget:∀ j,j<K->∃ oj,all[j]?=some oj:=fun j hj=>⟨_,RG (RL hj S.le)⟩
 have hgi:=hg i hi;have tgtE:∀ j r,j<K->cR (d j)=some r->r∈(d j).f.eff/\(((d j).al=true/\r=s0.H.next+aC d j)\/((d j).al=false/\r∈(d j).f.rs)):=by
  intro j r hj ht;unfold cR at ht;cases he:(d j).e with
  | none=>rw[he]at ht;cases ht
  | some kb =>
   obtain⟨k,b⟩:=kb;rw[he]at ht;simp only[Option.map_some,Option.some.injEq]at ht;subst ht;obtain⟨h1,h2⟩:=(hg j hj).eff k b he;refine⟨h1,?_⟩;cases hal:(d j).al with
   | true =>
    obtain⟨b',hb'⟩:=(hg j hj).al hal;rw[he]at hb';simp only[Option.some.injEq,Prod.mk.injEq]at hb';exact .inl ⟨rfl,hb'.1⟩
   | false=>exact .inr ⟨rfl,h2 hal⟩
 have rangeK:∀ r,r<s0.H.next+aC d i->((bg s0.H (aC d K)).get r=s0.H.get r\/∃ j,j<i/\(fun _:Nat=>true) j=true/\cR (d j)=some r):=by
  intro r hr;by_cases h:s0.H.next<=r
  ·obtain⟨j,h1,h2,h3⟩:=pM (d:=d) (n:=i) (c:=r - s0.H.next) (by omega);obtain⟨b,hb⟩:=(hg j (by omega)).al h2;refine .inr ⟨j,h1,rfl,?_⟩;unfold cR;rw[hb,h3];simp only[Option.map_some,Option.some.injEq];omega
  ·left;simp only[bg];rw[RB (by omega)]
 have henv:∀ t,t∈o.looksAt all->aS all d s0.ρ K D t=(canon all d s0 i).ρ t:=by
  intro t ht;show _=aS all d s0.ρ i (fun _=>true) t;rw[<- uS (all:=all) (d:=d) (ρ0:=s0.ρ) (m:=i) (n:=K) (by omega)];refine mz fun j hj hdj=>?_;obtain⟨oj,hoj⟩:=hget j hj;rw[lj hoj]at hdj;rcases Tp j i with h|rfl|h
  ·cases hb:(cT bs i).testBit j with
   | true=>rw[hdown j h hb];simp [h]
   | false=>exact absurd ht ((oq (S.apart i j o oj hi h ho hoj hb)).1 t hdj)
  ·rw[hDi];simp
  ·cases hD:D j with
   | false=>symm;simp;omega
   | true=>exact absurd ht ((oq (S.apart j i oj o hj h hoj ho (hup j h hj hD))).2.1 t hdj)
 have hheap:∀ r,r∈(d i).f.rs->aJ d (bg s0.H (aC d K)).get K D r=(canon all d s0 i).H.get r:=by
  intro r hr;show _=aJ d s0.H.get i (fun _=>true) r;rw[<- pL (g0:=(bg s0.H (aC d K)).get) (rangeK r (hgi.lt r hr)),<- uT (m:=i) (n:=K) (by omega)];refine mA fun j hj ht=>?_;obtain⟨he,_⟩:=tgtE j r hj ht;rcases Tp j i with h|rfl|h
  ·cases hb:(cT bs i).testBit j with
   | true=>rw[hdown j h hb];simp [h]
   | false=>exact absurd hr ((hgi.apart j h hb).2 r he)
  ·rw[hDi];simp
  ·cases hD:D j with
   | false=>symm;simp;omega
   | true=>exact absurd hr (((hg j hj).apart i h (hup j h hj hD)).1 r he)
 have hal:(d i).al=true->aJ d (bg s0.H (aC d K)).get K D (s0.H.next+aC d i)=some .rsv/\s0.H.next+aC d i≠s0.H.next+aC d K:=by
  intro hal;have hlt:=jQ hi hal;refine⟨?_,by omega⟩;obtain⟨b,hb⟩:=hgi.al hal;have heff:=(hgi.eff _ _ hb).1;rw[uU]
  ·simp only[bg];rw[RC (by omega)]
  ·intro j hj hD ht;obtain⟨h1,h2⟩:=tgtE j _ hj ht;rcases Tp j i with h|rfl|h
   ·rcases h2 with ⟨h2,h3⟩|⟨h2,h3⟩
    ·have:=jQ h h2;omega
    ·have:=(hg j hj).lt _ h3;have:=nS (d:=d) (T7 h);omega
   ·rw[hDi]at hD;cases hD
   ·rcases h2 with ⟨h2,h3⟩|⟨h2,h3⟩
    ·have:=jQ h hal;omega
    ·exact absurd h3 (((hg j hj).apart i h (hup j h hj hD)).2 _ heff)
 have:=hgi.step o ho (aS all d s0.ρ K D) ⟨aJ d (bg s0.H (aC d K)).get K D,s0.H.next+aC d K⟩ henv hheap hal (by have:=nS (d:=d) (T7 hi);simp only;omega);have e1:aS all d s0.ρ K (bq D i)=aE (aS all d s0.ρ K D) o.dst (d i).v:=by
  rw[uV hDi hi,lj ho];intro j h hj hD t hti;obtain⟨oj,hoj⟩:=hget j hj;rw[lj ho]at hti;rw[lj hoj];exact(oq (S.apart j i oj o hj h hoj ho (hup j h hj hD))).2.2 t hti
 have e2:aJ d (bg s0.H (aC d K)).get K (bq D i)=dw (d i).e (aJ d (bg s0.H (aC d K)).get K D):=by
  refine uW hDi hi fun j h hj hD r hti htj=>?_;obtain⟨a1,a2⟩:=tgtE i r hi hti;obtain⟨b1,b2⟩:=tgtE j r hj htj;obtain⟨c1,c2⟩:=(hg j hj).apart i h (hup j h hj hD);rcases b2 with ⟨b2,b3⟩|⟨b2,b3⟩
  ·rcases a2 with ⟨a2,a3⟩|⟨a2,a3⟩
   ·have:=jQ h a2;omega
   ·exact c1 r b1 a3
  ·exact c2 r a1 b3
 unfold dC;rw[e1,e2];exact this
theorem pQ {all:Array Oper}{bs:List Nat}{K:Nat}{d:Nat->Dt}{s0:St}(hg:∀ i,i<K->GoodAt P G all bs s0 d i){D:Nat->Bool}(hD:∀ j,j<K->D j=true):dC all d s0 K D=canon all d s0 K:=by
 unfold dC canon ks;have e1:aS all d s0.ρ K D=aS all d s0.ρ K fun _=>true:=funext fun t=>mz fun j hj _=>hD j hj;have e2:aJ d (bg s0.H (aC d K)).get K D=aJ d s0.H.get K fun _=>true:=by
  funext r
  rw[mA (D':=fun _=>true) fun j hj _=>hD j hj];refine pL ?_;by_cases h:s0.H.next<=r/\r<s0.H.next+aC d K
  ·obtain⟨j,h1,h2,h3⟩:=pM (d:=d) (n:=K) (c:=r - s0.H.next) (by omega);obtain⟨b,hb⟩:=(hg j h1).al h2;refine .inr ⟨j,h1,rfl,?_⟩;unfold cR;rw[hb,h3];simp only[Option.map_some,Option.some.injEq];omega
  ·left;simp only[bg];rw[RB h]
 rw[e1,e2]
theorem uZ {all:Array Oper}{K:Nat}{d:Nat->Dt}{s0:St}{D:Nat->Bool}(hD:∀ j,j<K->D j=false):dC all d s0 K D=⟨s0.ρ,bg s0.H (aC d K)⟩:=by
 unfold dC;have e1:∀ n,n<=K->aS all d s0.ρ n D=s0.ρ:=by
  intro n
  induction n with
  | zero=>intro _;rfl
  | succ n ih=>intro h;simp only[aS];rw[RB (by simp [hD n h])];exact ih (by omega)
 have e2:∀ n,n<=K->aJ d (bg s0.H (aC d K)).get n D=(bg s0.H (aC d K)).get:=by
  intro n
  induction n with
  | zero=>intro _;rfl
  | succ n ih=>intro h;simp only[aJ];rw[RB (by simp [hD n h])];exact ih (by omega)
 rw[e1 K (Nat.le_refl _),e2 K (Nat.le_refl _)];rfl
end Go.Hx
namespace Go.Hx
variable {P:Program} {G:Nat->Option (List AVal)} {Γ Γ':au} {H H':AHeap} {w w':World}
def dS (listed:Array Bool):Nat->Nat
 | 0=>0
 | n+1=>dS listed n+(if listed.getD n true=false then 1 else 0)
theorem vy {listed:Array Bool}{i:Nat}(hi:listed.getD i true=false):∀ n,dS (listed.setIfInBounds i true) n+(if i<n then 1 else 0)=dS listed n:=by
 have hsz:i<listed.size:=by
  rcases RP i listed.size with h|h
  ·exact h
  ·rw[Ss,S5 h]at hi;cases hi
 intro n
 induction n with
 | zero=>simp [dS]
 | succ n ih =>
  simp only[dS];by_cases hin:n=i
  ·subst hin;have:(listed.setIfInBounds n true).getD n true=true:=(by simp [hsz]);have h2:(if n<n then 1 else 0)=0:=RB (Uc n);have h3:(if n<n+1 then 1 else 0)=1:=RC (Us n);rw[h2]at ih;rw[this,h3,hi];simp;omega
  ·rw[getD_set_ne true (Ne.symm hin)];have h4:(if i<n+1 then 1 else 0)=(if i<n then 1 else 0):=by
    by_cases h:i<n
    ·rw[RC h,RC (show i<n+1 by omega)]
    ·rw[RB h,RB (show ¬ i<n+1 by omega)]
   rw[h4];generalize (if i<n then 1 else 0)=x at ih ⊢;omega
theorem sg {listed:Array Bool}{n:Nat}(h:dS listed n=0):∀ j,j<n->listed.getD j true=true:=by
 induction n with
 | zero=>intro j hj;omega
 | succ n ih =>
  simp only[dS]at h;intro j hj;by_cases hjn:j=n
  ·subst hjn;cases hl:listed.getD j true with
   | true=>rfl
   | false=>rw[hl]at h;simp at h
  ·exact ih (by omega) j (by omega)
theorem sj {n:Nat}:∀ m,m<=n->dS (Array.replicate n false) m=m:=by
 intro m
 induction m with
 | zero=>intro _;rfl
 | succ m ih =>
  intro h;simp only[dS];rw[ih (by omega),RC];rw[Ss,TV,RC (by omega)];rfl
theorem mG {listed:Array Bool}{i:Nat}(h:i<listed.size)(x y:Bool):listed.getD i x=listed.getD i y:=by
 simp [Ss,RG h]
section
variable {n:Nat} {wb:Base} {rd rb:Option Nat} {Q:AX->St->Prop} {all:Array Oper} {bs:List Nat} {K:Nat} {id:Nat} {dr:Bool}
theorem sk (S:Static all bs K)(hfit:∀ o,o∈all.toList->eN n o=true):∀ (r m:Nat) (listed:Array Bool) (s:St) (Γ:au) (a:Act) (w:World),r+m=all.size->K<=m->listed.size=all.size->dS listed all.size=r ->
  (∀ j,j<all.size->(listed.getD j true=true↔j<m))->cW P G rd Q all (all.toList.drop m) s->RelS P G n wb Γ s a w->db Γ s.H rd rb ->
  ∀ (Q':Exit->Act->World->Prop),(∀ e a' w',fF P G n wb rd rb (wr (.region id all dr)) Γ s.H a w Q e a' w'->Q' e a' w')->wpAnyIn (dq rb) 0 P .any all Q' r listed a w:=by
 intro r
 induction r with
 | zero =>
  intro m listed s Γ a w hm hKm hsz hc hl h hs hr Q' hq;have:all.toList.drop m=[]:=Uw (by simp;omega);rw[this]at h;refine⟨?_,hq _ _ _ (.here (x:=.normal) trivial h hs hr)⟩;rw[List.eq_nil_iff_forall_not_mem];intro j hj;obtain⟨h1,o,ho,_⟩:=mem_ready.1 hj;have hjs:=(S4.1 ho).1;rw[(hl j hjs).2 (by omega)]at h1;cases h1
 | succ r ih =>
  intro m listed s Γ a w hm hKm hsz hc hl h hs hr Q' hq;have hms:m<all.size:=by omega
  have ho:all[m]?=some all[m]:=RG hms;have hmun:listed.getD m true=false:=by
   cases hx:listed.getD m true with
   | false=>rfl
   | true=>have:=(hl m hms).1 hx;omega
  have hready:m∈Region.ready .any all listed:=by
   refine mem_ready.2 ⟨hmun,_,ho,fun e he hb=>?_⟩;have:=S.down m _ ho e he hb;rw[mG (by omega) false true];exact(hl e.on (by omega)).2 this
  refine⟨fun h0=>(by rw[h0]at hready;cases hready),fun i hi=>?_⟩;obtain⟨hiun,oi,hoi,hall⟩:=mem_ready.1 hi;have his:=(S4.1 hoi).1;have him:m<=i:=by
   rcases RP i m with h|h
   ·rw[(hl i his).2 h]at hiun;cases hiun
   ·exact h
  have hL:sf all fun j=>listed.getD j false:=by
   intro k ok hk hok e he hb;have hks:=(S4.1 hok).1;have h1:=S.down k ok hok e he hb;simp only at hk ⊢;rw[mG (by omega) false true]at hk ⊢;have:=(hl k hks).1 hk;exact(hl _ (by omega)).2 (by omega)
  have hieq:i=m:=by
   rcases RP m i with h|h
   ·have h1:=S.ahead hL i oi m hoi hall (by rw[RB (by omega)];exact h);rw[mG (by omega) false true,hmun]at h1;cases h1
   ·omega
  subst hieq;have hlist:all.toList.drop i=all[i] :: all.toList.drop (i+1):=by
   rw[SC (by simpa using hms)];simp
  rw[hlist]at h;simp only[cW]at h;have hl':∀ j,j<all.size->((listed.setIfInBounds i true).getD j true=true↔j<i+1):=by
   intro j hj;by_cases hji:j=i
   ·subst hji;simp
   ·rw[getD_set_ne true (Ne.symm hji),hl j hj];omega
  have hc':dS (listed.setIfInBounds i true) all.size=r:=by
   have:=vy hmun all.size;rw[RC hms]at this;omega
  have hd:=hfit all[i] (by simp);obtain⟨t,ht,h⟩:=h;unfold wpOpIn;rw[ho];simp only;rw[nV hs ht];cases t with
  | true =>
   simp only[if_true]at h ⊢;refine zz hd hs hr h ?_ ?_
   ·rintro Γ' s' a' w' hk hs' E hn hr' ⟨cv,rfl⟩;exact ih (i+1) _ s' Γ' _ w' (by omega) (by omega) (by simpa using hsz) hc' hl' hk hs' hr' Q' fun e a'' w'' hp=>hq _ _ _ (hp.step E hn (nW hms cv) fun _ h=>h)
   ·rintro Γ' s' a' w' chain hp hc hs' E hn hr' rfl;exact hq _ _ _ ⟨.panic,s',Γ',hc,hp,hs',E,hn,hr',.refl _ _⟩
  | false =>
   simp only[Bool.false_eq_true,if_false]at h ⊢;refine⟨fun _ _=>trivial,?_⟩;have hdst:∀ d,all[i].dst=some d->d<n:=by
    intro d hd';unfold eN at hd;rw[hd']at hd;simpa using hd
   have hs':=jm (v:=.lit undef) (cv:=undef) hs hdst (Evo.refl Γ s.H w) (Nat.le_refl _) hs.heap (.lit _);exact ih (i+1) _ ⟨aE s.ρ all[i].dst (.lit undef),s.H⟩ Γ _ w (by omega) (by omega) (by simpa using hsz) hc' hl' h hs' hr Q' fun e a'' w'' hp=>hq _ _ _ (hp.step (Evo.refl _ _ _) (Nat.le_refl _) (nW hms _) fun _ h=>h)
theorem u7 (S:Static all bs K)(hfit:∀ o,o∈all.toList->eN n o=true){d:Nat->Dt}{s0:St}(hg:∀ i,i<K->GoodAt P G all bs s0 d i)(htail:cW P G rd Q all (all.toList.drop K) (canon all d s0 K)):
  ∀ (r:Nat) (listed:Array Bool) (D:Nat->Bool) (Γ:au) (a:Act) (w:World),listed.size=all.size->dS listed all.size=r->(∀ j,j<all.size->listed.getD j true=D j)->(∀ j,D j=true->j<K)->sf all D ->
  RelS P G n wb Γ (dC all d s0 K D) a w->db Γ (dC all d s0 K D).H rd rb ->
  ∀ (Q':Exit->Act->World->Prop),(∀ e a' w',fF P G n wb rd rb (wr (.region id all dr)) Γ (dC all d s0 K D).H a w Q e a' w'->Q' e a' w')->wpAnyIn (dq rb) 0 P .any all Q' r listed a w:=by
 intro r
 induction r with
 | zero =>
  intro listed D Γ a w hsz hc hl hlow hL hs hr Q' hq;have hall:∀ j,j<K->D j=true:=fun j hj=>by rw[<- hl j (RL hj S.le)];exact sg hc j (RL hj S.le)
  have hKs:K=all.size:=by
   rcases RP K all.size with h|h
   ·have h1:=sg hc K h;rw[hl K h]at h1;have:=hlow K h1;omega
   ·have:=S.le;omega
  rw[pQ hg hall]at hs hr hq;exact sk S hfit 0 K listed _ Γ a w (by omega) (Nat.le_refl _) hsz hc (fun j hj=>by rw[hl j hj];exact⟨hlow j,hall j⟩) htail hs hr Q' hq
 | succ r ih =>
  intro listed D Γ a w hsz hc hl hlow hL hs hr Q' hq;by_cases hall:∀ j,j<K->D j=true
  ·rw[pQ hg hall]at hs hr hq;have hcount:∀ m,m<=all.size->dS listed m=m - K:=by
    intro m
    induction m with
    | zero=>intro _;simp [dS]
    | succ m ihm =>
     intro hm;simp only[dS];rw[ihm (by omega),hl m (by omega)];by_cases hmK:m<K
     ·rw[hall m hmK];simp;omega
     ·have:D m=false:=by
       cases hD:D m with
       | false=>rfl
       | true=>exact absurd (hlow m hD) hmK
      rw[this];simp;omega
   have h1:=hcount all.size (Nat.le_refl _);exact sk S hfit (r+1) K listed _ Γ a w (by have:=S.le;omega) (Nat.le_refl _) hsz hc (fun j hj=>by rw[hl j hj];exact⟨hlow j,hall j⟩) htail hs hr Q' hq
  ·have hex:∃ j,j<K/\D j=false:=by
    by_cases h:∃ j,j<K/\D j=false
    ·exact h
    ·refine absurd (fun j hj=>?_) hall;cases hD:D j with
     | true=>rfl
     | false=>exact absurd ⟨j,hj,hD⟩ h
   have least:∀ k,(∃ j,j<k/\j<K/\D j=false)->∃ j,j<K/\D j=false/\∀ i,i<j->D i=true:=by
    intro k
    induction k with
    | zero=>rintro⟨j,hj,_⟩;omega
    | succ k ihk =>
     rintro⟨j,h1,h2,h3⟩;by_cases h:∃ j,j<k/\j<K/\D j=false
     ·exact ihk h
     ·refine⟨j,h2,h3,fun i hi=>?_⟩;cases hD:D i with
      | true=>rfl
      | false=>exact absurd ⟨i,by omega,by omega,hD⟩ h
   obtain⟨j0,hj0K,hj0,hbelow⟩:=least K (let ⟨j,h1,h2⟩:=hex;⟨j,h1,h1,h2⟩);have hj0s:j0<all.size:=RL hj0K S.le;have hr0:j0∈Region.ready .any all listed:=by
    refine mem_ready.2 ⟨by rw[hl j0 hj0s];exact hj0,_,RG hj0s,fun e he hb=>?_⟩;have hlt:=S.down j0 _ (RG hj0s) e he hb;rw[mG (by omega) false true,hl e.on (by omega)];exact hbelow _ hlt
   refine⟨fun h0=>(by rw[h0]at hr0;cases hr0),fun i hi=>?_⟩;obtain⟨hiun,oi,hoi,hdir⟩:=mem_ready.1 hi;have his:=(S4.1 hoi).1;have hdirD:∀ e,e∈oi.after->Region.binds .any e=true->D e.on=true:=fun e he hb=>by
    have:=S.down i oi hoi e he hb;rw[<- hl e.on (by omega),<- mG (by omega) false true];exact hdir e he hb
   have hahead:=S.ahead hL i oi;have hiK:i<K:=by
    rcases RP i K with h|h
    ·exact h
    ·have:=hahead j0 hoi hdirD (by rw[RB (by omega)];omega);rw[hj0]at this;cases this
   have hDi:D i=false:=(by rw[<- hl i his];exact hiun);have hex:=uY (P:=P) (G:=G) S hg hiK hoi hDi (fun j hj hb=>hahead j hoi hdirD (by rw[RC hiK];exact hb)) (fun j h1 h2 hD=>by
    cases hb:(cT bs j).testBit i with
    | false=>rfl
    | true =>
     have hjs:j<all.size:=RL h2 S.le;have:=S.ahead hL j _ i (RG hjs) (fun e he hbe=>hL j _ hD (RG hjs) e he hbe) (by rw[RC h2];exact hb);rw[hDi]at this;cases this)
   have hoi':oi=all[i]:=by
    rw[RG his]at hoi;exact(Option.some.inj hoi).symm
   refine uX hoi (hfit oi (by rw[hoi'];simp)) hs hr hex ?_;rintro Γ' a' w' hs' E hn hr' ⟨cv,rfl⟩;have hc':dS (listed.setIfInBounds i true) all.size=r:=by
    have:=vy hiun all.size;rw[RC his]at this;omega
   refine ih (listed.setIfInBounds i true) (bq D i) Γ' _ w' (by simpa using hsz) hc' ?_ ?_ ?_ hs' hr' Q' fun e a'' w'' hp=>hq _ _ _ (hp.step E hn (by rw[hoi'];exact nW his cv) fun _ h=>h)
   ·intro j hj;by_cases hji:j=i
    ·subst hji;simp [bq]
    ·rw[getD_set_ne true (Ne.symm hji),hl j hj];simp [bq,hji]
   ·intro j hj;by_cases hji:j=i
    ·subst hji;exact hiK
    ·simp only[bq,RB hji]at hj;exact hlow j hj
   ·intro k ok hk hok e he hb;by_cases hki:k=i
    ·subst hki;rw[hoi]at hok;cases hok;have:=hdirD e he hb;simp only[bq];split
     ·rfl
     ·exact this
    ·simp only[bq,RB hki]at hk;have:=hL k ok hk hok e he hb;simp only[bq];split
     ·rfl
     ·exact this
theorem W.draw {s:St}(K:Nat)(bs:List Nat)(hm:P.follows .mixedOrders=true)(hfit:all.toList.all (eN n)=true)(hst:qc all bs K=true)
  (h:dk P G all (cW P G rd Q all (all.toList.drop K)) bs 0 [] (all.toList.take K) s):W P G n rd (.region id all true) Q s:=by
 intro wb Γ a w rb hs hr;have S:=Ab hst;have hfit':∀ o,o∈all.toList->eN n o=true:=fun o ho=>Sg.1 hfit o ho;have wf:eF s.H:=fun id b hb=>hs.heap.next id b hb;have hcan0:canon all (fun _=>⟨.lit undef,none,false,⟨[],[]⟩⟩) s 0=s:=rfl;obtain⟨d,hg,htail⟩:=trace (P:=P) (G:=G) (all:=all) (bs:=bs) (s0:=s) (tail:=cW P G rd Q all (all.toList.drop K)) S.len S.le K 0 (fun _=>⟨.lit undef,none,false,⟨[],[]⟩⟩) [] (by omega)
  (fun i hi=>by omega) (fun j hj=>by omega) (by rw[hcan0];exact wf) (by rw[hcan0];exact h)
 refine wpIn_region_any hm ?_
 let w1:World:={ w with drawn:=w.drawn+1 }
 have R1:RelH P G Γ s.H w1:=hs.heap.move rfl (ot w) (Nat.le_refl _) (fun id b hb=>.inl hb) fun id b hb=>hb;have hs1:RelS P G n wb Γ s a w1:=hs.move (ot w) (Nat.le_refl _) R1;have hs2:RelS P G n wb Γ ⟨s.ρ,bg s.H (aC d K)⟩ a w1:=hs1.move (qe _ _) (by simp [bg]) (Ad R1 _);have hr2:db Γ (bg s.H (aC d K)) rd rb:=hr.move fun id b hb=>by
  simp only[bg];rw[RB]
  ·exact hb
  ·have:=hs.heap.next id b hb;omega
 have e0:dC all d s K (fun _=>false)=⟨s.ρ,bg s.H (aC d K)⟩:=uZ fun _ _=>rfl;refine u7 (wb:=wb) (id:=id) (dr:=true) S hfit' hg htail all.size _ (fun _=>false) Γ a w1 (by simp) (sj _ (Nat.le_refl _)) ?_ ?_ ?_ ?_ ?_ _ ?_
 ·intro j hj;rw[Ss,TV,RC hj];rfl
 ·intro j hj;cases hj
 ·intro i o hi;cases hi
 ·rw[e0];exact hs2
 ·rw[e0];exact hr2
 ·rw[e0];intro e a' w' hp;refine hp.step ?_ (by simp [bg]) (.refl _ _) fun _ h=>h;exact Evo.trans (ot w) (Nat.le_refl _) (qe _ _)
end
end Go.Hx
namespace Go.Hx
variable {P:Program} {G:Nat->Option (List AVal)}
theorem lh {α:Type}(a:α)(K:α->Prop):aR (some a) K=K a:=by simp [aR]
theorem sb {α:Type}(K:α->Prop):aR none K=False:=by simp [aR]
theorem vv {α β:Type}(o:Option α)(f:α->Option β)(K:β->Prop):aR (o.bind f) K=aR o fun a=>aR (f a) K:=by
 cases o<;>simp [aR]
theorem eU {α β:Type}(o:Option α)(f:α->β)(K:β->Prop):aR (o.map f) K=aR o fun a=>K (f a):=by
 cases o<;>simp [aR]
theorem zL {α:Type}(c:Prop)[Decidable c](a:Option α)(K:α->Prop):aR (if c then a else none) K=(c/\aR a K):=by
 by_cases h:c<;>simp [h,aR]
theorem sd {α:Type}{o:Option α}{K K':α->Prop}(h:∀ a,K a=K' a):aR o K=aR o K':=by
 have:K=K':=funext h;subst this;rfl
theorem FD (p q:Prop):fP true p q=p:=by simp [fP]
theorem FE (p q:Prop):fP false p q=q:=by simp [fP]
theorem fP.mk {t:Bool}{p q:Prop}(h1:t=true->p)(h2:t=false->q):fP t p q:=⟨h1,h2⟩
theorem FF {f:FuncId}{args args':List AVal}{H H':AHeap}{K:ARes->AHeap->Prop}(h2:args=args')(h3:H=H'):ae P G f args H K=ae P G f args' H' K:=by
 rw[h2,h3]
theorem FG {n:Nat}{rd:Option Nat}{c:Code}{Q:AX->St->Prop}{s s':St}(h:s=s'):W P G n rd c Q s=W P G n rd c Q s':=by rw[h]
attribute [congr] FF FG
theorem FH (K:St->Prop)(Q:AX->St->Prop)(s:St):gi K Q .normal s=K s:=(rfl)
theorem FI (K:St->Prop)(Q:AX->St->Prop)(i:Nat)(s:St):gi K Q (.exit i) s=Q (.exit i) s:=(rfl)
theorem FJ (K:St->Prop)(Q:AX->St->Prop)(i:Nat)(s:St):gi K Q (.goto i) s=Q (.goto i) s:=(rfl)
theorem FK (K:St->Prop)(Q:AX->St->Prop)(s:St):gi K Q .ret s=Q .ret s:=(rfl)
theorem FL (K:St->Prop)(Q:AX->St->Prop)(s:St):gi K Q .panic s=Q .panic s:=(rfl)
theorem FM (i:Nat)(Q:AX->St->Prop)(s:St):kx i Q .normal s=Q .normal s:=(rfl)
theorem FN (i j:Nat)(Q:AX->St->Prop)(s:St):kx i Q (.exit j) s=if j=i then Q .normal s else Q (.exit j) s:=(rfl)
theorem FO (i j:Nat)(Q:AX->St->Prop)(s:St):kx i Q (.goto j) s=Q (.goto j) s:=(rfl)
theorem FQ (i:Nat)(Q:AX->St->Prop)(s:St):kx i Q .ret s=Q .ret s:=(rfl)
theorem FR (i:Nat)(Q:AX->St->Prop)(s:St):kx i Q .panic s=Q .panic s:=(rfl)
theorem FS (Q:AX->St->Prop)(s:St):mF Q .normal s=Q .normal s:=(rfl)
theorem FT (i:Nat)(Q:AX->St->Prop)(s:St):mF Q (.exit i) s=Q (.exit i) s:=(rfl)
theorem FU (Q:AX->St->Prop)(s:St):mF Q .ret s=Q .ret s:=(rfl)
theorem FV (Q:AX->St->Prop)(s:St):mF Q .panic s=Q .panic s:=(rfl)
section code
variable {n:Nat} {rd:Option Nat} {Q:AX->St->Prop} {s:St}
theorem FW:vc P G n rd .skip Q s=Q .normal s:=(rfl)
theorem FX (l:Nat):vc P G n rd (.label l) Q s=Q .normal s:=(rfl)
theorem FY (id:Nat)(ops:Array Oper):vc P G n rd (.region id ops false) Q s=cW P G rd Q ops ops.toList s:=(rfl)
theorem FZ (id:Nat)(ops:Array Oper):vc P G n rd (.region id ops true) Q s=W P G n rd (.region id ops true) Q s:=(rfl)
theorem F1 (a b:Code):vc P G n rd (.seq a b) Q s=vc P G n rd a (gi (vc P G n rd b Q) Q) s:=(rfl)
theorem F4 (id:Nat)(c:Code):vc P G n rd (.block id c) Q s=vc P G n rd c (kx id Q) s:=(rfl)
theorem F5 (c:Code):vc P G n rd (.loop c) Q s=W P G n rd (.loop c) Q s:=(rfl)
theorem F6 (f:Operand)(ps:Array Tmp)(asg c:Code):vc P G n rd (.rangeFunc f ps asg c) Q s=W P G n rd (.rangeFunc f ps asg c) Q s:=(rfl)
theorem F7 (i:Nat):vc P G n rd (.exit i) Q s=Q (.exit i) s:=(rfl)
theorem F8 (c:Code):vc P G n rd (.scope c) Q s=vc P G n rd c (mF Q) s:=(rfl)
theorem F9 (i:Nat):vc P G n rd (.goto i) Q s=Q (.goto i) s:=(rfl)
theorem Ga:vc P G n rd .ret Q s=Q .ret s:=(rfl)
def zM:AVal->Option Bool
 | .lit (.bool t)=>some t
 | _=>none
theorem Gb (t:Bool):zM (.lit (.bool t))=some t:=rfl
theorem Gc (c:Operand)(a b:Code):vc P G n rd (.cond c a b) Q s=aR (zM (af G s.ρ c)) fun t=>fP t (vc P G n rd a Q s) (vc P G n rd b Q s):=by
 simp only[vc];congr 1
end code
theorem Gd (ρ:Env)(t:Tmp):af G ρ (.tmp t)=ρ t:=rfl
theorem Ge (ρ:Env)(v:Value):af G ρ (.const v)=.lit v:=rfl
theorem Gf (ρ:Env)(f:FuncId):af G ρ (.func f)=.clo f [] []:=rfl
theorem Gg (ρ:Env)(d:Tmp)(v:AVal)(t:Tmp):aE ρ (some d) v t=if t=d then v else ρ t:=rfl
theorem Gh (ρ:Env)(v:AVal):aE ρ none v=ρ:=rfl
theorem Gi (ws:Nat)(ρ ρ₀:Env)(t:Nat):mask ws ρ ρ₀ t=if ws / 2 ^ t % 2=1 then ρ t else ρ₀ t:=rfl
def iv:AVal->Int
 | .lit (.int _ n)=>n
 | _=>0
theorem aM (k:IntKind)(n:Int):iv (.lit (.int k n))=n:=rfl
theorem vw (l:List AVal)(t:Nat):fQ l t=(l[t]?).getD (.lit undef):=rfl
theorem Gj (rs:List ResultVar)(H:AHeap)(K:ARes->AHeap->Prop)(s:St):pZ P G rs H K .ret s=aR (dR P s.H s.ρ rs) fun vs=>av P G H K (gF vs) s.H:=(rfl)
theorem Gk (rs:List ResultVar)(H:AHeap)(K:ARes->AHeap->Prop)(s:St):pZ P G rs H K .normal s=aR (dR P s.H s.ρ rs) fun vs=>av P G H K (gF vs) s.H:=(rfl)
theorem Gl (H:AHeap)(ρ:Env):dR P H ρ []=some []:=rfl
theorem Gm (H:AHeap)(ρ:Env)(t:Tmp)(r:List ResultVar):dR P H ρ (.tmp t :: r)=(dR P H ρ r).map (ρ t :: ·):=rfl
theorem Gn (H:AHeap)(ρ:Env)(a:Tmp)(t:TypeId)(r:List ResultVar):dR P H ρ (.cell a t :: r)=(eE P H t (ρ a)).bind fun v=>(dR P H ρ r).map (v :: ·):=rfl
theorem Gp (v:AVal):gF [v]=v:=rfl
theorem Gq (v u:AVal)(r:List AVal):gF (v :: u :: r)=.tup (v :: u :: r):=rfl
theorem Gr:gF []=.tup []:=rfl
section ops
variable {rd:Option Nat} {Q:AX->St->Prop} {K:St->Prop} {s:St} {d:Option Tmp} {ty:TypeId} {pos:String} {aft:Array Edge} {g:Option (Nat × Bool)}
theorem Gs (all:Array Oper):cW P G rd Q all [] s=Q .normal s:=(rfl)
theorem Gt (all:Array Oper)(op:Op)(rest:List Oper):cW P G rd Q all (⟨d,op,ty,pos,aft,none⟩ :: rest) s=aG P G rd Q ⟨d,op,ty,pos,aft,none⟩ (cW P G rd Q all rest) s:=by
 simp [cW,dZ,lh]
theorem Gu (all:Array Oper)(op:Op)(rest:List Oper)(j:Nat)(want:Bool):cW P G rd Q all (⟨d,op,ty,pos,aft,some (j,want)⟩ :: rest) s =
  aR (dZ all s.ρ ⟨d,op,ty,pos,aft,some (j,want)⟩) fun t=>if t=true then aG P G rd Q ⟨d,op,ty,pos,aft,some (j,want)⟩ (cW P G rd Q all rest) s else cW P G rd Q all rest ⟨aE s.ρ d (.lit undef),s.H⟩:=(rfl)
def Gv (P:Program)(G:Nat->Option (List AVal))(fv:AVal)(args:List AVal)(H:AHeap)(K:ARes->AHeap->Prop)(_d:TagR K:=.mk):Prop:=az P G fv args H K
theorem Gw (fv:Operand)(args:Array Operand)(ats:Array TypeId):aG P G rd Q ⟨d,.call ⟨.value fv,args,ats⟩,ty,pos,aft,g⟩ K s =
  Gv P G (af G s.ρ fv) (args.toList.map (af G s.ρ)) s.H fun r H'=>dp H' rd/\match r with
   | .ret v=>K ⟨aE s.ρ d v,H'⟩
   | .panic=>Q .panic ⟨s.ρ,H'⟩:=(rfl)
theorem Gx (x:Operand):aG P G rd Q ⟨d,.panic x,ty,pos,aft,g⟩ K s=((∃ t v,(af G s.ρ x)=.lit (.iface t v))/\Q .panic s):=(rfl)
theorem Gy (x:Operand):aG P G rd Q ⟨d,.move x,ty,pos,aft,g⟩ K s=K ⟨aE s.ρ d (af G s.ρ x),s.H⟩:=by simp [aG,ag,lh]
theorem Gz (x:Operand):aG P G rd Q ⟨d,.assign x,ty,pos,aft,g⟩ K s=K ⟨aE s.ρ d (af G s.ρ x),s.H⟩:=by simp [aG,ag,lh]
theorem GA (c a b:Operand):aG P G rd Q ⟨d,.pick c a b,ty,pos,aft,g⟩ K s=aR (match af G s.ρ c with|.lit (.bool t)=>some t|_=>none) fun t=>K ⟨aE s.ρ d (if t then af G s.ρ a else af G s.ρ b),s.H⟩:=by
 simp only[aG,ag];split<;>simp_all [lh,sb]
theorem GC (e:TypeId):aG P G rd Q ⟨d,.alloc e,ty,pos,aft,g⟩ K s=aR (bT P e) fun z=>aR (s.H.lay s.H.next (.arr 0 e z)) fun H'=>K ⟨aE s.ρ d (.ptr s.H.next 0 0),H'⟩:=by
 simp only[aG,ag,vv];exact sd fun _=>eU ..
theorem GE (e:TypeId)(x:Operand):aG P G rd Q ⟨d,.box e x,ty,pos,aft,g⟩ K s=aR (s.H.lay s.H.next (.arr 0 e (af G s.ρ x).cells)) fun H'=>K ⟨aE s.ρ d (.ptr s.H.next 0 0),H'⟩:=by
 simp [aG,ag,eU]
theorem GF (t:TypeId)(parts:Array (Nat × Operand)):aG P G rd Q ⟨d,.build t parts,ty,pos,aft,g⟩ K s=aR (nN P t (parts.toList.map fun p=>(p.1,af G s.ρ p.2))) fun v=>K ⟨aE s.ρ d v,s.H⟩:=by
 simp [aG,ag,eU]
theorem GG (t:TypeId)(len:Nat)(parts:Array (Nat × Operand)):aG P G rd Q ⟨d,.buildSlice t len parts,ty,pos,aft,g⟩ K s =
  aR (jh P s.H s.H.next t len (parts.toList.map fun p=>(p.1,af G s.ρ p.2))) fun vH=>K ⟨aE s.ρ d vH.1,vH.2⟩:=by
 simp [aG,ag]
theorem GH (t:TypeId)(a:Operand):aG P G rd Q ⟨d,.load t a,ty,pos,aft,g⟩ K s=aR (eE P s.H t (af G s.ρ a)) fun v=>K ⟨aE s.ρ d v,s.H⟩:=by
 simp [aG,ag,eU]
theorem GI (t:TypeId)(a x:Operand):aG P G rd Q ⟨d,.store t a x,ty,pos,aft,g⟩ K s=((P.underlying t).isSome=true/\aR (gh P s.H t (af G s.ρ a) (af G s.ρ x)) fun H'=>K ⟨aE s.ρ d (.lit undef),H'⟩):=by
 simp [aG,ag,zL,eU]
theorem GJ (x:Operand):aG P G rd Q ⟨d,.nilCheck x,ty,pos,aft,g⟩ K s=aR (jj s.H (af G s.ρ x)) fun v=>K ⟨aE s.ρ d v,s.H⟩:=by
 simp [aG,ag,eU]
theorem GK (op:BinOp)(t:TypeId)(x y:Operand)(u:TypeId):aG P G rd Q ⟨d,.binOp op t x y u,ty,pos,aft,g⟩ K s =
  pX P op t (ia s.H op (af G s.ρ x) (af G s.ρ y)) (fun v=>K ⟨aE s.ρ d v,s.H⟩) (aR (aV P op t x y (af G s.ρ x) (af G s.ρ y)) fun v=>K ⟨aE s.ρ d v,s.H⟩):=by
 simp [aG,ag,eU]
theorem GL (op:BinOp)(t:TypeId)(Kb:AVal->Prop)(p:Prop):pX P op t none Kb p=p:=rfl
theorem GM (op:BinOp)(t:TypeId)(k:Bool)(Kb:AVal->Prop)(p:Prop):pX P op t (some k) Kb p=(kY (P.underlying t)=true/\∀ b:Bool,(k=true->b=false)->Kb (.lit (.bool (if op == .neq then !b else b)))):=rfl
theorem GN (e:TypeId):kY (some (.slice e))=true:=rfl
theorem GO (H:AHeap)(op:BinOp)(v:Value)(y:AVal):ia H op (.lit v) y=none:=by
 unfold ia;split<;>rfl
theorem GP (H:AHeap)(n:Nat)(cells:List AVal):ia H .eql (.vec n cells) (.lit (.slice none 0 0))=some (decide (0<n)):=rfl
theorem GQ (H:AHeap)(n:Nat)(cells:List AVal):ia H .neq (.vec n cells) (.lit (.slice none 0 0))=some (decide (0<n)):=rfl
theorem GR:(BinOp.eql == BinOp.neq)=false:=rfl
theorem GS:(BinOp.neq == BinOp.neq)=true:=rfl
theorem GT (op:UnOp)(t:TypeId)(x:Operand):aG P G rd Q ⟨d,.unOp op t x,ty,pos,aft,g⟩ K s=aR (pJ P op (af G s.ρ x)) fun v=>K ⟨aE s.ρ d v,s.H⟩:=by
 simp [aG,ag,eU]
theorem GU (a b:TypeId)(x:Operand):aG P G rd Q ⟨d,.convert a b x,ty,pos,aft,g⟩ K s=aR (ji P s.H a b (af G s.ρ x)) fun v=>K ⟨aE s.ρ d v,s.H⟩:=by
 simp [aG,ag,eU]
theorem GV (f:FuncId)(first cap:Array Operand):aG P G rd Q ⟨d,.makeFunc (.func f) first cap,ty,pos,aft,g⟩ K s=K ⟨aE s.ρ d (.clo f (first.toList.map (af G s.ρ)) (cap.toList.map (af G s.ρ))),s.H⟩:=by
 simp [aG,ag,lh]
theorem GW (t:TypeId)(l c:Operand):aG P G rd Q ⟨d,.makeSlice t l c,ty,pos,aft,g⟩ K s=aR (iM P s.H s.H.next t (af G s.ρ l) (af G s.ρ c)) fun vH=>K ⟨aE s.ρ d vH.1,vH.2⟩:=by
 simp [aG,ag]
theorem GX (t:TypeId)(x:Operand)(lo hi:Option Operand):aG P G rd Q ⟨d,.slice t x lo hi none,ty,pos,aft,g⟩ K s =
  aR (ko P s.H t (af G s.ρ x) (lo.map (af G s.ρ)) (hi.map (af G s.ρ))) fun v=>K ⟨aE s.ρ d v,s.H⟩:=by
 simp [aG,ag,eU]
def oh (P:Program)(H:AHeap)(s:TypeId)(f:Nat)(x:AVal):Option AVal :=
 (bZ P s f).bind fun of=>match x with
  | .ptr id gen off=>(H.live id gen).map fun _=>.ptr id gen (off+of.1)
  | .vptr cells off=>some (.vptr cells (off+of.1))
  | _=>none
theorem GY (t:TypeId)(x:Operand)(f:Nat):aG P G rd Q ⟨d,.fieldAddr t x f,ty,pos,aft,g⟩ K s=aR (oh P s.H t f (af G s.ρ x)) fun v=>K ⟨aE s.ρ d v,s.H⟩:=by
 simp only[aG,ag,oh,vv];refine sd fun of=>?_;split<;>simp_all [sb,eU,lh]
def zQ (P:Program)(t:TypeId)(f:Nat)(x:AVal):Option AVal :=
 (bZ P t f).bind fun of=>match x with
  | .agg cells=>dW P of.2 cells of.1
  | .lit (.agg cs)=>dW P of.2 (cs.toList.map .lit) of.1
  | _=>none
def oo (P:Program)(H:AHeap)(t:TypeId)(x i:AVal):Option AVal:=match i with
 | .lit (.int _ i)=>kS P H t x i
 | _=>none
theorem GZ (t:TypeId)(x i:Operand):aG P G rd Q ⟨d,.indexAddr t x i,ty,pos,aft,g⟩ K s=aR (oo P s.H t (af G s.ρ x) (af G s.ρ i)) fun v=>K ⟨aE s.ρ d v,s.H⟩:=by
 simp only[aG,ag,oo];split<;>simp_all [sb,eU]
theorem G1 (t:TypeId)(x i:Operand):aG P G rd Q ⟨d,.index t x i,ty,pos,aft,g⟩ K s=aR (kV P t (af G s.ρ x) (af G s.ρ i)) fun v=>K ⟨aE s.ρ d v,s.H⟩:=by
 simp [aG,ag,eU]
theorem G2 (t:Operand)(i:Nat):aG P G rd Q ⟨d,.extract t i,ty,pos,aft,g⟩ K s=aR (kr (af G s.ρ t) i) fun v=>K ⟨aE s.ρ d v,s.H⟩:=by
 simp [aG,ag,eU]
theorem G3 (b:Builtin)(args:Array Operand)(ats:Array TypeId):aG P G rd Q ⟨d,.call ⟨.builtin b,args,ats⟩,ty,pos,aft,g⟩ K s =
  aR (fj P s.H s.H.next b ats.toList (args.toList.map (af G s.ρ))) fun vH=>K ⟨aE s.ρ d vH.1,vH.2⟩:=by
 simp [aG,ag]
end ops
theorem builtin_len (H:AHeap)(id:Nat)(t:TypeId)(x:AVal):fj P H id .len [t] [x]=(kq P H t x).map fun v=>(v,H):=rfl
theorem builtin_append (H:AHeap)(id:Nat)(t u:TypeId)(s x:AVal):fj P H id .append [t,u] [s,x]=bF P H id t u s x:=rfl
theorem builtin_copy (H:AHeap)(id:Nat)(t u:TypeId)(s x:AVal):fj P H id .copy [t,u] [s,x]=jN P H t s x:=rfl
theorem builtin_min (H:AHeap)(id:Nat)(ts:List TypeId)(k:IntKind)(a b:Int):fj P H id .min ts [.lit (.int k a),.lit (.int k b)]=some (.lit (.int k (if b<a then b else a)),H):=by
 cases ts with
 | nil=>rfl
 | cons t ts=>rfl
theorem builtin_max (H:AHeap)(id:Nat)(ts:List TypeId)(k:IntKind)(a b:Int):fj P H id .max ts [.lit (.int k a),.lit (.int k b)]=some (.lit (.int k (if b > a then b else a)),H):=by
 cases ts with
 | nil=>rfl
 | cons t ts=>rfl
section nums
variable {t:TypeId} {x y:Operand} {k:IntKind} {a b:Int}
theorem zR:aV P .add t x y (.lit (.int k a)) (.lit (.int k b))=some (.lit (.int k (k.wrap (a+b)))):=by
 simp [aV,AVal.bK,eqGuard,binOp,Op.intArith,cB,bind,Sem.bind,pure]
theorem zS:aV P .sub t x y (.lit (.int k a)) (.lit (.int k b))=some (.lit (.int k (k.wrap (a - b)))):=by
 simp [aV,AVal.bK,eqGuard,binOp,Op.intArith,cB,bind,Sem.bind,pure]
theorem zU:aV P .mul t x y (.lit (.int k a)) (.lit (.int k b))=some (.lit (.int k (k.wrap (a*b)))):=by
 simp [aV,AVal.bK,eqGuard,binOp,Op.intArith,cB,bind,Sem.bind,pure]
theorem G4:aV P .quo t x y (.lit (.int k a)) (.lit (.int k b))=if b≠0 then some (.lit (.int k (k.wrap (a.tdiv b)))) else none:=by
 by_cases h:b=0<;>simp [h,aV,AVal.bK,eqGuard,binOp,Op.intDiv,runtimePanic,program,goPanic,cB,bind,Sem.bind,pure]
theorem G5:aV P .rem t x y (.lit (.int k a)) (.lit (.int k b))=if b≠0 then some (.lit (.int k (a.tmod b))) else none:=by
 by_cases h:b=0<;>simp [h,aV,AVal.bK,eqGuard,binOp,Op.intDiv,runtimePanic,program,goPanic,cB,bind,Sem.bind,pure]
theorem zV:aV P .lss t x y (.lit (.int k a)) (.lit (.int k b))=some (.lit (.bool (decide (a<b)))):=by
 simp [aV,AVal.bK,eqGuard,binOp,Op.intCmp,cB,bind,Sem.bind,pure]
theorem zX:aV P .leq t x y (.lit (.int k a)) (.lit (.int k b))=some (.lit (.bool (decide (a<=b)))):=by
 simp [aV,AVal.bK,eqGuard,binOp,Op.intCmp,cB,bind,Sem.bind,pure]
theorem zY:aV P .gtr t x y (.lit (.int k a)) (.lit (.int k b))=some (.lit (.bool (decide (b<a)))):=by
 simp [aV,AVal.bK,eqGuard,binOp,Op.intCmp,cB,bind,Sem.bind,pure]
theorem zZ:aV P .geq t x y (.lit (.int k a)) (.lit (.int k b))=some (.lit (.bool (decide (b<=a)))):=by
 simp [aV,AVal.bK,eqGuard,binOp,Op.intCmp,cB,bind,Sem.bind,pure]
theorem z4:aV P .eql t x y (.lit (.int k a)) (.lit (.int k b))=some (.lit (.bool (decide (a=b)))):=by
 simp [aV,AVal.bK,eqGuard,binOp,Op.intCmp,cB,bind,Sem.bind,pure];rfl
theorem z5:aV P .neq t x y (.lit (.int k a)) (.lit (.int k b))=some (.lit (.bool (!decide (a=b)))):=by
 simp [aV,AVal.bK,eqGuard,binOp,Op.intCmp,cB,bind,Sem.bind,pure];rfl
theorem G6 (v:Bool):pJ P .not (.lit (.bool v))=some (.lit (.bool (!v))):=rfl
theorem G7 (H:AHeap)(s d:TypeId)(v:Value):ji P H s d (.lit v)=jP P s d (.lit v):=rfl
theorem G8 (H:AHeap)(s d:TypeId)(c:List AVal):ji P H s d (.agg c)=jP P s d (.agg c):=rfl
theorem G9 {s d:TypeId}{k':IntKind}(hs:(P.underlying s).isSome=true)(hd:P.underlying d=some (.int k')):jP P s d (.lit (.int k a))=some (.lit (.int k' (k'.wrap a))):=by
 obtain⟨ds,hs⟩:=Sq.1 hs;simp only[jP,AVal.bK];have:cB P (convert s d (.int k a))=some (.int k' (k'.wrap a)):=by
  simp [convert,underlying,program,hs,hd,cB,bind,Sem.bind,pure,Conv.intToInt]
 rw[this];rfl
end nums
def ext (H:AHeap)(L:List Blk):AHeap :=
 { get:=fun j=>if H.next<=j/\j<H.next+L.length then L[j - H.next]? else H.get j,next:=H.next+L.length }
theorem cJ (H:AHeap)(L:List Blk):(ext H L).next=H.next+L.length:=rfl
theorem qd (H:AHeap)(b:Blk):H.lay H.next b=some (ext H [b]):=by
 unfold AHeap.lay ext;rw[RC rfl];congr 2
 funext j
 by_cases h:j=H.next
 ·subst h;simp
 ·rw[RB h,RB];simp only[List.length_cons,List.length_nil];omega
theorem z6 (H:AHeap)(L:List Blk)(b:Blk):(ext H L).lay (H.next+L.length) b=some (ext H (L++[b])):=by
 unfold AHeap.lay;rw[RC (cJ H L).symm];unfold ext;congr 2
 ·funext j
  simp only[List.length_append,List.length_cons,List.length_nil];by_cases h:j=H.next+L.length
  ·subst h;rw[RC rfl,RC (by omega),TW];simp
  ·rw[RB h];by_cases h2:H.next<=j/\j<H.next+L.length
   ·rw[RC h2,RC (by omega),Si (by omega)]
   ·rw[RB h2,RB (by omega)]
 ·simp only[List.length_append,List.length_cons,List.length_nil];omega
theorem Hg (H:AHeap)(L:List Blk)(i:Nat)(b:Blk)(h:L.length=i):(ext H L).lay (H.next+i) b=some (ext H (L++[b])):=by subst h;exact z6 H L b
theorem bk (H:AHeap)(L:List Blk)(i:Nat)(h:i<L.length):(ext H L).get (H.next+i)=L[i]?:=by
 unfold ext;simp only;rw[RC (by omega),TW]
theorem dI (H:AHeap)(L:List Blk)(i:Nat)(h:i<H.next):(ext H L).get i=H.get i:=by
 unfold ext;simp only;rw[RB (by omega)]
theorem z7 (H:AHeap)(L:List Blk)(i:Nat)(b:Blk)(h:i<L.length):(ext H L).upd (H.next+i) b=ext H (L.set i b):=by
 unfold ext AHeap.upd;simp only[RY];congr 1
 funext j
 by_cases hj:j=H.next+i
 ·subst hj;rw[RC rfl,RC (by omega),TW,RO h]
 ·rw[RB hj];by_cases h2:H.next<=j/\j<H.next+L.length
  ·rw[RC h2,RC h2,R9 (by omega)]
  ·rw[RB h2,RB h2]
def se (b:Option Blk)(gen:Nat):Option (TypeId × List AVal) :=
 match b with
 | some (.arr g e cells)=>if g=gen then some (e,cells) else none
 | _=>none
theorem Hh (g gen:Nat)(e:TypeId)(cells:List AVal):se (some (.arr g e cells)) gen=if g=gen then some (e,cells) else none:=rfl
theorem z8 (H:AHeap)(L:List Blk)(i gen:Nat)(h:i<L.length):(ext H L).live (H.next+i) gen=se L[i]? gen:=by
 unfold AHeap.live se;rw[bk H L i h];rfl
theorem Hl (H:AHeap)(b:Blk)(L:List Blk)(gen:Nat):(ext H (b :: L)).live H.next gen=se (some b) gen:=z8 H (b :: L) 0 gen (by simp)
theorem Hn (H:AHeap)(c:Blk)(L:List Blk)(b:Blk):(ext H (c :: L)).upd H.next b=ext H (b :: L):=z7 H (c :: L) 0 b (by simp)
end Go.Hx
namespace Go.Hx
variable {P:Program} {G:Nat->Option (List AVal)}
def qf (want:Bool):Option AVal->Option Bool
 | some (.lit (.bool b))=>some (b == want)
 | some (.lit _)=>some false
 | none=>some false
 | _=>none
theorem Ht (want b:Bool):qf want (some (.lit (.bool b)))=some (b == want):=rfl
theorem Hv (b:Bool):(b == true)=b:=by cases b<;>rfl
theorem HA (b:Bool):(b == false)=!b:=by cases b<;>rfl
theorem HB (b:Bool)(p q:Prop):fP (!b) p q=fP b q p:=by cases b<;>simp [fP]
theorem Ae (t:Bool)(p q:Prop):(if t=true then p else q)=fP t p q:=by cases t<;>simp [fP]
theorem Af (all:Array Oper)(ρ:Env)(d:Option Tmp)(op:Op)(ty:TypeId)(pos:String)(aft:Array Edge)(j:Nat)(want:Bool):
  dZ all ρ ⟨d,op,ty,pos,aft,some (j,want)⟩=qf want (((all[j]?).bind (·.dst)).map ρ):=by
 unfold dZ;simp only;cases (all[j]?).bind (·.dst) with
 | none=>rfl
 | some d =>
  simp only[Option.map_some];cases ρ d with
  | lit v=>cases v<;>rfl
  | _=>rfl
section
variable {rd:Option Nat} {Q:AX->St->Prop} {s:St} {d:Option Tmp} {ty:TypeId} {pos:String} {aft:Array Edge} {g:Option (Nat × Bool)}
theorem HC (all:Array Oper)(op:Op)(rest:List Oper)(j:Nat)(want:Bool):cW P G rd Q all (⟨d,op,ty,pos,aft,some (j,want)⟩ :: rest) s =
  aR (qf want (((all[j]?).bind (·.dst)).map s.ρ)) fun t=>fP t (aG P G rd Q ⟨d,op,ty,pos,aft,some (j,want)⟩ (cW P G rd Q all rest) s) (cW P G rd Q all rest ⟨aE s.ρ d (.lit undef),s.H⟩):=by
 rw[Gu,Af];exact sd fun _=>Ae ..
variable {all:Array Oper} {tail:St->Prop} {b i:Nat} {bs:List Nat} {acc:List (Nat × FP)} {K:FP->St->Prop}
theorem HD (bs:List Nat):dk P G all tail bs i acc [] s=tail s:=by cases bs<;>rfl
theorem HE (op:Op)(rest:List Oper):dk P G all tail (b :: bs) i acc (⟨d,op,ty,pos,aft,none⟩ :: rest) s =
  bM P G ⟨d,op,ty,pos,aft,none⟩ (fun f s'=>fG b f acc/\dk P G all tail bs (i+1) (dx i f acc) rest s') s:=by
 simp [dk,dZ,aR]
theorem HF (op:Op)(rest:List Oper)(j:Nat)(want:Bool):dk P G all tail (b :: bs) i acc (⟨d,op,ty,pos,aft,some (j,want)⟩ :: rest) s =
  aR (qf want (((all[j]?).bind (·.dst)).map s.ρ)) fun t =>
   fP t (bM P G ⟨d,op,ty,pos,aft,some (j,want)⟩ (fun f s'=>fG b f acc/\dk P G all tail bs (i+1) (dx i f acc) rest s') s)
    (dk P G all tail bs (i+1) acc rest ⟨aE s.ρ d (.lit undef),s.H⟩):=by
 simp only[dk,Af];exact sd fun _=>Ae ..
theorem HG (fv:Operand)(args:Array Operand)(ats:Array TypeId):bM P G ⟨d,.call ⟨.value fv,args,ats⟩,ty,pos,aft,g⟩ K s =
  ∃ v rs,ed P G (af G s.ρ fv) (args.toList.map (af G s.ρ)) s.H v rs/\K ⟨[],rs⟩ ⟨aE s.ρ d v,s.H⟩:=(rfl)
abbrev QF:AX->St->Prop:=fun _ _=>False
theorem HH (x:Operand):bM P G ⟨d,.move x,ty,pos,aft,g⟩ K s=aG P G none QF ⟨d,.move x,ty,pos,aft,g⟩ (K ⟨[],[]⟩) s:=(rfl)
theorem HI (x:Operand):bM P G ⟨d,.assign x,ty,pos,aft,g⟩ K s=aG P G none QF ⟨d,.assign x,ty,pos,aft,g⟩ (K ⟨[],[]⟩) s:=(rfl)
theorem HJ (c x y:Operand):bM P G ⟨d,.pick c x y,ty,pos,aft,g⟩ K s=aG P G none QF ⟨d,.pick c x y,ty,pos,aft,g⟩ (K ⟨[],[]⟩) s:=(rfl)
theorem HK (e:TypeId):bM P G ⟨d,.alloc e,ty,pos,aft,g⟩ K s=aG P G none QF ⟨d,.alloc e,ty,pos,aft,g⟩ (K ⟨[s.H.next],[]⟩) s:=(rfl)
theorem HL (e:TypeId)(x:Operand):bM P G ⟨d,.box e x,ty,pos,aft,g⟩ K s=aG P G none QF ⟨d,.box e x,ty,pos,aft,g⟩ (K ⟨[s.H.next],[]⟩) s:=(rfl)
theorem HM (t:TypeId)(p:Array (Nat × Operand)):bM P G ⟨d,.build t p,ty,pos,aft,g⟩ K s=aG P G none QF ⟨d,.build t p,ty,pos,aft,g⟩ (K ⟨[],[]⟩) s:=(rfl)
theorem HN (t:TypeId)(l:Nat)(p:Array (Nat × Operand)):bM P G ⟨d,.buildSlice t l p,ty,pos,aft,g⟩ K s=aG P G none QF ⟨d,.buildSlice t l p,ty,pos,aft,g⟩ (K ⟨[s.H.next],[]⟩) s:=(rfl)
theorem HO (t:TypeId)(x:Operand):bM P G ⟨d,.load t x,ty,pos,aft,g⟩ K s=aG P G none QF ⟨d,.load t x,ty,pos,aft,g⟩ (K ⟨[],aF (af G s.ρ x)⟩) s:=(rfl)
theorem HP (t:TypeId)(x y:Operand):bM P G ⟨d,.store t x y,ty,pos,aft,g⟩ K s=aG P G none QF ⟨d,.store t x y,ty,pos,aft,g⟩ (K ⟨aF (af G s.ρ x),aF (af G s.ρ x)⟩) s:=(rfl)
theorem HQ (x:Operand):bM P G ⟨d,.nilCheck x,ty,pos,aft,g⟩ K s=aG P G none QF ⟨d,.nilCheck x,ty,pos,aft,g⟩ (K ⟨[],aF (af G s.ρ x)⟩) s:=(rfl)
theorem HR (op:BinOp)(t:TypeId)(x y:Operand)(u:TypeId):bM P G ⟨d,.binOp op t x y u,ty,pos,aft,g⟩ K s=aR (aV P op t x y (af G s.ρ x) (af G s.ρ y)) fun v=>K ⟨[],[]⟩ ⟨aE s.ρ d v,s.H⟩:=by
 simp only[bM,ag,eU];rfl
theorem HS (op:UnOp)(t:TypeId)(x:Operand):bM P G ⟨d,.unOp op t x,ty,pos,aft,g⟩ K s=aG P G none QF ⟨d,.unOp op t x,ty,pos,aft,g⟩ (K ⟨[],[]⟩) s:=(rfl)
theorem HT (t u:TypeId)(x:Operand):bM P G ⟨d,.convert t u x,ty,pos,aft,g⟩ K s=aG P G none QF ⟨d,.convert t u x,ty,pos,aft,g⟩ (K ⟨[],aF (af G s.ρ x)⟩) s:=(rfl)
theorem HU (t:TypeId)(x:Operand):bM P G ⟨d,.makeInterface t x,ty,pos,aft,g⟩ K s=aG P G none QF ⟨d,.makeInterface t x,ty,pos,aft,g⟩ (K ⟨[],[]⟩) s:=(rfl)
theorem HV (f:Fn)(x y:Array Operand):bM P G ⟨d,.makeFunc f x y,ty,pos,aft,g⟩ K s=aG P G none QF ⟨d,.makeFunc f x y,ty,pos,aft,g⟩ (K ⟨[],[]⟩) s:=(rfl)
theorem HW (t:TypeId)(x y:Operand):bM P G ⟨d,.makeSlice t x y,ty,pos,aft,g⟩ K s=aG P G none QF ⟨d,.makeSlice t x y,ty,pos,aft,g⟩ (K ⟨[s.H.next],[]⟩) s:=(rfl)
theorem HX (t:TypeId)(x:Operand)(lo hi mx:Option Operand):bM P G ⟨d,.slice t x lo hi mx,ty,pos,aft,g⟩ K s=aG P G none QF ⟨d,.slice t x lo hi mx,ty,pos,aft,g⟩ (K ⟨[],aF (af G s.ρ x)⟩) s:=(rfl)
theorem HY (t:TypeId)(x:Operand)(f:Nat):bM P G ⟨d,.fieldAddr t x f,ty,pos,aft,g⟩ K s=aG P G none QF ⟨d,.fieldAddr t x f,ty,pos,aft,g⟩ (K ⟨[],aF (af G s.ρ x)⟩) s:=(rfl)
theorem HZ (t:TypeId)(x:Operand)(f:Nat):bM P G ⟨d,.field t x f,ty,pos,aft,g⟩ K s=aG P G none QF ⟨d,.field t x f,ty,pos,aft,g⟩ (K ⟨[],[]⟩) s:=(rfl)
theorem H9 (t:TypeId)(x y:Operand):bM P G ⟨d,.indexAddr t x y,ty,pos,aft,g⟩ K s=aG P G none QF ⟨d,.indexAddr t x y,ty,pos,aft,g⟩ (K ⟨[],aF (af G s.ρ x)⟩) s:=(rfl)
theorem Ic (t:TypeId)(x y:Operand):bM P G ⟨d,.index t x y,ty,pos,aft,g⟩ K s=aG P G none QF ⟨d,.index t x y,ty,pos,aft,g⟩ (K ⟨[],[]⟩) s:=(rfl)
theorem Ie (x:Operand)(f:Nat):bM P G ⟨d,.extract x f,ty,pos,aft,g⟩ K s=aG P G none QF ⟨d,.extract x f,ty,pos,aft,g⟩ (K ⟨[],[]⟩) s:=(rfl)
theorem If (f:Builtin)(args:Array Operand)(ats:Array TypeId):bM P G ⟨d,.call ⟨.builtin f,args,ats⟩,ty,pos,aft,g⟩ K s =
  aG P G none QF ⟨d,.call ⟨.builtin f,args,ats⟩,ty,pos,aft,g⟩ (K (ib P s.H.next f ats.toList (args.toList.map (af G s.ρ)))) s:=rfl
end
theorem Ig (v:Value):aF (.lit v)=[]:=rfl
theorem Ih (n:Nat)(l:List AVal):aF (.vec n l)=[]:=rfl
theorem Ii (l:List AVal)(o:Nat):aF (.vptr l o)=[]:=rfl
theorem Ik (l:List AVal):aF (.agg l)=[]:=rfl
theorem Il (id g o l z:Nat):aF (.own id g o l z)=[id]:=rfl
theorem Im (id g o:Nat):aF (.ptr id g o)=[id]:=rfl
theorem Io (id g o l z:Nat):jR (.own id g o l z)=true:=rfl
theorem Ip (v:Value):jR (.lit v)=false:=rfl
theorem Iq (n:Nat)(l:List AVal):jR (.vec n l)=false:=rfl
theorem Ir (id:Nat)(t:TypeId)(x:AVal):ib P id .len [t] [x]=⟨[],kz P t x⟩:=rfl
theorem Is (id:Nat)(ts:List TypeId)(x y:AVal):ib P id .append ts [x,y]=if jR x=true then ⟨aF x,aF x++aF y⟩ else ⟨[id],aF y⟩:=by
 cases ts with
 | nil=>rfl
 | cons t ts=>cases ts<;>rfl
theorem It (t:TypeId)(x:AVal)(h:aF x=[]):kz P t x=[]:=by unfold kz;split<;>first|exact h|rfl
theorem Iu (t:TypeId)(n:Nat)(l:List AVal):kz P t (.vec n l)=[]:=It _ _ rfl
def lk (f f':FP):Prop:=(∀ r,r∈f.eff->r ∉ f'.rs)/\(∀ r,r∈f'.eff->r ∉ f.rs)
theorem Iv (b:Nat)(f:FP):fG b f []=True:=by simp [fG]
theorem Iw (b:Nat)(f:FP)(j:Nat)(f':FP)(acc:List (Nat × FP)):fG b f ((j,f') :: acc)=((b / 2 ^ j % 2=1\/lk f f')/\fG b f acc):=by
 simp only[fG,List.forall_mem_cons,Nat.testBit_eq_decide_div_mod_eq,SY,eq_iff_iff];refine and_congr ⟨fun h=>?_,fun h hb=>?_⟩ Iff.rfl
 ·by_cases hb:b / 2 ^ j % 2=1
  ·exact .inl hb
  ·exact .inr (h hb)
 ·rcases h with h|h
  ·exact absurd h hb
  ·exact h
theorem Ix (b:Nat)(acc:List (Nat × FP)):fG b ⟨[],[]⟩ acc=True:=by
 simp [fG]
theorem Iy (e r e' r':List Nat):lk ⟨e,r⟩ ⟨e',r'⟩=((∀ x,x∈e->x ∉ r')/\∀ x,x∈e'->x ∉ r):=rfl
theorem Iz (i:Nat)(acc:List (Nat × FP)):dx i ⟨[],[]⟩ acc=acc:=rfl
theorem IA (i x:Nat)(e r:List Nat)(acc:List (Nat × FP)):dx i ⟨x :: e,r⟩ acc=(i,⟨x :: e,r⟩) :: acc:=rfl
theorem IB (i x:Nat)(e r:List Nat)(acc:List (Nat × FP)):dx i ⟨e,x :: r⟩ acc=(i,⟨e,x :: r⟩) :: acc:=by cases e<;>rfl
theorem ed.mk {f:FuncId}{first cap args:List AVal}{H:AHeap}{v:AVal}{rs:List Nat}(hlt:∀ r,r∈rs->r<H.next)
  (h:∀ H2:AHeap,(∀ r,r∈rs->H2.get r=H.get r)->H.next<=H2.next->ae P G f (first++args++cap) H2 fun r H3=>r=.ret v/\H3=H2):ed P G (.clo f first cap) args H v rs :=
 ⟨hlt,fun H2 h1 h2=>az.clo (h H2 h1 h2)⟩
theorem ed.pure {f:FuncId}{args:List AVal}{H:AHeap}{v:AVal}(h:∀ H2:AHeap,ae P G f args H2 fun r H3=>r=.ret v/\H3=H2):ed P G (.clo f [] []) args H v [] :=
 ed.mk (fun _ h=>by cases h) fun H2 _ _=>by simpa using h H2
theorem ae.pure {f:FuncId}{args:List AVal}{H:AHeap}{v:AVal}{K:ARes->AHeap->Prop}(h:∀ H2:AHeap,ae P G f args H2 fun r H3=>r=.ret v/\H3=H2)(hk:K (.ret v) H):ae P G f args H K :=
 (h H).mono fun r H3 ⟨h1,h2⟩=>by rw[h1,h2];exact hk
end Go.Hx
namespace Go.Hx
variable {P:Program} {G:Nat->Option (List AVal)} {H:AHeap}
def qk (H:AHeap)(x:AVal):Option AVal :=
 match x with
  | .vec len _=>some (.lit (.int .i64 len))
  | .own id gen _ len _=>(H.live id gen).map fun _=>.lit (.int .i64 len)
  | .lit (.slice none 0 0)=>some (.lit (.int .i64 0))
  | _=>none
def vC (x:AVal):Option AVal :=
 match x with
  | .lit (.string s)=>some (.lit (.int .i64 s.size))
  | _=>none
def ql (d:Option TypeDesc)(H:AHeap)(x:AVal):Option AVal :=
 match d with
 | some (.slice _)=>qk H x
 | some .string=>vC x
 | some (.array n _)=>some (.lit (.int .i64 n))
 | _=>none
theorem IK (t:TypeId)(x:AVal):kq P H t x=ql (P.underlying t) H x:=rfl
theorem vD (e:TypeId)(x:AVal):ql (some (.slice e)) H x=qk H x:=rfl
theorem IL (x:AVal):ql (some .string) H x=vC x:=rfl
theorem IM (n:Nat)(e:TypeId)(x:AVal):ql (some (.array n e)) H x=some (.lit (.int .i64 n)):=rfl
theorem IN (n:Nat)(l:List AVal):qk H (.vec n l)=some (.lit (.int .i64 n)):=rfl
theorem Am (id g o n z:Nat):qk H (.own id g o n z)=(H.live id g).map fun _=>.lit (.int .i64 n):=rfl
theorem IP:qk H (.lit (.slice none 0 0))=some (.lit (.int .i64 0)):=rfl
theorem IQ (s:ByteArray):vC (.lit (.string s))=some (.lit (.int .i64 s.size)):=rfl
def jT (d:Option TypeDesc)(n:Nat)(cells:List AVal)(off:Nat):Option AVal :=
 match d with
 | none=>none
 | some d=>if nG d then (if off+n<=cells.length then some (.agg ((cells.drop off).take n)) else none) else cells[off]?
theorem IR (t:TypeId)(cells:List AVal)(off:Nat):dW P t cells off=jT (P.underlying t) (P.cellsOf t) cells off:=rfl
theorem IS (k:IntKind)(n:Nat)(cells:List AVal)(off:Nat):jT (some (.int k)) n cells off=cells[off]?:=rfl
theorem IT (n:Nat)(cells:List AVal)(off:Nat):jT (some .bool) n cells off=cells[off]?:=rfl
theorem IU (n:Nat)(cells:List AVal)(off:Nat):jT (some .string) n cells off=cells[off]?:=rfl
theorem IV (e:TypeId)(n:Nat)(cells:List AVal)(off:Nat):jT (some (.slice e)) n cells off=cells[off]?:=rfl
theorem IW (e:TypeId)(n:Nat)(cells:List AVal)(off:Nat):jT (some (.pointer e)) n cells off=cells[off]?:=rfl
theorem IX (fs:Array Field)(n:Nat)(cells:List AVal)(off:Nat):jT (some (.struct fs)) n cells off=if off+n<=cells.length then some (.agg ((cells.drop off).take n)) else none:=rfl
theorem IY (k:Nat)(e:TypeId)(n:Nat)(cells:List AVal)(off:Nat):jT (some (.array k e)) n cells off=if off+n<=cells.length then some (.agg ((cells.drop off).take n)) else none:=rfl
theorem IZ (cells vs:List AVal):setAt cells 0 vs=vs++cells.drop vs.length:=by simp [setAt]
theorem I3 (c:AVal)(cells vs:List AVal)(off:Nat):setAt (c :: cells) (off+1) vs=c :: setAt cells off vs:=by simp [setAt,Nat.succ_add]
theorem I4 (t:TypeId)(cells:List AVal)(off:Nat):eE P H t (.vptr cells off)=dW P t cells off:=rfl
theorem I5 (t:TypeId)(id gen off:Nat):eE P H t (.ptr id gen off)=(H.live id gen).bind fun ec=>dW P t ec.2 off:=by
 simp only[AHeap.live,eE];generalize H.get id=x;cases x with
 | none=>rfl
 | some b =>
  cases b with
  | arr g e cells =>
   simp only;by_cases hg:g=gen
   ·rw[RC hg,RC hg];rfl
   ·rw[RB hg,RB hg];rfl
  | _=>rfl
theorem I6 (t:TypeId)(id gen off:Nat)(v:AVal):gh P H t (.ptr id gen off) v =
  (H.live id gen).bind fun ec=>if v.cells.length=P.cellsOf t/\v.cells.all AVal.one=true/\off+v.cells.length<=ec.2.length then some (H.upd id (.arr gen ec.1 (setAt ec.2 off v.cells))) else none:=by
 simp only[AHeap.live,gh];generalize H.get id=x;cases x with
 | none=>rfl
 | some b =>
  cases b with
  | arr g e cells =>
   simp only;by_cases hg:g=gen
   ·subst hg;simp
   ·rw[RB hg,RB (fun h=>hg h.1)];rfl
  | _=>rfl
def su (H:AHeap)(c:Nat)(x:AVal)(i:Int):Option AVal :=
 match x with
 | .own id gen off len sz=>if 0<=i/\i<(len:Int)/\sz=c then (H.live id gen).map fun _=>.ptr id gen (off+i.toNat*c) else none
 | .vec len cells=>if 0<=i/\i<(len:Int)/\cells≠[] then some (.vptr cells (i.toNat*c)) else none
 | _=>none
def qm (H:AHeap)(c n:Nat)(x:AVal)(i:Int):Option AVal :=
 if 0<=i/\i<(n:Int) then
   match x with
   | .ptr id gen off=>(H.live id gen).map fun _=>.ptr id gen (off+i.toNat*c)
   | .vptr cells off=>some (.vptr cells (off+i.toNat*c))
   | _=>none
 else none
def sx (P:Program)(H:AHeap)(d:Option TypeDesc)(x:AVal)(i:Int):Option AVal :=
 match d with
 | some (.array n e)=>if (P.underlying e).isSome then qm H (P.cellsOf e) n x i else none
 | some (.slice e)=>if (P.underlying e).isSome then su H (P.cellsOf e) x i else none
 | _=>none
theorem I7 (t:TypeId)(x:AVal)(k:IntKind)(i:Int):oo P H t x (.lit (.int k i))=sx P H (P.underlying t) x i:=by
 simp only[oo,kS,sx];cases P.underlying t with
 | none=>rfl
 | some d =>
  cases d with
  | array n e =>
   simp only[qm];by_cases h:(P.underlying e).isSome=true
   ·simp only[h,and_true,if_true];rfl
   ·rw[RB h,RB (fun h'=>h h'.2.2)]
  | slice e=>rfl
  | _=>rfl
theorem I8 (e:TypeId)(x:AVal)(i:Int):sx P H (some (.slice e)) x i=if (P.underlying e).isSome=true then su H (P.cellsOf e) x i else none:=rfl
theorem I9 (n:Nat)(e:TypeId)(x:AVal)(i:Int):sx P H (some (.array n e)) x i=if (P.underlying e).isSome=true then qm H (P.cellsOf e) n x i else none:=rfl
theorem Ja (c n:Nat)(l:List AVal)(i:Int):su H c (.vec n l) i=if 0<=i/\i<(n:Int)/\l≠[] then some (.vptr l (i.toNat*c)) else none:=rfl
theorem Jb (c id g o n z:Nat)(i:Int):su H c (.own id g o n z) i=if 0<=i/\i<(n:Int)/\z=c then (H.live id g).map fun _=>.ptr id g (o+i.toNat*c) else none:=rfl
theorem Jc (c n:Nat)(l:List AVal)(o:Nat)(i:Int):qm H c n (.vptr l o) i=if 0<=i/\i<(n:Int) then some (.vptr l (o+i.toNat*c)) else none:=rfl
theorem Jd (c n id g o:Nat)(i:Int):qm H c n (.ptr id g o) i=if 0<=i/\i<(n:Int) then (H.live id g).map fun _=>.ptr id g (o+i.toNat*c) else none:=rfl
def qo (H : AHeap) (c : Nat) (x : AVal) (lo hi : Option AVal) : Option AVal :=
   match x with
   | .own id gen off len sz=>if sz=c then (H.live id gen).bind fun _=>(bB hi len len).bind fun h=>(bB lo 0 h).map fun l=>.own id gen (off+l*sz) (h - l) sz else none
   | .vec len cells=>if cells.length=len*c then (bB hi len len).bind fun h=>(bB lo 0 h).map fun l=>.vec (h - l) ((cells.drop (l*c)).take ((h - l)*c)) else none
   | .lit (.slice none 0 0)=>(bB hi 0 0).bind fun h=>(bB lo 0 h).map fun _=>.lit (.slice none 0 0)
   | _=>none
def vE (H : AHeap) (c n : Nat) (x : AVal) (lo hi : Option AVal) : Option AVal :=
   match x with
   | .ptr id gen off =>
    match H.live id gen with
    | some (_,cells) =>
     if off+n*c<=cells.length then
      (bB hi n n).bind fun h=>(bB lo 0 h).map fun l=>.own id gen (off+l*c) (h - l) c
     else none
    | none=>none
   | .vptr cells off=>if off+n*c≤cells.length then
      (bB hi n n).bind fun h=>(bB lo 0 h).map fun l=>.vec (h - l) ((cells.drop (off+l*c)).take ((h - l)*c))
     else none
   | _=>none
def vF (x:AVal)(lo hi:Option AVal):Option AVal :=
  match x with
  | .lit (.string s)=>(bB hi s.size s.size).bind fun h=>(bB lo 0 h).map fun l=>.lit (.string (s.extract l h))
  | _=>none
def sy (P:Program)(H:AHeap)(d:Option TypeDesc)(x:AVal)(lo hi:Option AVal):Option AVal :=
 match d with
 | some (.array n e)=>if (P.underlying e).isSome then vE H (P.cellsOf e) n x lo hi else none
 | some (.slice e)=>if (P.underlying e).isSome then qo H (P.cellsOf e) x lo hi else none
 | some .string=>vF x lo hi
 | _=>none
theorem Je (t:TypeId)(x:AVal)(lo hi:Option AVal):ko P H t x lo hi=sy P H (P.underlying t) x lo hi:=rfl
theorem Jf (e:TypeId)(x:AVal)(lo hi:Option AVal):sy P H (some (.slice e)) x lo hi=if (P.underlying e).isSome=true then qo H (P.cellsOf e) x lo hi else none:=rfl
theorem Jg (n:Nat)(e:TypeId)(x:AVal)(lo hi:Option AVal):sy P H (some (.array n e)) x lo hi=if (P.underlying e).isSome=true then vE H (P.cellsOf e) n x lo hi else none:=rfl
theorem Jh (x:AVal)(lo hi:Option AVal):sy P H (some .string) x lo hi=vF x lo hi:=rfl
theorem Ji (c id g o n z:Nat)(lo hi:Option AVal):qo H c (.own id g o n z) lo hi=if z=c then (H.live id g).bind fun _=>(bB hi n n).bind fun h=>(bB lo 0 h).map fun l=>.own id g (o+l*z) (h - l) z else none:=rfl
theorem Jj (c n:Nat)(cells:List AVal)(lo hi:Option AVal):qo H c (.vec n cells) lo hi=if cells.length=n*c then (bB hi n n).bind fun h=>(bB lo 0 h).map fun l=>.vec (h - l) ((cells.drop (l*c)).take ((h - l)*c)) else none:=rfl
theorem Jk (c:Nat)(lo hi:Option AVal):qo H c (.lit (.slice none 0 0)) lo hi=(bB hi 0 0).bind fun h=>(bB lo 0 h).map fun _=>.lit (.slice none 0 0):=rfl
theorem Jl (c n : Nat) (cells : List AVal) (off : Nat) (lo hi : Option AVal) : vE H c n (.vptr cells off) lo hi=if off+n*c≤cells.length then
      (bB hi n n).bind fun h=>(bB lo 0 h).map fun l=>.vec (h - l) ((cells.drop (off+l*c)).take ((h - l)*c)) else none:=rfl
theorem Jm (s:ByteArray)(lo hi:Option AVal):vF (.lit (.string s)) lo hi=(bB hi s.size s.size).bind fun h=>(bB lo 0 h).map fun l=>.lit (.string (s.extract l h)):=rfl
theorem Jn (d m:Nat):bB none d m=some d:=rfl
theorem Jo (k:IntKind)(i:Int)(d m:Nat):bB (some (.lit (.int k i))) d m=if 0<=i/\i<=(m:Int) then some i.toNat else none:=rfl
theorem Jp (sz n:Nat)(l:List AVal):cM H sz (.vec n l)=if l.length=n*sz then some (n,l) else none:=rfl
theorem qp (sz id g o n z:Nat):cM H sz (.own id g o n z)=if z=sz then (H.live id g).map fun x=>(n,(x.2.drop o).take (n*sz)) else none:=rfl
theorem vG (sz:Nat):cM H sz (.lit (.slice none 0 0))=some (0,[]):=rfl
def sC (P:Program)(H:AHeap)(id:Nat)(d0 d1:Option TypeDesc)(s x:AVal):Option (AVal × AHeap) :=
 match d0,d1 with
 | some (.slice e),some (.slice _)=>(bT P e).bind fun _=>(cM H (P.cellsOf e) x).bind fun nx =>
    match s with
    | .lit (.slice none 0 0) =>
     if nx.1=0 then some (s,H)
     else if nx.1*P.bytesOf e<=2 ^ 46/\nx.1<=2 ^ 46 then (H.lay id (.arr 0 e nx.2)).map fun H'=>(.own id 0 0 nx.1 (P.cellsOf e),H')
     else none
    | .own id' gen off len sz =>
     (H.live id' gen).bind fun ec =>
      if ec.1=e/\sz=P.cellsOf e/\off+len*sz=ec.2.length/\(len+nx.1)*P.bytesOf e<=2 ^ 46/\len+nx.1<=2 ^ 46/\nx.2.all AVal.one=true then
       if nx.1=0 then some (s,H)
       else some (.own id' (gen+1) 0 (len+nx.1) sz,H.upd id' (.arr (gen+1) e (ec.2.drop off++nx.2)))
      else none
    | _=>none
 | _,_=>none
theorem cb (id:Nat)(t u:TypeId)(s x:AVal):bF P H id t u s x=sC P H id (P.underlying t) (P.underlying u) s x:=by
 unfold bF sC;cases P.underlying t with
 | none=>rfl
 | some d =>
  cases d with
  | slice e =>
   cases P.underlying u with
   | none=>rfl
   | some d'=>cases d'<;>rfl
  | _=>rfl
theorem Jq (id:Nat)(e u:TypeId)(x:AVal):sC P H id (some (.slice e)) (some (.slice u)) (.lit (.slice none 0 0)) x=(bT P e).bind fun _=>(cM H (P.cellsOf e) x).bind fun nx =>
  if nx.1=0 then some (.lit (.slice none 0 0),H) else if nx.1*P.bytesOf e<=2 ^ 46/\nx.1<=2 ^ 46 then (H.lay id (.arr 0 e nx.2)).map fun H'=>(.own id 0 0 nx.1 (P.cellsOf e),H') else none:=rfl
theorem Jr (id:Nat)(e u:TypeId)(x:AVal)(id' gen off len sz:Nat):sC P H id (some (.slice e)) (some (.slice u)) (.own id' gen off len sz) x=(bT P e).bind fun _=>(cM H (P.cellsOf e) x).bind fun nx =>
  (H.live id' gen).bind fun ec =>
      if ec.1=e/\sz=P.cellsOf e/\off+len*sz=ec.2.length/\(len+nx.1)*P.bytesOf e<=2 ^ 46/\len+nx.1<=2 ^ 46/\nx.2.all AVal.one=true then
       if nx.1=0 then some (.own id' gen off len sz,H)
       else some (.own id' (gen+1) 0 (len+nx.1) sz,H.upd id' (.arr (gen+1) e (ec.2.drop off++nx.2)))
      else none:=rfl
def An (P:Program)(H:AHeap)(d0:Option TypeDesc)(d x:AVal):Option (AVal × AHeap) :=
 match d0 with
 | some (.slice e) =>
  if (P.underlying e).isSome then
   (cM H (P.cellsOf e) x).bind fun nx =>
    match d with
    | .own id gen off len sz =>
     (H.live id gen).bind fun ec =>
      if sz=P.cellsOf e/\off+len*sz<=ec.2.length/\nx.2.all AVal.one=true then
       some (.lit (.int .i64 (min nx.1 len:Nat)),H.upd id (.arr gen ec.1 (setAt ec.2 off (nx.2.take (min nx.1 len*sz)))))
      else none
    | _=>none
  else none
 | _=>none
theorem Js (t:TypeId)(d x:AVal):jN P H t d x=An P H (P.underlying t) d x:=rfl
theorem Jt (e : TypeId) (id gen off len sz : Nat) (x : AVal) : An P H (some (.slice e)) (.own id gen off len sz) x=if (P.underlying e).isSome=true then
   (cM H (P.cellsOf e) x).bind fun nx=>(H.live id gen).bind fun ec =>
      if sz=P.cellsOf e/\off+len*sz<=ec.2.length/\nx.2.all AVal.one=true then
       some (.lit (.int .i64 (min nx.1 len:Nat)),H.upd id (.arr gen ec.1 (setAt ec.2 off (nx.2.take (min nx.1 len*sz)))))
      else none
   else none:=rfl
def vI (P:Program)(H:AHeap)(id:Nat)(d:Option TypeDesc)(l c:AVal):Option (AVal × AHeap) :=
 match d,l,c with
 | some (.slice e),.lit (.int _ l),.lit (.int _ c) =>
  if 0<=l/\l<=c/\c*P.bytesOf e<=2 ^ 46/\c<=2 ^ 46 then
   (jf P e l.toNat).bind fun cells=>(H.lay id (.arr 0 e cells)).map fun H'=>(.own id 0 0 l.toNat (P.cellsOf e),H')
  else none
 | _,_,_=>none
theorem Ju (id:Nat)(t:TypeId)(l c:AVal):iM P H id t l c=vI P H id (P.underlying t) l c:=by
 unfold iM vI;cases P.underlying t with
 | none=>rfl
 | some d=>rfl
theorem Jv (id : Nat) (e : TypeId) (k k' : IntKind) (l c : Int) : vI P H id (some (.slice e)) (.lit (.int k l)) (.lit (.int k' c))=if 0≤l∧l≤c∧c*P.bytesOf e≤2 ^ 46∧c≤2 ^ 46 then
   (jf P e l.toNat).bind fun cells=>(H.lay id (.arr 0 e cells)).map fun H'=>(.own id 0 0 l.toNat (P.cellsOf e),H')
  else none:=rfl
theorem Jw (e:TypeId)(n:Nat):jf P e n=(bT P e).map fun z=>(List.replicate n z).flatten:=rfl
theorem Jx (n:Nat)(v:AVal):(List.replicate n [v]).flatten=List.replicate n v:=by
 induction n with
 | zero=>rfl
 | succ n ih=>rw[TU,List.flatten_cons,ih,TU];rfl
def Ao (P:Program)(H:AHeap)(id:Nat)(d:Option TypeDesc)(len:Nat)(parts:List (Nat × AVal)):Option (AVal × AHeap) :=
 match d with
 | some (.slice e) =>
  if len*P.cellsOf e<=2 ^ 24 then
   (jf P e len).bind fun z=>(dX (fun i=>some (i*P.cellsOf e,P.cellsOf e)) z parts).bind fun cells =>
    (H.lay id (.arr 0 e cells)).map fun H'=>(.own id 0 0 len (P.cellsOf e),H')
  else none
 | _=>none
theorem Jy (id:Nat)(t:TypeId)(len:Nat)(parts:List (Nat × AVal)):jh P H id t len parts=Ao P H id (P.underlying t) len parts:=rfl
theorem Jz (id : Nat) (e : TypeId) (len : Nat) (parts : List (Nat × AVal)) : Ao P H id (some (.slice e)) len parts=if len*P.cellsOf e≤2 ^ 24 then
   (jf P e len).bind fun z=>(dX (fun i=>some (i*P.cellsOf e,P.cellsOf e)) z parts).bind fun cells =>
    (H.lay id (.arr 0 e cells)).map fun H'=>(.own id 0 0 len (P.cellsOf e),H')
  else none:=rfl
def vJ (P:Program)(t:TypeId)(d:Option TypeDesc)(parts:List (Nat × AVal)):Option AVal :=
 (bT P t).bind fun z =>
  match d with
  | some (.struct _)=>(jM P t).bind fun pl=>(dX (fun i=>pl[i]?) z parts).map .agg
  | some (.array _ e)=>if (P.underlying e).isSome then (dX (fun i=>some (i*P.cellsOf e,P.cellsOf e)) z parts).map .agg else none
  | _=>none
theorem JA (t:TypeId)(parts:List (Nat × AVal)):nN P t parts=vJ P t (P.underlying t) parts:=rfl
theorem JB (t:TypeId)(fs:Array Field)(parts:List (Nat × AVal)):vJ P t (some (.struct fs)) parts=(bT P t).bind fun z=>(jM P t).bind fun pl=>(dX (fun i=>pl[i]?) z parts).map .agg:=rfl
theorem JC (t:TypeId)(n:Nat)(e:TypeId)(parts:List (Nat × AVal)):vJ P t (some (.array n e)) parts=(bT P t).bind fun z=>if (P.underlying e).isSome=true then (dX (fun i=>some (i*P.cellsOf e,P.cellsOf e)) z parts).map .agg else none:=rfl
theorem JD (pl:Nat->Option (Nat × Nat))(cells:List AVal):dX pl cells []=some cells:=rfl
theorem JE (pl:Nat->Option (Nat × Nat))(cells:List AVal)(i:Nat)(v:AVal)(rest:List (Nat × AVal)):dX pl cells ((i,v) :: rest)=(pl i).bind fun os =>
  if v.cells.length=os.2/\os.1+v.cells.length<=cells.length then dX pl (setAt cells os.1 v.cells) rest else none:=by
 simp only[dX];cases pl i<;>rfl
theorem JF (k:IntKind)(n:Int):(AVal.lit (.int k n)).cells=[.lit (.int k n)]:=rfl
theorem JG (b:Bool):(AVal.lit (.bool b)).cells=[.lit (.bool b)]:=rfl
theorem JH (s:ByteArray):(AVal.lit (.string s)).cells=[.lit (.string s)]:=rfl
theorem JI (a:Option Addr)(n c:Nat):(AVal.lit (.slice a n c)).cells=[.lit (.slice a n c)]:=rfl
theorem JJ (l:List AVal):(AVal.agg l).cells=l:=rfl
theorem JK (n:Nat)(l:List AVal):(AVal.vec n l).cells=[.vec n l]:=rfl
theorem JL (a b c d e:Nat):(AVal.own a b c d e).cells=[.own a b c d e]:=rfl
theorem JM (a b c:Nat):(AVal.ptr a b c).cells=[.ptr a b c]:=rfl
theorem JN (k:IntKind)(n:Int):(AVal.lit (.int k n)).one=true:=rfl
theorem JO (b:Bool):(AVal.lit (.bool b)).one=true:=rfl
theorem JP (s:ByteArray):(AVal.lit (.string s)).one=true:=rfl
theorem JQ (a:Option Addr)(n c:Nat):(AVal.lit (.slice a n c)).one=true:=rfl
theorem JR (n:Nat)(l:List AVal):(AVal.vec n l).one=true:=rfl
theorem JS (a b c d e:Nat):(AVal.own a b c d e).one=true:=rfl
theorem JT (a b c:Nat):(AVal.ptr a b c).one=true:=rfl
def aa (n:Int):AVal:=.lit (.int .i64 n)
def ints (l:List Int):List AVal:=l.map aa
def ab (l:List Int):AVal:=.vec l.length (ints l)
theorem bO (l:List Int):(ints l).length=l.length:=RJ ..
theorem gI (l:List Int)(i:Nat):(ints l)[i]?=(l[i]?).map aa:=List.getElem?_map ..
theorem Ah (l:List Int):ints l=[]↔l=[]:=List.map_eq_nil_iff
end Go.Hx
namespace Go.Hx
variable {P:Program} {G:Nat->Option (List AVal)} {Γ Γ':au} {H H':AHeap} {w w':World}
inductive Below (n:Nat):AVal->Prop
 | lit (v:Value):Below n (.lit v)
 | vec {len:Nat} {cells:List AVal} (h:∀ i (h:i<cells.length),Below n cells[i]):Below n (.vec len cells)
 | vptr {off:Nat} {cells:List AVal} (h:∀ i (h:i<cells.length),Below n cells[i]):Below n (.vptr cells off)
 | agg {cells:List AVal} (h:∀ i (h:i<cells.length),Below n cells[i]):Below n (.agg cells)
 | tup {cells:List AVal} (h:∀ i (h:i<cells.length),Below n cells[i]):Below n (.tup cells)
 | clo {f:FuncId} {a b:List AVal} (h1:∀ i (h:i<a.length),Below n a[i]) (h2:∀ i (h:i<b.length),Below n b[i]):Below n (.clo f a b)
 | own {id g o l z:Nat} (h:id<n):Below n (.own id g o l z)
 | ptr {id g o:Nat} (h:id<n):Below n (.ptr id g o)
 | yld {id:Nat} (h:id<n):Below n (.yld id)
theorem RelV.qg {v:AVal}{cv:Value}(h:RelV P Γ H w v cv):Below H.next v:=by
 induction h with
 | lit v=>exact .lit v
 | vec0 a cap=>exact .vec fun i h=>absurd h (RV _)
 | vec hb hlt hlen hcs hcell hrel ih=>exact .vec fun i h=>ih i h (by omega)
 | own h=>exact .own h.1
 | ptr h=>exact .ptr h.1
 | vptr hb hlt hcs hcell hrel ih=>exact .vptr fun i h=>ih i h (by omega)
 | agg hcs hrel ih=>exact .agg fun i h=>ih i h (by omega)
 | tup hcs hrel ih=>exact .tup fun i h=>ih i h (by omega)
 | clo hfs hcs hf hc ih1 ih2=>exact .clo (fun i h=>ih1 i h (by omega)) fun i h=>ih2 i h (by omega)
 | yld h=>exact .yld h.1
def IC (n:Nat):Blk->Prop
 | .arr _ _ cells=>∀ i (h:i<cells.length),Below n cells[i]
 | .loop _ _ m env _ _ _=>∀ t,t<m->Below n (env t)
 | .mp _=>True
 | .rsv=>True
structure Clo (H:AHeap):Prop where
 lt:∀ id b,H.get id=some b->id<H.next
 below:∀ id b,H.get id=some b->IC H.next b
theorem RelH.clo (R:RelH P G Γ H w):Clo H:=by
 refine⟨fun id b h=>R.next id b h,fun id b h=>?_⟩;cases b with
 | rsv=>trivial
 | mp=>trivial
 | arr g e cells =>
  intro i hi;have h1:=R.arr id g e cells h;split at h1
  ·obtain⟨c,_,_,_,h5⟩:=h1;obtain⟨cv,_,h6⟩:=h5 i hi;exact h6.qg
  ·subst h1;exact absurd hi (RV _)
 | loop st pend n env ps asg body =>
  intro t ht;obtain⟨b,r,_,_,_,_,_,_,_,h8,h9⟩:=R.loop id st pend n env ps asg body h;exact(h9 t (by omega)).qg
inductive Fz (S:Nat->Prop)(H:AHeap)(nx:Nat):AVal->AVal->Prop
 | lit (v:Value):Fz S H nx (.lit v) (.lit v)
 | vec {len:Nat} {c c':List AVal} (hl:c'.length=c.length) (h:∀ i (h:i<c.length) (h':i<c'.length),Fz S H nx c[i] c'[i]):Fz S H nx (.vec len c) (.vec len c')
 | vptr {off:Nat} {c c':List AVal} (hl:c'.length=c.length) (h:∀ i (h:i<c.length) (h':i<c'.length),Fz S H nx c[i] c'[i]):Fz S H nx (.vptr c off) (.vptr c' off)
 | agg {c c':List AVal} (hl:c'.length=c.length) (h:∀ i (h:i<c.length) (h':i<c'.length),Fz S H nx c[i] c'[i]):Fz S H nx (.agg c) (.agg c')
 | tup {c c':List AVal} (hl:c'.length=c.length) (h:∀ i (h:i<c.length) (h':i<c'.length),Fz S H nx c[i] c'[i]):Fz S H nx (.tup c) (.tup c')
 | clo {f:FuncId} {a a' b b':List AVal} (ha:a'.length=a.length) (hb:b'.length=b.length) (h1:∀ i (h:i<a.length) (h':i<a'.length),Fz S H nx a[i] a'[i]) (h2:∀ i (h:i<b.length) (h':i<b'.length),Fz S H nx b[i] b'[i]):Fz S H nx (.clo f a b) (.clo f a' b')
 | own {id g o l z:Nat} (h:id<nx) (hs:¬ S id):Fz S H nx (.own id g o l z) (.own id g o l z)
 | ptr {id g o:Nat} (h:id<nx) (hs:¬ S id):Fz S H nx (.ptr id g o) (.ptr id g o)
 | yld {id:Nat} (h:id<nx) (hs:¬ S id):Fz S H nx (.yld id) (.yld id)
 | deadOwn {id g o l z:Nat} (h:id<nx) (hs:S id):Fz S H nx (.own id g o l z) (.own id g o l z)
 | deadPtr {id g o:Nat} (h:id<nx) (hs:S id):Fz S H nx (.ptr id g o) (.ptr id g o)
 | deadYld {id:Nat} (h:id<nx) (hs:S id):Fz S H nx (.yld id) (.yld id)
 | nil:Fz S H nx (.lit (.slice none 0 0)) (.vec 0 [])
 | frz {id g o l z:Nat} {e:TypeId} {cells c':List AVal} (hs:S id) (hg:H.get id=some (.arr g e cells)) (hl:c'.length=l*z)
   (h:∀ i (h:i<l*z) (h2:o+i<cells.length) (h':i<c'.length),Fz S H nx cells[o+i] c'[i]):Fz S H nx (.own id g o l z) (.vec l c')
 | pfrz {id g o:Nat} {e:TypeId} {cells c':List AVal} (hs:S id) (hg:H.get id=some (.arr g e cells)) (hne:cells≠[]) (hl:c'.length=cells.length)
   (h:∀ i (h:i<cells.length) (h':i<c'.length),Fz S H nx cells[i] c'[i]):Fz S H nx (.ptr id g o) (.vptr c' o)
theorem Fz.refl {S:Nat->Prop}{H:AHeap}{nx:Nat}{v:AVal}(h:Below nx v)(hs:∀ id,id<nx->¬ S id):Fz S H nx v v:=by
 induction h with
 | lit v=>exact .lit v
 | vec _ ih=>exact .vec rfl fun i h _=>ih i h
 | vptr _ ih=>exact .vptr rfl fun i h _=>ih i h
 | agg _ ih=>exact .agg rfl fun i h _=>ih i h
 | tup _ ih=>exact .tup rfl fun i h _=>ih i h
 | clo _ _ ih1 ih2=>exact .clo rfl rfl (fun i h _=>ih1 i h) fun i h _=>ih2 i h
 | own h=>exact .own h (hs _ h)
 | ptr h=>exact .ptr h (hs _ h)
 | yld h=>exact .yld h (hs _ h)
def Ag (S:Nat->Prop)(H:AHeap)(nx:Nat):Blk->Blk->Prop
 | .arr g e c,.arr g' e' c'=>g'=g/\e'=e/\c'.length=c.length/\∀ i (_:i<c.length) (_:i<c'.length),Fz S H nx c[i] c'[i]
 | .loop st pend n env ps asg body,.loop st' pend' n' env' ps' asg' body'=>st'=st/\pend'=pend/\n'=n/\env'=env/\ps'=ps/\asg'=asg/\body'=body/\∀ t,t<n->Fz S H nx (env t) (env t)
 | .mp es,.mp es'=>es'=es
 | .rsv,.rsv=>True
 | _,_=>False
structure FzH (S:Nat->Prop)(H H':AHeap):Prop where
 gone:∀ id,S id->H'.get id=none
 kept:∀ id b,¬ S id->H.get id=some b->id<H'.next/\∃ b',H'.get id=some b'/\Ag S H H'.next b b'
 none:∀ id,¬ S id->H.get id=none->H'.get id=none
open Classical in
noncomputable def eV (S:Nat->Prop)(Γ:au):au:=fun id=>if S id then none else Γ id
theorem ie {S:Nat->Prop}{id:Nat}(h:¬ S id):eV S Γ id=Γ id:=by simp [eV,h]
theorem jS {S:Nat->Prop}{id:Nat}{x:Nat × Nat × Nat}(h:eV S Γ id=some x):¬ S id/\Γ id=some x:=by
 unfold eV at h;split at h
 ·cases h
 ·exact⟨by assumption,h⟩
theorem so {S:Nat->Prop}{b:Nat}(h:(eV S Γ).eD b):Γ.eD b:=by
 obtain⟨id,base,n,h⟩:=h;exact⟨id,base,n,(jS h).2⟩
theorem FzH.back {S:Nat->Prop}(F:FzH S H H'){id:Nat}{b':Blk}(h:H'.get id=some b'):¬ S id/\∃ b,H.get id=some b/\Ag S H H'.next b b'/\id<H'.next:=by
 have hs:¬ S id:=fun hs=>by rw[F.gone id hs]at h;cases h
 refine⟨hs,?_⟩;cases hg:H.get id with
 | none=>rw[F.none id hs hg]at h;cases h
 | some b =>
  obtain⟨h1,b1,h2,h3⟩:=F.kept id b hs hg;rw[h]at h2;cases h2;exact⟨b,rfl,h3,h1⟩
theorem Fz.sound {S:Nat->Prop}(R:RelH P G Γ H w)(F:FzH S H H'){v v':AVal}(hf:Fz S H H'.next v v'):∀ {cv:Value},RelV P Γ H w v cv->RelV P (eV S Γ) H' w v' cv:=by
 induction hf with
 | lit v=>intro cv h;cases h;exact .lit _
 | nil=>intro cv h;cases h;exact .vec0 none 0
 | deadOwn hlt hs =>
  intro cv h;cases h with
  | own h=>exact .own ⟨hlt,h.2.1,fun hr=>(by rw[F.gone _ hs]at hr;cases hr),fun _ _ _ hg=>(by rw[F.gone _ hs]at hg;cases hg)⟩
 | deadPtr hlt hs =>
  intro cv h;cases h with
  | ptr h=>exact .ptr ⟨hlt,h.2.1,fun hr=>(by rw[F.gone _ hs]at hr;cases hr),fun _ _ _ hg=>(by rw[F.gone _ hs]at hg;cases hg)⟩
 | deadYld hlt hs =>
  intro cv h;cases h with
  | yld h=>exact .yld ⟨hlt,h.2.1,fun hr=>(by rw[F.gone _ hs]at hr;cases hr),fun _ _ _ _ _ _ _ hg=>(by rw[F.gone _ hs]at hg;cases hg),fun _ hg=>(by rw[F.gone _ hs]at hg;cases hg)⟩
 | vec hl hc ih =>
  intro cv h;cases h with
  | vec0 a cap =>
   rename_i c';have:c'=[]:=RT hl;subst this;exact .vec0 a cap
  | vec hb hlt hlen hcs hcell hrel=>exact .vec (fun h=>hb (so h)) hlt hlen (by omega) hcell fun i h1 h2=>ih i (by omega) h1 (hrel i (by omega) h2)
 | vptr hl hc ih =>
  intro cv h;cases h with
  | vptr hb hlt hcs hcell hrel=>exact .vptr (fun h=>hb (so h)) hlt (by omega) hcell fun i h1 h2=>ih i (by omega) h1 (hrel i (by omega) h2)
 | agg hl hc ih =>
  intro cv h;cases h with
  | agg hcs hrel=>exact .agg (by omega) fun i h1 h2=>ih i (by omega) h1 (hrel i (by omega) h2)
 | tup hl hc ih =>
  intro cv h;cases h with
  | tup hcs hrel=>exact .tup (by omega) fun i h1 h2=>ih i (by omega) h1 (hrel i (by omega) h2)
 | clo ha hb h1 h2 ih1 ih2 =>
  intro cv h;cases h with
  | clo hfs hcs hf hc=>exact .clo (by omega) (by omega) (fun i a b=>ih1 i (by omega) a (hf i (by omega) b)) fun i a b=>ih2 i (by omega) a (hc i (by omega) b)
 | own hlt hs =>
  intro cv h;cases h with
  | own h =>
   obtain⟨h1,h2,h0,h3⟩:=h;refine .own ⟨hlt,h2,fun hr=>?_,fun g' e' cells' hg'=>?_⟩
   ·obtain⟨_,b,hb,hfb,_⟩:=F.back hr;cases b with
    | rsv=>exact h0 hb
    | _=>exact hfb.elim
   ·obtain⟨_,b,hb,hfb,_⟩:=F.back hg';cases b with
    | arr g e cells =>
     obtain⟨rfl,rfl,hlen,_⟩:=hfb;have:=h3 _ _ _ hb;rw[ie hs,hlen];exact this
    | _=>exact hfb.elim
 | ptr hlt hs =>
  intro cv h;cases h with
  | ptr h =>
   obtain⟨h1,h2,h0,h3⟩:=h;refine .ptr ⟨hlt,h2,fun hr=>?_,fun g' e' cells' hg'=>?_⟩
   ·obtain⟨_,b,hb,hfb,_⟩:=F.back hr;cases b with
    | rsv=>exact h0 hb
    | _=>exact hfb.elim
   ·obtain⟨_,b,hb,hfb,_⟩:=F.back hg';cases b with
    | arr g e cells =>
     obtain⟨rfl,rfl,hlen,_⟩:=hfb;have:=h3 _ _ _ hb;rw[ie hs];exact this
    | _=>exact hfb.elim
 | yld hlt hs =>
  intro cv h;cases h with
  | yld h =>
   obtain⟨h1,h2,h0,h3,h4⟩:=h;refine .yld ⟨hlt,h2,fun hr=>?_,fun st pend n env ps asg body hg'=>?_,fun es hg'=>?_⟩
   ·obtain⟨_,b,hb,hfb,_⟩:=F.back hr;cases b with
    | rsv=>exact h0 hb
    | _=>exact hfb.elim
   ·obtain⟨_,b,hb,hfb,_⟩:=F.back hg';cases b with
    | loop st0 pend0 n0 env0 ps0 asg0 body0 =>
     have:=h3 _ _ _ _ _ _ _ hb;rw[ie hs];exact this
    | _=>exact hfb.elim
   ·obtain⟨_,b,hb,hfb,_⟩:=F.back hg';cases b with
    | mp es0 =>
     have:=h4 _ hb;rw[ie hs];exact this
    | _=>exact hfb.elim
 | @frz id g o l z e cells c' hs hg hl hc ih =>
  intro cv h;cases h with
  | own h =>
   obtain⟨h1,h2,h0,h3⟩:=h;have h4:=(h3 _ _ _ hg).2 rfl;have harr:=R.arr id g e cells hg;cases hΓ:Γ id with
   | none =>
    rw[hΓ]at h4;obtain⟨rfl,rfl,rfl⟩:=h4;have:c'=[]:=RT (by simpa using hl);subst this;exact .vec0 _ _
   | some y =>
    obtain⟨b,base,n⟩:=y;rw[hΓ]at h4 harr;obtain⟨a,cap,rfl,hcap,hoff,hor⟩:=h4;obtain⟨c,a1,a2,a3,a4⟩:=harr;rcases hor with ⟨rfl,hn⟩|⟨rfl,rfl⟩
    ·have hcell:∀ i,i<l*z->∃ cv,c[base+(o+i)]?=some cv/\∀ (h:o+i<cells.length),RelV P Γ H w cells[o+i] cv:=fun i hi=>by
      obtain⟨cv,b1,b2⟩:=a4 (o+i) (by omega);exact⟨cv,b1,fun _=>b2⟩
     let cs:List Value:=(List.range (l*z)).map fun i=>(c[base+(o+i)]?).getD undef
     have hcs:cs.length=c'.length:=(by simp [cs,hl]);refine .vec (cs:=cs) (fun ho=>?_) (R.lt _ _ _ _ hΓ) hcap hcs (fun i hi=>?_) fun i hi hi'=>?_
     ·obtain⟨id',base',n',h'⟩:=ho;obtain⟨hns,h''⟩:=jS h';have:=R.inj _ _ _ _ _ _ _ h'' hΓ;subst this;exact hns hs
     ·have hi2:i<l*z:=(by rw[hcs,hl]at hi;exact hi);obtain⟨cv,b1,_⟩:=hcell i hi2;have:cs[i]=cv:=(by simp [cs,b1]);rw[this];have he:base+o+i=base+(o+i):=(by omega);simp only[World.cell?,a1,he];exact b1
     ·have hi2:i<l*z:=(by rw[hl]at hi;exact hi);obtain⟨cv,b1,b2⟩:=hcell i hi2;have:cs[i]=cv:=(by simp [cs,b1]);rw[this];exact ih i hi2 (by omega) hi (b2 (by omega))
    ·have:c'=[]:=RT (by simpa using hl);subst this;exact .vec0 _ _
 | @pfrz id g o e cells c' hs hg hne hl hc ih =>
  intro cv h;cases h with
  | ptr h =>
   obtain⟨h1,h2,h0,h3⟩:=h;obtain⟨b,base,n,hΓ,rfl⟩:=(h3 _ _ _ hg).2 rfl;have harr:=R.arr id g e cells hg;rw[hΓ]at harr;obtain⟨c,a1,a2,a3,a4⟩:=harr
   let cs:List Value:=(List.range cells.length).map fun i=>(c[base+i]?).getD undef
   have hcs:cs.length=c'.length:=(by simp [cs,hl]);have hcell:∀ i (hi:i<cells.length) (hi':i<cs.length),c[base+i]?=some cs[i]/\RelV P Γ H w cells[i] cs[i]:=fun i hi hi'=>by
    obtain⟨cv,b1,b2⟩:=a4 i hi;have:cs[i]=cv:=(by simp [cs,b1]);rw[this];exact⟨b1,b2⟩
   refine .vptr (cs:=cs) (fun ho=>?_) (R.lt _ _ _ _ hΓ) hcs (fun i hi=>?_) fun i hi hi'=>?_
   ·obtain⟨id',base',n',h'⟩:=ho;obtain⟨hns,h''⟩:=jS h';have:=R.inj _ _ _ _ _ _ _ h'' hΓ;subst this;exact hns hs
   ·simp only[World.cell?,a1];exact(hcell i (by omega) hi).1
   ·exact ih i (by omega) hi (hcell i (by omega) hi').2
theorem Fz.plain {S:Nat->Prop}{H:AHeap}{nx:Nat}{v:AVal}(h:Below 0 v):Fz S H nx v v:=by
 induction h with
 | lit v=>exact .lit v
 | vec _ ih=>exact .vec rfl fun i h _=>ih i h
 | vptr _ ih=>exact .vptr rfl fun i h _=>ih i h
 | agg _ ih=>exact .agg rfl fun i h _=>ih i h
 | tup _ ih=>exact .tup rfl fun i h _=>ih i h
 | clo _ _ ih1 ih2=>exact .clo rfl rfl (fun i h _=>ih1 i h) fun i h _=>ih2 i h
 | own h=>exact absurd h (RV _)
 | ptr h=>exact absurd h (RV _)
 | yld h=>exact absurd h (RV _)
theorem Fz.ints {S:Nat->Prop}{H:AHeap}{nx id g o:Nat}{e:TypeId}{cells:List AVal}{x:List Int}{n:Nat}(hs:S id)(hg:H.get id=some (.arr g e cells))(hn:n=x.length)(hx:∀ i (h:i<x.length),cells[o+i]?=some (aa x[i])):
  Fz S H nx (.own id g o n 1) (ab x):=by
 subst hn;refine .frz hs hg (by simp [Go.Hx.ints]) fun i hi h2 h'=>?_;have h1:=hx i (by omega);rw[Rz h2]at h1;rw[Option.some.inj h1];have:(Go.Hx.ints x)[i]=aa x[i]:=by simp [Go.Hx.ints]
 rw[this];exact .lit _
theorem Fz.Ah {S:Nat->Prop}{H:AHeap}{nx:Nat}:Fz S H nx (.lit (.slice none 0 0)) (ab []):=.nil
theorem Fz.dT {S:Nat->Prop}{H:AHeap}{nx:Nat}(x:List Int):Fz S H nx (ab x) (ab x) :=
 .plain (.vec fun i h=>by simp only[Go.Hx.ints,RQ];exact .lit _)
theorem Ai (x:List Int):(Go.Hx.ints x).all AVal.one=true:=by simp [Go.Hx.ints,aa,AVal.one,Value.oneCell]
def fH (G:Nat->Option (List AVal)):Prop:=∀ g cells,G g=some cells->Below 0 (.vptr cells 0)
theorem FzH.aU {S:Nat->Prop}(F:FzH S H H'):Evo Γ H w (eV S Γ) H' w where
 os:=rfl
 tape:=rfl
 output:=rfl
 size:=Nat.le_refl _
 keep:=fun _ _ h=>⟨rfl,fun h'=>h (so h')⟩
 live:=fun id _ _ x' hx=>by
  obtain⟨hs,b,hb,hfb,_⟩:=F.back hx;refine⟨b,hb,?_⟩;cases b<;>cases x'<;>first|exact hfb.elim|skip
  ·obtain⟨rfl,rfl,hl,_⟩:=hfb;exact⟨Nat.le_refl _,fun _=>⟨ie hs,rfl,hl⟩⟩
  ·obtain⟨rfl,rfl,rfl,rfl,rfl,rfl,rfl,_⟩:=hfb;exact⟨ie hs,rfl,rfl,rfl,rfl,rfl⟩
  ·exact ie hs
  ·trivial
 frz:=fun _ _=>rfl
theorem FzH.rel {S:Nat->Prop}(hG:fH G)(R:RelH P G Γ H w)(F:FzH S H H'):RelH P G (eV S Γ) H' w where
 arr id g e cells hg:=by
  obtain⟨hs,b,hb,hfb,_⟩:=F.back hg;cases b with
  | arr g0 e0 c0 =>
   obtain⟨rfl,rfl,hl,hc⟩:=hfb;have h1:=R.arr _ _ _ _ hb;rw[ie hs];cases hΓ:Γ id with
   | none =>
    rw[hΓ]at h1;simp only at h1 ⊢;subst h1;exact RT hl
   | some y =>
    obtain⟨b,base,n⟩:=y;rw[hΓ]at h1;obtain⟨c,a1,a2,a3,a4⟩:=h1;refine⟨c,a1,a2,by omega,fun i hi=>?_⟩;obtain⟨cv,b1,b2⟩:=a4 i (by omega);exact⟨cv,b1,(hc i (by omega) hi).sound R F b2⟩
  | _=>exact hfb.elim
 loop id st pend n env ps asg body hg:=by
  obtain⟨hs,b,hb,hfb,_⟩:=F.back hg;cases b with
  | loop =>
   obtain⟨rfl,rfl,rfl,rfl,rfl,rfl,rfl,hf⟩:=hfb;obtain⟨b,rr,a1,a2,a3,a4,a5,a6,a7,a8,a9⟩:=R.loop _ _ _ _ _ _ _ _ hb;exact⟨b,rr,by rw[ie hs];exact a1,a2,a3,a4,a5,a6,a7,a8,fun t ht=>(hf t (by omega)).sound R F (a9 t ht)⟩
  | _=>exact hfb.elim
 mp id es hg:=by
  obtain⟨hs,b,hb,hfb,_⟩:=F.back hg;cases b with
  | mp es0 =>
   have hfb':es=es0:=hfb;subst hfb';obtain⟨b,a1,a2⟩:=R.mp _ _ hb;exact⟨b,by rw[ie hs];exact a1,a2⟩
  | _=>exact hfb.elim
 rsv id hg:=by
  obtain⟨hs,b,hb,hfb,_⟩:=F.back hg;cases b with
  | rsv=>rw[ie hs];exact R.rsv id hb
  | _=>exact hfb.elim
 inj id id' b base n base' n' h h':=R.inj id id' b base n base' n' (jS h).2 (jS h').2
 dom id x h:=by
  obtain⟨hs,h⟩:=jS h;obtain⟨y,hy⟩:=R.dom id x h;obtain⟨_,b',hb',_⟩:=F.kept id y hs hy;exact⟨b',hb'⟩
 lt id b base n h:=R.lt id b base n (jS h).2
 next id y h:=by
  obtain⟨_,_,_,_,h⟩:=F.back h;exact h
 glob g cells h:=(Fz.plain (hG g cells h)).sound R F (R.glob g cells h)
 gsz:=R.gsz
theorem kZ.freeze {S:Nat->Prop}(hG:fH G){v v':AVal}(F:FzH S H H')(hv:Fz S H H'.next v v'):kZ P G H v H' v' :=
 fun Γ _ R=>⟨eV S Γ,F.rel hG R,F.aU,fun _ h=>hv.sound R F h⟩
theorem dv.freeze {S:Nat->Prop}(hG:fH G){s s':St}(F:FzH S s.H s'.H)(hv:∀ t,Fz S s.H s'.H.next (s.ρ t) (s'.ρ t)):dv P G s s':=by
 intro n wb Γ a w hs;have E:Evo Γ s.H w (eV S Γ) s'.H w:=F.aU;refine⟨eV S Γ,⟨hs.size,fun t=>(hv t).sound hs.heap F (hs.env t),F.rel hG hs.heap,hs.defers.aU E,hs.low⟩,E,fun rd rb hr hri=>?_⟩;cases rd with
 | none=>exact hr
 | some id =>
  obtain⟨b,st,pend,n,env,ps,asg,body,h1,h2,h3⟩:=hr;obtain⟨st',pend',n',env',ps',asg',body',h4⟩:=hri;obtain⟨hns,_⟩:=F.back h4;exact⟨b,_,_,_,_,_,_,_,h1,by rw[ie hns];exact h2,h4⟩
theorem ID (hc:Clo H)(L:List Blk):FzH (fun id=>H.next<=id) (ext H L) H where
 gone id hs:=by
  cases h:H.get id with
  | none=>rfl
  | some b=>have:=hc.lt id b h;omega
 kept id b hs hb:=by
  have hlt:id<H.next:=TP hs;rw[dI H L id hlt]at hb;have hbb:=hc.below id b hb;refine⟨hlt,b,hb,?_⟩;have hno:∀ i,i<H.next->¬ H.next<=i:=fun i h=>Nat.not_le_of_lt h;cases b with
  | rsv=>trivial
  | mp=>rfl
  | arr g e cells=>exact⟨rfl,rfl,rfl,fun i h _=>.refl (hbb i h) hno⟩
  | loop st pend n env ps asg body=>exact⟨rfl,rfl,rfl,rfl,rfl,rfl,rfl,fun t ht=>.refl (hbb t ht) hno⟩
 none id hs hb:=by
  rw[dI H L id (TP hs)]at hb;exact hb
theorem av.drop (hG:fH G)(hc:Clo H){L:List Blk}{K:ARes->AHeap->Prop}{v v':AVal}(hv:Fz (fun id=>H.next<=id) (ext H L) H.next v v')(hk:K (.ret v') H):av P G H K v (ext H L) :=
 ⟨v',H,.freeze hG (ID hc L) hv,Nat.le_refl _,hk⟩
theorem ae.clo {f : FuncId} {args : List AVal} {K : ARes → AHeap → Prop} (hf : ∃ fn, P.funcs[f]? = some fn ∧ fn.body.isNone = false ∧ (fn.name == "runtime.NumGoroutine") = false) (h : Clo H → ae P G f args H K) : ae P G f args H K :=
 ⟨hf,fun Γ w cargs R hr=>(h R.clo).2 Γ w cargs R hr⟩
end Go.Hx
namespace Go.Hx
variable {P:Program} {G:Nat->Option (List AVal)} {Γ Γ':au} {H H':AHeap} {w w':World}
theorem ss (R : RelH P G Γ H w) {id : Nat} {st : LoopState} {pend : Option Code} {n : Nat} {env : Env} {ps : Array Tmp} {asg body : Code} (hg : H.get id=some (.loop st pend n env ps asg body)) :
    ∃ b r,Γ id=some (b,0,0)/\w.heap[b]?=some (.loop r)/\r.state=st/\r.pending=pend/\r.params=ps/\r.assign=asg/\r.body=body/\r.tmps.size=n/\(∀ t (h:t<r.tmps.size),RelV P Γ H w (env t) r.tmps[t]) /\
      ∀ st' pend',RelH P G Γ (H.upd id (.loop st' pend' n env ps asg body)) (bf w b (.loop { r with state:=st',pending:=pend' })) /\
        Evo Γ H w Γ (H.upd id (.loop st' pend' n env ps asg body)) (bf w b (.loop { r with state:=st',pending:=pend' })):=by
  obtain⟨b,r,hΓ,hb,h1,h2,h3,h4,h5,h6,h7⟩:=R.loop id st pend n env ps asg body hg;refine⟨b,r,hΓ,hb,h1,h2,h3,h4,h5,h6,h7,fun st' pend'=>?_⟩;have hlt:=R.lt id b 0 0 hΓ;have E:Evo Γ H w Γ (H.upd id (.loop st' pend' n env ps asg body)) (bf w b (.loop { r with state:=st',pending:=pend' })) :=
    { os:=rfl,tape:=rfl,output:=rfl
      size:=by rw[iH];exact Nat.le_refl _
      keep:=fun c hc ho=>⟨by
        rw[dH,RB];rintro⟨rfl,_⟩;exact ho ⟨id,0,0,hΓ⟩,ho⟩
      live:=fun i hi _ x' hx=>by
        rw[aj]at hx;split at hx
        · rename_i hii;subst hii;simp only[Option.some.injEq]at hx;subst hx;exact⟨_,hg,rfl,rfl,rfl,rfl,rfl,rfl⟩
        · exact⟨x',hx,Blk.le_refl _ _ _⟩
      frz:=fun a _=>pF hb (fun _ _ _ h=>by cases h) (fun _ _ _ h=>by cases h) a }
  refine⟨?_,E⟩;have hne:∀ i b' base n',Γ i=some (b',base,n')->i≠id->b'≠b:=fun i b' base n' hi hii hbb=>by
    subst hbb;exact hii (R.inj _ _ _ _ _ _ _ hi hΓ)
  exact
    { arr:=fun i g e cells hgi=>by
        rw[aj]at hgi;split at hgi
        · simp at hgi
        · rename_i hii;have h:=R.arr i g e cells hgi;cases hi:Γ i with
          | none=>rw[hi]at h;exact h
          | some y =>
            obtain⟨b',base,n'⟩:=y;rw[hi]at h;obtain⟨c,a1,a2,a3,a4⟩:=h;refine⟨c,?_,a2,a3,fun j hj=>let ⟨cv,b1,b2⟩:=a4 j hj;⟨cv,b1,b2.aU E (Nat.le_refl _)⟩⟩;rw[dH,RB]
            · exact a1
            · rintro⟨h,_⟩;exact hne i b' base n' hi hii h
      loop:=fun i st2 pend2 n2 env2 ps2 asg2 body2 hgi=>by
        rw[aj]at hgi;split at hgi
        · rename_i hii;subst hii;simp only[Option.some.injEq,Blk.loop.injEq]at hgi;obtain⟨rfl,rfl,rfl,rfl,rfl,rfl,rfl⟩:=hgi;refine⟨b,{ r with state:=st',pending:=pend' },hΓ,by rw[dH,RC ⟨rfl,hlt⟩],rfl,rfl,h3,h4,h5,h6,fun t ht=>(h7 t ht).aU E (Nat.le_refl _)⟩
        · rename_i hii;obtain⟨b2,r2,a1,a2,a3,a4,a5,a6,a7,a8,a9⟩:=R.loop i _ _ _ _ _ _ _ hgi;refine⟨b2,r2,a1,?_,a3,a4,a5,a6,a7,a8,fun t ht=>(a9 t ht).aU E (Nat.le_refl _)⟩;rw[dH,RB]
          · exact a2
          · rintro⟨h,_⟩;exact hne i b2 0 0 a1 hii h
      mp:=fun i es hgi=>by
        rw[aj]at hgi;split at hgi
        · simp at hgi
        · rename_i hii;obtain⟨b2,a1,a2⟩:=R.mp i _ hgi;refine⟨b2,a1,?_⟩;rw[dH,RB]
          · exact a2
          · rintro⟨h,_⟩;exact hne i b2 0 0 a1 hii h
      rsv:=fun i hgi=>by
        rw[aj]at hgi;split at hgi
        · simp at hgi
        · exact R.rsv i hgi
      inj:=R.inj
      dom:=fun i x hi=>by
        obtain⟨y,hy⟩:=R.dom i x hi;rw[aj];split
        · exact⟨_,rfl⟩
        · exact⟨y,hy⟩
      lt:=fun i b' base n' hi=>by rw[iH];exact R.lt i b' base n' hi
      next:=fun i y hy=>by
        rw[aj]at hy;split at hy
        · rename_i hii;subst hii;exact R.next _ _ hg
        · exact R.next i y hy
      glob:=fun g cells h=>(R.glob g cells h).aU E (Nat.le_refl _)
      gsz:=R.nE E }
theorem qh {b:Nat}{r:Loop}(h:w.heap[b]?=some (.loop r)):(Instr.getLoop b).run P w=.ok r w:=by
  have hg:(getObj b).run P w=.ok (.loop r) w:=by simp [getObj,Sem.run,h]
  unfold Instr.getLoop;rw[ak hg];rfl
theorem vz {b:Nat}{r:Loop}{o':Obj}(h:w.heap[b]?=some (.loop r)):(setObj b o').run P w=.ok () (bf w b o'):=by
  simp [setObj,Sem.run,h,bf]
theorem IE {b:Nat}{r:Loop}(h:w.heap[b]?=some (.loop r))(hs:r.state=.ready):(Instr.beginRound b).run P w=.ok () (bf w b (.loop { r with state:=.busy,pending:=r.pending })):=by
  unfold Instr.beginRound;rw[ak (qh h),ak (vz h)];simp only[hs];rfl
theorem IF {b : Nat} {r : Loop} (h : w.heap[b]?=some (.loop r)) (j : Option Code) :
    (Instr.endRound b j).run P w=.ok (.bool j.isNone) (bf w b (.loop { r with state:=if j.isNone then .ready else .done,pending:=j })):=by
  unfold Instr.endRound;rw[ak (qh h),ak (vz h)];rfl
theorem IG {b:Nat}{r:Loop}(h:w.heap[b]?=some (.loop r))(hs:(r.state == .busy)=false):(Instr.endLoop b).run P w=.ok r.pending (bf w b (.loop { r with state:=.exhausted,pending:=r.pending })):=by
  unfold Instr.endLoop;rw[ak (qh h)];simp only[hs,Bool.false_eq_true,if_false];rw[ak (vz h)];rfl
def jq (ρ:Env)(l:List (Tmp × AVal)):Env:=l.foldl (fun ρ p=>aE ρ (some p.1) p.2) ρ
def cY (env:Env)(n:Nat):Env:=fun t=>if t<n then env t else .lit undef
def ll (st:LoopState)(pend:Option Code):Option Blk->Option Blk
  | some (.loop _ _ n env ps asg body)=>some (.loop st pend n env ps asg body)
  | _=>none
def Aj:Option Blk->Option Blk
  | some (.loop .ready pend n env ps asg body)=>some (.loop .busy pend n env ps asg body)
  | _=>none
def vA (id:Nat)(K:ARes->AHeap->Prop):AX->St->Prop
  | .normal,s=>aR (ll .ready none (s.H.get id)) fun b=>K (.ret (.lit (.bool true))) (s.H.upd id b)
  | .ret,s=>aR (ll .done (some .ret) (s.H.get id)) fun b=>K (.ret (.lit (.bool false))) (s.H.upd id b)
  | .exit i,s=>aR (ll .done (some (.exit i)) (s.H.get id)) fun b=>K (.ret (.lit (.bool false))) (s.H.upd id b)
  | .goto i,s=>aR (ll .done (some (.goto i)) (s.H.get id)) fun b=>K (.ret (.lit (.bool false))) (s.H.upd id b)
  | .panic,_=>False
def Ak (P:Program)(G:Nat->Option (List AVal))(n id:Nat)(body:Code)(K:ARes->AHeap->Prop):AX->St->Prop
  | .normal,s=>aR (Aj (s.H.get id)) fun b=>W P G n (some id) body (vA id K) ⟨s.ρ,s.H.upd id b⟩
  | _,_=>False
theorem IH : ∀ (l : List (Tmp × AVal)) (cl : List (Tmp × Value)) (ρ : Env) (tmps : Array Value),l.length=cl.length→(∀ i (h : i<l.length) (h' : i<cl.length),l[i].1=cl[i].1∧l[i].1<tmps.size∧RelV P Γ H w l[i].2 cl[i].2) →
    (∀ t,RelV P Γ H w (ρ t) (tmps.getD t undef)) ->
    ((cl.foldl (fun tmps (p:Tmp × Value)=>tmps.setIfInBounds p.1 p.2) tmps).size=tmps.size)/\∀ t,RelV P Γ H w (jq ρ l t) ((cl.foldl (fun tmps (p:Tmp × Value)=>tmps.setIfInBounds p.1 p.2) tmps).getD t undef):=by
  intro l
  induction l with
  | nil =>
    intro cl ρ tmps hl _ he;cases cl with
    | nil=>exact⟨rfl,he⟩
    | cons=>simp at hl
  | cons x l ih =>
    intro cl ρ tmps hl h he;cases cl with
    | nil=>simp at hl
    | cons y cl =>
      obtain⟨h1,h2,h3⟩:=h 0 (by simp) (by simp);simp only[Sl]at h1 h2 h3;have:=ih cl (aE ρ (some x.1) x.2) (tmps.setIfInBounds y.1 y.2) (by simpa using hl) (fun i a b=>by
        have:=h (i+1) (by simpa using a) (by simpa using b);simp only[Tf]at this;simpa using this) (fun t=>by
          by_cases ht:t=x.1
          · subst ht;have e1:aE ρ (some x.1) x.2 x.1=x.2:=(by simp [aE]);have e2:(tmps.setIfInBounds y.1 y.2).getD x.1 undef=y.2:=(by rw[<- h1];simp [h2]);rw[e1,e2];exact h3
          · have e1 : aE ρ (some x.1) x.2 t=ρ t:=(by simp [aE,ht]);have e2 : (tmps.setIfInBounds y.1 y.2).getD t undef=tmps.getD t undef:=by
              simp only[Ss];rw[SA,RB (by rw[<- h1];exact fun h=>ht h.symm)]
            rw[e1,e2];exact he t)
      refine⟨?_,this.2⟩;have h4:=this.1;simp only[Array.size_setIfInBounds]at h4;exact h4
theorem II {st:LoopState}{pend:Option Code}{x:Option Blk}{b:Blk}(h:ll st pend x=some b):∃ st0 p0 n env ps asg body,x=some (.loop st0 p0 n env ps asg body)/\b=.loop st pend n env ps asg body:=by
  unfold ll at h;split at h
  · cases h;exact⟨_,_,_,_,_,_,_,rfl,rfl⟩
  · cases h
theorem az.yld {id : Nat} {args : List AVal} {K : ARes→AHeap→Prop} {pend : Option Code} {n : Nat} {env : Env} {ps : Array Tmp} {asg body : Code} (hg : H.get id=some (.loop .ready pend n env ps asg body)) (hl : args.length=ps.size)
    (hps:ps.toList.all (fun t=>decide (t<n))=true) (h:W P G n (some id) asg (Ak P G n id body K) ⟨jq (cY env n) (ps.toList.zip args),H⟩):az P G (.yld id) args H K:=by
  intro Γ w cfv cargs R hv hr;cases hv with
  | yld hy =>
    obtain⟨b,hΓ,rfl⟩:=hy.2.2.2.1 _ _ _ _ _ _ _ hg;obtain⟨b',r,hΓ',hb,h1,h2,h3,h4,h5,h6,h7,_⟩:=ss R hg;rw[hΓ]at hΓ';simp only[Option.some.injEq,Prod.mk.injEq]at hΓ';obtain⟨rfl,_⟩:=hΓ';have hsz:cargs.size=r.params.size:=(by rw[hr.1,hl,h3]);refine⟨{ target:=.fn (.yield b) #[],args:=#[]++cargs },rfl,.inr (.inl ⟨b,r.fn,(r.params.zip (#[]++cargs)).foldl (fun tmps (t,a)=>tmps.setIfInBounds t a) r.tmps,r.assign,r.body,?_,?_⟩)⟩
    · show (Instr.yield b (#[]++cargs)).run P w=_;unfold Instr.yield;rw[ak (qh hb)];have:¬ ((#[]++cargs).size≠r.params.size):=(by simp [hsz]);rw[RB this];rfl
    · refine roundIn_of_wpIn (F:=Fence.wide) trivial ?_;have hfold : (r.params.zip (#[]++cargs)).foldl (fun tmps (t,a)=>tmps.setIfInBounds t a) r.tmps=(r.params.toList.zip cargs.toList).foldl (fun tmps (p : Tmp × Value)=>tmps.setIfInBounds p.1 p.2) r.tmps:=by
        rw[<- Array.foldl_toList];simp
      rw [hfold,h4,h5];have hset:=IH (P:=P) (Γ:=Γ) (H:=H) (w:=w) (ps.toList.zip args) (r.params.toList.zip cargs.toList) (cY env n) r.tmps (by simp [hr.1,h3]) (fun i a c=>by
          simp only[List.length_zip,Tv]at a c;simp only[List.getElem_zip,SF];refine⟨by simp only[h3],?_,hr.2 i (by omega) (by omega)⟩;rw[h6];have:=Sg.1 hps (ps[i]'(by omega)) (by simp);simpa using this) (fun t=>by
          unfold cY;by_cases ht:t<n
          · rw[RC ht];have:r.tmps.getD t undef=r.tmps[t]'(by omega):=(by simp [h6,ht]);rw[this];exact h7 t (by omega)
          · rw[RB ht];have:r.tmps.getD t undef=undef:=(by simp [h6,ht]);rw[this];exact .lit _)
      have hs:RelS P G n ⟨0,[]⟩ Γ ⟨jq (cY env n) (ps.toList.zip args),H⟩ { tmps:=(r.params.toList.zip cargs.toList).foldl (fun tmps (p:Tmp × Value)=>tmps.setIfInBounds p.1 p.2) r.tmps,defers:=[] } w :=
        ⟨by rw[hset.1,h6],hset.2,R,⟨[],rfl,Marks.nil⟩,Ud _⟩
      refine wpIn_mono (h ⟨0,[]⟩ Γ _ w (some b) hs ⟨b,_,_,_,_,_,_,_,rfl,hΓ,hg⟩) ?_;rintro e a₁ w₁ ⟨x,s₁,Γ₁,hx,hq,hs₁,E₁,hn₁,hr₁,_⟩;cases x with
      | normal =>
        cases e with
        | normal =>
          obtain⟨blk,hbg,hW⟩:=hq;obtain⟨b1,st1,p1,n1,env1,ps1,asg1,body1,hb1,hΓ₁,hg₁⟩:=hr₁;simp only[Option.some.injEq]at hb1;subst hb1;rw[hg₁]at hbg;have hst:st1=.ready/\blk=.loop .busy p1 n1 env1 ps1 asg1 body1:=by
            cases st1<;>simp [Aj]at hbg
            exact⟨rfl,hbg.symm⟩
          obtain ⟨rfl,rfl⟩:=hst;obtain ⟨b2,r1,hΓ₂,hb2,k1,k2,k3,k4,k5,k6,k7,kset⟩:=ss hs₁.heap hg₁;rw [hΓ₁] at hΓ₂;simp only [Option.some.injEq,Prod.mk.injEq] at hΓ₂;obtain ⟨rfl,_⟩:=hΓ₂;obtain ⟨R2,E2⟩:=kset .busy r1.pending;rw [k2] at R2 E2;have hb3 : Γ₁ id=some (b,0,0):=hΓ₁;refine ⟨_,IE hb2 k1,?_⟩;rw [k2];refine wpIn_mono (hW ⟨0,[]⟩ Γ₁ a₁ _ (some b) (hs₁.move E2 (Nat.le_refl _) R2) ⟨b,_,_,_,_,_,_,_,rfl,hΓ₁,by rw [aj,RC rfl]⟩) ?_;rintro e a₂ w₂ ⟨x,s₂,Γ₂,hx,hq,hs₂,E3,hn₂,hr₂,_⟩;obtain ⟨b4,st4,p4,n4,env4,ps4,asg4,body4,hb4,hΓ₄,hg₄⟩:=hr₂;simp only [Option.some.injEq] at hb4;subst hb4;obtain ⟨b5,r5,hΓ₅,hb5,l1,l2,l3,l4,l5,l6,l7,lset⟩:=ss hs₂.heap hg₄;rw [hΓ₄] at hΓ₅;simp only [Option.some.injEq,Prod.mk.injEq] at hΓ₅;obtain ⟨rfl,_⟩:=hΓ₅;have E4 : Evo Γ H w Γ₂ s₂.H w₂:=(E₁.trans hn₁ E2).trans hn₁ E3;have hn4 : H.next≤s₂.H.next:=So hn₁ hn₂;have fin : ∀ (j : Option Code) (v : Bool),v=j.isNone→aR (ll (if j.isNone then .ready else .done) j (s₂.H.get id)) (fun bl=>K (.ret (.lit (.bool v))) (s₂.H.upd id bl)) →
              ∃ cv w',(Instr.endRound b j).run P w₂=.ok cv w'/\gE P G Γ H w K (.returned cv) w':=by
            rintro j v rfl ⟨bl,hbl,hk⟩;obtain⟨R6,E6⟩:=lset (if j.isNone then .ready else .done) j;rw[hg₄]at hbl;obtain⟨_,_,_,_,_,_,_,heq,rfl⟩:=II hbl;simp only[Option.some.injEq,Blk.loop.injEq]at heq;obtain⟨rfl,rfl,rfl,rfl,rfl,rfl,rfl⟩:=heq;exact⟨_,_,IF hb5 j,.ret (.lit (.bool j.isNone)),_,Γ₂,RelV.lit _,hk,R6,E4.trans hn4 E6,hn4⟩
          cases e with
          | normal=>cases x with
            | normal=>exact fin none true rfl hq
            | _=>exact hx.elim
          | ret=>cases x with
            | ret=>exact fin (some .ret) false rfl hq
            | _=>exact hx.elim
          | exit i=>cases x with
            | exit i' =>
              obtain rfl:i=i':=hx;exact fin (some (.exit i)) false rfl hq
            | _=>exact hx.elim
          | goto i=>cases x with
            | goto i' =>
              obtain rfl:i=i':=hx;exact fin (some (.goto i)) false rfl hq
            | _=>exact hx.elim
          | panic c=>cases x with
            | panic=>exact hq.elim
            | _=>exact hx.elim
          | outgrown=>cases x<;>exact hx.elim
        | _=>exact hx.elim
      | _=>exact hq.elim
theorem vB (hos:w'.os=w.os)(ht:w'.tape=w.tape)(ho:w'.output=w.output)(hs:w.heap.size<=w'.heap.size)(hk:∀ b,b<w.heap.size->w'.heap[b]?=w.heap[b]?)(hz:∀ a,a.block<w.heap.size->w'.frozen? a=w.frozen? a)(R:RelH P G Γ H w):Evo Γ H w Γ H w'/\RelH P G Γ H w':=by
  have E:Evo Γ H w Γ H w':=⟨hos,ht,ho,hs,fun b hb h=>⟨hk b hb,h⟩,fun _ _ _ x' hx=>⟨x',hx,Blk.le_refl _ _ _⟩,hz⟩
  refine⟨E,?_⟩;exact
    { arr:=fun id g e cells hg=>by
        have h1:=R.arr id g e cells hg;cases hΓ:Γ id with
        | none=>rw[hΓ]at h1;exact h1
        | some y =>
          obtain⟨b,base,n⟩:=y;rw[hΓ]at h1;obtain⟨c,a1,a2,a3,a4⟩:=h1;exact⟨c,by rw[hk b (R.lt _ _ _ _ hΓ)];exact a1,a2,a3,fun i hi=>let ⟨cv,b1,b2⟩:=a4 i hi;⟨cv,b1,b2.aU E (Nat.le_refl _)⟩⟩
      loop:=fun id st pend n env ps asg body hg=>by
        obtain⟨b,rr,a1,a2,a3,a4,a5,a6,a7,a8,a9⟩:=R.loop id st pend n env ps asg body hg;exact⟨b,rr,a1,by rw[hk b (R.lt _ _ _ _ a1)];exact a2,a3,a4,a5,a6,a7,a8,fun t ht=>(a9 t ht).aU E (Nat.le_refl _)⟩
      mp:=fun id es hg=>by
        obtain⟨b,a1,a2⟩:=R.mp id es hg;exact⟨b,a1,by rw[hk b (R.lt _ _ _ _ a1)];exact a2⟩
      rsv:=R.rsv
      inj:=R.inj
      dom:=R.dom
      lt:=fun id b base n h=>RL (R.lt id b base n h) hs
      next:=R.next
      glob:=fun g cells h=>(R.glob g cells h).aU E (Nat.le_refl _)
      gsz:=R.nE E }
def qi:Option Blk->Option (Option Code × Blk)
  | some (.loop .busy ..)=>none
  | some (.loop _ pend n env ps asg body)=>some (pend,.loop .exhausted pend n env ps asg body)
  | _=>none
def Al (Q:AX->St->Prop)(s:St):Option Code->Prop
  | none=>Q .normal s
  | some .ret=>Q .ret s
  | some (.exit i)=>Q (.exit i) s
  | some (.goto i)=>Q (.goto i) s
  | _=>False
def qj (rd:Option Nat)(Q:AX->St->Prop)(ρ:Env)(id:Nat):ARes->AHeap->Prop
  | .ret _,H'=>dp H' rd/\aR (qi (H'.get id)) fun pb=>Al Q ⟨ρ,H'.upd id pb.2⟩ pb.1
  | .panic,H'=>dp H' rd/\Q .panic ⟨ρ,H'⟩
theorem IJ {x:Option Blk}{pb:Option Code × Blk}(h:qi x=some pb):∃ st pend n env ps asg body,x=some (.loop st pend n env ps asg body)/\(st == .busy)=false/\pb=(pend,.loop .exhausted pend n env ps asg body):=by
  unfold qi at h;split at h
  · cases h
  · rename_i st pend n env ps asg body hne;cases h;refine⟨_,_,_,_,_,_,_,rfl,?_,rfl⟩;cases st with
    | busy=>exact absurd rfl (by first|exact hne|exact fun h=>hne _ _ _ _ _ _ h)
    | _=>rfl
  · cases h
section
variable {n:Nat} {rd:Option Nat} {Q:AX->St->Prop}
theorem W.rangeFunc {g : Operand} {ps : Array Tmp} {asg body : Code} {s : St} {f : FuncId} {first cap : List AVal} (hg : af G s.ρ g=.clo f first cap)
    (h:aR (s.H.lay s.H.next (.loop .ready none n s.ρ ps asg body)) fun H1=>ae P G f (first++[.yld s.H.next]++cap) H1 (qj rd Q s.ρ s.H.next)):W P G n rd (.rangeFunc g ps asg body) Q s:=by
  intro wb Γ a w rb hs hr;obtain⟨H1,hlay,hcall⟩:=h;have hlay2:H1=⟨fun j=>if j=s.H.next then some (.loop .ready none n s.ρ ps asg body) else s.H.get j,s.H.next+1⟩:=by
    unfold AHeap.lay at hlay;rw[RC rfl]at hlay;exact(Option.some.inj hlay).symm
  subst hlay2;refine wpIn_rangeFunc fun fn _=>?_;have he:=gu hs g;rw[hg]at he
  -- the world with the record
  have key : ∀ (w0 : World) (mark : List Deferred) (dblk : Nat),Evo Γ s.H w Γ s.H w0→RelH P G Γ s.H w0 →
      pV wb Γ w0 (mark++a.defers) ->
      ∀ w1,w1={ w0 with heap:=w0.heap.push (.loop { state:=.ready,pending:=none,fn:=fn,tmps:=a.tmps,params:=ps,assign:=asg,body:=body,defers:=dblk }) } ->
      (Instr.enterLoop fn a.tmps ps asg body (dq rb).round).run P w=.ok (w0.heap.size,mark) w1 ->
      ∃ (l:Nat) (mark:List Deferred) (w₁:World) (d:Deferred) (w₁':World) (f:FuncId) (args:Array Value) (w₂:World),
      (Instr.enterLoop fn a.tmps ps asg body (dq rb).round).run P w=.ok (l,mark) w₁ /\
      (resolve a.eval (rangeCall g l) 0).run P w₁=.ok d w₁' /\
      (∀ f',Target.leads P w₁' d.target d.args=some f'->(dq rb).fn f') /\
      (invoke d.target d.args).run P w₁'=.ok (.enter f args) w₂ /\
      ((dq rb).depth.isSome=true->1<=0) /\
      CallsIn (dq rb) (0 - 1) P f args w₂ (rangePost (dq rb) 0 P l (fF P G n wb rd rb (wr (.rangeFunc g ps asg body)) Γ s.H a w Q) { a with defers:=mark++a.defers }):=by
    intro w0 mark dblk E0 R0 hdef w1 hw1 hent
    let rec':Loop:={ state:=.ready,pending:=none,fn:=fn,tmps:=a.tmps,params:=ps,assign:=asg,body:=body,defers:=dblk }
    have hheap:w1.heap=w0.heap.push (.loop rec'):=(by rw[hw1]);have hsz1:w1.heap.size=w0.heap.size+1:=(by rw[hheap];simp);have hk1:∀ b,b<w0.heap.size->w1.heap[b]?=w0.heap[b]?:=fun b hb=>by
      rw[hheap,Ug];rw[RB (by omega)]
    have hget1:w1.heap[w0.heap.size]?=some (.loop rec'):=(by rw[hheap];simp);obtain⟨E1,R1⟩:=vB (w':=w1) (by rw[hw1]) (by rw[hw1]) (by rw[hw1]) (by omega) hk1 (fun a _=>nI hheap (fun _ _ _ h=>by cases h) a) R0
    let Γ1:au:=fun i=>if i=s.H.next then some (w0.heap.size,0,0) else Γ i
    let H1:AHeap:=⟨fun j=>if j=s.H.next then some (.loop .ready none n s.ρ ps asg body) else s.H.get j,s.H.next+1⟩
    have hfresh:∀ i y,s.H.get i=some y->i≠s.H.next:=fun i y hy h=>by have:=R0.next i y hy;omega
    have hΓfresh:∀ i x,Γ i=some x->i≠s.H.next:=fun i x hx=>let ⟨y,hy⟩:=R0.dom i x hx;hfresh i y hy
    have hΓ1:∀ i,i≠s.H.next->Γ1 i=Γ i:=fun i hi=>by simp only[Γ1];rw[RB hi]
    have hH1:∀ i,i≠s.H.next->H1.get i=s.H.get i:=fun i hi=>by simp only[H1];rw[RB hi]
    have E2:Evo Γ s.H w0 Γ1 H1 w1 :=
      { os:=by rw[hw1],tape:=by rw[hw1],output:=by rw[hw1],size:=by omega
        keep:=fun b hb ho=>⟨hk1 b hb,by
          rintro⟨i,base,m,hi⟩;simp only[Γ1]at hi;split at hi
          · simp only[Option.some.injEq,Prod.mk.injEq]at hi;omega
          · exact ho ⟨i,base,m,hi⟩⟩
        live:=fun i hi _ x' hx=>by
          rw[hH1 i (by omega)]at hx;refine⟨x',hx,?_⟩;have hΓi:Γ1 i=Γ i:=hΓ1 i (by omega);cases x' with
          | arr=>exact⟨Nat.le_refl _,fun _=>⟨hΓi,rfl,rfl⟩⟩
          | loop=>exact⟨hΓi,rfl,rfl,rfl,rfl,rfl⟩
          | mp=>exact hΓi
          | rsv=>trivial
        frz:=fun a _=>nI hheap (fun _ _ _ h=>by cases h) a }
    have hn1:s.H.next<=H1.next:=UD _;have tr:∀ v cv,RelV P Γ s.H w0 v cv->RelV P Γ1 H1 w1 v cv:=fun v cv h=>h.aU E2 hn1;have R2:RelH P G Γ1 H1 w1 :=
      { arr:=fun i g e cells hi=>by
          by_cases hii:i=s.H.next
          · simp only[H1]at hi;rw[RC hii]at hi;simp at hi
          · rw[hH1 i hii]at hi;have h:=R0.arr i g e cells hi;rw[hΓ1 i hii];cases hΓ:Γ i with
            | none=>rw[hΓ]at h;exact h
            | some y =>
              obtain⟨b,base,m⟩:=y;rw[hΓ]at h;obtain⟨c,a1,a2,a3,a4⟩:=h;exact⟨c,by rw[hk1 b (R0.lt _ _ _ _ hΓ)];exact a1,a2,a3,fun j hj=>let ⟨cv,b1,b2⟩:=a4 j hj;⟨cv,b1,tr _ _ b2⟩⟩
        loop:=fun i st2 pend2 n2 env2 ps2 asg2 body2 hi=>by
          by_cases hii:i=s.H.next
          · simp only [H1] at hi;rw [RC hii] at hi;simp only [Option.some.injEq,Blk.loop.injEq] at hi;obtain ⟨rfl,rfl,rfl,rfl,rfl,rfl,rfl⟩:=hi;refine ⟨w0.heap.size,rec',by simp only [Γ1];rw [RC hii],hget1,rfl,rfl,rfl,rfl,rfl,hs.size,fun t ht=>?_⟩;have:=((hs.env t).aU E0 (Nat.le_refl _)).aU E2 hn1;have e1 : a.tmps.getD t undef=a.tmps[t]'ht:=by
              have:t<a.tmps.size:=ht;simp [this]
            rw[e1]at this;exact this
          · rw[hH1 i hii]at hi;obtain⟨b2,r2,a1,a2,a3,a4,a5,a6,a7,a8,a9⟩:=R0.loop i _ _ _ _ _ _ _ hi;exact⟨b2,r2,by rw[hΓ1 i hii];exact a1,by rw[hk1 b2 (R0.lt _ _ _ _ a1)];exact a2,a3,a4,a5,a6,a7,a8,fun t ht=>tr _ _ (a9 t ht)⟩
        mp:=fun i es hi=>by
          by_cases hii:i=s.H.next
          · simp only[H1]at hi;rw[RC hii]at hi;simp at hi
          · rw[hH1 i hii]at hi;obtain⟨b2,a1,a2⟩:=R0.mp i _ hi;exact⟨b2,by rw[hΓ1 i hii];exact a1,by rw[hk1 b2 (R0.lt _ _ _ _ a1)];exact a2⟩
        rsv:=fun i hi=>by
          by_cases hii:i=s.H.next
          · simp only[H1]at hi;rw[RC hii]at hi;simp at hi
          · rw[hH1 i hii]at hi;rw[hΓ1 i hii];exact R0.rsv i hi
        inj:=fun i i' b base m base' m' h h'=>by
          by_cases h1:i=s.H.next
          · by_cases h2:i'=s.H.next
            · rw[h1,h2]
            · rw[hΓ1 i' h2]at h';simp only[Γ1]at h;rw[RC h1]at h;simp only[Option.some.injEq,Prod.mk.injEq]at h;have:=R0.lt _ _ _ _ h';omega
          · by_cases h2:i'=s.H.next
            · rw[hΓ1 i h1]at h;simp only[Γ1]at h';rw[RC h2]at h';simp only[Option.some.injEq,Prod.mk.injEq]at h';have:=R0.lt _ _ _ _ h;omega
            · rw[hΓ1 i h1]at h;rw[hΓ1 i' h2]at h';exact R0.inj _ _ _ _ _ _ _ h h'
        dom:=fun i x hi=>by
          by_cases hii:i=s.H.next
          · simp only[H1];rw[RC hii];exact⟨_,rfl⟩
          · rw[hΓ1 i hii]at hi;rw[hH1 i hii];exact R0.dom i x hi
        lt:=fun i b base m hi=>by
          by_cases hii:i=s.H.next
          · simp only[Γ1]at hi;rw[RC hii]at hi;simp only[Option.some.injEq,Prod.mk.injEq]at hi;omega
          · rw[hΓ1 i hii]at hi;have:=R0.lt _ _ _ _ hi;omega
        next:=fun i y hi=>by
          by_cases hii:i=s.H.next
          · show i<s.H.next+1;omega
          · rw[hH1 i hii]at hi;have:=R0.next i y hi;show i<s.H.next+1;omega
        glob:=fun g cells h=>tr _ _ (R0.glob g cells h)
        gsz:=R0.nE E2 }
    have E3:Evo Γ s.H w Γ1 H1 w1:=E0.trans (Nat.le_refl _) E2;generalize hcg:a.eval g=cg at he;cases he with
    | @clo _ _ _ fs cs hfs hcs hf hc =>
      obtain⟨⟨fn',hfn',hb',hname'⟩,hcall⟩:=hcall;have hyld:RelV P Γ1 H1 w1 (.yld s.H.next) (.func (.yield w0.heap.size) #[] #[]) :=
        .yld ⟨Us _,rfl,by simp [H1],fun st pend n env ps asg body hgi=>⟨w0.heap.size,by simp [Γ1],rfl⟩,fun es hgi=>by simp [H1]at hgi⟩
      have hargs:cS P Γ1 H1 w1 (first++[.yld s.H.next]++cap) (fs.toArray++#[.func (.yield w0.heap.size) #[] #[]]++cs.toArray):=by
        refine rV (rV ⟨by simpa using hfs,fun i h1 h2=>?_⟩ ⟨rfl,fun i h1 h2=>?_⟩) ⟨by simpa using hcs,fun i h1 h2=>?_⟩
        · exact(by simpa using hf i h1 (by simpa using h2):RelV P Γ s.H w first[i] (fs.toArray[i])).aU E3 hn1
        · have:i=0:=(by simp at h1;omega);subst this;exact hyld
        · exact(by simpa using hc i h1 (by simpa using h2):RelV P Γ s.H w cap[i] (cs.toArray[i])).aU E3 hn1
      refine⟨w0.heap.size,mark,w1,{ target:=.fn (.func f) cs.toArray,args:=fs.toArray++#[.func (.yield w0.heap.size) #[] #[]] },w1,f,fs.toArray++#[.func (.yield w0.heap.size) #[] #[]]++cs.toArray,w1,hent,?_,fun _ _=>trivial,?_,fun hc=>by simp [Fence.wide]at hc,?_⟩
      · have hm:Array.map a.eval #[Operand.const (.func (.yield w0.heap.size) #[] #[])]=#[.func (.yield w0.heap.size) #[] #[]]:=(by simp [Act.eval]);unfold resolve;simp only[hcg,hm];rfl
      · show (callFunc f (fs.toArray++#[.func (.yield w0.heap.size) #[] #[]]++cs.toArray)).run P w1=_;unfold callFunc;rw[ak (run_program P w1)];simp only[hfn'];rw[hname',hb'];rfl
      · have h4 : CallsIn (dq rb) 0 P f (fs.toArray++#[.func (.yield w0.heap.size) #[] #[]]++cs.toArray) w1 _:=hcall Γ1 w1 _ R2 hargs;refine h4.mono ?_;rintro e w3 ⟨r,H',Γ',hend,hk,R',E',hn'⟩;have E5 : Evo Γ s.H w Γ' H' w3:=E3.trans hn1 E';have hn5 : s.H.next≤H'.next:=So hn1 hn';have mkS : ∀ (H'' : AHeap) (w4 : World),RelH P G Γ' H'' w4→Evo Γ s.H w Γ' H'' w4→Evo Γ s.H w0 Γ' H'' w4→s.H.next≤H''.next→RelS P G n wb Γ' ⟨s.ρ,H''⟩ { a with defers:=mark++a.defers } w4 :=
          fun H'' w4 R'' E'' E0'' hn''=>⟨hs.size,fun t=>(hs.env t).aU E'' hn'',R'',hdef.aU E0'',So hs.low E''.size⟩
        cases e with
        | returned cv =>
          cases r with
          | panic=>exact hend.elim
          | ret v =>
            obtain⟨hri,pb,hpb,hj⟩:=hk;obtain⟨st,pend,n2,env2,ps2,asg2,body2,hgl,hbusy,rfl⟩:=IJ hpb;obtain⟨b,r2,hΓb,hb,l1,l2,l3,l4,l5,l6,l7,lset⟩:=ss R' hgl;obtain⟨R6,E6⟩:=lset .exhausted r2.pending;have hbl:b=w0.heap.size:=by
              obtain⟨x,hx,hle⟩:=E'.live s.H.next (Us _) (RL (Us _) hn') _ hgl;have hx':H1.get s.H.next=some (.loop .ready none n s.ρ ps asg body):=(by simp [H1]);rw[hx']at hx;cases hx;have h1:=hle.1;rw[hΓb]at h1;simp only[Γ1,if_true,Option.some.injEq,Prod.mk.injEq]at h1;exact h1.1
            subst hbl;have hend':=IG (P:=P) hb (by rw[l1];exact hbusy);rw[l2]at R6 E6 hend';refine⟨pend,_,hend',?_⟩;have E7:=E5.trans hn5 E6;have hS:=mkS _ _ R6 E7 ((E2.trans hn1 E').trans hn5 E6) hn5;have hri':dp (H'.upd s.H.next (.loop .exhausted pend n2 env2 ps2 asg2 body2)) rd:=by
              cases rd with
              | none=>trivial
              | some i =>
                obtain⟨st3,pend3,n3,env3,ps3,asg3,body3,h3⟩:=hri;by_cases hii:i=s.H.next
                · exact⟨_,_,_,_,_,_,_,by rw[aj,RC hii]⟩
                · exact⟨_,_,_,_,_,_,_,by rw[aj,RB hii];exact h3⟩
            have hR:=hr.aU E7 hn5 hs.heap hri';have post:∀ (e:Exit) (x:AX),vn e x->Q x ⟨s.ρ,H'.upd s.H.next (.loop .exhausted pend n2 env2 ps2 asg2 body2)⟩->fF P G n wb rd rb (wr (.rangeFunc g ps asg body)) Γ s.H a w Q e { a with defers:=mark++a.defers } _ :=
              fun e x hx hq=>⟨x,_,Γ',hx,hq,hS,E7,hn5,hR,fun t _=>rfl⟩
            simp only at hj;cases pend with
            | none=>exact post .normal .normal trivial hj
            | some c =>
              cases c with
              | ret=>exact wpIn_ret (post .ret .ret trivial hj)
              | exit i=>exact wpIn_exit (post (.exit i) (.exit i) rfl hj)
              | goto i=>exact wpIn_goto (post (.goto i) (.goto i) rfl hj)
              | _=>exact hj.elim
        | panicked chain =>
          cases r with
          | ret v=>exact hend.elim
          | panic =>
            exact⟨.panic,_,Γ',hend,hk.2,mkS _ _ R' E5 (E2.trans hn1 E') hn5,E5,hn5,hr.aU E5 hn5 hs.heap hk.1,fun t _=>rfl⟩
        | outgrown=>cases r<;>exact hend.elim
  cases rb with
  | none =>
    let w0:World:={ w with heap:=w.heap.push (.deferred (some [])) }
    have hk0:∀ b,b<w.heap.size->w0.heap[b]?=w.heap[b]?:=fun b hb=>by
      show (w.heap.push _)[b]?=_;rw[Ug,RB (by omega)]
    obtain⟨E0,R0⟩:=vB (w:=w) (w':=w0) rfl rfl rfl (by simp [w0]) hk0 (fun a _=>nI (o:=.deferred (some [])) rfl (fun _ _ _ h=>by cases h) a) hs.heap;refine key w0 [{ target:=.collected w.heap.size,args:=#[] }] w.heap.size E0 R0 ?_ _ rfl rfl;obtain⟨m,hm,hmk⟩:=hs.defers;refine⟨{ target:=.collected w.heap.size,args:=#[] } :: m,by rw[hm];rfl,fun d hd=>?_,?_⟩
    · simp only[List.mem_cons]at hd;rcases hd with rfl|hd
      · refine⟨w.heap.size,rfl,hs.low,?_,by simp [w0]⟩;rintro⟨i,base,m,hi⟩;have:=hs.heap.lt _ _ _ _ hi;omega
      · obtain⟨r,h1,h2,h3⟩:=hmk.1 d hd;exact⟨r,h1,h2,h3.aU E0⟩
    · refine UH.2 ⟨fun d hd=>?_,hmk.2⟩;obtain⟨r,h1,h2,h3⟩:=hmk.1 d hd;rw[h1];intro he;simp only[Target.collected.injEq]at he;have h4:=h3.2;rw[<- he,S5 (Nat.le_refl _)]at h4;cases h4
  | some b0 =>
    have hlr:∃ r,w.heap[b0]?=some (.loop r):=by
      cases rd with
      | none=>cases hr
      | some id =>
        obtain⟨b,st,pend,n',env,ps',asg',body',h1,h2,h3⟩:=hr;obtain⟨b',r,h4,h5,_⟩:=hs.heap.loop _ _ _ _ _ _ _ _ h3;rw[h2]at h4;simp only[Option.some.injEq,Prod.mk.injEq]at h4 h1;rw[h1,h4.1];exact⟨r,h5⟩
    obtain⟨r,hlr⟩:=hlr;refine key w [] r.defers (Evo.refl _ _ _) hs.heap (by simpa using hs.defers) _ rfl ?_;show (Instr.enterLoop fn a.tmps ps asg body (some b0)).run P w=_;unfold Instr.enterLoop;simp only[bind_assoc,pure_bind];rw[ak (qh hlr)];rfl
end
end Go.Hx
namespace Go.Hx
variable {P:Program} {G:Nat->Option (List AVal)} {Γ Γ':au} {H H':AHeap} {w w':World}
def bU:AHeap:=⟨fun _=>none,0⟩
inductive Fresh (H:AHeap):AVal->AVal->Prop
 | lit (v:Value):Fresh H (.lit v) (.lit v)
 | nil:Fresh H (.lit (.slice none 0 0)) (.vec 0 [])
 | vec0:Fresh H (.vec 0 []) (.vec 0 [])
 | agg {c c':List AVal} (hl:c'.length=c.length) (h:∀ i (h:i<c.length) (h':i<c'.length),Fresh H c[i] c'[i]):Fresh H (.agg c) (.agg c')
 | tup {c c':List AVal} (hl:c'.length=c.length) (h:∀ i (h:i<c.length) (h':i<c'.length),Fresh H c[i] c'[i]):Fresh H (.tup c) (.tup c')
 | own {id g o l z:Nat} {e:TypeId} {cells c':List AVal} (hg:H.get id=some (.arr g e cells)) (hl:c'.length=l*z)
   (h:∀ i (h:i<l*z) (h2:o+i<cells.length) (h':i<c'.length),Fresh H cells[o+i] c'[i]):Fresh H (.own id g o l z) (.vec l c')
theorem Fresh.sound (R:RelH P G Γ' H' w){N:Nat}(h1:∀ b,Γ'.eD b->N<=b)(h2:∀ b,Γ.eD b->b<N){v v':AVal}(hf:Fresh H' v v'):∀ {cv:Value},RelV P Γ' H' w v cv->RelV P Γ H w v' cv:=by
 induction hf with
 | lit v=>intro cv h;cases h;exact .lit _
 | nil=>intro cv h;cases h;exact .vec0 none 0
 | vec0 =>
  intro cv h;cases h with
  | vec0 a cap=>exact .vec0 a cap
  | vec hb hlt hlen hcs hcell hrel=>exact .vec0 _ _
 | agg hl hc ih =>
  intro cv h;cases h with
  | agg hcs hrel=>exact .agg (by omega) fun i a b=>ih i (by omega) a (hrel i (by omega) b)
 | tup hl hc ih =>
  intro cv h;cases h with
  | tup hcs hrel=>exact .tup (by omega) fun i a b=>ih i (by omega) a (hrel i (by omega) b)
 | @own id g o l z e cells c' hg hl hc ih =>
  intro cv h;cases h with
  | own h =>
   obtain⟨_,_,h0,h3⟩:=h;have h4:=(h3 _ _ _ hg).2 rfl;have harr:=R.arr id g e cells hg;cases hΓ:Γ' id with
   | none =>
    rw[hΓ]at h4;obtain⟨rfl,rfl,rfl⟩:=h4;have:c'=[]:=RT (by simpa using hl);subst this;exact .vec0 _ _
   | some y =>
    obtain⟨b,base,n⟩:=y;rw[hΓ]at h4 harr;obtain⟨a,cap,rfl,hcap,hoff,hor⟩:=h4;obtain⟨c,a1,a2,a3,a4⟩:=harr;rcases hor with ⟨rfl,hn⟩|⟨rfl,rfl⟩
    ·have hcell:∀ i,i<l*z->∃ cv,c[base+(o+i)]?=some cv/\∀ (h:o+i<cells.length),RelV P Γ' H' w cells[o+i] cv:=fun i hi=>by
      obtain⟨cv,b1,b2⟩:=a4 (o+i) (by omega);exact⟨cv,b1,fun _=>b2⟩
     let cs:List Value:=(List.range (l*z)).map fun i=>(c[base+(o+i)]?).getD undef
     have hcs:cs.length=c'.length:=(by simp [cs,hl]);refine .vec (cs:=cs) (fun ho=>?_) (R.lt _ _ _ _ hΓ) hcap hcs (fun i hi=>?_) fun i hi hi'=>?_
     ·have:=h2 b ho;have:=h1 b ⟨id,base,n,hΓ⟩;omega
     ·have hi2:i<l*z:=(by rw[hcs,hl]at hi;exact hi);obtain⟨cv,b1,_⟩:=hcell i hi2;have:cs[i]=cv:=(by simp [cs,b1]);rw[this];have he:base+o+i=base+(o+i):=(by omega);simp only[World.cell?,a1,he];exact b1
     ·have hi2:i<l*z:=(by rw[hl]at hi;exact hi);obtain⟨cv,b1,b2⟩:=hcell i hi2;have:cs[i]=cv:=(by simp [cs,b1]);rw[this];exact ih i hi2 (by omega) hi (b2 (by omega))
    ·have:c'=[]:=RT (by simpa using hl);subst this;exact .vec0 _ _
theorem En (H:AHeap):FzH (fun _=>True) H bU:=⟨fun _ _=>rfl,fun _ _ h=>absurd trivial h,fun _ h=>absurd trivial h⟩
theorem yS (b:Nat):¬ (eV (fun _=>True) Γ).eD b:=by
 rintro⟨id,base,n,h⟩;exact(jS h).1 trivial
def pR (o:Option AVal)(r:ARes)(H':AHeap):Prop:=match o with
 | some v'=>∃ v,r=.ret v/\Fresh H' v v'
 | none=>r=.panic
def yU:Option AVal->ARes
 | some v=>.ret v
 | none=>.panic
theorem ae.Eo {f:FuncId}{args args':List AVal}{o:Option AVal}(hG:fH G)(hl:args'.length=args.length)(hv:∀ i (h:i<args.length) (h':i<args'.length),Fz (fun _=>True) H 0 args[i] args'[i])
  (h:ae P G f args' bU (pR o)):ae P G f args H fun r H'=>r=yU o/\H'=H:=by
 refine⟨h.1,fun Γ w cargs R hr=>?_⟩;have F:=En H;have R0:RelH P G (eV (fun _=>True) Γ) bU w:=F.rel hG R;have hr0:cS P (eV (fun _=>True) Γ) bU w args' cargs:=⟨by have:=hr.1;omega,fun i h1 h2=>(hv i (by omega) h1).sound R F (hr.2 i (by omega) h2)⟩
 refine(h.2 _ w cargs R0 hr0).mono ?_;rintro e w' ⟨r,H',Γ',hend,hg,R',E,hn⟩;have hown:∀ b,Γ'.eD b->w.heap.size<=b:=fun b hb=>TR fun hlt=>(E.keep b hlt (yS b)).2 hb;have hown2:∀ b,Γ.eD b->b<w.heap.size:=fun b ⟨id,base,n,hb⟩=>R.lt _ _ _ _ hb;obtain⟨E2,R2⟩:=vB E.os E.tape E.output E.size (fun b hb=>(E.keep b hb (yS b)).1) E.frz R;refine⟨yU o,H,Γ,?_,⟨rfl,rfl⟩,R2,E2,Nat.le_refl _⟩;cases o with
 | some v' =>
  obtain⟨v,rfl,hf⟩:=hg;cases e with
  | returned cv=>exact hf.sound R' hown hown2 hend
  | _=>exact hend.elim
 | none =>
  have hg':r=.panic:=hg;subst hg';cases e with
  | panicked chain=>exact hend
  | _=>exact hend.elim
theorem ae.frame {f:FuncId}{args args':List AVal}{v':AVal}(hG:fH G)(hl:args'.length=args.length)(hv:∀ i (h:i<args.length) (h':i<args'.length),Fz (fun _=>True) H 0 args[i] args'[i])
  (h:ae P G f args' bU fun r H'=>∃ v,r=.ret v/\Fresh H' v v'):ae P G f args H fun r H'=>r=.ret v'/\H'=H:=ae.Eo (o:=some v') hG hl hv h
end Go.Hx
namespace Go.Hx.Ev
open Go.Hx
variable {P:Program} {G:Nat->Option (List AVal)} {Γ Γ':au} {H H':AHeap} {w w':World}
def cD (e g:Nat->Option Blk):Nat->Option Blk:=fun j=>match e j with
 | some b=>some b
 | none=>g j
def my (e:Option (Nat × Blk)):Nat->Option Blk:=fun j=>match e with
 | some (k,b)=>if j=k then some b else none
 | none=>none
theorem yO (e:Option (Nat × Blk))(g:Nat->Option Blk):cD (my e) g=dw e g:=by
 funext j
 cases e with
 | none=>rfl
 | some kb =>
  obtain⟨k,b⟩:=kb;simp only[cD,my,dw];by_cases h:j=k
  ·rw[RC h,RC h]
  ·rw[RB h,RB h]
def kW (P:Program)(G:Nat->Option (List AVal))(fv:AVal)(args:List AVal)(H:AHeap)(v:AVal)(e:Nat->Option Blk)(k:Nat)(f:FP):Prop :=
 (∀ r,r∈f.rs->r<H.next)/\(∀ r,(e r).isSome=true->r∈f.eff/\((r∈f.rs/\∃ g t c,H.get r=some (.arr g t c))\/(H.next<=r/\r<H.next+k)))/\(∀ c,c<k->(e (H.next+c)).isSome=true) /\
 ∀ H2:AHeap,(∀ r,r∈f.rs->H2.get r=H.get r)->(∀ c,c<k->H2.get (H.next+c)=some .rsv)->H.next+k<=H2.next->az P G fv args H2 fun r H3=>r=.ret v/\H3=⟨cD e H2.get,H2.next⟩
def bM (P:Program)(G:Nat->Option (List AVal))(o:Oper)(K:FP->St->Prop)(s:St):Prop :=
 match o.op with
 | .call { callee:=.value fv,args,.. }=>∃ v e k f,kW P G (af G s.ρ fv) (args.toList.map (af G s.ρ)) s.H v e k f/\K f ⟨aE s.ρ o.dst v,⟨cD e s.H.get,s.H.next+k⟩⟩
 | op=>aR (ag P G s.ρ s.H s.H.next op) fun vH=>K (aY P G s.ρ s.H.next op) ⟨aE s.ρ o.dst vH.1,vH.2⟩
def dk (P:Program)(G:Nat->Option (List AVal))(all:Array Oper)(tail:St->Prop):List Nat->Nat->List (Nat × FP)->List Oper->St->Prop
 | b :: bs,i,acc,o :: rest,s=>aR (dZ all s.ρ o) fun t=>if t=true then bM P G o (fun f s'=>fG b f acc/\dk P G all tail bs (i+1) (dx i f acc) rest s') s
   else dk P G all tail bs (i+1) acc rest ⟨aE s.ρ o.dst (.lit undef),s.H⟩
 | _,_,_,[],s=>tail s
 | [],_,_,_ :: _,_=>False
structure Dt where
 v:AVal
 e:Nat->Option Blk
 al:Nat
 f:FP
def aS (all:Array Oper)(d:Nat->Dt)(ρ0:Env):Nat->(Nat->Bool)->Env
 | 0,_=>ρ0
 | n+1,D=>if D n then aE (aS all d ρ0 n D) (eT all n) (d n).v else aS all d ρ0 n D
def aJ (d:Nat->Dt)(g0:Nat->Option Blk):Nat->(Nat->Bool)->Nat->Option Blk
 | 0,_=>g0
 | n+1,D=>if D n then cD (d n).e (aJ d g0 n D) else aJ d g0 n D
def aC (d:Nat->Dt):Nat->Nat
 | 0=>0
 | n+1=>aC d n+(d n).al
def cR (x:Dt)(r:Nat):Prop:=(x.e r).isSome=true
theorem kX {e g:Nat->Option Blk}{r:Nat}(h:¬ (e r).isSome=true):cD e g r=g r:=by
 unfold cD;cases he:e r with
 | none=>rfl
 | some b=>rw[he]at h;exact absurd rfl h
theorem yQ {e g g':Nat->Option Blk}{r:Nat}(h:(e r).isSome=true):cD e g r=cD e g' r:=by
 unfold cD;cases he:e r with
 | none=>rw[he]at h;cases h
 | some b=>rfl
theorem uR {e g g':Nat->Option Blk}{r:Nat}(h:g r=g' r):cD e g r=cD e g' r:=by
 unfold cD;rw[h]
theorem Ef {e e':Nat->Option Blk}{g:Nat->Option Blk}(h:∀ r,(e r).isSome=true->¬ (e' r).isSome=true):cD e' (cD e g)=cD e (cD e' g):=by
 funext r
 by_cases hx:(e r).isSome=true
 ·rw[kX (h r hx)];exact yQ hx
 ·rw[kX (g:=cD e' g) hx];exact uR (kX hx)
section
variable {all:Array Oper} {d d':Nat->Dt} {ρ0:Env} {g0 g0':Nat->Option Blk} {D D':Nat->Bool}
theorem mz {t:Tmp}:∀ {n:Nat},(∀ j,j<n->eT all j=some t->D j=D' j)->aS all d ρ0 n D t=aS all d ρ0 n D' t:=by
 intro n
 induction n with
 | zero=>intro _;rfl
 | succ n ih =>
  intro h;have h0:=ih fun j hj=>h j (by omega);simp only[aS];by_cases hd:eT all n=some t
  ·rw[h n (by omega) hd];split
   ·exact r6 h0
   ·exact h0
  ·have:∀ (b:Bool) (ρ:Env),(if b=true then aE ρ (eT all n) (d n).v else ρ) t=ρ t:=by
    intro b ρ;split
    ·exact od hd
    ·rfl
   rw[this,this];exact h0
theorem uS {m:Nat}:∀ {n:Nat},m<=n->aS all d ρ0 n (fun j=>decide (j<m))=aS all d ρ0 m fun _=>true:=by
 have low:∀ k,k<=m->aS all d ρ0 k (fun j=>decide (j<m))=aS all d ρ0 k fun _=>true:=by
  intro k
  induction k with
  | zero=>intro _;rfl
  | succ k ih =>
   intro hk;simp only[aS];rw[ih (by omega),RC (by simp;omega)];simp
 intro n
 induction n with
 | zero =>
  intro hm;obtain rfl:m=0:=by omega
  exact low 0 (by omega)
 | succ n ih =>
  intro hm;by_cases h:m=n+1
  ·subst h;exact low (n+1) (by omega)
  ·simp only[aS];rw[RB (by simp;omega)];exact ih (by omega)
theorem mA {r:Nat}:∀ {n:Nat},(∀ j,j<n->cR (d j) r->D j=D' j)->aJ d g0 n D r=aJ d g0 n D' r:=by
 intro n
 induction n with
 | zero=>intro _;rfl
 | succ n ih =>
  intro h;have h0:=ih fun j hj=>h j (by omega);simp only[aJ];by_cases hd:cR (d n) r
  ·rw[h n (by omega) hd];split
   ·exact uR h0
   ·exact h0
  ·have:∀ (b:Bool) (g:Nat->Option Blk),(if b=true then cD (d n).e g else g) r=g r:=by
    intro b g;split
    ·exact kX hd
    ·rfl
   rw[this,this];exact h0
theorem uT {m:Nat}:∀ {n:Nat},m<=n->aJ d g0 n (fun j=>decide (j<m))=aJ d g0 m fun _=>true:=by
 have low:∀ k,k<=m->aJ d g0 k (fun j=>decide (j<m))=aJ d g0 k fun _=>true:=by
  intro k
  induction k with
  | zero=>intro _;rfl
  | succ k ih =>
   intro hk;simp only[aJ];rw[ih (by omega),RC (by simp;omega)];simp
 intro n
 induction n with
 | zero =>
  intro hm;obtain rfl:m=0:=by omega
  exact low 0 (by omega)
 | succ n ih =>
  intro hm;by_cases h:m=n+1
  ·subst h;exact low (n+1) (by omega)
  ·simp only[aJ];rw[RB (by simp;omega)];exact ih (by omega)
theorem pL {r:Nat}:∀ {n:Nat},(g0 r=g0' r\/∃ j,j<n/\D j=true/\cR (d j) r)->aJ d g0 n D r=aJ d g0' n D r:=by
 intro n
 induction n with
 | zero =>
  rintro(h|⟨j,hj,_⟩)
  ·exact h
  ·omega
 | succ n ih =>
  intro h;simp only[aJ];by_cases hD:D n=true
  ·rw[RC hD,RC hD];by_cases ht:cR (d n) r
   ·exact yQ ht
   ·refine uR (ih ?_);rcases h with h|⟨j,hj,h1,h2⟩
    ·exact .inl h
    ·by_cases hjn:j=n
     ·subst hjn;exact absurd h2 ht
     ·exact .inr ⟨j,by omega,h1,h2⟩
  ·rw[RB hD,RB hD];refine ih ?_;rcases h with h|⟨j,hj,h1,h2⟩
   ·exact .inl h
   ·by_cases hjn:j=n
    ·subst hjn;exact absurd h1 hD
    ·exact .inr ⟨j,by omega,h1,h2⟩
theorem uU {r:Nat}:∀ {n:Nat},(∀ j,j<n->D j=true->¬ cR (d j) r)->aJ d g0 n D r=g0 r:=by
 intro n
 induction n with
 | zero=>intro _;rfl
 | succ n ih =>
  intro h;simp only[aJ];split
  ·rename_i hD;rw[kX (h n (by omega) hD)];exact ih fun j hj=>h j (by omega)
  ·exact ih fun j hj=>h j (by omega)
def bq (D:Nat->Bool)(i:Nat):Nat->Bool:=fun j=>if j=i then true else D j
theorem uV {i:Nat}(hD:D i=false):∀ {n:Nat},i<n->(∀ j,i<j->j<n->D j=true->∀ t,eT all i=some t->eT all j≠some t) ->
  aS all d ρ0 n (bq D i)=aE (aS all d ρ0 n D) (eT all i) (d i).v:=by
 intro n
 induction n with
 | zero=>intro h;omega
 | succ n ih =>
  intro hi h;by_cases hin:i=n
  ·subst hin;have h0:aS all d ρ0 i (bq D i)=aS all d ρ0 i D:=funext fun t=>mz fun j hj _=>by simp [bq,Uh hj]
   simp only[aS];rw[RC (by simp [bq]),RB (by simp [hD]),h0]
  ·have hw:bq D i n=D n:=(by simp [bq,Ne.symm hin]);have h0:=ih (by omega) fun j h1 h2=>h j h1 (by omega);simp only[aS,hw];split
   ·rename_i hDn;rw[h0];exact zK (h n (by omega) (by omega) hDn)
   ·exact h0
theorem uW {i:Nat}(hD:D i=false):∀ {n:Nat},i<n->(∀ j,i<j->j<n->D j=true->∀ t,cR (d i) t->¬ cR (d j) t) ->
  aJ d g0 n (bq D i)=cD (d i).e (aJ d g0 n D):=by
 intro n
 induction n with
 | zero=>intro h;omega
 | succ n ih =>
  intro hi h;by_cases hin:i=n
  ·subst hin;have h0:aJ d g0 i (bq D i)=aJ d g0 i D:=funext fun t=>mA fun j hj _=>by simp [bq,Uh hj]
   simp only[aJ];rw[RC (by simp [bq]),RB (by simp [hD]),h0]
  ·have hw:bq D i n=D n:=(by simp [bq,Ne.symm hin]);have h0:=ih (by omega) fun j h1 h2=>h j h1 (by omega);simp only[aJ,hw];split
   ·rename_i hDn;rw[h0];exact Ef (h n (by omega) (by omega) hDn)
   ·exact h0
theorem nS {m n:Nat}(h:m<=n):aC d m<=aC d n:=by
 induction n with
 | zero =>
  have:m=0:=by omega
  subst this;exact Nat.le_refl _
 | succ n ih =>
  by_cases hm:m=n+1
  ·subst hm;exact Nat.le_refl _
  ·exact So (ih (by omega)) (by simp [aC])
theorem pM {n c:Nat}(h:c<aC d n):∃ j,j<n/\aC d j<=c/\c<aC d j+(d j).al:=by
 induction n with
 | zero=>simp [aC]at h
 | succ n ih =>
  by_cases hc:c<aC d n
  ·obtain⟨j,h1,h2⟩:=ih hc;exact⟨j,by omega,h2⟩
  ·simp only[aC]at h;exact⟨n,by omega,by omega,by omega⟩
theorem jQ {i n:Nat}(h:i<n):aC d i+(d i).al<=aC d n:=by
 have:=nS (d:=d) (m:=i+1) (n:=n) h;simpa only[aC] using this
theorem pN {n:Nat}(h:∀ j,j<n->d j=d' j):aS all d ρ0 n D=aS all d' ρ0 n D:=by
 induction n with
 | zero=>rfl
 | succ n ih=>simp only[aS];rw[ih fun j hj=>h j (by omega),h n (by omega)]
theorem pO {n:Nat}(h:∀ j,j<n->d j=d' j):aJ d g0 n D=aJ d' g0 n D:=by
 induction n with
 | zero=>rfl
 | succ n ih=>simp only[aJ];rw[ih fun j hj=>h j (by omega),h n (by omega)]
theorem dY {n:Nat}(h:∀ j,j<n->d j=d' j):aC d n=aC d' n:=by
 induction n with
 | zero=>rfl
 | succ n ih=>simp only[aC];rw[ih fun j hj=>h j (by omega),h n (by omega)]
end
def ExecOk (P:Program)(G:Nat->Option (List AVal))(all:Array Oper)(o:Oper)(id:Nat)(s s':St):Prop :=
 (dZ all s.ρ o=some false/\s'=⟨aE s.ρ o.dst (.lit undef),s.H⟩) \/
 (dZ all s.ρ o=some true/\∃ v,s'.ρ=aE s.ρ o.dst v /\
  (ag P G s.ρ s.H id o.op=some (v,s'.H) \/
   ∃ fv args ats,o.op=.call ⟨.value fv,args,ats⟩/\(∀ id st pend m env ps asg body,s.H.get id=some (.loop st pend m env ps asg body)->s'.H.get id=s.H.get id)/\az P G (af G s.ρ fv) (args.toList.map (af G s.ρ)) s.H fun r H3=>r=.ret v/\H3=s'.H))
theorem uX {n:Nat}{wb:Base}{rd rb:Option Nat}{all:Array Oper}{o:Oper}{id i:Nat}{s s':St}{a:Act}{next:Act->World->Prop}{Q':Exit->Act->World->Prop}(ho:all[i]?=some o)(hd:eN n o=true)
  (hs:RelS P G n wb Γ s a w) (hr:db Γ s.H rd rb) (h:ExecOk P G all o id s s')
  (hnext:∀ Γ' a' w',RelS P G n wb Γ' s' a' w'->Evo Γ s.H w Γ' s'.H w'->s.H.next<=s'.H.next->db Γ' s'.H rd rb->(∃ cv,a'=a.put o.dst cv)->next a' w'):
  wpOpIn (dq rb) 0 P all Q' i next a w:=by
 have hdst:∀ d,o.dst=some d->d<n:=by
  intro d hd';unfold eN at hd;rw[hd']at hd;simpa using hd
 unfold wpOpIn;rw[ho];simp only;rcases h with ⟨hw,rfl⟩|⟨hw,v,hρ,h⟩
 ·rw[nV hs hw];simp only[Bool.false_eq_true,if_false];refine⟨fun _ _=>trivial,?_⟩;have hs':=jm (v:=.lit undef) (cv:=undef) hs hdst (Evo.refl Γ s.H w) (Nat.le_refl _) hs.heap (.lit _);exact hnext Γ _ w hs' (Evo.refl _ _ _) (Nat.le_refl _) hr ⟨_,rfl⟩
 ·rw[nV hs hw];simp only[if_true];obtain⟨ρ',H'⟩:=s';simp only at hρ;subst hρ;refine⟨fun _ _=>trivial,?_⟩;rcases h with hop|⟨fv,args,ats,hop,hH,hap⟩
  ·simp only at hop;rw[Oper.semAt_eq _ _ _ (fun c hc=>by rw[hc]at hop;simp [ag]at hop)];obtain⟨nx,cv,Γ',w',hrun,hnx,E,hn,R,hv⟩:=vk hs.heap (gu hs) hop;rw[hrun];have hri:=vp hr (vq hs.heap hop);have hs':=jm hs hdst E hn R hv;have hr':=hr.aU E hn hs.heap hri;rcases hnx with rfl|⟨rfl,rfl⟩
   ·exact hnext Γ' _ w' hs' E hn hr' ⟨_,rfl⟩
   ·exact hnext Γ' _ w' hs' E hn hr' ⟨_,rfl⟩
  ·rw[Oper.semAt_eq _ _ _ (fun c hc=>by rw[hc]at hop;cases hop)];obtain⟨d,h1,h2⟩:=hap Γ w (a.eval fv) (args.map a.eval) hs.heap (gu hs fv) ⟨by simp,fun i h1 h2=>by simp only[RQ,TM,SF];exact gu hs _⟩;have hex:(execOp a.eval o).run P w=(invoke d.target d.args).run P w:=by
    unfold execOp;simp only[hop];unfold resolve;simp only;rw[ak h1]
   have hri:dp H' rd:=by
    cases rd with
    | none=>trivial
    | some id =>
     obtain⟨b,st,pend,n,env,ps,asg,body,_,_,h3⟩:=hr;exact⟨_,_,_,_,_,_,_,(hH _ _ _ _ _ _ _ _ h3).trans h3⟩
   have cont:∀ e w',gE P G Γ s.H w (fun r H3=>r=.ret v/\H3=H') e w'->(match e with
     | .returned v=>next (a.put o.dst v) w'
     | .panicked chain=>Q' (.panic chain) a w'
     | .outgrown=>LetsOut Q'):=by
    rintro e w' ⟨r,H4,Γ',hend,⟨rfl,rfl⟩,R,E,hn⟩;have hr':=hr.aU E hn hs.heap hri;cases e with
    | returned cv=>exact hnext Γ' _ w' (jm hs hdst E hn R hend) E hn hr' ⟨_,rfl⟩
    | panicked chain=>exact hend.elim
    | outgrown=>exact hend.elim
   rw[hex];rcases h2 with ⟨f,as,h3,h4⟩|⟨l,f,tm,asg,body,h3,h4⟩|⟨cv,w',h3,h4⟩
   ·rw[h3];refine⟨fun hc=>by simp [Fence.wide]at hc,?_⟩;have h4':CallsIn (dq rb) 0 P f as w _:=h4;refine h4'.mono ?_;intro e w' hp;have:=cont e w' hp;cases e<;>exact this
   ·rw[h3];refine⟨fun hc=>by simp [Fence.wide]at hc,?_⟩;have h4':RoundIn (dq rb) 0 P l f tm asg body w _:=h4;refine h4'.mono ?_;intro e w' hp;have:=cont e w' hp;cases e<;>exact this
   ·rw[h3];exact cont (.returned cv) w' h4
def ks (d:Nat->Dt)(H0:AHeap)(m:Nat):AHeap:=⟨aJ d H0.get m fun _=>true,H0.next+aC d m⟩
def canon (all:Array Oper)(d:Nat->Dt)(s0:St)(m:Nat):St:=⟨aS all d s0.ρ m fun _=>true,ks d s0.H m⟩
structure GoodAt (P:Program)(G:Nat->Option (List AVal))(all:Array Oper)(bs:List Nat)(s0:St)(d:Nat->Dt)(i:Nat):Prop where
 step:∀ o,all[i]?=some o->∀ ρ2 H2,(∀ t,t∈o.looksAt all->ρ2 t=(canon all d s0 i).ρ t)->(∀ r,r∈(d i).f.rs->H2.get r=(canon all d s0 i).H.get r) ->
  (∀ c,c<(d i).al->H2.get (s0.H.next+aC d i+c)=some .rsv)->s0.H.next+aC d i+(d i).al<=H2.next ->
  ExecOk P G all o (s0.H.next+aC d i) ⟨ρ2,H2⟩ ⟨aE ρ2 o.dst (d i).v,⟨cD (d i).e H2.get,H2.next⟩⟩
 eff:∀ r,cR (d i) r->r∈(d i).f.eff/\(r∈(d i).f.rs\/(s0.H.next+aC d i<=r/\r<s0.H.next+aC d i+(d i).al))
 al:∀ c,c<(d i).al->cR (d i) (s0.H.next+aC d i+c)
 lt:∀ r,r∈(d i).f.rs->r<s0.H.next+aC d i
 apart:∀ j,j<i->(cT bs i).testBit j=false->(∀ r,r∈(d i).f.eff->r ∉ (d j).f.rs)/\(∀ r,r∈(d j).f.eff->r ∉ (d i).f.rs)
def bC (d:Nat->Dt)(m:Nat)(x:Dt):Nat->Dt:=fun j=>if j=m then x else d j
theorem fk {d:Nat->Dt}{m:Nat}{x:Dt}{i:Nat}(h:i<m):d i=bC d m x i:=by simp [bC,Uh h]
theorem bY {d:Nat->Dt}{m:Nat}{x:Dt}:bC d m x m=x:=by simp [bC]
theorem ku {all:Array Oper}{d d':Nat->Dt}{s0:St}{m:Nat}(h:∀ j,j<m->d j=d' j):canon all d s0 m=canon all d' s0 m:=by
 unfold canon ks;rw[pN h,pO h,dY h]
theorem GoodAt.below {all:Array Oper}{bs:List Nat}{s0:St}{d d':Nat->Dt}{i:Nat}(g:GoodAt P G all bs s0 d i)(h:∀ j,j<=i->d j=d' j):GoodAt P G all bs s0 d' i:=by
 have hi:=h i (Nat.le_refl _);have hn:aC d i=aC d' i:=dY fun j hj=>h j (by omega);have hc:canon all d s0 i=canon all d' s0 i:=ku fun j hj=>h j (by omega);obtain⟨a,b,c,e,f⟩:=g;refine⟨?_,?_,?_,?_,?_⟩
 ·rw[<- hi,<- hn,<- hc];exact a
 ·rw[<- hi,<- hn];exact b
 ·rw[<- hi,<- hn];exact c
 ·rw[<- hi,<- hn];exact e
 ·intro j hj hb;rw[<- hi,<- h j (by omega)];exact f j hj hb
def jk (d:Nat->Dt)(m:Nat)(acc:List (Nat × FP)):Prop:=∀ j,j<m->(d j).f=⟨[],[]⟩\/(j,(d j).f)∈acc
theorem jk.add {d:Nat->Dt}{m:Nat}{acc:List (Nat × FP)}(h:jk d m acc)(x:Dt):jk (bC d m x) (m+1) (dx m x.f acc):=by
 intro j hj;have key:∀ p,p∈acc->p∈dx m x.f acc:=by
  intro p hp;unfold dx;split
  ·exact hp
  ·exact SE _ hp
 by_cases hjm:j=m
 ·subst hjm;rw[bY];by_cases hf:x.f=⟨[],[]⟩
  ·exact .inl hf
  ·refine .inr ?_;unfold dx;split
   ·rename_i h0;exact absurd h0 hf
   ·exact S9
 ·rw[<- fk (x:=x) (by omega)];exact(h j (by omega)).imp id (key _)
theorem pP {d:Nat->Dt}{m:Nat}{acc:List (Nat × FP)}{b:Nat}{f:FP}(hc:jk d m acc)(h:fG b f acc):∀ j,j<m->b.testBit j=false->(∀ r,r∈f.eff->r ∉ (d j).f.rs)/\(∀ r,r∈(d j).f.eff->r ∉ f.rs):=by
 intro j hj hb;rcases hc j hj with h0|h1
 ·rw[h0];exact⟨fun r _ h=>(by cases h),fun r h=>(by cases h)⟩
 ·exact h _ h1 hb
theorem mB {all:Array Oper}{d:Nat->Dt}{s0:St}{m:Nat}{x:Dt}{o:Oper}(ho:all[m]?=some o):
  canon all (bC d m x) s0 (m+1)=⟨aE (canon all d s0 m).ρ o.dst x.v,⟨cD x.e (canon all d s0 m).H.get,(canon all d s0 m).H.next+x.al⟩⟩:=by
 have hb:∀ j,j<m->d j=bC d m x j:=fun j hj=>fk hj;unfold canon ks;simp only[aS,aJ,aC,if_true,bY];rw[<- pN hb,<- pO hb,<- dY hb];simp only[eT,ho,Option.bind_some,Th]
theorem mC {all:Array Oper}{bs:List Nat}{s0:St}{d:Nat->Dt}{m:Nat}{x:Dt}(hg:∀ i,i<m->GoodAt P G all bs s0 d i)(hx:GoodAt P G all bs s0 (bC d m x) m):
  ∀ i,i<m+1->GoodAt P G all bs s0 (bC d m x) i:=by
 intro i hi;by_cases him:i=m
 ·subst him;exact hx
 ·exact(hg i (by omega)).below fun j hj=>fk (by omega)
theorem trace {all:Array Oper}{bs:List Nat}{s0:St}{tail:St->Prop}{K:Nat}(hbs:bs.length=K)(hK:K<=all.size):∀ (k m:Nat) (d:Nat->Dt) (acc:List (Nat × FP)),k+m=K ->
  (∀ i,i<m->GoodAt P G all bs s0 d i)->jk d m acc->eF (canon all d s0 m).H->dk P G all tail (bs.drop m) m acc ((all.toList.take K).drop m) (canon all d s0 m) ->
  ∃ d',(∀ i,i<K->GoodAt P G all bs s0 d' i)/\tail (canon all d' s0 K):=by
 intro k
 induction k with
 | zero =>
  intro m d acc hm hg hc wf h;obtain rfl:m=K:=by omega
  refine⟨d,hg,?_⟩;have:(all.toList.take m).drop m=[]:=by
   apply Uw;simp only[RH];omega
  rw[this]at h;cases hb:bs.drop m with
  | nil=>rw[hb]at h;simpa only[dk] using h
  | cons b bs'=>rw[hb]at h;simpa only[dk] using h
 | succ k ih =>
  intro m d acc hm hg hc wf h;have hmK:m<K:=by omega
  have hms:m<all.size:=by omega
  have ho:all[m]?=some all[m]:=RG hms;have hbm:bs.drop m=cT bs m :: bs.drop (m+1):=by
   rw[SC (by omega)];congr 1;simp [cT,Rz (show m<bs.length by omega)]
  have hom:(all.toList.take K).drop m=all[m] :: (all.toList.take K).drop (m+1):=by
   rw[SC (by simp only[RH,Tv];omega)];congr 1;simp
  rw[hbm,hom]at h;simp only[dk]at h;obtain⟨t,ht,h⟩:=h;have hnext:(canon all d s0 m).H.next=s0.H.next+aC d m:=rfl;cases t with
  | false =>
   simp only[Bool.false_eq_true,if_false]at h
   let x:Dt:=⟨.lit undef,fun _=>none,0,⟨[],[]⟩⟩
   have hb:∀ j,j<m->d j=bC d m x j:=fun j hj=>fk hj;have hcan:canon all (bC d m x) s0 (m+1)=⟨aE (canon all d s0 m).ρ all[m].dst (.lit undef),(canon all d s0 m).H⟩:=mB ho;have hgx:GoodAt P G all bs s0 (bC d m x) m:=by
    refine⟨?_,?_,?_,?_,?_⟩
    ·rw[bY,<- ku hb];intro o ho' ρ2 H2 h1 h2 h3 _;rw[ho]at ho';cases ho';refine .inl ⟨?_,rfl⟩;simp only;rw[oe h1,ht]
    ·rw[bY];intro k he;cases he
    ·rw[bY];intro c he;exact absurd he (RV _)
    ·rw[bY];intro r hr;cases hr
    ·rw[bY];intro j hj hbit;exact⟨fun r hr=>(by cases hr),fun r hr hr'=>(by cases hr')⟩
   refine ih (m+1) (bC d m x) acc (by omega) (mC hg hgx) (hc.add x) ?_ ?_
   ·rw[hcan];exact wf
   ·rw[hcan];exact h
  | true =>
   simp only[if_true]at h;unfold bM at h;split at h
   ·rename_i fv args ats hop;obtain⟨v,e,k,f,⟨hlt,heff,hnew,hcall⟩,hap,h⟩:=h
    let x:Dt:=⟨v,e,k,f⟩
    have hb:∀ j,j<m->d j=bC d m x j:=fun j hj=>fk hj;have hcan:canon all (bC d m x) s0 (m+1)=⟨aE (canon all d s0 m).ρ all[m].dst v,⟨cD e (canon all d s0 m).H.get,(canon all d s0 m).H.next+k⟩⟩:=mB ho;have hgx:GoodAt P G all bs s0 (bC d m x) m:=by
     refine⟨?_,?_,?_,?_,?_⟩
     ·rw[bY,<- ku hb,<- dY hb];intro o ho' ρ2 H2 h1 h2 h3 h4;rw[ho]at ho';cases ho';refine .inr ⟨?_,v,rfl,.inr ⟨fv,args,ats,hop,?_,?_⟩⟩
      ·simp only;rw[oe h1,ht]
      ·intro id st pend q env ps asg body hid;refine kX fun hs=>?_;rcases(heff id hs).2 with ⟨hrs,g,t,c,hg⟩|⟨g1,g2⟩
       ·have e9:=h2 id hrs;simp only at hid;rw[hid,hg]at e9;cases e9
       ·obtain⟨c,rfl⟩:∃ c,id=(canon all d s0 m).H.next+c:=⟨id - (canon all d s0 m).H.next,by omega⟩
        have e9:H2.get ((canon all d s0 m).H.next+c)=some .rsv:=h3 c (show c<k by omega);simp only at hid;rw[hid]at e9;cases e9
      ·have hev:=r8 (G:=G) h1;have e1:af G ρ2 fv=af G (canon all d s0 m).ρ fv:=hev fv (by simp [hop,Op.operands,Call.operands]);have e2:args.toList.map (af G ρ2)=args.toList.map (af G (canon all d s0 m).ρ) :=
        Sa fun y hy=>hev y (by simp only[hop,Op.operands,Call.operands];simp;exact .inr (by simpa using hy))
       simp only;rw[e1,e2];exact hcall H2 h2 h3 h4
     ·rw[bY,<- dY hb];intro r hr;exact⟨(heff r hr).1,(heff r hr).2.imp (fun h=>h.1) id⟩
     ·rw[bY,<- dY hb];exact hnew
     ·rw[bY,<- dY hb];exact hlt
     ·rw[bY];intro j hj hbit;rw[<- fk hj];exact pP hc hap j hj hbit
    refine ih (m+1) (bC d m x) _ (by omega) (mC hg hgx) (hc.add x) ?_ ?_
    ·rw[hcan];intro id b hid;show id<(canon all d s0 m).H.next+k;simp only at hid;by_cases hs:(e id).isSome=true
     ·rcases(heff id hs).2 with ⟨hrs,_⟩|⟨_,g2⟩
      ·have:=hlt id hrs;omega
      ·exact g2
     ·rw[kX hs]at hid;have:=wf id b hid;omega
    ·rw[hcan];exact h
   ·obtain⟨⟨v,H'⟩,hop,hap,h⟩:=h;obtain⟨e,al,hget,hnx,heff,hal,hlt,hloc⟩:=vt wf hop
    let x:Dt:=⟨v,my e,(if al=true then 1 else 0),aY P G (canon all d s0 m).ρ (canon all d s0 m).H.next all[m].op⟩
    have hb:∀ j,j<m->d j=bC d m x j:=fun j hj=>fk hj;have hcan:canon all (bC d m x) s0 (m+1)=⟨aE (canon all d s0 m).ρ all[m].dst v,H'⟩:=by
     rw[mB ho];congr 1;cases H';simp only at hget hnx;simp only[AHeap.mk.injEq];refine⟨(yO _ _).trans hget.symm,?_⟩;rw[hnx];simp only[x];cases al<;>simp
    have hgx:GoodAt P G all bs s0 (bC d m x) m:=by
     refine⟨?_,?_,?_,?_,?_⟩
     ·rw[bY,<- ku hb,<- dY hb];intro o ho' ρ2 H2 h1 h2 h3 h4;rw[ho]at ho';cases ho';refine .inr ⟨?_,v,rfl,.inl ?_⟩
      ·simp only;rw[oe h1,ht]
      ·simp only;rw[zJ (ρ':=(canon all d s0 m).ρ) (r8 h1),yO];refine hloc H2 h2 fun ha=>?_;subst ha;have h5:=h3 0 (by simp [x]);simp only[x,if_true]at h4;refine⟨h5,?_⟩;rw[hnext];omega
     ·rw[bY,<- dY hb];intro r hr;unfold cR at hr;simp only[x,my]at hr;cases he:e with
      | none=>rw[he]at hr;cases hr
      | some kb =>
       obtain⟨k0,b0⟩:=kb;rw[he]at hr;simp only at hr;by_cases hrk:r=k0
       ·subst hrk;obtain⟨h1,h2⟩:=heff r b0 he;refine⟨h1,?_⟩;cases hal2:al with
        | false=>exact .inl (h2 hal2)
        | true =>
         obtain⟨b1,hb1⟩:=hal hal2;rw[he]at hb1;simp only[Option.some.injEq,Prod.mk.injEq]at hb1;refine .inr ?_;simp only[x,hal2,if_true];rw[hnext]at hb1;omega
       ·rw[RB hrk]at hr;cases hr
     ·rw[bY,<- dY hb];intro c hc2;cases hal2:al with
      | false=>simp [x,hal2]at hc2
      | true =>
       simp only[x,hal2,if_true]at hc2;obtain⟨b1,hb1⟩:=hal hal2;obtain rfl:c=0:=(by omega);unfold cR;simp only[x,my,hb1,Nat.add_zero];rw[hnext];simp
     ·rw[bY,<- dY hb];exact hlt
     ·rw[bY];intro j hj hbit;rw[<- fk hj];exact pP hc hap j hj hbit
    have wf':eF H':=by
     intro id b hid;rw[hget]at hid;rw[hnx];cases e with
     | none =>
      have:=wf id b hid;split<;>omega
     | some kb =>
      obtain⟨k0,b0⟩:=kb;simp only[dw]at hid;split at hid
      ·rename_i hk;subst hk;cases al with
       | true =>
        obtain⟨b1,hb1⟩:=hal rfl;simp only[Option.some.injEq,Prod.mk.injEq]at hb1;simp only[if_true];omega
       | false =>
        have:=hlt _ ((heff id b0 rfl).2 rfl);simpa using this
      ·have:=wf id b hid;split<;>omega
    refine ih (m+1) (bC d m x) _ (by omega) (mC hg hgx) (hc.add x) ?_ ?_
    ·rw[hcan];exact wf'
    ·rw[hcan];exact h
end Go.Hx.Ev
namespace Go.Hx.Ev
open Go.Hx
variable {P:Program} {G:Nat->Option (List AVal)} {Γ Γ':au} {H H':AHeap} {w w':World}
def dC (all:Array Oper)(d:Nat->Dt)(s0:St)(K:Nat)(D:Nat->Bool):St :=
 ⟨aS all d s0.ρ K D,⟨aJ d (bg s0.H (aC d K)).get K D,s0.H.next+aC d K⟩⟩
theorem uY {all:Array Oper}{bs:List Nat}{K:Nat}(S:Static all bs K){d:Nat->Dt}{s0:St}(hg:∀ i,i<K->GoodAt P G all bs s0 d i){D:Nat->Bool}{i:Nat}{o:Oper}(hi:i<K)(ho:all[i]?=some o)(hDi:D i=false)
  (hdown:∀ j,j<i->(cT bs i).testBit j=true->D j=true) (hup:∀ j,i<j->j<K->D j=true->(cT bs j).testBit i=false):
  ExecOk P G all o (s0.H.next+aC d i) (dC all d s0 K D) (dC all d s0 K (bq D i)):=by
 have hget:∀ j,j<K->∃ oj,all[j]?=some oj:=fun j hj=>⟨_,RG (RL hj S.le)⟩
 have hgi:=hg i hi;have tgtE:∀ j r,j<K->cR (d j) r->r∈(d j).f.eff/\(r∈(d j).f.rs\/(s0.H.next+aC d j<=r/\r<s0.H.next+aC d j+(d j).al)):=fun j r hj ht=>(hg j hj).eff r ht;have rangeK:∀ r,r<s0.H.next+aC d i->((bg s0.H (aC d K)).get r=s0.H.get r\/∃ j,j<i/\(fun _:Nat=>true) j=true/\cR (d j) r):=by
  intro r hr;by_cases h:s0.H.next<=r
  ·obtain⟨j,h1,h2,h3⟩:=pM (d:=d) (n:=i) (c:=r - s0.H.next) (by omega);have:=(hg j (by omega)).al (r - s0.H.next - aC d j) (by omega);rw[show s0.H.next+aC d j+(r - s0.H.next - aC d j)=r by omega]at this;exact .inr ⟨j,h1,rfl,this⟩
  ·left;simp only[bg];rw[RB (by omega)]
 have henv:∀ t,t∈o.looksAt all->aS all d s0.ρ K D t=(canon all d s0 i).ρ t:=by
  intro t ht;show _=aS all d s0.ρ i (fun _=>true) t;rw[<- uS (all:=all) (d:=d) (ρ0:=s0.ρ) (m:=i) (n:=K) (by omega)];refine mz fun j hj hdj=>?_;obtain⟨oj,hoj⟩:=hget j hj;rw[lj hoj]at hdj;rcases Tp j i with h|rfl|h
  ·cases hb:(cT bs i).testBit j with
   | true=>rw[hdown j h hb];simp [h]
   | false=>exact absurd ht ((oq (S.apart i j o oj hi h ho hoj hb)).1 t hdj)
  ·rw[hDi];simp
  ·cases hD:D j with
   | false=>symm;simp;omega
   | true=>exact absurd ht ((oq (S.apart j i oj o hj h hoj ho (hup j h hj hD))).2.1 t hdj)
 have hheap:∀ r,r∈(d i).f.rs->aJ d (bg s0.H (aC d K)).get K D r=(canon all d s0 i).H.get r:=by
  intro r hr;show _=aJ d s0.H.get i (fun _=>true) r;rw[<- pL (g0:=(bg s0.H (aC d K)).get) (rangeK r (hgi.lt r hr)),<- uT (m:=i) (n:=K) (by omega)];refine mA fun j hj ht=>?_;obtain⟨he,_⟩:=tgtE j r hj ht;rcases Tp j i with h|rfl|h
  ·cases hb:(cT bs i).testBit j with
   | true=>rw[hdown j h hb];simp [h]
   | false=>exact absurd hr ((hgi.apart j h hb).2 r he)
  ·rw[hDi];simp
  ·cases hD:D j with
   | false=>symm;simp;omega
   | true=>exact absurd hr (((hg j hj).apart i h (hup j h hj hD)).1 r he)
 have hal:∀ c,c<(d i).al->aJ d (bg s0.H (aC d K)).get K D (s0.H.next+aC d i+c)=some .rsv:=by
  intro c hc;have hlt:=jQ (d:=d) hi;have heff:=(hgi.eff _ (hgi.al c hc)).1;rw[uU]
  ·simp only[bg];rw[RC (by omega)]
  ·intro j hj hD ht;obtain⟨h1,h2⟩:=tgtE j _ hj ht;rcases Tp j i with h|rfl|h
   ·rcases h2 with h3|⟨h2,h3⟩
    ·have:=(hg j hj).lt _ h3;have:=nS (d:=d) (T7 h);omega
    ·have:=jQ (d:=d) h;omega
   ·rw[hDi]at hD;cases hD
   ·rcases h2 with h3|⟨h2,h3⟩
    ·exact absurd h3 (((hg j hj).apart i h (hup j h hj hD)).2 _ heff)
    ·have:=jQ (d:=d) h;omega
 have:=hgi.step o ho (aS all d s0.ρ K D) ⟨aJ d (bg s0.H (aC d K)).get K D,s0.H.next+aC d K⟩ henv hheap hal (by have:=jQ (d:=d) hi;simp only;omega);have e1:aS all d s0.ρ K (bq D i)=aE (aS all d s0.ρ K D) o.dst (d i).v:=by
  rw[uV hDi hi,lj ho];intro j h hj hD t hti;obtain⟨oj,hoj⟩:=hget j hj;rw[lj ho]at hti;rw[lj hoj];exact(oq (S.apart j i oj o hj h hoj ho (hup j h hj hD))).2.2 t hti
 have e2:aJ d (bg s0.H (aC d K)).get K (bq D i)=cD (d i).e (aJ d (bg s0.H (aC d K)).get K D):=by
  refine uW hDi hi fun j h hj hD r hti htj=>?_;obtain⟨a1,a2⟩:=tgtE i r hi hti;obtain⟨b1,b2⟩:=tgtE j r hj htj;obtain⟨c1,c2⟩:=(hg j hj).apart i h (hup j h hj hD);rcases b2 with b3|⟨b2,b3⟩
  ·exact c2 r a1 b3
  ·rcases a2 with a3|⟨a2,a3⟩
   ·exact c1 r b1 a3
   ·have:=jQ (d:=d) h;omega
 unfold dC;rw[e1,e2];exact this
theorem pQ {all:Array Oper}{bs:List Nat}{K:Nat}{d:Nat->Dt}{s0:St}(hg:∀ i,i<K->GoodAt P G all bs s0 d i){D:Nat->Bool}(hD:∀ j,j<K->D j=true):dC all d s0 K D=canon all d s0 K:=by
 unfold dC canon ks;have e1:aS all d s0.ρ K D=aS all d s0.ρ K fun _=>true:=funext fun t=>mz fun j hj _=>hD j hj;have e2:aJ d (bg s0.H (aC d K)).get K D=aJ d s0.H.get K fun _=>true:=by
  funext r
  rw[mA (D':=fun _=>true) fun j hj _=>hD j hj];refine pL ?_;by_cases h:s0.H.next<=r/\r<s0.H.next+aC d K
  ·obtain⟨j,h1,h2,h3⟩:=pM (d:=d) (n:=K) (c:=r - s0.H.next) (by omega);have:=(hg j h1).al (r - s0.H.next - aC d j) (by omega);rw[show s0.H.next+aC d j+(r - s0.H.next - aC d j)=r by omega]at this;exact .inr ⟨j,h1,rfl,this⟩
  ·left;simp only[bg];rw[RB h]
 rw[e1,e2]
theorem uZ {all:Array Oper}{K:Nat}{d:Nat->Dt}{s0:St}{D:Nat->Bool}(hD:∀ j,j<K->D j=false):dC all d s0 K D=⟨s0.ρ,bg s0.H (aC d K)⟩:=by
 unfold dC;have e1:∀ n,n<=K->aS all d s0.ρ n D=s0.ρ:=by
  intro n
  induction n with
  | zero=>intro _;rfl
  | succ n ih=>intro h;simp only[aS];rw[RB (by simp [hD n h])];exact ih (by omega)
 have e2:∀ n,n<=K->aJ d (bg s0.H (aC d K)).get n D=(bg s0.H (aC d K)).get:=by
  intro n
  induction n with
  | zero=>intro _;rfl
  | succ n ih=>intro h;simp only[aJ];rw[RB (by simp [hD n h])];exact ih (by omega)
 rw[e1 K (Nat.le_refl _),e2 K (Nat.le_refl _)];rfl
variable {n:Nat} {wb:Base} {rd rb:Option Nat} {Q:AX->St->Prop} {all:Array Oper} {bs:List Nat} {K:Nat} {id:Nat} {dr:Bool}
theorem u7 (S:Static all bs K)(hfit:∀ o,o∈all.toList->eN n o=true){d:Nat->Dt}{s0:St}(hg:∀ i,i<K->GoodAt P G all bs s0 d i)(htail:cW P G rd Q all (all.toList.drop K) (canon all d s0 K)):
  ∀ (r:Nat) (listed:Array Bool) (D:Nat->Bool) (Γ:au) (a:Act) (w:World),listed.size=all.size->dS listed all.size=r->(∀ j,j<all.size->listed.getD j true=D j)->(∀ j,D j=true->j<K)->sf all D ->
  RelS P G n wb Γ (dC all d s0 K D) a w->db Γ (dC all d s0 K D).H rd rb ->
  ∀ (Q':Exit->Act->World->Prop),(∀ e a' w',fF P G n wb rd rb (wr (.region id all dr)) Γ (dC all d s0 K D).H a w Q e a' w'->Q' e a' w')->wpAnyIn (dq rb) 0 P .any all Q' r listed a w:=by
 intro r
 induction r with
 | zero =>
  intro listed D Γ a w hsz hc hl hlow hL hs hr Q' hq;have hall:∀ j,j<K->D j=true:=fun j hj=>by rw[<- hl j (RL hj S.le)];exact sg hc j (RL hj S.le)
  have hKs:K=all.size:=by
   rcases RP K all.size with h|h
   ·have h1:=sg hc K h;rw[hl K h]at h1;have:=hlow K h1;omega
   ·have:=S.le;omega
  rw[pQ hg hall]at hs hr hq;exact sk S hfit 0 K listed _ Γ a w (by omega) (Nat.le_refl _) hsz hc (fun j hj=>by rw[hl j hj];exact⟨hlow j,hall j⟩) htail hs hr Q' hq
 | succ r ih =>
  intro listed D Γ a w hsz hc hl hlow hL hs hr Q' hq;by_cases hall:∀ j,j<K->D j=true
  ·rw[pQ hg hall]at hs hr hq;have hcount:∀ m,m<=all.size->dS listed m=m - K:=by
    intro m
    induction m with
    | zero=>intro _;simp [dS]
    | succ m ihm =>
     intro hm;simp only[dS];rw[ihm (by omega),hl m (by omega)];by_cases hmK:m<K
     ·rw[hall m hmK];simp;omega
     ·have:D m=false:=by
       cases hD:D m with
       | false=>rfl
       | true=>exact absurd (hlow m hD) hmK
      rw[this];simp;omega
   have h1:=hcount all.size (Nat.le_refl _);exact sk S hfit (r+1) K listed _ Γ a w (by have:=S.le;omega) (Nat.le_refl _) hsz hc (fun j hj=>by rw[hl j hj];exact⟨hlow j,hall j⟩) htail hs hr Q' hq
  ·have hex:∃ j,j<K/\D j=false:=by
    by_cases h:∃ j,j<K/\D j=false
    ·exact h
    ·refine absurd (fun j hj=>?_) hall;cases hD:D j with
     | true=>rfl
     | false=>exact absurd ⟨j,hj,hD⟩ h
   have least:∀ k,(∃ j,j<k/\j<K/\D j=false)->∃ j,j<K/\D j=false/\∀ i,i<j->D i=true:=by
    intro k
    induction k with
    | zero=>rintro⟨j,hj,_⟩;omega
    | succ k ihk =>
     rintro⟨j,h1,h2,h3⟩;by_cases h:∃ j,j<k/\j<K/\D j=false
     ·exact ihk h
     ·refine⟨j,h2,h3,fun i hi=>?_⟩;cases hD:D i with
      | true=>rfl
      | false=>exact absurd ⟨i,by omega,by omega,hD⟩ h
   obtain⟨j0,hj0K,hj0,hbelow⟩:=least K (let ⟨j,h1,h2⟩:=hex;⟨j,h1,h1,h2⟩);have hj0s:j0<all.size:=RL hj0K S.le;have hr0:j0∈Region.ready .any all listed:=by
    refine mem_ready.2 ⟨by rw[hl j0 hj0s];exact hj0,_,RG hj0s,fun e he hb=>?_⟩;have hlt:=S.down j0 _ (RG hj0s) e he hb;rw[mG (by omega) false true,hl e.on (by omega)];exact hbelow _ hlt
   refine⟨fun h0=>(by rw[h0]at hr0;cases hr0),fun i hi=>?_⟩;obtain⟨hiun,oi,hoi,hdir⟩:=mem_ready.1 hi;have his:=(S4.1 hoi).1;have hdirD:∀ e,e∈oi.after->Region.binds .any e=true->D e.on=true:=fun e he hb=>by
    have:=S.down i oi hoi e he hb;rw[<- hl e.on (by omega),<- mG (by omega) false true];exact hdir e he hb
   have hahead:=S.ahead hL i oi;have hiK:i<K:=by
    rcases RP i K with h|h
    ·exact h
    ·have:=hahead j0 hoi hdirD (by rw[RB (by omega)];omega);rw[hj0]at this;cases this
   have hDi:D i=false:=(by rw[<- hl i his];exact hiun);have hex:=uY (P:=P) (G:=G) S hg hiK hoi hDi (fun j hj hb=>hahead j hoi hdirD (by rw[RC hiK];exact hb)) (fun j h1 h2 hD=>by
    cases hb:(cT bs j).testBit i with
    | false=>rfl
    | true =>
     have hjs:j<all.size:=RL h2 S.le;have:=S.ahead hL j _ i (RG hjs) (fun e he hbe=>hL j _ hD (RG hjs) e he hbe) (by rw[RC h2];exact hb);rw[hDi]at this;cases this)
   have hoi':oi=all[i]:=by
    rw[RG his]at hoi;exact(Option.some.inj hoi).symm
   refine uX hoi (hfit oi (by rw[hoi'];simp)) hs hr hex ?_;rintro Γ' a' w' hs' E hn hr' ⟨cv,rfl⟩;have hc':dS (listed.setIfInBounds i true) all.size=r:=by
    have:=vy hiun all.size;rw[RC his]at this;omega
   refine ih (listed.setIfInBounds i true) (bq D i) Γ' _ w' (by simpa using hsz) hc' ?_ ?_ ?_ hs' hr' Q' fun e a'' w'' hp=>hq _ _ _ (hp.step E hn (by rw[hoi'];exact nW his cv) fun _ h=>h)
   ·intro j hj;by_cases hji:j=i
    ·subst hji;simp [bq]
    ·rw[getD_set_ne true (Ne.symm hji),hl j hj];simp [bq,hji]
   ·intro j hj;by_cases hji:j=i
    ·subst hji;exact hiK
    ·simp only[bq,RB hji]at hj;exact hlow j hj
   ·intro k ok hk hok e he hb;by_cases hki:k=i
    ·subst hki;rw[hoi]at hok;cases hok;have:=hdirD e he hb;simp only[bq];split
     ·rfl
     ·exact this
    ·simp only[bq,RB hki]at hk;have:=hL k ok hk hok e he hb;simp only[bq];split
     ·rfl
     ·exact this
theorem W.Eg {s:St}(K:Nat)(bs:List Nat)(hm:P.follows .mixedOrders=true)(hfit:all.toList.all (eN n)=true)(hst:qc all bs K=true)
  (h:dk P G all (cW P G rd Q all (all.toList.drop K)) bs 0 [] (all.toList.take K) s):W P G n rd (.region id all true) Q s:=by
 intro wb Γ a w rb hs hr;have S:=Ab hst;have hfit':∀ o,o∈all.toList->eN n o=true:=fun o ho=>Sg.1 hfit o ho;have wf:eF s.H:=fun id b hb=>hs.heap.next id b hb;have hcan0:canon all (fun _=>⟨.lit undef,fun _=>none,0,⟨[],[]⟩⟩) s 0=s:=rfl;obtain⟨d,hg,htail⟩:=trace (P:=P) (G:=G) (all:=all) (bs:=bs) (s0:=s) (tail:=cW P G rd Q all (all.toList.drop K)) S.len S.le K 0 (fun _=>⟨.lit undef,fun _=>none,0,⟨[],[]⟩⟩) [] (by omega)
  (fun i hi=>by omega) (fun j hj=>by omega) (by rw[hcan0];exact wf) (by rw[hcan0];exact h)
 refine wpIn_region_any hm ?_
 let w1:World:={ w with drawn:=w.drawn+1 }
 have R1:RelH P G Γ s.H w1:=hs.heap.move rfl (ot w) (Nat.le_refl _) (fun id b hb=>.inl hb) fun id b hb=>hb;have hs1:RelS P G n wb Γ s a w1:=hs.move (ot w) (Nat.le_refl _) R1;have hs2:RelS P G n wb Γ ⟨s.ρ,bg s.H (aC d K)⟩ a w1:=hs1.move (qe _ _) (by simp [bg]) (Ad R1 _);have hr2:db Γ (bg s.H (aC d K)) rd rb:=hr.move fun id b hb=>by
  simp only[bg];rw[RB]
  ·exact hb
  ·have:=hs.heap.next id b hb;omega
 have e0:dC all d s K (fun _=>false)=⟨s.ρ,bg s.H (aC d K)⟩:=uZ fun _ _=>rfl;refine u7 (wb:=wb) (id:=id) (dr:=true) S hfit' hg htail all.size _ (fun _=>false) Γ a w1 (by simp) (sj _ (Nat.le_refl _)) ?_ ?_ ?_ ?_ ?_ _ ?_
 ·intro j hj;rw[Ss,TV,RC hj];rfl
 ·intro j hj;cases hj
 ·intro i o hi;cases hi
 ·rw[e0];exact hs2
 ·rw[e0];exact hr2
 ·rw[e0];intro e a' w' hp;refine hp.step ?_ (by simp [bg]) (.refl _ _) fun _ h=>h;exact Evo.trans (ot w) (Nat.le_refl _) (qe _ _)
end Go.Hx.Ev
namespace Go.Hx.Ev
open Go.Hx
variable {P:Program} {G:Nat->Option (List AVal)} {Γ Γ':au} {H H':AHeap} {w w':World}
inductive Cln (K:Nat->Prop):AVal->Prop
 | lit (v:Value):Cln K (.lit v)
 | nil:Cln K (.vec 0 [])
 | agg {c:List AVal} (h:∀ i (h:i<c.length),Cln K c[i]):Cln K (.agg c)
 | tup {c:List AVal} (h:∀ i (h:i<c.length),Cln K c[i]):Cln K (.tup c)
 | clo {f:FuncId} {a b:List AVal} (h1:∀ i (h:i<a.length),Cln K a[i]) (h2:∀ i (h:i<b.length),Cln K b[i]):Cln K (.clo f a b)
 | own {id g o l z:Nat} (h:K id):Cln K (.own id g o l z)
 | ptr {id g o:Nat} (h:K id):Cln K (.ptr id g o)
theorem Cln.mono {K K':Nat->Prop}{v:AVal}(h:Cln K v)(hk:∀ id,K id->K' id):Cln K' v:=by
 induction h with
 | lit v=>exact .lit v
 | nil=>exact .nil
 | agg _ ih=>exact .agg ih
 | tup _ ih=>exact .tup ih
 | clo _ _ ih1 ih2=>exact .clo ih1 ih2
 | own h=>exact .own (hk _ h)
 | ptr h=>exact .ptr (hk _ h)
theorem Cln.fz {S:Nat->Prop}{nx:Nat}{v:AVal}(h:Cln (fun id=>¬ S id/\id<nx) v):Fz S H nx v v:=by
 induction h with
 | lit v=>exact .lit v
 | nil=>exact .vec rfl fun i h=>absurd h (RV _)
 | agg _ ih=>exact .agg rfl fun i h _=>ih i h
 | tup _ ih=>exact .tup rfl fun i h _=>ih i h
 | clo _ _ ih1 ih2=>exact .clo rfl rfl (fun i h _=>ih1 i h) fun i h _=>ih2 i h
 | own h=>exact .own h.2 h.1
 | ptr h=>exact .ptr h.2 h.1
theorem Cln.sound {K:Nat->Prop}{Γ₁ Γ₂:au}{H₁ H₂:AHeap}(hK:∀ id,K id->H₂.get id=H₁.get id/\Γ₂ id=Γ₁ id)(hn:H₁.next<=H₂.next){v:AVal}(h:Cln K v):
  ∀ {cv:Value},RelV P Γ₁ H₁ w v cv->RelV P Γ₂ H₂ w v cv:=by
 induction h with
 | lit v=>intro cv h;cases h;exact .lit _
 | nil =>
  intro cv h;cases h with
  | vec0 a cap=>exact .vec0 a cap
  | vec hb hlt hlen hcs hcell hrel=>exact .vec0 _ _
 | agg _ ih=>intro cv h;cases h with|agg hcs hrel=>exact .agg hcs fun i h1 h2=>ih i h1 (hrel i h1 h2)
 | tup _ ih=>intro cv h;cases h with|tup hcs hrel=>exact .tup hcs fun i h1 h2=>ih i h1 (hrel i h1 h2)
 | clo _ _ ih1 ih2=>intro cv h;cases h with|clo hfs hcs hf hc=>exact .clo hfs hcs (fun i h1 h2=>ih1 i h1 (hf i h1 h2)) fun i h1 h2=>ih2 i h1 (hc i h1 h2)
 | own h =>
  intro cv hv;cases hv with
  | own hv =>
   obtain⟨a,b,c,d⟩:=hv;obtain⟨e1,e2⟩:=hK _ h;refine .own ⟨by omega,b,by rw[e1];exact c,fun g e cells hg=>?_⟩;rw[e1]at hg;rw[e2];exact d g e cells hg
 | ptr h =>
  intro cv hv;cases hv with
  | ptr hv =>
   obtain⟨a,b,c,d⟩:=hv;obtain⟨e1,e2⟩:=hK _ h;refine .ptr ⟨by omega,b,by rw[e1];exact c,fun g e cells hg=>?_⟩;rw[e1]at hg;rw[e2];exact d g e cells hg
def jl (lo hi:Nat)(lv:Nat->Bool)(g:Nat->Option Blk):Nat->Option Blk:=fun id=>if lo<=id/\id<hi then (if lv id=true then g id else some (.arr 0 0 [])) else none
def rP (lo hi:Nat):List Nat:=(List.range (hi - lo)).map (·+lo)
theorem Eh {lo hi r:Nat}(h1:lo<=r)(h2:r<hi):r∈rP lo hi:=by
 unfold rP;rw[RI];exact⟨r - lo,by rw[RK];omega,by omega⟩
open Classical in
theorem kW.mk {f:FuncId}{first cap args args':List AVal}{v:AVal}(Hs Hs':AHeap)(kp:Nat->Prop)(lv:Nat->Bool)(rs:List Nat)(hG:fH G)
  (hrs:∀ r,r∈rs->r<H.next) (hnx:Hs.next=H.next) (hle:Hs.next<=Hs'.next)
  (hkp:∀ id,kp id->id∈rs/\Hs.get id=H.get id/\Hs'.get id=H.get id/\∃ g e c,H.get id=some (.arr g e c)/\∀ i (h:i<c.length),Cln kp c[i])
  (hgone:∀ id,¬ kp id->Hs.get id=none)
  (hl:args'.length=(first++args++cap).length)
  (hargs:∀ H2:AHeap,(∀ r,r∈rs->H2.get r=H.get r)->∀ i (h:i<(first++args++cap).length) (h':i<args'.length),Fz (fun id=>¬ kp id) H2 H.next (first++args++cap)[i] args'[i])
  (hcall:ae P G f args' Hs fun r H'=>r=.ret v/\H'=Hs')
  (hv:Cln (fun id=>kp id\/(H.next<=id/\id<Hs'.next/\lv id=true)) v)
  (hnew:∀ id,H.next<=id->id<Hs'.next->lv id=true->∃ g e c,Hs'.get id=some (.arr g e c)/\∀ i (h:i<c.length),Cln (fun id=>kp id\/(H.next<=id/\id<Hs'.next/\lv id=true)) c[i]):
  kW P G (.clo f first cap) args H v (jl H.next Hs'.next lv Hs'.get) (Hs'.next - H.next) ⟨rP H.next Hs'.next,rs⟩:=by
 have hsome:∀ id,H.next<=id->id<Hs'.next->(jl H.next Hs'.next lv Hs'.get id).isSome=true:=by
  intro id h1 h2;unfold jl;rw[RC ⟨h1,h2⟩];split
  ·rename_i h3;obtain⟨g,e,c,h4,_⟩:=hnew id h1 h2 h3;rw[h4];rfl
  ·rfl
 have hout:∀ id,(jl H.next Hs'.next lv Hs'.get id).isSome=true->H.next<=id/\id<Hs'.next:=by
  intro id h;unfold jl at h;split at h
  ·assumption
  ·cases h
 refine⟨hrs,fun r hr=>?_,fun c hc=>hsome _ (by omega) (by omega),?_⟩
 ·obtain⟨h1,h2⟩:=hout r hr;exact⟨Eh h1 h2,.inr ⟨h1,by omega⟩⟩
 intro H2 hag hres hn2;refine az.clo ⟨hcall.1,fun Γ w cargs R hr=>?_⟩
 let S:Nat->Prop:=fun id=>¬ kp id
 have kpO:∀ id,¬ S id->kp id:=fun id h=>Se h;have hkH2:∀ id,kp id->H2.get id=H.get id:=fun id h=>hag id (hkp id h).1;have hlow:∀ id,kp id->id<H.next:=fun id h=>hrs id (hkp id h).1;have F:FzH S H2 Hs:=by
  refine⟨fun id hs=>hgone id hs,fun id b hs hb=>?_,fun id hs hb=>?_⟩
  ·have hk:=kpO id hs;obtain⟨h1,h2,h3,g,e,c,h4,h5⟩:=hkp id hk;rw[hkH2 id hk,h4]at hb;cases hb;refine⟨by rw[hnx];exact hlow id hk,.arr g e c,by rw[h2,h4],rfl,rfl,rfl,fun i hi _=>?_⟩;exact((h5 i hi).mono fun id hk=>⟨fun hs=>hs hk,by rw[hnx];exact hlow id hk⟩).fz
  ·have hk:=kpO id hs;obtain⟨h1,h2,h3,g,e,c,h4,h5⟩:=hkp id hk;rw[hkH2 id hk,h4]at hb;cases hb
 have R0:RelH P G (eV S Γ) Hs w:=F.rel hG R;have hr0:cS P (eV S Γ) Hs w args' cargs:=⟨by have:=hr.1;omega,fun i h1 h2=>(by
  have:=hargs H2 hag i (by omega) h1;rw[<- hnx]at this;exact this.sound R F (hr.2 i (by omega) h2))⟩
 refine(hcall.2 _ w cargs R0 hr0).mono ?_;rintro e w' ⟨r,H',Γ',hend,⟨rfl,rfl⟩,R',E,hn⟩
 let nw:Nat->Prop:=fun id=>H.next<=id/\id<H'.next
 let lw:Nat->Prop:=fun id=>H.next<=id/\id<H'.next/\lv id=true
 let Γ3:au:=fun id=>if lw id then Γ' id else Γ id
 let H3:AHeap:=⟨cD (jl H.next H'.next lv H'.get) H2.get,H2.next⟩
 have hnle:H'.next<=H2.next:=by omega
 have g3l:∀ id,lw id->Γ3 id=Γ' id:=fun id h=>RC h;have g3o:∀ id,¬ lw id->Γ3 id=Γ id:=fun id h=>RB h;have kold:∀ id,kp id->¬ nw id:=fun id h hn=>by have:=hlow id h;have:=hn.1;omega
 have koldl:∀ id,kp id->¬ lw id:=fun id h hn=>kold id h ⟨hn.1,hn.2.1⟩;have gk:∀ id,kp id->Γ' id=Γ id:=by
  intro id hk;obtain⟨h1,h2,h3,g,e,c,h4,h5⟩:=hkp id hk;have hlo:=hlow id hk;obtain⟨x,hx,hle'⟩:=E.live id (by omega) (by omega) (.arr g e c) (by rw[h3,h4]);rw[h2,h4]at hx;cases hx;rw[(hle'.2 rfl).1];exact ie fun hs=>hs hk
 have h3new:∀ id,nw id->H3.get id=jl H.next H'.next lv H'.get id:=by
  intro id h;show cD _ _ id=_;unfold cD;have:=hsome id h.1 h.2;split
  ·rename_i b hb;rw[hb]
  ·rename_i hb;rw[hb]at this;cases this
 have h3live:∀ id,lw id->H3.get id=H'.get id:=by
  intro id h;rw[h3new id ⟨h.1,h.2.1⟩];unfold jl;rw[RC ⟨h.1,h.2.1⟩,RC h.2.2]
 have h3dead:∀ id,nw id->¬ lw id->H3.get id=some (.arr 0 0 []):=by
  intro id h hl;rw[h3new id h];unfold jl;rw[RC h,RB fun h2=>hl ⟨h.1,h.2,h2⟩]
 have h3old:∀ id,¬ nw id->H3.get id=H2.get id:=by
  intro id h;show cD _ _ id=_;exact kX fun h'=>h (hout id h')
 have hrsv:∀ id,nw id->H2.get id=some .rsv:=by
  intro id h;have:=hres (id - H.next) (by have:=h.1;have:=h.2;omega)
  rwa [show H.next+(id - H.next)=id by have:=h.1;omega]at this
 have hΓnew:∀ id,nw id->Γ id=none:=fun id h=>R.rsv id (hrsv id h);have hfar:∀ id b base n,lw id->Γ' id=some (b,base,n)->w.heap.size<=b:=by
  intro id b base n hid hb;refine TR fun hlt=>?_;have hown:(eV S Γ).eD b:=Se fun hno=>(E.keep b hlt hno).2 ⟨id,base,n,hb⟩;obtain⟨id0,base0,n0,h0⟩:=hown;obtain⟨hs0,h0⟩:=jS h0;have hk0:=kpO id0 hs0;rw[<- gk id0 hk0]at h0;have:=R'.inj _ _ _ _ _ _ _ h0 hb;subst this;exact koldl _ hk0 hid
 have EE:Evo Γ H2 w Γ3 H3 w':=by
  refine⟨E.os,E.tape,E.output,E.size,fun b hb ho=>⟨(E.keep b hb fun h=>ho (so h)).1,?_⟩,fun id h1 h2 x' hx'=>?_,E.frz⟩
  ·rintro⟨id,base,n,h⟩;by_cases hl:lw id
   ·rw[g3l id hl]at h;have:=hfar id b base n hl h;omega
   ·rw[g3o id hl]at h;exact ho ⟨id,base,n,h⟩
  ·by_cases hnw:nw id
   ·exact⟨.rsv,hrsv id hnw,trivial⟩
   ·rw[h3old id hnw]at hx';refine⟨x',hx',?_⟩;have hg:Γ3 id=Γ id:=g3o id fun h=>hnw ⟨h.1,h.2.1⟩;cases x' with
    | arr g e c=>exact⟨Nat.le_refl _,fun _=>⟨hg,rfl,rfl⟩⟩
    | loop=>exact⟨hg,rfl,rfl,rfl,rfl,rfl⟩
    | rsv=>trivial
    | mp=>exact hg
 have hn3:H2.next<=H3.next:=Nat.le_refl _;have hK:∀ id,(kp id\/lw id)->H3.get id=H'.get id/\Γ3 id=Γ' id:=by
  rintro id (h|h)
  ·refine⟨?_,?_⟩
   ·rw[h3old id (kold id h),hkH2 id h,(hkp id h).2.2.1]
   ·rw[g3o id (koldl id h),gk id h]
  ·exact⟨h3live id h,g3l id h⟩
 have hle3:H'.next<=H3.next:=hnle;have hidden:∀ id b base n,¬ kp id->Γ id=some (b,base,n)->w'.heap[b]?=w.heap[b]?:=by
  intro id b base n hk h;refine(E.keep b (R.lt _ _ _ _ h) ?_).1;rintro⟨id0,base0,n0,h0⟩;obtain⟨hs0,h0⟩:=jS h0;have:=R.inj _ _ _ _ _ _ _ h h0;subst this;exact hs0 hk
 have R3:RelH P G Γ3 H3 w':=by
  refine⟨?_,?_,?_,?_,?_,?_,?_,?_,?_,?_⟩
  ·intro id g e cells hg;have main : (kp id∨lw id)→(∀ i (h : i<cells.length),Cln (fun id=>kp id∨lw id) cells[i])→H'.get id=some (.arr g e cells)→_:=fun hid hc hg'=>R'.arr id g e cells hg';have fin : (kp id∨lw id)→(∀ i (h : i<cells.length),Cln (fun id=>kp id∨lw id) cells[i])→H'.get id=some (.arr g e cells)→(match Γ3 id with
     | some (b,base,n)=>∃ c,w'.heap[b]?=some (.cells c e (0,0))/\c.size=n/\base+cells.length<=n /\
      ∀ i (h:i<cells.length),∃ cv,c[base+i]?=some cv/\RelV P Γ3 H3 w' cells[i] cv
     | none=>cells=[]):=by
    intro hid hc hg';have h1:=R'.arr id g e cells hg';rw[(hK id hid).2];cases hΓ:Γ' id with
    | none=>rw[hΓ]at h1;exact h1
    | some y =>
     obtain⟨b,base,n⟩:=y;rw[hΓ]at h1;obtain⟨c,a1,a2,a3,a4⟩:=h1;refine⟨c,a1,a2,a3,fun i hi=>?_⟩;obtain⟨cv,b1,b2⟩:=a4 i hi;exact⟨cv,b1,(hc i hi).sound hK hle3 b2⟩
   by_cases hl:lw id
   ·have hg':=hg;rw[h3live id hl]at hg';obtain⟨g0,e0,c0,h4,h5⟩:=hnew id hl.1 hl.2.1 hl.2.2;rw[h4]at hg';cases hg';exact fin (.inr hl) h5 h4
   ·by_cases hnw:nw id
    ·rw[h3dead id hnw hl]at hg;cases hg;rw[g3o id hl,hΓnew id hnw]
    ·rw[h3old id hnw]at hg;by_cases hk:kp id
     ·obtain⟨h1,h2,h3,g0,e0,c0,h4,h5⟩:=hkp id hk;rw[hkH2 id hk,h4]at hg;cases hg;exact fin (.inl hk) (fun i hi=>(h5 i hi).mono fun _ h=>.inl h) (by rw[h3,h4])
     ·have h1:=R.arr id g e cells hg;rw[g3o id hl];cases hΓ:Γ id with
      | none=>rw[hΓ]at h1;exact h1
      | some y =>
       obtain⟨b,base,n⟩:=y;rw[hΓ]at h1;obtain⟨c,a1,a2,a3,a4⟩:=h1;refine⟨c,by rw[hidden id b base n hk hΓ];exact a1,a2,a3,fun i hi=>?_⟩;obtain⟨cv,b1,b2⟩:=a4 i hi;exact⟨cv,b1,b2.aU EE hn3⟩
  ·intro id st pend n env ps asg body hg;by_cases hl:lw id
   ·rw[h3live id hl]at hg;obtain⟨g0,e0,c0,h4,h5⟩:=hnew id hl.1 hl.2.1 hl.2.2;rw[h4]at hg;cases hg
   ·by_cases hnw:nw id
    ·rw[h3dead id hnw hl]at hg;cases hg
    ·rw[h3old id hnw]at hg;have hk:¬ kp id:=fun hk=>by
      obtain⟨h1,h2,h3,g0,e0,c0,h4,h5⟩:=hkp id hk;rw[hkH2 id hk,h4]at hg;cases hg
     obtain⟨b,r,a1,a2,a3,a4,a5,a6,a7,a8,a9⟩:=R.loop id st pend n env ps asg body hg;exact⟨b,r,by rw[g3o id hl];exact a1,by rw[hidden id b 0 0 hk a1];exact a2,a3,a4,a5,a6,a7,a8,fun t ht=>(a9 t ht).aU EE hn3⟩
  ·intro id es hg;by_cases hl:lw id
   ·rw[h3live id hl]at hg;obtain⟨g0,e0,c0,h4,h5⟩:=hnew id hl.1 hl.2.1 hl.2.2;rw[h4]at hg;cases hg
   ·by_cases hnw:nw id
    ·rw[h3dead id hnw hl]at hg;cases hg
    ·rw[h3old id hnw]at hg;have hk:¬ kp id:=fun hk=>by
      obtain⟨h1,h2,h3,g0,e0,c0,h4,h5⟩:=hkp id hk;rw[hkH2 id hk,h4]at hg;cases hg
     obtain⟨b,a1,a2⟩:=R.mp id es hg;exact⟨b,by rw[g3o id hl];exact a1,by rw[hidden id b 0 0 hk a1];exact a2⟩
  ·intro id hg;have hnw:¬ nw id:=fun hnw=>by
    by_cases hl:lw id
    ·rw[h3live id hl]at hg;obtain⟨g0,e0,c0,h4,h5⟩:=hnew id hl.1 hl.2.1 hl.2.2;rw[h4]at hg;cases hg
    ·rw[h3dead id hnw hl]at hg;cases hg
   rw[h3old id hnw]at hg;rw[g3o id fun h=>hnw ⟨h.1,h.2.1⟩];exact R.rsv id hg
  ·intro id id' b base n base' n' h h';by_cases hl:lw id<;>by_cases hl':lw id'
   ·rw[g3l id hl]at h;rw[g3l id' hl']at h';exact R'.inj _ _ _ _ _ _ _ h h'
   ·rw[g3l id hl]at h;rw[g3o id' hl']at h';have:=hfar id b base n hl h;have:=R.lt _ _ _ _ h';omega
   ·rw[g3o id hl]at h;rw[g3l id' hl']at h';have:=hfar id' b base' n' hl' h';have:=R.lt _ _ _ _ h;omega
   ·rw[g3o id hl]at h;rw[g3o id' hl']at h';exact R.inj _ _ _ _ _ _ _ h h'
  ·intro id x h;by_cases hl:lw id
   ·obtain⟨g0,e0,c0,h4,h5⟩:=hnew id hl.1 hl.2.1 hl.2.2;exact⟨_,by rw[h3live id hl];exact h4⟩
   ·rw[g3o id hl]at h;by_cases hnw:nw id
    ·exact⟨_,h3dead id hnw hl⟩
    ·obtain⟨y,hy⟩:=R.dom id x h;exact⟨y,by rw[h3old id hnw];exact hy⟩
  ·intro id b base n h;by_cases hl:lw id
   ·rw[g3l id hl]at h;exact R'.lt _ _ _ _ h
   ·rw[g3o id hl]at h;exact RL (R.lt _ _ _ _ h) E.size
  ·intro id y h;by_cases hnw:nw id
   ·have:=hnw.2;exact RL this hnle
   ·rw[h3old id hnw]at h;exact R.next id y h
  ·intro g cells h;exact(R.glob g cells h).aU EE hn3
  ·exact R.nE EE
 refine⟨.ret v,H3,Γ3,?_,⟨rfl,rfl⟩,R3,EE,hn3⟩;cases e with
 | returned cv=>exact hv.sound hK hle3 hend
 | panicked chain=>exact hend.elim
 | outgrown=>exact hend.elim
end Go.Hx.Ev
