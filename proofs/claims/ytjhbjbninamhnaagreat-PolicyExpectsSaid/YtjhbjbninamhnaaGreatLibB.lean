/-
  Regions that draw their order. Own work: no program stands in this text.
-/
import Derived.Test.YtjhbjbninamhnaaGreatLibA
import Derived.OrdersIn
set_option linter.all false
namespace Go.Hx
variable {P:Program} {G:Nat->Option (List AVal)} {Γ Γ':aC} {H H':AHeap} {w w':World}
def aJ:AVal->List Nat
 | .own id _ _ _ _=>[id]
 | .ptr id _ _=>[id]
 | _=>[]
def dA:AVal->List Nat
 | .yld id=>[id]
 | _=>[]
structure FP where
 eff:List Nat
 rs:List Nat
def kf:AVal->Bool
 | .own ..=>true
 | _=>false
def jE (P:Program)(t:TypeId)(x:AVal):List Nat:=match P.underlying t with
 | some (.slice _)=>aJ x
 | _=>[]
def iD (P:Program)(id:Nat)(b:Builtin)(ats:List TypeId)(args:List AVal):FP :=
 match b,ats,args with
 | .append,_,[s,x]=>if kf s then ⟨aJ s,aJ s++aJ x⟩ else ⟨[id],aJ x⟩
 | .copy,_,[d,x]=>⟨aJ d,aJ d++aJ x⟩
 | .clear,_,[d]=>⟨aJ d,aJ d⟩
 | .len,[t],[x]=>⟨[],jE P t x⟩
 | _,_,_=>⟨[],[]⟩
def bt (P:Program)(G:Nat->Option (List AVal))(ρ:Env)(id:Nat):Op->FP
 | .load _ a=>⟨[],aJ (ak G ρ a)⟩
 | .nilCheck a=>⟨[],aJ (ak G ρ a)⟩
 | .slice _ a _ _ _=>⟨[],aJ (ak G ρ a)⟩
 | .fieldAddr _ a _=>⟨[],aJ (ak G ρ a)⟩
 | .indexAddr _ a _=>⟨[],aJ (ak G ρ a)⟩
 | .convert _ _ a=>⟨[],aJ (ak G ρ a)⟩
 | .store _ a _=>⟨aJ (ak G ρ a),aJ (ak G ρ a)⟩
 | .alloc _=>⟨[id],[]⟩
 | .box _ _=>⟨[id],[]⟩
 | .buildSlice _ _ _=>⟨[id],[]⟩
 | .makeSlice _ _ _=>⟨[id],[]⟩
 | .makeMap _ _=>⟨[id],[]⟩
 | .lookup _ x _ _=>⟨[],dA (ak G ρ x)⟩
 | .mapUpdate _ m _ _|.insert _ m _ _|.mapEntry _ m _|.entryStore _ m _ _=>⟨dA (ak G ρ m),dA (ak G ρ m)⟩
 | .call c=>match c.callee with
  | .builtin b=>iD P id b c.argTypes.toList (c.args.toList.map (ak G ρ))
  | _=>⟨[],[]⟩
 | _=>⟨[],[]⟩
def dB (e:Option (Nat × Blk))(g:Nat->Option Blk):Nat->Option Blk :=
 match e with
 | none=>g
 | some (k,b)=>fun j=>if j=k then some b else g j
def eT (H:AHeap):Prop:=∀ id b,H.get id=some b->id<H.next
theorem iX (wf:eT H){id gen:Nat}{ec:TypeId × List AVal}(h:H.live id gen=some ec):id<H.next:=wf id _ (iz (e:=ec.1) (cells:=ec.2) h)
theorem jF {H2:AHeap}{id:Nat}(h:H2.get id=H.get id)(gen:Nat):H2.live id gen=H.live id gen:=by unfold AHeap.live;rw[h]
def Local (P:Program)(G:Nat->Option (List AVal))(ρ:Env)(H:AHeap)(o:Op)(v:AVal)(H':AHeap)(f:FP):Prop :=
 ∃ (e:Option (Nat × Blk)) (al:Bool),H'.get=dB e H.get/\H'.next=(if al then H.next+1 else H.next) /\
  (∀ k b,e=some (k,b)->k∈f.eff/\(al=false->k∈f.rs))/\(al=true->∃ b,e=some (H.next,b))/\(∀ r,r∈f.rs->r<H.next) /\
  ∀ H2:AHeap,(∀ r,r∈f.rs->H2.get r=H.get r)->(al=true->H2.get H.next=some .rsv/\H.next≠H2.next)->aj P G ρ H2 H.next o=some (v,⟨dB e H2.get,H2.next⟩)
theorem cS {ρ:Env}{o:Op}{v:AVal}{f:FP}(hrs:∀ r,r∈f.rs->r<H.next)(h:∀ H2:AHeap,(∀ r,r∈f.rs->H2.get r=H.get r)->aj P G ρ H2 H.next o=some (v,H2)):Local P G ρ H o v H f:=by
 refine⟨none,false,rfl,rfl,?_,?_,hrs,fun H2 ha _=>h H2 ha⟩
 ·intro k b h;cases h
 ·intro h;cases h
theorem oK {ρ:Env}{o:Op}{v:AVal}{f:FP}{b:Blk}(hl:H.lay H.next b=some H')(hta:H.next∈f.eff)(hrs:∀ r,r∈f.rs->r<H.next)
  (h:∀ H2:AHeap,(∀ r,r∈f.rs->H2.get r=H.get r)->∀ H2',H2.lay H.next b=some H2'->aj P G ρ H2 H.next o=some (v,H2')):Local P G ρ H o v H' f:=by
 obtain⟨h1,h2⟩:=iT hl;have h2':H'.next=H.next+1:=by
  unfold AHeap.lay at hl;rw[SQ rfl]at hl;simp only[Option.some.injEq]at hl;rw[<- hl]
 refine⟨some (H.next,b),true,funext h1,by simp [h2'],?_,?_,hrs,fun H2 ha hr=>?_⟩
 ·intro k b' hk;simp only[Option.some.injEq,Prod.mk.injEq]at hk;exact⟨hk.1 ▸ hta,fun h=>by cases h⟩
 ·exact fun _=>⟨b,rfl⟩
 ·obtain⟨hr1,hr2⟩:=hr rfl;refine h H2 ha _ ?_;unfold AHeap.lay;rw[SO hr2,hr1];rfl
theorem ma {ρ:Env}{o:Op}{v:AVal}{f:FP}{id:Nat}{b:Blk}(hid:id∈f.eff)(hid':id∈f.rs)(hrs:∀ r,r∈f.rs->r<H.next)
  (h:∀ H2:AHeap,(∀ r,r∈f.rs->H2.get r=H.get r)->aj P G ρ H2 H.next o=some (v,H2.upd id b)):Local P G ρ H o v (H.upd id b) f:=by
 refine⟨some (id,b),false,rfl,rfl,?_,?_,hrs,fun H2 ha _=>h H2 ha⟩
 ·intro k b' hk;simp only[Option.some.injEq,Prod.mk.injEq]at hk;exact⟨hk.1 ▸ hid,fun _=>hk.1 ▸ hid'⟩
 ·intro h;cases h
theorem cE {n:Nat}:∀ r,r∈([]:List Nat)->r<n:=fun _ h=>by cases h
theorem fk {n id:Nat}(h:id<n):∀ r,r∈[id]->r<n:=fun r hr=>by
 simp only[List.mem_singleton]at hr;omega
theorem GP {H2:AHeap}{t:TypeId}{a:AVal}(h:∀ r,r∈aJ a->H2.get r=H.get r):eS P H2 t a=eS P H t a:=by
 cases a with
 | ptr id gen off=>simp only[eS];rw[h id (by simp [aJ])]
 | _=>rfl
theorem GQ (wf:eT H){t:TypeId}{a v:AVal}(h:eS P H t a=some v):∀ r,r∈aJ a->r<H.next:=by
 cases a with
 | ptr id gen off =>
  refine fk ?_;simp only[eS]at h;split at h
  ·rename_i hg;exact wf _ _ hg
  ·cases h
 | own=>simp [eS]at h
 | _=>exact cE
theorem GR {t:TypeId}{a v:AVal}(h:gZ P H t a v=some H'):∃ id gen off g e cells,a=.ptr id gen off/\H.get id=some (.arr g e cells)/\∃ cells',H'=H.upd id (.arr g e cells') /\
  ∀ H2:AHeap,H2.get id=H.get id->gZ P H2 t a v=some (H2.upd id (.arr g e cells')):=by
 cases a with
 | ptr id gen off =>
  simp only[gZ]at h;split at h
  ·rename_i g e cells hg;split at h
   ·rename_i hc;simp only[Option.some.injEq]at h;refine⟨id,gen,off,g,e,cells,rfl,hg,_,h.symm,fun H2 h2=>?_⟩;simp only[gZ];rw[h2,hg];simp only;rw[SQ hc]
   ·cases h
  ·cases h
 | _=>simp [gZ]at h
theorem GS (wf:eT H){t:TypeId}{x v:AVal}{i:Int}(h:lW P H t x i=some v):(∀ r,r∈aJ x->r<H.next)/\∀ H2:AHeap,(∀ r,r∈aJ x->H2.get r=H.get r)->lW P H2 t x i=some v:=by
 unfold lW at h ⊢;split at h
 ·split at h
  ·rename_i hc;split at h
   ·rename_i id gen off;simp only[SL]at h;obtain⟨ec,hl,hv⟩:=h;refine⟨fk (iX wf hl),fun H2 h2=>?_⟩;rw[SQ hc];simp only[jF (h2 id (by simp [aJ])),hl,Option.map_some,hv]
   ·refine⟨cE,fun H2 _=>?_⟩;rw[SQ hc];exact h
   ·cases h
  ·cases h
 ·split at h
  ·rename_i hc;split at h
   ·rename_i id gen off len sz;split at h
    ·rename_i hi;simp only[SL]at h;obtain⟨ec,hl,hv⟩:=h;refine⟨fk (iX wf hl),fun H2 h2=>?_⟩;rw[SQ hc,SQ hi];simp only[jF (h2 id (by simp [aJ])),hl,Option.map_some,hv]
    ·cases h
   ·refine⟨cE,fun H2 _=>?_⟩;rw[SQ hc];exact h
   ·cases h
  ·cases h
 ·cases h
theorem GT (wf:eT H){t:TypeId}{x v:AVal}{lo hi:Option AVal}(h:kS P H t x lo hi=some v):(∀ r,r∈aJ x->r<H.next)/\∀ H2:AHeap,(∀ r,r∈aJ x->H2.get r=H.get r)->kS P H2 t x lo hi=some v:=by
 unfold kS at h ⊢;split at h
 ·split at h
  ·rename_i hc;split at h
   ·rename_i id gen off;split at h
    ·rename_i e' cells hl;refine⟨fk (iX wf hl),fun H2 h2=>?_⟩;rw[SQ hc];simp only[jF (h2 id (by simp [aJ])),hl];exact h
    ·cases h
   ·refine⟨cE,fun H2 _=>?_⟩;rw[SQ hc];exact h
   ·cases h
  ·cases h
 ·split at h
  ·rename_i hc;split at h
   ·rename_i id gen off len sz;split at h
    ·rename_i hi;have h0:=h;simp only[SR]at h;obtain⟨ec,hl,_⟩:=h;refine⟨fk (iX wf hl),fun H2 h2=>?_⟩;rw[SQ hc,SQ hi,jF (h2 id (by simp [aJ]))];exact h0
    ·cases h
   ·refine⟨cE,fun H2 _=>?_⟩;rw[SQ hc];exact h
   ·refine⟨cE,fun H2 _=>?_⟩;rw[SQ hc];exact h
   ·cases h
  ·cases h
 ·split at h
  ·exact⟨cE,fun H2 _=>h⟩
  ·cases h
 ·cases h
theorem GU (wf:eT H){t:TypeId}{x v:AVal}(h:kT P H t x=some v):(∀ r,r∈jE P t x->r<H.next)/\∀ H2:AHeap,(∀ r,r∈jE P t x->H2.get r=H.get r)->kT P H2 t x=some v:=by
 unfold kT jE at *
 cases hu:P.underlying t with
 | none=>rw[hu]at h;cases h
 | some d =>
  rw[hu]at h;cases d with
  | slice e =>
   simp only at h ⊢;split at h
   ·exact⟨cE,fun _ _=>h⟩
   ·rename_i id gen off len sz;simp only[SL]at h;obtain⟨ec,hl,hv⟩:=h;refine⟨fk (iX wf hl),fun H2 h2=>?_⟩;simp only[jF (h2 id (by simp [aJ])),hl,Option.map_some,hv]
   ·exact⟨cE,fun _ _=>h⟩
   ·cases h
  | string=>exact⟨cE,fun _ _=>h⟩
  | array n e=>exact⟨cE,fun _ _=>h⟩
  | _=>cases h
theorem wS (wf:eT H){sz:Nat}{x:AVal}{r:Nat × List AVal}(h:cw H sz x=some r):(∀ r,r∈aJ x->r<H.next)/\∀ H2:AHeap,(∀ r,r∈aJ x->H2.get r=H.get r)->cw H2 sz x=some r:=by
 unfold cw at h ⊢;split at h
 ·exact⟨cE,fun _ _=>h⟩
 ·rename_i id gen off len sz';split at h
  ·rename_i hsz;simp only[SL]at h;obtain⟨ec,hl,hv⟩:=h;refine⟨fk (iX wf hl),fun H2 h2=>?_⟩;rw[SQ hsz];simp only[jF (h2 id (by simp [aJ])),hl,Option.map_some,hv]
  ·cases h
 ·exact⟨cE,fun _ _=>h⟩
 ·cases h
theorem AT {a b:List Nat}{p:Nat->Prop}(h1:∀ r,r∈a->p r)(h2:∀ r,r∈b->p r):∀ r,r∈a++b->p r:=fun r hr=>(Ta.1 hr).elim (h1 r) (h2 r)
theorem GV (wf:eT H){ρ:Env}{c:Call}{t u:TypeId}{s x v:AVal}(hb:c.callee=.builtin .append)(hats:c.argTypes.toList=[t,u])(hargs:c.args.toList.map (ak G ρ)=[s,x])
  (h:bf P H H.next t u s x=some (v,H')):Local P G ρ H (.call c) v H' (bt P G ρ H.next (.call c)):=by
 have hfp:bt P G ρ H.next (.call c)=if kf s then ⟨aJ s,aJ s++aJ x⟩ else ⟨[H.next],aJ x⟩:=by
  simp only[bt,hb,hats,hargs,iD]
 have hop:∀ H2:AHeap,aj P G ρ H2 H.next (.call c)=bf P H2 H.next t u s x:=fun H2=>by
  simp only[aj,hb,hats,hargs,fF]
 rw[hfp];unfold bf at h;split at h
 ·rename_i e he;split at h
  ·rename_i e' he';simp only[SR]at h;obtain⟨z,hz,nx,hsrc,h⟩:=h;obtain⟨hxlt,hxl⟩:=wS wf hsrc;split at h
   ·simp only[kf,Bool.false_eq_true,if_false];split at h
    ·rename_i hn0;simp only[Option.some.injEq,Prod.mk.injEq]at h;obtain⟨rfl,rfl⟩:=h;refine cS hxlt fun H2 h2=>?_;rw[hop];simp only[bf,he,he',hz,hxl H2 h2,Option.bind_some,SQ hn0]
    ·rename_i hn0;split at h
     ·rename_i hb;simp only[SL,Prod.mk.injEq]at h;obtain⟨H3,hl,rfl,rfl⟩:=h;refine oK hl (by simp) hxlt fun H2 h2 H2' hl2=>?_;rw[hop];simp only[bf,he,he',hz,hxl H2 h2,Option.bind_some,SO hn0,SQ hb,hl2,Option.map_some]
     ·cases h
   ·rename_i id' gen off len sz;simp only[kf,if_true];simp only[SR]at h;obtain⟨ec,hl,h⟩:=h;have hlt:∀ r,r∈aJ (.own id' gen off len sz)++aJ x->r<H.next:=AT (fk (iX wf hl)) hxlt;have hl2:∀ H2:AHeap,(∀ r,r∈aJ (.own id' gen off len sz)++aJ x->H2.get r=H.get r)->H2.live id' gen=some ec:=fun H2 h2=>by
     rw[jF (h2 id' (by simp [aJ]))];exact hl
    have hx2:∀ H2:AHeap,(∀ r,r∈aJ (.own id' gen off len sz)++aJ x->H2.get r=H.get r)->cw H2 (P.cellsOf e) x=some nx:=fun H2 h2 =>
     hxl H2 fun r hr=>h2 r (Ud _ hr)
    split at h
    ·rename_i hc;split at h
     ·rename_i hn0;simp only[Option.some.injEq,Prod.mk.injEq]at h;obtain⟨rfl,rfl⟩:=h;refine cS hlt fun H2 h2=>?_;rw[hop];simp only[bf,he,he',hz,hx2 H2 h2,hl2 H2 h2,Option.bind_some];rw[SQ hc,SQ hn0]
     ·rename_i hn0;simp only[Option.some.injEq,Prod.mk.injEq]at h;obtain⟨rfl,rfl⟩:=h;refine ma (by simp [aJ]) (by simp [aJ]) hlt fun H2 h2=>?_;rw[hop];simp only[bf,he,he',hz,hx2 H2 h2,hl2 H2 h2,Option.bind_some];rw[SQ hc,SO hn0]
    ·cases h
   ·cases h
  ·cases h
 ·cases h
theorem GW (wf:eT H){ρ:Env}{c:Call}{t u:TypeId}{s x v:AVal}(hb:c.callee=.builtin .copy)(hats:c.argTypes.toList=[t,u])(hargs:c.args.toList.map (ak G ρ)=[s,x])
  (h:j7 P H t s x=some (v,H')):Local P G ρ H (.call c) v H' (bt P G ρ H.next (.call c)):=by
 have hfp:bt P G ρ H.next (.call c)=⟨aJ s,aJ s++aJ x⟩:=by
  simp only[bt,hb,hats,hargs,iD]
 have hop:∀ H2:AHeap,aj P G ρ H2 H.next (.call c)=j7 P H2 t s x:=fun H2=>by
  simp only[aj,hb,hats,hargs,fF]
 rw[hfp];unfold j7 at h;split at h
 ·rename_i e he;split at h
  ·rename_i hs;simp only[SR]at h;obtain⟨nx,hsrc,h⟩:=h;obtain⟨hxlt,hxl⟩:=wS wf hsrc;split at h
   ·rename_i id' gen off len sz;simp only[SR]at h;obtain⟨ec,hl,h⟩:=h;have hlt:∀ r,r∈aJ (.own id' gen off len sz)++aJ x->r<H.next:=AT (fk (iX wf hl)) hxlt;split at h
    ·rename_i hc;simp only[Option.some.injEq,Prod.mk.injEq]at h;obtain⟨rfl,rfl⟩:=h;refine ma (by simp [aJ]) (by simp [aJ]) hlt fun H2 h2=>?_;have hl2:H2.live id' gen=some ec:=by
      rw[jF (h2 id' (by simp [aJ]))];exact hl
     rw[hop];simp only[j7,he,hs,if_true,hxl H2 fun r hr=>h2 r (Ud _ hr),hl2,Option.bind_some];rw[SQ hc]
    ·cases h
   ·cases h
  ·cases h
 ·cases h
theorem GX (wf:eT H){ρ:Env}{c:Call}{t:TypeId}{s v:AVal}(hb:c.callee=.builtin .clear)(hats:c.argTypes.toList=[t])(hargs:c.args.toList.map (ak G ρ)=[s])
  (h:j8 P H t s=some (v,H')):Local P G ρ H (.call c) v H' (bt P G ρ H.next (.call c)):=by
 have hfp:bt P G ρ H.next (.call c)=⟨aJ s,aJ s⟩:=by
  simp only[bt,hb,hats,hargs,iD]
 have hop:∀ H2:AHeap,aj P G ρ H2 H.next (.call c)=j8 P H2 t s:=fun H2=>by
  simp only[aj,hb,hats,hargs,fF]
 rw[hfp];unfold j8 at h;split at h
 ·rename_i e he;split at h
  ·simp only[Option.some.injEq,Prod.mk.injEq]at h;obtain⟨rfl,rfl⟩:=h;refine cS (fun r hr=>by cases hr) fun H2 h2=>?_;rw[hop];simp only[j8,he]
  ·rename_i id' gen off len sz;simp only[SR]at h;obtain⟨ec,hl,h⟩:=h;have hlt:∀ r,r∈aJ (.own id' gen off len sz)->r<H.next:=fk (iX wf hl);have hl2:∀ H2:AHeap,(∀ r,r∈aJ (.own id' gen off len sz)->H2.get r=H.get r)->H2.live id' gen=some ec:=fun H2 h2=>by
    rw[jF (h2 id' (by simp [aJ]))];exact hl
   split at h
   ·rename_i h0;simp only[Option.some.injEq,Prod.mk.injEq]at h;obtain⟨rfl,rfl⟩:=h;refine cS hlt fun H2 h2=>?_;rw[hop];simp only[j8,he,hl2 H2 h2,Option.bind_some];rw[SQ h0]
   ·rename_i h0;simp only[SR]at h;obtain⟨z,hz,h⟩:=h;split at h
    ·rename_i hc;simp only[Option.some.injEq,Prod.mk.injEq]at h;obtain⟨rfl,rfl⟩:=h;refine ma (by simp [aJ]) (by simp [aJ]) hlt fun H2 h2=>?_;rw[hop];simp only[j8,he,hl2 H2 h2,hz,Option.bind_some];rw[SO h0,SQ hc]
    ·cases h
  ·cases h
 ·cases h
theorem AU (wf:eT H){ρ:Env}{o:Op}{t:TypeId}{m k x:Operand}{v:AVal}(h:kU P H t (ak G ρ m) (ak G ρ k) (ak G ρ x)=some (v,H'))(hfp:bt P G ρ H.next o=⟨dA (ak G ρ m),dA (ak G ρ m)⟩)
  (hop:∀ H2:AHeap,aj P G ρ H2 H.next o=kU P H2 t (ak G ρ m) (ak G ρ k) (ak G ρ x)):Local P G ρ H o v H' (bt P G ρ H.next o):=by
 rw[hfp];unfold kU at h;split at h
 ·rename_i hm;split at h
  ·rename_i id k' u hx hk hu;split at h
   ·rename_i es hg;simp only[Option.some.injEq,Prod.mk.injEq]at h;obtain⟨rfl,rfl⟩:=h;refine ma (by rw[hx];simp [dA]) (by rw[hx];simp [dA]) (by rw[hx];exact fk (wf _ _ hg)) fun H2 h2=>?_;have hg2:H2.get id=some (.mp es):=(by rw[h2 id (by rw[hx];simp [dA])];exact hg);rw[hop];simp only[kU,hm,if_true,hx,hk,hu,hg2]
   ·cases h
  ·cases h
 ·cases h
theorem GY (wf:eT H){s d:TypeId}{x v:AVal}(h:jx P H s d x=some v):(∀ r,r∈aJ x->r<H.next)/\∀ H2:AHeap,(∀ r,r∈aJ x->H2.get r=H.get r)->jx P H2 s d x=some v:=by
 have bytes:∀ y:AVal,lX P H s d y=some v->(∀ r,r∈aJ y->r<H.next)/\∀ H2:AHeap,(∀ r,r∈aJ y->H2.get r=H.get r)->lX P H2 s d y=some v:=by
  intro y h;unfold lX at h;split at h
  ·rename_i hsb;simp only[SR]at h;obtain⟨nl,hs,h⟩:=h;obtain⟨h1,h2⟩:=wS wf hs;refine⟨h1,fun H2 ha=>?_⟩;unfold lX;rw[SQ hsb,h2 H2 ha];exact h
  ·cases h
 unfold jx at h;split at h
 ·exact bytes _ h
 ·exact bytes _ h
 ·rename_i hne1 hne2;refine⟨fun r hr=>?_,fun H2 _=>?_⟩
  ·unfold j9 at h;split at h
   ·rename_i a ha;cases x<;>simp_all [aJ,AVal.cq]
   ·cases h
  ·unfold jx;split
   ·exact absurd rfl (hne1 _ _ _ _ _)
   ·exact absurd rfl (hne2 _ _)
   ·exact h
theorem wT (wf:eT H){ρ:Env}{o:Op}{v:AVal}(h:aj P G ρ H H.next o=some (v,H')):Local P G ρ H o v H' (bt P G ρ H.next o):=by
 cases o with
 | makeMap t r =>
  simp only[aj]at h;split at h
  ·simp only[SL,Prod.mk.injEq]at h;obtain⟨H3,hl,rfl,rfl⟩:=h;refine oK hl (by simp [bt]) cE fun H2 _ H2' hl2=>?_;simp only[aj,hl2,Option.map_some]
  ·cases h
 | lookup t x i ok =>
  simp only[aj,SL,Prod.mk.injEq]at h;obtain⟨v',hv,rfl,rfl⟩:=h;have hfp:bt P G ρ H.next (.lookup t x i ok)=⟨[],dA (ak G ρ x)⟩:=rfl;rw[hfp];unfold ot at hv;split at hv
  ·rename_i hm;split at hv
   ·rename_i hx hi;refine cS (by rw[hx];exact cE) fun H2 _=>?_;simp only[aj,ot,hm,if_true,hx,hi];simp only[Option.some.injEq]at hv;simp [hv]
   ·rename_i id k hx hi;split at hv
    ·rename_i es hg;refine cS (by rw[hx];exact fk (wf _ _ hg)) fun H2 h2=>?_;have hg2:H2.get id=some (.mp es):=(by rw[h2 id (by rw[hx];simp [dA])];exact hg);simp only[aj,ot,hm,if_true,hx,hi,hg2];simp only[Option.some.injEq]at hv;simp [hv]
    ·cases hv
   ·cases hv
  ·cases hv
 | mapUpdate t m k x=>exact AU wf (by simp only[aj]at h;exact h) (by rfl) fun H2=>rfl
 | insert t m k x=>exact AU wf (by simp only[aj]at h;exact h) (by rfl) fun H2=>rfl
 | mapEntry t m k =>
  simp only[aj]at h;have hfp:bt P G ρ H.next (.mapEntry t m k)=⟨dA (ak G ρ m),dA (ak G ρ m)⟩:=rfl;rw[hfp];unfold mW at h;split at h
  ·rename_i hm;split at h
   ·rename_i id k' hx hk;split at h
    ·rename_i es hg;have hg2:∀ H2:AHeap,(∀ r,r∈dA (ak G ρ m)->H2.get r=H.get r)->H2.get id=some (.mp es):=fun H2 h2=>by rw[h2 id (by rw[hx];simp [dA])];exact hg
     split at h
     ·rename_i n u hf;simp only[Option.some.injEq,Prod.mk.injEq]at h;obtain⟨rfl,rfl⟩:=h;refine ma (by rw[hx];simp [dA]) (by rw[hx];simp [dA]) (by rw[hx];exact fk (wf _ _ hg)) fun H2 h2=>?_;simp only[aj,mW,hm,if_true,hx,hk,hg2 H2 h2,hf]
     ·rename_i hf;simp only[Option.some.injEq,Prod.mk.injEq]at h;obtain⟨rfl,rfl⟩:=h;refine ma (by rw[hx];simp [dA]) (by rw[hx];simp [dA]) (by rw[hx];exact fk (wf _ _ hg)) fun H2 h2=>?_;simp only[aj,mW,hm,if_true,hx,hk,hg2 H2 h2,hf]
    ·cases h
   ·cases h
  ·cases h
 | entryStore t m s x =>
  simp only[aj]at h;have hfp:bt P G ρ H.next (.entryStore t m s x)=⟨dA (ak G ρ m),dA (ak G ρ m)⟩:=rfl;rw[hfp];unfold ou at h;split at h
  ·rename_i id s' u hx hs hu;split at h
   ·rename_i es hg;split at h
    ·rename_i hlt;simp only[Option.some.injEq,Prod.mk.injEq]at h;obtain⟨rfl,rfl⟩:=h;refine ma (by rw[hx];simp [dA]) (by rw[hx];simp [dA]) (by rw[hx];exact fk (wf _ _ hg)) fun H2 h2=>?_;have hg2:H2.get id=some (.mp es):=(by rw[h2 id (by rw[hx];simp [dA])];exact hg);simp only[aj,ou,hx,hs,hu,hg2];rw[SQ hlt]
    ·cases h
   ·cases h
  ·cases h
 | alloc e =>
  simp only[aj,SR,SL,Prod.mk.injEq]at h;obtain⟨z,hz,H3,hl,rfl,rfl⟩:=h;refine oK hl (by simp [bt]) cE fun H2 _ H2' hl2=>?_;simp only[aj,hz,hl2,Option.bind_some,Option.map_some]
 | box e x =>
  simp only[aj,SL,Prod.mk.injEq]at h;obtain⟨H3,hl,rfl,rfl⟩:=h;refine oK hl (by simp [bt]) cE fun H2 _ H2' hl2=>?_;simp only[aj,hl2,Option.map_some]
 | buildSlice t len parts =>
  simp only[aj,jv]at h;split at h
  ·rename_i e he;split at h
   ·rename_i hc;simp only[SR,SL,Prod.mk.injEq]at h;obtain⟨z,hz,cells,hcl,H3,hl,rfl,rfl⟩:=h;refine oK hl (by simp [bt]) cE fun H2 _ H2' hl2=>?_;simp only[aj,jv,he];rw[SQ hc];simp only[hz,hcl,hl2,Option.bind_some,Option.map_some]
   ·cases h
  ·cases h
 | makeSlice t l c =>
  simp only[aj,iV]at h;split at h
  ·rename_i e k l' k' c' he hl' hc';split at h
   ·rename_i hc;simp only[SR,SL,Prod.mk.injEq]at h;obtain⟨cells,hz,H3,hl,rfl,rfl⟩:=h;refine oK hl (by simp [bt]) cE fun H2 _ H2' hl2=>?_;simp only[aj,iV,he,hl',hc'];rw[SQ hc];simp only[hz,hl2,Option.bind_some,Option.map_some]
   ·cases h
  ·cases h
 | store t a x =>
  simp only[aj]at h;split at h
  ·rename_i hu;simp only[SL,Prod.mk.injEq]at h;obtain⟨H3,hst,rfl,rfl⟩:=h;obtain⟨id,gen,off,g,e,cells,ha,hg,cells',rfl,hall⟩:=GR hst;have hfp:bt P G ρ H.next (.store t a x)=⟨[id],[id]⟩:=(by simp only[bt,ha,aJ]);rw[hfp];refine ma (by simp) (by simp) (fk (wf _ _ hg)) fun H2 h2=>?_;simp only[aj,hu,if_true,hall H2 (h2 id (by simp)),Option.map_some]
  ·cases h
 | load t p =>
  simp only[aj,SL,Prod.mk.injEq]at h;obtain⟨v',hv,rfl,rfl⟩:=h;refine cS (GQ wf hv) fun H2 h2=>?_;simp only[aj,GP h2,hv,Option.map_some]
 | nilCheck p =>
  simp only[aj,SL,Prod.mk.injEq]at h;obtain⟨v',hv,rfl,rfl⟩:=h;have hv0:=hv;unfold jy at hv;split at hv
  ·rename_i id gen off hp;simp only[SL]at hv;obtain⟨ec,hl,hv⟩:=hv;have hfp:bt P G ρ H.next (.nilCheck p)=⟨[],[id]⟩:=(by simp only[bt,hp,aJ]);rw[hfp];refine cS (fk (iX wf hl)) fun H2 h2=>?_;subst hv;simp only[aj,hp,jy,jF (h2 id (by simp)),hl,Option.map_some]
  ·rename_i hp;have hfp:bt P G ρ H.next (.nilCheck p)=⟨[],[]⟩:=(by simp only[bt,hp,aJ]);rw[hfp];refine cS cE fun H2 _=>?_;simp only[aj,hp,jy,Option.map_some,Option.some.injEq]at hv ⊢;rw[hv]
  ·rename_i hp;have hfp:bt P G ρ H.next (.nilCheck p)=⟨[],[]⟩:=(by simp only[bt,hp,aJ]);rw[hfp];refine cS cE fun H2 _=>?_;simp only[aj,hp,jy,Option.map_some,Option.some.injEq]at hv ⊢;rw[hv]
  ·cases hv
 | slice t x lo hi mx =>
  simp only[aj]at h;split at h
  ·simp only[SL,Prod.mk.injEq]at h;obtain⟨v',hv,rfl,rfl⟩:=h;obtain⟨h1,h2⟩:=GT wf hv;refine cS h1 fun H2 h3=>?_;simp only[aj,h2 H2 h3,Option.map_some]
  ·cases h
 | indexAddr t x i =>
  simp only[aj]at h;split at h
  ·rename_i k i' hi;simp only[SL,Prod.mk.injEq]at h;obtain⟨v',hv,rfl,rfl⟩:=h;obtain⟨h1,h2⟩:=GS wf hv;refine cS h1 fun H2 h3=>?_;simp only[aj,hi,h2 H2 h3,Option.map_some]
  ·cases h
 | fieldAddr s x f =>
  simp only[aj,SR]at h;obtain⟨of,hof,h⟩:=h;split at h
  ·rename_i id gen off hx;simp only[SL,Prod.mk.injEq]at h;obtain⟨ec,hl,rfl,rfl⟩:=h;have hfp:bt P G ρ H.next (.fieldAddr s x f)=⟨[],[id]⟩:=(by simp only[bt,hx,aJ]);rw[hfp];refine cS (fk (iX wf hl)) fun H2 h2=>?_;simp only[aj,hof,Option.bind_some,hx,jF (h2 id (by simp)),hl,Option.map_some]
  ·rename_i cells off hx;simp only[Option.some.injEq,Prod.mk.injEq]at h;obtain⟨rfl,rfl⟩:=h;have hfp:bt P G ρ H.next (.fieldAddr s x f)=⟨[],[]⟩:=(by simp only[bt,hx,aJ]);rw[hfp];refine cS cE fun H2 _=>?_;simp only[aj,hof,Option.bind_some,hx]
  ·cases h
 | call c =>
  have h0:=h;simp only[aj]at h;split at h
  ·rename_i b hb;unfold fF at h;split at h
   ·rename_i t x hats hargs;simp only[SL,Prod.mk.injEq]at h;obtain⟨v',hv,rfl,rfl⟩:=h;obtain⟨h1,h2⟩:=GU wf hv;have hfp:bt P G ρ H.next (.call c)=⟨[],jE P t x⟩:=(by simp only[bt,hb,hats,hargs,iD]);rw[hfp];refine cS h1 fun H2 h3=>?_;simp only[aj,hb,hats,hargs,fF,h2 H2 h3,Option.map_some]
   ·rename_i hats hargs;exact GV wf hb hats hargs h
   ·rename_i hats hargs;exact GW wf hb hats hargs h
   ·rename_i hats hargs;exact GX wf hb hats hargs h
   ·rename_i hats;simp only[SR,SL,Prod.mk.injEq]at h;obtain⟨vs,h1,v',h2,rfl,rfl⟩:=h;have hfp:bt P G ρ H.next (.call c)=⟨[],[]⟩:=(by simp only[bt,hb,iD]);rw[hfp];refine cS cE fun H2 _=>?_;simp only[aj,hb,fF,h1,h2,Option.bind_some,Option.map_some]
   ·rename_i hats;simp only[SR,SL,Prod.mk.injEq]at h;obtain⟨vs,h1,v',h2,rfl,rfl⟩:=h;have hfp:bt P G ρ H.next (.call c)=⟨[],[]⟩:=(by simp only[bt,hb,iD]);rw[hfp];refine cS cE fun H2 _=>?_;simp only[aj,hb,fF,h1,h2,Option.bind_some,Option.map_some]
   ·cases h
  ·cases h
 | pick c a b =>
  simp only[aj]at h;split at h
  ·rename_i t ht;simp only[Option.some.injEq,Prod.mk.injEq]at h;obtain⟨rfl,rfl⟩:=h;refine cS cE fun H2 _=>?_;simp only[aj,ht]
  ·cases h
 | makeFunc fn f c =>
  simp only[aj]at h;split at h
  ·simp only[Option.some.injEq,Prod.mk.injEq]at h;obtain⟨rfl,rfl⟩:=h;exact cS cE fun H2 _=>by simp only[aj]
  ·cases h
 | makeInterface t x =>
  simp only[aj]at h;split at h
  ·rename_i y hy;simp only[SL,Prod.mk.injEq]at h;obtain⟨v',hv,rfl,rfl⟩:=h;refine cS cE fun H2 _=>?_;simp only[aj,hy,hv,Option.map_some]
  ·cases h
 | field s x f =>
  simp only[aj,SR]at h;obtain⟨of,hof,h⟩:=h;split at h
  ·rename_i hx;simp only[SL,Prod.mk.injEq]at h;obtain⟨v',hv,rfl,rfl⟩:=h;refine cS cE fun H2 _=>?_;simp only[aj,hof,Option.bind_some,hx,hv,Option.map_some]
  ·rename_i hx;simp only[SL,Prod.mk.injEq]at h;obtain⟨v',hv,rfl,rfl⟩:=h;refine cS cE fun H2 _=>?_;simp only[aj,hof,Option.bind_some,hx,hv,Option.map_some]
  ·cases h
 | move x=>simp only[aj,Option.some.injEq,Prod.mk.injEq]at h;obtain⟨rfl,rfl⟩:=h;exact cS cE fun H2 _=>by simp only[aj]
 | assign x=>simp only[aj,Option.some.injEq,Prod.mk.injEq]at h;obtain⟨rfl,rfl⟩:=h;exact cS cE fun H2 _=>by simp only[aj]
 | build t p=>simp only[aj,SL,Prod.mk.injEq]at h;obtain⟨v',hv,rfl,rfl⟩:=h;exact cS cE fun H2 _=>by simp only[aj,hv,Option.map_some]
 | binOp a b c d e=>simp only[aj,SL,Prod.mk.injEq]at h;obtain⟨v',hv,rfl,rfl⟩:=h;exact cS cE fun H2 _=>by simp only[aj,hv,Option.map_some]
 | unOp a b c=>simp only[aj,SL,Prod.mk.injEq]at h;obtain⟨v',hv,rfl,rfl⟩:=h;exact cS cE fun H2 _=>by simp only[aj,hv,Option.map_some]
 | convert a b c =>
  simp only[aj,SL,Prod.mk.injEq]at h;obtain⟨v',hv,rfl,rfl⟩:=h;obtain⟨h1,h2⟩:=GY wf hv;refine cS h1 fun H2 ha=>?_;simp only[aj,h2 H2 ha,Option.map_some]
 | index a b c=>simp only[aj,SL,Prod.mk.injEq]at h;obtain⟨v',hv,rfl,rfl⟩:=h;exact cS cE fun H2 _=>by simp only[aj,hv,Option.map_some]
 | extract a b=>simp only[aj,SL,Prod.mk.injEq]at h;obtain⟨v',hv,rfl,rfl⟩:=h;exact cS cE fun H2 _=>by simp only[aj,hv,Option.map_some]
 | _=>simp [aj]at h
theorem AV {ρ ρ':Env}{o:Op}{id:Nat}(h:∀ x,x∈o.operands->ak G ρ x=ak G ρ' x):aj P G ρ H id o=aj P G ρ' H id o:=by
 have hparts:∀ (ps:Array (Nat × Operand)),(∀ x,x∈(ps.toList.map (·.2)).toArray->ak G ρ x=ak G ρ' x)->ps.toList.map (fun p=>(p.1,ak G ρ p.2))=ps.toList.map (fun p=>(p.1,ak G ρ' p.2)):=by
  intro ps hp;refine Ti fun p hpm=>?_;rw[hp p.2 (by simpa using ⟨p.1,by simpa using hpm⟩)]
 have hlist:∀ (ps:Array Operand),(∀ x,x∈ps->ak G ρ x=ak G ρ' x)->ps.toList.map (ak G ρ)=ps.toList.map (ak G ρ'):=by
  intro ps hp;exact Ti fun p hpm=>hp p (by simpa using hpm)
 cases o with
 | build t ps=>simp only[aj];rw[hparts ps h]
 | buildSlice t len ps=>simp only[aj];rw[hparts ps h]
 | makeFunc fn f c =>
  simp only[aj];rw[hlist f fun x hx=>h x (by simp [Op.operands,hx]),hlist c fun x hx=>h x (by simp [Op.operands,hx])]
 | slice t x lo hi mx =>
  have hx:=h x (by simp [Op.operands]);have hlo:lo.map (ak G ρ)=lo.map (ak G ρ'):=by
   cases lo with
   | none=>rfl
   | some l=>simp only[Option.map_some];rw[h l (by simp [Op.operands])]
  have hhi:hi.map (ak G ρ)=hi.map (ak G ρ'):=by
   cases hi with
   | none=>rfl
   | some l=>simp only[Option.map_some];rw[h l (by simp [Op.operands])]
  simp only[aj,hx,hlo,hhi]
 | call c =>
  simp only[aj];rw[hlist c.args fun x hx=>h x (by
   simp only[Op.operands,Call.operands];split<;>simp [hx])]
 | pick c a b=>simp only[aj,h c (by simp [Op.operands]),h a (by simp [Op.operands]),h b (by simp [Op.operands])]
 | store t a x=>simp only[aj,h a (by simp [Op.operands]),h x (by simp [Op.operands])]
 | binOp op t x y u=>simp only[aj,h x (by simp [Op.operands]),h y (by simp [Op.operands])]
 | makeSlice t l c=>simp only[aj,h l (by simp [Op.operands]),h c (by simp [Op.operands])]
 | indexAddr t x i=>simp only[aj,h x (by simp [Op.operands]),h i (by simp [Op.operands])]
 | index t x i=>simp only[aj,h x (by simp [Op.operands]),h i (by simp [Op.operands])]
 | move x=>simp only[aj,h x (by simp [Op.operands])]
 | assign x=>simp only[aj,h x (by simp [Op.operands])]
 | box e x=>simp only[aj,h x (by simp [Op.operands])]
 | load e x=>simp only[aj,h x (by simp [Op.operands])]
 | nilCheck x=>simp only[aj,h x (by simp [Op.operands])]
 | unOp a b x=>simp only[aj,h x (by simp [Op.operands])]
 | convert a b x=>simp only[aj,h x (by simp [Op.operands])]
 | makeInterface t x=>simp only[aj,h x (by simp [Op.operands])]
 | fieldAddr s x f=>simp only[aj,h x (by simp [Op.operands])]
 | field s x f=>simp only[aj,h x (by simp [Op.operands])]
 | extract x i=>simp only[aj,h x (by simp [Op.operands])]
 | lookup t x i ok=>simp only[aj,h x (by simp [Op.operands]),h i (by simp [Op.operands])]
 | mapUpdate t m k x=>simp only[aj,h m (by simp [Op.operands]),h k (by simp [Op.operands]),h x (by simp [Op.operands])]
 | insert t m k x=>simp only[aj,h m (by simp [Op.operands]),h k (by simp [Op.operands]),h x (by simp [Op.operands])]
 | mapEntry t m k=>simp only[aj,h m (by simp [Op.operands]),h k (by simp [Op.operands])]
 | entryStore t m s x=>simp only[aj,h m (by simp [Op.operands]),h s (by simp [Op.operands]),h x (by simp [Op.operands])]
 | _=>rfl
end Go.Hx
namespace Go.Hx
variable {P:Program} {G:Nat->Option (List AVal)} {Γ Γ':aC} {H H':AHeap} {w w':World}
def bO (P:Program)(G:Nat->Option (List AVal))(fv:AVal)(args:List AVal)(H:AHeap)(v:AVal)(rs:List Nat):Prop :=
 (∀ r,r∈rs->r<H.next)/\∀ H2:AHeap,(∀ r,r∈rs->H2.get r=H.get r)->H.next<=H2.next->aB P G fv args H2 fun r H3=>r=.ret v/\H3=H2
def cD (P:Program)(G:Nat->Option (List AVal))(o:Oper)(K:FP->St->Prop)(s:St):Prop :=
 match o.op with
 | .call { callee:=.value fv,args,.. }=>∃ v rs,bO P G (ak G s.ρ fv) (args.toList.map (ak G s.ρ)) s.H v rs/\K ⟨[],rs⟩ ⟨aI s.ρ o.dst v,s.H⟩
 | op=>bd (aj P G s.ρ s.H s.H.next op) fun vH=>K (bt P G s.ρ s.H.next op) ⟨aI s.ρ o.dst vH.1,vH.2⟩
def eU (i:Nat)(f:FP)(acc:List (Nat × FP)):List (Nat × FP) :=
 match f with
 | ⟨[],[]⟩=>acc
 | f=>(i,f) :: acc
def fS (b:Nat)(f:FP)(acc:List (Nat × FP)):Prop :=
 ∀ p,p∈acc->b.testBit p.1=false->(∀ r,r∈f.eff->r ∉ p.2.rs)/\(∀ r,r∈p.2.eff->r ∉ f.rs)
def dy (P:Program)(G:Nat->Option (List AVal))(all:Array Oper)(tail:St->Prop):List Nat->Nat->List (Nat × FP)->List Oper->St->Prop
 | b :: bs,i,acc,o :: rest,s=>bd (eK all s.ρ o) fun t=>if t=true then cD P G o (fun f s'=>fS b f acc/\dy P G all tail bs (i+1) (eU i f acc) rest s') s
   else dy P G all tail bs (i+1) acc rest ⟨aI s.ρ o.dst (.lit undef),s.H⟩
 | _,_,_,[],s=>tail s
 | [],_,_,_ :: _,_=>False
def sP (o:Oper):List Nat:=(o.after.toList.filter fun e=>Region.binds .any e).map (·.on)
def sQ (x:Option Tmp)(l:List Tmp):Bool:=match x with|some d=>!l.contains d|none=>true
def sR (all:Array Oper)(x y:Oper):Bool :=
 sQ x.dst (y.looksAt all) && sQ y.dst (x.looksAt all) && (match x.dst with|some d=>y.dst != some d|none=>true)
def dc (bs:List Nat)(i:Nat):Nat:=(bs[i]?).getD 0
def wU (bs:List Nat)(i:Nat)(o:Oper):Bool :=
 let es:=sP o
 let b:=dc bs i
 es.all (fun e=>decide (e<i)) && decide (b<2 ^ i) &&
 (List.range i).all (fun j=>!b.testBit j || es.any fun e=>e == j || (dc bs e).testBit j)
def qD (all:Array Oper)(bs:List Nat)(K:Nat):Bool :=
 decide (bs.length=K) && decide (K<=all.size) &&
 (List.range all.size).all (fun i=>match all[i]? with|some o=>wU (bs++(List.range' K (all.size - K)).map fun m=>2 ^ m - 1) i o|none=>false) &&
 (List.range K).all fun i=>match all[i]? with
  | some o=>(List.range i).all fun j=>(dc bs i).testBit j || (match all[j]? with|some o'=>sR all o' o|none=>false)
  | none=>false
structure Dt where
 v:AVal
 e:Option (Nat × Blk)
 al:Bool
 f:FP
def fm (all:Array Oper)(i:Nat):Option Tmp:=(all[i]?).bind (·.dst)
def bb (all:Array Oper)(d:Nat->Dt)(ρ0:Env):Nat->(Nat->Bool)->Env
 | 0,_=>ρ0
 | n+1,D=>if D n then aI (bb all d ρ0 n D) (fm all n) (d n).v else bb all d ρ0 n D
def aV (d:Nat->Dt)(g0:Nat->Option Blk):Nat->(Nat->Bool)->Nat->Option Blk
 | 0,_=>g0
 | n+1,D=>if D n then dB (d n).e (aV d g0 n D) else aV d g0 n D
def aD (d:Nat->Dt):Nat->Nat
 | 0=>0
 | n+1=>aD d n+(if (d n).al then 1 else 0)
def cZ (x:Dt):Option Nat:=x.e.map (·.1)
theorem oL {e:Option (Nat × Blk)}{g:Nat->Option Blk}{r:Nat}(h:e.map (·.1)≠some r):dB e g r=g r:=by
 cases e with
 | none=>rfl
 | some kb =>
  simp only[dB];rw[SO];rintro rfl;exact h rfl
theorem oO {ρ:Env}{x:Option Tmp}{v:AVal}{t:Tmp}(h:x≠some t):aI ρ x v t=ρ t:=by
 cases x with
 | none=>rfl
 | some d =>
  simp only[aI];rw[SO];rintro rfl;exact h rfl
theorem sS {ρ ρ':Env}{x:Option Tmp}{v:AVal}{t:Tmp}(h:ρ t=ρ' t):aI ρ x v t=aI ρ' x v t:=by
 cases x with
 | none=>exact h
 | some d=>simp only[aI,h]
theorem sT {e:Option (Nat × Blk)}{g g':Nat->Option Blk}{r:Nat}(h:g r=g' r):dB e g r=dB e g' r:=by
 cases e with
 | none=>exact h
 | some kb=>simp only[dB,h]
theorem AW {ρ:Env}{x y:Option Tmp}{v u:AVal}(h:∀ d,x=some d->y≠some d):aI (aI ρ x v) y u=aI (aI ρ y u) x v:=by
 funext t
 by_cases hx:x=some t
 ·rw[oO (h t hx)];exact sS (oO (h t hx)).symm
 ·rw[oO (ρ:=aI ρ y u) hx];exact sS (oO hx)
theorem GZ {e e':Option (Nat × Blk)}{g:Nat->Option Blk}(h:∀ r,e.map (·.1)=some r->e'.map (·.1)≠some r):dB e' (dB e g)=dB e (dB e' g):=by
 funext r
 by_cases hx:e.map (·.1)=some r
 ·rw[oL (h r hx)];exact sT (oL (h r hx)).symm
 ·rw[oL (g:=dB e' g) hx];exact sT (oL hx)
section
variable {all:Array Oper} {d d':Nat->Dt} {ρ0:Env} {g0 g0':Nat->Option Blk} {D D':Nat->Bool}
theorem mX {t:Tmp}:∀ {n:Nat},(∀ j,j<n->fm all j=some t->D j=D' j)->bb all d ρ0 n D t=bb all d ρ0 n D' t:=by
 intro n
 induction n with
 | zero=>intro _;rfl
 | succ n ih =>
  intro h;have h0:=ih fun j hj=>h j (by omega);simp only[bb];by_cases hd:fm all n=some t
  ·rw[h n (by omega) hd];split
   ·exact sS h0
   ·exact h0
  ·have:∀ (b:Bool) (ρ:Env),(if b=true then aI ρ (fm all n) (d n).v else ρ) t=ρ t:=by
    intro b ρ;split
    ·exact oO hd
    ·rfl
   rw[this,this];exact h0
theorem v7 {m:Nat}:∀ {n:Nat},m<=n->bb all d ρ0 n (fun j=>decide (j<m))=bb all d ρ0 m fun _=>true:=by
 have low:∀ k,k<=m->bb all d ρ0 k (fun j=>decide (j<m))=bb all d ρ0 k fun _=>true:=by
  intro k
  induction k with
  | zero=>intro _;rfl
  | succ k ih =>
   intro hk;simp only[bb];rw[ih (by omega),SQ (by simp;omega)];simp
 intro n
 induction n with
 | zero =>
  intro hm;obtain rfl:m=0:=by omega
  exact low 0 (by omega)
 | succ n ih =>
  intro hm;by_cases h:m=n+1
  ·subst h;exact low (n+1) (by omega)
  ·simp only[bb];rw[SO (by simp;omega)];exact ih (by omega)
theorem mY {r:Nat}:∀ {n:Nat},(∀ j,j<n->cZ (d j)=some r->D j=D' j)->aV d g0 n D r=aV d g0 n D' r:=by
 intro n
 induction n with
 | zero=>intro _;rfl
 | succ n ih =>
  intro h;have h0:=ih fun j hj=>h j (by omega);simp only[aV];by_cases hd:cZ (d n)=some r
  ·rw[h n (by omega) hd];split
   ·exact sT h0
   ·exact h0
  ·have:∀ (b:Bool) (g:Nat->Option Blk),(if b=true then dB (d n).e g else g) r=g r:=by
    intro b g;split
    ·exact oL hd
    ·rfl
   rw[this,this];exact h0
theorem v9 {m:Nat}:∀ {n:Nat},m<=n->aV d g0 n (fun j=>decide (j<m))=aV d g0 m fun _=>true:=by
 have low:∀ k,k<=m->aV d g0 k (fun j=>decide (j<m))=aV d g0 k fun _=>true:=by
  intro k
  induction k with
  | zero=>intro _;rfl
  | succ k ih =>
   intro hk;simp only[aV];rw[ih (by omega),SQ (by simp;omega)];simp
 intro n
 induction n with
 | zero =>
  intro hm;obtain rfl:m=0:=by omega
  exact low 0 (by omega)
 | succ n ih =>
  intro hm;by_cases h:m=n+1
  ·subst h;exact low (n+1) (by omega)
  ·simp only[aV];rw[SO (by simp;omega)];exact ih (by omega)
theorem qj {r:Nat}:∀ {n:Nat},(g0 r=g0' r\/∃ j,j<n/\D j=true/\cZ (d j)=some r)->aV d g0 n D r=aV d g0' n D r:=by
 intro n
 induction n with
 | zero =>
  rintro(h|⟨j,hj,_⟩)
  ·exact h
  ·omega
 | succ n ih =>
  intro h;simp only[aV];by_cases hD:D n=true
  ·rw[SQ hD,SQ hD];by_cases ht:cZ (d n)=some r
   ·cases he:(d n).e with
    | none=>simp [cZ,he]at ht
    | some kb =>
     simp only[cZ,he,Option.map_some,Option.some.injEq]at ht;simp only[dB];rw[SQ ht.symm,SQ ht.symm]
   ·refine sT (ih ?_);rcases h with h|⟨j,hj,h1,h2⟩
    ·exact .inl h
    ·by_cases hjn:j=n
     ·subst hjn;exact absurd h2 ht
     ·exact .inr ⟨j,by omega,h1,h2⟩
  ·rw[SO hD,SO hD];refine ih ?_;rcases h with h|⟨j,hj,h1,h2⟩
   ·exact .inl h
   ·by_cases hjn:j=n
    ·subst hjn;exact absurd h1 hD
    ·exact .inr ⟨j,by omega,h1,h2⟩
theorem wc {r:Nat}:∀ {n:Nat},(∀ j,j<n->D j=true->cZ (d j)≠some r)->aV d g0 n D r=g0 r:=by
 intro n
 induction n with
 | zero=>intro _;rfl
 | succ n ih =>
  intro h;simp only[aV];split
  ·rename_i hD;rw[oL (h n (by omega) hD)];exact ih fun j hj=>h j (by omega)
  ·exact ih fun j hj=>h j (by omega)
def bM (D:Nat->Bool)(i:Nat):Nat->Bool:=fun j=>if j=i then true else D j
theorem we {i:Nat}(hD:D i=false):∀ {n:Nat},i<n->(∀ j,i<j->j<n->D j=true->∀ t,fm all i=some t->fm all j≠some t) ->
  bb all d ρ0 n (bM D i)=aI (bb all d ρ0 n D) (fm all i) (d i).v:=by
 intro n
 induction n with
 | zero=>intro h;omega
 | succ n ih =>
  intro hi h;by_cases hin:i=n
  ·subst hin;have h0:bb all d ρ0 i (bM D i)=bb all d ρ0 i D:=funext fun t=>mX fun j hj _=>by simp [bM,U4 hj]
   simp only[bb];rw[SQ (by simp [bM]),SO (by simp [hD]),h0]
  ·have hw:bM D i n=D n:=(by simp [bM,Ne.symm hin]);have h0:=ih (by omega) fun j h1 h2=>h j h1 (by omega);simp only[bb,hw];split
   ·rename_i hDn;rw[h0];exact AW (h n (by omega) (by omega) hDn)
   ·exact h0
theorem wg {i:Nat}(hD:D i=false):∀ {n:Nat},i<n->(∀ j,i<j->j<n->D j=true->∀ t,cZ (d i)=some t->cZ (d j)≠some t) ->
  aV d g0 n (bM D i)=dB (d i).e (aV d g0 n D):=by
 intro n
 induction n with
 | zero=>intro h;omega
 | succ n ih =>
  intro hi h;by_cases hin:i=n
  ·subst hin;have h0:aV d g0 i (bM D i)=aV d g0 i D:=funext fun t=>mY fun j hj _=>by simp [bM,U4 hj]
   simp only[aV];rw[SQ (by simp [bM]),SO (by simp [hD]),h0]
  ·have hw:bM D i n=D n:=(by simp [bM,Ne.symm hin]);have h0:=ih (by omega) fun j h1 h2=>h j h1 (by omega);simp only[aV,hw];split
   ·rename_i hDn;rw[h0];exact GZ (h n (by omega) (by omega) hDn)
   ·exact h0
theorem oD {m n:Nat}(h:m<=n):aD d m<=aD d n:=by
 induction n with
 | zero =>
  have:m=0:=by omega
  subst this;exact Nat.le_refl _
 | succ n ih =>
  by_cases hm:m=n+1
  ·subst hm;exact Nat.le_refl _
  ·exact TA (ih (by omega)) (by simp [aD])
theorem qk {n c:Nat}(h:c<aD d n):∃ j,j<n/\(d j).al=true/\aD d j=c:=by
 induction n with
 | zero=>simp [aD]at h
 | succ n ih =>
  by_cases hc:c<aD d n
  ·obtain⟨j,h1,h2⟩:=ih hc;exact⟨j,by omega,h2⟩
  ·simp only[aD]at h;cases hal:(d n).al with
   | false=>simp [hal]at h;omega
   | true =>
    simp only[hal,if_true]at h;exact⟨n,by omega,hal,by omega⟩
theorem ka {i n:Nat}(h:i<n)(hal:(d i).al=true):aD d i<aD d n:=by
 have:=oD (d:=d) (m:=i+1) (n:=n) h;simp only[aD,hal,if_true]at this;omega
theorem qm {n:Nat}(h:∀ j,j<n->d j=d' j):bb all d ρ0 n D=bb all d' ρ0 n D:=by
 induction n with
 | zero=>rfl
 | succ n ih=>simp only[bb];rw[ih fun j hj=>h j (by omega),h n (by omega)]
theorem qp {n:Nat}(h:∀ j,j<n->d j=d' j):aV d g0 n D=aV d' g0 n D:=by
 induction n with
 | zero=>rfl
 | succ n ih=>simp only[aV];rw[ih fun j hj=>h j (by omega),h n (by omega)]
theorem eJ {n:Nat}(h:∀ j,j<n->d j=d' j):aD d n=aD d' n:=by
 induction n with
 | zero=>rfl
 | succ n ih=>simp only[aD];rw[ih fun j hj=>h j (by omega),h n (by omega)]
end
def ExecOk (P:Program)(G:Nat->Option (List AVal))(all:Array Oper)(o:Oper)(id:Nat)(s s':St):Prop :=
 (eK all s.ρ o=some false/\s'=⟨aI s.ρ o.dst (.lit undef),s.H⟩) \/
 (eK all s.ρ o=some true/\∃ v,s'.ρ=aI s.ρ o.dst v /\
  (aj P G s.ρ s.H id o.op=some (v,s'.H) \/
   ∃ fv args ats,o.op=.call ⟨.value fv,args,ats⟩/\s'.H=s.H/\aB P G (ak G s.ρ fv) (args.toList.map (ak G s.ρ)) s.H fun r H3=>r=.ret v/\H3=s.H))
theorem wh {n:Nat}{wb:Base}{rd rb:Option Nat}{all:Array Oper}{o:Oper}{id i:Nat}{s s':St}{a:Act}{next:Act->World->Prop}{Q':Exit->Act->World->Prop}(ho:all[i]?=some o)(hd:fj n o=true)
  (hs:RelS P G n wb Γ s a w) (hr:dp Γ s.H rd rb) (h:ExecOk P G all o id s s')
  (hnext:∀ Γ' a' w',RelS P G n wb Γ' s' a' w'->Evo Γ s.H w Γ' s'.H w'->s.H.next<=s'.H.next->dp Γ' s'.H rd rb->(∃ cv,a'=a.put o.dst cv)->next a' w'):
  wpOpIn (dz rb) 0 P all Q' i next a w:=by
 have hdst:∀ d,o.dst=some d->d<n:=by
  intro d hd';unfold fj at hd;rw[hd']at hd;simpa using hd
 unfold wpOpIn;rw[ho];simp only;rcases h with ⟨hw,rfl⟩|⟨hw,v,hρ,h⟩
 ·rw[oG hs hw];simp only[Bool.false_eq_true,if_false];refine⟨fun _ _=>trivial,?_⟩;have hs':=jC (v:=.lit undef) (cv:=undef) hs hdst (Evo.refl Γ s.H w) (Nat.le_refl _) hs.heap (.lit _);exact hnext Γ _ w hs' (Evo.refl _ _ _) (Nat.le_refl _) hr ⟨_,rfl⟩
 ·rw[oG hs hw];simp only[if_true];obtain⟨ρ',H'⟩:=s';simp only at hρ;subst hρ;refine⟨fun _ _=>trivial,?_⟩;rcases h with hop|⟨fv,args,ats,hop,hH,hap⟩
  ·simp only at hop;rw[Oper.semAt_eq _ _ _ (fun c hc=>by rw[hc]at hop;simp [aj]at hop)];obtain⟨nx,cv,Γ',w',hrun,hnx,E,hn,R,hv⟩:=wH hs.heap (hJ hs) hop;rw[hrun];have hri:=wK hr (wL hs.heap hop);have hs':=jC hs hdst E hn R hv;have hr':=hr.bc E hn hs.heap hri;rcases hnx with rfl|⟨rfl,rfl⟩
   ·exact hnext Γ' _ w' hs' E hn hr' ⟨_,rfl⟩
   ·exact hnext Γ' _ w' hs' E hn hr' ⟨_,rfl⟩
  ·simp only at hH;subst hH;rw[Oper.semAt_eq _ _ _ (fun c hc=>by rw[hc]at hop;cases hop)];obtain⟨d,h1,h2⟩:=hap Γ w (a.eval fv) (args.map a.eval) hs.heap (hJ hs fv) ⟨by simp,fun i h1 h2=>by simp only[S4,UP,TH];exact hJ hs _⟩;have hex:(execOp a.eval o).run P w=(invoke d.target d.args).run P w:=by
    unfold execOp;simp only[hop];unfold resolve;simp only;rw[ar h1]
   have hri:ef s.H rd:=by
    cases rd with
    | none=>trivial
    | some id =>
     obtain⟨b,st,pend,n,env,ps,asg,body,_,_,h3⟩:=hr;exact⟨_,_,_,_,_,_,_,h3⟩
   have cont:∀ e w',hU P G Γ s.H w (fun r H3=>r=.ret v/\H3=s.H) e w'->(match e with
     | .returned v=>next (a.put o.dst v) w'
     | .panicked chain=>Q' (.panic chain) a w'
     | .outgrown=>LetsOut Q'):=by
    rintro e w' ⟨r,H',Γ',hend,⟨rfl,rfl⟩,R,E,hn⟩;have hr':=hr.bc E hn hs.heap hri;cases e with
    | returned cv=>exact hnext Γ' _ w' (jC hs hdst E hn R hend) E hn hr' ⟨_,rfl⟩
    | panicked chain=>exact hend.elim
    | outgrown=>exact hend.elim
   rw[hex];rcases h2 with ⟨f,as,h3,h4⟩|⟨l,f,tm,asg,body,h3,h4⟩|⟨cv,w',h3,h4⟩
   ·rw[h3];refine⟨fun hc=>by simp [Fence.wide]at hc,?_⟩;have h4':CallsIn (dz rb) 0 P f as w _:=h4;refine h4'.mono ?_;intro e w' hp;have:=cont e w' hp;cases e<;>exact this
   ·rw[h3];refine⟨fun hc=>by simp [Fence.wide]at hc,?_⟩;have h4':RoundIn (dz rb) 0 P l f tm asg body w _:=h4;refine h4'.mono ?_;intro e w' hp;have:=cont e w' hp;cases e<;>exact this
   ·rw[h3];exact cont (.returned cv) w' h4
def kW (d:Nat->Dt)(H0:AHeap)(m:Nat):AHeap:=⟨aV d H0.get m fun _=>true,H0.next+aD d m⟩
def canon (all:Array Oper)(d:Nat->Dt)(s0:St)(m:Nat):St:=⟨bb all d s0.ρ m fun _=>true,kW d s0.H m⟩
structure GoodAt (P:Program)(G:Nat->Option (List AVal))(all:Array Oper)(bs:List Nat)(s0:St)(d:Nat->Dt)(i:Nat):Prop where
 step:∀ o,all[i]?=some o->∀ ρ2 H2,(∀ t,t∈o.looksAt all->ρ2 t=(canon all d s0 i).ρ t)->(∀ r,r∈(d i).f.rs->H2.get r=(canon all d s0 i).H.get r) ->
  ((d i).al=true->H2.get (s0.H.next+aD d i)=some .rsv/\s0.H.next+aD d i≠H2.next)->s0.H.next+aD d i<=H2.next ->
  ExecOk P G all o (s0.H.next+aD d i) ⟨ρ2,H2⟩ ⟨aI ρ2 o.dst (d i).v,⟨dB (d i).e H2.get,H2.next⟩⟩
 eff:∀ k b,(d i).e=some (k,b)->k∈(d i).f.eff/\((d i).al=false->k∈(d i).f.rs)
 al:(d i).al=true->∃ b,(d i).e=some (s0.H.next+aD d i,b)
 lt:∀ r,r∈(d i).f.rs->r<s0.H.next+aD d i
 apart:∀ j,j<i->(dc bs i).testBit j=false->(∀ r,r∈(d i).f.eff->r ∉ (d j).f.rs)/\(∀ r,r∈(d j).f.eff->r ∉ (d i).f.rs)
theorem oQ {all:Array Oper}{o:Oper}{ρ ρ':Env}(h:∀ t,t∈o.looksAt all->ρ' t=ρ t):eK all ρ' o=eK all ρ o:=by
 unfold eK;cases hg:o.guard with
 | none=>rfl
 | some gw =>
  obtain⟨j,want⟩:=gw;simp only;cases hd:(all[j]?).bind (·.dst) with
  | none=>rfl
  | some d =>
   simp only;rw[h d (by simp [Oper.looksAt,hg,hd])]
theorem sU {all:Array Oper}{o:Oper}{ρ ρ':Env}(h:∀ t,t∈o.looksAt all->ρ' t=ρ t):∀ x,x∈o.op.operands->ak G ρ' x=ak G ρ x:=by
 intro x hx;cases x with
 | tmp t=>exact h t (Uu _ (List.mem_filterMap.2 ⟨.tmp t,by simpa using hx,rfl⟩))
 | _=>rfl
def bS (d:Nat->Dt)(m:Nat)(x:Dt):Nat->Dt:=fun j=>if j=m then x else d j
theorem fG {d:Nat->Dt}{m:Nat}{x:Dt}{i:Nat}(h:i<m):d i=bS d m x i:=by simp [bS,U4 h]
theorem cJ {d:Nat->Dt}{m:Nat}{x:Dt}:bS d m x m=x:=by simp [bS]
theorem kX {all:Array Oper}{d d':Nat->Dt}{s0:St}{m:Nat}(h:∀ j,j<m->d j=d' j):canon all d s0 m=canon all d' s0 m:=by
 unfold canon kW;rw[qm h,qp h,eJ h]
theorem GoodAt.below {all:Array Oper}{bs:List Nat}{s0:St}{d d':Nat->Dt}{i:Nat}(g:GoodAt P G all bs s0 d i)(h:∀ j,j<=i->d j=d' j):GoodAt P G all bs s0 d' i:=by
 have hi:=h i (Nat.le_refl _);have hn:aD d i=aD d' i:=eJ fun j hj=>h j (by omega);have hc:canon all d s0 i=canon all d' s0 i:=kX fun j hj=>h j (by omega);obtain⟨a,b,c,e,f⟩:=g;refine⟨?_,?_,?_,?_,?_⟩
 ·rw[<- hi,<- hn,<- hc];exact a
 ·rw[<- hi];exact b
 ·rw[<- hi,<- hn];exact c
 ·rw[<- hi,<- hn];exact e
 ·intro j hj hb;rw[<- hi,<- h j (by omega)];exact f j hj hb
def jz (d:Nat->Dt)(m:Nat)(acc:List (Nat × FP)):Prop:=∀ j,j<m->(d j).f=⟨[],[]⟩\/(j,(d j).f)∈acc
theorem jz.add {d:Nat->Dt}{m:Nat}{acc:List (Nat × FP)}(h:jz d m acc)(x:Dt):jz (bS d m x) (m+1) (eU m x.f acc):=by
 intro j hj;have key:∀ p,p∈acc->p∈eU m x.f acc:=by
  intro p hp;unfold eU;split
  ·exact hp
  ·exact TE _ hp
 by_cases hjm:j=m
 ·subst hjm;rw[cJ];by_cases hf:x.f=⟨[],[]⟩
  ·exact .inl hf
  ·refine .inr ?_;unfold eU;split
   ·rename_i h0;exact absurd h0 hf
   ·exact T5
 ·rw[<- fG (x:=x) (by omega)];exact(h j (by omega)).imp id (key _)
theorem qq {d:Nat->Dt}{m:Nat}{acc:List (Nat × FP)}{b:Nat}{f:FP}(hc:jz d m acc)(h:fS b f acc):∀ j,j<m->b.testBit j=false->(∀ r,r∈f.eff->r ∉ (d j).f.rs)/\(∀ r,r∈(d j).f.eff->r ∉ f.rs):=by
 intro j hj hb;rcases hc j hj with h0|h1
 ·rw[h0];exact⟨fun r _ h=>(by cases h),fun r h=>(by cases h)⟩
 ·exact h _ h1 hb
theorem mZ {all:Array Oper}{d:Nat->Dt}{s0:St}{m:Nat}{x:Dt}{o:Oper}(ho:all[m]?=some o):
  canon all (bS d m x) s0 (m+1)=⟨aI (canon all d s0 m).ρ o.dst x.v,⟨dB x.e (canon all d s0 m).H.get,(canon all d s0 m).H.next+(if x.al then 1 else 0)⟩⟩:=by
 have hb:∀ j,j<m->d j=bS d m x j:=fun j hj=>fG hj;unfold canon kW;simp only[bb,aV,aD,if_true,cJ];rw[<- qm hb,<- qp hb,<- eJ hb];simp only[fm,ho,Option.bind_some,UC]
theorem m9 {all:Array Oper}{bs:List Nat}{s0:St}{d:Nat->Dt}{m:Nat}{x:Dt}(hg:∀ i,i<m->GoodAt P G all bs s0 d i)(hx:GoodAt P G all bs s0 (bS d m x) m):
  ∀ i,i<m+1->GoodAt P G all bs s0 (bS d m x) i:=by
 intro i hi;by_cases him:i=m
 ·subst him;exact hx
 ·exact(hg i (by omega)).below fun j hj=>fG (by omega)
theorem trace {all:Array Oper}{bs:List Nat}{s0:St}{tail:St->Prop}{K:Nat}(hbs:bs.length=K)(hK:K<=all.size):∀ (k m:Nat) (d:Nat->Dt) (acc:List (Nat × FP)),k+m=K ->
  (∀ i,i<m->GoodAt P G all bs s0 d i)->jz d m acc->eT (canon all d s0 m).H->dy P G all tail (bs.drop m) m acc ((all.toList.take K).drop m) (canon all d s0 m) ->
  ∃ d',(∀ i,i<K->GoodAt P G all bs s0 d' i)/\tail (canon all d' s0 K):=by
 intro k
 induction k with
 | zero =>
  intro m d acc hm hg hc wf h;obtain rfl:m=K:=by omega
  refine⟨d,hg,?_⟩;have:(all.toList.take m).drop m=[]:=by
   apply Vg;simp only[SX];omega
  rw[this]at h;cases hb:bs.drop m with
  | nil=>rw[hb]at h;simpa only[dy] using h
  | cons b bs'=>rw[hb]at h;simpa only[dy] using h
 | succ k ih =>
  intro m d acc hm hg hc wf h;have hmK:m<K:=by omega
  have hms:m<all.size:=by omega
  have ho:all[m]?=some all[m]:=S3 hms;have hbm:bs.drop m=dc bs m :: bs.drop (m+1):=by
   rw[TC (by omega)];congr 1;simp [dc,SN (show m<bs.length by omega)]
  have hom:(all.toList.take K).drop m=all[m] :: (all.toList.take K).drop (m+1):=by
   rw[TC (by simp only[SX,Ul];omega)];congr 1;simp
  rw[hbm,hom]at h;simp only[dy]at h;obtain⟨t,ht,h⟩:=h;have hnext:(canon all d s0 m).H.next=s0.H.next+aD d m:=rfl;cases t with
  | false =>
   simp only[Bool.false_eq_true,if_false]at h
   let x:Dt:=⟨.lit undef,none,false,⟨[],[]⟩⟩
   have hb:∀ j,j<m->d j=bS d m x j:=fun j hj=>fG hj;have hcan:canon all (bS d m x) s0 (m+1)=⟨aI (canon all d s0 m).ρ all[m].dst (.lit undef),(canon all d s0 m).H⟩:=mZ ho;have hgx:GoodAt P G all bs s0 (bS d m x) m:=by
    refine⟨?_,?_,?_,?_,?_⟩
    ·rw[cJ,<- kX hb];intro o ho' ρ2 H2 h1 h2 h3 _;rw[ho]at ho';cases ho';refine .inl ⟨?_,rfl⟩;simp only;rw[oQ h1,ht]
    ·rw[cJ];intro k b he;cases he
    ·rw[cJ];intro he;cases he
    ·rw[cJ];intro r hr;cases hr
    ·rw[cJ];intro j hj hbit;exact⟨fun r hr=>(by cases hr),fun r hr hr'=>(by cases hr')⟩
   refine ih (m+1) (bS d m x) acc (by omega) (m9 hg hgx) (hc.add x) ?_ ?_
   ·rw[hcan];exact wf
   ·rw[hcan];exact h
  | true =>
   simp only[if_true]at h;unfold cD at h;split at h
   ·rename_i fv args ats hop;obtain⟨v,rs,⟨hlt,hcall⟩,hap,h⟩:=h
    let x:Dt:=⟨v,none,false,⟨[],rs⟩⟩
    have hb:∀ j,j<m->d j=bS d m x j:=fun j hj=>fG hj;have hcan:canon all (bS d m x) s0 (m+1)=⟨aI (canon all d s0 m).ρ all[m].dst v,(canon all d s0 m).H⟩:=mZ ho;have hgx:GoodAt P G all bs s0 (bS d m x) m:=by
     refine⟨?_,?_,?_,?_,?_⟩
     ·rw[cJ,<- kX hb];intro o ho' ρ2 H2 h1 h2 h3 h4;rw[ho]at ho';cases ho';refine .inr ⟨?_,v,rfl,.inr ⟨fv,args,ats,hop,rfl,?_⟩⟩
      ·simp only;rw[oQ h1,ht]
      ·have hev:=sU (G:=G) h1;have e1:ak G ρ2 fv=ak G (canon all d s0 m).ρ fv:=hev fv (by simp [hop,Op.operands,Call.operands]);have e2:args.toList.map (ak G ρ2)=args.toList.map (ak G (canon all d s0 m).ρ) :=
        Ti fun y hy=>hev y (by simp only[hop,Op.operands,Call.operands];simp;exact .inr (by simpa using hy))
       simp only;rw[e1,e2];exact hcall H2 h2 (by rw[hnext,eJ hb];exact h4)
     ·rw[cJ];intro k b he;cases he
     ·rw[cJ];intro he;cases he
     ·rw[cJ,<- eJ hb];exact hlt
     ·rw[cJ];intro j hj hbit;rw[<- fG hj];exact qq hc hap j hj hbit
    refine ih (m+1) (bS d m x) _ (by omega) (m9 hg hgx) (hc.add x) ?_ ?_
    ·rw[hcan];exact wf
    ·rw[hcan];exact h
   ·obtain⟨⟨v,H'⟩,hop,hap,h⟩:=h;obtain⟨e,al,hget,hnx,heff,hal,hlt,hloc⟩:=wT wf hop
    let x:Dt:=⟨v,e,al,bt P G (canon all d s0 m).ρ (canon all d s0 m).H.next all[m].op⟩
    have hb:∀ j,j<m->d j=bS d m x j:=fun j hj=>fG hj;have hcan:canon all (bS d m x) s0 (m+1)=⟨aI (canon all d s0 m).ρ all[m].dst v,H'⟩:=by
     rw[mZ ho];congr 1;cases H';simp only at hget hnx;simp only[AHeap.mk.injEq];refine⟨hget.symm,?_⟩;rw[hnx];simp only[x];cases al<;>simp
    have hgx:GoodAt P G all bs s0 (bS d m x) m:=by
     refine⟨?_,?_,?_,?_,?_⟩
     ·rw[cJ,<- kX hb,<- eJ hb];intro o ho' ρ2 H2 h1 h2 h3 h4;rw[ho]at ho';cases ho';refine .inr ⟨?_,v,rfl,.inl ?_⟩
      ·simp only;rw[oQ h1,ht]
      ·simp only;rw[AV (ρ':=(canon all d s0 m).ρ) (sU h1)];exact hloc H2 h2 h3
     ·rw[cJ];exact heff
     ·rw[cJ,<- eJ hb];exact hal
     ·rw[cJ,<- eJ hb];exact hlt
     ·rw[cJ];intro j hj hbit;rw[<- fG hj];exact qq hc hap j hj hbit
    have wf':eT H':=by
     intro id b hid;rw[hget]at hid;rw[hnx];cases e with
     | none =>
      have:=wf id b hid;split<;>omega
     | some kb =>
      obtain⟨k0,b0⟩:=kb;simp only[dB]at hid;split at hid
      ·rename_i hk;subst hk;cases al with
       | true =>
        obtain⟨b1,hb1⟩:=hal rfl;simp only[Option.some.injEq,Prod.mk.injEq]at hb1;simp only[if_true];omega
       | false =>
        have:=hlt _ ((heff id b0 rfl).2 rfl);simpa using this
      ·have:=wf id b hid;split<;>omega
    refine ih (m+1) (bS d m x) _ (by omega) (m9 hg hgx) (hc.add x) ?_ ?_
    ·rw[hcan];exact wf'
    ·rw[hcan];exact h
end Go.Hx
namespace Go.Hx
variable {P:Program} {G:Nat->Option (List AVal)} {Γ Γ':aC} {H H':AHeap} {w w':World}
structure Static (all:Array Oper)(bs:List Nat)(K:Nat):Prop where
 len:bs.length=K
 le:K<=all.size
 down:∀ i o,all[i]?=some o->∀ e,e∈o.after->Region.binds .any e=true->e.on<i
 just:∀ i o j,all[i]?=some o->(if i<K then (dc bs i).testBit j=true else j<i)->∃ e,e∈o.after/\Region.binds .any e=true/\(e.on=j\/(if e.on<K then (dc bs e.on).testBit j=true else j<e.on))
 apart:∀ i j oi oj,i<K->j<i->all[i]?=some oi->all[j]?=some oj->(dc bs i).testBit j=false->sR all oj oi=true
theorem Bd {o:Oper}{k:Nat}:k∈sP o↔∃ e,e∈o.after/\Region.binds .any e=true/\e.on=k:=by
 simp [sP,and_assoc]
theorem Be {bs:List Nat}{K N i j:Nat}(hl:bs.length=K)(hi:i<N)(hK:K<=N):
  (dc (bs++(List.range' K (N - K)).map fun m=>2 ^ m - 1) i).testBit j=true↔(if i<K then (dc bs i).testBit j=true else j<i):=by
 unfold dc;by_cases h:i<K
 ·rw[SQ h,SW (by omega)]
 ·rw[SO h,S5 (by omega),List.getElem?_map,List.getElem?_range' (by omega)];simp only[Option.map_some,Option.getD_some,Ui,decide_eq_true_eq];have:K+1*(i - bs.length)=i:=by omega
  rw[this]
theorem Bf {all:Array Oper}{bs:List Nat}{K:Nat}(h:qD all bs K=true):Static all bs K:=by
 unfold qD at h;simp only[Th,decide_eq_true_eq,Tf,To]at h;obtain⟨⟨⟨hlen,hle⟩,hone⟩,hap⟩:=h;have hlt:∀ i o,all[i]?=some o->i<all.size:=fun i o ho=>(TT.1 ho).1;have hdown:∀ i o,all[i]?=some o->∀ e,e∈o.after->Region.binds .any e=true->e.on<i:=by
  intro i o ho e he hb;have h1:=hone i (hlt i o ho);rw[ho]at h1;simp only[wU,Th,Tf,decide_eq_true_eq]at h1;exact h1.1.1 e.on (Bd.2 ⟨e,he,hb,rfl⟩)
 refine⟨hlen,hle,hdown,?_,?_⟩
 ·intro i o j ho hj;have hi:=hlt i o ho;have h1:=hone i hi;rw[ho]at h1;simp only[wU,Th,Tf,decide_eq_true_eq,To]at h1;obtain⟨⟨_,hb⟩,h2⟩:=h1;have hbit:=(Be (j:=j) hlen hi hle).2 hj;have hji:j<i:=by
   rcases Te j i with h|h
   ·exact h
   ·have:=Vf (S6 hb (Tm (by omega) h));rw[hbit]at this;cases this
  have h3:=h2 j hji;rw[hbit]at h3;simp only[Bool.not_true,VS,List.any_eq_true,TY,beq_iff_eq]at h3;obtain⟨k,hk,h4⟩:=h3;obtain⟨e,he,hbe,rfl⟩:=Bd.1 hk;refine⟨e,he,hbe,h4.imp id fun h5=>?_⟩;exact(Be (j:=j) hlen (Nat.lt_trans (hdown i o ho e he hbe) hi) hle).1 h5
 ·intro i j oi oj hi hj hoi hoj hbit;have h1:=hap i hi;rw[hoi]at h1;simp only[Tf,To]at h1;have h2:=h1 j hj;rw[hbit,hoj]at h2;simpa using h2
theorem Bg {x:Option Tmp}{l:List Tmp}{t:Tmp}(h:sQ x l=true)(hx:x=some t):t ∉ l:=by
 subst hx;simpa [sQ] using h
theorem oV {all:Array Oper}{x y:Oper}(h:sR all x y=true):(∀ t,x.dst=some t->t ∉ y.looksAt all)/\(∀ t,y.dst=some t->t ∉ x.looksAt all)/\(∀ t,x.dst=some t->y.dst≠some t):=by
 simp only[sR,Th]at h;obtain⟨⟨h1,h2⟩,h3⟩:=h;refine⟨fun t ht=>Bg h1 ht,fun t ht=>Bg h2 ht,fun t ht=>?_⟩;rw[ht]at h3;simpa using h3
def sY (all:Array Oper)(L:Nat->Bool):Prop:=∀ i o,L i=true->all[i]?=some o->∀ e,e∈o.after->Region.binds .any e=true->L e.on=true
theorem Static.ahead {all:Array Oper}{bs:List Nat}{K:Nat}(S:Static all bs K){L:Nat->Bool}(hL:sY all L):∀ i o j,all[i]?=some o->(∀ e,e∈o.after->Region.binds .any e=true->L e.on=true) ->
  (if i<K then (dc bs i).testBit j=true else j<i)->L j=true:=by
 intro i
 induction i using Nat.strongRecOn with
 | _ i ih =>
  intro o j ho hdir hj;obtain⟨e,he,hb,h⟩:=S.just i o j ho hj;have hon:=hdir e he hb;rcases h with rfl|h
  ·exact hon
  ·have hlt:=S.down i o ho e he hb;have hi:=(TT.1 ho).1;exact ih e.on hlt all[e.on] j (S3 (by omega)) (hL e.on _ hon (S3 (by omega))) h
def bF (H:AHeap)(k:Nat):AHeap:=⟨fun j=>if H.next<=j/\j<H.next+k then some .rsv else H.get j,H.next+k⟩
theorem qF (H:AHeap)(k:Nat):Evo Γ H w Γ (bF H k) w where
 os:=rfl
 tape:=rfl
 output:=rfl
 size:=Nat.le_refl _
 keep:=fun _ _ h=>⟨rfl,h⟩
 live:=fun id h1 _ x' hx=>by
  refine⟨x',?_,Blk.le_refl _ _ _⟩;simp only[bF]at hx;rw[SO (by omega)]at hx;exact hx
 frz:=fun _ _=>rfl
theorem oY (w:World):Evo Γ H w Γ H { w with drawn:=w.drawn+1 } where
 os:=rfl
 tape:=rfl
 output:=rfl
 size:=Nat.le_refl _
 keep:=fun _ _ h=>⟨rfl,h⟩
 live:=fun _ _ _ x' hx=>⟨x',hx,Blk.le_refl _ _ _⟩
 frz:=fun _ _=>rfl
theorem RelH.move (R:RelH P G Γ H w)(hheap:w'.heap=w.heap)(E:Evo Γ H w Γ H' w')(hn:H.next<=H'.next)(hget:∀ id b,H'.get id=some b->H.get id=some b\/(b=.rsv/\H.get id=none/\id<H'.next))(hsame:∀ id b,H.get id=some b->H'.get id=some b):RelH P G Γ H' w' where
 arr id g e cells hg:=by
  rcases hget _ _ hg with h|h
  ·have h1:=R.arr id g e cells h;cases hΓ:Γ id with
   | none=>rw[hΓ]at h1;exact h1
   | some y =>
    obtain⟨b,base,n⟩:=y;rw[hΓ]at h1;obtain⟨c,a1,a2,a3,a4⟩:=h1;exact⟨c,by rw[hheap];exact a1,a2,a3,fun i hi=>let ⟨cv,b1,b2⟩:=a4 i hi;⟨cv,b1,b2.bc E hn⟩⟩
  ·cases h.1
 loop id st pend n env ps asg body hg:=by
  rcases hget _ _ hg with h|h
  ·obtain⟨b,rr,a1,a2,a3,a4,a5,a6,a7,a8,a9⟩:=R.loop id st pend n env ps asg body h;exact⟨b,rr,a1,by rw[hheap];exact a2,a3,a4,a5,a6,a7,a8,fun t ht=>(a9 t ht).bc E hn⟩
  ·cases h.1
 mp id es hg:=by
  rcases hget _ _ hg with h|h
  ·obtain⟨b,a1,a2⟩:=R.mp id es h;exact⟨b,a1,by rw[hheap];exact a2⟩
  ·cases h.1
 rsv id hg:=by
  rcases hget _ _ hg with h|h
  ·exact R.rsv id h
  ·cases hΓ:Γ id with
   | none=>rfl
   | some x =>
    obtain⟨y,hy⟩:=R.dom id x hΓ;rw[h.2.1]at hy;cases hy
 inj:=R.inj
 dom id x h:=let ⟨y,hy⟩:=R.dom id x h;⟨y,hsame _ _ hy⟩
 lt id b base n h:=by rw[hheap];exact R.lt id b base n h
 next id y h:=by
  rcases hget _ _ h with h|h
  ·exact S6 (R.next id y h) hn
  ·exact h.2.2
 glob g cells h:=(R.glob g cells h).bc E hn
 gsz:=R.nX E
theorem Bh (R:RelH P G Γ H w)(k:Nat):RelH P G Γ (bF H k) w:=by
 have hnone:∀ id,H.next<=id->H.get id=none:=by
  intro id h;cases hg:H.get id with
  | none=>rfl
  | some y=>have:=R.next id y hg;omega
 refine R.move rfl (qF H k) (by simp [bF]) (fun id b hb=>?_) (fun id b hb=>?_)
 ·simp only[bF]at hb;split at hb
  ·rename_i hc;simp only[Option.some.injEq]at hb;exact .inr ⟨hb.symm,hnone id hc.1,hc.2⟩
  ·exact .inl hb
 ·simp only[bF];rw[SO]
  ·exact hb
  ·have:=R.next id b hb;omega
theorem RelS.move {n:Nat}{wb:Base}{s:St}{a:Act}(hs:RelS P G n wb Γ s a w){H':AHeap}(E:Evo Γ s.H w Γ H' w')(hn:s.H.next<=H'.next)(R:RelH P G Γ H' w'):RelS P G n wb Γ ⟨s.ρ,H'⟩ a w' :=
 ⟨hs.size,fun t=>(hs.env t).bc E hn,R,hs.defers.bc E,TA hs.low E.size⟩
theorem dp.move {rd rb:Option Nat}(h:dp Γ H rd rb)(hk:∀ id b,H.get id=some b->H'.get id=some b):dp Γ H' rd rb:=by
 cases rd with
 | none=>exact h
 | some id =>
  obtain⟨b,st,pend,n,env,ps,asg,body,h1,h2,h3⟩:=h;exact⟨b,_,_,_,_,_,_,_,h1,h2,hk _ _ h3⟩
def dO (all:Array Oper)(d:Nat->Dt)(s0:St)(K:Nat)(D:Nat->Bool):St :=
 ⟨bb all d s0.ρ K D,⟨aV d (bF s0.H (aD d K)).get K D,s0.H.next+aD d K⟩⟩
theorem mb {all:Array Oper}{j:Nat}{o:Oper}(h:all[j]?=some o):fm all j=o.dst:=by simp [fm,h]
theorem wj {all:Array Oper}{bs:List Nat}{K:Nat}(S:Static all bs K){d:Nat->Dt}{s0:St}(hg:∀ i,i<K->GoodAt P G all bs s0 d i){D:Nat->Bool}{i:Nat}{o:Oper}(hi:i<K)(ho:all[i]?=some o)(hDi:D i=false)
  (hdown:∀ j,j<i->(dc bs i).testBit j=true->D j=true) (hup:∀ j,i<j->j<K->D j=true->(dc bs j).testBit i=false):
  ExecOk P G all o (s0.H.next+aD d i) (dO all d s0 K D) (dO all d s0 K (bM D i)):=by
 have hget:∀ j,j<K->∃ oj,all[j]?=some oj:=fun j hj=>⟨_,S3 (S6 hj S.le)⟩
 have hgi:=hg i hi;have tgtE:∀ j r,j<K->cZ (d j)=some r->r∈(d j).f.eff/\(((d j).al=true/\r=s0.H.next+aD d j)\/((d j).al=false/\r∈(d j).f.rs)):=by
  intro j r hj ht;unfold cZ at ht;cases he:(d j).e with
  | none=>rw[he]at ht;cases ht
  | some kb =>
   obtain⟨k,b⟩:=kb;rw[he]at ht;simp only[Option.map_some,Option.some.injEq]at ht;subst ht;obtain⟨h1,h2⟩:=(hg j hj).eff k b he;refine⟨h1,?_⟩;cases hal:(d j).al with
   | true =>
    obtain⟨b',hb'⟩:=(hg j hj).al hal;rw[he]at hb';simp only[Option.some.injEq,Prod.mk.injEq]at hb';exact .inl ⟨rfl,hb'.1⟩
   | false=>exact .inr ⟨rfl,h2 hal⟩
 have rangeK:∀ r,r<s0.H.next+aD d i->((bF s0.H (aD d K)).get r=s0.H.get r\/∃ j,j<i/\(fun _:Nat=>true) j=true/\cZ (d j)=some r):=by
  intro r hr;by_cases h:s0.H.next<=r
  ·obtain⟨j,h1,h2,h3⟩:=qk (d:=d) (n:=i) (c:=r - s0.H.next) (by omega);obtain⟨b,hb⟩:=(hg j (by omega)).al h2;refine .inr ⟨j,h1,rfl,?_⟩;unfold cZ;rw[hb,h3];simp only[Option.map_some,Option.some.injEq];omega
  ·left;simp only[bF];rw[SO (by omega)]
 have henv:∀ t,t∈o.looksAt all->bb all d s0.ρ K D t=(canon all d s0 i).ρ t:=by
  intro t ht;show _=bb all d s0.ρ i (fun _=>true) t;rw[<- v7 (all:=all) (d:=d) (ρ0:=s0.ρ) (m:=i) (n:=K) (by omega)];refine mX fun j hj hdj=>?_;obtain⟨oj,hoj⟩:=hget j hj;rw[mb hoj]at hdj;rcases UM j i with h|rfl|h
  ·cases hb:(dc bs i).testBit j with
   | true=>rw[hdown j h hb];simp [h]
   | false=>exact absurd ht ((oV (S.apart i j o oj hi h ho hoj hb)).1 t hdj)
  ·rw[hDi];simp
  ·cases hD:D j with
   | false=>symm;simp;omega
   | true=>exact absurd ht ((oV (S.apart j i oj o hj h hoj ho (hup j h hj hD))).2.1 t hdj)
 have hheap:∀ r,r∈(d i).f.rs->aV d (bF s0.H (aD d K)).get K D r=(canon all d s0 i).H.get r:=by
  intro r hr;show _=aV d s0.H.get i (fun _=>true) r;rw[<- qj (g0:=(bF s0.H (aD d K)).get) (rangeK r (hgi.lt r hr)),<- v9 (m:=i) (n:=K) (by omega)];refine mY fun j hj ht=>?_;obtain⟨he,_⟩:=tgtE j r hj ht;rcases UM j i with h|rfl|h
  ·cases hb:(dc bs i).testBit j with
   | true=>rw[hdown j h hb];simp [h]
   | false=>exact absurd hr ((hgi.apart j h hb).2 r he)
  ·rw[hDi];simp
  ·cases hD:D j with
   | false=>symm;simp;omega
   | true=>exact absurd hr (((hg j hj).apart i h (hup j h hj hD)).1 r he)
 have hal:(d i).al=true->aV d (bF s0.H (aD d K)).get K D (s0.H.next+aD d i)=some .rsv/\s0.H.next+aD d i≠s0.H.next+aD d K:=by
  intro hal;have hlt:=ka hi hal;refine⟨?_,by omega⟩;obtain⟨b,hb⟩:=hgi.al hal;have heff:=(hgi.eff _ _ hb).1;rw[wc]
  ·simp only[bF];rw[SQ (by omega)]
  ·intro j hj hD ht;obtain⟨h1,h2⟩:=tgtE j _ hj ht;rcases UM j i with h|rfl|h
   ·rcases h2 with ⟨h2,h3⟩|⟨h2,h3⟩
    ·have:=ka h h2;omega
    ·have:=(hg j hj).lt _ h3;have:=oD (d:=d) (VC h);omega
   ·rw[hDi]at hD;cases hD
   ·rcases h2 with ⟨h2,h3⟩|⟨h2,h3⟩
    ·have:=ka h hal;omega
    ·exact absurd h3 (((hg j hj).apart i h (hup j h hj hD)).2 _ heff)
 have:=hgi.step o ho (bb all d s0.ρ K D) ⟨aV d (bF s0.H (aD d K)).get K D,s0.H.next+aD d K⟩ henv hheap hal (by have:=oD (d:=d) (VC hi);simp only;omega);have e1:bb all d s0.ρ K (bM D i)=aI (bb all d s0.ρ K D) o.dst (d i).v:=by
  rw[we hDi hi,mb ho];intro j h hj hD t hti;obtain⟨oj,hoj⟩:=hget j hj;rw[mb ho]at hti;rw[mb hoj];exact(oV (S.apart j i oj o hj h hoj ho (hup j h hj hD))).2.2 t hti
 have e2:aV d (bF s0.H (aD d K)).get K (bM D i)=dB (d i).e (aV d (bF s0.H (aD d K)).get K D):=by
  refine wg hDi hi fun j h hj hD r hti htj=>?_;obtain⟨a1,a2⟩:=tgtE i r hi hti;obtain⟨b1,b2⟩:=tgtE j r hj htj;obtain⟨c1,c2⟩:=(hg j hj).apart i h (hup j h hj hD);rcases b2 with ⟨b2,b3⟩|⟨b2,b3⟩
  ·rcases a2 with ⟨a2,a3⟩|⟨a2,a3⟩
   ·have:=ka h a2;omega
   ·exact c1 r b1 a3
  ·exact c2 r a1 b3
 unfold dO;rw[e1,e2];exact this
theorem qt {all:Array Oper}{bs:List Nat}{K:Nat}{d:Nat->Dt}{s0:St}(hg:∀ i,i<K->GoodAt P G all bs s0 d i){D:Nat->Bool}(hD:∀ j,j<K->D j=true):dO all d s0 K D=canon all d s0 K:=by
 unfold dO canon kW;have e1:bb all d s0.ρ K D=bb all d s0.ρ K fun _=>true:=funext fun t=>mX fun j hj _=>hD j hj;have e2:aV d (bF s0.H (aD d K)).get K D=aV d s0.H.get K fun _=>true:=by
  funext r
  rw[mY (D':=fun _=>true) fun j hj _=>hD j hj];refine qj ?_;by_cases h:s0.H.next<=r/\r<s0.H.next+aD d K
  ·obtain⟨j,h1,h2,h3⟩:=qk (d:=d) (n:=K) (c:=r - s0.H.next) (by omega);obtain⟨b,hb⟩:=(hg j h1).al h2;refine .inr ⟨j,h1,rfl,?_⟩;unfold cZ;rw[hb,h3];simp only[Option.map_some,Option.some.injEq];omega
  ·left;simp only[bF];rw[SO h]
 rw[e1,e2]
theorem wo {all:Array Oper}{K:Nat}{d:Nat->Dt}{s0:St}{D:Nat->Bool}(hD:∀ j,j<K->D j=false):dO all d s0 K D=⟨s0.ρ,bF s0.H (aD d K)⟩:=by
 unfold dO;have e1:∀ n,n<=K->bb all d s0.ρ n D=s0.ρ:=by
  intro n
  induction n with
  | zero=>intro _;rfl
  | succ n ih=>intro h;simp only[bb];rw[SO (by simp [hD n h])];exact ih (by omega)
 have e2:∀ n,n<=K->aV d (bF s0.H (aD d K)).get n D=(bF s0.H (aD d K)).get:=by
  intro n
  induction n with
  | zero=>intro _;rfl
  | succ n ih=>intro h;simp only[aV];rw[SO (by simp [hD n h])];exact ih (by omega)
 rw[e1 K (Nat.le_refl _),e2 K (Nat.le_refl _)];rfl
end Go.Hx
namespace Go.Hx
variable {P:Program} {G:Nat->Option (List AVal)} {Γ Γ':aC} {H H':AHeap} {w w':World}
def eo (listed:Array Bool):Nat->Nat
 | 0=>0
 | n+1=>eo listed n+(if listed.getD n true=false then 1 else 0)
theorem wZ {listed:Array Bool}{i:Nat}(hi:listed.getD i true=false):∀ n,eo (listed.setIfInBounds i true) n+(if i<n then 1 else 0)=eo listed n:=by
 have hsz:i<listed.size:=by
  rcases Te i listed.size with h|h
  ·exact h
  ·rw[Ty,TW h]at hi;cases hi
 intro n
 induction n with
 | zero=>simp [eo]
 | succ n ih =>
  simp only[eo];by_cases hin:n=i
  ·subst hin;have:(listed.setIfInBounds n true).getD n true=true:=(by simp [hsz]);have h2:(if n<n then 1 else 0)=0:=SO (UN n);have h3:(if n<n+1 then 1 else 0)=1:=SQ (Vc n);rw[h2]at ih;rw[this,h3,hi];simp;omega
  ·rw[getD_set_ne true (Ne.symm hin)];have h4:(if i<n+1 then 1 else 0)=(if i<n then 1 else 0):=by
    by_cases h:i<n
    ·rw[SQ h,SQ (show i<n+1 by omega)]
    ·rw[SO h,SO (show ¬ i<n+1 by omega)]
   rw[h4];generalize (if i<n then 1 else 0)=x at ih ⊢;omega
theorem sZ {listed:Array Bool}{n:Nat}(h:eo listed n=0):∀ j,j<n->listed.getD j true=true:=by
 induction n with
 | zero=>intro j hj;omega
 | succ n ih =>
  simp only[eo]at h;intro j hj;by_cases hjn:j=n
  ·subst hjn;cases hl:listed.getD j true with
   | true=>rfl
   | false=>rw[hl]at h;simp at h
  ·exact ih (by omega) j (by omega)
theorem Bi {n:Nat}:∀ m,m<=n->eo (Array.replicate n false) m=m:=by
 intro m
 induction m with
 | zero=>intro _;rfl
 | succ m ih =>
  intro h;simp only[eo];rw[ih (by omega),SQ];rw[Ty,UV,SQ (by omega)];rfl
theorem nj {listed:Array Bool}{i:Nat}(h:i<listed.size)(x y:Bool):listed.getD i x=listed.getD i y:=by
 simp [Ty,S3 h]
section
variable {n:Nat} {wb:Base} {rd rb:Option Nat} {Q:AX->St->Prop} {all:Array Oper} {bs:List Nat} {K:Nat} {id:Nat} {dr:Bool}
theorem s8 (S:Static all bs K)(hfit:∀ o,o∈all.toList->fj n o=true):∀ (r m:Nat) (listed:Array Bool) (s:St) (Γ:aC) (a:Act) (w:World),r+m=all.size->K<=m->listed.size=all.size->eo listed all.size=r ->
  (∀ j,j<all.size->(listed.getD j true=true↔j<m))->opsV P G rd Q all (all.toList.drop m) s->RelS P G n wb Γ s a w->dp Γ s.H rd rb ->
  ∀ (Q':Exit->Act->World->Prop),(∀ e a' w',fR P G n wb rd rb (wr (.region id all dr)) Γ s.H a w Q e a' w'->Q' e a' w')->wpAnyIn (dz rb) 0 P .any all Q' r listed a w:=by
 intro r
 induction r with
 | zero =>
  intro m listed s Γ a w hm hKm hsz hc hl h hs hr Q' hq;have:all.toList.drop m=[]:=Vg (by simp;omega);rw[this]at h;refine⟨?_,hq _ _ _ (.here (x:=.normal) trivial h hs hr)⟩;rw[List.eq_nil_iff_forall_not_mem];intro j hj;obtain⟨h1,o,ho,_⟩:=mem_ready.1 hj;have hjs:=(TT.1 ho).1;rw[(hl j hjs).2 (by omega)]at h1;cases h1
 | succ r ih =>
  intro m listed s Γ a w hm hKm hsz hc hl h hs hr Q' hq;have hms:m<all.size:=by omega
  have ho:all[m]?=some all[m]:=S3 hms;have hmun:listed.getD m true=false:=by
   cases hx:listed.getD m true with
   | false=>rfl
   | true=>have:=(hl m hms).1 hx;omega
  have hready:m∈Region.ready .any all listed:=by
   refine mem_ready.2 ⟨hmun,_,ho,fun e he hb=>?_⟩;have:=S.down m _ ho e he hb;rw[nj (by omega) false true];exact(hl e.on (by omega)).2 this
  refine⟨fun h0=>(by rw[h0]at hready;cases hready),fun i hi=>?_⟩;obtain⟨hiun,oi,hoi,hall⟩:=mem_ready.1 hi;have his:=(TT.1 hoi).1;have him:m<=i:=by
   rcases Te i m with h|h
   ·rw[(hl i his).2 h]at hiun;cases hiun
   ·exact h
  have hL:sY all fun j=>listed.getD j false:=by
   intro k ok hk hok e he hb;have hks:=(TT.1 hok).1;have h1:=S.down k ok hok e he hb;simp only at hk ⊢;rw[nj (by omega) false true]at hk ⊢;have:=(hl k hks).1 hk;exact(hl _ (by omega)).2 (by omega)
  have hieq:i=m:=by
   rcases Te m i with h|h
   ·have h1:=S.ahead hL i oi m hoi hall (by rw[SO (by omega)];exact h);rw[nj (by omega) false true,hmun]at h1;cases h1
   ·omega
  subst hieq;have hlist:all.toList.drop i=all[i] :: all.toList.drop (i+1):=by
   rw[TC (by simpa using hms)];simp
  rw[hlist]at h;simp only[opsV]at h;have hl':∀ j,j<all.size->((listed.setIfInBounds i true).getD j true=true↔j<i+1):=by
   intro j hj;by_cases hji:j=i
   ·subst hji;simp
   ·rw[getD_set_ne true (Ne.symm hji),hl j hj];omega
  have hc':eo (listed.setIfInBounds i true) all.size=r:=by
   have:=wZ hmun all.size;rw[SQ hms]at this;omega
  have hd:=hfit all[i] (by simp);obtain⟨t,ht,h⟩:=h;unfold wpOpIn;rw[ho];simp only;rw[oG hs ht];cases t with
  | true =>
   simp only[if_true]at h ⊢;refine AK hd hs hr h ?_ ?_
   ·rintro Γ' s' a' w' hk hs' E hn hr' ⟨cv,rfl⟩;exact ih (i+1) _ s' Γ' _ w' (by omega) (by omega) (by simpa using hsz) hc' hl' hk hs' hr' Q' fun e a'' w'' hp=>hq _ _ _ (hp.step E hn (oH hms cv) fun _ h=>h)
   ·rintro Γ' s' a' w' chain hp hc hs' E hn hr' rfl;exact hq _ _ _ ⟨.panic,s',Γ',hc,hp,hs',E,hn,hr',.refl _ _⟩
  | false =>
   simp only[Bool.false_eq_true,if_false]at h ⊢;refine⟨fun _ _=>trivial,?_⟩;have hdst:∀ d,all[i].dst=some d->d<n:=by
    intro d hd';unfold fj at hd;rw[hd']at hd;simpa using hd
   have hs':=jC (v:=.lit undef) (cv:=undef) hs hdst (Evo.refl Γ s.H w) (Nat.le_refl _) hs.heap (.lit _);exact ih (i+1) _ ⟨aI s.ρ all[i].dst (.lit undef),s.H⟩ Γ _ w (by omega) (by omega) (by simpa using hsz) hc' hl' h hs' hr Q' fun e a'' w'' hp=>hq _ _ _ (hp.step (Evo.refl _ _ _) (Nat.le_refl _) (oH hms _) fun _ h=>h)
theorem wu (S:Static all bs K)(hfit:∀ o,o∈all.toList->fj n o=true){d:Nat->Dt}{s0:St}(hg:∀ i,i<K->GoodAt P G all bs s0 d i)(htail:opsV P G rd Q all (all.toList.drop K) (canon all d s0 K)):
  ∀ (r:Nat) (listed:Array Bool) (D:Nat->Bool) (Γ:aC) (a:Act) (w:World),listed.size=all.size->eo listed all.size=r->(∀ j,j<all.size->listed.getD j true=D j)->(∀ j,D j=true->j<K)->sY all D ->
  RelS P G n wb Γ (dO all d s0 K D) a w->dp Γ (dO all d s0 K D).H rd rb ->
  ∀ (Q':Exit->Act->World->Prop),(∀ e a' w',fR P G n wb rd rb (wr (.region id all dr)) Γ (dO all d s0 K D).H a w Q e a' w'->Q' e a' w')->wpAnyIn (dz rb) 0 P .any all Q' r listed a w:=by
 intro r
 induction r with
 | zero =>
  intro listed D Γ a w hsz hc hl hlow hL hs hr Q' hq;have hall:∀ j,j<K->D j=true:=fun j hj=>by rw[<- hl j (S6 hj S.le)];exact sZ hc j (S6 hj S.le)
  have hKs:K=all.size:=by
   rcases Te K all.size with h|h
   ·have h1:=sZ hc K h;rw[hl K h]at h1;have:=hlow K h1;omega
   ·have:=S.le;omega
  rw[qt hg hall]at hs hr hq;exact s8 S hfit 0 K listed _ Γ a w (by omega) (Nat.le_refl _) hsz hc (fun j hj=>by rw[hl j hj];exact⟨hlow j,hall j⟩) htail hs hr Q' hq
 | succ r ih =>
  intro listed D Γ a w hsz hc hl hlow hL hs hr Q' hq;by_cases hall:∀ j,j<K->D j=true
  ·rw[qt hg hall]at hs hr hq;have hcount:∀ m,m<=all.size->eo listed m=m - K:=by
    intro m
    induction m with
    | zero=>intro _;simp [eo]
    | succ m ihm =>
     intro hm;simp only[eo];rw[ihm (by omega),hl m (by omega)];by_cases hmK:m<K
     ·rw[hall m hmK];simp;omega
     ·have:D m=false:=by
       cases hD:D m with
       | false=>rfl
       | true=>exact absurd (hlow m hD) hmK
      rw[this];simp;omega
   have h1:=hcount all.size (Nat.le_refl _);exact s8 S hfit (r+1) K listed _ Γ a w (by have:=S.le;omega) (Nat.le_refl _) hsz hc (fun j hj=>by rw[hl j hj];exact⟨hlow j,hall j⟩) htail hs hr Q' hq
  ·have hex:∃ j,j<K/\D j=false:=by
    by_cases h:∃ j,j<K/\D j=false
    ·exact h
    ·refine absurd (fun j hj=>?_) hall;cases hD:D j with
     | true=>rfl
     | false=>exact absurd ⟨j,hj,hD⟩ h
   have least:∀ k,(∃ j,j<k/\j<K/\D j=false)->∃ j,j<K/\D j=false/\∀ i,i<j->D i=true:=by
    intro k
    induction k with
    | zero=>rintro⟨j,hj,_⟩;omega
    | succ k ihk =>
     rintro⟨j,h1,h2,h3⟩;by_cases h:∃ j,j<k/\j<K/\D j=false
     ·exact ihk h
     ·refine⟨j,h2,h3,fun i hi=>?_⟩;cases hD:D i with
      | true=>rfl
      | false=>exact absurd ⟨i,by omega,by omega,hD⟩ h
   obtain⟨j0,hj0K,hj0,hbelow⟩:=least K (let ⟨j,h1,h2⟩:=hex;⟨j,h1,h1,h2⟩);have hj0s:j0<all.size:=S6 hj0K S.le;have hr0:j0∈Region.ready .any all listed:=by
    refine mem_ready.2 ⟨by rw[hl j0 hj0s];exact hj0,_,S3 hj0s,fun e he hb=>?_⟩;have hlt:=S.down j0 _ (S3 hj0s) e he hb;rw[nj (by omega) false true,hl e.on (by omega)];exact hbelow _ hlt
   refine⟨fun h0=>(by rw[h0]at hr0;cases hr0),fun i hi=>?_⟩;obtain⟨hiun,oi,hoi,hdir⟩:=mem_ready.1 hi;have his:=(TT.1 hoi).1;have hdirD:∀ e,e∈oi.after->Region.binds .any e=true->D e.on=true:=fun e he hb=>by
    have:=S.down i oi hoi e he hb;rw[<- hl e.on (by omega),<- nj (by omega) false true];exact hdir e he hb
   have hahead:=S.ahead hL i oi;have hiK:i<K:=by
    rcases Te i K with h|h
    ·exact h
    ·have:=hahead j0 hoi hdirD (by rw[SO (by omega)];omega);rw[hj0]at this;cases this
   have hDi:D i=false:=(by rw[<- hl i his];exact hiun);have hex:=wj (P:=P) (G:=G) S hg hiK hoi hDi (fun j hj hb=>hahead j hoi hdirD (by rw[SQ hiK];exact hb)) (fun j h1 h2 hD=>by
    cases hb:(dc bs j).testBit i with
    | false=>rfl
    | true =>
     have hjs:j<all.size:=S6 h2 S.le;have:=S.ahead hL j _ i (S3 hjs) (fun e he hbe=>hL j _ hD (S3 hjs) e he hbe) (by rw[SQ h2];exact hb);rw[hDi]at this;cases this)
   have hoi':oi=all[i]:=by
    rw[S3 his]at hoi;exact(Option.some.inj hoi).symm
   refine wh hoi (hfit oi (by rw[hoi'];simp)) hs hr hex ?_;rintro Γ' a' w' hs' E hn hr' ⟨cv,rfl⟩;have hc':eo (listed.setIfInBounds i true) all.size=r:=by
    have:=wZ hiun all.size;rw[SQ his]at this;omega
   refine ih (listed.setIfInBounds i true) (bM D i) Γ' _ w' (by simpa using hsz) hc' ?_ ?_ ?_ hs' hr' Q' fun e a'' w'' hp=>hq _ _ _ (hp.step E hn (by rw[hoi'];exact oH his cv) fun _ h=>h)
   ·intro j hj;by_cases hji:j=i
    ·subst hji;simp [bM]
    ·rw[getD_set_ne true (Ne.symm hji),hl j hj];simp [bM,hji]
   ·intro j hj;by_cases hji:j=i
    ·subst hji;exact hiK
    ·simp only[bM,SO hji]at hj;exact hlow j hj
   ·intro k ok hk hok e he hb;by_cases hki:k=i
    ·subst hki;rw[hoi]at hok;cases hok;have:=hdirD e he hb;simp only[bM];split
     ·rfl
     ·exact this
    ·simp only[bM,SO hki]at hk;have:=hL k ok hk hok e he hb;simp only[bM];split
     ·rfl
     ·exact this
theorem W.draw {s:St}(K:Nat)(bs:List Nat)(hm:P.follows .mixedOrders=true)(hfit:all.toList.all (fj n)=true)(hst:qD all bs K=true)
  (h:dy P G all (opsV P G rd Q all (all.toList.drop K)) bs 0 [] (all.toList.take K) s):W P G n rd (.region id all true) Q s:=by
 intro wb Γ a w rb hs hr;have S:=Bf hst;have hfit':∀ o,o∈all.toList->fj n o=true:=fun o ho=>Tf.1 hfit o ho;have wf:eT s.H:=fun id b hb=>hs.heap.next id b hb;have hcan0:canon all (fun _=>⟨.lit undef,none,false,⟨[],[]⟩⟩) s 0=s:=rfl;obtain⟨d,hg,htail⟩:=trace (P:=P) (G:=G) (all:=all) (bs:=bs) (s0:=s) (tail:=opsV P G rd Q all (all.toList.drop K)) S.len S.le K 0 (fun _=>⟨.lit undef,none,false,⟨[],[]⟩⟩) [] (by omega)
  (fun i hi=>by omega) (fun j hj=>by omega) (by rw[hcan0];exact wf) (by rw[hcan0];exact h)
 refine wpIn_region_any hm ?_
 let w1:World:={ w with drawn:=w.drawn+1 }
 have R1:RelH P G Γ s.H w1:=hs.heap.move rfl (oY w) (Nat.le_refl _) (fun id b hb=>.inl hb) fun id b hb=>hb;have hs1:RelS P G n wb Γ s a w1:=hs.move (oY w) (Nat.le_refl _) R1;have hs2:RelS P G n wb Γ ⟨s.ρ,bF s.H (aD d K)⟩ a w1:=hs1.move (qF _ _) (by simp [bF]) (Bh R1 _);have hr2:dp Γ (bF s.H (aD d K)) rd rb:=hr.move fun id b hb=>by
  simp only[bF];rw[SO]
  ·exact hb
  ·have:=hs.heap.next id b hb;omega
 have e0:dO all d s K (fun _=>false)=⟨s.ρ,bF s.H (aD d K)⟩:=wo fun _ _=>rfl;refine wu (wb:=wb) (id:=id) (dr:=true) S hfit' hg htail all.size _ (fun _=>false) Γ a w1 (by simp) (Bi _ (Nat.le_refl _)) ?_ ?_ ?_ ?_ ?_ _ ?_
 ·intro j hj;rw[Ty,UV,SQ hj];rfl
 ·intro j hj;cases hj
 ·intro i o hi;cases hi
 ·rw[e0];exact hs2
 ·rw[e0];exact hr2
 ·rw[e0];intro e a' w' hp;refine hp.step ?_ (by simp [bF]) (.refl _ _) fun _ h=>h;exact Evo.trans (oY w) (Nat.le_refl _) (qF _ _)
end
end Go.Hx
namespace Go.Hx
variable {P:Program} {G:Nat->Option (List AVal)}
theorem ni {α:Type}(a:α)(K:α->Prop):bd (some a) K=K a:=by simp [bd]
theorem sV {α:Type}(K:α->Prop):bd none K=False:=by simp [bd]
theorem wV {α β:Type}(o:Option α)(f:α->Option β)(K:β->Prop):bd (o.bind f) K=bd o fun a=>bd (f a) K:=by
 cases o<;>simp [bd]
theorem fT {α β:Type}(o:Option α)(f:α->β)(K:β->Prop):bd (o.map f) K=bd o fun a=>K (f a):=by
 cases o<;>simp [bd]
theorem AY {α:Type}(c:Prop)[Decidable c](a:Option α)(K:α->Prop):bd (if c then a else none) K=(c/\bd a K):=by
 by_cases h:c<;>simp [h,bd]
theorem sW {α:Type}{o:Option α}{K K':α->Prop}(h:∀ a,K a=K' a):bd o K=bd o K':=by
 have:K=K':=funext h;subst this;rfl
theorem G1 (p q:Prop):gH true p q=p:=by simp [gH]
theorem G2 (p q:Prop):gH false p q=q:=by simp [gH]
theorem gH.mk {t:Bool}{p q:Prop}(h1:t=true->p)(h2:t=false->q):gH t p q:=⟨h1,h2⟩
theorem G3 {f:FuncId}{args args':List AVal}{H H':AHeap}{K:ARes->AHeap->Prop}(h2:args=args')(h3:H=H'):ae P G f args H K=ae P G f args' H' K:=by
 rw[h2,h3]
theorem G4 {n:Nat}{rd:Option Nat}{c:Code}{Q:AX->St->Prop}{s s':St}(h:s=s'):W P G n rd c Q s=W P G n rd c Q s':=by rw[h]
attribute [congr] G3 G4
theorem G5 (K:St->Prop)(Q:AX->St->Prop)(s:St):iA K Q .normal s=K s:=(rfl)
theorem G6 (K:St->Prop)(Q:AX->St->Prop)(i:Nat)(s:St):iA K Q (.exit i) s=Q (.exit i) s:=(rfl)
theorem G7 (K:St->Prop)(Q:AX->St->Prop)(i:Nat)(s:St):iA K Q (.goto i) s=Q (.goto i) s:=(rfl)
theorem G8 (K:St->Prop)(Q:AX->St->Prop)(s:St):iA K Q .ret s=Q .ret s:=(rfl)
theorem G9 (K:St->Prop)(Q:AX->St->Prop)(s:St):iA K Q .panic s=Q .panic s:=(rfl)
theorem Hg (i:Nat)(Q:AX->St->Prop)(s:St):kZ i Q .normal s=Q .normal s:=(rfl)
theorem Hh (i j:Nat)(Q:AX->St->Prop)(s:St):kZ i Q (.exit j) s=if j=i then Q .normal s else Q (.exit j) s:=(rfl)
theorem Hi (i j:Nat)(Q:AX->St->Prop)(s:St):kZ i Q (.goto j) s=Q (.goto j) s:=(rfl)
theorem Hl (i:Nat)(Q:AX->St->Prop)(s:St):kZ i Q .ret s=Q .ret s:=(rfl)
theorem Ho (i:Nat)(Q:AX->St->Prop)(s:St):kZ i Q .panic s=Q .panic s:=(rfl)
theorem noGoto_normal (Q:AX->St->Prop)(s:St):noGoto Q .normal s=Q .normal s:=(rfl)
theorem noGoto_exit (i:Nat)(Q:AX->St->Prop)(s:St):noGoto Q (.exit i) s=Q (.exit i) s:=(rfl)
theorem noGoto_ret (Q:AX->St->Prop)(s:St):noGoto Q .ret s=Q .ret s:=(rfl)
theorem noGoto_panic (Q:AX->St->Prop)(s:St):noGoto Q .panic s=Q .panic s:=(rfl)
section code
variable {n:Nat} {rd:Option Nat} {Q:AX->St->Prop} {s:St}
theorem Ht:vc P G n rd .skip Q s=Q .normal s:=(rfl)
theorem Hv (l:Nat):vc P G n rd (.label l) Q s=Q .normal s:=(rfl)
theorem HA (id:Nat)(ops:Array Oper):vc P G n rd (.region id ops false) Q s=opsV P G rd Q ops ops.toList s:=(rfl)
theorem HB (id:Nat)(ops:Array Oper):vc P G n rd (.region id ops true) Q s=W P G n rd (.region id ops true) Q s:=(rfl)
theorem HC (a b:Code):vc P G n rd (.seq a b) Q s=vc P G n rd a (iA (vc P G n rd b Q) Q) s:=(rfl)
theorem HD (id:Nat)(c:Code):vc P G n rd (.block id c) Q s=vc P G n rd c (kZ id Q) s:=(rfl)
theorem HE (c:Code):vc P G n rd (.loop c) Q s=W P G n rd (.loop c) Q s:=(rfl)
theorem HF (f:Operand)(ps:Array Tmp)(asg c:Code):vc P G n rd (.rangeFunc f ps asg c) Q s=W P G n rd (.rangeFunc f ps asg c) Q s:=(rfl)
theorem HG (i:Nat):vc P G n rd (.exit i) Q s=Q (.exit i) s:=(rfl)
theorem HH (c:Code):vc P G n rd (.scope c) Q s=vc P G n rd c (noGoto Q) s:=(rfl)
theorem HI (i:Nat):vc P G n rd (.goto i) Q s=Q (.goto i) s:=(rfl)
theorem HJ:vc P G n rd .ret Q s=Q .ret s:=(rfl)
def AZ:AVal->Option Bool
 | .lit (.bool t)=>some t
 | _=>none
theorem HK (t:Bool):AZ (.lit (.bool t))=some t:=rfl
theorem HL (c:Operand)(a b:Code):vc P G n rd (.cond c a b) Q s=bd (AZ (ak G s.ρ c)) fun t=>gH t (vc P G n rd a Q s) (vc P G n rd b Q s):=by
 simp only[vc];congr 1
end code
theorem HM (ρ:Env)(t:Tmp):ak G ρ (.tmp t)=ρ t:=rfl
theorem HN (ρ:Env)(v:Value):ak G ρ (.const v)=.lit v:=rfl
theorem HO (ρ:Env)(f:FuncId):ak G ρ (.func f)=.clo f [] []:=rfl
theorem HP (ρ:Env)(d:Tmp)(v:AVal)(t:Tmp):aI ρ (some d) v t=if t=d then v else ρ t:=rfl
theorem HQ (ρ:Env)(v:AVal):aI ρ none v=ρ:=rfl
theorem HR (ws:Nat)(ρ ρ₀:Env)(t:Nat):mask ws ρ ρ₀ t=if ws / 2 ^ t % 2=1 then ρ t else ρ₀ t:=rfl
def iv:AVal->Int
 | .lit (.int _ n)=>n
 | _=>0
theorem aQ (k:IntKind)(n:Int):iv (.lit (.int k n))=n:=rfl
theorem wW (l:List AVal)(t:Nat):gI l t=(l[t]?).getD (.lit undef):=rfl
theorem HS (rs:List ResultVar)(H:AHeap)(K:ARes->AHeap->Prop)(s:St):qB P G rs H K .ret s=bd (eh P s.H s.ρ rs) fun vs=>ay P G H K (hZ vs) s.H:=(rfl)
theorem HT (rs:List ResultVar)(H:AHeap)(K:ARes->AHeap->Prop)(s:St):qB P G rs H K .normal s=bd (eh P s.H s.ρ rs) fun vs=>ay P G H K (hZ vs) s.H:=(rfl)
theorem HU (H:AHeap)(ρ:Env):eh P H ρ []=some []:=rfl
theorem HV (H:AHeap)(ρ:Env)(t:Tmp)(r:List ResultVar):eh P H ρ (.tmp t :: r)=(eh P H ρ r).map (ρ t :: ·):=rfl
theorem HW (H:AHeap)(ρ:Env)(a:Tmp)(t:TypeId)(r:List ResultVar):eh P H ρ (.cell a t :: r)=(eS P H t (ρ a)).bind fun v=>(eh P H ρ r).map (v :: ·):=rfl
theorem HX (v:AVal):hZ [v]=v:=rfl
theorem HY (v u:AVal)(r:List AVal):hZ (v :: u :: r)=.tup (v :: u :: r):=rfl
theorem HZ:hZ []=.tup []:=rfl
section ops
variable {rd:Option Nat} {Q:AX->St->Prop} {K:St->Prop} {s:St} {d:Option Tmp} {ty:TypeId} {pos:String} {aft:Array Edge} {g:Option (Nat × Bool)}
theorem Ia (all:Array Oper):opsV P G rd Q all [] s=Q .normal s:=(rfl)
theorem Ib (all:Array Oper)(op:Op)(rest:List Oper):opsV P G rd Q all (⟨d,op,ty,pos,aft,none⟩ :: rest) s=aU P G rd Q ⟨d,op,ty,pos,aft,none⟩ (opsV P G rd Q all rest) s:=by
 simp [opsV,eK,ni]
theorem Ic (all:Array Oper)(op:Op)(rest:List Oper)(j:Nat)(want:Bool):opsV P G rd Q all (⟨d,op,ty,pos,aft,some (j,want)⟩ :: rest) s =
  bd (eK all s.ρ ⟨d,op,ty,pos,aft,some (j,want)⟩) fun t=>if t=true then aU P G rd Q ⟨d,op,ty,pos,aft,some (j,want)⟩ (opsV P G rd Q all rest) s else opsV P G rd Q all rest ⟨aI s.ρ d (.lit undef),s.H⟩:=(rfl)
def Ie (P:Program)(G:Nat->Option (List AVal))(fv:AVal)(args:List AVal)(H:AHeap)(K:ARes->AHeap->Prop)(_d:TagR K:=.mk):Prop:=aB P G fv args H K
theorem If (fv:Operand)(args:Array Operand)(ats:Array TypeId):aU P G rd Q ⟨d,.call ⟨.value fv,args,ats⟩,ty,pos,aft,g⟩ K s =
  Ie P G (ak G s.ρ fv) (args.toList.map (ak G s.ρ)) s.H fun r H'=>ef H' rd/\match r with
   | .ret v=>K ⟨aI s.ρ d v,H'⟩
   | .panic=>Q .panic ⟨s.ρ,H'⟩:=(rfl)
theorem Ig (x:Operand):aU P G rd Q ⟨d,.panic x,ty,pos,aft,g⟩ K s=((∃ t v,(ak G s.ρ x)=.lit (.iface t v))/\Q .panic s):=(rfl)
theorem Ih (x:Operand):aU P G rd Q ⟨d,.move x,ty,pos,aft,g⟩ K s=K ⟨aI s.ρ d (ak G s.ρ x),s.H⟩:=by simp [aU,aj,ni]
theorem Ii (x:Operand):aU P G rd Q ⟨d,.assign x,ty,pos,aft,g⟩ K s=K ⟨aI s.ρ d (ak G s.ρ x),s.H⟩:=by simp [aU,aj,ni]
theorem Ij (c a b:Operand):aU P G rd Q ⟨d,.pick c a b,ty,pos,aft,g⟩ K s=bd (match ak G s.ρ c with|.lit (.bool t)=>some t|_=>none) fun t=>K ⟨aI s.ρ d (if t then ak G s.ρ a else ak G s.ρ b),s.H⟩:=by
 simp only[aU,aj];split<;>simp_all [ni,sV]
theorem Ik (e:TypeId):aU P G rd Q ⟨d,.alloc e,ty,pos,aft,g⟩ K s=bd (bE P e) fun z=>bd (s.H.lay s.H.next (.arr 0 e z)) fun H'=>K ⟨aI s.ρ d (.ptr s.H.next 0 0),H'⟩:=by
 simp only[aU,aj,wV];exact sW fun _=>fT ..
theorem Il (e:TypeId)(x:Operand):aU P G rd Q ⟨d,.box e x,ty,pos,aft,g⟩ K s=bd (s.H.lay s.H.next (.arr 0 e (ak G s.ρ x).cells)) fun H'=>K ⟨aI s.ρ d (.ptr s.H.next 0 0),H'⟩:=by
 simp [aU,aj,fT]
theorem Im (t:TypeId)(parts:Array (Nat × Operand)):aU P G rd Q ⟨d,.build t parts,ty,pos,aft,g⟩ K s=bd (oz P t (parts.toList.map fun p=>(p.1,ak G s.ρ p.2))) fun v=>K ⟨aI s.ρ d v,s.H⟩:=by
 simp [aU,aj,fT]
theorem Io (t:TypeId)(len:Nat)(parts:Array (Nat × Operand)):aU P G rd Q ⟨d,.buildSlice t len parts,ty,pos,aft,g⟩ K s =
  bd (jv P s.H s.H.next t len (parts.toList.map fun p=>(p.1,ak G s.ρ p.2))) fun vH=>K ⟨aI s.ρ d vH.1,vH.2⟩:=by
 simp [aU,aj]
theorem Ip (t:TypeId)(a:Operand):aU P G rd Q ⟨d,.load t a,ty,pos,aft,g⟩ K s=bd (eS P s.H t (ak G s.ρ a)) fun v=>K ⟨aI s.ρ d v,s.H⟩:=by
 simp [aU,aj,fT]
theorem Iq (t:TypeId)(a x:Operand):aU P G rd Q ⟨d,.store t a x,ty,pos,aft,g⟩ K s=((P.underlying t).isSome=true/\bd (gZ P s.H t (ak G s.ρ a) (ak G s.ρ x)) fun H'=>K ⟨aI s.ρ d (.lit undef),H'⟩):=by
 simp [aU,aj,AY,fT]
theorem Ir (x:Operand):aU P G rd Q ⟨d,.nilCheck x,ty,pos,aft,g⟩ K s=bd (jy s.H (ak G s.ρ x)) fun v=>K ⟨aI s.ρ d v,s.H⟩:=by
 simp [aU,aj,fT]
theorem Is (op:BinOp)(t:TypeId)(x y:Operand)(u:TypeId):aU P G rd Q ⟨d,.binOp op t x y u,ty,pos,aft,g⟩ K s =
  qz P op t (iB s.H op (ak G s.ρ x) (ak G s.ρ y)) (fun v=>K ⟨aI s.ρ d v,s.H⟩) (bd (bh P op t x y (ak G s.ρ x) (ak G s.ρ y)) fun v=>K ⟨aI s.ρ d v,s.H⟩):=by
 simp [aU,aj,fT]
theorem It (op:BinOp)(t:TypeId)(Kb:AVal->Prop)(p:Prop):qz P op t none Kb p=p:=rfl
theorem Iu (op:BinOp)(t:TypeId)(k:Bool)(Kb:AVal->Prop)(p:Prop):qz P op t (some k) Kb p=(lf (P.underlying t)=true/\∀ b:Bool,(k=true->b=false)->Kb (.lit (.bool (if op == .neq then !b else b)))):=rfl
theorem Iv (e:TypeId):lf (some (.slice e))=true:=rfl
theorem Iw (H:AHeap)(op:BinOp)(v:Value)(y:AVal):iB H op (.lit v) y=none:=by
 unfold iB;split<;>rfl
theorem Ix (H:AHeap)(n:Nat)(cells:List AVal):iB H .eql (.vec n cells) (.lit (.slice none 0 0))=some (decide (0<n)):=rfl
theorem Iy (H:AHeap)(n:Nat)(cells:List AVal):iB H .neq (.vec n cells) (.lit (.slice none 0 0))=some (decide (0<n)):=rfl
theorem Iz:(BinOp.eql == BinOp.neq)=false:=rfl
theorem IA:(BinOp.neq == BinOp.neq)=true:=rfl
theorem IB (op:UnOp)(t:TypeId)(x:Operand):aU P G rd Q ⟨d,.unOp op t x,ty,pos,aft,g⟩ K s=bd (qg P op (ak G s.ρ x)) fun v=>K ⟨aI s.ρ d v,s.H⟩:=by
 simp [aU,aj,fT]
theorem IC (a b:TypeId)(x:Operand):aU P G rd Q ⟨d,.convert a b x,ty,pos,aft,g⟩ K s=bd (jx P s.H a b (ak G s.ρ x)) fun v=>K ⟨aI s.ρ d v,s.H⟩:=by
 simp [aU,aj,fT]
theorem ID (f:FuncId)(first cap:Array Operand):aU P G rd Q ⟨d,.makeFunc (.func f) first cap,ty,pos,aft,g⟩ K s=K ⟨aI s.ρ d (.clo f (first.toList.map (ak G s.ρ)) (cap.toList.map (ak G s.ρ))),s.H⟩:=by
 simp [aU,aj,ni]
theorem IE (t:TypeId)(l c:Operand):aU P G rd Q ⟨d,.makeSlice t l c,ty,pos,aft,g⟩ K s=bd (iV P s.H s.H.next t (ak G s.ρ l) (ak G s.ρ c)) fun vH=>K ⟨aI s.ρ d vH.1,vH.2⟩:=by
 simp [aU,aj]
theorem IF (t:TypeId)(x:Operand)(lo hi:Option Operand):aU P G rd Q ⟨d,.slice t x lo hi none,ty,pos,aft,g⟩ K s =
  bd (kS P s.H t (ak G s.ρ x) (lo.map (ak G s.ρ)) (hi.map (ak G s.ρ))) fun v=>K ⟨aI s.ρ d v,s.H⟩:=by
 simp [aU,aj,fT]
def oT (P:Program)(H:AHeap)(s:TypeId)(f:Nat)(x:AVal):Option AVal :=
 (bA P s f).bind fun of=>match x with
  | .ptr id gen off=>(H.live id gen).map fun _=>.ptr id gen (off+of.1)
  | .vptr cells off=>some (.vptr cells (off+of.1))
  | _=>none
theorem IG (t:TypeId)(x:Operand)(f:Nat):aU P G rd Q ⟨d,.fieldAddr t x f,ty,pos,aft,g⟩ K s=bd (oT P s.H t f (ak G s.ρ x)) fun v=>K ⟨aI s.ρ d v,s.H⟩:=by
 simp only[aU,aj,oT,wV];refine sW fun of=>?_;split<;>simp_all [sV,fT,ni]
def A0 (P:Program)(t:TypeId)(f:Nat)(x:AVal):Option AVal :=
 (bA P t f).bind fun of=>match x with
  | .agg cells=>eH P of.2 cells of.1
  | .lit (.agg cs)=>eH P of.2 (cs.toList.map .lit) of.1
  | _=>none
def oU (P:Program)(H:AHeap)(t:TypeId)(x i:AVal):Option AVal:=match i with
 | .lit (.int _ i)=>lW P H t x i
 | _=>none
theorem IH (t:TypeId)(x i:Operand):aU P G rd Q ⟨d,.indexAddr t x i,ty,pos,aft,g⟩ K s=bd (oU P s.H t (ak G s.ρ x) (ak G s.ρ i)) fun v=>K ⟨aI s.ρ d v,s.H⟩:=by
 simp only[aU,aj,oU];split<;>simp_all [sV,fT]
theorem II (t:TypeId)(x i:Operand):aU P G rd Q ⟨d,.index t x i,ty,pos,aft,g⟩ K s=bd (qh P t (ak G s.ρ x) (ak G s.ρ i)) fun v=>K ⟨aI s.ρ d v,s.H⟩:=by
 simp [aU,aj,fT]
theorem IJ (t:Operand)(i:Nat):aU P G rd Q ⟨d,.extract t i,ty,pos,aft,g⟩ K s=bd (kV (ak G s.ρ t) i) fun v=>K ⟨aI s.ρ d v,s.H⟩:=by
 simp [aU,aj,fT]
theorem IK (b:Builtin)(args:Array Operand)(ats:Array TypeId):aU P G rd Q ⟨d,.call ⟨.builtin b,args,ats⟩,ty,pos,aft,g⟩ K s =
  bd (fF P s.H s.H.next b ats.toList (args.toList.map (ak G s.ρ))) fun vH=>K ⟨aI s.ρ d vH.1,vH.2⟩:=by
 simp [aU,aj]
end ops
theorem builtin_len (H:AHeap)(id:Nat)(t:TypeId)(x:AVal):fF P H id .len [t] [x]=(kT P H t x).map fun v=>(v,H):=rfl
theorem builtin_append (H:AHeap)(id:Nat)(t u:TypeId)(s x:AVal):fF P H id .append [t,u] [s,x]=bf P H id t u s x:=rfl
theorem builtin_copy (H:AHeap)(id:Nat)(t u:TypeId)(s x:AVal):fF P H id .copy [t,u] [s,x]=j7 P H t s x:=rfl
theorem builtin_min (H:AHeap)(id:Nat)(ts:List TypeId)(k:IntKind)(a b:Int):fF P H id .min ts [.lit (.int k a),.lit (.int k b)]=some (.lit (.int k (if b<a then b else a)),H):=by
 cases ts with
 | nil=>rfl
 | cons t ts=>rfl
theorem builtin_max (H:AHeap)(id:Nat)(ts:List TypeId)(k:IntKind)(a b:Int):fF P H id .max ts [.lit (.int k a),.lit (.int k b)]=some (.lit (.int k (if b > a then b else a)),H):=by
 cases ts with
 | nil=>rfl
 | cons t ts=>rfl
section nums
variable {t:TypeId} {x y:Operand} {k:IntKind} {a b:Int}
theorem A1:bh P .add t x y (.lit (.int k a)) (.lit (.int k b))=some (.lit (.int k (k.wrap (a+b)))):=by
 simp [bh,AVal.cq,eqGuard,binOp,Op.intArith,cI,bind,Sem.bind,pure]
theorem A2:bh P .sub t x y (.lit (.int k a)) (.lit (.int k b))=some (.lit (.int k (k.wrap (a - b)))):=by
 simp [bh,AVal.cq,eqGuard,binOp,Op.intArith,cI,bind,Sem.bind,pure]
theorem A3:bh P .mul t x y (.lit (.int k a)) (.lit (.int k b))=some (.lit (.int k (k.wrap (a*b)))):=by
 simp [bh,AVal.cq,eqGuard,binOp,Op.intArith,cI,bind,Sem.bind,pure]
theorem IL:bh P .quo t x y (.lit (.int k a)) (.lit (.int k b))=if b≠0 then some (.lit (.int k (k.wrap (a.tdiv b)))) else none:=by
 by_cases h:b=0<;>simp [h,bh,AVal.cq,eqGuard,binOp,Op.intDiv,runtimePanic,program,goPanic,cI,bind,Sem.bind,pure]
theorem IM:bh P .rem t x y (.lit (.int k a)) (.lit (.int k b))=if b≠0 then some (.lit (.int k (a.tmod b))) else none:=by
 by_cases h:b=0<;>simp [h,bh,AVal.cq,eqGuard,binOp,Op.intDiv,runtimePanic,program,goPanic,cI,bind,Sem.bind,pure]
theorem A4:bh P .lss t x y (.lit (.int k a)) (.lit (.int k b))=some (.lit (.bool (decide (a<b)))):=by
 simp [bh,AVal.cq,eqGuard,binOp,Op.intCmp,cI,bind,Sem.bind,pure]
theorem A5:bh P .leq t x y (.lit (.int k a)) (.lit (.int k b))=some (.lit (.bool (decide (a<=b)))):=by
 simp [bh,AVal.cq,eqGuard,binOp,Op.intCmp,cI,bind,Sem.bind,pure]
theorem A6:bh P .gtr t x y (.lit (.int k a)) (.lit (.int k b))=some (.lit (.bool (decide (b<a)))):=by
 simp [bh,AVal.cq,eqGuard,binOp,Op.intCmp,cI,bind,Sem.bind,pure]
theorem A7:bh P .geq t x y (.lit (.int k a)) (.lit (.int k b))=some (.lit (.bool (decide (b<=a)))):=by
 simp [bh,AVal.cq,eqGuard,binOp,Op.intCmp,cI,bind,Sem.bind,pure]
theorem A8:bh P .eql t x y (.lit (.int k a)) (.lit (.int k b))=some (.lit (.bool (decide (a=b)))):=by
 simp [bh,AVal.cq,eqGuard,binOp,Op.intCmp,cI,bind,Sem.bind,pure];rfl
theorem A9:bh P .neq t x y (.lit (.int k a)) (.lit (.int k b))=some (.lit (.bool (!decide (a=b)))):=by
 simp [bh,AVal.cq,eqGuard,binOp,Op.intCmp,cI,bind,Sem.bind,pure];rfl
theorem IN (v:Bool):qg P .not (.lit (.bool v))=some (.lit (.bool (!v))):=rfl
theorem IP (H:AHeap)(s d:TypeId)(v:Value):jx P H s d (.lit v)=j9 P s d (.lit v):=rfl
theorem IQ (H:AHeap)(s d:TypeId)(c:List AVal):jx P H s d (.agg c)=j9 P s d (.agg c):=rfl
theorem IR {s d:TypeId}{k':IntKind}(hs:(P.underlying s).isSome=true)(hd:P.underlying d=some (.int k')):j9 P s d (.lit (.int k a))=some (.lit (.int k' (k'.wrap a))):=by
 obtain⟨ds,hs⟩:=Tw.1 hs;simp only[j9,AVal.cq];have:cI P (convert s d (.int k a))=some (.int k' (k'.wrap a)):=by
  simp [convert,underlying,program,hs,hd,cI,bind,Sem.bind,pure,Conv.intToInt]
 rw[this];rfl
end nums
def ext (H:AHeap)(L:List Blk):AHeap :=
 { get:=fun j=>if H.next<=j/\j<H.next+L.length then L[j - H.next]? else H.get j,next:=H.next+L.length }
theorem ext_nil (H:AHeap):ext H []=H:=by
 unfold ext;have:(fun j=>if H.next<=j/\j<H.next+([]:List Blk).length then ([]:List Blk)[j - H.next]? else H.get j)=H.get:=by
  funext j
  rw[SO];simp only[List.length_nil];omega
 rw[this];rfl
theorem bI (H:AHeap)(L:List Blk):(ext H L).next=H.next+L.length:=rfl
theorem sX (H:AHeap)(b:Blk):H.lay H.next b=some (ext H [b]):=by
 unfold AHeap.lay ext;rw[SQ rfl];congr 2
 funext j
 by_cases h:j=H.next
 ·subst h;simp
 ·rw[SO h,SO];simp only[List.length_cons,List.length_nil];omega
theorem Ba (H:AHeap)(L:List Blk)(b:Blk):(ext H L).lay (H.next+L.length) b=some (ext H (L++[b])):=by
 unfold AHeap.lay;rw[SQ (bI H L).symm];unfold ext;congr 2
 ·funext j
  simp only[List.length_append,List.length_cons,List.length_nil];by_cases h:j=H.next+L.length
  ·subst h;rw[SQ rfl,SQ (by omega),Va];simp
  ·rw[SO h];by_cases h2:H.next<=j/\j<H.next+L.length
   ·rw[SQ h2,SQ (by omega),SW (by omega)]
   ·rw[SO h2,SO (by omega)]
 ·simp only[List.length_append,List.length_cons,List.length_nil];omega
theorem Bc (H:AHeap)(L:List Blk)(i:Nat)(b:Blk)(h:L.length=i):(ext H L).lay (H.next+i) b=some (ext H (L++[b])):=by subst h;exact Ba H L b
theorem bB (H:AHeap)(L:List Blk)(i:Nat)(h:i<L.length):(ext H L).get (H.next+i)=L[i]?:=by
 unfold ext;simp only;rw[SQ (by omega),Va]
theorem dH (H:AHeap)(L:List Blk)(i:Nat)(h:i<H.next):(ext H L).get i=H.get i:=by
 unfold ext;simp only;rw[SO (by omega)]
theorem wX (H:AHeap)(L:List Blk)(i:Nat)(b:Blk)(h:i<L.length):(ext H L).upd (H.next+i) b=ext H (L.set i b):=by
 unfold ext AHeap.upd;simp only[SU];congr 1
 funext j
 by_cases hj:j=H.next+i
 ·subst hj;rw[SQ rfl,SQ (by omega),Va,S1 h]
 ·rw[SO hj];by_cases h2:H.next<=j/\j<H.next+L.length
  ·rw[SQ h2,SQ h2,Tb (by omega)]
  ·rw[SO h2,SO h2]
def qE (b:Option Blk)(gen:Nat):Option (TypeId × List AVal) :=
 match b with
 | some (.arr g e cells)=>if g=gen then some (e,cells) else none
 | _=>none
theorem IS (g gen:Nat)(e:TypeId)(cells:List AVal):qE (some (.arr g e cells)) gen=if g=gen then some (e,cells) else none:=rfl
theorem wY (H:AHeap)(L:List Blk)(i gen:Nat)(h:i<L.length):(ext H L).live (H.next+i) gen=qE L[i]? gen:=by
 unfold AHeap.live qE;rw[bB H L i h];rfl
theorem IT (H:AHeap)(b:Blk)(L:List Blk)(gen:Nat):(ext H (b :: L)).live H.next gen=qE (some b) gen:=wY H (b :: L) 0 gen (by simp)
theorem IU (H:AHeap)(c:Blk)(L:List Blk)(b:Blk):(ext H (c :: L)).upd H.next b=ext H (b :: L):=wX H (c :: L) 0 b (by simp)
end Go.Hx
namespace Go.Hx
variable {P:Program} {G:Nat->Option (List AVal)}
def qG (want:Bool):Option AVal->Option Bool
 | some (.lit (.bool b))=>some (b == want)
 | some (.lit _)=>some false
 | none=>some false
 | _=>none
theorem IV (want b:Bool):qG want (some (.lit (.bool b)))=some (b == want):=rfl
theorem IW (b:Bool):(b == true)=b:=by cases b<;>rfl
theorem IX (b:Bool):(b == false)=!b:=by cases b<;>rfl
theorem IY (b:Bool)(p q:Prop):gH (!b) p q=gH b q p:=by cases b<;>simp [gH]
theorem Bj (t:Bool)(p q:Prop):(if t=true then p else q)=gH t p q:=by cases t<;>simp [gH]
theorem Bk (all:Array Oper)(ρ:Env)(d:Option Tmp)(op:Op)(ty:TypeId)(pos:String)(aft:Array Edge)(j:Nat)(want:Bool):
  eK all ρ ⟨d,op,ty,pos,aft,some (j,want)⟩=qG want (((all[j]?).bind (·.dst)).map ρ):=by
 unfold eK;simp only;cases (all[j]?).bind (·.dst) with
 | none=>rfl
 | some d =>
  simp only[Option.map_some];cases ρ d with
  | lit v=>cases v<;>rfl
  | _=>rfl
section
variable {rd:Option Nat} {Q:AX->St->Prop} {s:St} {d:Option Tmp} {ty:TypeId} {pos:String} {aft:Array Edge} {g:Option (Nat × Bool)}
theorem IZ (all:Array Oper)(op:Op)(rest:List Oper)(j:Nat)(want:Bool):opsV P G rd Q all (⟨d,op,ty,pos,aft,some (j,want)⟩ :: rest) s =
  bd (qG want (((all[j]?).bind (·.dst)).map s.ρ)) fun t=>gH t (aU P G rd Q ⟨d,op,ty,pos,aft,some (j,want)⟩ (opsV P G rd Q all rest) s) (opsV P G rd Q all rest ⟨aI s.ρ d (.lit undef),s.H⟩):=by
 rw[Ic,Bk];exact sW fun _=>Bj ..
variable {all:Array Oper} {tail:St->Prop} {b i:Nat} {bs:List Nat} {acc:List (Nat × FP)} {K:FP->St->Prop}
theorem I0 (bs:List Nat):dy P G all tail bs i acc [] s=tail s:=by cases bs<;>rfl
theorem I1 (op:Op)(rest:List Oper):dy P G all tail (b :: bs) i acc (⟨d,op,ty,pos,aft,none⟩ :: rest) s =
  cD P G ⟨d,op,ty,pos,aft,none⟩ (fun f s'=>fS b f acc/\dy P G all tail bs (i+1) (eU i f acc) rest s') s:=by
 simp [dy,eK,bd]
theorem I2 (op:Op)(rest:List Oper)(j:Nat)(want:Bool):dy P G all tail (b :: bs) i acc (⟨d,op,ty,pos,aft,some (j,want)⟩ :: rest) s =
  bd (qG want (((all[j]?).bind (·.dst)).map s.ρ)) fun t =>
   gH t (cD P G ⟨d,op,ty,pos,aft,some (j,want)⟩ (fun f s'=>fS b f acc/\dy P G all tail bs (i+1) (eU i f acc) rest s') s)
    (dy P G all tail bs (i+1) acc rest ⟨aI s.ρ d (.lit undef),s.H⟩):=by
 simp only[dy,Bk];exact sW fun _=>Bj ..
theorem I3 (fv:Operand)(args:Array Operand)(ats:Array TypeId):cD P G ⟨d,.call ⟨.value fv,args,ats⟩,ty,pos,aft,g⟩ K s =
  ∃ v rs,bO P G (ak G s.ρ fv) (args.toList.map (ak G s.ρ)) s.H v rs/\K ⟨[],rs⟩ ⟨aI s.ρ d v,s.H⟩:=(rfl)
abbrev QF:AX->St->Prop:=fun _ _=>False
theorem I4 (x:Operand):cD P G ⟨d,.move x,ty,pos,aft,g⟩ K s=aU P G none QF ⟨d,.move x,ty,pos,aft,g⟩ (K ⟨[],[]⟩) s:=(rfl)
theorem I5 (x:Operand):cD P G ⟨d,.assign x,ty,pos,aft,g⟩ K s=aU P G none QF ⟨d,.assign x,ty,pos,aft,g⟩ (K ⟨[],[]⟩) s:=(rfl)
theorem I6 (c x y:Operand):cD P G ⟨d,.pick c x y,ty,pos,aft,g⟩ K s=aU P G none QF ⟨d,.pick c x y,ty,pos,aft,g⟩ (K ⟨[],[]⟩) s:=(rfl)
theorem I7 (e:TypeId):cD P G ⟨d,.alloc e,ty,pos,aft,g⟩ K s=aU P G none QF ⟨d,.alloc e,ty,pos,aft,g⟩ (K ⟨[s.H.next],[]⟩) s:=(rfl)
theorem I9 (e:TypeId)(x:Operand):cD P G ⟨d,.box e x,ty,pos,aft,g⟩ K s=aU P G none QF ⟨d,.box e x,ty,pos,aft,g⟩ (K ⟨[s.H.next],[]⟩) s:=(rfl)
theorem Ja (t:TypeId)(p:Array (Nat × Operand)):cD P G ⟨d,.build t p,ty,pos,aft,g⟩ K s=aU P G none QF ⟨d,.build t p,ty,pos,aft,g⟩ (K ⟨[],[]⟩) s:=(rfl)
theorem Jb (t:TypeId)(l:Nat)(p:Array (Nat × Operand)):cD P G ⟨d,.buildSlice t l p,ty,pos,aft,g⟩ K s=aU P G none QF ⟨d,.buildSlice t l p,ty,pos,aft,g⟩ (K ⟨[s.H.next],[]⟩) s:=(rfl)
theorem Jc (t:TypeId)(x:Operand):cD P G ⟨d,.load t x,ty,pos,aft,g⟩ K s=aU P G none QF ⟨d,.load t x,ty,pos,aft,g⟩ (K ⟨[],aJ (ak G s.ρ x)⟩) s:=(rfl)
theorem Jd (t:TypeId)(x y:Operand):cD P G ⟨d,.store t x y,ty,pos,aft,g⟩ K s=aU P G none QF ⟨d,.store t x y,ty,pos,aft,g⟩ (K ⟨aJ (ak G s.ρ x),aJ (ak G s.ρ x)⟩) s:=(rfl)
theorem Je (x:Operand):cD P G ⟨d,.nilCheck x,ty,pos,aft,g⟩ K s=aU P G none QF ⟨d,.nilCheck x,ty,pos,aft,g⟩ (K ⟨[],aJ (ak G s.ρ x)⟩) s:=(rfl)
theorem Jf (op:BinOp)(t:TypeId)(x y:Operand)(u:TypeId):cD P G ⟨d,.binOp op t x y u,ty,pos,aft,g⟩ K s=bd (bh P op t x y (ak G s.ρ x) (ak G s.ρ y)) fun v=>K ⟨[],[]⟩ ⟨aI s.ρ d v,s.H⟩:=by
 simp only[cD,aj,fT];rfl
theorem Jg (op:UnOp)(t:TypeId)(x:Operand):cD P G ⟨d,.unOp op t x,ty,pos,aft,g⟩ K s=aU P G none QF ⟨d,.unOp op t x,ty,pos,aft,g⟩ (K ⟨[],[]⟩) s:=(rfl)
theorem Jh (t u:TypeId)(x:Operand):cD P G ⟨d,.convert t u x,ty,pos,aft,g⟩ K s=aU P G none QF ⟨d,.convert t u x,ty,pos,aft,g⟩ (K ⟨[],aJ (ak G s.ρ x)⟩) s:=(rfl)
theorem Ji (t:TypeId)(x:Operand):cD P G ⟨d,.makeInterface t x,ty,pos,aft,g⟩ K s=aU P G none QF ⟨d,.makeInterface t x,ty,pos,aft,g⟩ (K ⟨[],[]⟩) s:=(rfl)
theorem Jj (f:Fn)(x y:Array Operand):cD P G ⟨d,.makeFunc f x y,ty,pos,aft,g⟩ K s=aU P G none QF ⟨d,.makeFunc f x y,ty,pos,aft,g⟩ (K ⟨[],[]⟩) s:=(rfl)
theorem Jk (t:TypeId)(x y:Operand):cD P G ⟨d,.makeSlice t x y,ty,pos,aft,g⟩ K s=aU P G none QF ⟨d,.makeSlice t x y,ty,pos,aft,g⟩ (K ⟨[s.H.next],[]⟩) s:=(rfl)
theorem Jl (t:TypeId)(x:Operand)(lo hi mx:Option Operand):cD P G ⟨d,.slice t x lo hi mx,ty,pos,aft,g⟩ K s=aU P G none QF ⟨d,.slice t x lo hi mx,ty,pos,aft,g⟩ (K ⟨[],aJ (ak G s.ρ x)⟩) s:=(rfl)
theorem Jm (t:TypeId)(x:Operand)(f:Nat):cD P G ⟨d,.fieldAddr t x f,ty,pos,aft,g⟩ K s=aU P G none QF ⟨d,.fieldAddr t x f,ty,pos,aft,g⟩ (K ⟨[],aJ (ak G s.ρ x)⟩) s:=(rfl)
theorem Jn (t:TypeId)(x:Operand)(f:Nat):cD P G ⟨d,.field t x f,ty,pos,aft,g⟩ K s=aU P G none QF ⟨d,.field t x f,ty,pos,aft,g⟩ (K ⟨[],[]⟩) s:=(rfl)
theorem Jo (t:TypeId)(x y:Operand):cD P G ⟨d,.indexAddr t x y,ty,pos,aft,g⟩ K s=aU P G none QF ⟨d,.indexAddr t x y,ty,pos,aft,g⟩ (K ⟨[],aJ (ak G s.ρ x)⟩) s:=(rfl)
theorem Jp (t:TypeId)(x y:Operand):cD P G ⟨d,.index t x y,ty,pos,aft,g⟩ K s=aU P G none QF ⟨d,.index t x y,ty,pos,aft,g⟩ (K ⟨[],[]⟩) s:=(rfl)
theorem Jq (x:Operand)(f:Nat):cD P G ⟨d,.extract x f,ty,pos,aft,g⟩ K s=aU P G none QF ⟨d,.extract x f,ty,pos,aft,g⟩ (K ⟨[],[]⟩) s:=(rfl)
theorem Jr (f:Builtin)(args:Array Operand)(ats:Array TypeId):cD P G ⟨d,.call ⟨.builtin f,args,ats⟩,ty,pos,aft,g⟩ K s =
  aU P G none QF ⟨d,.call ⟨.builtin f,args,ats⟩,ty,pos,aft,g⟩ (K (iD P s.H.next f ats.toList (args.toList.map (ak G s.ρ)))) s:=rfl
end
theorem Js (v:Value):aJ (.lit v)=[]:=rfl
theorem Jt (n:Nat)(l:List AVal):aJ (.vec n l)=[]:=rfl
theorem Ju (l:List AVal)(o:Nat):aJ (.vptr l o)=[]:=rfl
theorem Jv (l:List AVal):aJ (.agg l)=[]:=rfl
theorem Jw (id g o l z:Nat):aJ (.own id g o l z)=[id]:=rfl
theorem Jx (id g o:Nat):aJ (.ptr id g o)=[id]:=rfl
theorem Jy (id g o l z:Nat):kf (.own id g o l z)=true:=rfl
theorem Jz (v:Value):kf (.lit v)=false:=rfl
theorem JA (n:Nat)(l:List AVal):kf (.vec n l)=false:=rfl
theorem JB (id:Nat)(t:TypeId)(x:AVal):iD P id .len [t] [x]=⟨[],jE P t x⟩:=rfl
theorem JC (id:Nat)(ts:List TypeId)(x y:AVal):iD P id .append ts [x,y]=if kf x=true then ⟨aJ x,aJ x++aJ y⟩ else ⟨[id],aJ y⟩:=by
 cases ts with
 | nil=>rfl
 | cons t ts=>cases ts<;>rfl
theorem JD (t:TypeId)(x:AVal)(h:aJ x=[]):jE P t x=[]:=by unfold jE;split<;>first|exact h|rfl
theorem JE (t:TypeId)(n:Nat)(l:List AVal):jE P t (.vec n l)=[]:=JD _ _ rfl
def mc (f f':FP):Prop:=(∀ r,r∈f.eff->r ∉ f'.rs)/\(∀ r,r∈f'.eff->r ∉ f.rs)
theorem JF (b:Nat)(f:FP):fS b f []=True:=by simp [fS]
theorem JG (b:Nat)(f:FP)(j:Nat)(f':FP)(acc:List (Nat × FP)):fS b f ((j,f') :: acc)=((b / 2 ^ j % 2=1\/mc f f')/\fS b f acc):=by
 simp only[fS,List.forall_mem_cons,Nat.testBit_eq_decide_div_mod_eq,UB,eq_iff_iff];refine and_congr ⟨fun h=>?_,fun h hb=>?_⟩ Iff.rfl
 ·by_cases hb:b / 2 ^ j % 2=1
  ·exact .inl hb
  ·exact .inr (h hb)
 ·rcases h with h|h
  ·exact absurd h hb
  ·exact h
theorem JH (b:Nat)(acc:List (Nat × FP)):fS b ⟨[],[]⟩ acc=True:=by
 simp [fS]
theorem JI (e r e' r':List Nat):mc ⟨e,r⟩ ⟨e',r'⟩=((∀ x,x∈e->x ∉ r')/\∀ x,x∈e'->x ∉ r):=rfl
theorem JJ (i:Nat)(acc:List (Nat × FP)):eU i ⟨[],[]⟩ acc=acc:=rfl
theorem JK (i x:Nat)(e r:List Nat)(acc:List (Nat × FP)):eU i ⟨x :: e,r⟩ acc=(i,⟨x :: e,r⟩) :: acc:=rfl
theorem JL (i x:Nat)(e r:List Nat)(acc:List (Nat × FP)):eU i ⟨e,x :: r⟩ acc=(i,⟨e,x :: r⟩) :: acc:=by cases e<;>rfl
theorem bO.mk {f:FuncId}{first cap args:List AVal}{H:AHeap}{v:AVal}{rs:List Nat}(hlt:∀ r,r∈rs->r<H.next)
  (h:∀ H2:AHeap,(∀ r,r∈rs->H2.get r=H.get r)->H.next<=H2.next->ae P G f (first++args++cap) H2 fun r H3=>r=.ret v/\H3=H2):bO P G (.clo f first cap) args H v rs :=
 ⟨hlt,fun H2 h1 h2=>aB.clo (h H2 h1 h2)⟩
theorem bO.pure {f:FuncId}{args:List AVal}{H:AHeap}{v:AVal}(h:∀ H2:AHeap,ae P G f args H2 fun r H3=>r=.ret v/\H3=H2):bO P G (.clo f [] []) args H v [] :=
 bO.mk (fun _ h=>by cases h) fun H2 _ _=>by simpa using h H2
theorem ae.pure {f:FuncId}{args:List AVal}{H:AHeap}{v:AVal}{K:ARes->AHeap->Prop}(h:∀ H2:AHeap,ae P G f args H2 fun r H3=>r=.ret v/\H3=H2)(hk:K (.ret v) H):ae P G f args H K :=
 (h H).mono fun r H3 ⟨h1,h2⟩=>by rw[h1,h2];exact hk
end Go.Hx
namespace Go.Hx
variable {P:Program} {G:Nat->Option (List AVal)} {H:AHeap}
def fH (H:AHeap)(x:AVal):Option AVal :=
 match x with
  | .vec len _=>some (.lit (.int .i64 len))
  | .own id gen _ len _=>(H.live id gen).map fun _=>.lit (.int .i64 len)
  | .lit (.slice none 0 0)=>some (.lit (.int .i64 0))
  | _=>none
def xa (x:AVal):Option AVal :=
 match x with
  | .lit (.string s)=>some (.lit (.int .i64 s.size))
  | _=>none
def qK (d:Option TypeDesc)(H:AHeap)(x:AVal):Option AVal :=
 match d with
 | some (.slice _)=>fH H x
 | some .string=>xa x
 | some (.array n _)=>some (.lit (.int .i64 n))
 | _=>none
theorem JU (t:TypeId)(x:AVal):kT P H t x=qK (P.underlying t) H x:=rfl
theorem o7 (e:TypeId)(x:AVal):qK (some (.slice e)) H x=fH H x:=rfl
theorem JV (x:AVal):qK (some .string) H x=xa x:=rfl
theorem JW (n:Nat)(e:TypeId)(x:AVal):qK (some (.array n e)) H x=some (.lit (.int .i64 n)):=rfl
theorem JX (n:Nat)(l:List AVal):fH H (.vec n l)=some (.lit (.int .i64 n)):=rfl
theorem Bq (id g o n z:Nat):fH H (.own id g o n z)=(H.live id g).map fun _=>.lit (.int .i64 n):=rfl
theorem JY:fH H (.lit (.slice none 0 0))=some (.lit (.int .i64 0)):=rfl
theorem JZ (s:ByteArray):xa (.lit (.string s))=some (.lit (.int .i64 s.size)):=rfl
def lg (d:Option TypeDesc)(n:Nat)(cells:List AVal)(off:Nat):Option AVal :=
 match d with
 | none=>none
 | some d=>if nZ d then (if off+n<=cells.length then some (.agg ((cells.drop off).take n)) else none) else cells[off]?
theorem J0 (t:TypeId)(cells:List AVal)(off:Nat):eH P t cells off=lg (P.underlying t) (P.cellsOf t) cells off:=rfl
theorem J1 (k:IntKind)(n:Nat)(cells:List AVal)(off:Nat):lg (some (.int k)) n cells off=cells[off]?:=rfl
theorem J2 (n:Nat)(cells:List AVal)(off:Nat):lg (some .bool) n cells off=cells[off]?:=rfl
theorem J3 (n:Nat)(cells:List AVal)(off:Nat):lg (some .string) n cells off=cells[off]?:=rfl
theorem J4 (e:TypeId)(n:Nat)(cells:List AVal)(off:Nat):lg (some (.slice e)) n cells off=cells[off]?:=rfl
theorem J5 (e:TypeId)(n:Nat)(cells:List AVal)(off:Nat):lg (some (.pointer e)) n cells off=cells[off]?:=rfl
theorem J6 (fs:Array Field)(n:Nat)(cells:List AVal)(off:Nat):lg (some (.struct fs)) n cells off=if off+n<=cells.length then some (.agg ((cells.drop off).take n)) else none:=rfl
theorem J7 (k:Nat)(e:TypeId)(n:Nat)(cells:List AVal)(off:Nat):lg (some (.array k e)) n cells off=if off+n<=cells.length then some (.agg ((cells.drop off).take n)) else none:=rfl
theorem J8 (cells vs:List AVal):setAt cells 0 vs=vs++cells.drop vs.length:=by simp [setAt]
theorem J9 (c:AVal)(cells vs:List AVal)(off:Nat):setAt (c :: cells) (off+1) vs=c :: setAt cells off vs:=by simp [setAt,Nat.succ_add]
theorem Ka (t:TypeId)(cells:List AVal)(off:Nat):eS P H t (.vptr cells off)=eH P t cells off:=rfl
theorem Kc (t:TypeId)(id gen off:Nat):eS P H t (.ptr id gen off)=(H.live id gen).bind fun ec=>eH P t ec.2 off:=by
 simp only[AHeap.live,eS];generalize H.get id=x;cases x with
 | none=>rfl
 | some b =>
  cases b with
  | arr g e cells =>
   simp only;by_cases hg:g=gen
   ·rw[SQ hg,SQ hg];rfl
   ·rw[SO hg,SO hg];rfl
  | _=>rfl
theorem Kd (t:TypeId)(id gen off:Nat)(v:AVal):gZ P H t (.ptr id gen off) v =
  (H.live id gen).bind fun ec=>if v.cells.length=P.cellsOf t/\v.cells.all AVal.one=true/\off+v.cells.length<=ec.2.length then some (H.upd id (.arr gen ec.1 (setAt ec.2 off v.cells))) else none:=by
 simp only[AHeap.live,gZ];generalize H.get id=x;cases x with
 | none=>rfl
 | some b =>
  cases b with
  | arr g e cells =>
   simp only;by_cases hg:g=gen
   ·subst hg;simp
   ·rw[SO hg,SO (fun h=>hg h.1)];rfl
  | _=>rfl
def te (H:AHeap)(c:Nat)(x:AVal)(i:Int):Option AVal :=
 match x with
 | .own id gen off len sz=>if 0<=i/\i<(len:Int)/\sz=c then (H.live id gen).map fun _=>.ptr id gen (off+i.toNat*c) else none
 | .vec len cells=>if 0<=i/\i<(len:Int)/\cells≠[] then some (.vptr cells (i.toNat*c)) else none
 | _=>none
def qL (H:AHeap)(c n:Nat)(x:AVal)(i:Int):Option AVal :=
 if 0<=i/\i<(n:Int) then
   match x with
   | .ptr id gen off=>(H.live id gen).map fun _=>.ptr id gen (off+i.toNat*c)
   | .vptr cells off=>some (.vptr cells (off+i.toNat*c))
   | _=>none
 else none
def tf (P:Program)(H:AHeap)(d:Option TypeDesc)(x:AVal)(i:Int):Option AVal :=
 match d with
 | some (.array n e)=>if (P.underlying e).isSome then qL H (P.cellsOf e) n x i else none
 | some (.slice e)=>if (P.underlying e).isSome then te H (P.cellsOf e) x i else none
 | _=>none
theorem Ke (t:TypeId)(x:AVal)(k:IntKind)(i:Int):oU P H t x (.lit (.int k i))=tf P H (P.underlying t) x i:=by
 simp only[oU,lW,tf];cases P.underlying t with
 | none=>rfl
 | some d =>
  cases d with
  | array n e =>
   simp only[qL];by_cases h:(P.underlying e).isSome=true
   ·simp only[h,and_true,if_true];rfl
   ·rw[SO h,SO (fun h'=>h h'.2.2)]
  | slice e=>rfl
  | _=>rfl
theorem Kf (e:TypeId)(x:AVal)(i:Int):tf P H (some (.slice e)) x i=if (P.underlying e).isSome=true then te H (P.cellsOf e) x i else none:=rfl
theorem Kg (n:Nat)(e:TypeId)(x:AVal)(i:Int):tf P H (some (.array n e)) x i=if (P.underlying e).isSome=true then qL H (P.cellsOf e) n x i else none:=rfl
theorem Kh (c n:Nat)(l:List AVal)(i:Int):te H c (.vec n l) i=if 0<=i/\i<(n:Int)/\l≠[] then some (.vptr l (i.toNat*c)) else none:=rfl
theorem Ki (c id g o n z:Nat)(i:Int):te H c (.own id g o n z) i=if 0<=i/\i<(n:Int)/\z=c then (H.live id g).map fun _=>.ptr id g (o+i.toNat*c) else none:=rfl
theorem Kj (c n:Nat)(l:List AVal)(o:Nat)(i:Int):qL H c n (.vptr l o) i=if 0<=i/\i<(n:Int) then some (.vptr l (o+i.toNat*c)) else none:=rfl
theorem Kk (c n id g o:Nat)(i:Int):qL H c n (.ptr id g o) i=if 0<=i/\i<(n:Int) then (H.live id g).map fun _=>.ptr id g (o+i.toNat*c) else none:=rfl
def qM (H : AHeap) (c : Nat) (x : AVal) (lo hi : Option AVal) : Option AVal :=
   match x with
   | .own id gen off len sz=>if sz=c then (H.live id gen).bind fun _=>(bR hi len len).bind fun h=>(bR lo 0 h).map fun l=>.own id gen (off+l*sz) (h - l) sz else none
   | .vec len cells=>if cells.length=len*c then (bR hi len len).bind fun h=>(bR lo 0 h).map fun l=>.vec (h - l) ((cells.drop (l*c)).take ((h - l)*c)) else none
   | .lit (.slice none 0 0)=>(bR hi 0 0).bind fun h=>(bR lo 0 h).map fun _=>.lit (.slice none 0 0)
   | _=>none
def xc (H : AHeap) (c n : Nat) (x : AVal) (lo hi : Option AVal) : Option AVal :=
   match x with
   | .ptr id gen off =>
    match H.live id gen with
    | some (_,cells) =>
     if off+n*c<=cells.length then
      (bR hi n n).bind fun h=>(bR lo 0 h).map fun l=>.own id gen (off+l*c) (h - l) c
     else none
    | none=>none
   | .vptr cells off=>if off+n*c≤cells.length then
      (bR hi n n).bind fun h=>(bR lo 0 h).map fun l=>.vec (h - l) ((cells.drop (off+l*c)).take ((h - l)*c))
     else none
   | _=>none
def xd (x:AVal)(lo hi:Option AVal):Option AVal :=
  match x with
  | .lit (.string s)=>(bR hi s.size s.size).bind fun h=>(bR lo 0 h).map fun l=>.lit (.string (s.extract l h))
  | _=>none
def ti (P:Program)(H:AHeap)(d:Option TypeDesc)(x:AVal)(lo hi:Option AVal):Option AVal :=
 match d with
 | some (.array n e)=>if (P.underlying e).isSome then xc H (P.cellsOf e) n x lo hi else none
 | some (.slice e)=>if (P.underlying e).isSome then qM H (P.cellsOf e) x lo hi else none
 | some .string=>xd x lo hi
 | _=>none
theorem Kl (t:TypeId)(x:AVal)(lo hi:Option AVal):kS P H t x lo hi=ti P H (P.underlying t) x lo hi:=rfl
theorem Km (e:TypeId)(x:AVal)(lo hi:Option AVal):ti P H (some (.slice e)) x lo hi=if (P.underlying e).isSome=true then qM H (P.cellsOf e) x lo hi else none:=rfl
theorem Kn (n:Nat)(e:TypeId)(x:AVal)(lo hi:Option AVal):ti P H (some (.array n e)) x lo hi=if (P.underlying e).isSome=true then xc H (P.cellsOf e) n x lo hi else none:=rfl
theorem Ko (x:AVal)(lo hi:Option AVal):ti P H (some .string) x lo hi=xd x lo hi:=rfl
theorem Kp (c id g o n z:Nat)(lo hi:Option AVal):qM H c (.own id g o n z) lo hi=if z=c then (H.live id g).bind fun _=>(bR hi n n).bind fun h=>(bR lo 0 h).map fun l=>.own id g (o+l*z) (h - l) z else none:=rfl
theorem Kq (c n:Nat)(cells:List AVal)(lo hi:Option AVal):qM H c (.vec n cells) lo hi=if cells.length=n*c then (bR hi n n).bind fun h=>(bR lo 0 h).map fun l=>.vec (h - l) ((cells.drop (l*c)).take ((h - l)*c)) else none:=rfl
theorem Kr (c:Nat)(lo hi:Option AVal):qM H c (.lit (.slice none 0 0)) lo hi=(bR hi 0 0).bind fun h=>(bR lo 0 h).map fun _=>.lit (.slice none 0 0):=rfl
theorem Ks (c n : Nat) (cells : List AVal) (off : Nat) (lo hi : Option AVal) : xc H c n (.vptr cells off) lo hi=if off+n*c≤cells.length then
      (bR hi n n).bind fun h=>(bR lo 0 h).map fun l=>.vec (h - l) ((cells.drop (off+l*c)).take ((h - l)*c)) else none:=rfl
theorem Kt (s:ByteArray)(lo hi:Option AVal):xd (.lit (.string s)) lo hi=(bR hi s.size s.size).bind fun h=>(bR lo 0 h).map fun l=>.lit (.string (s.extract l h)):=rfl
theorem Ku (d m:Nat):bR none d m=some d:=rfl
theorem Kv (k:IntKind)(i:Int)(d m:Nat):bR (some (.lit (.int k i))) d m=if 0<=i/\i<=(m:Int) then some i.toNat else none:=rfl
theorem Kw (sz n:Nat)(l:List AVal):cw H sz (.vec n l)=if l.length=n*sz then some (n,l) else none:=rfl
theorem qN (sz id g o n z:Nat):cw H sz (.own id g o n z)=if z=sz then (H.live id g).map fun x=>(n,(x.2.drop o).take (n*sz)) else none:=rfl
theorem xe (sz:Nat):cw H sz (.lit (.slice none 0 0))=some (0,[]):=rfl
def tj (P:Program)(H:AHeap)(id:Nat)(d0 d1:Option TypeDesc)(s x:AVal):Option (AVal × AHeap) :=
 match d0,d1 with
 | some (.slice e),some (.slice _)=>(bE P e).bind fun _=>(cw H (P.cellsOf e) x).bind fun nx =>
    match s with
    | .lit (.slice none 0 0) =>
     if nx.1=0 then some (s,H)
     else if nx.1*P.bytesOf e<=2 ^ 46/\nx.1<=2 ^ 46 then (H.lay id (.arr 0 e nx.2)).map fun H'=>(.own id 0 0 nx.1 (P.cellsOf e),H')
     else none
    | .own id' gen off len sz =>
     (H.live id' gen).bind fun ec =>
      if ec.1=e/\sz=P.cellsOf e/\off+len*sz=ec.2.length/\(len+nx.1)*P.bytesOf e<=2 ^ 46/\len+nx.1<=2 ^ 46/\nx.2.all AVal.one=true then
       if nx.1=0 then some (s,H)
       else some (.own id' (gen+1) 0 (len+nx.1) sz,H.upd id' (.arr (gen+1) e (ec.2.drop off++nx.2)))
      else none
    | _=>none
 | _,_=>none
theorem di (id:Nat)(t u:TypeId)(s x:AVal):bf P H id t u s x=tj P H id (P.underlying t) (P.underlying u) s x:=by
 unfold bf tj;cases P.underlying t with
 | none=>rfl
 | some d =>
  cases d with
  | slice e =>
   cases P.underlying u with
   | none=>rfl
   | some d'=>cases d'<;>rfl
  | _=>rfl
theorem Kx (id:Nat)(e u:TypeId)(x:AVal):tj P H id (some (.slice e)) (some (.slice u)) (.lit (.slice none 0 0)) x=(bE P e).bind fun _=>(cw H (P.cellsOf e) x).bind fun nx =>
  if nx.1=0 then some (.lit (.slice none 0 0),H) else if nx.1*P.bytesOf e<=2 ^ 46/\nx.1<=2 ^ 46 then (H.lay id (.arr 0 e nx.2)).map fun H'=>(.own id 0 0 nx.1 (P.cellsOf e),H') else none:=rfl
theorem Ky (id:Nat)(e u:TypeId)(x:AVal)(id' gen off len sz:Nat):tj P H id (some (.slice e)) (some (.slice u)) (.own id' gen off len sz) x=(bE P e).bind fun _=>(cw H (P.cellsOf e) x).bind fun nx =>
  (H.live id' gen).bind fun ec =>
      if ec.1=e/\sz=P.cellsOf e/\off+len*sz=ec.2.length/\(len+nx.1)*P.bytesOf e<=2 ^ 46/\len+nx.1<=2 ^ 46/\nx.2.all AVal.one=true then
       if nx.1=0 then some (.own id' gen off len sz,H)
       else some (.own id' (gen+1) 0 (len+nx.1) sz,H.upd id' (.arr (gen+1) e (ec.2.drop off++nx.2)))
      else none:=rfl
def Br (P:Program)(H:AHeap)(d0:Option TypeDesc)(d x:AVal):Option (AVal × AHeap) :=
 match d0 with
 | some (.slice e) =>
  if (P.underlying e).isSome then
   (cw H (P.cellsOf e) x).bind fun nx =>
    match d with
    | .own id gen off len sz =>
     (H.live id gen).bind fun ec =>
      if sz=P.cellsOf e/\off+len*sz<=ec.2.length/\nx.2.all AVal.one=true then
       some (.lit (.int .i64 (min nx.1 len:Nat)),H.upd id (.arr gen ec.1 (setAt ec.2 off (nx.2.take (min nx.1 len*sz)))))
      else none
    | _=>none
  else none
 | _=>none
theorem Kz (t:TypeId)(d x:AVal):j7 P H t d x=Br P H (P.underlying t) d x:=rfl
theorem KA (e : TypeId) (id gen off len sz : Nat) (x : AVal) : Br P H (some (.slice e)) (.own id gen off len sz) x=if (P.underlying e).isSome=true then
   (cw H (P.cellsOf e) x).bind fun nx=>(H.live id gen).bind fun ec =>
      if sz=P.cellsOf e/\off+len*sz<=ec.2.length/\nx.2.all AVal.one=true then
       some (.lit (.int .i64 (min nx.1 len:Nat)),H.upd id (.arr gen ec.1 (setAt ec.2 off (nx.2.take (min nx.1 len*sz)))))
      else none
   else none:=rfl
def xf (P:Program)(H:AHeap)(id:Nat)(d:Option TypeDesc)(l c:AVal):Option (AVal × AHeap) :=
 match d,l,c with
 | some (.slice e),.lit (.int _ l),.lit (.int _ c) =>
  if 0<=l/\l<=c/\c*P.bytesOf e<=2 ^ 46/\c<=2 ^ 46 then
   (js P e l.toNat).bind fun cells=>(H.lay id (.arr 0 e cells)).map fun H'=>(.own id 0 0 l.toNat (P.cellsOf e),H')
  else none
 | _,_,_=>none
theorem KB (id:Nat)(t:TypeId)(l c:AVal):iV P H id t l c=xf P H id (P.underlying t) l c:=by
 unfold iV xf;cases P.underlying t with
 | none=>rfl
 | some d=>rfl
theorem KC (id : Nat) (e : TypeId) (k k' : IntKind) (l c : Int) : xf P H id (some (.slice e)) (.lit (.int k l)) (.lit (.int k' c))=if 0≤l∧l≤c∧c*P.bytesOf e≤2 ^ 46∧c≤2 ^ 46 then
   (js P e l.toNat).bind fun cells=>(H.lay id (.arr 0 e cells)).map fun H'=>(.own id 0 0 l.toNat (P.cellsOf e),H')
  else none:=rfl
theorem KD (e:TypeId)(n:Nat):js P e n=(bE P e).map fun z=>(List.replicate n z).flatten:=rfl
theorem KE (n:Nat)(v:AVal):(List.replicate n [v]).flatten=List.replicate n v:=by
 induction n with
 | zero=>rfl
 | succ n ih=>rw[TZ,List.flatten_cons,ih,TZ];rfl
def Bs (P:Program)(H:AHeap)(id:Nat)(d:Option TypeDesc)(len:Nat)(parts:List (Nat × AVal)):Option (AVal × AHeap) :=
 match d with
 | some (.slice e) =>
  if len*P.cellsOf e<=2 ^ 24 then
   (js P e len).bind fun z=>(eI (fun i=>some (i*P.cellsOf e,P.cellsOf e)) z parts).bind fun cells =>
    (H.lay id (.arr 0 e cells)).map fun H'=>(.own id 0 0 len (P.cellsOf e),H')
  else none
 | _=>none
theorem KG (id:Nat)(t:TypeId)(len:Nat)(parts:List (Nat × AVal)):jv P H id t len parts=Bs P H id (P.underlying t) len parts:=rfl
theorem KH (id : Nat) (e : TypeId) (len : Nat) (parts : List (Nat × AVal)) : Bs P H id (some (.slice e)) len parts=if len*P.cellsOf e≤2 ^ 24 then
   (js P e len).bind fun z=>(eI (fun i=>some (i*P.cellsOf e,P.cellsOf e)) z parts).bind fun cells =>
    (H.lay id (.arr 0 e cells)).map fun H'=>(.own id 0 0 len (P.cellsOf e),H')
  else none:=rfl
def xg (P:Program)(t:TypeId)(d:Option TypeDesc)(parts:List (Nat × AVal)):Option AVal :=
 (bE P t).bind fun z =>
  match d with
  | some (.struct _)=>(iU P t).bind fun pl=>(eI (fun i=>pl[i]?) z parts).map .agg
  | some (.array _ e)=>if (P.underlying e).isSome then (eI (fun i=>some (i*P.cellsOf e,P.cellsOf e)) z parts).map .agg else none
  | _=>none
theorem KI (t:TypeId)(parts:List (Nat × AVal)):oz P t parts=xg P t (P.underlying t) parts:=rfl
theorem KJ (t:TypeId)(fs:Array Field)(parts:List (Nat × AVal)):xg P t (some (.struct fs)) parts=(bE P t).bind fun z=>(iU P t).bind fun pl=>(eI (fun i=>pl[i]?) z parts).map .agg:=rfl
theorem KK (t:TypeId)(n:Nat)(e:TypeId)(parts:List (Nat × AVal)):xg P t (some (.array n e)) parts=(bE P t).bind fun z=>if (P.underlying e).isSome=true then (eI (fun i=>some (i*P.cellsOf e,P.cellsOf e)) z parts).map .agg else none:=rfl
theorem KL (pl:Nat->Option (Nat × Nat))(cells:List AVal):eI pl cells []=some cells:=rfl
theorem KM (pl:Nat->Option (Nat × Nat))(cells:List AVal)(i:Nat)(v:AVal)(rest:List (Nat × AVal)):eI pl cells ((i,v) :: rest)=(pl i).bind fun os =>
  if v.cells.length=os.2/\os.1+v.cells.length<=cells.length then eI pl (setAt cells os.1 v.cells) rest else none:=by
 simp only[eI];cases pl i<;>rfl
theorem KN (k:IntKind)(n:Int):(AVal.lit (.int k n)).cells=[.lit (.int k n)]:=rfl
theorem KO (b:Bool):(AVal.lit (.bool b)).cells=[.lit (.bool b)]:=rfl
theorem KP (s:ByteArray):(AVal.lit (.string s)).cells=[.lit (.string s)]:=rfl
theorem KR (a:Option Addr)(n c:Nat):(AVal.lit (.slice a n c)).cells=[.lit (.slice a n c)]:=rfl
theorem KS (l:List AVal):(AVal.agg l).cells=l:=rfl
theorem KT (n:Nat)(l:List AVal):(AVal.vec n l).cells=[.vec n l]:=rfl
theorem KU (a b c d e:Nat):(AVal.own a b c d e).cells=[.own a b c d e]:=rfl
theorem KV (a b c:Nat):(AVal.ptr a b c).cells=[.ptr a b c]:=rfl
theorem KW (k:IntKind)(n:Int):(AVal.lit (.int k n)).one=true:=rfl
theorem KX (b:Bool):(AVal.lit (.bool b)).one=true:=rfl
theorem KY (s:ByteArray):(AVal.lit (.string s)).one=true:=rfl
theorem KZ (a:Option Addr)(n c:Nat):(AVal.lit (.slice a n c)).one=true:=rfl
theorem K0 (n:Nat)(l:List AVal):(AVal.vec n l).one=true:=rfl
theorem K2 (a b c d e:Nat):(AVal.own a b c d e).one=true:=rfl
theorem K3 (a b c:Nat):(AVal.ptr a b c).one=true:=rfl
def aa (n:Int):AVal:=.lit (.int .i64 n)
def ints (l:List Int):List AVal:=l.map aa
def af (l:List Int):AVal:=.vec l.length (ints l)
theorem aP (l:List Int):(ints l).length=l.length:=SZ ..
theorem gJ (l:List Int)(i:Nat):(ints l)[i]?=(l[i]?).map aa:=List.getElem?_map ..
theorem ta (l:List Int):ints l=[]↔l=[]:=List.map_eq_nil_iff
end Go.Hx
namespace Go.Hx
variable {P:Program} {G:Nat->Option (List AVal)} {Γ Γ':aC} {H H':AHeap} {w w':World}
inductive Below (n:Nat):AVal->Prop
 | lit (v:Value):Below n (.lit v)
 | vec {len:Nat} {cells:List AVal} (h:∀ i (h:i<cells.length),Below n cells[i]):Below n (.vec len cells)
 | vptr {off:Nat} {cells:List AVal} (h:∀ i (h:i<cells.length),Below n cells[i]):Below n (.vptr cells off)
 | agg {cells:List AVal} (h:∀ i (h:i<cells.length),Below n cells[i]):Below n (.agg cells)
 | tup {cells:List AVal} (h:∀ i (h:i<cells.length),Below n cells[i]):Below n (.tup cells)
 | clo {f:FuncId} {a b:List AVal} (h1:∀ i (h:i<a.length),Below n a[i]) (h2:∀ i (h:i<b.length),Below n b[i]):Below n (.clo f a b)
 | own {id g o l z:Nat} (h:id<n):Below n (.own id g o l z)
 | ptr {id g o:Nat} (h:id<n):Below n (.ptr id g o)
 | yld {id:Nat} (h:id<n):Below n (.yld id)
theorem RelV.qH {v:AVal}{cv:Value}(h:RelV P Γ H w v cv):Below H.next v:=by
 induction h with
 | lit v=>exact .lit v
 | vec0 a cap=>exact .vec fun i h=>absurd h (S7 _)
 | vec hb hlt hlen hcs hcell hrel ih=>exact .vec fun i h=>ih i h (by omega)
 | own h=>exact .own h.1
 | ptr h=>exact .ptr h.1
 | vptr hb hlt hcs hcell hrel ih=>exact .vptr fun i h=>ih i h (by omega)
 | agg hcs hrel ih=>exact .agg fun i h=>ih i h (by omega)
 | tup hcs hrel ih=>exact .tup fun i h=>ih i h (by omega)
 | clo hfs hcs hf hc ih1 ih2=>exact .clo (fun i h=>ih1 i h (by omega)) fun i h=>ih2 i h (by omega)
 | yld h=>exact .yld h.1
def JM (n:Nat):Blk->Prop
 | .arr _ _ cells=>∀ i (h:i<cells.length),Below n cells[i]
 | .loop _ _ m env _ _ _=>∀ t,t<m->Below n (env t)
 | .mp _=>True
 | .rsv=>True
structure Clo (H:AHeap):Prop where
 lt:∀ id b,H.get id=some b->id<H.next
 below:∀ id b,H.get id=some b->JM H.next b
theorem RelH.clo (R:RelH P G Γ H w):Clo H:=by
 refine⟨fun id b h=>R.next id b h,fun id b h=>?_⟩;cases b with
 | rsv=>trivial
 | mp=>trivial
 | arr g e cells =>
  intro i hi;have h1:=R.arr id g e cells h;split at h1
  ·obtain⟨c,_,_,_,h5⟩:=h1;obtain⟨cv,_,h6⟩:=h5 i hi;exact h6.qH
  ·subst h1;exact absurd hi (S7 _)
 | loop st pend n env ps asg body =>
  intro t ht;obtain⟨b,r,_,_,_,_,_,_,_,h8,h9⟩:=R.loop id st pend n env ps asg body h;exact(h9 t (by omega)).qH
inductive Fz (S:Nat->Prop)(H:AHeap)(nx:Nat):AVal->AVal->Prop
 | lit (v:Value):Fz S H nx (.lit v) (.lit v)
 | vec {len:Nat} {c c':List AVal} (hl:c'.length=c.length) (h:∀ i (h:i<c.length) (h':i<c'.length),Fz S H nx c[i] c'[i]):Fz S H nx (.vec len c) (.vec len c')
 | vptr {off:Nat} {c c':List AVal} (hl:c'.length=c.length) (h:∀ i (h:i<c.length) (h':i<c'.length),Fz S H nx c[i] c'[i]):Fz S H nx (.vptr c off) (.vptr c' off)
 | agg {c c':List AVal} (hl:c'.length=c.length) (h:∀ i (h:i<c.length) (h':i<c'.length),Fz S H nx c[i] c'[i]):Fz S H nx (.agg c) (.agg c')
 | tup {c c':List AVal} (hl:c'.length=c.length) (h:∀ i (h:i<c.length) (h':i<c'.length),Fz S H nx c[i] c'[i]):Fz S H nx (.tup c) (.tup c')
 | clo {f:FuncId} {a a' b b':List AVal} (ha:a'.length=a.length) (hb:b'.length=b.length) (h1:∀ i (h:i<a.length) (h':i<a'.length),Fz S H nx a[i] a'[i]) (h2:∀ i (h:i<b.length) (h':i<b'.length),Fz S H nx b[i] b'[i]):Fz S H nx (.clo f a b) (.clo f a' b')
 | own {id g o l z:Nat} (h:id<nx) (hs:¬ S id):Fz S H nx (.own id g o l z) (.own id g o l z)
 | ptr {id g o:Nat} (h:id<nx) (hs:¬ S id):Fz S H nx (.ptr id g o) (.ptr id g o)
 | yld {id:Nat} (h:id<nx) (hs:¬ S id):Fz S H nx (.yld id) (.yld id)
 | deadOwn {id g o l z:Nat} (h:id<nx) (hs:S id):Fz S H nx (.own id g o l z) (.own id g o l z)
 | deadPtr {id g o:Nat} (h:id<nx) (hs:S id):Fz S H nx (.ptr id g o) (.ptr id g o)
 | deadYld {id:Nat} (h:id<nx) (hs:S id):Fz S H nx (.yld id) (.yld id)
 | nil:Fz S H nx (.lit (.slice none 0 0)) (.vec 0 [])
 | frz {id g o l z:Nat} {e:TypeId} {cells c':List AVal} (hs:S id) (hg:H.get id=some (.arr g e cells)) (hl:c'.length=l*z)
   (h:∀ i (h:i<l*z) (h2:o+i<cells.length) (h':i<c'.length),Fz S H nx cells[o+i] c'[i]):Fz S H nx (.own id g o l z) (.vec l c')
 | pfrz {id g o:Nat} {e:TypeId} {cells c':List AVal} (hs:S id) (hg:H.get id=some (.arr g e cells)) (hne:cells≠[]) (hl:c'.length=cells.length)
   (h:∀ i (h:i<cells.length) (h':i<c'.length),Fz S H nx cells[i] c'[i]):Fz S H nx (.ptr id g o) (.vptr c' o)
theorem Fz.refl {S:Nat->Prop}{H:AHeap}{nx:Nat}{v:AVal}(h:Below nx v)(hs:∀ id,id<nx->¬ S id):Fz S H nx v v:=by
 induction h with
 | lit v=>exact .lit v
 | vec _ ih=>exact .vec rfl fun i h _=>ih i h
 | vptr _ ih=>exact .vptr rfl fun i h _=>ih i h
 | agg _ ih=>exact .agg rfl fun i h _=>ih i h
 | tup _ ih=>exact .tup rfl fun i h _=>ih i h
 | clo _ _ ih1 ih2=>exact .clo rfl rfl (fun i h _=>ih1 i h) fun i h _=>ih2 i h
 | own h=>exact .own h (hs _ h)
 | ptr h=>exact .ptr h (hs _ h)
 | yld h=>exact .yld h (hs _ h)
def Bl (S:Nat->Prop)(H:AHeap)(nx:Nat):Blk->Blk->Prop
 | .arr g e c,.arr g' e' c'=>g'=g/\e'=e/\c'.length=c.length/\∀ i (_:i<c.length) (_:i<c'.length),Fz S H nx c[i] c'[i]
 | .loop st pend n env ps asg body,.loop st' pend' n' env' ps' asg' body'=>st'=st/\pend'=pend/\n'=n/\env'=env/\ps'=ps/\asg'=asg/\body'=body/\∀ t,t<n->Fz S H nx (env t) (env t)
 | .mp es,.mp es'=>es'=es
 | .rsv,.rsv=>True
 | _,_=>False
structure FzH (S:Nat->Prop)(H H':AHeap):Prop where
 gone:∀ id,S id->H'.get id=none
 kept:∀ id b,¬ S id->H.get id=some b->id<H'.next/\∃ b',H'.get id=some b'/\Bl S H H'.next b b'
 none:∀ id,¬ S id->H.get id=none->H'.get id=none
open Classical in
noncomputable def eV (S:Nat->Prop)(Γ:aC):aC:=fun id=>if S id then none else Γ id
theorem iE {S:Nat->Prop}{id:Nat}(h:¬ S id):eV S Γ id=Γ id:=by simp [eV,h]
theorem kg {S:Nat->Prop}{id:Nat}{x:Nat × Nat × Nat}(h:eV S Γ id=some x):¬ S id/\Γ id=some x:=by
 unfold eV at h;split at h
 ·cases h
 ·exact⟨by assumption,h⟩
theorem s9 {S:Nat->Prop}{b:Nat}(h:(eV S Γ).fD b):Γ.fD b:=by
 obtain⟨id,base,n,h⟩:=h;exact⟨id,base,n,(kg h).2⟩
theorem FzH.back {S:Nat->Prop}(F:FzH S H H'){id:Nat}{b':Blk}(h:H'.get id=some b'):¬ S id/\∃ b,H.get id=some b/\Bl S H H'.next b b'/\id<H'.next:=by
 have hs:¬ S id:=fun hs=>by rw[F.gone id hs]at h;cases h
 refine⟨hs,?_⟩;cases hg:H.get id with
 | none=>rw[F.none id hs hg]at h;cases h
 | some b =>
  obtain⟨h1,b1,h2,h3⟩:=F.kept id b hs hg;rw[h]at h2;cases h2;exact⟨b,rfl,h3,h1⟩
theorem Fz.sound {S:Nat->Prop}(R:RelH P G Γ H w)(F:FzH S H H'){v v':AVal}(hf:Fz S H H'.next v v'):∀ {cv:Value},RelV P Γ H w v cv->RelV P (eV S Γ) H' w v' cv:=by
 induction hf with
 | lit v=>intro cv h;cases h;exact .lit _
 | nil=>intro cv h;cases h;exact .vec0 none 0
 | deadOwn hlt hs =>
  intro cv h;cases h with
  | own h=>exact .own ⟨hlt,h.2.1,fun hr=>(by rw[F.gone _ hs]at hr;cases hr),fun _ _ _ hg=>(by rw[F.gone _ hs]at hg;cases hg)⟩
 | deadPtr hlt hs =>
  intro cv h;cases h with
  | ptr h=>exact .ptr ⟨hlt,h.2.1,fun hr=>(by rw[F.gone _ hs]at hr;cases hr),fun _ _ _ hg=>(by rw[F.gone _ hs]at hg;cases hg)⟩
 | deadYld hlt hs =>
  intro cv h;cases h with
  | yld h=>exact .yld ⟨hlt,h.2.1,fun hr=>(by rw[F.gone _ hs]at hr;cases hr),fun _ _ _ _ _ _ _ hg=>(by rw[F.gone _ hs]at hg;cases hg),fun _ hg=>(by rw[F.gone _ hs]at hg;cases hg)⟩
 | vec hl hc ih =>
  intro cv h;cases h with
  | vec0 a cap =>
   rename_i c';have:c'=[]:=SY hl;subst this;exact .vec0 a cap
  | vec hb hlt hlen hcs hcell hrel=>exact .vec (fun h=>hb (s9 h)) hlt hlen (by omega) hcell fun i h1 h2=>ih i (by omega) h1 (hrel i (by omega) h2)
 | vptr hl hc ih =>
  intro cv h;cases h with
  | vptr hb hlt hcs hcell hrel=>exact .vptr (fun h=>hb (s9 h)) hlt (by omega) hcell fun i h1 h2=>ih i (by omega) h1 (hrel i (by omega) h2)
 | agg hl hc ih =>
  intro cv h;cases h with
  | agg hcs hrel=>exact .agg (by omega) fun i h1 h2=>ih i (by omega) h1 (hrel i (by omega) h2)
 | tup hl hc ih =>
  intro cv h;cases h with
  | tup hcs hrel=>exact .tup (by omega) fun i h1 h2=>ih i (by omega) h1 (hrel i (by omega) h2)
 | clo ha hb h1 h2 ih1 ih2 =>
  intro cv h;cases h with
  | clo hfs hcs hf hc=>exact .clo (by omega) (by omega) (fun i a b=>ih1 i (by omega) a (hf i (by omega) b)) fun i a b=>ih2 i (by omega) a (hc i (by omega) b)
 | own hlt hs =>
  intro cv h;cases h with
  | own h =>
   obtain⟨h1,h2,h0,h3⟩:=h;refine .own ⟨hlt,h2,fun hr=>?_,fun g' e' cells' hg'=>?_⟩
   ·obtain⟨_,b,hb,hfb,_⟩:=F.back hr;cases b with
    | rsv=>exact h0 hb
    | _=>exact hfb.elim
   ·obtain⟨_,b,hb,hfb,_⟩:=F.back hg';cases b with
    | arr g e cells =>
     obtain⟨rfl,rfl,hlen,_⟩:=hfb;have:=h3 _ _ _ hb;rw[iE hs,hlen];exact this
    | _=>exact hfb.elim
 | ptr hlt hs =>
  intro cv h;cases h with
  | ptr h =>
   obtain⟨h1,h2,h0,h3⟩:=h;refine .ptr ⟨hlt,h2,fun hr=>?_,fun g' e' cells' hg'=>?_⟩
   ·obtain⟨_,b,hb,hfb,_⟩:=F.back hr;cases b with
    | rsv=>exact h0 hb
    | _=>exact hfb.elim
   ·obtain⟨_,b,hb,hfb,_⟩:=F.back hg';cases b with
    | arr g e cells =>
     obtain⟨rfl,rfl,hlen,_⟩:=hfb;have:=h3 _ _ _ hb;rw[iE hs];exact this
    | _=>exact hfb.elim
 | yld hlt hs =>
  intro cv h;cases h with
  | yld h =>
   obtain⟨h1,h2,h0,h3,h4⟩:=h;refine .yld ⟨hlt,h2,fun hr=>?_,fun st pend n env ps asg body hg'=>?_,fun es hg'=>?_⟩
   ·obtain⟨_,b,hb,hfb,_⟩:=F.back hr;cases b with
    | rsv=>exact h0 hb
    | _=>exact hfb.elim
   ·obtain⟨_,b,hb,hfb,_⟩:=F.back hg';cases b with
    | loop st0 pend0 n0 env0 ps0 asg0 body0 =>
     have:=h3 _ _ _ _ _ _ _ hb;rw[iE hs];exact this
    | _=>exact hfb.elim
   ·obtain⟨_,b,hb,hfb,_⟩:=F.back hg';cases b with
    | mp es0 =>
     have:=h4 _ hb;rw[iE hs];exact this
    | _=>exact hfb.elim
 | @frz id g o l z e cells c' hs hg hl hc ih =>
  intro cv h;cases h with
  | own h =>
   obtain⟨h1,h2,h0,h3⟩:=h;have h4:=(h3 _ _ _ hg).2 rfl;have harr:=R.arr id g e cells hg;cases hΓ:Γ id with
   | none =>
    rw[hΓ]at h4;obtain⟨rfl,rfl,rfl⟩:=h4;have:c'=[]:=SY (by simpa using hl);subst this;exact .vec0 _ _
   | some y =>
    obtain⟨b,base,n⟩:=y;rw[hΓ]at h4 harr;obtain⟨a,cap,rfl,hcap,hoff,hor⟩:=h4;obtain⟨c,a1,a2,a3,a4⟩:=harr;rcases hor with ⟨rfl,hn⟩|⟨rfl,rfl⟩
    ·have hcell:∀ i,i<l*z->∃ cv,c[base+(o+i)]?=some cv/\∀ (h:o+i<cells.length),RelV P Γ H w cells[o+i] cv:=fun i hi=>by
      obtain⟨cv,b1,b2⟩:=a4 (o+i) (by omega);exact⟨cv,b1,fun _=>b2⟩
     let cs:List Value:=(List.range (l*z)).map fun i=>(c[base+(o+i)]?).getD undef
     have hcs:cs.length=c'.length:=(by simp [cs,hl]);refine .vec (cs:=cs) (fun ho=>?_) (R.lt _ _ _ _ hΓ) hcap hcs (fun i hi=>?_) fun i hi hi'=>?_
     ·obtain⟨id',base',n',h'⟩:=ho;obtain⟨hns,h''⟩:=kg h';have:=R.inj _ _ _ _ _ _ _ h'' hΓ;subst this;exact hns hs
     ·have hi2:i<l*z:=(by rw[hcs,hl]at hi;exact hi);obtain⟨cv,b1,_⟩:=hcell i hi2;have:cs[i]=cv:=(by simp [cs,b1]);rw[this];have he:base+o+i=base+(o+i):=(by omega);simp only[World.cell?,a1,he];exact b1
     ·have hi2:i<l*z:=(by rw[hl]at hi;exact hi);obtain⟨cv,b1,b2⟩:=hcell i hi2;have:cs[i]=cv:=(by simp [cs,b1]);rw[this];exact ih i hi2 (by omega) hi (b2 (by omega))
    ·have:c'=[]:=SY (by simpa using hl);subst this;exact .vec0 _ _
 | @pfrz id g o e cells c' hs hg hne hl hc ih =>
  intro cv h;cases h with
  | ptr h =>
   obtain⟨h1,h2,h0,h3⟩:=h;obtain⟨b,base,n,hΓ,rfl⟩:=(h3 _ _ _ hg).2 rfl;have harr:=R.arr id g e cells hg;rw[hΓ]at harr;obtain⟨c,a1,a2,a3,a4⟩:=harr
   let cs:List Value:=(List.range cells.length).map fun i=>(c[base+i]?).getD undef
   have hcs:cs.length=c'.length:=(by simp [cs,hl]);have hcell:∀ i (hi:i<cells.length) (hi':i<cs.length),c[base+i]?=some cs[i]/\RelV P Γ H w cells[i] cs[i]:=fun i hi hi'=>by
    obtain⟨cv,b1,b2⟩:=a4 i hi;have:cs[i]=cv:=(by simp [cs,b1]);rw[this];exact⟨b1,b2⟩
   refine .vptr (cs:=cs) (fun ho=>?_) (R.lt _ _ _ _ hΓ) hcs (fun i hi=>?_) fun i hi hi'=>?_
   ·obtain⟨id',base',n',h'⟩:=ho;obtain⟨hns,h''⟩:=kg h';have:=R.inj _ _ _ _ _ _ _ h'' hΓ;subst this;exact hns hs
   ·simp only[World.cell?,a1];exact(hcell i (by omega) hi).1
   ·exact ih i (by omega) hi (hcell i (by omega) hi').2
theorem Fz.plain {S:Nat->Prop}{H:AHeap}{nx:Nat}{v:AVal}(h:Below 0 v):Fz S H nx v v:=by
 induction h with
 | lit v=>exact .lit v
 | vec _ ih=>exact .vec rfl fun i h _=>ih i h
 | vptr _ ih=>exact .vptr rfl fun i h _=>ih i h
 | agg _ ih=>exact .agg rfl fun i h _=>ih i h
 | tup _ ih=>exact .tup rfl fun i h _=>ih i h
 | clo _ _ ih1 ih2=>exact .clo rfl rfl (fun i h _=>ih1 i h) fun i h _=>ih2 i h
 | own h=>exact absurd h (S7 _)
 | ptr h=>exact absurd h (S7 _)
 | yld h=>exact absurd h (S7 _)
theorem Fz.ints {S:Nat->Prop}{H:AHeap}{nx id g o:Nat}{e:TypeId}{cells:List AVal}{x:List Int}{n:Nat}(hs:S id)(hg:H.get id=some (.arr g e cells))(hn:n=x.length)(hx:∀ i (h:i<x.length),cells[o+i]?=some (aa x[i])):
  Fz S H nx (.own id g o n 1) (af x):=by
 subst hn;refine .frz hs hg (by simp [Go.Hx.ints]) fun i hi h2 h'=>?_;have h1:=hx i (by omega);rw[SN h2]at h1;rw[Option.some.inj h1];have:(Go.Hx.ints x)[i]=aa x[i]:=by simp [Go.Hx.ints]
 rw[this];exact .lit _
theorem Fz.ta {S:Nat->Prop}{H:AHeap}{nx:Nat}:Fz S H nx (.lit (.slice none 0 0)) (af []):=.nil
theorem Fz.dq {S:Nat->Prop}{H:AHeap}{nx:Nat}(x:List Int):Fz S H nx (af x) (af x) :=
 .plain (.vec fun i h=>by simp only[Go.Hx.ints,S4];exact .lit _)
theorem iY (x:List Int):(Go.Hx.ints x).all AVal.one=true:=by simp [Go.Hx.ints,aa,AVal.one,Value.oneCell]
def eL (G:Nat->Option (List AVal)):Prop:=∀ g cells,G g=some cells->Below 0 (.vptr cells 0)
theorem FzH.bc {S:Nat->Prop}(F:FzH S H H'):Evo Γ H w (eV S Γ) H' w where
 os:=rfl
 tape:=rfl
 output:=rfl
 size:=Nat.le_refl _
 keep:=fun _ _ h=>⟨rfl,fun h'=>h (s9 h')⟩
 live:=fun id _ _ x' hx=>by
  obtain⟨hs,b,hb,hfb,_⟩:=F.back hx;refine⟨b,hb,?_⟩;cases b<;>cases x'<;>first|exact hfb.elim|skip
  ·obtain⟨rfl,rfl,hl,_⟩:=hfb;exact⟨Nat.le_refl _,fun _=>⟨iE hs,rfl,hl⟩⟩
  ·obtain⟨rfl,rfl,rfl,rfl,rfl,rfl,rfl,_⟩:=hfb;exact⟨iE hs,rfl,rfl,rfl,rfl,rfl⟩
  ·exact iE hs
  ·trivial
 frz:=fun _ _=>rfl
theorem FzH.rel {S:Nat->Prop}(hG:eL G)(R:RelH P G Γ H w)(F:FzH S H H'):RelH P G (eV S Γ) H' w where
 arr id g e cells hg:=by
  obtain⟨hs,b,hb,hfb,_⟩:=F.back hg;cases b with
  | arr g0 e0 c0 =>
   obtain⟨rfl,rfl,hl,hc⟩:=hfb;have h1:=R.arr _ _ _ _ hb;rw[iE hs];cases hΓ:Γ id with
   | none =>
    rw[hΓ]at h1;simp only at h1 ⊢;subst h1;exact SY hl
   | some y =>
    obtain⟨b,base,n⟩:=y;rw[hΓ]at h1;obtain⟨c,a1,a2,a3,a4⟩:=h1;refine⟨c,a1,a2,by omega,fun i hi=>?_⟩;obtain⟨cv,b1,b2⟩:=a4 i (by omega);exact⟨cv,b1,(hc i (by omega) hi).sound R F b2⟩
  | _=>exact hfb.elim
 loop id st pend n env ps asg body hg:=by
  obtain⟨hs,b,hb,hfb,_⟩:=F.back hg;cases b with
  | loop =>
   obtain⟨rfl,rfl,rfl,rfl,rfl,rfl,rfl,hf⟩:=hfb;obtain⟨b,rr,a1,a2,a3,a4,a5,a6,a7,a8,a9⟩:=R.loop _ _ _ _ _ _ _ _ hb;exact⟨b,rr,by rw[iE hs];exact a1,a2,a3,a4,a5,a6,a7,a8,fun t ht=>(hf t (by omega)).sound R F (a9 t ht)⟩
  | _=>exact hfb.elim
 mp id es hg:=by
  obtain⟨hs,b,hb,hfb,_⟩:=F.back hg;cases b with
  | mp es0 =>
   have hfb':es=es0:=hfb;subst hfb';obtain⟨b,a1,a2⟩:=R.mp _ _ hb;exact⟨b,by rw[iE hs];exact a1,a2⟩
  | _=>exact hfb.elim
 rsv id hg:=by
  obtain⟨hs,b,hb,hfb,_⟩:=F.back hg;cases b with
  | rsv=>rw[iE hs];exact R.rsv id hb
  | _=>exact hfb.elim
 inj id id' b base n base' n' h h':=R.inj id id' b base n base' n' (kg h).2 (kg h').2
 dom id x h:=by
  obtain⟨hs,h⟩:=kg h;obtain⟨y,hy⟩:=R.dom id x h;obtain⟨_,b',hb',_⟩:=F.kept id y hs hy;exact⟨b',hb'⟩
 lt id b base n h:=R.lt id b base n (kg h).2
 next id y h:=by
  obtain⟨_,_,_,_,h⟩:=F.back h;exact h
 glob g cells h:=(Fz.plain (hG g cells h)).sound R F (R.glob g cells h)
 gsz:=R.gsz
theorem l9.freeze {S:Nat->Prop}(hG:eL G){v v':AVal}(F:FzH S H H')(hv:Fz S H H'.next v v'):l9 P G H v H' v' :=
 fun Γ _ R=>⟨eV S Γ,F.rel hG R,F.bc,fun _ h=>hv.sound R F h⟩
theorem cV.freeze {S:Nat->Prop}(hG:eL G){s s':St}(F:FzH S s.H s'.H)(hv:∀ t,Fz S s.H s'.H.next (s.ρ t) (s'.ρ t)):cV P G s s':=by
 intro n wb Γ a w hs;have E:Evo Γ s.H w (eV S Γ) s'.H w:=F.bc;refine⟨eV S Γ,⟨hs.size,fun t=>(hv t).sound hs.heap F (hs.env t),F.rel hG hs.heap,hs.defers.bc E,hs.low⟩,E,fun rd rb hr hri=>?_⟩;cases rd with
 | none=>exact hr
 | some id =>
  obtain⟨b,st,pend,n,env,ps,asg,body,h1,h2,h3⟩:=hr;obtain⟨st',pend',n',env',ps',asg',body',h4⟩:=hri;obtain⟨hns,_⟩:=F.back h4;exact⟨b,_,_,_,_,_,_,_,h1,by rw[iE hns];exact h2,h4⟩
theorem JN (hc:Clo H)(L:List Blk):FzH (fun id=>H.next<=id) (ext H L) H where
 gone id hs:=by
  cases h:H.get id with
  | none=>rfl
  | some b=>have:=hc.lt id b h;omega
 kept id b hs hb:=by
  have hlt:id<H.next:=US hs;rw[dH H L id hlt]at hb;have hbb:=hc.below id b hb;refine⟨hlt,b,hb,?_⟩;have hno:∀ i,i<H.next->¬ H.next<=i:=fun i h=>Nat.not_le_of_lt h;cases b with
  | rsv=>trivial
  | mp=>rfl
  | arr g e cells=>exact⟨rfl,rfl,rfl,fun i h _=>.refl (hbb i h) hno⟩
  | loop st pend n env ps asg body=>exact⟨rfl,rfl,rfl,rfl,rfl,rfl,rfl,fun t ht=>.refl (hbb t ht) hno⟩
 none id hs hb:=by
  rw[dH H L id (US hs)]at hb;exact hb
theorem ay.drop (hG:eL G)(hc:Clo H){L:List Blk}{K:ARes->AHeap->Prop}{v v':AVal}(hv:Fz (fun id=>H.next<=id) (ext H L) H.next v v')(hk:K (.ret v') H):ay P G H K v (ext H L) :=
 ⟨v',H,.freeze hG (JN hc L) hv,Nat.le_refl _,hk⟩
theorem ay.Bm (hG:eL G)(hc:Clo H){K:ARes->AHeap->Prop}{v v':AVal}(hv:Fz (fun id=>H.next<=id) (ext H []) H.next v v')(hk:K (.ret v') H):ay P G H K v H:=by
 have:=ay.drop (P:=P) hG hc hv hk;rw[ext_nil]at this;exact this
theorem ae.clo {f : FuncId} {args : List AVal} {K : ARes → AHeap → Prop} (hf : ∃ fn, P.funcs[f]? = some fn ∧ fn.body.isNone = false ∧ (fn.name == "runtime.NumGoroutine") = false) (h : Clo H → ae P G f args H K) : ae P G f args H K :=
 ⟨hf,fun Γ w cargs R hr=>(h R.clo).2 Γ w cargs R hr⟩
end Go.Hx
namespace Go.Hx
variable {P:Program} {G:Nat->Option (List AVal)} {Γ Γ':aC} {H H':AHeap} {w w':World}
theorem tc (R : RelH P G Γ H w) {id : Nat} {st : LoopState} {pend : Option Code} {n : Nat} {env : Env} {ps : Array Tmp} {asg body : Code} (hg : H.get id=some (.loop st pend n env ps asg body)) :
    ∃ b r,Γ id=some (b,0,0)/\w.heap[b]?=some (.loop r)/\r.state=st/\r.pending=pend/\r.params=ps/\r.assign=asg/\r.body=body/\r.tmps.size=n/\(∀ t (h:t<r.tmps.size),RelV P Γ H w (env t) r.tmps[t]) /\
      ∀ st' pend',RelH P G Γ (H.upd id (.loop st' pend' n env ps asg body)) (bD w b (.loop { r with state:=st',pending:=pend' })) /\
        Evo Γ H w Γ (H.upd id (.loop st' pend' n env ps asg body)) (bD w b (.loop { r with state:=st',pending:=pend' })):=by
  obtain⟨b,r,hΓ,hb,h1,h2,h3,h4,h5,h6,h7⟩:=R.loop id st pend n env ps asg body hg;refine⟨b,r,hΓ,hb,h1,h2,h3,h4,h5,h6,h7,fun st' pend'=>?_⟩;have hlt:=R.lt id b 0 0 hΓ;have E:Evo Γ H w Γ (H.upd id (.loop st' pend' n env ps asg body)) (bD w b (.loop { r with state:=st',pending:=pend' })) :=
    { os:=rfl,tape:=rfl,output:=rfl
      size:=by rw[iR];exact Nat.le_refl _
      keep:=fun c hc ho=>⟨by
        rw[dU,SO];rintro⟨rfl,_⟩;exact ho ⟨id,0,0,hΓ⟩,ho⟩
      live:=fun i hi _ x' hx=>by
        rw[ab]at hx;split at hx
        · rename_i hii;subst hii;simp only[Option.some.injEq]at hx;subst hx;exact⟨_,hg,rfl,rfl,rfl,rfl,rfl,rfl⟩
        · exact⟨x',hx,Blk.le_refl _ _ _⟩
      frz:=fun a _=>pZ hb (fun _ _ _ h=>by cases h) (fun _ _ _ h=>by cases h) a }
  refine⟨?_,E⟩;have hne:∀ i b' base n',Γ i=some (b',base,n')->i≠id->b'≠b:=fun i b' base n' hi hii hbb=>by
    subst hbb;exact hii (R.inj _ _ _ _ _ _ _ hi hΓ)
  exact
    { arr:=fun i g e cells hgi=>by
        rw[ab]at hgi;split at hgi
        · simp at hgi
        · rename_i hii;have h:=R.arr i g e cells hgi;cases hi:Γ i with
          | none=>rw[hi]at h;exact h
          | some y =>
            obtain⟨b',base,n'⟩:=y;rw[hi]at h;obtain⟨c,a1,a2,a3,a4⟩:=h;refine⟨c,?_,a2,a3,fun j hj=>let ⟨cv,b1,b2⟩:=a4 j hj;⟨cv,b1,b2.bc E (Nat.le_refl _)⟩⟩;rw[dU,SO]
            · exact a1
            · rintro⟨h,_⟩;exact hne i b' base n' hi hii h
      loop:=fun i st2 pend2 n2 env2 ps2 asg2 body2 hgi=>by
        rw[ab]at hgi;split at hgi
        · rename_i hii;subst hii;simp only[Option.some.injEq,Blk.loop.injEq]at hgi;obtain⟨rfl,rfl,rfl,rfl,rfl,rfl,rfl⟩:=hgi;refine⟨b,{ r with state:=st',pending:=pend' },hΓ,by rw[dU,SQ ⟨rfl,hlt⟩],rfl,rfl,h3,h4,h5,h6,fun t ht=>(h7 t ht).bc E (Nat.le_refl _)⟩
        · rename_i hii;obtain⟨b2,r2,a1,a2,a3,a4,a5,a6,a7,a8,a9⟩:=R.loop i _ _ _ _ _ _ _ hgi;refine⟨b2,r2,a1,?_,a3,a4,a5,a6,a7,a8,fun t ht=>(a9 t ht).bc E (Nat.le_refl _)⟩;rw[dU,SO]
          · exact a2
          · rintro⟨h,_⟩;exact hne i b2 0 0 a1 hii h
      mp:=fun i es hgi=>by
        rw[ab]at hgi;split at hgi
        · simp at hgi
        · rename_i hii;obtain⟨b2,a1,a2⟩:=R.mp i _ hgi;refine⟨b2,a1,?_⟩;rw[dU,SO]
          · exact a2
          · rintro⟨h,_⟩;exact hne i b2 0 0 a1 hii h
      rsv:=fun i hgi=>by
        rw[ab]at hgi;split at hgi
        · simp at hgi
        · exact R.rsv i hgi
      inj:=R.inj
      dom:=fun i x hi=>by
        obtain⟨y,hy⟩:=R.dom i x hi;rw[ab];split
        · exact⟨_,rfl⟩
        · exact⟨y,hy⟩
      lt:=fun i b' base n' hi=>by rw[iR];exact R.lt i b' base n' hi
      next:=fun i y hy=>by
        rw[ab]at hy;split at hy
        · rename_i hii;subst hii;exact R.next _ _ hg
        · exact R.next i y hy
      glob:=fun g cells h=>(R.glob g cells h).bc E (Nat.le_refl _)
      gsz:=R.nX E }
theorem qI {b:Nat}{r:Loop}(h:w.heap[b]?=some (.loop r)):(Instr.getLoop b).run P w=.ok r w:=by
  have hg:(getObj b).run P w=.ok (.loop r) w:=by simp [getObj,Sem.run,h]
  unfold Instr.getLoop;rw[ar hg];rfl
theorem w6 {b:Nat}{r:Loop}{o':Obj}(h:w.heap[b]?=some (.loop r)):(setObj b o').run P w=.ok () (bD w b o'):=by
  simp [setObj,Sem.run,h,bD]
theorem JO {b:Nat}{r:Loop}(h:w.heap[b]?=some (.loop r))(hs:r.state=.ready):(Instr.beginRound b).run P w=.ok () (bD w b (.loop { r with state:=.busy,pending:=r.pending })):=by
  unfold Instr.beginRound;rw[ar (qI h),ar (w6 h)];simp only[hs];rfl
theorem JP {b : Nat} {r : Loop} (h : w.heap[b]?=some (.loop r)) (j : Option Code) :
    (Instr.endRound b j).run P w=.ok (.bool j.isNone) (bD w b (.loop { r with state:=if j.isNone then .ready else .done,pending:=j })):=by
  unfold Instr.endRound;rw[ar (qI h),ar (w6 h)];rfl
theorem JQ {b:Nat}{r:Loop}(h:w.heap[b]?=some (.loop r))(hs:(r.state == .busy)=false):(Instr.endLoop b).run P w=.ok r.pending (bD w b (.loop { r with state:=.exhausted,pending:=r.pending })):=by
  unfold Instr.endLoop;rw[ar (qI h)];simp only[hs,Bool.false_eq_true,if_false];rw[ar (w6 h)];rfl
def iZ (ρ:Env)(l:List (Tmp × AVal)):Env:=l.foldl (fun ρ p=>aI ρ (some p.1) p.2) ρ
def cW (env:Env)(n:Nat):Env:=fun t=>if t<n then env t else .lit undef
def me (st:LoopState)(pend:Option Code):Option Blk->Option Blk
  | some (.loop _ _ n env ps asg body)=>some (.loop st pend n env ps asg body)
  | _=>none
def Bn:Option Blk->Option Blk
  | some (.loop .ready pend n env ps asg body)=>some (.loop .busy pend n env ps asg body)
  | _=>none
def w7 (id:Nat)(K:ARes->AHeap->Prop):AX->St->Prop
  | .normal,s=>bd (me .ready none (s.H.get id)) fun b=>K (.ret (.lit (.bool true))) (s.H.upd id b)
  | .ret,s=>bd (me .done (some .ret) (s.H.get id)) fun b=>K (.ret (.lit (.bool false))) (s.H.upd id b)
  | .exit i,s=>bd (me .done (some (.exit i)) (s.H.get id)) fun b=>K (.ret (.lit (.bool false))) (s.H.upd id b)
  | .goto i,s=>bd (me .done (some (.goto i)) (s.H.get id)) fun b=>K (.ret (.lit (.bool false))) (s.H.upd id b)
  | .panic,_=>False
def Bo (P:Program)(G:Nat->Option (List AVal))(n id:Nat)(body:Code)(K:ARes->AHeap->Prop):AX->St->Prop
  | .normal,s=>bd (Bn (s.H.get id)) fun b=>W P G n (some id) body (w7 id K) ⟨s.ρ,s.H.upd id b⟩
  | _,_=>False
theorem JR : ∀ (l : List (Tmp × AVal)) (cl : List (Tmp × Value)) (ρ : Env) (tmps : Array Value),l.length=cl.length→(∀ i (h : i<l.length) (h' : i<cl.length),l[i].1=cl[i].1∧l[i].1<tmps.size∧RelV P Γ H w l[i].2 cl[i].2) →
    (∀ t,RelV P Γ H w (ρ t) (tmps.getD t undef)) ->
    ((cl.foldl (fun tmps (p:Tmp × Value)=>tmps.setIfInBounds p.1 p.2) tmps).size=tmps.size)/\∀ t,RelV P Γ H w (iZ ρ l t) ((cl.foldl (fun tmps (p:Tmp × Value)=>tmps.setIfInBounds p.1 p.2) tmps).getD t undef):=by
  intro l
  induction l with
  | nil =>
    intro cl ρ tmps hl _ he;cases cl with
    | nil=>exact⟨rfl,he⟩
    | cons=>simp at hl
  | cons x l ih =>
    intro cl ρ tmps hl h he;cases cl with
    | nil=>simp at hl
    | cons y cl =>
      obtain⟨h1,h2,h3⟩:=h 0 (by simp) (by simp);simp only[Tp]at h1 h2 h3;have:=ih cl (aI ρ (some x.1) x.2) (tmps.setIfInBounds y.1 y.2) (by simpa using hl) (fun i a b=>by
        have:=h (i+1) (by simpa using a) (by simpa using b);simp only[TV]at this;simpa using this) (fun t=>by
          by_cases ht:t=x.1
          · subst ht;have e1:aI ρ (some x.1) x.2 x.1=x.2:=(by simp [aI]);have e2:(tmps.setIfInBounds y.1 y.2).getD x.1 undef=y.2:=(by rw[<- h1];simp [h2]);rw[e1,e2];exact h3
          · have e1 : aI ρ (some x.1) x.2 t=ρ t:=(by simp [aI,ht]);have e2 : (tmps.setIfInBounds y.1 y.2).getD t undef=tmps.getD t undef:=by
              simp only[Ty];rw[TB,SO (by rw[<- h1];exact fun h=>ht h.symm)]
            rw[e1,e2];exact he t)
      refine⟨?_,this.2⟩;have h4:=this.1;simp only[Array.size_setIfInBounds]at h4;exact h4
theorem JS {st:LoopState}{pend:Option Code}{x:Option Blk}{b:Blk}(h:me st pend x=some b):∃ st0 p0 n env ps asg body,x=some (.loop st0 p0 n env ps asg body)/\b=.loop st pend n env ps asg body:=by
  unfold me at h;split at h
  · cases h;exact⟨_,_,_,_,_,_,_,rfl,rfl⟩
  · cases h
theorem aB.yld {id : Nat} {args : List AVal} {K : ARes→AHeap→Prop} {pend : Option Code} {n : Nat} {env : Env} {ps : Array Tmp} {asg body : Code} (hg : H.get id=some (.loop .ready pend n env ps asg body)) (hl : args.length=ps.size)
    (hps:ps.toList.all (fun t=>decide (t<n))=true) (h:W P G n (some id) asg (Bo P G n id body K) ⟨iZ (cW env n) (ps.toList.zip args),H⟩):aB P G (.yld id) args H K:=by
  intro Γ w cfv cargs R hv hr;cases hv with
  | yld hy =>
    obtain⟨b,hΓ,rfl⟩:=hy.2.2.2.1 _ _ _ _ _ _ _ hg;obtain⟨b',r,hΓ',hb,h1,h2,h3,h4,h5,h6,h7,_⟩:=tc R hg;rw[hΓ]at hΓ';simp only[Option.some.injEq,Prod.mk.injEq]at hΓ';obtain⟨rfl,_⟩:=hΓ';have hsz:cargs.size=r.params.size:=(by rw[hr.1,hl,h3]);refine⟨{ target:=.fn (.yield b) #[],args:=#[]++cargs },rfl,.inr (.inl ⟨b,r.fn,(r.params.zip (#[]++cargs)).foldl (fun tmps (t,a)=>tmps.setIfInBounds t a) r.tmps,r.assign,r.body,?_,?_⟩)⟩
    · show (Instr.yield b (#[]++cargs)).run P w=_;unfold Instr.yield;rw[ar (qI hb)];have:¬ ((#[]++cargs).size≠r.params.size):=(by simp [hsz]);rw[SO this];rfl
    · refine roundIn_of_wpIn (F:=Fence.wide) trivial ?_;have hfold : (r.params.zip (#[]++cargs)).foldl (fun tmps (t,a)=>tmps.setIfInBounds t a) r.tmps=(r.params.toList.zip cargs.toList).foldl (fun tmps (p : Tmp × Value)=>tmps.setIfInBounds p.1 p.2) r.tmps:=by
        rw[<- Array.foldl_toList];simp
      rw [hfold,h4,h5];have hset:=JR (P:=P) (Γ:=Γ) (H:=H) (w:=w) (ps.toList.zip args) (r.params.toList.zip cargs.toList) (cW env n) r.tmps (by simp [hr.1,h3]) (fun i a c=>by
          simp only[List.length_zip,Ul]at a c;simp only[List.getElem_zip,TH];refine⟨by simp only[h3],?_,hr.2 i (by omega) (by omega)⟩;rw[h6];have:=Tf.1 hps (ps[i]'(by omega)) (by simp);simpa using this) (fun t=>by
          unfold cW;by_cases ht:t<n
          · rw[SQ ht];have:r.tmps.getD t undef=r.tmps[t]'(by omega):=(by simp [h6,ht]);rw[this];exact h7 t (by omega)
          · rw[SO ht];have:r.tmps.getD t undef=undef:=(by simp [h6,ht]);rw[this];exact .lit _)
      have hs:RelS P G n ⟨0,[]⟩ Γ ⟨iZ (cW env n) (ps.toList.zip args),H⟩ { tmps:=(r.params.toList.zip cargs.toList).foldl (fun tmps (p:Tmp × Value)=>tmps.setIfInBounds p.1 p.2) r.tmps,defers:=[] } w :=
        ⟨by rw[hset.1,h6],hset.2,R,⟨[],rfl,Marks.nil⟩,U1 _⟩
      refine wpIn_mono (h ⟨0,[]⟩ Γ _ w (some b) hs ⟨b,_,_,_,_,_,_,_,rfl,hΓ,hg⟩) ?_;rintro e a₁ w₁ ⟨x,s₁,Γ₁,hx,hq,hs₁,E₁,hn₁,hr₁,_⟩;cases x with
      | normal =>
        cases e with
        | normal =>
          obtain⟨blk,hbg,hW⟩:=hq;obtain⟨b1,st1,p1,n1,env1,ps1,asg1,body1,hb1,hΓ₁,hg₁⟩:=hr₁;simp only[Option.some.injEq]at hb1;subst hb1;rw[hg₁]at hbg;have hst:st1=.ready/\blk=.loop .busy p1 n1 env1 ps1 asg1 body1:=by
            cases st1<;>simp [Bn]at hbg
            exact⟨rfl,hbg.symm⟩
          obtain ⟨rfl,rfl⟩:=hst;obtain ⟨b2,r1,hΓ₂,hb2,k1,k2,k3,k4,k5,k6,k7,kset⟩:=tc hs₁.heap hg₁;rw [hΓ₁] at hΓ₂;simp only [Option.some.injEq,Prod.mk.injEq] at hΓ₂;obtain ⟨rfl,_⟩:=hΓ₂;obtain ⟨R2,E2⟩:=kset .busy r1.pending;rw [k2] at R2 E2;have hb3 : Γ₁ id=some (b,0,0):=hΓ₁;refine ⟨_,JO hb2 k1,?_⟩;rw [k2];refine wpIn_mono (hW ⟨0,[]⟩ Γ₁ a₁ _ (some b) (hs₁.move E2 (Nat.le_refl _) R2) ⟨b,_,_,_,_,_,_,_,rfl,hΓ₁,by rw [ab,SQ rfl]⟩) ?_;rintro e a₂ w₂ ⟨x,s₂,Γ₂,hx,hq,hs₂,E3,hn₂,hr₂,_⟩;obtain ⟨b4,st4,p4,n4,env4,ps4,asg4,body4,hb4,hΓ₄,hg₄⟩:=hr₂;simp only [Option.some.injEq] at hb4;subst hb4;obtain ⟨b5,r5,hΓ₅,hb5,l1,l2,l3,l4,l5,l6,l7,lset⟩:=tc hs₂.heap hg₄;rw [hΓ₄] at hΓ₅;simp only [Option.some.injEq,Prod.mk.injEq] at hΓ₅;obtain ⟨rfl,_⟩:=hΓ₅;have E4 : Evo Γ H w Γ₂ s₂.H w₂:=(E₁.trans hn₁ E2).trans hn₁ E3;have hn4 : H.next≤s₂.H.next:=TA hn₁ hn₂;have fin : ∀ (j : Option Code) (v : Bool),v=j.isNone→bd (me (if j.isNone then .ready else .done) j (s₂.H.get id)) (fun bl=>K (.ret (.lit (.bool v))) (s₂.H.upd id bl)) →
              ∃ cv w',(Instr.endRound b j).run P w₂=.ok cv w'/\hU P G Γ H w K (.returned cv) w':=by
            rintro j v rfl ⟨bl,hbl,hk⟩;obtain⟨R6,E6⟩:=lset (if j.isNone then .ready else .done) j;rw[hg₄]at hbl;obtain⟨_,_,_,_,_,_,_,heq,rfl⟩:=JS hbl;simp only[Option.some.injEq,Blk.loop.injEq]at heq;obtain⟨rfl,rfl,rfl,rfl,rfl,rfl,rfl⟩:=heq;exact⟨_,_,JP hb5 j,.ret (.lit (.bool j.isNone)),_,Γ₂,RelV.lit _,hk,R6,E4.trans hn4 E6,hn4⟩
          cases e with
          | normal=>cases x with
            | normal=>exact fin none true rfl hq
            | _=>exact hx.elim
          | ret=>cases x with
            | ret=>exact fin (some .ret) false rfl hq
            | _=>exact hx.elim
          | exit i=>cases x with
            | exit i' =>
              obtain rfl:i=i':=hx;exact fin (some (.exit i)) false rfl hq
            | _=>exact hx.elim
          | goto i=>cases x with
            | goto i' =>
              obtain rfl:i=i':=hx;exact fin (some (.goto i)) false rfl hq
            | _=>exact hx.elim
          | panic c=>cases x with
            | panic=>exact hq.elim
            | _=>exact hx.elim
          | outgrown=>cases x<;>exact hx.elim
        | _=>exact hx.elim
      | _=>exact hq.elim
theorem w9 (hos:w'.os=w.os)(ht:w'.tape=w.tape)(ho:w'.output=w.output)(hs:w.heap.size<=w'.heap.size)(hk:∀ b,b<w.heap.size->w'.heap[b]?=w.heap[b]?)(hz:∀ a,a.block<w.heap.size->w'.frozen? a=w.frozen? a)(R:RelH P G Γ H w):Evo Γ H w Γ H w'/\RelH P G Γ H w':=by
  have E:Evo Γ H w Γ H w':=⟨hos,ht,ho,hs,fun b hb h=>⟨hk b hb,h⟩,fun _ _ _ x' hx=>⟨x',hx,Blk.le_refl _ _ _⟩,hz⟩
  refine⟨E,?_⟩;exact
    { arr:=fun id g e cells hg=>by
        have h1:=R.arr id g e cells hg;cases hΓ:Γ id with
        | none=>rw[hΓ]at h1;exact h1
        | some y =>
          obtain⟨b,base,n⟩:=y;rw[hΓ]at h1;obtain⟨c,a1,a2,a3,a4⟩:=h1;exact⟨c,by rw[hk b (R.lt _ _ _ _ hΓ)];exact a1,a2,a3,fun i hi=>let ⟨cv,b1,b2⟩:=a4 i hi;⟨cv,b1,b2.bc E (Nat.le_refl _)⟩⟩
      loop:=fun id st pend n env ps asg body hg=>by
        obtain⟨b,rr,a1,a2,a3,a4,a5,a6,a7,a8,a9⟩:=R.loop id st pend n env ps asg body hg;exact⟨b,rr,a1,by rw[hk b (R.lt _ _ _ _ a1)];exact a2,a3,a4,a5,a6,a7,a8,fun t ht=>(a9 t ht).bc E (Nat.le_refl _)⟩
      mp:=fun id es hg=>by
        obtain⟨b,a1,a2⟩:=R.mp id es hg;exact⟨b,a1,by rw[hk b (R.lt _ _ _ _ a1)];exact a2⟩
      rsv:=R.rsv
      inj:=R.inj
      dom:=R.dom
      lt:=fun id b base n h=>S6 (R.lt id b base n h) hs
      next:=R.next
      glob:=fun g cells h=>(R.glob g cells h).bc E (Nat.le_refl _)
      gsz:=R.nX E }
def qJ:Option Blk->Option (Option Code × Blk)
  | some (.loop .busy ..)=>none
  | some (.loop _ pend n env ps asg body)=>some (pend,.loop .exhausted pend n env ps asg body)
  | _=>none
def Bp (Q:AX->St->Prop)(s:St):Option Code->Prop
  | none=>Q .normal s
  | some .ret=>Q .ret s
  | some (.exit i)=>Q (.exit i) s
  | some (.goto i)=>Q (.goto i) s
  | _=>False
def td (rd:Option Nat)(Q:AX->St->Prop)(ρ:Env)(id:Nat):ARes->AHeap->Prop
  | .ret _,H'=>ef H' rd/\bd (qJ (H'.get id)) fun pb=>Bp Q ⟨ρ,H'.upd id pb.2⟩ pb.1
  | .panic,H'=>ef H' rd/\Q .panic ⟨ρ,H'⟩
theorem JT {x:Option Blk}{pb:Option Code × Blk}(h:qJ x=some pb):∃ st pend n env ps asg body,x=some (.loop st pend n env ps asg body)/\(st == .busy)=false/\pb=(pend,.loop .exhausted pend n env ps asg body):=by
  unfold qJ at h;split at h
  · cases h
  · rename_i st pend n env ps asg body hne;cases h;refine⟨_,_,_,_,_,_,_,rfl,?_,rfl⟩;cases st with
    | busy=>exact absurd rfl (by first|exact hne|exact fun h=>hne _ _ _ _ _ _ h)
    | _=>rfl
  · cases h
section
variable {n:Nat} {rd:Option Nat} {Q:AX->St->Prop}
theorem W.rangeFunc {g : Operand} {ps : Array Tmp} {asg body : Code} {s : St} {f : FuncId} {first cap : List AVal} (hg : ak G s.ρ g=.clo f first cap)
    (h:bd (s.H.lay s.H.next (.loop .ready none n s.ρ ps asg body)) fun H1=>ae P G f (first++[.yld s.H.next]++cap) H1 (td rd Q s.ρ s.H.next)):W P G n rd (.rangeFunc g ps asg body) Q s:=by
  intro wb Γ a w rb hs hr;obtain⟨H1,hlay,hcall⟩:=h;have hlay2:H1=⟨fun j=>if j=s.H.next then some (.loop .ready none n s.ρ ps asg body) else s.H.get j,s.H.next+1⟩:=by
    unfold AHeap.lay at hlay;rw[SQ rfl]at hlay;exact(Option.some.inj hlay).symm
  subst hlay2;refine wpIn_rangeFunc fun fn _=>?_;have he:=hJ hs g;rw[hg]at he
  -- the world with the record
  have key : ∀ (w0 : World) (mark : List Deferred) (dblk : Nat),Evo Γ s.H w Γ s.H w0→RelH P G Γ s.H w0 →
      qy wb Γ w0 (mark++a.defers) ->
      ∀ w1,w1={ w0 with heap:=w0.heap.push (.loop { state:=.ready,pending:=none,fn:=fn,tmps:=a.tmps,params:=ps,assign:=asg,body:=body,defers:=dblk }) } ->
      (Instr.enterLoop fn a.tmps ps asg body (dz rb).round).run P w=.ok (w0.heap.size,mark) w1 ->
      ∃ (l:Nat) (mark:List Deferred) (w₁:World) (d:Deferred) (w₁':World) (f:FuncId) (args:Array Value) (w₂:World),
      (Instr.enterLoop fn a.tmps ps asg body (dz rb).round).run P w=.ok (l,mark) w₁ /\
      (resolve a.eval (rangeCall g l) 0).run P w₁=.ok d w₁' /\
      (∀ f',Target.leads P w₁' d.target d.args=some f'->(dz rb).fn f') /\
      (invoke d.target d.args).run P w₁'=.ok (.enter f args) w₂ /\
      ((dz rb).depth.isSome=true->1<=0) /\
      CallsIn (dz rb) (0 - 1) P f args w₂ (rangePost (dz rb) 0 P l (fR P G n wb rd rb (wr (.rangeFunc g ps asg body)) Γ s.H a w Q) { a with defers:=mark++a.defers }):=by
    intro w0 mark dblk E0 R0 hdef w1 hw1 hent
    let rec':Loop:={ state:=.ready,pending:=none,fn:=fn,tmps:=a.tmps,params:=ps,assign:=asg,body:=body,defers:=dblk }
    have hheap:w1.heap=w0.heap.push (.loop rec'):=(by rw[hw1]);have hsz1:w1.heap.size=w0.heap.size+1:=(by rw[hheap];simp);have hk1:∀ b,b<w0.heap.size->w1.heap[b]?=w0.heap[b]?:=fun b hb=>by
      rw[hheap,U3];rw[SO (by omega)]
    have hget1:w1.heap[w0.heap.size]?=some (.loop rec'):=(by rw[hheap];simp);obtain⟨E1,R1⟩:=w9 (w':=w1) (by rw[hw1]) (by rw[hw1]) (by rw[hw1]) (by omega) hk1 (fun a _=>oh hheap (fun _ _ _ h=>by cases h) a) R0
    let Γ1:aC:=fun i=>if i=s.H.next then some (w0.heap.size,0,0) else Γ i
    let H1:AHeap:=⟨fun j=>if j=s.H.next then some (.loop .ready none n s.ρ ps asg body) else s.H.get j,s.H.next+1⟩
    have hfresh:∀ i y,s.H.get i=some y->i≠s.H.next:=fun i y hy h=>by have:=R0.next i y hy;omega
    have hΓfresh:∀ i x,Γ i=some x->i≠s.H.next:=fun i x hx=>let ⟨y,hy⟩:=R0.dom i x hx;hfresh i y hy
    have hΓ1:∀ i,i≠s.H.next->Γ1 i=Γ i:=fun i hi=>by simp only[Γ1];rw[SO hi]
    have hH1:∀ i,i≠s.H.next->H1.get i=s.H.get i:=fun i hi=>by simp only[H1];rw[SO hi]
    have E2:Evo Γ s.H w0 Γ1 H1 w1 :=
      { os:=by rw[hw1],tape:=by rw[hw1],output:=by rw[hw1],size:=by omega
        keep:=fun b hb ho=>⟨hk1 b hb,by
          rintro⟨i,base,m,hi⟩;simp only[Γ1]at hi;split at hi
          · simp only[Option.some.injEq,Prod.mk.injEq]at hi;omega
          · exact ho ⟨i,base,m,hi⟩⟩
        live:=fun i hi _ x' hx=>by
          rw[hH1 i (by omega)]at hx;refine⟨x',hx,?_⟩;have hΓi:Γ1 i=Γ i:=hΓ1 i (by omega);cases x' with
          | arr=>exact⟨Nat.le_refl _,fun _=>⟨hΓi,rfl,rfl⟩⟩
          | loop=>exact⟨hΓi,rfl,rfl,rfl,rfl,rfl⟩
          | mp=>exact hΓi
          | rsv=>trivial
        frz:=fun a _=>oh hheap (fun _ _ _ h=>by cases h) a }
    have hn1:s.H.next<=H1.next:=Uj _;have tr:∀ v cv,RelV P Γ s.H w0 v cv->RelV P Γ1 H1 w1 v cv:=fun v cv h=>h.bc E2 hn1;have R2:RelH P G Γ1 H1 w1 :=
      { arr:=fun i g e cells hi=>by
          by_cases hii:i=s.H.next
          · simp only[H1]at hi;rw[SQ hii]at hi;simp at hi
          · rw[hH1 i hii]at hi;have h:=R0.arr i g e cells hi;rw[hΓ1 i hii];cases hΓ:Γ i with
            | none=>rw[hΓ]at h;exact h
            | some y =>
              obtain⟨b,base,m⟩:=y;rw[hΓ]at h;obtain⟨c,a1,a2,a3,a4⟩:=h;exact⟨c,by rw[hk1 b (R0.lt _ _ _ _ hΓ)];exact a1,a2,a3,fun j hj=>let ⟨cv,b1,b2⟩:=a4 j hj;⟨cv,b1,tr _ _ b2⟩⟩
        loop:=fun i st2 pend2 n2 env2 ps2 asg2 body2 hi=>by
          by_cases hii:i=s.H.next
          · simp only [H1] at hi;rw [SQ hii] at hi;simp only [Option.some.injEq,Blk.loop.injEq] at hi;obtain ⟨rfl,rfl,rfl,rfl,rfl,rfl,rfl⟩:=hi;refine ⟨w0.heap.size,rec',by simp only [Γ1];rw [SQ hii],hget1,rfl,rfl,rfl,rfl,rfl,hs.size,fun t ht=>?_⟩;have:=((hs.env t).bc E0 (Nat.le_refl _)).bc E2 hn1;have e1 : a.tmps.getD t undef=a.tmps[t]'ht:=by
              have:t<a.tmps.size:=ht;simp [this]
            rw[e1]at this;exact this
          · rw[hH1 i hii]at hi;obtain⟨b2,r2,a1,a2,a3,a4,a5,a6,a7,a8,a9⟩:=R0.loop i _ _ _ _ _ _ _ hi;exact⟨b2,r2,by rw[hΓ1 i hii];exact a1,by rw[hk1 b2 (R0.lt _ _ _ _ a1)];exact a2,a3,a4,a5,a6,a7,a8,fun t ht=>tr _ _ (a9 t ht)⟩
        mp:=fun i es hi=>by
          by_cases hii:i=s.H.next
          · simp only[H1]at hi;rw[SQ hii]at hi;simp at hi
          · rw[hH1 i hii]at hi;obtain⟨b2,a1,a2⟩:=R0.mp i _ hi;exact⟨b2,by rw[hΓ1 i hii];exact a1,by rw[hk1 b2 (R0.lt _ _ _ _ a1)];exact a2⟩
        rsv:=fun i hi=>by
          by_cases hii:i=s.H.next
          · simp only[H1]at hi;rw[SQ hii]at hi;simp at hi
          · rw[hH1 i hii]at hi;rw[hΓ1 i hii];exact R0.rsv i hi
        inj:=fun i i' b base m base' m' h h'=>by
          by_cases h1:i=s.H.next
          · by_cases h2:i'=s.H.next
            · rw[h1,h2]
            · rw[hΓ1 i' h2]at h';simp only[Γ1]at h;rw[SQ h1]at h;simp only[Option.some.injEq,Prod.mk.injEq]at h;have:=R0.lt _ _ _ _ h';omega
          · by_cases h2:i'=s.H.next
            · rw[hΓ1 i h1]at h;simp only[Γ1]at h';rw[SQ h2]at h';simp only[Option.some.injEq,Prod.mk.injEq]at h';have:=R0.lt _ _ _ _ h;omega
            · rw[hΓ1 i h1]at h;rw[hΓ1 i' h2]at h';exact R0.inj _ _ _ _ _ _ _ h h'
        dom:=fun i x hi=>by
          by_cases hii:i=s.H.next
          · simp only[H1];rw[SQ hii];exact⟨_,rfl⟩
          · rw[hΓ1 i hii]at hi;rw[hH1 i hii];exact R0.dom i x hi
        lt:=fun i b base m hi=>by
          by_cases hii:i=s.H.next
          · simp only[Γ1]at hi;rw[SQ hii]at hi;simp only[Option.some.injEq,Prod.mk.injEq]at hi;omega
          · rw[hΓ1 i hii]at hi;have:=R0.lt _ _ _ _ hi;omega
        next:=fun i y hi=>by
          by_cases hii:i=s.H.next
          · show i<s.H.next+1;omega
          · rw[hH1 i hii]at hi;have:=R0.next i y hi;show i<s.H.next+1;omega
        glob:=fun g cells h=>tr _ _ (R0.glob g cells h)
        gsz:=R0.nX E2 }
    have E3:Evo Γ s.H w Γ1 H1 w1:=E0.trans (Nat.le_refl _) E2;generalize hcg:a.eval g=cg at he;cases he with
    | @clo _ _ _ fs cs hfs hcs hf hc =>
      obtain⟨⟨fn',hfn',hb',hname'⟩,hcall⟩:=hcall;have hyld:RelV P Γ1 H1 w1 (.yld s.H.next) (.func (.yield w0.heap.size) #[] #[]) :=
        .yld ⟨Vc _,rfl,by simp [H1],fun st pend n env ps asg body hgi=>⟨w0.heap.size,by simp [Γ1],rfl⟩,fun es hgi=>by simp [H1]at hgi⟩
      have hargs:da P Γ1 H1 w1 (first++[.yld s.H.next]++cap) (fs.toArray++#[.func (.yield w0.heap.size) #[] #[]]++cs.toArray):=by
        refine sM (sM ⟨by simpa using hfs,fun i h1 h2=>?_⟩ ⟨rfl,fun i h1 h2=>?_⟩) ⟨by simpa using hcs,fun i h1 h2=>?_⟩
        · exact(by simpa using hf i h1 (by simpa using h2):RelV P Γ s.H w first[i] (fs.toArray[i])).bc E3 hn1
        · have:i=0:=(by simp at h1;omega);subst this;exact hyld
        · exact(by simpa using hc i h1 (by simpa using h2):RelV P Γ s.H w cap[i] (cs.toArray[i])).bc E3 hn1
      refine⟨w0.heap.size,mark,w1,{ target:=.fn (.func f) cs.toArray,args:=fs.toArray++#[.func (.yield w0.heap.size) #[] #[]] },w1,f,fs.toArray++#[.func (.yield w0.heap.size) #[] #[]]++cs.toArray,w1,hent,?_,fun _ _=>trivial,?_,fun hc=>by simp [Fence.wide]at hc,?_⟩
      · have hm:Array.map a.eval #[Operand.const (.func (.yield w0.heap.size) #[] #[])]=#[.func (.yield w0.heap.size) #[] #[]]:=(by simp [Act.eval]);unfold resolve;simp only[hcg,hm];rfl
      · show (callFunc f (fs.toArray++#[.func (.yield w0.heap.size) #[] #[]]++cs.toArray)).run P w1=_;unfold callFunc;rw[ar (run_program P w1)];simp only[hfn'];rw[hname',hb'];rfl
      · have h4 : CallsIn (dz rb) 0 P f (fs.toArray++#[.func (.yield w0.heap.size) #[] #[]]++cs.toArray) w1 _:=hcall Γ1 w1 _ R2 hargs;refine h4.mono ?_;rintro e w3 ⟨r,H',Γ',hend,hk,R',E',hn'⟩;have E5 : Evo Γ s.H w Γ' H' w3:=E3.trans hn1 E';have hn5 : s.H.next≤H'.next:=TA hn1 hn';have mkS : ∀ (H'' : AHeap) (w4 : World),RelH P G Γ' H'' w4→Evo Γ s.H w Γ' H'' w4→Evo Γ s.H w0 Γ' H'' w4→s.H.next≤H''.next→RelS P G n wb Γ' ⟨s.ρ,H''⟩ { a with defers:=mark++a.defers } w4 :=
          fun H'' w4 R'' E'' E0'' hn''=>⟨hs.size,fun t=>(hs.env t).bc E'' hn'',R'',hdef.bc E0'',TA hs.low E''.size⟩
        cases e with
        | returned cv =>
          cases r with
          | panic=>exact hend.elim
          | ret v =>
            obtain⟨hri,pb,hpb,hj⟩:=hk;obtain⟨st,pend,n2,env2,ps2,asg2,body2,hgl,hbusy,rfl⟩:=JT hpb;obtain⟨b,r2,hΓb,hb,l1,l2,l3,l4,l5,l6,l7,lset⟩:=tc R' hgl;obtain⟨R6,E6⟩:=lset .exhausted r2.pending;have hbl:b=w0.heap.size:=by
              obtain⟨x,hx,hle⟩:=E'.live s.H.next (Vc _) (S6 (Vc _) hn') _ hgl;have hx':H1.get s.H.next=some (.loop .ready none n s.ρ ps asg body):=(by simp [H1]);rw[hx']at hx;cases hx;have h1:=hle.1;rw[hΓb]at h1;simp only[Γ1,if_true,Option.some.injEq,Prod.mk.injEq]at h1;exact h1.1
            subst hbl;have hend':=JQ (P:=P) hb (by rw[l1];exact hbusy);rw[l2]at R6 E6 hend';refine⟨pend,_,hend',?_⟩;have E7:=E5.trans hn5 E6;have hS:=mkS _ _ R6 E7 ((E2.trans hn1 E').trans hn5 E6) hn5;have hri':ef (H'.upd s.H.next (.loop .exhausted pend n2 env2 ps2 asg2 body2)) rd:=by
              cases rd with
              | none=>trivial
              | some i =>
                obtain⟨st3,pend3,n3,env3,ps3,asg3,body3,h3⟩:=hri;by_cases hii:i=s.H.next
                · exact⟨_,_,_,_,_,_,_,by rw[ab,SQ hii]⟩
                · exact⟨_,_,_,_,_,_,_,by rw[ab,SO hii];exact h3⟩
            have hR:=hr.bc E7 hn5 hs.heap hri';have post:∀ (e:Exit) (x:AX),wJ e x->Q x ⟨s.ρ,H'.upd s.H.next (.loop .exhausted pend n2 env2 ps2 asg2 body2)⟩->fR P G n wb rd rb (wr (.rangeFunc g ps asg body)) Γ s.H a w Q e { a with defers:=mark++a.defers } _ :=
              fun e x hx hq=>⟨x,_,Γ',hx,hq,hS,E7,hn5,hR,fun t _=>rfl⟩
            simp only at hj;cases pend with
            | none=>exact post .normal .normal trivial hj
            | some c =>
              cases c with
              | ret=>exact wpIn_ret (post .ret .ret trivial hj)
              | exit i=>exact wpIn_exit (post (.exit i) (.exit i) rfl hj)
              | goto i=>exact wpIn_goto (post (.goto i) (.goto i) rfl hj)
              | _=>exact hj.elim
        | panicked chain =>
          cases r with
          | ret v=>exact hend.elim
          | panic =>
            exact⟨.panic,_,Γ',hend,hk.2,mkS _ _ R' E5 (E2.trans hn1 E') hn5,E5,hn5,hr.bc E5 hn5 hs.heap hk.1,fun t _=>rfl⟩
        | outgrown=>cases r<;>exact hend.elim
  cases rb with
  | none =>
    let w0:World:={ w with heap:=w.heap.push (.deferred (some [])) }
    have hk0:∀ b,b<w.heap.size->w0.heap[b]?=w.heap[b]?:=fun b hb=>by
      show (w.heap.push _)[b]?=_;rw[U3,SO (by omega)]
    obtain⟨E0,R0⟩:=w9 (w:=w) (w':=w0) rfl rfl rfl (by simp [w0]) hk0 (fun a _=>oh (o:=.deferred (some [])) rfl (fun _ _ _ h=>by cases h) a) hs.heap;refine key w0 [{ target:=.collected w.heap.size,args:=#[] }] w.heap.size E0 R0 ?_ _ rfl rfl;obtain⟨m,hm,hmk⟩:=hs.defers;refine⟨{ target:=.collected w.heap.size,args:=#[] } :: m,by rw[hm];rfl,fun d hd=>?_,?_⟩
    · simp only[List.mem_cons]at hd;rcases hd with rfl|hd
      · refine⟨w.heap.size,rfl,hs.low,?_,by simp [w0]⟩;rintro⟨i,base,m,hi⟩;have:=hs.heap.lt _ _ _ _ hi;omega
      · obtain⟨r,h1,h2,h3⟩:=hmk.1 d hd;exact⟨r,h1,h2,h3.bc E0⟩
    · refine Vv.2 ⟨fun d hd=>?_,hmk.2⟩;obtain⟨r,h1,h2,h3⟩:=hmk.1 d hd;rw[h1];intro he;simp only[Target.collected.injEq]at he;have h4:=h3.2;rw[<- he,TW (Nat.le_refl _)]at h4;cases h4
  | some b0 =>
    have hlr:∃ r,w.heap[b0]?=some (.loop r):=by
      cases rd with
      | none=>cases hr
      | some id =>
        obtain⟨b,st,pend,n',env,ps',asg',body',h1,h2,h3⟩:=hr;obtain⟨b',r,h4,h5,_⟩:=hs.heap.loop _ _ _ _ _ _ _ _ h3;rw[h2]at h4;simp only[Option.some.injEq,Prod.mk.injEq]at h4 h1;rw[h1,h4.1];exact⟨r,h5⟩
    obtain⟨r,hlr⟩:=hlr;refine key w [] r.defers (Evo.refl _ _ _) hs.heap (by simpa using hs.defers) _ rfl ?_;show (Instr.enterLoop fn a.tmps ps asg body (some b0)).run P w=_;unfold Instr.enterLoop;simp only[bind_assoc,pure_bind];rw[ar (qI hlr)];rfl
end
end Go.Hx
namespace Go.Hx
variable {P:Program} {G:Nat->Option (List AVal)} {Γ Γ':aC} {H H':AHeap} {w w':World}
def bZ:AHeap:=⟨fun _=>none,0⟩
inductive Fresh (H:AHeap):AVal->AVal->Prop
 | lit (v:Value):Fresh H (.lit v) (.lit v)
 | nil:Fresh H (.lit (.slice none 0 0)) (.vec 0 [])
 | vec0:Fresh H (.vec 0 []) (.vec 0 [])
 | agg {c c':List AVal} (hl:c'.length=c.length) (h:∀ i (h:i<c.length) (h':i<c'.length),Fresh H c[i] c'[i]):Fresh H (.agg c) (.agg c')
 | tup {c c':List AVal} (hl:c'.length=c.length) (h:∀ i (h:i<c.length) (h':i<c'.length),Fresh H c[i] c'[i]):Fresh H (.tup c) (.tup c')
 | own {id g o l z:Nat} {e:TypeId} {cells c':List AVal} (hg:H.get id=some (.arr g e cells)) (hl:c'.length=l*z)
   (h:∀ i (h:i<l*z) (h2:o+i<cells.length) (h':i<c'.length),Fresh H cells[o+i] c'[i]):Fresh H (.own id g o l z) (.vec l c')
theorem Fresh.sound (R:RelH P G Γ' H' w){N:Nat}(h1:∀ b,Γ'.fD b->N<=b)(h2:∀ b,Γ.fD b->b<N){v v':AVal}(hf:Fresh H' v v'):∀ {cv:Value},RelV P Γ' H' w v cv->RelV P Γ H w v' cv:=by
 induction hf with
 | lit v=>intro cv h;cases h;exact .lit _
 | nil=>intro cv h;cases h;exact .vec0 none 0
 | vec0 =>
  intro cv h;cases h with
  | vec0 a cap=>exact .vec0 a cap
  | vec hb hlt hlen hcs hcell hrel=>exact .vec0 _ _
 | agg hl hc ih =>
  intro cv h;cases h with
  | agg hcs hrel=>exact .agg (by omega) fun i a b=>ih i (by omega) a (hrel i (by omega) b)
 | tup hl hc ih =>
  intro cv h;cases h with
  | tup hcs hrel=>exact .tup (by omega) fun i a b=>ih i (by omega) a (hrel i (by omega) b)
 | @own id g o l z e cells c' hg hl hc ih =>
  intro cv h;cases h with
  | own h =>
   obtain⟨_,_,h0,h3⟩:=h;have h4:=(h3 _ _ _ hg).2 rfl;have harr:=R.arr id g e cells hg;cases hΓ:Γ' id with
   | none =>
    rw[hΓ]at h4;obtain⟨rfl,rfl,rfl⟩:=h4;have:c'=[]:=SY (by simpa using hl);subst this;exact .vec0 _ _
   | some y =>
    obtain⟨b,base,n⟩:=y;rw[hΓ]at h4 harr;obtain⟨a,cap,rfl,hcap,hoff,hor⟩:=h4;obtain⟨c,a1,a2,a3,a4⟩:=harr;rcases hor with ⟨rfl,hn⟩|⟨rfl,rfl⟩
    ·have hcell:∀ i,i<l*z->∃ cv,c[base+(o+i)]?=some cv/\∀ (h:o+i<cells.length),RelV P Γ' H' w cells[o+i] cv:=fun i hi=>by
      obtain⟨cv,b1,b2⟩:=a4 (o+i) (by omega);exact⟨cv,b1,fun _=>b2⟩
     let cs:List Value:=(List.range (l*z)).map fun i=>(c[base+(o+i)]?).getD undef
     have hcs:cs.length=c'.length:=(by simp [cs,hl]);refine .vec (cs:=cs) (fun ho=>?_) (R.lt _ _ _ _ hΓ) hcap hcs (fun i hi=>?_) fun i hi hi'=>?_
     ·have:=h2 b ho;have:=h1 b ⟨id,base,n,hΓ⟩;omega
     ·have hi2:i<l*z:=(by rw[hcs,hl]at hi;exact hi);obtain⟨cv,b1,_⟩:=hcell i hi2;have:cs[i]=cv:=(by simp [cs,b1]);rw[this];have he:base+o+i=base+(o+i):=(by omega);simp only[World.cell?,a1,he];exact b1
     ·have hi2:i<l*z:=(by rw[hl]at hi;exact hi);obtain⟨cv,b1,b2⟩:=hcell i hi2;have:cs[i]=cv:=(by simp [cs,b1]);rw[this];exact ih i hi2 (by omega) hi (b2 (by omega))
    ·have:c'=[]:=SY (by simpa using hl);subst this;exact .vec0 _ _
theorem F4 (H:AHeap):FzH (fun _=>True) H bZ:=⟨fun _ _=>rfl,fun _ _ h=>absurd trivial h,fun _ h=>absurd trivial h⟩
theorem Ag (b:Nat):¬ (eV (fun _=>True) Γ).fD b:=by
 rintro⟨id,base,n,h⟩;exact(kg h).1 trivial
def qu (o:Option AVal)(r:ARes)(H':AHeap):Prop:=match o with
 | some v'=>∃ v,r=.ret v/\Fresh H' v v'
 | none=>r=.panic
def Ah:Option AVal->ARes
 | some v=>.ret v
 | none=>.panic
theorem ae.F5 {f:FuncId}{args args':List AVal}{o:Option AVal}(hG:eL G)(hl:args'.length=args.length)(hv:∀ i (h:i<args.length) (h':i<args'.length),Fz (fun _=>True) H 0 args[i] args'[i])
  (h:ae P G f args' bZ (qu o)):ae P G f args H fun r H'=>r=Ah o/\H'=H:=by
 refine⟨h.1,fun Γ w cargs R hr=>?_⟩;have F:=F4 H;have R0:RelH P G (eV (fun _=>True) Γ) bZ w:=F.rel hG R;have hr0:da P (eV (fun _=>True) Γ) bZ w args' cargs:=⟨by have:=hr.1;omega,fun i h1 h2=>(hv i (by omega) h1).sound R F (hr.2 i (by omega) h2)⟩
 refine(h.2 _ w cargs R0 hr0).mono ?_;rintro e w' ⟨r,H',Γ',hend,hg,R',E,hn⟩;have hown:∀ b,Γ'.fD b->w.heap.size<=b:=fun b hb=>VE fun hlt=>(E.keep b hlt (Ag b)).2 hb;have hown2:∀ b,Γ.fD b->b<w.heap.size:=fun b ⟨id,base,n,hb⟩=>R.lt _ _ _ _ hb;obtain⟨E2,R2⟩:=w9 E.os E.tape E.output E.size (fun b hb=>(E.keep b hb (Ag b)).1) E.frz R;refine⟨Ah o,H,Γ,?_,⟨rfl,rfl⟩,R2,E2,Nat.le_refl _⟩;cases o with
 | some v' =>
  obtain⟨v,rfl,hf⟩:=hg;cases e with
  | returned cv=>exact hf.sound R' hown hown2 hend
  | _=>exact hend.elim
 | none =>
  have hg':r=.panic:=hg;subst hg';cases e with
  | panicked chain=>exact hend
  | _=>exact hend.elim
theorem ae.frame {f:FuncId}{args args':List AVal}{v':AVal}(hG:eL G)(hl:args'.length=args.length)(hv:∀ i (h:i<args.length) (h':i<args'.length),Fz (fun _=>True) H 0 args[i] args'[i])
  (h:ae P G f args' bZ fun r H'=>∃ v,r=.ret v/\Fresh H' v v'):ae P G f args H fun r H'=>r=.ret v'/\H'=H:=ae.F5 (o:=some v') hG hl hv h
end Go.Hx
namespace Go.Hx.Ev
open Go.Hx
variable {P:Program} {G:Nat->Option (List AVal)} {Γ Γ':aC} {H H':AHeap} {w w':World}
def cP (e g:Nat->Option Blk):Nat->Option Blk:=fun j=>match e j with
 | some b=>some b
 | none=>g j
def lY (e:Option (Nat × Blk)):Nat->Option Blk:=fun j=>match e with
 | some (k,b)=>if j=k then some b else none
 | none=>none
theorem Ad (e:Option (Nat × Blk))(g:Nat->Option Blk):cP (lY e) g=dB e g:=by
 funext j
 cases e with
 | none=>rfl
 | some kb =>
  obtain⟨k,b⟩:=kb;simp only[cP,lY,dB];by_cases h:j=k
  ·rw[SQ h,SQ h]
  ·rw[SO h,SO h]
def lZ (P:Program)(G:Nat->Option (List AVal))(fv:AVal)(args:List AVal)(H:AHeap)(v:AVal)(e:Nat->Option Blk)(k:Nat)(f:FP):Prop :=
 (∀ r,r∈f.rs->r<H.next)/\(∀ r,(e r).isSome=true->r∈f.eff/\((r∈f.rs/\∃ g t c,H.get r=some (.arr g t c))\/(H.next<=r/\r<H.next+k)))/\(∀ c,c<k->(e (H.next+c)).isSome=true) /\
 ∀ H2:AHeap,(∀ r,r∈f.rs->H2.get r=H.get r)->(∀ c,c<k->H2.get (H.next+c)=some .rsv)->H.next+k<=H2.next->aB P G fv args H2 fun r H3=>r=.ret v/\H3=⟨cP e H2.get,H2.next⟩
def cD (P:Program)(G:Nat->Option (List AVal))(o:Oper)(K:FP->St->Prop)(s:St):Prop :=
 match o.op with
 | .call { callee:=.value fv,args,.. }=>∃ v e k f,lZ P G (ak G s.ρ fv) (args.toList.map (ak G s.ρ)) s.H v e k f/\K f ⟨aI s.ρ o.dst v,⟨cP e s.H.get,s.H.next+k⟩⟩
 | op=>bd (aj P G s.ρ s.H s.H.next op) fun vH=>K (bt P G s.ρ s.H.next op) ⟨aI s.ρ o.dst vH.1,vH.2⟩
def dy (P:Program)(G:Nat->Option (List AVal))(all:Array Oper)(tail:St->Prop):List Nat->Nat->List (Nat × FP)->List Oper->St->Prop
 | b :: bs,i,acc,o :: rest,s=>bd (eK all s.ρ o) fun t=>if t=true then cD P G o (fun f s'=>fS b f acc/\dy P G all tail bs (i+1) (eU i f acc) rest s') s
   else dy P G all tail bs (i+1) acc rest ⟨aI s.ρ o.dst (.lit undef),s.H⟩
 | _,_,_,[],s=>tail s
 | [],_,_,_ :: _,_=>False
structure Dt where
 v:AVal
 e:Nat->Option Blk
 al:Nat
 f:FP
def bb (all:Array Oper)(d:Nat->Dt)(ρ0:Env):Nat->(Nat->Bool)->Env
 | 0,_=>ρ0
 | n+1,D=>if D n then aI (bb all d ρ0 n D) (fm all n) (d n).v else bb all d ρ0 n D
def aV (d:Nat->Dt)(g0:Nat->Option Blk):Nat->(Nat->Bool)->Nat->Option Blk
 | 0,_=>g0
 | n+1,D=>if D n then cP (d n).e (aV d g0 n D) else aV d g0 n D
def aD (d:Nat->Dt):Nat->Nat
 | 0=>0
 | n+1=>aD d n+(d n).al
def cZ (x:Dt)(r:Nat):Prop:=(x.e r).isSome=true
theorem l8 {e g:Nat->Option Blk}{r:Nat}(h:¬ (e r).isSome=true):cP e g r=g r:=by
 unfold cP;cases he:e r with
 | none=>rfl
 | some b=>rw[he]at h;exact absurd rfl h
theorem Ae {e g g':Nat->Option Blk}{r:Nat}(h:(e r).isSome=true):cP e g r=cP e g' r:=by
 unfold cP;cases he:e r with
 | none=>rw[he]at h;cases h
 | some b=>rfl
theorem vZ {e g g':Nat->Option Blk}{r:Nat}(h:g r=g' r):cP e g r=cP e g' r:=by
 unfold cP;rw[h]
theorem FV {e e':Nat->Option Blk}{g:Nat->Option Blk}(h:∀ r,(e r).isSome=true->¬ (e' r).isSome=true):cP e' (cP e g)=cP e (cP e' g):=by
 funext r
 by_cases hx:(e r).isSome=true
 ·rw[l8 (h r hx)];exact Ae hx
 ·rw[l8 (g:=cP e' g) hx];exact vZ (l8 hx)
section
variable {all:Array Oper} {d d':Nat->Dt} {ρ0:Env} {g0 g0':Nat->Option Blk} {D D':Nat->Bool}
theorem mX {t:Tmp}:∀ {n:Nat},(∀ j,j<n->fm all j=some t->D j=D' j)->bb all d ρ0 n D t=bb all d ρ0 n D' t:=by
 intro n
 induction n with
 | zero=>intro _;rfl
 | succ n ih =>
  intro h;have h0:=ih fun j hj=>h j (by omega);simp only[bb];by_cases hd:fm all n=some t
  ·rw[h n (by omega) hd];split
   ·exact sS h0
   ·exact h0
  ·have:∀ (b:Bool) (ρ:Env),(if b=true then aI ρ (fm all n) (d n).v else ρ) t=ρ t:=by
    intro b ρ;split
    ·exact oO hd
    ·rfl
   rw[this,this];exact h0
theorem v7 {m:Nat}:∀ {n:Nat},m<=n->bb all d ρ0 n (fun j=>decide (j<m))=bb all d ρ0 m fun _=>true:=by
 have low:∀ k,k<=m->bb all d ρ0 k (fun j=>decide (j<m))=bb all d ρ0 k fun _=>true:=by
  intro k
  induction k with
  | zero=>intro _;rfl
  | succ k ih =>
   intro hk;simp only[bb];rw[ih (by omega),SQ (by simp;omega)];simp
 intro n
 induction n with
 | zero =>
  intro hm;obtain rfl:m=0:=by omega
  exact low 0 (by omega)
 | succ n ih =>
  intro hm;by_cases h:m=n+1
  ·subst h;exact low (n+1) (by omega)
  ·simp only[bb];rw[SO (by simp;omega)];exact ih (by omega)
theorem mY {r:Nat}:∀ {n:Nat},(∀ j,j<n->cZ (d j) r->D j=D' j)->aV d g0 n D r=aV d g0 n D' r:=by
 intro n
 induction n with
 | zero=>intro _;rfl
 | succ n ih =>
  intro h;have h0:=ih fun j hj=>h j (by omega);simp only[aV];by_cases hd:cZ (d n) r
  ·rw[h n (by omega) hd];split
   ·exact vZ h0
   ·exact h0
  ·have:∀ (b:Bool) (g:Nat->Option Blk),(if b=true then cP (d n).e g else g) r=g r:=by
    intro b g;split
    ·exact l8 hd
    ·rfl
   rw[this,this];exact h0
theorem v9 {m:Nat}:∀ {n:Nat},m<=n->aV d g0 n (fun j=>decide (j<m))=aV d g0 m fun _=>true:=by
 have low:∀ k,k<=m->aV d g0 k (fun j=>decide (j<m))=aV d g0 k fun _=>true:=by
  intro k
  induction k with
  | zero=>intro _;rfl
  | succ k ih =>
   intro hk;simp only[aV];rw[ih (by omega),SQ (by simp;omega)];simp
 intro n
 induction n with
 | zero =>
  intro hm;obtain rfl:m=0:=by omega
  exact low 0 (by omega)
 | succ n ih =>
  intro hm;by_cases h:m=n+1
  ·subst h;exact low (n+1) (by omega)
  ·simp only[aV];rw[SO (by simp;omega)];exact ih (by omega)
theorem qj {r:Nat}:∀ {n:Nat},(g0 r=g0' r\/∃ j,j<n/\D j=true/\cZ (d j) r)->aV d g0 n D r=aV d g0' n D r:=by
 intro n
 induction n with
 | zero =>
  rintro(h|⟨j,hj,_⟩)
  ·exact h
  ·omega
 | succ n ih =>
  intro h;simp only[aV];by_cases hD:D n=true
  ·rw[SQ hD,SQ hD];by_cases ht:cZ (d n) r
   ·exact Ae ht
   ·refine vZ (ih ?_);rcases h with h|⟨j,hj,h1,h2⟩
    ·exact .inl h
    ·by_cases hjn:j=n
     ·subst hjn;exact absurd h2 ht
     ·exact .inr ⟨j,by omega,h1,h2⟩
  ·rw[SO hD,SO hD];refine ih ?_;rcases h with h|⟨j,hj,h1,h2⟩
   ·exact .inl h
   ·by_cases hjn:j=n
    ·subst hjn;exact absurd h1 hD
    ·exact .inr ⟨j,by omega,h1,h2⟩
theorem wc {r:Nat}:∀ {n:Nat},(∀ j,j<n->D j=true->¬ cZ (d j) r)->aV d g0 n D r=g0 r:=by
 intro n
 induction n with
 | zero=>intro _;rfl
 | succ n ih =>
  intro h;simp only[aV];split
  ·rename_i hD;rw[l8 (h n (by omega) hD)];exact ih fun j hj=>h j (by omega)
  ·exact ih fun j hj=>h j (by omega)
def bM (D:Nat->Bool)(i:Nat):Nat->Bool:=fun j=>if j=i then true else D j
theorem we {i:Nat}(hD:D i=false):∀ {n:Nat},i<n->(∀ j,i<j->j<n->D j=true->∀ t,fm all i=some t->fm all j≠some t) ->
  bb all d ρ0 n (bM D i)=aI (bb all d ρ0 n D) (fm all i) (d i).v:=by
 intro n
 induction n with
 | zero=>intro h;omega
 | succ n ih =>
  intro hi h;by_cases hin:i=n
  ·subst hin;have h0:bb all d ρ0 i (bM D i)=bb all d ρ0 i D:=funext fun t=>mX fun j hj _=>by simp [bM,U4 hj]
   simp only[bb];rw[SQ (by simp [bM]),SO (by simp [hD]),h0]
  ·have hw:bM D i n=D n:=(by simp [bM,Ne.symm hin]);have h0:=ih (by omega) fun j h1 h2=>h j h1 (by omega);simp only[bb,hw];split
   ·rename_i hDn;rw[h0];exact AW (h n (by omega) (by omega) hDn)
   ·exact h0
theorem wg {i:Nat}(hD:D i=false):∀ {n:Nat},i<n->(∀ j,i<j->j<n->D j=true->∀ t,cZ (d i) t->¬ cZ (d j) t) ->
  aV d g0 n (bM D i)=cP (d i).e (aV d g0 n D):=by
 intro n
 induction n with
 | zero=>intro h;omega
 | succ n ih =>
  intro hi h;by_cases hin:i=n
  ·subst hin;have h0:aV d g0 i (bM D i)=aV d g0 i D:=funext fun t=>mY fun j hj _=>by simp [bM,U4 hj]
   simp only[aV];rw[SQ (by simp [bM]),SO (by simp [hD]),h0]
  ·have hw:bM D i n=D n:=(by simp [bM,Ne.symm hin]);have h0:=ih (by omega) fun j h1 h2=>h j h1 (by omega);simp only[aV,hw];split
   ·rename_i hDn;rw[h0];exact FV (h n (by omega) (by omega) hDn)
   ·exact h0
theorem oD {m n:Nat}(h:m<=n):aD d m<=aD d n:=by
 induction n with
 | zero =>
  have:m=0:=by omega
  subst this;exact Nat.le_refl _
 | succ n ih =>
  by_cases hm:m=n+1
  ·subst hm;exact Nat.le_refl _
  ·exact TA (ih (by omega)) (by simp [aD])
theorem qk {n c:Nat}(h:c<aD d n):∃ j,j<n/\aD d j<=c/\c<aD d j+(d j).al:=by
 induction n with
 | zero=>simp [aD]at h
 | succ n ih =>
  by_cases hc:c<aD d n
  ·obtain⟨j,h1,h2⟩:=ih hc;exact⟨j,by omega,h2⟩
  ·simp only[aD]at h;exact⟨n,by omega,by omega,by omega⟩
theorem ka {i n:Nat}(h:i<n):aD d i+(d i).al<=aD d n:=by
 have:=oD (d:=d) (m:=i+1) (n:=n) h;simpa only[aD] using this
theorem qm {n:Nat}(h:∀ j,j<n->d j=d' j):bb all d ρ0 n D=bb all d' ρ0 n D:=by
 induction n with
 | zero=>rfl
 | succ n ih=>simp only[bb];rw[ih fun j hj=>h j (by omega),h n (by omega)]
theorem qp {n:Nat}(h:∀ j,j<n->d j=d' j):aV d g0 n D=aV d' g0 n D:=by
 induction n with
 | zero=>rfl
 | succ n ih=>simp only[aV];rw[ih fun j hj=>h j (by omega),h n (by omega)]
theorem eJ {n:Nat}(h:∀ j,j<n->d j=d' j):aD d n=aD d' n:=by
 induction n with
 | zero=>rfl
 | succ n ih=>simp only[aD];rw[ih fun j hj=>h j (by omega),h n (by omega)]
end
def ExecOk (P:Program)(G:Nat->Option (List AVal))(all:Array Oper)(o:Oper)(id:Nat)(s s':St):Prop :=
 (eK all s.ρ o=some false/\s'=⟨aI s.ρ o.dst (.lit undef),s.H⟩) \/
 (eK all s.ρ o=some true/\∃ v,s'.ρ=aI s.ρ o.dst v /\
  (aj P G s.ρ s.H id o.op=some (v,s'.H) \/
   ∃ fv args ats,o.op=.call ⟨.value fv,args,ats⟩/\(∀ id st pend m env ps asg body,s.H.get id=some (.loop st pend m env ps asg body)->s'.H.get id=s.H.get id)/\aB P G (ak G s.ρ fv) (args.toList.map (ak G s.ρ)) s.H fun r H3=>r=.ret v/\H3=s'.H))
theorem wh {n:Nat}{wb:Base}{rd rb:Option Nat}{all:Array Oper}{o:Oper}{id i:Nat}{s s':St}{a:Act}{next:Act->World->Prop}{Q':Exit->Act->World->Prop}(ho:all[i]?=some o)(hd:fj n o=true)
  (hs:RelS P G n wb Γ s a w) (hr:dp Γ s.H rd rb) (h:ExecOk P G all o id s s')
  (hnext:∀ Γ' a' w',RelS P G n wb Γ' s' a' w'->Evo Γ s.H w Γ' s'.H w'->s.H.next<=s'.H.next->dp Γ' s'.H rd rb->(∃ cv,a'=a.put o.dst cv)->next a' w'):
  wpOpIn (dz rb) 0 P all Q' i next a w:=by
 have hdst:∀ d,o.dst=some d->d<n:=by
  intro d hd';unfold fj at hd;rw[hd']at hd;simpa using hd
 unfold wpOpIn;rw[ho];simp only;rcases h with ⟨hw,rfl⟩|⟨hw,v,hρ,h⟩
 ·rw[oG hs hw];simp only[Bool.false_eq_true,if_false];refine⟨fun _ _=>trivial,?_⟩;have hs':=jC (v:=.lit undef) (cv:=undef) hs hdst (Evo.refl Γ s.H w) (Nat.le_refl _) hs.heap (.lit _);exact hnext Γ _ w hs' (Evo.refl _ _ _) (Nat.le_refl _) hr ⟨_,rfl⟩
 ·rw[oG hs hw];simp only[if_true];obtain⟨ρ',H'⟩:=s';simp only at hρ;subst hρ;refine⟨fun _ _=>trivial,?_⟩;rcases h with hop|⟨fv,args,ats,hop,hH,hap⟩
  ·simp only at hop;rw[Oper.semAt_eq _ _ _ (fun c hc=>by rw[hc]at hop;simp [aj]at hop)];obtain⟨nx,cv,Γ',w',hrun,hnx,E,hn,R,hv⟩:=wH hs.heap (hJ hs) hop;rw[hrun];have hri:=wK hr (wL hs.heap hop);have hs':=jC hs hdst E hn R hv;have hr':=hr.bc E hn hs.heap hri;rcases hnx with rfl|⟨rfl,rfl⟩
   ·exact hnext Γ' _ w' hs' E hn hr' ⟨_,rfl⟩
   ·exact hnext Γ' _ w' hs' E hn hr' ⟨_,rfl⟩
  ·rw[Oper.semAt_eq _ _ _ (fun c hc=>by rw[hc]at hop;cases hop)];obtain⟨d,h1,h2⟩:=hap Γ w (a.eval fv) (args.map a.eval) hs.heap (hJ hs fv) ⟨by simp,fun i h1 h2=>by simp only[S4,UP,TH];exact hJ hs _⟩;have hex:(execOp a.eval o).run P w=(invoke d.target d.args).run P w:=by
    unfold execOp;simp only[hop];unfold resolve;simp only;rw[ar h1]
   have hri:ef H' rd:=by
    cases rd with
    | none=>trivial
    | some id =>
     obtain⟨b,st,pend,n,env,ps,asg,body,_,_,h3⟩:=hr;exact⟨_,_,_,_,_,_,_,(hH _ _ _ _ _ _ _ _ h3).trans h3⟩
   have cont:∀ e w',hU P G Γ s.H w (fun r H3=>r=.ret v/\H3=H') e w'->(match e with
     | .returned v=>next (a.put o.dst v) w'
     | .panicked chain=>Q' (.panic chain) a w'
     | .outgrown=>LetsOut Q'):=by
    rintro e w' ⟨r,H4,Γ',hend,⟨rfl,rfl⟩,R,E,hn⟩;have hr':=hr.bc E hn hs.heap hri;cases e with
    | returned cv=>exact hnext Γ' _ w' (jC hs hdst E hn R hend) E hn hr' ⟨_,rfl⟩
    | panicked chain=>exact hend.elim
    | outgrown=>exact hend.elim
   rw[hex];rcases h2 with ⟨f,as,h3,h4⟩|⟨l,f,tm,asg,body,h3,h4⟩|⟨cv,w',h3,h4⟩
   ·rw[h3];refine⟨fun hc=>by simp [Fence.wide]at hc,?_⟩;have h4':CallsIn (dz rb) 0 P f as w _:=h4;refine h4'.mono ?_;intro e w' hp;have:=cont e w' hp;cases e<;>exact this
   ·rw[h3];refine⟨fun hc=>by simp [Fence.wide]at hc,?_⟩;have h4':RoundIn (dz rb) 0 P l f tm asg body w _:=h4;refine h4'.mono ?_;intro e w' hp;have:=cont e w' hp;cases e<;>exact this
   ·rw[h3];exact cont (.returned cv) w' h4
def kW (d:Nat->Dt)(H0:AHeap)(m:Nat):AHeap:=⟨aV d H0.get m fun _=>true,H0.next+aD d m⟩
def canon (all:Array Oper)(d:Nat->Dt)(s0:St)(m:Nat):St:=⟨bb all d s0.ρ m fun _=>true,kW d s0.H m⟩
structure GoodAt (P:Program)(G:Nat->Option (List AVal))(all:Array Oper)(bs:List Nat)(s0:St)(d:Nat->Dt)(i:Nat):Prop where
 step:∀ o,all[i]?=some o->∀ ρ2 H2,(∀ t,t∈o.looksAt all->ρ2 t=(canon all d s0 i).ρ t)->(∀ r,r∈(d i).f.rs->H2.get r=(canon all d s0 i).H.get r) ->
  (∀ c,c<(d i).al->H2.get (s0.H.next+aD d i+c)=some .rsv)->s0.H.next+aD d i+(d i).al<=H2.next ->
  ExecOk P G all o (s0.H.next+aD d i) ⟨ρ2,H2⟩ ⟨aI ρ2 o.dst (d i).v,⟨cP (d i).e H2.get,H2.next⟩⟩
 eff:∀ r,cZ (d i) r->r∈(d i).f.eff/\(r∈(d i).f.rs\/(s0.H.next+aD d i<=r/\r<s0.H.next+aD d i+(d i).al))
 al:∀ c,c<(d i).al->cZ (d i) (s0.H.next+aD d i+c)
 lt:∀ r,r∈(d i).f.rs->r<s0.H.next+aD d i
 apart:∀ j,j<i->(dc bs i).testBit j=false->(∀ r,r∈(d i).f.eff->r ∉ (d j).f.rs)/\(∀ r,r∈(d j).f.eff->r ∉ (d i).f.rs)
def bS (d:Nat->Dt)(m:Nat)(x:Dt):Nat->Dt:=fun j=>if j=m then x else d j
theorem fG {d:Nat->Dt}{m:Nat}{x:Dt}{i:Nat}(h:i<m):d i=bS d m x i:=by simp [bS,U4 h]
theorem cJ {d:Nat->Dt}{m:Nat}{x:Dt}:bS d m x m=x:=by simp [bS]
theorem kX {all:Array Oper}{d d':Nat->Dt}{s0:St}{m:Nat}(h:∀ j,j<m->d j=d' j):canon all d s0 m=canon all d' s0 m:=by
 unfold canon kW;rw[qm h,qp h,eJ h]
theorem GoodAt.below {all:Array Oper}{bs:List Nat}{s0:St}{d d':Nat->Dt}{i:Nat}(g:GoodAt P G all bs s0 d i)(h:∀ j,j<=i->d j=d' j):GoodAt P G all bs s0 d' i:=by
 have hi:=h i (Nat.le_refl _);have hn:aD d i=aD d' i:=eJ fun j hj=>h j (by omega);have hc:canon all d s0 i=canon all d' s0 i:=kX fun j hj=>h j (by omega);obtain⟨a,b,c,e,f⟩:=g;refine⟨?_,?_,?_,?_,?_⟩
 ·rw[<- hi,<- hn,<- hc];exact a
 ·rw[<- hi,<- hn];exact b
 ·rw[<- hi,<- hn];exact c
 ·rw[<- hi,<- hn];exact e
 ·intro j hj hb;rw[<- hi,<- h j (by omega)];exact f j hj hb
def jz (d:Nat->Dt)(m:Nat)(acc:List (Nat × FP)):Prop:=∀ j,j<m->(d j).f=⟨[],[]⟩\/(j,(d j).f)∈acc
theorem jz.add {d:Nat->Dt}{m:Nat}{acc:List (Nat × FP)}(h:jz d m acc)(x:Dt):jz (bS d m x) (m+1) (eU m x.f acc):=by
 intro j hj;have key:∀ p,p∈acc->p∈eU m x.f acc:=by
  intro p hp;unfold eU;split
  ·exact hp
  ·exact TE _ hp
 by_cases hjm:j=m
 ·subst hjm;rw[cJ];by_cases hf:x.f=⟨[],[]⟩
  ·exact .inl hf
  ·refine .inr ?_;unfold eU;split
   ·rename_i h0;exact absurd h0 hf
   ·exact T5
 ·rw[<- fG (x:=x) (by omega)];exact(h j (by omega)).imp id (key _)
theorem qq {d:Nat->Dt}{m:Nat}{acc:List (Nat × FP)}{b:Nat}{f:FP}(hc:jz d m acc)(h:fS b f acc):∀ j,j<m->b.testBit j=false->(∀ r,r∈f.eff->r ∉ (d j).f.rs)/\(∀ r,r∈(d j).f.eff->r ∉ f.rs):=by
 intro j hj hb;rcases hc j hj with h0|h1
 ·rw[h0];exact⟨fun r _ h=>(by cases h),fun r h=>(by cases h)⟩
 ·exact h _ h1 hb
theorem mZ {all:Array Oper}{d:Nat->Dt}{s0:St}{m:Nat}{x:Dt}{o:Oper}(ho:all[m]?=some o):
  canon all (bS d m x) s0 (m+1)=⟨aI (canon all d s0 m).ρ o.dst x.v,⟨cP x.e (canon all d s0 m).H.get,(canon all d s0 m).H.next+x.al⟩⟩:=by
 have hb:∀ j,j<m->d j=bS d m x j:=fun j hj=>fG hj;unfold canon kW;simp only[bb,aV,aD,if_true,cJ];rw[<- qm hb,<- qp hb,<- eJ hb];simp only[fm,ho,Option.bind_some,UC]
theorem m9 {all:Array Oper}{bs:List Nat}{s0:St}{d:Nat->Dt}{m:Nat}{x:Dt}(hg:∀ i,i<m->GoodAt P G all bs s0 d i)(hx:GoodAt P G all bs s0 (bS d m x) m):
  ∀ i,i<m+1->GoodAt P G all bs s0 (bS d m x) i:=by
 intro i hi;by_cases him:i=m
 ·subst him;exact hx
 ·exact(hg i (by omega)).below fun j hj=>fG (by omega)
theorem trace {all:Array Oper}{bs:List Nat}{s0:St}{tail:St->Prop}{K:Nat}(hbs:bs.length=K)(hK:K<=all.size):∀ (k m:Nat) (d:Nat->Dt) (acc:List (Nat × FP)),k+m=K ->
  (∀ i,i<m->GoodAt P G all bs s0 d i)->jz d m acc->eT (canon all d s0 m).H->dy P G all tail (bs.drop m) m acc ((all.toList.take K).drop m) (canon all d s0 m) ->
  ∃ d',(∀ i,i<K->GoodAt P G all bs s0 d' i)/\tail (canon all d' s0 K):=by
 intro k
 induction k with
 | zero =>
  intro m d acc hm hg hc wf h;obtain rfl:m=K:=by omega
  refine⟨d,hg,?_⟩;have:(all.toList.take m).drop m=[]:=by
   apply Vg;simp only[SX];omega
  rw[this]at h;cases hb:bs.drop m with
  | nil=>rw[hb]at h;simpa only[dy] using h
  | cons b bs'=>rw[hb]at h;simpa only[dy] using h
 | succ k ih =>
  intro m d acc hm hg hc wf h;have hmK:m<K:=by omega
  have hms:m<all.size:=by omega
  have ho:all[m]?=some all[m]:=S3 hms;have hbm:bs.drop m=dc bs m :: bs.drop (m+1):=by
   rw[TC (by omega)];congr 1;simp [dc,SN (show m<bs.length by omega)]
  have hom:(all.toList.take K).drop m=all[m] :: (all.toList.take K).drop (m+1):=by
   rw[TC (by simp only[SX,Ul];omega)];congr 1;simp
  rw[hbm,hom]at h;simp only[dy]at h;obtain⟨t,ht,h⟩:=h;have hnext:(canon all d s0 m).H.next=s0.H.next+aD d m:=rfl;cases t with
  | false =>
   simp only[Bool.false_eq_true,if_false]at h
   let x:Dt:=⟨.lit undef,fun _=>none,0,⟨[],[]⟩⟩
   have hb:∀ j,j<m->d j=bS d m x j:=fun j hj=>fG hj;have hcan:canon all (bS d m x) s0 (m+1)=⟨aI (canon all d s0 m).ρ all[m].dst (.lit undef),(canon all d s0 m).H⟩:=mZ ho;have hgx:GoodAt P G all bs s0 (bS d m x) m:=by
    refine⟨?_,?_,?_,?_,?_⟩
    ·rw[cJ,<- kX hb];intro o ho' ρ2 H2 h1 h2 h3 _;rw[ho]at ho';cases ho';refine .inl ⟨?_,rfl⟩;simp only;rw[oQ h1,ht]
    ·rw[cJ];intro k he;cases he
    ·rw[cJ];intro c he;exact absurd he (S7 _)
    ·rw[cJ];intro r hr;cases hr
    ·rw[cJ];intro j hj hbit;exact⟨fun r hr=>(by cases hr),fun r hr hr'=>(by cases hr')⟩
   refine ih (m+1) (bS d m x) acc (by omega) (m9 hg hgx) (hc.add x) ?_ ?_
   ·rw[hcan];exact wf
   ·rw[hcan];exact h
  | true =>
   simp only[if_true]at h;unfold cD at h;split at h
   ·rename_i fv args ats hop;obtain⟨v,e,k,f,⟨hlt,heff,hnew,hcall⟩,hap,h⟩:=h
    let x:Dt:=⟨v,e,k,f⟩
    have hb:∀ j,j<m->d j=bS d m x j:=fun j hj=>fG hj;have hcan:canon all (bS d m x) s0 (m+1)=⟨aI (canon all d s0 m).ρ all[m].dst v,⟨cP e (canon all d s0 m).H.get,(canon all d s0 m).H.next+k⟩⟩:=mZ ho;have hgx:GoodAt P G all bs s0 (bS d m x) m:=by
     refine⟨?_,?_,?_,?_,?_⟩
     ·rw[cJ,<- kX hb,<- eJ hb];intro o ho' ρ2 H2 h1 h2 h3 h4;rw[ho]at ho';cases ho';refine .inr ⟨?_,v,rfl,.inr ⟨fv,args,ats,hop,?_,?_⟩⟩
      ·simp only;rw[oQ h1,ht]
      ·intro id st pend q env ps asg body hid;refine l8 fun hs=>?_;rcases(heff id hs).2 with ⟨hrs,g,t,c,hg⟩|⟨g1,g2⟩
       ·have e9:=h2 id hrs;simp only at hid;rw[hid,hg]at e9;cases e9
       ·obtain⟨c,rfl⟩:∃ c,id=(canon all d s0 m).H.next+c:=⟨id - (canon all d s0 m).H.next,by omega⟩
        have e9:H2.get ((canon all d s0 m).H.next+c)=some .rsv:=h3 c (show c<k by omega);simp only at hid;rw[hid]at e9;cases e9
      ·have hev:=sU (G:=G) h1;have e1:ak G ρ2 fv=ak G (canon all d s0 m).ρ fv:=hev fv (by simp [hop,Op.operands,Call.operands]);have e2:args.toList.map (ak G ρ2)=args.toList.map (ak G (canon all d s0 m).ρ) :=
        Ti fun y hy=>hev y (by simp only[hop,Op.operands,Call.operands];simp;exact .inr (by simpa using hy))
       simp only;rw[e1,e2];exact hcall H2 h2 h3 h4
     ·rw[cJ,<- eJ hb];intro r hr;exact⟨(heff r hr).1,(heff r hr).2.imp (fun h=>h.1) id⟩
     ·rw[cJ,<- eJ hb];exact hnew
     ·rw[cJ,<- eJ hb];exact hlt
     ·rw[cJ];intro j hj hbit;rw[<- fG hj];exact qq hc hap j hj hbit
    refine ih (m+1) (bS d m x) _ (by omega) (m9 hg hgx) (hc.add x) ?_ ?_
    ·rw[hcan];intro id b hid;show id<(canon all d s0 m).H.next+k;simp only at hid;by_cases hs:(e id).isSome=true
     ·rcases(heff id hs).2 with ⟨hrs,_⟩|⟨_,g2⟩
      ·have:=hlt id hrs;omega
      ·exact g2
     ·rw[l8 hs]at hid;have:=wf id b hid;omega
    ·rw[hcan];exact h
   ·obtain⟨⟨v,H'⟩,hop,hap,h⟩:=h;obtain⟨e,al,hget,hnx,heff,hal,hlt,hloc⟩:=wT wf hop
    let x:Dt:=⟨v,lY e,(if al=true then 1 else 0),bt P G (canon all d s0 m).ρ (canon all d s0 m).H.next all[m].op⟩
    have hb:∀ j,j<m->d j=bS d m x j:=fun j hj=>fG hj;have hcan:canon all (bS d m x) s0 (m+1)=⟨aI (canon all d s0 m).ρ all[m].dst v,H'⟩:=by
     rw[mZ ho];congr 1;cases H';simp only at hget hnx;simp only[AHeap.mk.injEq];refine⟨(Ad _ _).trans hget.symm,?_⟩;rw[hnx];simp only[x];cases al<;>simp
    have hgx:GoodAt P G all bs s0 (bS d m x) m:=by
     refine⟨?_,?_,?_,?_,?_⟩
     ·rw[cJ,<- kX hb,<- eJ hb];intro o ho' ρ2 H2 h1 h2 h3 h4;rw[ho]at ho';cases ho';refine .inr ⟨?_,v,rfl,.inl ?_⟩
      ·simp only;rw[oQ h1,ht]
      ·simp only;rw[AV (ρ':=(canon all d s0 m).ρ) (sU h1),Ad];refine hloc H2 h2 fun ha=>?_;subst ha;have h5:=h3 0 (by simp [x]);simp only[x,if_true]at h4;refine⟨h5,?_⟩;rw[hnext];omega
     ·rw[cJ,<- eJ hb];intro r hr;unfold cZ at hr;simp only[x,lY]at hr;cases he:e with
      | none=>rw[he]at hr;cases hr
      | some kb =>
       obtain⟨k0,b0⟩:=kb;rw[he]at hr;simp only at hr;by_cases hrk:r=k0
       ·subst hrk;obtain⟨h1,h2⟩:=heff r b0 he;refine⟨h1,?_⟩;cases hal2:al with
        | false=>exact .inl (h2 hal2)
        | true =>
         obtain⟨b1,hb1⟩:=hal hal2;rw[he]at hb1;simp only[Option.some.injEq,Prod.mk.injEq]at hb1;refine .inr ?_;simp only[x,hal2,if_true];rw[hnext]at hb1;omega
       ·rw[SO hrk]at hr;cases hr
     ·rw[cJ,<- eJ hb];intro c hc2;cases hal2:al with
      | false=>simp [x,hal2]at hc2
      | true =>
       simp only[x,hal2,if_true]at hc2;obtain⟨b1,hb1⟩:=hal hal2;obtain rfl:c=0:=(by omega);unfold cZ;simp only[x,lY,hb1,Nat.add_zero];rw[hnext];simp
     ·rw[cJ,<- eJ hb];exact hlt
     ·rw[cJ];intro j hj hbit;rw[<- fG hj];exact qq hc hap j hj hbit
    have wf':eT H':=by
     intro id b hid;rw[hget]at hid;rw[hnx];cases e with
     | none =>
      have:=wf id b hid;split<;>omega
     | some kb =>
      obtain⟨k0,b0⟩:=kb;simp only[dB]at hid;split at hid
      ·rename_i hk;subst hk;cases al with
       | true =>
        obtain⟨b1,hb1⟩:=hal rfl;simp only[Option.some.injEq,Prod.mk.injEq]at hb1;simp only[if_true];omega
       | false =>
        have:=hlt _ ((heff id b0 rfl).2 rfl);simpa using this
      ·have:=wf id b hid;split<;>omega
    refine ih (m+1) (bS d m x) _ (by omega) (m9 hg hgx) (hc.add x) ?_ ?_
    ·rw[hcan];exact wf'
    ·rw[hcan];exact h
end Go.Hx.Ev
namespace Go.Hx.Ev
open Go.Hx
variable {P:Program} {G:Nat->Option (List AVal)} {Γ Γ':aC} {H H':AHeap} {w w':World}
def dO (all:Array Oper)(d:Nat->Dt)(s0:St)(K:Nat)(D:Nat->Bool):St :=
 ⟨bb all d s0.ρ K D,⟨aV d (bF s0.H (aD d K)).get K D,s0.H.next+aD d K⟩⟩
theorem wj {all:Array Oper}{bs:List Nat}{K:Nat}(S:Static all bs K){d:Nat->Dt}{s0:St}(hg:∀ i,i<K->GoodAt P G all bs s0 d i){D:Nat->Bool}{i:Nat}{o:Oper}(hi:i<K)(ho:all[i]?=some o)(hDi:D i=false)
  (hdown:∀ j,j<i->(dc bs i).testBit j=true->D j=true) (hup:∀ j,i<j->j<K->D j=true->(dc bs j).testBit i=false):
  ExecOk P G all o (s0.H.next+aD d i) (dO all d s0 K D) (dO all d s0 K (bM D i)):=by
 have hget:∀ j,j<K->∃ oj,all[j]?=some oj:=fun j hj=>⟨_,S3 (S6 hj S.le)⟩
 have hgi:=hg i hi;have tgtE:∀ j r,j<K->cZ (d j) r->r∈(d j).f.eff/\(r∈(d j).f.rs\/(s0.H.next+aD d j<=r/\r<s0.H.next+aD d j+(d j).al)):=fun j r hj ht=>(hg j hj).eff r ht;have rangeK:∀ r,r<s0.H.next+aD d i->((bF s0.H (aD d K)).get r=s0.H.get r\/∃ j,j<i/\(fun _:Nat=>true) j=true/\cZ (d j) r):=by
  intro r hr;by_cases h:s0.H.next<=r
  ·obtain⟨j,h1,h2,h3⟩:=qk (d:=d) (n:=i) (c:=r - s0.H.next) (by omega);have:=(hg j (by omega)).al (r - s0.H.next - aD d j) (by omega);rw[show s0.H.next+aD d j+(r - s0.H.next - aD d j)=r by omega]at this;exact .inr ⟨j,h1,rfl,this⟩
  ·left;simp only[bF];rw[SO (by omega)]
 have henv:∀ t,t∈o.looksAt all->bb all d s0.ρ K D t=(canon all d s0 i).ρ t:=by
  intro t ht;show _=bb all d s0.ρ i (fun _=>true) t;rw[<- v7 (all:=all) (d:=d) (ρ0:=s0.ρ) (m:=i) (n:=K) (by omega)];refine mX fun j hj hdj=>?_;obtain⟨oj,hoj⟩:=hget j hj;rw[mb hoj]at hdj;rcases UM j i with h|rfl|h
  ·cases hb:(dc bs i).testBit j with
   | true=>rw[hdown j h hb];simp [h]
   | false=>exact absurd ht ((oV (S.apart i j o oj hi h ho hoj hb)).1 t hdj)
  ·rw[hDi];simp
  ·cases hD:D j with
   | false=>symm;simp;omega
   | true=>exact absurd ht ((oV (S.apart j i oj o hj h hoj ho (hup j h hj hD))).2.1 t hdj)
 have hheap:∀ r,r∈(d i).f.rs->aV d (bF s0.H (aD d K)).get K D r=(canon all d s0 i).H.get r:=by
  intro r hr;show _=aV d s0.H.get i (fun _=>true) r;rw[<- qj (g0:=(bF s0.H (aD d K)).get) (rangeK r (hgi.lt r hr)),<- v9 (m:=i) (n:=K) (by omega)];refine mY fun j hj ht=>?_;obtain⟨he,_⟩:=tgtE j r hj ht;rcases UM j i with h|rfl|h
  ·cases hb:(dc bs i).testBit j with
   | true=>rw[hdown j h hb];simp [h]
   | false=>exact absurd hr ((hgi.apart j h hb).2 r he)
  ·rw[hDi];simp
  ·cases hD:D j with
   | false=>symm;simp;omega
   | true=>exact absurd hr (((hg j hj).apart i h (hup j h hj hD)).1 r he)
 have hal:∀ c,c<(d i).al->aV d (bF s0.H (aD d K)).get K D (s0.H.next+aD d i+c)=some .rsv:=by
  intro c hc;have hlt:=ka (d:=d) hi;have heff:=(hgi.eff _ (hgi.al c hc)).1;rw[wc]
  ·simp only[bF];rw[SQ (by omega)]
  ·intro j hj hD ht;obtain⟨h1,h2⟩:=tgtE j _ hj ht;rcases UM j i with h|rfl|h
   ·rcases h2 with h3|⟨h2,h3⟩
    ·have:=(hg j hj).lt _ h3;have:=oD (d:=d) (VC h);omega
    ·have:=ka (d:=d) h;omega
   ·rw[hDi]at hD;cases hD
   ·rcases h2 with h3|⟨h2,h3⟩
    ·exact absurd h3 (((hg j hj).apart i h (hup j h hj hD)).2 _ heff)
    ·have:=ka (d:=d) h;omega
 have:=hgi.step o ho (bb all d s0.ρ K D) ⟨aV d (bF s0.H (aD d K)).get K D,s0.H.next+aD d K⟩ henv hheap hal (by have:=ka (d:=d) hi;simp only;omega);have e1:bb all d s0.ρ K (bM D i)=aI (bb all d s0.ρ K D) o.dst (d i).v:=by
  rw[we hDi hi,mb ho];intro j h hj hD t hti;obtain⟨oj,hoj⟩:=hget j hj;rw[mb ho]at hti;rw[mb hoj];exact(oV (S.apart j i oj o hj h hoj ho (hup j h hj hD))).2.2 t hti
 have e2:aV d (bF s0.H (aD d K)).get K (bM D i)=cP (d i).e (aV d (bF s0.H (aD d K)).get K D):=by
  refine wg hDi hi fun j h hj hD r hti htj=>?_;obtain⟨a1,a2⟩:=tgtE i r hi hti;obtain⟨b1,b2⟩:=tgtE j r hj htj;obtain⟨c1,c2⟩:=(hg j hj).apart i h (hup j h hj hD);rcases b2 with b3|⟨b2,b3⟩
  ·exact c2 r a1 b3
  ·rcases a2 with a3|⟨a2,a3⟩
   ·exact c1 r b1 a3
   ·have:=ka (d:=d) h;omega
 unfold dO;rw[e1,e2];exact this
theorem qt {all:Array Oper}{bs:List Nat}{K:Nat}{d:Nat->Dt}{s0:St}(hg:∀ i,i<K->GoodAt P G all bs s0 d i){D:Nat->Bool}(hD:∀ j,j<K->D j=true):dO all d s0 K D=canon all d s0 K:=by
 unfold dO canon kW;have e1:bb all d s0.ρ K D=bb all d s0.ρ K fun _=>true:=funext fun t=>mX fun j hj _=>hD j hj;have e2:aV d (bF s0.H (aD d K)).get K D=aV d s0.H.get K fun _=>true:=by
  funext r
  rw[mY (D':=fun _=>true) fun j hj _=>hD j hj];refine qj ?_;by_cases h:s0.H.next<=r/\r<s0.H.next+aD d K
  ·obtain⟨j,h1,h2,h3⟩:=qk (d:=d) (n:=K) (c:=r - s0.H.next) (by omega);have:=(hg j h1).al (r - s0.H.next - aD d j) (by omega);rw[show s0.H.next+aD d j+(r - s0.H.next - aD d j)=r by omega]at this;exact .inr ⟨j,h1,rfl,this⟩
  ·left;simp only[bF];rw[SO h]
 rw[e1,e2]
theorem wo {all:Array Oper}{K:Nat}{d:Nat->Dt}{s0:St}{D:Nat->Bool}(hD:∀ j,j<K->D j=false):dO all d s0 K D=⟨s0.ρ,bF s0.H (aD d K)⟩:=by
 unfold dO;have e1:∀ n,n<=K->bb all d s0.ρ n D=s0.ρ:=by
  intro n
  induction n with
  | zero=>intro _;rfl
  | succ n ih=>intro h;simp only[bb];rw[SO (by simp [hD n h])];exact ih (by omega)
 have e2:∀ n,n<=K->aV d (bF s0.H (aD d K)).get n D=(bF s0.H (aD d K)).get:=by
  intro n
  induction n with
  | zero=>intro _;rfl
  | succ n ih=>intro h;simp only[aV];rw[SO (by simp [hD n h])];exact ih (by omega)
 rw[e1 K (Nat.le_refl _),e2 K (Nat.le_refl _)];rfl
variable {n:Nat} {wb:Base} {rd rb:Option Nat} {Q:AX->St->Prop} {all:Array Oper} {bs:List Nat} {K:Nat} {id:Nat} {dr:Bool}
theorem wu (S:Static all bs K)(hfit:∀ o,o∈all.toList->fj n o=true){d:Nat->Dt}{s0:St}(hg:∀ i,i<K->GoodAt P G all bs s0 d i)(htail:opsV P G rd Q all (all.toList.drop K) (canon all d s0 K)):
  ∀ (r:Nat) (listed:Array Bool) (D:Nat->Bool) (Γ:aC) (a:Act) (w:World),listed.size=all.size->eo listed all.size=r->(∀ j,j<all.size->listed.getD j true=D j)->(∀ j,D j=true->j<K)->sY all D ->
  RelS P G n wb Γ (dO all d s0 K D) a w->dp Γ (dO all d s0 K D).H rd rb ->
  ∀ (Q':Exit->Act->World->Prop),(∀ e a' w',fR P G n wb rd rb (wr (.region id all dr)) Γ (dO all d s0 K D).H a w Q e a' w'->Q' e a' w')->wpAnyIn (dz rb) 0 P .any all Q' r listed a w:=by
 intro r
 induction r with
 | zero =>
  intro listed D Γ a w hsz hc hl hlow hL hs hr Q' hq;have hall:∀ j,j<K->D j=true:=fun j hj=>by rw[<- hl j (S6 hj S.le)];exact sZ hc j (S6 hj S.le)
  have hKs:K=all.size:=by
   rcases Te K all.size with h|h
   ·have h1:=sZ hc K h;rw[hl K h]at h1;have:=hlow K h1;omega
   ·have:=S.le;omega
  rw[qt hg hall]at hs hr hq;exact s8 S hfit 0 K listed _ Γ a w (by omega) (Nat.le_refl _) hsz hc (fun j hj=>by rw[hl j hj];exact⟨hlow j,hall j⟩) htail hs hr Q' hq
 | succ r ih =>
  intro listed D Γ a w hsz hc hl hlow hL hs hr Q' hq;by_cases hall:∀ j,j<K->D j=true
  ·rw[qt hg hall]at hs hr hq;have hcount:∀ m,m<=all.size->eo listed m=m - K:=by
    intro m
    induction m with
    | zero=>intro _;simp [eo]
    | succ m ihm =>
     intro hm;simp only[eo];rw[ihm (by omega),hl m (by omega)];by_cases hmK:m<K
     ·rw[hall m hmK];simp;omega
     ·have:D m=false:=by
       cases hD:D m with
       | false=>rfl
       | true=>exact absurd (hlow m hD) hmK
      rw[this];simp;omega
   have h1:=hcount all.size (Nat.le_refl _);exact s8 S hfit (r+1) K listed _ Γ a w (by have:=S.le;omega) (Nat.le_refl _) hsz hc (fun j hj=>by rw[hl j hj];exact⟨hlow j,hall j⟩) htail hs hr Q' hq
  ·have hex:∃ j,j<K/\D j=false:=by
    by_cases h:∃ j,j<K/\D j=false
    ·exact h
    ·refine absurd (fun j hj=>?_) hall;cases hD:D j with
     | true=>rfl
     | false=>exact absurd ⟨j,hj,hD⟩ h
   have least:∀ k,(∃ j,j<k/\j<K/\D j=false)->∃ j,j<K/\D j=false/\∀ i,i<j->D i=true:=by
    intro k
    induction k with
    | zero=>rintro⟨j,hj,_⟩;omega
    | succ k ihk =>
     rintro⟨j,h1,h2,h3⟩;by_cases h:∃ j,j<k/\j<K/\D j=false
     ·exact ihk h
     ·refine⟨j,h2,h3,fun i hi=>?_⟩;cases hD:D i with
      | true=>rfl
      | false=>exact absurd ⟨i,by omega,by omega,hD⟩ h
   obtain⟨j0,hj0K,hj0,hbelow⟩:=least K (let ⟨j,h1,h2⟩:=hex;⟨j,h1,h1,h2⟩);have hj0s:j0<all.size:=S6 hj0K S.le;have hr0:j0∈Region.ready .any all listed:=by
    refine mem_ready.2 ⟨by rw[hl j0 hj0s];exact hj0,_,S3 hj0s,fun e he hb=>?_⟩;have hlt:=S.down j0 _ (S3 hj0s) e he hb;rw[nj (by omega) false true,hl e.on (by omega)];exact hbelow _ hlt
   refine⟨fun h0=>(by rw[h0]at hr0;cases hr0),fun i hi=>?_⟩;obtain⟨hiun,oi,hoi,hdir⟩:=mem_ready.1 hi;have his:=(TT.1 hoi).1;have hdirD:∀ e,e∈oi.after->Region.binds .any e=true->D e.on=true:=fun e he hb=>by
    have:=S.down i oi hoi e he hb;rw[<- hl e.on (by omega),<- nj (by omega) false true];exact hdir e he hb
   have hahead:=S.ahead hL i oi;have hiK:i<K:=by
    rcases Te i K with h|h
    ·exact h
    ·have:=hahead j0 hoi hdirD (by rw[SO (by omega)];omega);rw[hj0]at this;cases this
   have hDi:D i=false:=(by rw[<- hl i his];exact hiun);have hex:=wj (P:=P) (G:=G) S hg hiK hoi hDi (fun j hj hb=>hahead j hoi hdirD (by rw[SQ hiK];exact hb)) (fun j h1 h2 hD=>by
    cases hb:(dc bs j).testBit i with
    | false=>rfl
    | true =>
     have hjs:j<all.size:=S6 h2 S.le;have:=S.ahead hL j _ i (S3 hjs) (fun e he hbe=>hL j _ hD (S3 hjs) e he hbe) (by rw[SQ h2];exact hb);rw[hDi]at this;cases this)
   have hoi':oi=all[i]:=by
    rw[S3 his]at hoi;exact(Option.some.inj hoi).symm
   refine wh hoi (hfit oi (by rw[hoi'];simp)) hs hr hex ?_;rintro Γ' a' w' hs' E hn hr' ⟨cv,rfl⟩;have hc':eo (listed.setIfInBounds i true) all.size=r:=by
    have:=wZ hiun all.size;rw[SQ his]at this;omega
   refine ih (listed.setIfInBounds i true) (bM D i) Γ' _ w' (by simpa using hsz) hc' ?_ ?_ ?_ hs' hr' Q' fun e a'' w'' hp=>hq _ _ _ (hp.step E hn (by rw[hoi'];exact oH his cv) fun _ h=>h)
   ·intro j hj;by_cases hji:j=i
    ·subst hji;simp [bM]
    ·rw[getD_set_ne true (Ne.symm hji),hl j hj];simp [bM,hji]
   ·intro j hj;by_cases hji:j=i
    ·subst hji;exact hiK
    ·simp only[bM,SO hji]at hj;exact hlow j hj
   ·intro k ok hk hok e he hb;by_cases hki:k=i
    ·subst hki;rw[hoi]at hok;cases hok;have:=hdirD e he hb;simp only[bM];split
     ·rfl
     ·exact this
    ·simp only[bM,SO hki]at hk;have:=hL k ok hk hok e he hb;simp only[bM];split
     ·rfl
     ·exact this
theorem W.FW {s:St}(K:Nat)(bs:List Nat)(hm:P.follows .mixedOrders=true)(hfit:all.toList.all (fj n)=true)(hst:qD all bs K=true)
  (h:dy P G all (opsV P G rd Q all (all.toList.drop K)) bs 0 [] (all.toList.take K) s):W P G n rd (.region id all true) Q s:=by
 intro wb Γ a w rb hs hr;have S:=Bf hst;have hfit':∀ o,o∈all.toList->fj n o=true:=fun o ho=>Tf.1 hfit o ho;have wf:eT s.H:=fun id b hb=>hs.heap.next id b hb;have hcan0:canon all (fun _=>⟨.lit undef,fun _=>none,0,⟨[],[]⟩⟩) s 0=s:=rfl;obtain⟨d,hg,htail⟩:=trace (P:=P) (G:=G) (all:=all) (bs:=bs) (s0:=s) (tail:=opsV P G rd Q all (all.toList.drop K)) S.len S.le K 0 (fun _=>⟨.lit undef,fun _=>none,0,⟨[],[]⟩⟩) [] (by omega)
  (fun i hi=>by omega) (fun j hj=>by omega) (by rw[hcan0];exact wf) (by rw[hcan0];exact h)
 refine wpIn_region_any hm ?_
 let w1:World:={ w with drawn:=w.drawn+1 }
 have R1:RelH P G Γ s.H w1:=hs.heap.move rfl (oY w) (Nat.le_refl _) (fun id b hb=>.inl hb) fun id b hb=>hb;have hs1:RelS P G n wb Γ s a w1:=hs.move (oY w) (Nat.le_refl _) R1;have hs2:RelS P G n wb Γ ⟨s.ρ,bF s.H (aD d K)⟩ a w1:=hs1.move (qF _ _) (by simp [bF]) (Bh R1 _);have hr2:dp Γ (bF s.H (aD d K)) rd rb:=hr.move fun id b hb=>by
  simp only[bF];rw[SO]
  ·exact hb
  ·have:=hs.heap.next id b hb;omega
 have e0:dO all d s K (fun _=>false)=⟨s.ρ,bF s.H (aD d K)⟩:=wo fun _ _=>rfl;refine wu (wb:=wb) (id:=id) (dr:=true) S hfit' hg htail all.size _ (fun _=>false) Γ a w1 (by simp) (Bi _ (Nat.le_refl _)) ?_ ?_ ?_ ?_ ?_ _ ?_
 ·intro j hj;rw[Ty,UV,SQ hj];rfl
 ·intro j hj;cases hj
 ·intro i o hi;cases hi
 ·rw[e0];exact hs2
 ·rw[e0];exact hr2
 ·rw[e0];intro e a' w' hp;refine hp.step ?_ (by simp [bF]) (.refl _ _) fun _ h=>h;exact Evo.trans (oY w) (Nat.le_refl _) (qF _ _)
end Go.Hx.Ev
namespace Go.Hx.Ev
open Go.Hx
variable {P:Program} {G:Nat->Option (List AVal)} {Γ Γ':aC} {H H':AHeap} {w w':World}
inductive Cln (K:Nat->Prop):AVal->Prop
 | lit (v:Value):Cln K (.lit v)
 | nil:Cln K (.vec 0 [])
 | agg {c:List AVal} (h:∀ i (h:i<c.length),Cln K c[i]):Cln K (.agg c)
 | tup {c:List AVal} (h:∀ i (h:i<c.length),Cln K c[i]):Cln K (.tup c)
 | clo {f:FuncId} {a b:List AVal} (h1:∀ i (h:i<a.length),Cln K a[i]) (h2:∀ i (h:i<b.length),Cln K b[i]):Cln K (.clo f a b)
 | own {id g o l z:Nat} (h:K id):Cln K (.own id g o l z)
 | ptr {id g o:Nat} (h:K id):Cln K (.ptr id g o)
theorem Cln.mono {K K':Nat->Prop}{v:AVal}(h:Cln K v)(hk:∀ id,K id->K' id):Cln K' v:=by
 induction h with
 | lit v=>exact .lit v
 | nil=>exact .nil
 | agg _ ih=>exact .agg ih
 | tup _ ih=>exact .tup ih
 | clo _ _ ih1 ih2=>exact .clo ih1 ih2
 | own h=>exact .own (hk _ h)
 | ptr h=>exact .ptr (hk _ h)
theorem Cln.fz {S:Nat->Prop}{nx:Nat}{v:AVal}(h:Cln (fun id=>¬ S id/\id<nx) v):Fz S H nx v v:=by
 induction h with
 | lit v=>exact .lit v
 | nil=>exact .vec rfl fun i h=>absurd h (S7 _)
 | agg _ ih=>exact .agg rfl fun i h _=>ih i h
 | tup _ ih=>exact .tup rfl fun i h _=>ih i h
 | clo _ _ ih1 ih2=>exact .clo rfl rfl (fun i h _=>ih1 i h) fun i h _=>ih2 i h
 | own h=>exact .own h.2 h.1
 | ptr h=>exact .ptr h.2 h.1
theorem Cln.sound {K:Nat->Prop}{Γ₁ Γ₂:aC}{H₁ H₂:AHeap}(hK:∀ id,K id->H₂.get id=H₁.get id/\Γ₂ id=Γ₁ id)(hn:H₁.next<=H₂.next){v:AVal}(h:Cln K v):
  ∀ {cv:Value},RelV P Γ₁ H₁ w v cv->RelV P Γ₂ H₂ w v cv:=by
 induction h with
 | lit v=>intro cv h;cases h;exact .lit _
 | nil =>
  intro cv h;cases h with
  | vec0 a cap=>exact .vec0 a cap
  | vec hb hlt hlen hcs hcell hrel=>exact .vec0 _ _
 | agg _ ih=>intro cv h;cases h with|agg hcs hrel=>exact .agg hcs fun i h1 h2=>ih i h1 (hrel i h1 h2)
 | tup _ ih=>intro cv h;cases h with|tup hcs hrel=>exact .tup hcs fun i h1 h2=>ih i h1 (hrel i h1 h2)
 | clo _ _ ih1 ih2=>intro cv h;cases h with|clo hfs hcs hf hc=>exact .clo hfs hcs (fun i h1 h2=>ih1 i h1 (hf i h1 h2)) fun i h1 h2=>ih2 i h1 (hc i h1 h2)
 | own h =>
  intro cv hv;cases hv with
  | own hv =>
   obtain⟨a,b,c,d⟩:=hv;obtain⟨e1,e2⟩:=hK _ h;refine .own ⟨by omega,b,by rw[e1];exact c,fun g e cells hg=>?_⟩;rw[e1]at hg;rw[e2];exact d g e cells hg
 | ptr h =>
  intro cv hv;cases hv with
  | ptr hv =>
   obtain⟨a,b,c,d⟩:=hv;obtain⟨e1,e2⟩:=hK _ h;refine .ptr ⟨by omega,b,by rw[e1];exact c,fun g e cells hg=>?_⟩;rw[e1]at hg;rw[e2];exact d g e cells hg
def jA (lo hi:Nat)(lv:Nat->Bool)(g:Nat->Option Blk):Nat->Option Blk:=fun id=>if lo<=id/\id<hi then (if lv id=true then g id else some (.arr 0 0 [])) else none
def sH (lo hi:Nat):List Nat:=(List.range (hi - lo)).map (·+lo)
theorem FX {lo hi r:Nat}(h1:lo<=r)(h2:r<hi):r∈sH lo hi:=by
 unfold sH;rw[S9];exact⟨r - lo,by rw[To];omega,by omega⟩
open Classical in
theorem lZ.mk {f:FuncId}{first cap args args':List AVal}{v:AVal}(Hs Hs':AHeap)(kp:Nat->Prop)(lv:Nat->Bool)(rs:List Nat)(hG:eL G)
  (hrs:∀ r,r∈rs->r<H.next) (hnx:Hs.next=H.next) (hle:Hs.next<=Hs'.next)
  (hkp:∀ id,kp id->id∈rs/\Hs.get id=H.get id/\Hs'.get id=H.get id/\∃ g e c,H.get id=some (.arr g e c)/\∀ i (h:i<c.length),Cln kp c[i])
  (hgone:∀ id,¬ kp id->Hs.get id=none)
  (hl:args'.length=(first++args++cap).length)
  (hargs:∀ H2:AHeap,(∀ r,r∈rs->H2.get r=H.get r)->∀ i (h:i<(first++args++cap).length) (h':i<args'.length),Fz (fun id=>¬ kp id) H2 H.next (first++args++cap)[i] args'[i])
  (hcall:ae P G f args' Hs fun r H'=>r=.ret v/\H'=Hs')
  (hv:Cln (fun id=>kp id\/(H.next<=id/\id<Hs'.next/\lv id=true)) v)
  (hnew:∀ id,H.next<=id->id<Hs'.next->lv id=true->∃ g e c,Hs'.get id=some (.arr g e c)/\∀ i (h:i<c.length),Cln (fun id=>kp id\/(H.next<=id/\id<Hs'.next/\lv id=true)) c[i]):
  lZ P G (.clo f first cap) args H v (jA H.next Hs'.next lv Hs'.get) (Hs'.next - H.next) ⟨sH H.next Hs'.next,rs⟩:=by
 have hsome:∀ id,H.next<=id->id<Hs'.next->(jA H.next Hs'.next lv Hs'.get id).isSome=true:=by
  intro id h1 h2;unfold jA;rw[SQ ⟨h1,h2⟩];split
  ·rename_i h3;obtain⟨g,e,c,h4,_⟩:=hnew id h1 h2 h3;rw[h4];rfl
  ·rfl
 have hout:∀ id,(jA H.next Hs'.next lv Hs'.get id).isSome=true->H.next<=id/\id<Hs'.next:=by
  intro id h;unfold jA at h;split at h
  ·assumption
  ·cases h
 refine⟨hrs,fun r hr=>?_,fun c hc=>hsome _ (by omega) (by omega),?_⟩
 ·obtain⟨h1,h2⟩:=hout r hr;exact⟨FX h1 h2,.inr ⟨h1,by omega⟩⟩
 intro H2 hag hres hn2;refine aB.clo ⟨hcall.1,fun Γ w cargs R hr=>?_⟩
 let S:Nat->Prop:=fun id=>¬ kp id
 have kpO:∀ id,¬ S id->kp id:=fun id h=>TG h;have hkH2:∀ id,kp id->H2.get id=H.get id:=fun id h=>hag id (hkp id h).1;have hlow:∀ id,kp id->id<H.next:=fun id h=>hrs id (hkp id h).1;have F:FzH S H2 Hs:=by
  refine⟨fun id hs=>hgone id hs,fun id b hs hb=>?_,fun id hs hb=>?_⟩
  ·have hk:=kpO id hs;obtain⟨h1,h2,h3,g,e,c,h4,h5⟩:=hkp id hk;rw[hkH2 id hk,h4]at hb;cases hb;refine⟨by rw[hnx];exact hlow id hk,.arr g e c,by rw[h2,h4],rfl,rfl,rfl,fun i hi _=>?_⟩;exact((h5 i hi).mono fun id hk=>⟨fun hs=>hs hk,by rw[hnx];exact hlow id hk⟩).fz
  ·have hk:=kpO id hs;obtain⟨h1,h2,h3,g,e,c,h4,h5⟩:=hkp id hk;rw[hkH2 id hk,h4]at hb;cases hb
 have R0:RelH P G (eV S Γ) Hs w:=F.rel hG R;have hr0:da P (eV S Γ) Hs w args' cargs:=⟨by have:=hr.1;omega,fun i h1 h2=>(by
  have:=hargs H2 hag i (by omega) h1;rw[<- hnx]at this;exact this.sound R F (hr.2 i (by omega) h2))⟩
 refine(hcall.2 _ w cargs R0 hr0).mono ?_;rintro e w' ⟨r,H',Γ',hend,⟨rfl,rfl⟩,R',E,hn⟩
 let nw:Nat->Prop:=fun id=>H.next<=id/\id<H'.next
 let lw:Nat->Prop:=fun id=>H.next<=id/\id<H'.next/\lv id=true
 let Γ3:aC:=fun id=>if lw id then Γ' id else Γ id
 let H3:AHeap:=⟨cP (jA H.next H'.next lv H'.get) H2.get,H2.next⟩
 have hnle:H'.next<=H2.next:=by omega
 have g3l:∀ id,lw id->Γ3 id=Γ' id:=fun id h=>SQ h;have g3o:∀ id,¬ lw id->Γ3 id=Γ id:=fun id h=>SO h;have kold:∀ id,kp id->¬ nw id:=fun id h hn=>by have:=hlow id h;have:=hn.1;omega
 have koldl:∀ id,kp id->¬ lw id:=fun id h hn=>kold id h ⟨hn.1,hn.2.1⟩;have gk:∀ id,kp id->Γ' id=Γ id:=by
  intro id hk;obtain⟨h1,h2,h3,g,e,c,h4,h5⟩:=hkp id hk;have hlo:=hlow id hk;obtain⟨x,hx,hle'⟩:=E.live id (by omega) (by omega) (.arr g e c) (by rw[h3,h4]);rw[h2,h4]at hx;cases hx;rw[(hle'.2 rfl).1];exact iE fun hs=>hs hk
 have h3new:∀ id,nw id->H3.get id=jA H.next H'.next lv H'.get id:=by
  intro id h;show cP _ _ id=_;unfold cP;have:=hsome id h.1 h.2;split
  ·rename_i b hb;rw[hb]
  ·rename_i hb;rw[hb]at this;cases this
 have h3live:∀ id,lw id->H3.get id=H'.get id:=by
  intro id h;rw[h3new id ⟨h.1,h.2.1⟩];unfold jA;rw[SQ ⟨h.1,h.2.1⟩,SQ h.2.2]
 have h3dead:∀ id,nw id->¬ lw id->H3.get id=some (.arr 0 0 []):=by
  intro id h hl;rw[h3new id h];unfold jA;rw[SQ h,SO fun h2=>hl ⟨h.1,h.2,h2⟩]
 have h3old:∀ id,¬ nw id->H3.get id=H2.get id:=by
  intro id h;show cP _ _ id=_;exact l8 fun h'=>h (hout id h')
 have hrsv:∀ id,nw id->H2.get id=some .rsv:=by
  intro id h;have:=hres (id - H.next) (by have:=h.1;have:=h.2;omega)
  rwa [show H.next+(id - H.next)=id by have:=h.1;omega]at this
 have hΓnew:∀ id,nw id->Γ id=none:=fun id h=>R.rsv id (hrsv id h);have hfar:∀ id b base n,lw id->Γ' id=some (b,base,n)->w.heap.size<=b:=by
  intro id b base n hid hb;refine VE fun hlt=>?_;have hown:(eV S Γ).fD b:=TG fun hno=>(E.keep b hlt hno).2 ⟨id,base,n,hb⟩;obtain⟨id0,base0,n0,h0⟩:=hown;obtain⟨hs0,h0⟩:=kg h0;have hk0:=kpO id0 hs0;rw[<- gk id0 hk0]at h0;have:=R'.inj _ _ _ _ _ _ _ h0 hb;subst this;exact koldl _ hk0 hid
 have EE:Evo Γ H2 w Γ3 H3 w':=by
  refine⟨E.os,E.tape,E.output,E.size,fun b hb ho=>⟨(E.keep b hb fun h=>ho (s9 h)).1,?_⟩,fun id h1 h2 x' hx'=>?_,E.frz⟩
  ·rintro⟨id,base,n,h⟩;by_cases hl:lw id
   ·rw[g3l id hl]at h;have:=hfar id b base n hl h;omega
   ·rw[g3o id hl]at h;exact ho ⟨id,base,n,h⟩
  ·by_cases hnw:nw id
   ·exact⟨.rsv,hrsv id hnw,trivial⟩
   ·rw[h3old id hnw]at hx';refine⟨x',hx',?_⟩;have hg:Γ3 id=Γ id:=g3o id fun h=>hnw ⟨h.1,h.2.1⟩;cases x' with
    | arr g e c=>exact⟨Nat.le_refl _,fun _=>⟨hg,rfl,rfl⟩⟩
    | loop=>exact⟨hg,rfl,rfl,rfl,rfl,rfl⟩
    | rsv=>trivial
    | mp=>exact hg
 have hn3:H2.next<=H3.next:=Nat.le_refl _;have hK:∀ id,(kp id\/lw id)->H3.get id=H'.get id/\Γ3 id=Γ' id:=by
  rintro id (h|h)
  ·refine⟨?_,?_⟩
   ·rw[h3old id (kold id h),hkH2 id h,(hkp id h).2.2.1]
   ·rw[g3o id (koldl id h),gk id h]
  ·exact⟨h3live id h,g3l id h⟩
 have hle3:H'.next<=H3.next:=hnle;have hidden:∀ id b base n,¬ kp id->Γ id=some (b,base,n)->w'.heap[b]?=w.heap[b]?:=by
  intro id b base n hk h;refine(E.keep b (R.lt _ _ _ _ h) ?_).1;rintro⟨id0,base0,n0,h0⟩;obtain⟨hs0,h0⟩:=kg h0;have:=R.inj _ _ _ _ _ _ _ h h0;subst this;exact hs0 hk
 have R3:RelH P G Γ3 H3 w':=by
  refine⟨?_,?_,?_,?_,?_,?_,?_,?_,?_,?_⟩
  ·intro id g e cells hg;have main : (kp id∨lw id)→(∀ i (h : i<cells.length),Cln (fun id=>kp id∨lw id) cells[i])→H'.get id=some (.arr g e cells)→_:=fun hid hc hg'=>R'.arr id g e cells hg';have fin : (kp id∨lw id)→(∀ i (h : i<cells.length),Cln (fun id=>kp id∨lw id) cells[i])→H'.get id=some (.arr g e cells)→(match Γ3 id with
     | some (b,base,n)=>∃ c,w'.heap[b]?=some (.cells c e (0,0))/\c.size=n/\base+cells.length<=n /\
      ∀ i (h:i<cells.length),∃ cv,c[base+i]?=some cv/\RelV P Γ3 H3 w' cells[i] cv
     | none=>cells=[]):=by
    intro hid hc hg';have h1:=R'.arr id g e cells hg';rw[(hK id hid).2];cases hΓ:Γ' id with
    | none=>rw[hΓ]at h1;exact h1
    | some y =>
     obtain⟨b,base,n⟩:=y;rw[hΓ]at h1;obtain⟨c,a1,a2,a3,a4⟩:=h1;refine⟨c,a1,a2,a3,fun i hi=>?_⟩;obtain⟨cv,b1,b2⟩:=a4 i hi;exact⟨cv,b1,(hc i hi).sound hK hle3 b2⟩
   by_cases hl:lw id
   ·have hg':=hg;rw[h3live id hl]at hg';obtain⟨g0,e0,c0,h4,h5⟩:=hnew id hl.1 hl.2.1 hl.2.2;rw[h4]at hg';cases hg';exact fin (.inr hl) h5 h4
   ·by_cases hnw:nw id
    ·rw[h3dead id hnw hl]at hg;cases hg;rw[g3o id hl,hΓnew id hnw]
    ·rw[h3old id hnw]at hg;by_cases hk:kp id
     ·obtain⟨h1,h2,h3,g0,e0,c0,h4,h5⟩:=hkp id hk;rw[hkH2 id hk,h4]at hg;cases hg;exact fin (.inl hk) (fun i hi=>(h5 i hi).mono fun _ h=>.inl h) (by rw[h3,h4])
     ·have h1:=R.arr id g e cells hg;rw[g3o id hl];cases hΓ:Γ id with
      | none=>rw[hΓ]at h1;exact h1
      | some y =>
       obtain⟨b,base,n⟩:=y;rw[hΓ]at h1;obtain⟨c,a1,a2,a3,a4⟩:=h1;refine⟨c,by rw[hidden id b base n hk hΓ];exact a1,a2,a3,fun i hi=>?_⟩;obtain⟨cv,b1,b2⟩:=a4 i hi;exact⟨cv,b1,b2.bc EE hn3⟩
  ·intro id st pend n env ps asg body hg;by_cases hl:lw id
   ·rw[h3live id hl]at hg;obtain⟨g0,e0,c0,h4,h5⟩:=hnew id hl.1 hl.2.1 hl.2.2;rw[h4]at hg;cases hg
   ·by_cases hnw:nw id
    ·rw[h3dead id hnw hl]at hg;cases hg
    ·rw[h3old id hnw]at hg;have hk:¬ kp id:=fun hk=>by
      obtain⟨h1,h2,h3,g0,e0,c0,h4,h5⟩:=hkp id hk;rw[hkH2 id hk,h4]at hg;cases hg
     obtain⟨b,r,a1,a2,a3,a4,a5,a6,a7,a8,a9⟩:=R.loop id st pend n env ps asg body hg;exact⟨b,r,by rw[g3o id hl];exact a1,by rw[hidden id b 0 0 hk a1];exact a2,a3,a4,a5,a6,a7,a8,fun t ht=>(a9 t ht).bc EE hn3⟩
  ·intro id es hg;by_cases hl:lw id
   ·rw[h3live id hl]at hg;obtain⟨g0,e0,c0,h4,h5⟩:=hnew id hl.1 hl.2.1 hl.2.2;rw[h4]at hg;cases hg
   ·by_cases hnw:nw id
    ·rw[h3dead id hnw hl]at hg;cases hg
    ·rw[h3old id hnw]at hg;have hk:¬ kp id:=fun hk=>by
      obtain⟨h1,h2,h3,g0,e0,c0,h4,h5⟩:=hkp id hk;rw[hkH2 id hk,h4]at hg;cases hg
     obtain⟨b,a1,a2⟩:=R.mp id es hg;exact⟨b,by rw[g3o id hl];exact a1,by rw[hidden id b 0 0 hk a1];exact a2⟩
  ·intro id hg;have hnw:¬ nw id:=fun hnw=>by
    by_cases hl:lw id
    ·rw[h3live id hl]at hg;obtain⟨g0,e0,c0,h4,h5⟩:=hnew id hl.1 hl.2.1 hl.2.2;rw[h4]at hg;cases hg
    ·rw[h3dead id hnw hl]at hg;cases hg
   rw[h3old id hnw]at hg;rw[g3o id fun h=>hnw ⟨h.1,h.2.1⟩];exact R.rsv id hg
  ·intro id id' b base n base' n' h h';by_cases hl:lw id<;>by_cases hl':lw id'
   ·rw[g3l id hl]at h;rw[g3l id' hl']at h';exact R'.inj _ _ _ _ _ _ _ h h'
   ·rw[g3l id hl]at h;rw[g3o id' hl']at h';have:=hfar id b base n hl h;have:=R.lt _ _ _ _ h';omega
   ·rw[g3o id hl]at h;rw[g3l id' hl']at h';have:=hfar id' b base' n' hl' h';have:=R.lt _ _ _ _ h;omega
   ·rw[g3o id hl]at h;rw[g3o id' hl']at h';exact R.inj _ _ _ _ _ _ _ h h'
  ·intro id x h;by_cases hl:lw id
   ·obtain⟨g0,e0,c0,h4,h5⟩:=hnew id hl.1 hl.2.1 hl.2.2;exact⟨_,by rw[h3live id hl];exact h4⟩
   ·rw[g3o id hl]at h;by_cases hnw:nw id
    ·exact⟨_,h3dead id hnw hl⟩
    ·obtain⟨y,hy⟩:=R.dom id x h;exact⟨y,by rw[h3old id hnw];exact hy⟩
  ·intro id b base n h;by_cases hl:lw id
   ·rw[g3l id hl]at h;exact R'.lt _ _ _ _ h
   ·rw[g3o id hl]at h;exact S6 (R.lt _ _ _ _ h) E.size
  ·intro id y h;by_cases hnw:nw id
   ·have:=hnw.2;exact S6 this hnle
   ·rw[h3old id hnw]at h;exact R.next id y h
  ·intro g cells h;exact(R.glob g cells h).bc EE hn3
  ·exact R.nX EE
 refine⟨.ret v,H3,Γ3,?_,⟨rfl,rfl⟩,R3,EE,hn3⟩;cases e with
 | returned cv=>exact hv.sound hK hle3 hend
 | panicked chain=>exact hend.elim
 | outgrown=>exact hend.elim
end Go.Hx.Ev
