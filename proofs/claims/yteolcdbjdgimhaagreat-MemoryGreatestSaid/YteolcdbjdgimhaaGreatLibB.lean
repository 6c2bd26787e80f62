/-
  Regions that draw their order. Own work: no program stands in this text.
-/
import Derived.Test.YteolcdbjdgimhaaGreatLibA
import Derived.OrdersIn
import Derived.KernelRfl
import Derived.ProofKit
import Derived.SevenTiedAt
import Derived.RecoverIn
set_option linter.all false
namespace Go.Hx
variable {P:Program} {G:Nat->Option (List ZK)} {Γ Γ':aH} {H H':ZJ} {w w':World}
variable {c:Call}{ρ:Env}{id n:Nat}{o:Op}{t u:TypeId}{H2:ZJ}{a v x:ZK}
def aT:ZK->List Nat
 |.U id _ _ _ _=>[id]
 |.M id _ _=>[id]
 |_=>[]
def fj:ZK->List Nat
 |.np id=>[id]
 |_=>[]
structure FP where
 nD:List Nat
 rs:List Nat
def lX:ZK->Bool
 |.U ..=>true
 |_=>false
def nS (P:Program)(t:TypeId)(x:ZK):List Nat:=match P.underlying t with
 |some (.slice _)=>aT x
 |_=>[]
def kS (P:Program)(id:Nat)(b:Builtin)(ats:List TypeId)(args:List ZK):FP :=
 match b,ats,args with
 |.append,_,[s,x]=>if lX s then ⟨aT s,aT s++aT x⟩ else ⟨[id],aT x⟩
 |.copy,_,[d,x]=>⟨aT d,aT d++aT x⟩
 |.clear,_,[d]=>⟨aT d,aT d⟩
 |.len,[t],[x]=>⟨[],nS P t x⟩
 |_,_,_=>⟨[],[]⟩
def da (P:Program)(G:Nat->Option (List ZK))(ρ:Env)(id:Nat):Op->FP
 |.load _ a=>⟨[],aT (ay G ρ a)⟩
 |.nilCheck a=>⟨[],aT (ay G ρ a)⟩
 |.slice _ a _ _ _=>⟨[],aT (ay G ρ a)⟩
 |.fieldAddr _ a _=>⟨[],aT (ay G ρ a)⟩
 |.indexAddr _ a _=>⟨[],aT (ay G ρ a)⟩
 |.convert _ _ a=>⟨[],aT (ay G ρ a)⟩
 |.store _ a _=>⟨aT (ay G ρ a),aT (ay G ρ a)⟩
 |.alloc _=>⟨[id],[]⟩
 |.box _ _=>⟨[id],[]⟩
 |.buildSlice _ _ _=>⟨[id],[]⟩
 |.makeSlice _ _ _=>⟨[id],[]⟩
 |.makeMap _ _=>⟨[id],[]⟩
 |.lookup _ x _ _=>⟨[],fj (ay G ρ x)⟩
 |.mapUpdate _ m _ _|.insert _ m _ _|.mapEntry _ m _|.entryStore _ m _ _=>⟨fj (ay G ρ m),fj (ay G ρ m)⟩
 |.call c=>match c.callee with
  |.builtin b=>kS P id b c.argTypes.toList (c.args.toList.map (ay G ρ))
  |_=>⟨[],[]⟩
 |_=>⟨[],[]⟩
def fC (e:Option (Nat × ZQ))(g:Nat->Option ZQ):Nat->Option ZQ :=
 match e with
 |none=>g
 |some (k,b)=>fun j=>if j=k then some b else g j
def iy (H:ZJ):Prop:=∀id b,H.get id=some b->id<H.A
def lY (wf:iy H){gen:Nat}{ec:TypeId × List ZK}(h:H.V id gen=some ec):id<H.A:=wf id _ (kh (e:=ec.1) (cells:=ec.2) h)
def kT (h:H2.get id=H.get id)(gen:Nat):H2.V id gen=H.V id gen:=by unfold ZJ.V;rw[h]
def Local (P:Program)(G:Nat->Option (List ZK))(ρ:Env)(H:ZJ)(o:Op)(v:ZK)(H':ZJ)(f:FP):Prop :=
 ∃(e:Option (Nat × ZQ)) (al:Bool),H'.get=fC e H.get/\H'.A=(if al then H.A+1 else H.A) /\
  (∀k b,e=some (k,b)->k∈f.nD/\(al=false->k∈f.rs))/\(al=true->∃b,e=some (H.A,b))/\(∀r,r∈f.rs->r<H.A) /\
  ∀H2:ZJ,(∀r,r∈f.rs->H2.get r=H.get r)->(al=true->H2.get H.A=some .nt/\H.A≠H2.A)->ar P G ρ H2 H.A o=some (v,⟨fC e H2.get,H2.A⟩)
variable {f:FP}
def dZ (hrs:∀r,r∈f.rs->r<H.A)(h:∀H2:ZJ,(∀r,r∈f.rs->H2.get r=H.get r)->ar P G ρ H2 H.A o=some (v,H2)):Local P G ρ H o v H f:=by
 refine⟨none,false,rfl,rfl,?_,?_,hrs,fun H2 ha _=>h H2 ha⟩
 ·intro k b h;cases h
 ·intro h;cases h
def rT {b:ZQ}(hl:H.lay H.A b=some H')(hta:H.A∈f.nD)(hrs:∀r,r∈f.rs->r<H.A)
  (h:∀H2:ZJ,(∀r,r∈f.rs->H2.get r=H.get r)->∀H2',H2.lay H.A b=some H2'->ar P G ρ H2 H.A o=some (v,H2')):Local P G ρ H o v H' f:=by
 obtain⟨h1,h2⟩:=kQ hl;have h2':H'.A=H.A+1:=by
  unfold ZJ.lay at hl;rw[VA rfl]at hl;simp only[Option.some.injEq]at hl;rw[<- hl]
 refine⟨some (H.A,b),true,funext h1,by simp[h2'],?_,?_,hrs,fun H2 ha hr=>?_⟩
 ·intro k b' hk;simp only[Option.some.injEq,Prod.mk.injEq]at hk;exact⟨hk.1 ▸ hta,fun h=>by cases h⟩
 ·exact fun _=>⟨b,rfl⟩
 ·obtain⟨hr1,hr2⟩:=hr rfl;refine h H2 ha _ ?_;unfold ZJ.lay;rw[Vx hr2,hr1];rfl
def pt {b:ZQ}(hid:id∈f.nD)(hid':id∈f.rs)(hrs:∀r,r∈f.rs->r<H.A)
  (h:∀H2:ZJ,(∀r,r∈f.rs->H2.get r=H.get r)->ar P G ρ H2 H.A o=some (v,H2.upd id b)):Local P G ρ H o v (H.upd id b) f:=by
 refine⟨some (id,b),false,rfl,rfl,?_,?_,hrs,fun H2 ha _=>h H2 ha⟩
 ·intro k b' hk;simp only[Option.some.injEq,Prod.mk.injEq]at hk;exact⟨hk.1 ▸ hid,fun _=>hk.1 ▸ hid'⟩
 ·intro h;cases h
def dB :∀r,r∈([]:List Nat)->r<n:=fun _ h=>by cases h
def iz (h:id<n):∀r,r∈[id]->r<n:=fun r hr=>by
 simp only[List.mem_singleton]at hr;omega
def Il (h:∀r,r∈aT a->H2.get r=H.get r):iN P H2 t a=iN P H t a:=by
 cases a with
 |M id gen off=>simp only[iN];rw[h id (by simp[aT])]
 |_=>rfl
def Im (wf:iy H)(h:iN P H t a=some v):∀r,r∈aT a->r<H.A:=by
 cases a with
 |M id gen off =>
  refine iz ?_;simp only[iN]at h;split at h
  ·rename_i hg;exact wf _ _ hg
  ·cases h
 |U=>simp[iN]at h
 |_=>exact dB
def Io (h:kO P H t a v=some H'):∃id gen off g e cells,a=.M id gen off/\H.get id=some (.J g e cells)/\∃cells',H'=H.upd id (.J g e cells') /\
  ∀H2:ZJ,H2.get id=H.get id->kO P H2 t a v=some (H2.upd id (.J g e cells')):=by
 cases a with
 |M id gen off =>
  simp only[kO]at h;split at h
  ·rename_i g e cells hg;split at h
   ·rename_i hc;simp only[Option.some.injEq]at h;refine⟨id,gen,off,g,e,cells,rfl,hg,_,h.symm,fun H2 h2=>?_⟩;simp only[kO];rw[h2,hg];simp only;rw[VA hc]
   ·cases h
  ·cases h
 |_=>simp[kO]at h
def Ip (wf:iy H){i:Int}(h:oX P H t x i=some v):(∀r,r∈aT x->r<H.A)/\∀H2:ZJ,(∀r,r∈aT x->H2.get r=H.get r)->oX P H2 t x i=some v:=by
 unfold oX at h ⊢;split at h
 ·split at h
  ·rename_i hc;split at h
   ·rename_i id gen off;simp only[Vw]at h;obtain⟨ec,hl,hv⟩:=h;refine⟨iz (lY wf hl),fun H2 h2=>?_⟩;rw[VA hc];simp only[kT (h2 id (by simp[aT])),hl,Option.map_some,hv]
   ·refine⟨dB,fun H2 _=>?_⟩;rw[VA hc];exact h
   ·cases h
  ·cases h
 ·split at h
  ·rename_i hc;split at h
   ·rename_i id gen off len sz;split at h
    ·rename_i hi;simp only[Vw]at h;obtain⟨ec,hl,hv⟩:=h;refine⟨iz (lY wf hl),fun H2 h2=>?_⟩;rw[VA hc,VA hi];simp only[kT (h2 id (by simp[aT])),hl,Option.map_some,hv]
    ·cases h
   ·refine⟨dB,fun H2 _=>?_⟩;rw[VA hc];exact h
   ·cases h
  ·cases h
 ·cases h
def Iq (wf:iy H){lo hi:Option ZK}(h:oY P H t x lo hi=some v):(∀r,r∈aT x->r<H.A)/\∀H2:ZJ,(∀r,r∈aT x->H2.get r=H.get r)->oY P H2 t x lo hi=some v:=by
 unfold oY at h ⊢;split at h
 ·split at h
  ·rename_i hc;split at h
   ·rename_i id gen off;split at h
    ·rename_i e' cells hl;refine⟨iz (lY wf hl),fun H2 h2=>?_⟩;rw[VA hc];simp only[kT (h2 id (by simp[aT])),hl];exact h
    ·cases h
   ·refine⟨dB,fun H2 _=>?_⟩;rw[VA hc];exact h
   ·cases h
  ·cases h
 ·split at h
  ·rename_i hc;split at h
   ·rename_i id gen off len sz;split at h
    ·rename_i hi;have h0:=h;simp only[VC]at h;obtain⟨ec,hl,_⟩:=h;refine⟨iz (lY wf hl),fun H2 h2=>?_⟩;rw[VA hc,VA hi,kT (h2 id (by simp[aT]))];exact h0
    ·cases h
   ·refine⟨dB,fun H2 _=>?_⟩;rw[VA hc];exact h
   ·refine⟨dB,fun H2 _=>?_⟩;rw[VA hc];exact h
   ·cases h
  ·cases h
 ·split at h
  ·exact⟨dB,fun H2 _=>h⟩
  ·cases h
 ·cases h
def Ir (wf:iy H)(h:nI P H t x=some v):(∀r,r∈nS P t x->r<H.A)/\∀H2:ZJ,(∀r,r∈nS P t x->H2.get r=H.get r)->nI P H2 t x=some v:=by
 unfold nI nS at *
 cases hu:P.underlying t with
 |none=>rw[hu]at h;cases h
 |some d =>
  rw[hu]at h;cases d with
  |slice e =>
   simp only at h ⊢;split at h
   ·exact⟨dB,fun _ _=>h⟩
   ·rename_i id gen off len sz;simp only[Vw]at h;obtain⟨ec,hl,hv⟩:=h;refine⟨iz (lY wf hl),fun H2 h2=>?_⟩;simp only[kT (h2 id (by simp[aT])),hl,Option.map_some,hv]
   ·exact⟨dB,fun _ _=>h⟩
   ·cases h
  |string=>exact⟨dB,fun _ _=>h⟩
  |array n e=>exact⟨dB,fun _ _=>h⟩
  |_=>cases h
def yH (wf:iy H){sz:Nat}{r:Nat × List ZK}(h:dH H sz x=some r):(∀r,r∈aT x->r<H.A)/\∀H2:ZJ,(∀r,r∈aT x->H2.get r=H.get r)->dH H2 sz x=some r:=by
 unfold dH at h ⊢;split at h
 ·exact⟨dB,fun _ _=>h⟩
 ·rename_i id gen off len sz';split at h
  ·rename_i hsz;simp only[Vw]at h;obtain⟨ec,hl,hv⟩:=h;refine⟨iz (lY wf hl),fun H2 h2=>?_⟩;rw[VA hsz];simp only[kT (h2 id (by simp[aT])),hl,Option.map_some,hv]
  ·cases h
 ·exact⟨dB,fun _ _=>h⟩
 ·cases h
def B5 {a b:List Nat}{p:Nat->Prop}(h1:∀r,r∈a->p r)(h2:∀r,r∈b->p r):∀r,r∈a++b->p r:=fun r hr=>(V3.1 hr).elim (h1 r) (h2 r)
def Is (wf:iy H){s:ZK}(hb:c.callee=.builtin .append)(hats:c.argTypes.toList=[t,u])(hargs:c.args.toList.map (ay G ρ)=[s,x])
  (h:cr P H H.A t u s x=some (v,H')):Local P G ρ H (.call c) v H' (da P G ρ H.A (.call c)):=by
 have hfp:da P G ρ H.A (.call c)=if lX s then ⟨aT s,aT s++aT x⟩ else ⟨[H.A],aT x⟩:=by
  simp only[da,hb,hats,hargs,kS]
 have hop:∀H2:ZJ,ar P G ρ H2 H.A (.call c)=cr P H2 H.A t u s x:=fun H2=>by
  simp only[ar,hb,hats,hargs,iO]
 rw[hfp];unfold cr at h;split at h
 ·rename_i e he;split at h
  ·rename_i e' he';simp only[VC]at h;obtain⟨z,hz,nx,hsrc,h⟩:=h;obtain⟨hxlt,hxl⟩:=yH wf hsrc;split at h
   ·simp only[lX,Bool.false_eq_true,if_false];split at h
    ·rename_i hn0;simp only[Option.some.injEq,Prod.mk.injEq]at h;obtain⟨rfl,rfl⟩:=h;refine dZ hxlt fun H2 h2=>?_;rw[hop];simp only[cr,he,he',hz,hxl H2 h2,Option.bind_some,VA hn0]
    ·rename_i hn0;split at h
     ·rename_i hb;simp only[Vw,Prod.mk.injEq]at h;obtain⟨H3,hl,rfl,rfl⟩:=h;refine rT hl ZF hxlt fun H2 h2 H2' hl2=>?_;rw[hop];simp only[cr,he,he',hz,hxl H2 h2,Option.bind_some,Vx hn0,VA hb,hl2,Option.map_some]
     ·cases h
   ·rename_i id' gen off len sz;simp only[lX,if_true];simp only[VC]at h;obtain⟨ec,hl,h⟩:=h;have hlt:∀r,r∈aT (.U id' gen off len sz)++aT x->r<H.A:=B5 (iz (lY wf hl)) hxlt;have hl2:∀H2:ZJ,(∀r,r∈aT (.U id' gen off len sz)++aT x->H2.get r=H.get r)->H2.V id' gen=some ec:=fun H2 h2=>by
     rw[kT (h2 id' (by simp[aT]))];exact hl
    have hx2:∀H2:ZJ,(∀r,r∈aT (.U id' gen off len sz)++aT x->H2.get r=H.get r)->dH H2 (P.cellsOf e) x=some nx:=fun H2 h2 =>
     hxl H2 fun r hr=>h2 r (Yz _ hr)
    split at h
    ·rename_i hc;split at h
     ·rename_i hn0;simp only[Option.some.injEq,Prod.mk.injEq]at h;obtain⟨rfl,rfl⟩:=h;refine dZ hlt fun H2 h2=>?_;rw[hop];simp only[cr,he,he',hz,hx2 H2 h2,hl2 H2 h2,Option.bind_some];rw[VA hc,VA hn0]
     ·rename_i hn0;simp only[Option.some.injEq,Prod.mk.injEq]at h;obtain⟨rfl,rfl⟩:=h;refine pt (by simp[aT]) (by simp[aT]) hlt fun H2 h2=>?_;rw[hop];simp only[cr,he,he',hz,hx2 H2 h2,hl2 H2 h2,Option.bind_some];rw[VA hc,Vx hn0]
    ·cases h
   ·cases h
  ·cases h
 ·cases h
def It (wf:iy H){s:ZK}(hb:c.callee=.builtin .copy)(hats:c.argTypes.toList=[t,u])(hargs:c.args.toList.map (ay G ρ)=[s,x])
  (h:mC P H t s x=some (v,H')):Local P G ρ H (.call c) v H' (da P G ρ H.A (.call c)):=by
 have hfp:da P G ρ H.A (.call c)=⟨aT s,aT s++aT x⟩:=by
  simp only[da,hb,hats,hargs,kS]
 have hop:∀H2:ZJ,ar P G ρ H2 H.A (.call c)=mC P H2 t s x:=fun H2=>by
  simp only[ar,hb,hats,hargs,iO]
 rw[hfp];unfold mC at h;split at h
 ·rename_i e he;split at h
  ·rename_i hs;simp only[VC]at h;obtain⟨nx,hsrc,h⟩:=h;obtain⟨hxlt,hxl⟩:=yH wf hsrc;split at h
   ·rename_i id' gen off len sz;simp only[VC]at h;obtain⟨ec,hl,h⟩:=h;have hlt:∀r,r∈aT (.U id' gen off len sz)++aT x->r<H.A:=B5 (iz (lY wf hl)) hxlt;split at h
    ·rename_i hc;simp only[Option.some.injEq,Prod.mk.injEq]at h;obtain⟨rfl,rfl⟩:=h;refine pt (by simp[aT]) (by simp[aT]) hlt fun H2 h2=>?_;have hl2:H2.V id' gen=some ec:=by
      rw[kT (h2 id' (by simp[aT]))];exact hl
     rw[hop];simp only[mC,he,hs,if_true,hxl H2 fun r hr=>h2 r (Yz _ hr),hl2,Option.bind_some];rw[VA hc]
    ·cases h
   ·cases h
  ·cases h
 ·cases h
def Iu (wf:iy H){s:ZK}(hb:c.callee=.builtin .clear)(hats:c.argTypes.toList=[t])(hargs:c.args.toList.map (ay G ρ)=[s])
  (h:mD P H t s=some (v,H')):Local P G ρ H (.call c) v H' (da P G ρ H.A (.call c)):=by
 have hfp:da P G ρ H.A (.call c)=⟨aT s,aT s⟩:=by
  simp only[da,hb,hats,hargs,kS]
 have hop:∀H2:ZJ,ar P G ρ H2 H.A (.call c)=mD P H2 t s:=fun H2=>by
  simp only[ar,hb,hats,hargs,iO]
 rw[hfp];unfold mD at h;split at h
 ·rename_i e he;split at h
  ·simp only[Option.some.injEq,Prod.mk.injEq]at h;obtain⟨rfl,rfl⟩:=h;refine dZ (fun r hr=>by cases hr) fun H2 h2=>?_;rw[hop];simp only[mD,he]
  ·rename_i id' gen off len sz;simp only[VC]at h;obtain⟨ec,hl,h⟩:=h;have hlt:∀r,r∈aT (.U id' gen off len sz)->r<H.A:=iz (lY wf hl);have hl2:∀H2:ZJ,(∀r,r∈aT (.U id' gen off len sz)->H2.get r=H.get r)->H2.V id' gen=some ec:=fun H2 h2=>by
    rw[kT (h2 id' (by simp[aT]))];exact hl
   split at h
   ·rename_i h0;simp only[Option.some.injEq,Prod.mk.injEq]at h;obtain⟨rfl,rfl⟩:=h;refine dZ hlt fun H2 h2=>?_;rw[hop];simp only[mD,he,hl2 H2 h2,Option.bind_some];rw[VA h0]
   ·rename_i h0;simp only[VC]at h;obtain⟨z,hz,h⟩:=h;split at h
    ·rename_i hc;simp only[Option.some.injEq,Prod.mk.injEq]at h;obtain⟨rfl,rfl⟩:=h;refine pt (by simp[aT]) (by simp[aT]) hlt fun H2 h2=>?_;rw[hop];simp only[mD,he,hl2 H2 h2,hz,Option.bind_some];rw[Vx h0,VA hc]
    ·cases h
  ·cases h
 ·cases h
def B6 (wf:iy H){m k x:Operand}(h:kg P H t (ay G ρ m) (ay G ρ k) (ay G ρ x)=some (v,H'))(hfp:da P G ρ H.A o=⟨fj (ay G ρ m),fj (ay G ρ m)⟩)
  (hop:∀H2:ZJ,ar P G ρ H2 H.A o=kg P H2 t (ay G ρ m) (ay G ρ k) (ay G ρ x)):Local P G ρ H o v H' (da P G ρ H.A o):=by
 rw[hfp];unfold kg at h;split at h
 ·rename_i hm;split at h
  ·rename_i id k' u hx hk hu;split at h
   ·rename_i es hg;simp only[Option.some.injEq,Prod.mk.injEq]at h;obtain⟨rfl,rfl⟩:=h;refine pt (by rw[hx];simp[fj]) (by rw[hx];simp[fj]) (by rw[hx];exact iz (wf _ _ hg)) fun H2 h2=>?_;have hg2:H2.get id=some (.mp es):=(by rw[h2 id (by rw[hx];simp[fj])];exact hg);rw[hop];simp only[kg,hm,if_true,hx,hk,hu,hg2]
   ·cases h
  ·cases h
 ·cases h
def Iv (wf:iy H){s d:TypeId}(h:mF P H s d x=some v):(∀r,r∈aT x->r<H.A)/\∀H2:ZJ,(∀r,r∈aT x->H2.get r=H.get r)->mF P H2 s d x=some v:=by
 have bytes:∀y:ZK,pf P H s d y=some v->(∀r,r∈aT y->r<H.A)/\∀H2:ZJ,(∀r,r∈aT y->H2.get r=H.get r)->pf P H2 s d y=some v:=by
  intro y h;unfold pf at h;split at h
  ·rename_i hsb;simp only[VC]at h;obtain⟨nl,hs,h⟩:=h;obtain⟨h1,h2⟩:=yH wf hs;refine⟨h1,fun H2 ha=>?_⟩;unfold pf;rw[VA hsb,h2 H2 ha];exact h
  ·cases h
 unfold mF at h;split at h
 ·exact bytes _ h
 ·exact bytes _ h
 ·rename_i hne1 hne2;refine⟨fun r hr=>?_,fun H2 _=>?_⟩
  ·unfold mE at h;split at h
   ·rename_i a ha;cases x<;>simp_all[aT,ZK.dG]
   ·cases h
  ·unfold mF;split
   ·exact absurd rfl (hne1 _ _ _ _ _)
   ·exact absurd rfl (hne2 _ _)
   ·exact h
def B7 (wf:iy H)(h:ar P G ρ H H.A o=some (v,H')):Local P G ρ H o v H' (da P G ρ H.A o):=by
 cases o with
 |makeMap t r =>
  simp only[ar]at h;split at h
  ·simp only[Vw,Prod.mk.injEq]at h;obtain⟨H3,hl,rfl,rfl⟩:=h;refine rT hl (by simp[da]) dB fun H2 _ H2' hl2=>?_;simp only[ar,hl2,Option.map_some]
  ·cases h
 |lookup t x i ok =>
  simp only[ar,Vw,Prod.mk.injEq]at h;obtain⟨v',hv,rfl,rfl⟩:=h;have hfp:da P G ρ H.A (.lookup t x i ok)=⟨[],fj (ay G ρ x)⟩:=rfl;rw[hfp];unfold nJ at hv;split at hv
  ·rename_i hm;split at hv
   ·rename_i hx hi;refine dZ (by rw[hx];exact dB) fun H2 _=>?_;simp only[ar,nJ,hm,if_true,hx,hi];simp only[Option.some.injEq]at hv;simp[hv]
   ·rename_i id k hx hi;split at hv
    ·rename_i es hg;refine dZ (by rw[hx];exact iz (wf _ _ hg)) fun H2 h2=>?_;have hg2:H2.get id=some (.mp es):=(by rw[h2 id (by rw[hx];simp[fj])];exact hg);simp only[ar,nJ,hm,if_true,hx,hi,hg2];simp only[Option.some.injEq]at hv;simp[hv]
    ·cases hv
   ·cases hv
  ·cases hv
 |mapUpdate t m k x=>exact B6 wf (by simp only[ar]at h;exact h) (by rfl) fun H2=>rfl
 |insert t m k x=>exact B6 wf (by simp only[ar]at h;exact h) (by rfl) fun H2=>rfl
 |mapEntry t m k =>
  simp only[ar]at h;have hfp:da P G ρ H.A (.mapEntry t m k)=⟨fj (ay G ρ m),fj (ay G ρ m)⟩:=rfl;rw[hfp];unfold qk at h;split at h
  ·rename_i hm;split at h
   ·rename_i id k' hx hk;split at h
    ·rename_i es hg;have hg2:∀H2:ZJ,(∀r,r∈fj (ay G ρ m)->H2.get r=H.get r)->H2.get id=some (.mp es):=fun H2 h2=>by rw[h2 id (by rw[hx];simp[fj])];exact hg
     split at h
     ·rename_i n u hf;simp only[Option.some.injEq,Prod.mk.injEq]at h;obtain⟨rfl,rfl⟩:=h;refine pt (by rw[hx];simp[fj]) (by rw[hx];simp[fj]) (by rw[hx];exact iz (wf _ _ hg)) fun H2 h2=>?_;simp only[ar,qk,hm,if_true,hx,hk,hg2 H2 h2,hf]
     ·rename_i hf;simp only[Option.some.injEq,Prod.mk.injEq]at h;obtain⟨rfl,rfl⟩:=h;refine pt (by rw[hx];simp[fj]) (by rw[hx];simp[fj]) (by rw[hx];exact iz (wf _ _ hg)) fun H2 h2=>?_;simp only[ar,qk,hm,if_true,hx,hk,hg2 H2 h2,hf]
    ·cases h
   ·cases h
  ·cases h
 |entryStore t m s x =>
  simp only[ar]at h;have hfp:da P G ρ H.A (.entryStore t m s x)=⟨fj (ay G ρ m),fj (ay G ρ m)⟩:=rfl;rw[hfp];unfold rD at h;split at h
  ·rename_i id s' u hx hs hu;split at h
   ·rename_i es hg;split at h
    ·rename_i hlt;simp only[Option.some.injEq,Prod.mk.injEq]at h;obtain⟨rfl,rfl⟩:=h;refine pt (by rw[hx];simp[fj]) (by rw[hx];simp[fj]) (by rw[hx];exact iz (wf _ _ hg)) fun H2 h2=>?_;have hg2:H2.get id=some (.mp es):=(by rw[h2 id (by rw[hx];simp[fj])];exact hg);simp only[ar,rD,hx,hs,hu,hg2];rw[VA hlt]
    ·cases h
   ·cases h
  ·cases h
 |alloc e =>
  simp only[ar,VC,Vw,Prod.mk.injEq]at h;obtain⟨z,hz,H3,hl,rfl,rfl⟩:=h;refine rT hl (by simp[da]) dB fun H2 _ H2' hl2=>?_;simp only[ar,hz,hl2,Option.bind_some,Option.map_some]
 |box e x =>
  simp only[ar,Vw,Prod.mk.injEq]at h;obtain⟨H3,hl,rfl,rfl⟩:=h;refine rT hl (by simp[da]) dB fun H2 _ H2' hl2=>?_;simp only[ar,hl2,Option.map_some]
 |buildSlice t len parts =>
  simp only[ar,pe]at h;split at h
  ·rename_i e he;split at h
   ·rename_i hc;simp only[VC,Vw,Prod.mk.injEq]at h;obtain⟨z,hz,cells,hcl,H3,hl,rfl,rfl⟩:=h;refine rT hl (by simp[da]) dB fun H2 _ H2' hl2=>?_;simp only[ar,pe,he];rw[VA hc];simp only[hz,hcl,hl2,Option.bind_some,Option.map_some]
   ·cases h
  ·cases h
 |makeSlice t l c =>
  simp only[ar,nK]at h;split at h
  ·rename_i e k l' k' c' he hl' hc';split at h
   ·rename_i hc;simp only[VC,Vw,Prod.mk.injEq]at h;obtain⟨cells,hz,H3,hl,rfl,rfl⟩:=h;refine rT hl (by simp[da]) dB fun H2 _ H2' hl2=>?_;simp only[ar,nK,he,hl',hc'];rw[VA hc];simp only[hz,hl2,Option.bind_some,Option.map_some]
   ·cases h
  ·cases h
 |store t a x =>
  simp only[ar]at h;split at h
  ·rename_i hu;simp only[Vw,Prod.mk.injEq]at h;obtain⟨H3,hst,rfl,rfl⟩:=h;obtain⟨id,gen,off,g,e,cells,ha,hg,cells',rfl,hall⟩:=Io hst;have hfp:da P G ρ H.A (.store t a x)=⟨[id],[id]⟩:=(by simp only[da,ha,aT]);rw[hfp];refine pt ZF ZF (iz (wf _ _ hg)) fun H2 h2=>?_;simp only[ar,hu,if_true,hall H2 (h2 id ZF),Option.map_some]
  ·cases h
 |load t p =>
  simp only[ar,Vw,Prod.mk.injEq]at h;obtain⟨v',hv,rfl,rfl⟩:=h;refine dZ (Im wf hv) fun H2 h2=>?_;simp only[ar,Il h2,hv,Option.map_some]
 |nilCheck p =>
  simp only[ar,Vw,Prod.mk.injEq]at h;obtain⟨v',hv,rfl,rfl⟩:=h;have hv0:=hv;unfold mG at hv;split at hv
  ·rename_i id gen off hp;simp only[Vw]at hv;obtain⟨ec,hl,hv⟩:=hv;have hfp:da P G ρ H.A (.nilCheck p)=⟨[],[id]⟩:=(by simp only[da,hp,aT]);rw[hfp];refine dZ (iz (lY wf hl)) fun H2 h2=>?_;subst hv;simp only[ar,hp,mG,kT (h2 id ZF),hl,Option.map_some]
  ·rename_i hp;have hfp:da P G ρ H.A (.nilCheck p)=⟨[],[]⟩:=(by simp only[da,hp,aT]);rw[hfp];refine dZ dB fun H2 _=>?_;simp only[ar,hp,mG,Option.map_some,Option.some.injEq]at hv ⊢;rw[hv]
  ·rename_i hp;have hfp:da P G ρ H.A (.nilCheck p)=⟨[],[]⟩:=(by simp only[da,hp,aT]);rw[hfp];refine dZ dB fun H2 _=>?_;simp only[ar,hp,mG,Option.map_some,Option.some.injEq]at hv ⊢;rw[hv]
  ·cases hv
 |slice t x lo hi mx =>
  simp only[ar]at h;split at h
  ·simp only[Vw,Prod.mk.injEq]at h;obtain⟨v',hv,rfl,rfl⟩:=h;obtain⟨h1,h2⟩:=Iq wf hv;refine dZ h1 fun H2 h3=>?_;simp only[ar,h2 H2 h3,Option.map_some]
  ·cases h
 |indexAddr t x i =>
  simp only[ar]at h;split at h
  ·rename_i k i' hi;simp only[Vw,Prod.mk.injEq]at h;obtain⟨v',hv,rfl,rfl⟩:=h;obtain⟨h1,h2⟩:=Ip wf hv;refine dZ h1 fun H2 h3=>?_;simp only[ar,hi,h2 H2 h3,Option.map_some]
  ·cases h
 |fieldAddr s x f =>
  simp only[ar,VC]at h;obtain⟨of,hof,h⟩:=h;split at h
  ·rename_i id gen off hx;simp only[Vw,Prod.mk.injEq]at h;obtain⟨ec,hl,rfl,rfl⟩:=h;have hfp:da P G ρ H.A (.fieldAddr s x f)=⟨[],[id]⟩:=(by simp only[da,hx,aT]);rw[hfp];refine dZ (iz (lY wf hl)) fun H2 h2=>?_;simp only[ar,hof,Option.bind_some,hx,kT (h2 id ZF),hl,Option.map_some]
  ·rename_i cells off hx;simp only[Option.some.injEq,Prod.mk.injEq]at h;obtain⟨rfl,rfl⟩:=h;have hfp:da P G ρ H.A (.fieldAddr s x f)=⟨[],[]⟩:=(by simp only[da,hx,aT]);rw[hfp];refine dZ dB fun H2 _=>?_;simp only[ar,hof,Option.bind_some,hx]
  ·cases h
 |call c =>
  have h0:=h;simp only[ar]at h;split at h
  ·rename_i b hb;unfold iO at h;split at h
   ·rename_i t x hats hargs;simp only[Vw,Prod.mk.injEq]at h;obtain⟨v',hv,rfl,rfl⟩:=h;obtain⟨h1,h2⟩:=Ir wf hv;have hfp:da P G ρ H.A (.call c)=⟨[],nS P t x⟩:=(by simp only[da,hb,hats,hargs,kS]);rw[hfp];refine dZ h1 fun H2 h3=>?_;simp only[ar,hb,hats,hargs,iO,h2 H2 h3,Option.map_some]
   ·rename_i hats hargs;exact Is wf hb hats hargs h
   ·rename_i hats hargs;exact It wf hb hats hargs h
   ·rename_i hats hargs;exact Iu wf hb hats hargs h
   ·rename_i hats;simp only[VC,Vw,Prod.mk.injEq]at h;obtain⟨vs,h1,v',h2,rfl,rfl⟩:=h;have hfp:da P G ρ H.A (.call c)=⟨[],[]⟩:=(by simp only[da,hb,kS]);rw[hfp];refine dZ dB fun H2 _=>?_;simp only[ar,hb,iO,h1,h2,Option.bind_some,Option.map_some]
   ·rename_i hats;simp only[VC,Vw,Prod.mk.injEq]at h;obtain⟨vs,h1,v',h2,rfl,rfl⟩:=h;have hfp:da P G ρ H.A (.call c)=⟨[],[]⟩:=(by simp only[da,hb,kS]);rw[hfp];refine dZ dB fun H2 _=>?_;simp only[ar,hb,iO,h1,h2,Option.bind_some,Option.map_some]
   ·cases h
  ·cases h
 |pick c a b =>
  simp only[ar]at h;split at h
  ·rename_i t ht;simp only[Option.some.injEq,Prod.mk.injEq]at h;obtain⟨rfl,rfl⟩:=h;refine dZ dB fun H2 _=>?_;simp only[ar,ht]
  ·cases h
 |makeFunc fn f c =>
  simp only[ar]at h;split at h
  ·simp only[Option.some.injEq,Prod.mk.injEq]at h;obtain⟨rfl,rfl⟩:=h;exact dZ dB fun H2 _=>by simp only[ar]
  ·cases h
 |makeInterface t x =>
  simp only[ar]at h;split at h
  ·rename_i y hy;simp only[Vw,Prod.mk.injEq]at h;obtain⟨v',hv,rfl,rfl⟩:=h;refine dZ dB fun H2 _=>?_;simp only[ar,hy,hv,Option.map_some]
  ·cases h
 |field s x f =>
  simp only[ar,VC]at h;obtain⟨of,hof,h⟩:=h;split at h
  ·rename_i hx;simp only[Vw,Prod.mk.injEq]at h;obtain⟨v',hv,rfl,rfl⟩:=h;refine dZ dB fun H2 _=>?_;simp only[ar,hof,Option.bind_some,hx,hv,Option.map_some]
  ·rename_i hx;simp only[Vw,Prod.mk.injEq]at h;obtain⟨v',hv,rfl,rfl⟩:=h;refine dZ dB fun H2 _=>?_;simp only[ar,hof,Option.bind_some,hx,hv,Option.map_some]
  ·cases h
 |move x=>simp only[ar,Option.some.injEq,Prod.mk.injEq]at h;obtain⟨rfl,rfl⟩:=h;exact dZ dB fun H2 _=>by simp only[ar]
 |assign x=>simp only[ar,Option.some.injEq,Prod.mk.injEq]at h;obtain⟨rfl,rfl⟩:=h;exact dZ dB fun H2 _=>by simp only[ar]
 |build t p=>simp only[ar,Vw,Prod.mk.injEq]at h;obtain⟨v',hv,rfl,rfl⟩:=h;exact dZ dB fun H2 _=>by simp only[ar,hv,Option.map_some]
 |binOp a b c d e=>simp only[ar,Vw,Prod.mk.injEq]at h;obtain⟨v',hv,rfl,rfl⟩:=h;exact dZ dB fun H2 _=>by simp only[ar,hv,Option.map_some]
 |unOp a b c=>simp only[ar,Vw,Prod.mk.injEq]at h;obtain⟨v',hv,rfl,rfl⟩:=h;exact dZ dB fun H2 _=>by simp only[ar,hv,Option.map_some]
 |convert a b c =>
  simp only[ar,Vw,Prod.mk.injEq]at h;obtain⟨v',hv,rfl,rfl⟩:=h;obtain⟨h1,h2⟩:=Iv wf hv;refine dZ h1 fun H2 ha=>?_;simp only[ar,h2 H2 ha,Option.map_some]
 |index a b c=>simp only[ar,Vw,Prod.mk.injEq]at h;obtain⟨v',hv,rfl,rfl⟩:=h;exact dZ dB fun H2 _=>by simp only[ar,hv,Option.map_some]
 |extract a b=>simp only[ar,Vw,Prod.mk.injEq]at h;obtain⟨v',hv,rfl,rfl⟩:=h;exact dZ dB fun H2 _=>by simp only[ar,hv,Option.map_some]
 |_=>simp[ar]at h
def B8 {ρ':Env}(h:∀x,x∈o.operands->ay G ρ x=ay G ρ' x):ar P G ρ H id o=ar P G ρ' H id o:=by
 have hparts:∀(ps:Array (Nat × Operand)),(∀x,x∈(ps.toList.map (·.2)).toArray->ay G ρ x=ay G ρ' x)->ps.toList.map (fun p=>(p.1,ay G ρ p.2))=ps.toList.map (fun p=>(p.1,ay G ρ' p.2)):=by
  intro ps hp;refine V1 fun p hpm=>?_;rw[hp p.2 (by simpa using ⟨p.1,by simpa using hpm⟩)]
 have hlist:∀(ps:Array Operand),(∀x,x∈ps->ay G ρ x=ay G ρ' x)->ps.toList.map (ay G ρ)=ps.toList.map (ay G ρ'):=by
  intro ps hp;exact V1 fun p hpm=>hp p (by simpa using hpm)
 cases o with
 |build t ps=>simp only[ar];rw[hparts ps h]
 |buildSlice t len ps=>simp only[ar];rw[hparts ps h]
 |makeFunc fn f c =>
  simp only[ar];rw[hlist f fun x hx=>h x (by simp[Op.operands,hx]),hlist c fun x hx=>h x (by simp[Op.operands,hx])]
 |slice t x lo hi mx =>
  have hx:=h x (by simp[Op.operands]);have hlo:lo.map (ay G ρ)=lo.map (ay G ρ'):=by
   cases lo with
   |none=>rfl
   |some l=>simp only[Option.map_some];rw[h l (by simp[Op.operands])]
  have hhi:hi.map (ay G ρ)=hi.map (ay G ρ'):=by
   cases hi with
   |none=>rfl
   |some l=>simp only[Option.map_some];rw[h l (by simp[Op.operands])]
  simp only[ar,hx,hlo,hhi]
 |call c =>
  simp only[ar];rw[hlist c.args fun x hx=>h x (by
   simp only[Op.operands,Call.operands];split<;>simp[hx])]
 |pick c a b=>simp only[ar,h c (by simp[Op.operands]),h a (by simp[Op.operands]),h b (by simp[Op.operands])]
 |store t a x=>simp only[ar,h a (by simp[Op.operands]),h x (by simp[Op.operands])]
 |binOp op t x y u=>simp only[ar,h x (by simp[Op.operands]),h y (by simp[Op.operands])]
 |makeSlice t l c=>simp only[ar,h l (by simp[Op.operands]),h c (by simp[Op.operands])]
 |indexAddr t x i=>simp only[ar,h x (by simp[Op.operands]),h i (by simp[Op.operands])]
 |index t x i=>simp only[ar,h x (by simp[Op.operands]),h i (by simp[Op.operands])]
 |move x=>simp only[ar,h x (by simp[Op.operands])]
 |assign x=>simp only[ar,h x (by simp[Op.operands])]
 |box e x=>simp only[ar,h x (by simp[Op.operands])]
 |load e x=>simp only[ar,h x (by simp[Op.operands])]
 |nilCheck x=>simp only[ar,h x (by simp[Op.operands])]
 |unOp a b x=>simp only[ar,h x (by simp[Op.operands])]
 |convert a b x=>simp only[ar,h x (by simp[Op.operands])]
 |makeInterface t x=>simp only[ar,h x (by simp[Op.operands])]
 |fieldAddr s x f=>simp only[ar,h x (by simp[Op.operands])]
 |field s x f=>simp only[ar,h x (by simp[Op.operands])]
 |extract x i=>simp only[ar,h x (by simp[Op.operands])]
 |lookup t x i ok=>simp only[ar,h x (by simp[Op.operands]),h i (by simp[Op.operands])]
 |mapUpdate t m k x=>simp only[ar,h m (by simp[Op.operands]),h k (by simp[Op.operands]),h x (by simp[Op.operands])]
 |insert t m k x=>simp only[ar,h m (by simp[Op.operands]),h k (by simp[Op.operands]),h x (by simp[Op.operands])]
 |mapEntry t m k=>simp only[ar,h m (by simp[Op.operands]),h k (by simp[Op.operands])]
 |entryStore t m s x=>simp only[ar,h m (by simp[Op.operands]),h s (by simp[Op.operands]),h x (by simp[Op.operands])]
 |_=>rfl
end Go.Hx
namespace Go.Hx
variable {P:Program} {G:Nat->Option (List ZK)} {Γ Γ':aH} {H H':ZJ} {w w':World}
variable {ρ:Env}{r:Nat}{g:Nat->Option ZQ}{e:Option (Nat × ZQ)}{x:Option Tmp}{t:Tmp}{v:ZK}
def bL (P:Program)(G:Nat->Option (List ZK))(fv:ZK)(args:List ZK)(H:ZJ)(v:ZK)(rs:List Nat):Prop :=
 (∀r,r∈rs->r<H.A)/\∀H2:ZJ,(∀r,r∈rs->H2.get r=H.get r)->H.A<=H2.A->au P G fv args H2 fun r H3=>r=.ret v/\H3=H2
def bV (P:Program)(G:Nat->Option (List ZK))(o:Oper)(K:FP->St->Prop)(s:St):Prop :=
 match o.op with
 |.call { callee:=.value fv,args,.. }=>∃v rs,bL P G (ay G s.ρ fv) (args.toList.map (ay G s.ρ)) s.H v rs/\K ⟨[],rs⟩ ⟨aW s.ρ o.dst v,s.H⟩
 |op=>bG (ar P G s.ρ s.H s.H.A op) fun vH=>K (da P G s.ρ s.H.A op) ⟨aW s.ρ o.dst vH.1,vH.2⟩
def jc (i:Nat)(f:FP)(acc:List (Nat × FP)):List (Nat × FP) :=
 match f with
 |⟨[],[]⟩=>acc
 |f=>(i,f) :: acc
def jU (b:Nat)(f:FP)(acc:List (Nat × FP)):Prop :=
 ∀p,p∈acc->b.testBit p.1=false->(∀r,r∈f.nD->r ∉ p.2.rs)/\(∀r,r∈p.2.nD->r ∉ f.rs)
def eC (P:Program)(G:Nat->Option (List ZK))(all:Array Oper)(tail:St->Prop):List Nat->Nat->List (Nat × FP)->List Oper->St->Prop
 |b :: bs,i,acc,o :: rest,s=>bG (iu all s.ρ o) fun t=>if t=true then bV P G o (fun f s'=>jU b f acc/\eC P G all tail bs (i+1) (jc i f acc) rest s') s
   else eC P G all tail bs (i+1) acc rest ⟨aW s.ρ o.dst (.lit undef),s.H⟩
 |_,_,_,[],s=>tail s
 | [],_,_,_ :: _,_=>False
def yJ (o:Oper):List Nat:=(o.after.toList.filter fun e=>Region.binds .any e).map (·.on)
def vQ (x:Option Tmp)(l:List Tmp):Bool:=match x with|some d=>!l.contains d|none=>true
def vR (all:Array Oper)(x y:Oper):Bool :=
 vQ x.dst (y.looksAt all) && vQ y.dst (x.looksAt all) && (match x.dst with|some d=>y.dst != some d|none=>true)
def eY (bs:List Nat)(i:Nat):Nat:=(bs[i]?).getD 0
def yK (bs:List Nat)(i:Nat)(o:Oper):Bool :=
 let es:=yJ o
 let b:=eY bs i
 es.all (fun e=>decide (e<i)) && decide (b<2 ^ i) &&
 (List.range i).all (fun j=>!b.testBit j ||es.any fun e=>e == j ||(eY bs e).testBit j)
def tQ (all:Array Oper)(bs:List Nat)(K:Nat):Bool :=
 decide (bs.length=K) && decide (K<=all.size) &&
 (List.range all.size).all (fun i=>match all[i]? with|some o=>yK (bs++(List.range' K (all.size-K)).map fun m=>2 ^ m-1) i o|none=>false) &&
 (List.range K).all fun i=>match all[i]? with
  |some o=>(List.range i).all fun j=>(eY bs i).testBit j ||(match all[j]? with|some o'=>vR all o' o|none=>false)
  |none=>false
structure Dt where
 v:ZK
 e:Option (Nat × ZQ)
 al:Bool
 f:FP
def iA (all:Array Oper)(i:Nat):Option Tmp:=(all[i]?).bind (·.dst)
def bJ (all:Array Oper)(d:Nat->Dt)(ρ0:Env):Nat->(Nat->Bool)->Env
 |0,_=>ρ0
 |n+1,D=>if D n then aW (bJ all d ρ0 n D) (iA all n) (d n).v else bJ all d ρ0 n D
def bh (d:Nat->Dt)(g0:Nat->Option ZQ):Nat->(Nat->Bool)->Nat->Option ZQ
 |0,_=>g0
 |n+1,D=>if D n then fC (d n).e (bh d g0 n D) else bh d g0 n D
def aQ (d:Nat->Dt):Nat->Nat
 |0=>0
 |n+1=>aQ d n+(if (d n).al then 1 else 0)
def eD (x:Dt):Option Nat:=x.e.map (·.1)
def rU (h:e.map (·.1)≠some r):fC e g r=g r:=by
 cases e with
 |none=>rfl
 |some kb =>
  simp only[fC];rw[Vx];rintro rfl;exact h rfl
def rV (h:x≠some t):aW ρ x v t=ρ t:=by
 cases x with
 |none=>rfl
 |some d =>
  simp only[aW];rw[Vx];rintro rfl;exact h rfl
def vS {ρ':Env}(h:ρ t=ρ' t):aW ρ x v t=aW ρ' x v t:=by
 cases x with
 |none=>exact h
 |some d=>simp only[aW,h]
def vT {g':Nat->Option ZQ}(h:g r=g' r):fC e g r=fC e g' r:=by
 cases e with
 |none=>exact h
 |some kb=>simp only[fC,h]
def B9 {y:Option Tmp}{u:ZK}(h:∀d,x=some d->y≠some d):aW (aW ρ x v) y u=aW (aW ρ y u) x v:=by
 funext t
 by_cases hx:x=some t
 ·rw[rV (h t hx)];exact vS (rV (h t hx)).symm
 ·rw[rV (ρ:=aW ρ y u) hx];exact vS (rV hx)
def Iw {e':Option (Nat × ZQ)}(h:∀r,e.map (·.1)=some r->e'.map (·.1)≠some r):fC e' (fC e g)=fC e (fC e' g):=by
 funext r
 by_cases hx:e.map (·.1)=some r
 ·rw[rU (h r hx)];exact vT (rU (h r hx)).symm
 ·rw[rU (g:=fC e' g) hx];exact vT (rU hx)
section
variable {all:Array Oper} {d d':Nat->Dt} {ρ0:Env} {g0 g0':Nat->Option ZQ} {D D':Nat->Bool}
def qp {t:Tmp}:∀ {n:Nat},(∀j,j<n->iA all j=some t->D j=D' j)->bJ all d ρ0 n D t=bJ all d ρ0 n D' t:=by
 intro n
 induction n with
 |zero=>intro _;rfl
 |succ n ih =>
  intro h;have h0:=ih fun j hj=>h j O;simp only[bJ];by_cases hd:iA all n=some t
  ·rw[h n O hd];split
   ·exact vS h0
   ·exact h0
  ·have:∀(b:Bool) (ρ:Env),(if b=true then aW ρ (iA all n) (d n).v else ρ) t=ρ t:=by
    intro b ρ;split
    ·exact rV hd
    ·rfl
   rw[this,this];exact h0
def yh {m:Nat}:∀ {n:Nat},m<=n->bJ all d ρ0 n (fun j=>decide (j<m))=bJ all d ρ0 m fun _=>true:=by
 have low:∀k,k<=m->bJ all d ρ0 k (fun j=>decide (j<m))=bJ all d ρ0 k fun _=>true:=by
  intro k
  induction k with
  |zero=>intro _;rfl
  |succ k ih =>
   intro hk;simp only[bJ];rw[ih O,VA (by simp;omega)];simp
 intro n
 induction n with
 |zero =>
  intro hm;obtain rfl:m=0:=O
  exact low 0 (O)
 |succ n ih =>
  intro hm;by_cases h:m=n+1
  ·subst h;exact low (n+1) (O)
  ·simp only[bJ];rw[Vx (by simp;omega)];exact ih (O)
def qq {r:Nat}:∀ {n:Nat},(∀j,j<n->eD (d j)=some r->D j=D' j)->bh d g0 n D r=bh d g0 n D' r:=by
 intro n
 induction n with
 |zero=>intro _;rfl
 |succ n ih =>
  intro h;have h0:=ih fun j hj=>h j O;simp only[bh];by_cases hd:eD (d n)=some r
  ·rw[h n O hd];split
   ·exact vT h0
   ·exact h0
  ·have:∀(b:Bool) (g:Nat->Option ZQ),(if b=true then fC (d n).e g else g) r=g r:=by
    intro b g;split
    ·exact rU hd
    ·rfl
   rw[this,this];exact h0
def yi {m:Nat}:∀ {n:Nat},m<=n->bh d g0 n (fun j=>decide (j<m))=bh d g0 m fun _=>true:=by
 have low:∀k,k<=m->bh d g0 k (fun j=>decide (j<m))=bh d g0 k fun _=>true:=by
  intro k
  induction k with
  |zero=>intro _;rfl
  |succ k ih =>
   intro hk;simp only[bh];rw[ih O,VA (by simp;omega)];simp
 intro n
 induction n with
 |zero =>
  intro hm;obtain rfl:m=0:=O
  exact low 0 (O)
 |succ n ih =>
  intro hm;by_cases h:m=n+1
  ·subst h;exact low (n+1) (O)
  ·simp only[bh];rw[Vx (by simp;omega)];exact ih (O)
def tD {r:Nat}:∀ {n:Nat},(g0 r=g0' r\/∃j,j<n/\D j=true/\eD (d j)=some r)->bh d g0 n D r=bh d g0' n D r:=by
 intro n
 induction n with
 |zero =>
  rintro(h|⟨j,hj,_⟩)
  ·exact h
  ·omega
 |succ n ih =>
  intro h;simp only[bh];by_cases hD:D n=true
  ·rw[VA hD,VA hD];by_cases ht:eD (d n)=some r
   ·cases he:(d n).e with
    |none=>simp[eD,he]at ht
    |some kb =>
     simp only[eD,he,Option.map_some,Option.some.injEq]at ht;simp only[fC];rw[VA ht.symm,VA ht.symm]
   ·refine vT (ih ?_);rcases h with h|⟨j,hj,h1,h2⟩
    ·exact .inl h
    ·by_cases hjn:j=n
     ·subst hjn;exact absurd h2 ht
     ·exact .inr ⟨j,O,h1,h2⟩
  ·rw[Vx hD,Vx hD];refine ih ?_;rcases h with h|⟨j,hj,h1,h2⟩
   ·exact .inl h
   ·by_cases hjn:j=n
    ·subst hjn;exact absurd h1 hD
    ·exact .inr ⟨j,O,h1,h2⟩
def yj {r:Nat}:∀ {n:Nat},(∀j,j<n->D j=true->eD (d j)≠some r)->bh d g0 n D r=g0 r:=by
 intro n
 induction n with
 |zero=>intro _;rfl
 |succ n ih =>
  intro h;simp only[bh];split
  ·rename_i hD;rw[rU (h n O hD)];exact ih fun j hj=>h j (O)
  ·exact ih fun j hj=>h j (O)
def cL (D:Nat->Bool)(i:Nat):Nat->Bool:=fun j=>if j=i then true else D j
def yk {i:Nat}(hD:D i=false):∀ {n:Nat},i<n->(∀j,i<j->j<n->D j=true->∀t,iA all i=some t->iA all j≠some t) ->
  bJ all d ρ0 n (cL D i)=aW (bJ all d ρ0 n D) (iA all i) (d i).v:=by
 intro n
 induction n with
 |zero=>intro h;omega
 |succ n ih =>
  intro hi h;by_cases hin:i=n
  ·subst hin;have h0:bJ all d ρ0 i (cL D i)=bJ all d ρ0 i D:=funext fun t=>qp fun j hj _=>by simp[cL,Yl hj]
   simp only[bJ];rw[VA (by simp[cL]),Vx (by simp[hD]),h0]
  ·have hw:cL D i n=D n:=(by simp[cL,Ne.symm hin]);have h0:=ih O fun j h1 h2=>h j h1 O;simp only[bJ,hw];split
   ·rename_i hDn;rw[h0];exact B9 (h n O O hDn)
   ·exact h0
def yl {i:Nat}(hD:D i=false):∀ {n:Nat},i<n->(∀j,i<j->j<n->D j=true->∀t,eD (d i)=some t->eD (d j)≠some t) ->
  bh d g0 n (cL D i)=fC (d i).e (bh d g0 n D):=by
 intro n
 induction n with
 |zero=>intro h;omega
 |succ n ih =>
  intro hi h;by_cases hin:i=n
  ·subst hin;have h0:bh d g0 i (cL D i)=bh d g0 i D:=funext fun t=>qq fun j hj _=>by simp[cL,Yl hj]
   simp only[bh];rw[VA (by simp[cL]),Vx (by simp[hD]),h0]
  ·have hw:cL D i n=D n:=(by simp[cL,Ne.symm hin]);have h0:=ih O fun j h1 h2=>h j h1 O;simp only[bh,hw];split
   ·rename_i hDn;rw[h0];exact Iw (h n O O hDn)
   ·exact h0
def rK {m n:Nat}(h:m<=n):aQ d m<=aQ d n:=by
 induction n with
 |zero =>
  have:m=0:=O
  subst this;exact Nat.le_refl _
 |succ n ih =>
  by_cases hm:m=n+1
  ·subst hm;exact Nat.le_refl _
  ·exact Wm (ih O) (by simp[aQ])
def tE {n c:Nat}(h:c<aQ d n):∃j,j<n/\(d j).al=true/\aQ d j=c:=by
 induction n with
 |zero=>simp[aQ]at h
 |succ n ih =>
  by_cases hc:c<aQ d n
  ·obtain⟨j,h1,h2⟩:=ih hc;exact⟨j,O,h2⟩
  ·simp only[aQ]at h;cases hal:(d n).al with
   |false=>simp[hal]at h;omega
   |true =>
    simp only[hal,if_true]at h;exact⟨n,O,hal,O⟩
def mH {i n:Nat}(h:i<n)(hal:(d i).al=true):aQ d i<aQ d n:=by
 have:=rK (d:=d) (m:=i+1) (n:=n) h;simp only[aQ,hal,if_true]at this;omega
def tF {n:Nat}(h:∀j,j<n->d j=d' j):bJ all d ρ0 n D=bJ all d' ρ0 n D:=by
 induction n with
 |zero=>rfl
 |succ n ih=>simp only[bJ];rw[ih fun j hj=>h j O,h n O]
def tG {n:Nat}(h:∀j,j<n->d j=d' j):bh d g0 n D=bh d' g0 n D:=by
 induction n with
 |zero=>rfl
 |succ n ih=>simp only[bh];rw[ih fun j hj=>h j O,h n O]
def gO {n:Nat}(h:∀j,j<n->d j=d' j):aQ d n=aQ d' n:=by
 induction n with
 |zero=>rfl
 |succ n ih=>simp only[aQ];rw[ih fun j hj=>h j O,h n O]
end
def ExecOk (P:Program)(G:Nat->Option (List ZK))(all:Array Oper)(o:Oper)(id:Nat)(s s':St):Prop :=
 (iu all s.ρ o=some false/\s'=⟨aW s.ρ o.dst (.lit undef),s.H⟩) \/
 (iu all s.ρ o=some true/\∃v,s'.ρ=aW s.ρ o.dst v /\
  (ar P G s.ρ s.H id o.op=some (v,s'.H) \/
   ∃fv args ats,o.op=.call ⟨.value fv,args,ats⟩/\s'.H=s.H/\au P G (ay G s.ρ fv) (args.toList.map (ay G s.ρ)) s.H fun r H3=>r=.ret v/\H3=s.H))
def ym {n:Nat}{wb:nnb}{rd rb:Option Nat}{all:Array Oper}{o:Oper}{id i:Nat}{s s':St}{a:Act}{A:Act->World->Prop}{Q':Exit->Act->World->Prop}(ho:all[i]?=some o)(hd:gX n o=true)
  (hs:Z4 P G n wb Γ s a w) (hr:eW Γ s.H rd rb) (h:ExecOk P G all o id s s')
  (hnext:∀ Γ' a' w',Z4 P G n wb Γ' s' a' w'->ZX Γ s.H w Γ' s'.H w'->s.H.A<=s'.H.A->eW Γ' s'.H rd rb->(∃cv,a'=a.put o.dst cv)->A a' w'):
  wpOpIn (fB rb) 0 P all Q' i A a w:=by
 have hdst:∀d,o.dst=some d->d<n:=by
  intro d hd';unfold gX at hd;rw[hd']at hd;simpa using hd
 unfold wpOpIn;rw[ho];simp only;rcases h with ⟨hw,rfl⟩|⟨hw,v,hρ,h⟩
 ·rw[rO hs hw];simp only[Bool.false_eq_true,if_false];refine⟨fun _ _=>trivial,?_⟩;have hs':=lW (v:=.lit undef) (cv:=undef) hs hdst (ZX.refl Γ s.H w) ZI hs.heap (.lit _);exact hnext Γ _ w hs' (ZX.refl _ _ _) ZI hr ⟨_,rfl⟩
 ·rw[rO hs hw];simp only[if_true];obtain⟨ρ',H'⟩:=s';simp only at hρ;subst hρ;refine⟨fun _ _=>trivial,?_⟩;rcases h with hop|⟨fv,args,ats,hop,hH,hap⟩
  ·simp only at hop;rw[Oper.semAt_eq _ _ _ (fun c hc=>by rw[hc]at hop;simp[ar]at hop)];obtain⟨nx,cv,Γ',w',hrun,hnx,E,hn,R,hv⟩:=yB hs.heap (jR hs) hop;rw[hrun];have hri:=yF hr (yG hs.heap hop);have hs':=lW hs hdst E hn R hv;have hr':=hr.bK E hn hs.heap hri;rcases hnx with rfl|⟨rfl,rfl⟩
   ·exact hnext Γ' _ w' hs' E hn hr' ⟨_,rfl⟩
   ·exact hnext Γ' _ w' hs' E hn hr' ⟨_,rfl⟩
  ·simp only at hH;subst hH;rw[Oper.semAt_eq _ _ _ (fun c hc=>by rw[hc]at hop;cases hop)];obtain⟨d,h1,h2⟩:=hap Γ w (a.eval fv) (args.map a.eval) hs.heap (jR hs fv) ⟨ZF,fun i h1 h2=>by simp only[VO,XS,WE];exact jR hs _⟩;have hex:(execOp a.eval o).run P w=(invoke d.target d.args).run P w:=by
    unfold execOp;simp only[hop];unfold resolve;simp only;rw[az h1]
   have hri:fZ s.H rd:=by
    cases rd with
    |none=>trivial
    |some id =>
     obtain⟨b,st,pend,n,env,ps,asg,body,_,_,h3⟩:=hr;exact⟨_,_,_,_,_,_,_,h3⟩
   have cont:∀e w',jS P G Γ s.H w (fun r H3=>r=.ret v/\H3=s.H) e w'->(match e with
     |.returned v=>A (a.put o.dst v) w'
     |.panicked chain=>Q' (.panic chain) a w'
     |.outgrown=>LetsOut Q'):=by
    rintro e w' ⟨r,H',Γ',hend,⟨rfl,rfl⟩,R,E,hn⟩;have hr':=hr.bK E hn hs.heap hri;cases e with
    |returned cv=>exact hnext Γ' _ w' (lW hs hdst E hn R hend) E hn hr' ⟨_,rfl⟩
    |panicked chain=>exact hend.elim
    |outgrown=>exact hend.elim
   rw[hex];rcases h2 with ⟨f,as,h3,h4⟩|⟨l,f,tm,asg,body,h3,h4⟩|⟨cv,w',h3,h4⟩
   ·rw[h3];refine⟨fun hc=>by simp[Fence.wide]at hc,?_⟩;have h4':CallsIn (fB rb) 0 P f as w _:=h4;refine h4'.mono ?_;intro e w' hp;have:=cont e w' hp;cases e<;>exact this
   ·rw[h3];refine⟨fun hc=>by simp[Fence.wide]at hc,?_⟩;have h4':RoundIn (fB rb) 0 P l f tm asg body w _:=h4;refine h4'.mono ?_;intro e w' hp;have:=cont e w' hp;cases e<;>exact this
   ·rw[h3];exact cont (.returned cv) w' h4
def nL (d:Nat->Dt)(H0:ZJ)(m:Nat):ZJ:=⟨bh d H0.get m fun _=>true,H0.A+aQ d m⟩
def canon (all:Array Oper)(d:Nat->Dt)(s0:St)(m:Nat):St:=⟨bJ all d s0.ρ m fun _=>true,nL d s0.H m⟩
structure Z0 (P:Program)(G:Nat->Option (List ZK))(all:Array Oper)(bs:List Nat)(s0:St)(d:Nat->Dt)(i:Nat):Prop where
 step:∀o,all[i]?=some o->∀ ρ2 H2,(∀t,t∈o.looksAt all->ρ2 t=(canon all d s0 i).ρ t)->(∀r,r∈(d i).f.rs->H2.get r=(canon all d s0 i).H.get r) ->
  ((d i).al=true->H2.get (s0.H.A+aQ d i)=some .nt/\s0.H.A+aQ d i≠H2.A)->s0.H.A+aQ d i<=H2.A ->
  ExecOk P G all o (s0.H.A+aQ d i) ⟨ρ2,H2⟩ ⟨aW ρ2 o.dst (d i).v,⟨fC (d i).e H2.get,H2.A⟩⟩
 nD:∀k b,(d i).e=some (k,b)->k∈(d i).f.nD/\((d i).al=false->k∈(d i).f.rs)
 al:(d i).al=true->∃b,(d i).e=some (s0.H.A+aQ d i,b)
 lt:∀r,r∈(d i).f.rs->r<s0.H.A+aQ d i
 apart:∀j,j<i->(eY bs i).testBit j=false->(∀r,r∈(d i).f.nD->r ∉ (d j).f.rs)/\(∀r,r∈(d j).f.nD->r ∉ (d i).f.rs)
def rW {all:Array Oper}{o:Oper}{ρ ρ':Env}(h:∀t,t∈o.looksAt all->ρ' t=ρ t):iu all ρ' o=iu all ρ o:=by
 unfold iu;cases hg:o.guard with
 |none=>rfl
 |some gw =>
  obtain⟨j,want⟩:=gw;simp only;cases hd:(all[j]?).bind (·.dst) with
  |none=>rfl
  |some d =>
   simp only;rw[h d (by simp[Oper.looksAt,hg,hd])]
def vU {all:Array Oper}{o:Oper}{ρ ρ':Env}(h:∀t,t∈o.looksAt all->ρ' t=ρ t):∀x,x∈o.op.operands->ay G ρ' x=ay G ρ x:=by
 intro x hx;cases x with
 |tmp t=>exact h t (X9 _ (List.mem_filterMap.2 ⟨.tmp t,by simpa using hx,rfl⟩))
 |_=>rfl
def cV (d:Nat->Dt)(m:Nat)(x:Dt):Nat->Dt:=fun j=>if j=m then x else d j
def iP {d:Nat->Dt}{m:Nat}{x:Dt}{i:Nat}(h:i<m):d i=cV d m x i:=by simp[cV,Yl h]
def dI {d:Nat->Dt}{m:Nat}{x:Dt}:cV d m x m=x:=by simp[cV]
def nM {all:Array Oper}{d d':Nat->Dt}{s0:St}{m:Nat}(h:∀j,j<m->d j=d' j):canon all d s0 m=canon all d' s0 m:=by
 unfold canon nL;rw[tF h,tG h,gO h]
def Z0.below {all:Array Oper}{bs:List Nat}{s0:St}{d d':Nat->Dt}{i:Nat}(g:Z0 P G all bs s0 d i)(h:∀j,j<=i->d j=d' j):Z0 P G all bs s0 d' i:=by
 have hi:=h i ZI;have hn:aQ d i=aQ d' i:=gO fun j hj=>h j O;have hc:canon all d s0 i=canon all d' s0 i:=nM fun j hj=>h j O;obtain⟨a,b,c,e,f⟩:=g;refine⟨?_,?_,?_,?_,?_⟩
 ·rw[<- hi,<- hn,<- hc];exact a
 ·rw[<- hi];exact b
 ·rw[<- hi,<- hn];exact c
 ·rw[<- hi,<- hn];exact e
 ·intro j hj hb;rw[<- hi,<- h j O];exact f j hj hb
def lT (d:Nat->Dt)(m:Nat)(acc:List (Nat × FP)):Prop:=∀j,j<m->(d j).f=⟨[],[]⟩\/(j,(d j).f)∈acc
def lT.add {d:Nat->Dt}{m:Nat}{acc:List (Nat × FP)}(h:lT d m acc)(x:Dt):lT (cV d m x) (m+1) (jc m x.f acc):=by
 intro j hj;have key:∀p,p∈acc->p∈jc m x.f acc:=by
  intro p hp;unfold jc;split
  ·exact hp
  ·exact Xv _ hp
 by_cases hjm:j=m
 ·subst hjm;rw[dI];by_cases hf:x.f=⟨[],[]⟩
  ·exact .inl hf
  ·refine .inr ?_;unfold jc;split
   ·rename_i h0;exact absurd h0 hf
   ·exact YK
 ·rw[<- iP (x:=x) O];exact(h j O).imp id (key _)
def tH {d:Nat->Dt}{m:Nat}{acc:List (Nat × FP)}{b:Nat}{f:FP}(hc:lT d m acc)(h:jU b f acc):∀j,j<m->b.testBit j=false->(∀r,r∈f.nD->r ∉ (d j).f.rs)/\(∀r,r∈(d j).f.nD->r ∉ f.rs):=by
 intro j hj hb;rcases hc j hj with h0|h1
 ·rw[h0];exact⟨fun r _ h=>(by cases h),fun r h=>(by cases h)⟩
 ·exact h _ h1 hb
def qt {all:Array Oper}{d:Nat->Dt}{s0:St}{m:Nat}{x:Dt}{o:Oper}(ho:all[m]?=some o):
  canon all (cV d m x) s0 (m+1)=⟨aW (canon all d s0 m).ρ o.dst x.v,⟨fC x.e (canon all d s0 m).H.get,(canon all d s0 m).H.A+(if x.al then 1 else 0)⟩⟩:=by
 have hb:∀j,j<m->d j=cV d m x j:=fun j hj=>iP hj;unfold canon nL;simp only[bJ,bh,aQ,if_true,dI];rw[<- tF hb,<- tG hb,<- gO hb];simp only[iA,ho,Option.bind_some,W6]
def qu {all:Array Oper}{bs:List Nat}{s0:St}{d:Nat->Dt}{m:Nat}{x:Dt}(hg:∀i,i<m->Z0 P G all bs s0 d i)(hx:Z0 P G all bs s0 (cV d m x) m):
  ∀i,i<m+1->Z0 P G all bs s0 (cV d m x) i:=by
 intro i hi;by_cases him:i=m
 ·subst him;exact hx
 ·exact(hg i O).below fun j hj=>iP (O)
def trace {all:Array Oper}{bs:List Nat}{s0:St}{tail:St->Prop}{K:Nat}(hbs:bs.length=K)(hK:K<=all.size):∀(k m:Nat) (d:Nat->Dt) (acc:List (Nat × FP)),k+m=K ->
  (∀i,i<m->Z0 P G all bs s0 d i)->lT d m acc->iy (canon all d s0 m).H->eC P G all tail (bs.drop m) m acc ((all.toList.take K).drop m) (canon all d s0 m) ->
  ∃d',(∀i,i<K->Z0 P G all bs s0 d' i)/\tail (canon all d' s0 K):=by
 intro k
 induction k with
 |zero =>
  intro m d acc hm hg hc wf h;obtain rfl:m=K:=O
  refine⟨d,hg,?_⟩;have:(all.toList.take m).drop m=[]:=by
   apply Yy;simp only[VK];omega
  rw[this]at h;cases hb:bs.drop m with
  |nil=>rw[hb]at h;simpa only[eC] using h
  |cons b bs'=>rw[hb]at h;simpa only[eC] using h
 |succ k ih =>
  intro m d acc hm hg hc wf h;have hmK:m<K:=O
  have hms:m<all.size:=O
  have ho:all[m]?=some all[m]:=VL hms;have hbm:bs.drop m=eY bs m :: bs.drop (m+1):=by
   rw[Wt O];congr 1;simp[eY,Vz (show m<bs.length by omega)]
  have hom:(all.toList.take K).drop m=all[m] :: (all.toList.take K).drop (m+1):=by
   rw[Wt (by simp only[VK,Xm];omega)];congr 1;simp
  rw[hbm,hom]at h;simp only[eC]at h;obtain⟨t,ht,h⟩:=h;have hnext:(canon all d s0 m).H.A=s0.H.A+aQ d m:=rfl;cases t with
  |false =>
   simp only[Bool.false_eq_true,if_false]at h
   let x:Dt:=⟨.lit undef,none,false,⟨[],[]⟩⟩
   have hb:∀j,j<m->d j=cV d m x j:=fun j hj=>iP hj;have hcan:canon all (cV d m x) s0 (m+1)=⟨aW (canon all d s0 m).ρ all[m].dst (.lit undef),(canon all d s0 m).H⟩:=qt ho;have hgx:Z0 P G all bs s0 (cV d m x) m:=by
    refine⟨?_,?_,?_,?_,?_⟩
    ·rw[dI,<- nM hb];intro o ho' ρ2 H2 h1 h2 h3 _;rw[ho]at ho';cases ho';refine .inl ⟨?_,rfl⟩;simp only;rw[rW h1,ht]
    ·rw[dI];intro k b he;cases he
    ·rw[dI];intro he;cases he
    ·rw[dI];intro r hr;cases hr
    ·rw[dI];intro j hj hbit;exact⟨fun r hr=>(by cases hr),fun r hr hr'=>(by cases hr')⟩
   refine ih (m+1) (cV d m x) acc O (qu hg hgx) (hc.add x) ?_ ?_
   ·rw[hcan];exact wf
   ·rw[hcan];exact h
  |true =>
   simp only[if_true]at h;unfold bV at h;split at h
   ·rename_i fv args ats hop;obtain⟨v,rs,⟨hlt,hcall⟩,hap,h⟩:=h
    let x:Dt:=⟨v,none,false,⟨[],rs⟩⟩
    have hb:∀j,j<m->d j=cV d m x j:=fun j hj=>iP hj;have hcan:canon all (cV d m x) s0 (m+1)=⟨aW (canon all d s0 m).ρ all[m].dst v,(canon all d s0 m).H⟩:=qt ho;have hgx:Z0 P G all bs s0 (cV d m x) m:=by
     refine⟨?_,?_,?_,?_,?_⟩
     ·rw[dI,<- nM hb];intro o ho' ρ2 H2 h1 h2 h3 h4;rw[ho]at ho';cases ho';refine .inr ⟨?_,v,rfl,.inr ⟨fv,args,ats,hop,rfl,?_⟩⟩
      ·simp only;rw[rW h1,ht]
      ·have hev:=vU (G:=G) h1;have e1:ay G ρ2 fv=ay G (canon all d s0 m).ρ fv:=hev fv (by simp[hop,Op.operands,Call.operands]);have e2:args.toList.map (ay G ρ2)=args.toList.map (ay G (canon all d s0 m).ρ) :=
        V1 fun y hy=>hev y (by simp only[hop,Op.operands,Call.operands];simp;exact .inr (by simpa using hy))
       simp only;rw[e1,e2];exact hcall H2 h2 (by rw[hnext,gO hb];exact h4)
     ·rw[dI];intro k b he;cases he
     ·rw[dI];intro he;cases he
     ·rw[dI,<- gO hb];exact hlt
     ·rw[dI];intro j hj hbit;rw[<- iP hj];exact tH hc hap j hj hbit
    refine ih (m+1) (cV d m x) _ O (qu hg hgx) (hc.add x) ?_ ?_
    ·rw[hcan];exact wf
    ·rw[hcan];exact h
   ·obtain⟨⟨v,H'⟩,hop,hap,h⟩:=h;obtain⟨e,al,hget,hnx,heff,hal,hlt,hloc⟩:=B7 wf hop
    let x:Dt:=⟨v,e,al,da P G (canon all d s0 m).ρ (canon all d s0 m).H.A all[m].op⟩
    have hb:∀j,j<m->d j=cV d m x j:=fun j hj=>iP hj;have hcan:canon all (cV d m x) s0 (m+1)=⟨aW (canon all d s0 m).ρ all[m].dst v,H'⟩:=by
     rw[qt ho];congr 1;cases H';simp only at hget hnx;simp only[ZJ.mk.injEq];refine⟨hget.symm,?_⟩;rw[hnx];simp only[x];cases al<;>simp
    have hgx:Z0 P G all bs s0 (cV d m x) m:=by
     refine⟨?_,?_,?_,?_,?_⟩
     ·rw[dI,<- nM hb,<- gO hb];intro o ho' ρ2 H2 h1 h2 h3 h4;rw[ho]at ho';cases ho';refine .inr ⟨?_,v,rfl,.inl ?_⟩
      ·simp only;rw[rW h1,ht]
      ·simp only;rw[B8 (ρ':=(canon all d s0 m).ρ) (vU h1)];exact hloc H2 h2 h3
     ·rw[dI];exact heff
     ·rw[dI,<- gO hb];exact hal
     ·rw[dI,<- gO hb];exact hlt
     ·rw[dI];intro j hj hbit;rw[<- iP hj];exact tH hc hap j hj hbit
    have wf':iy H':=by
     intro id b hid;rw[hget]at hid;rw[hnx];cases e with
     |none =>
      have:=wf id b hid;split<;>omega
     |some kb =>
      obtain⟨k0,b0⟩:=kb;simp only[fC]at hid;split at hid
      ·rename_i hk;subst hk;cases al with
       |true =>
        obtain⟨b1,hb1⟩:=hal rfl;simp only[Option.some.injEq,Prod.mk.injEq]at hb1;simp only[if_true];omega
       |false =>
        have:=hlt _ ((heff id b0 rfl).2 rfl);simpa using this
      ·have:=wf id b hid;split<;>omega
    refine ih (m+1) (cV d m x) _ O (qu hg hgx) (hc.add x) ?_ ?_
    ·rw[hcan];exact wf'
    ·rw[hcan];exact h
end Go.Hx
namespace Go.Hx
variable {P:Program} {G:Nat->Option (List ZK)} {Γ Γ':aH} {H H':ZJ} {w w':World}
variable {bs:List Nat}{K i j:Nat}{D:Nat->Bool}{d:Nat->Dt}{o:Oper}{s0:St}
structure nnf (all:Array Oper)(bs:List Nat)(K:Nat):Prop where
 len:bs.length=K
 le:K<=all.size
 down:∀i o,all[i]?=some o->∀e,e∈o.after->Region.binds .any e=true->e.on<i
 just:∀i o j,all[i]?=some o->(if i<K then (eY bs i).testBit j=true else j<i)->∃e,e∈o.after/\Region.binds .any e=true/\(e.on=j\/(if e.on<K then (eY bs e.on).testBit j=true else j<e.on))
 apart:∀i j oi oj,i<K->j<i->all[i]?=some oi->all[j]?=some oj->(eY bs i).testBit j=false->vR all oj oi=true
def Cf {k:Nat}:k∈yJ o↔∃e,e∈o.after/\Region.binds .any e=true/\e.on=k:=by
 simp[yJ,and_assoc]
def Cg {N:Nat}(hl:bs.length=K)(hi:i<N)(hK:K<=N):
  (eY (bs++(List.range' K (N-K)).map fun m=>2 ^ m-1) i).testBit j=true↔(if i<K then (eY bs i).testBit j=true else j<i):=by
 unfold eY;by_cases h:i<K
 ·rw[VA h,VH O]
 ·rw[Vx h,VS O,List.getElem?_map,List.getElem?_range' O];simp only[Option.map_some,Option.getD_some,Xj,decide_eq_true_eq];have:K+1*(i-bs.length)=i:=O
  rw[this]
def Ci {all:Array Oper}(h:tQ all bs K=true):nnf all bs K:=by
 unfold tQ at h;simp only[Wh,decide_eq_true_eq,VZ,VP]at h;obtain⟨⟨⟨hlen,hle⟩,hone⟩,hap⟩:=h;have hlt:∀i o,all[i]?=some o->i<all.size:=fun i o ho=>(WX.1 ho).1;have hdown:∀i o,all[i]?=some o->∀e,e∈o.after->Region.binds .any e=true->e.on<i:=by
  intro i o ho e he hb;have h1:=hone i (hlt i o ho);rw[ho]at h1;simp only[yK,Wh,VZ,decide_eq_true_eq]at h1;exact h1.1.1 e.on (Cf.2 ⟨e,he,hb,rfl⟩)
 refine⟨hlen,hle,hdown,?_,?_⟩
 ·intro i o j ho hj;have hi:=hlt i o ho;have h1:=hone i hi;rw[ho]at h1;simp only[yK,Wh,VZ,decide_eq_true_eq,VP]at h1;obtain⟨⟨_,hb⟩,h2⟩:=h1;have hbit:=(Cg (j:=j) hlen hi hle).2 hj;have hji:j<i:=by
   rcases VV j i with h|h
   ·exact h
   ·have:=Yw (VM hb (V0 O h));rw[hbit]at this;cases this
  have h3:=h2 j hji;rw[hbit]at h3;simp only[Bool.not_true,Bool.false_or,XT,Wr,beq_iff_eq]at h3;obtain⟨k,hk,h4⟩:=h3;obtain⟨e,he,hbe,rfl⟩:=Cf.1 hk;refine⟨e,he,hbe,h4.imp id fun h5=>?_⟩;exact(Cg (j:=j) hlen (Nat.lt_trans (hdown i o ho e he hbe) hi) hle).1 h5
 ·intro i j oi oj hi hj hoi hoj hbit;have h1:=hap i hi;rw[hoi]at h1;simp only[VZ,VP]at h1;have h2:=h1 j hj;rw[hbit,hoj]at h2;simpa using h2
def Cj {x:Option Tmp}{l:List Tmp}{t:Tmp}(h:vQ x l=true)(hx:x=some t):t ∉ l:=by
 subst hx;simpa[vQ] using h
def rX {all:Array Oper}{x y:Oper}(h:vR all x y=true):(∀t,x.dst=some t->t ∉ y.looksAt all)/\(∀t,y.dst=some t->t ∉ x.looksAt all)/\(∀t,x.dst=some t->y.dst≠some t):=by
 simp only[vR,Wh]at h;obtain⟨⟨h1,h2⟩,h3⟩:=h;refine⟨fun t ht=>Cj h1 ht,fun t ht=>Cj h2 ht,fun t ht=>?_⟩;rw[ht]at h3;simpa using h3
def vZ (all:Array Oper)(L:Nat->Bool):Prop:=∀i o,L i=true->all[i]?=some o->∀e,e∈o.after->Region.binds .any e=true->L e.on=true
def nnf.ahead {all:Array Oper}(S:nnf all bs K){L:Nat->Bool}(hL:vZ all L):∀i o j,all[i]?=some o->(∀e,e∈o.after->Region.binds .any e=true->L e.on=true) ->
  (if i<K then (eY bs i).testBit j=true else j<i)->L j=true:=by
 intro i
 induction i using Nat.strongRecOn with
 |_ i ih =>
  intro o j ho hdir hj;obtain⟨e,he,hb,h⟩:=S.just i o j ho hj;have hon:=hdir e he hb;rcases h with rfl|h
  ·exact hon
  ·have hlt:=S.down i o ho e he hb;have hi:=(WX.1 ho).1;exact ih e.on hlt all[e.on] j (VL O) (hL e.on _ hon (VL O)) h
def cC (H:ZJ)(k:Nat):ZJ:=⟨fun j=>if H.A<=j/\j<H.A+k then some .nt else H.get j,H.A+k⟩
def tT (H:ZJ)(k:Nat):ZX Γ H w Γ (cC H k) w where
 os:=rfl
 tape:=rfl
 output:=rfl
 size:=ZI
 nc:=fun _ _ h=>⟨rfl,h⟩
 V:=fun id h1 _ x' hx=>by
  refine⟨x',?_,ZQ.le_refl _ _ _⟩;simp only[cC]at hx;rw[Vx O]at hx;exact hx
 nz:=fun _ _=>rfl
def rY (w:World):ZX Γ H w Γ H { w with drawn:=w.drawn+1 } where
 os:=rfl
 tape:=rfl
 output:=rfl
 size:=ZI
 nc:=fun _ _ h=>⟨rfl,h⟩
 V:=fun _ _ _ x' hx=>⟨x',hx,ZQ.le_refl _ _ _⟩
 nz:=fun _ _=>rfl
def ZT.move (R:ZT P G Γ H w)(hheap:w'.heap=w.heap)(E:ZX Γ H w Γ H' w')(hn:H.A<=H'.A)(hget:∀id b,H'.get id=some b->H.get id=some b\/(b=.nt/\H.get id=none/\id<H'.A))(hsame:∀id b,H.get id=some b->H'.get id=some b):ZT P G Γ H' w' where
 J id g e cells hg:=by
  rcases hget _ _ hg with h|h
  ·have h1:=R.J id g e cells h;cases hΓ:Γ id with
   |none=>rw[hΓ]at h1;exact h1
   |some y =>
    obtain⟨b,base,n⟩:=y;rw[hΓ]at h1;obtain⟨c,a1,a2,a3,a4⟩:=h1;exact⟨c,by rw[hheap];exact a1,a2,a3,fun i hi=>let ⟨cv,b1,b2⟩:=a4 i hi;⟨cv,b1,b2.bK E hn⟩⟩
  ·cases h.1
 loop id st pend n env ps asg body hg:=by
  rcases hget _ _ hg with h|h
  ·obtain⟨b,rr,a1,a2,a3,a4,a5,a6,a7,a8,a9⟩:=R.loop id st pend n env ps asg body h;exact⟨b,rr,a1,by rw[hheap];exact a2,a3,a4,a5,a6,a7,a8,fun t ht=>(a9 t ht).bK E hn⟩
  ·cases h.1
 mp id es hg:=by
  rcases hget _ _ hg with h|h
  ·obtain⟨b,a1,a2⟩:=R.mp id es h;exact⟨b,a1,by rw[hheap];exact a2⟩
  ·cases h.1
 nt id hg:=by
  rcases hget _ _ hg with h|h
  ·exact R.nt id h
  ·cases hΓ:Γ id with
   |none=>rfl
   |some x =>
    obtain⟨y,hy⟩:=R.nI id x hΓ;rw[h.2.1]at hy;cases hy
 inj:=R.inj
 nI id x h:=let ⟨y,hy⟩:=R.nI id x h;⟨y,hsame _ _ hy⟩
 lt id b base n h:=by rw[hheap];exact R.lt id b base n h
 A id y h:=by
  rcases hget _ _ h with h|h
  ·exact VM (R.A id y h) hn
  ·exact h.2.2
 nH g cells h:=(R.nH g cells h).bK E hn
 gsz:=R.rj E
def Ck (R:ZT P G Γ H w)(k:Nat):ZT P G Γ (cC H k) w:=by
 have hnone:∀id,H.A<=id->H.get id=none:=by
  intro id h;cases hg:H.get id with
  |none=>rfl
  |some y=>have:=R.A id y hg;omega
 refine R.move rfl (tT H k) (by simp[cC]) (fun id b hb=>?_) (fun id b hb=>?_)
 ·simp only[cC]at hb;split at hb
  ·rename_i hc;simp only[Option.some.injEq]at hb;exact .inr ⟨hb.symm,hnone id hc.1,hc.2⟩
  ·exact .inl hb
 ·simp only[cC];rw[Vx]
  ·exact hb
  ·have:=R.A id b hb;omega
def Z4.move {n:Nat}{wb:nnb}{s:St}{a:Act}(hs:Z4 P G n wb Γ s a w){H':ZJ}(E:ZX Γ s.H w Γ H' w')(hn:s.H.A<=H'.A)(R:ZT P G Γ H' w'):Z4 P G n wb Γ ⟨s.ρ,H'⟩ a w' :=
 ⟨hs.size,fun t=>(hs.env t).bK E hn,R,hs.defers.bK E,Wm hs.low E.size⟩
def eW.move {rd rb:Option Nat}(h:eW Γ H rd rb)(hk:∀id b,H.get id=some b->H'.get id=some b):eW Γ H' rd rb:=by
 cases rd with
 |none=>exact h
 |some id =>
  obtain⟨b,st,pend,n,env,ps,asg,body,h1,h2,h3⟩:=h;exact⟨b,_,_,_,_,_,_,_,h1,h2,hk _ _ h3⟩
def bR (all:Array Oper)(d:Nat->Dt)(s0:St)(K:Nat)(D:Nat->Bool):St :=
 ⟨bJ all d s0.ρ K D,⟨bh d (cC s0.H (aQ d K)).get K D,s0.H.A+aQ d K⟩⟩
def py {all:Array Oper}(h:all[j]?=some o):iA all j=o.dst:=by simp[iA,h]
def yn {all:Array Oper}(S:nnf all bs K)(hg:∀i,i<K->Z0 P G all bs s0 d i)(hi:i<K)(ho:all[i]?=some o)(hDi:D i=false)
  (hdown:∀j,j<i->(eY bs i).testBit j=true->D j=true) (hup:∀j,i<j->j<K->D j=true->(eY bs j).testBit i=false):
  ExecOk P G all o (s0.H.A+aQ d i) (bR all d s0 K D) (bR all d s0 K (cL D i)):=by
 have hget:∀j,j<K->∃oj,all[j]?=some oj:=fun j hj=>⟨_,VL (VM hj S.le)⟩
 have hgi:=hg i hi;have tgtE:∀j r,j<K->eD (d j)=some r->r∈(d j).f.nD/\(((d j).al=true/\r=s0.H.A+aQ d j)\/((d j).al=false/\r∈(d j).f.rs)):=by
  intro j r hj ht;unfold eD at ht;cases he:(d j).e with
  |none=>rw[he]at ht;cases ht
  |some kb =>
   obtain⟨k,b⟩:=kb;rw[he]at ht;simp only[Option.map_some,Option.some.injEq]at ht;subst ht;obtain⟨h1,h2⟩:=(hg j hj).nD k b he;refine⟨h1,?_⟩;cases hal:(d j).al with
   |true =>
    obtain⟨b',hb'⟩:=(hg j hj).al hal;rw[he]at hb';simp only[Option.some.injEq,Prod.mk.injEq]at hb';exact .inl ⟨rfl,hb'.1⟩
   |false=>exact .inr ⟨rfl,h2 hal⟩
 have rangeK:∀r,r<s0.H.A+aQ d i->((cC s0.H (aQ d K)).get r=s0.H.get r\/∃j,j<i/\(fun _:Nat=>true) j=true/\eD (d j)=some r):=by
  intro r hr;by_cases h:s0.H.A<=r
  ·obtain⟨j,h1,h2,h3⟩:=tE (d:=d) (n:=i) (c:=r-s0.H.A) O;obtain⟨b,hb⟩:=(hg j O).al h2;refine .inr ⟨j,h1,rfl,?_⟩;unfold eD;rw[hb,h3];simp only[Option.map_some,Option.some.injEq];omega
  ·left;simp only[cC];rw[Vx O]
 have henv:∀t,t∈o.looksAt all->bJ all d s0.ρ K D t=(canon all d s0 i).ρ t:=by
  intro t ht;show _=bJ all d s0.ρ i (fun _=>true) t;rw[<- yh (all:=all) (d:=d) (ρ0:=s0.ρ) (m:=i) (n:=K) O];refine qp fun j hj hdj=>?_;obtain⟨oj,hoj⟩:=hget j hj;rw[py hoj]at hdj;rcases Xh j i with h|rfl|h
  ·cases hb:(eY bs i).testBit j with
   |true=>rw[hdown j h hb];simp[h]
   |false=>exact absurd ht ((rX (S.apart i j o oj hi h ho hoj hb)).1 t hdj)
  ·rw[hDi];simp
  ·cases hD:D j with
   |false=>symm;simp;omega
   |true=>exact absurd ht ((rX (S.apart j i oj o hj h hoj ho (hup j h hj hD))).2.1 t hdj)
 have hheap:∀r,r∈(d i).f.rs->bh d (cC s0.H (aQ d K)).get K D r=(canon all d s0 i).H.get r:=by
  intro r hr;show _=bh d s0.H.get i (fun _=>true) r;rw[<- tD (g0:=(cC s0.H (aQ d K)).get) (rangeK r (hgi.lt r hr)),<- yi (m:=i) (n:=K) O];refine qq fun j hj ht=>?_;obtain⟨he,_⟩:=tgtE j r hj ht;rcases Xh j i with h|rfl|h
  ·cases hb:(eY bs i).testBit j with
   |true=>rw[hdown j h hb];simp[h]
   |false=>exact absurd hr ((hgi.apart j h hb).2 r he)
  ·rw[hDi];simp
  ·cases hD:D j with
   |false=>symm;simp;omega
   |true=>exact absurd hr (((hg j hj).apart i h (hup j h hj hD)).1 r he)
 have hal:(d i).al=true->bh d (cC s0.H (aQ d K)).get K D (s0.H.A+aQ d i)=some .nt/\s0.H.A+aQ d i≠s0.H.A+aQ d K:=by
  intro hal;have hlt:=mH hi hal;refine⟨?_,O⟩;obtain⟨b,hb⟩:=hgi.al hal;have heff:=(hgi.nD _ _ hb).1;rw[yj]
  ·simp only[cC];rw[VA O]
  ·intro j hj hD ht;obtain⟨h1,h2⟩:=tgtE j _ hj ht;rcases Xh j i with h|rfl|h
   ·rcases h2 with ⟨h2,h3⟩|⟨h2,h3⟩
    ·have:=mH h h2;omega
    ·have:=(hg j hj).lt _ h3;have:=rK (d:=d) (XW h);omega
   ·rw[hDi]at hD;cases hD
   ·rcases h2 with ⟨h2,h3⟩|⟨h2,h3⟩
    ·have:=mH h hal;omega
    ·exact absurd h3 (((hg j hj).apart i h (hup j h hj hD)).2 _ heff)
 have:=hgi.step o ho (bJ all d s0.ρ K D) ⟨bh d (cC s0.H (aQ d K)).get K D,s0.H.A+aQ d K⟩ henv hheap hal (by have:=rK (d:=d) (XW hi);simp only;omega);have e1:bJ all d s0.ρ K (cL D i)=aW (bJ all d s0.ρ K D) o.dst (d i).v:=by
  rw[yk hDi hi,py ho];intro j h hj hD t hti;obtain⟨oj,hoj⟩:=hget j hj;rw[py ho]at hti;rw[py hoj];exact(rX (S.apart j i oj o hj h hoj ho (hup j h hj hD))).2.2 t hti
 have e2:bh d (cC s0.H (aQ d K)).get K (cL D i)=fC (d i).e (bh d (cC s0.H (aQ d K)).get K D):=by
  refine yl hDi hi fun j h hj hD r hti htj=>?_;obtain⟨a1,a2⟩:=tgtE i r hi hti;obtain⟨b1,b2⟩:=tgtE j r hj htj;obtain⟨c1,c2⟩:=(hg j hj).apart i h (hup j h hj hD);rcases b2 with ⟨b2,b3⟩|⟨b2,b3⟩
  ·rcases a2 with ⟨a2,a3⟩|⟨a2,a3⟩
   ·have:=mH h a2;omega
   ·exact c1 r b1 a3
  ·exact c2 r a1 b3
 unfold bR;rw[e1,e2];exact this
def tI {all:Array Oper}(hg:∀i,i<K->Z0 P G all bs s0 d i)(hD:∀j,j<K->D j=true):bR all d s0 K D=canon all d s0 K:=by
 unfold bR canon nL;have e1:bJ all d s0.ρ K D=bJ all d s0.ρ K fun _=>true:=funext fun t=>qp fun j hj _=>hD j hj;have e2:bh d (cC s0.H (aQ d K)).get K D=bh d s0.H.get K fun _=>true:=by
  funext r
  rw[qq (D':=fun _=>true) fun j hj _=>hD j hj];refine tD ?_;by_cases h:s0.H.A<=r/\r<s0.H.A+aQ d K
  ·obtain⟨j,h1,h2,h3⟩:=tE (d:=d) (n:=K) (c:=r-s0.H.A) O;obtain⟨b,hb⟩:=(hg j h1).al h2;refine .inr ⟨j,h1,rfl,?_⟩;unfold eD;rw[hb,h3];simp only[Option.map_some,Option.some.injEq];omega
  ·left;simp only[cC];rw[Vx h]
 rw[e1,e2]
def yo {all:Array Oper}(hD:∀j,j<K->D j=false):bR all d s0 K D=⟨s0.ρ,cC s0.H (aQ d K)⟩:=by
 unfold bR;have e1:∀n,n<=K->bJ all d s0.ρ n D=s0.ρ:=by
  intro n
  induction n with
  |zero=>intro _;rfl
  |succ n ih=>intro h;simp only[bJ];rw[Vx (by simp[hD n h])];exact ih (O)
 have e2:∀n,n<=K->bh d (cC s0.H (aQ d K)).get n D=(cC s0.H (aQ d K)).get:=by
  intro n
  induction n with
  |zero=>intro _;rfl
  |succ n ih=>intro h;simp only[bh];rw[Vx (by simp[hD n h])];exact ih (O)
 rw[e1 K ZI,e2 K ZI];rfl
end Go.Hx
namespace Go.Hx
variable {P:Program} {G:Nat->Option (List ZK)} {Γ Γ':aH} {H H':ZJ} {w w':World}
variable {listed:Array Bool}{i n:Nat}
def gu (listed:Array Bool):Nat->Nat
 |0=>0
 |n+1=>gu listed n+(if listed.getD n true=false then 1 else 0)
def yR (hi:listed.getD i true=false):∀n,gu (listed.setIfInBounds i true) n+(if i<n then 1 else 0)=gu listed n:=by
 have hsz:i<listed.size:=by
  rcases VV i listed.size with h|h
  ·exact h
  ·rw[Wu,W1 h]at hi;cases hi
 intro n
 induction n with
 |zero=>simp[gu]
 |succ n ih =>
  simp only[gu];by_cases hin:n=i
  ·subst hin;have:(listed.setIfInBounds n true).getD n true=true:=(by simp[hsz]);have h2:(if n<n then 1 else 0)=0:=Vx (Ya n);have h3:(if n<n+1 then 1 else 0)=1:=VA (W3 n);rw[h2]at ih;rw[this,h3,hi];simp;omega
  ·rw[getD_set_ne true (Ne.symm hin)];have h4:(if i<n+1 then 1 else 0)=(if i<n then 1 else 0):=by
    by_cases h:i<n
    ·rw[VA h,VA (show i<n+1 by omega)]
    ·rw[Vx h,Vx (show ¬i<n+1 by omega)]
   rw[h4];generalize (if i<n then 1 else 0)=x at ih ⊢;omega
def v7 (h:gu listed n=0):∀j,j<n->listed.getD j true=true:=by
 induction n with
 |zero=>intro j hj;omega
 |succ n ih =>
  simp only[gu]at h;intro j hj;by_cases hjn:j=n
  ·subst hjn;cases hl:listed.getD j true with
   |true=>rfl
   |false=>rw[hl]at h;simp at h
  ·exact ih O j (O)
def Cl :∀m,m<=n->gu (Array.replicate n false) m=m:=by
 intro m
 induction m with
 |zero=>intro _;rfl
 |succ m ih =>
  intro h;simp only[gu];rw[ih O,VA];rw[Wu,XX,VA O];rfl
def qz (h:i<listed.size)(x y:Bool):listed.getD i x=listed.getD i y:=by
 simp[Wu,VL h]
section
variable {n:Nat} {wb:nnb} {rd rb:Option Nat} {Q:AX->St->Prop} {all:Array Oper} {bs:List Nat} {K:Nat} {id:Nat} {dr:Bool}
def we (S:nnf all bs K)(hfit:∀o,o∈all.toList->gX n o=true):∀(r m:Nat) (listed:Array Bool) (s:St) (Γ:aH) (a:Act) (w:World),r+m=all.size->K<=m->listed.size=all.size->gu listed all.size=r ->
  (∀j,j<all.size->(listed.getD j true=true↔j<m))->opsV P G rd Q all (all.toList.drop m) s->Z4 P G n wb Γ s a w->eW Γ s.H rd rb ->
  ∀(Q':Exit->Act->World->Prop),(∀e a' w',iZ P G n wb rd rb (wr (.region id all dr)) Γ s.H a w Q e a' w'->Q' e a' w')->wpAnyIn (fB rb) 0 P .any all Q' r listed a w:=by
 intro r
 induction r with
 |zero =>
  intro m listed s Γ a w hm hKm hsz hc hl h hs hr Q' hq;have:all.toList.drop m=[]:=Yy (by simp;omega);rw[this]at h;refine⟨?_,hq _ _ _ (.here (x:=.normal) trivial h hs hr)⟩;rw[List.eq_nil_iff_forall_not_mem];intro j hj;obtain⟨h1,o,ho,_⟩:=mem_ready.1 hj;have hjs:=(WX.1 ho).1;rw[(hl j hjs).2 O]at h1;cases h1
 |succ r ih =>
  intro m listed s Γ a w hm hKm hsz hc hl h hs hr Q' hq;have hms:m<all.size:=O
  have ho:all[m]?=some all[m]:=VL hms;have hmun:listed.getD m true=false:=by
   cases hx:listed.getD m true with
   |false=>rfl
   |true=>have:=(hl m hms).1 hx;omega
  have hready:m∈Region.ready .any all listed:=by
   refine mem_ready.2 ⟨hmun,_,ho,fun e he hb=>?_⟩;have:=S.down m _ ho e he hb;rw[qz O false true];exact(hl e.on O).2 this
  refine⟨fun h0=>(by rw[h0]at hready;cases hready),fun i hi=>?_⟩;obtain⟨hiun,oi,hoi,hall⟩:=mem_ready.1 hi;have his:=(WX.1 hoi).1;have him:m<=i:=by
   rcases VV i m with h|h
   ·rw[(hl i his).2 h]at hiun;cases hiun
   ·exact h
  have hL:vZ all fun j=>listed.getD j false:=by
   intro k ok hk hok e he hb;have hks:=(WX.1 hok).1;have h1:=S.down k ok hok e he hb;simp only at hk ⊢;rw[qz O false true]at hk ⊢;have:=(hl k hks).1 hk;exact(hl _ O).2 (O)
  have hieq:i=m:=by
   rcases VV m i with h|h
   ·have h1:=S.ahead hL i oi m hoi hall (by rw[Vx O];exact h);rw[qz O false true,hmun]at h1;cases h1
   ·omega
  subst hieq;have hlist:all.toList.drop i=all[i] :: all.toList.drop (i+1):=by
   rw[Wt (by simpa using hms)];simp
  rw[hlist]at h;simp only[opsV]at h;have hl':∀j,j<all.size->((listed.setIfInBounds i true).getD j true=true↔j<i+1):=by
   intro j hj;by_cases hji:j=i
   ·subst hji;simp
   ·rw[getD_set_ne true (Ne.symm hji),hl j hj];omega
  have hc':gu (listed.setIfInBounds i true) all.size=r:=by
   have:=yR hmun all.size;rw[VA hms]at this;omega
  have hd:=hfit all[i] ZF;obtain⟨t,ht,h⟩:=h;unfold wpOpIn;rw[ho];simp only;rw[rO hs ht];cases t with
  |true =>
   simp only[if_true]at h ⊢;refine BV hd hs hr h ?_ ?_
   ·rintro Γ' s' a' w' hk hs' E hn hr' ⟨cv,rfl⟩;exact ih (i+1) _ s' Γ' _ w' O O (by simpa using hsz) hc' hl' hk hs' hr' Q' fun e a'' w'' hp=>hq _ _ _ (hp.step E hn (rP hms cv) fun _ h=>h)
   ·rintro Γ' s' a' w' chain hp hc hs' E hn hr' rfl;exact hq _ _ _ ⟨.panic,s',Γ',hc,hp,hs',E,hn,hr',.refl _ _⟩
  |false =>
   simp only[Bool.false_eq_true,if_false]at h ⊢;refine⟨fun _ _=>trivial,?_⟩;have hdst:∀d,all[i].dst=some d->d<n:=by
    intro d hd';unfold gX at hd;rw[hd']at hd;simpa using hd
   have hs':=lW (v:=.lit undef) (cv:=undef) hs hdst (ZX.refl Γ s.H w) ZI hs.heap (.lit _);exact ih (i+1) _ ⟨aW s.ρ all[i].dst (.lit undef),s.H⟩ Γ _ w O O (by simpa using hsz) hc' hl' h hs' hr Q' fun e a'' w'' hp=>hq _ _ _ (hp.step (ZX.refl _ _ _) ZI (rP hms _) fun _ h=>h)
def yp (S:nnf all bs K)(hfit:∀o,o∈all.toList->gX n o=true){d:Nat->Dt}{s0:St}(hg:∀i,i<K->Z0 P G all bs s0 d i)(htail:opsV P G rd Q all (all.toList.drop K) (canon all d s0 K)):
  ∀(r:Nat) (listed:Array Bool) (D:Nat->Bool) (Γ:aH) (a:Act) (w:World),listed.size=all.size->gu listed all.size=r->(∀j,j<all.size->listed.getD j true=D j)->(∀j,D j=true->j<K)->vZ all D ->
  Z4 P G n wb Γ (bR all d s0 K D) a w->eW Γ (bR all d s0 K D).H rd rb ->
  ∀(Q':Exit->Act->World->Prop),(∀e a' w',iZ P G n wb rd rb (wr (.region id all dr)) Γ (bR all d s0 K D).H a w Q e a' w'->Q' e a' w')->wpAnyIn (fB rb) 0 P .any all Q' r listed a w:=by
 intro r
 induction r with
 |zero =>
  intro listed D Γ a w hsz hc hl hlow hL hs hr Q' hq;have hall:∀j,j<K->D j=true:=fun j hj=>by rw[<- hl j (VM hj S.le)];exact v7 hc j (VM hj S.le)
  have hKs:K=all.size:=by
   rcases VV K all.size with h|h
   ·have h1:=v7 hc K h;rw[hl K h]at h1;have:=hlow K h1;omega
   ·have:=S.le;omega
  rw[tI hg hall]at hs hr hq;exact we S hfit 0 K listed _ Γ a w O ZI hsz hc (fun j hj=>by rw[hl j hj];exact⟨hlow j,hall j⟩) htail hs hr Q' hq
 |succ r ih =>
  intro listed D Γ a w hsz hc hl hlow hL hs hr Q' hq;by_cases hall:∀j,j<K->D j=true
  ·rw[tI hg hall]at hs hr hq;have hcount:∀m,m<=all.size->gu listed m=m-K:=by
    intro m
    induction m with
    |zero=>intro _;simp[gu]
    |succ m ihm =>
     intro hm;simp only[gu];rw[ihm O,hl m O];by_cases hmK:m<K
     ·rw[hall m hmK];simp;omega
     ·have:D m=false:=by
       cases hD:D m with
       |false=>rfl
       |true=>exact absurd (hlow m hD) hmK
      rw[this];simp;omega
   have h1:=hcount all.size ZI;exact we S hfit (r+1) K listed _ Γ a w (by have:=S.le;omega) ZI hsz hc (fun j hj=>by rw[hl j hj];exact⟨hlow j,hall j⟩) htail hs hr Q' hq
  ·have hex:∃j,j<K/\D j=false:=by
    by_cases h:∃j,j<K/\D j=false
    ·exact h
    ·refine absurd (fun j hj=>?_) hall;cases hD:D j with
     |true=>rfl
     |false=>exact absurd ⟨j,hj,hD⟩ h
   have least:∀k,(∃j,j<k/\j<K/\D j=false)->∃j,j<K/\D j=false/\∀i,i<j->D i=true:=by
    intro k
    induction k with
    |zero=>rintro⟨j,hj,_⟩;omega
    |succ k ihk =>
     rintro⟨j,h1,h2,h3⟩;by_cases h:∃j,j<k/\j<K/\D j=false
     ·exact ihk h
     ·refine⟨j,h2,h3,fun i hi=>?_⟩;cases hD:D i with
      |true=>rfl
      |false=>exact absurd ⟨i,O,O,hD⟩ h
   obtain⟨j0,hj0K,hj0,hbelow⟩:=least K (let ⟨j,h1,h2⟩:=hex;⟨j,h1,h1,h2⟩);have hj0s:j0<all.size:=VM hj0K S.le;have hr0:j0∈Region.ready .any all listed:=by
    refine mem_ready.2 ⟨by rw[hl j0 hj0s];exact hj0,_,VL hj0s,fun e he hb=>?_⟩;have hlt:=S.down j0 _ (VL hj0s) e he hb;rw[qz O false true,hl e.on O];exact hbelow _ hlt
   refine⟨fun h0=>(by rw[h0]at hr0;cases hr0),fun i hi=>?_⟩;obtain⟨hiun,oi,hoi,hdir⟩:=mem_ready.1 hi;have his:=(WX.1 hoi).1;have hdirD:∀e,e∈oi.after->Region.binds .any e=true->D e.on=true:=fun e he hb=>by
    have:=S.down i oi hoi e he hb;rw[<- hl e.on O,<- qz O false true];exact hdir e he hb
   have hahead:=S.ahead hL i oi;have hiK:i<K:=by
    rcases VV i K with h|h
    ·exact h
    ·have:=hahead j0 hoi hdirD (by rw[Vx O];omega);rw[hj0]at this;cases this
   have hDi:D i=false:=(by rw[<- hl i his];exact hiun);have hex:=yn (P:=P) (G:=G) S hg hiK hoi hDi (fun j hj hb=>hahead j hoi hdirD (by rw[VA hiK];exact hb)) (fun j h1 h2 hD=>by
    cases hb:(eY bs j).testBit i with
    |false=>rfl
    |true =>
     have hjs:j<all.size:=VM h2 S.le;have:=S.ahead hL j _ i (VL hjs) (fun e he hbe=>hL j _ hD (VL hjs) e he hbe) (by rw[VA h2];exact hb);rw[hDi]at this;cases this)
   have hoi':oi=all[i]:=by
    rw[VL his]at hoi;exact(Option.some.inj hoi).symm
   refine ym hoi (hfit oi (by rw[hoi'];simp)) hs hr hex ?_;rintro Γ' a' w' hs' E hn hr' ⟨cv,rfl⟩;have hc':gu (listed.setIfInBounds i true) all.size=r:=by
    have:=yR hiun all.size;rw[VA his]at this;omega
   refine ih (listed.setIfInBounds i true) (cL D i) Γ' _ w' (by simpa using hsz) hc' ?_ ?_ ?_ hs' hr' Q' fun e a'' w'' hp=>hq _ _ _ (hp.step E hn (by rw[hoi'];exact rP his cv) fun _ h=>h)
   ·intro j hj;by_cases hji:j=i
    ·subst hji;simp[cL]
    ·rw[getD_set_ne true (Ne.symm hji),hl j hj];simp[cL,hji]
   ·intro j hj;by_cases hji:j=i
    ·subst hji;exact hiK
    ·simp only[cL,Vx hji]at hj;exact hlow j hj
   ·intro k ok hk hok e he hb;by_cases hki:k=i
    ·subst hki;rw[hoi]at hok;cases hok;have:=hdirD e he hb;simp only[cL];split
     ·rfl
     ·exact this
    ·simp only[cL,Vx hki]at hk;have:=hL k ok hk hok e he hb;simp only[cL];split
     ·rfl
     ·exact this
def W.draw {s:St}(K:Nat)(bs:List Nat)(hm:P.follows .mixedOrders=true)(hfit:all.toList.all (gX n)=true)(hst:tQ all bs K=true)
  (h:eC P G all (opsV P G rd Q all (all.toList.drop K)) bs 0 [] (all.toList.take K) s):W P G n rd (.region id all true) Q s:=by
 intro wb Γ a w rb hs hr;have S:=Ci hst;have hfit':∀o,o∈all.toList->gX n o=true:=fun o ho=>VZ.1 hfit o ho;have wf:iy s.H:=fun id b hb=>hs.heap.A id b hb;have hcan0:canon all (fun _=>⟨.lit undef,none,false,⟨[],[]⟩⟩) s 0=s:=rfl;obtain⟨d,hg,htail⟩:=trace (P:=P) (G:=G) (all:=all) (bs:=bs) (s0:=s) (tail:=opsV P G rd Q all (all.toList.drop K)) S.len S.le K 0 (fun _=>⟨.lit undef,none,false,⟨[],[]⟩⟩) [] (O)
  (fun i hi=>O) (fun j hj=>O) (by rw[hcan0];exact wf) (by rw[hcan0];exact h)
 refine wpIn_region_any hm ?_
 let w1:World:={ w with drawn:=w.drawn+1 }
 have R1:ZT P G Γ s.H w1:=hs.heap.move rfl (rY w) ZI (fun id b hb=>.inl hb) fun id b hb=>hb;have hs1:Z4 P G n wb Γ s a w1:=hs.move (rY w) ZI R1;have hs2:Z4 P G n wb Γ ⟨s.ρ,cC s.H (aQ d K)⟩ a w1:=hs1.move (tT _ _) (by simp[cC]) (Ck R1 _);have hr2:eW Γ (cC s.H (aQ d K)) rd rb:=hr.move fun id b hb=>by
  simp only[cC];rw[Vx]
  ·exact hb
  ·have:=hs.heap.A id b hb;omega
 have e0:bR all d s K (fun _=>false)=⟨s.ρ,cC s.H (aQ d K)⟩:=yo fun _ _=>rfl;refine yp (wb:=wb) (id:=id) (dr:=true) S hfit' hg htail all.size _ (fun _=>false) Γ a w1 ZF (Cl _ ZI) ?_ ?_ ?_ ?_ ?_ _ ?_
 ·intro j hj;rw[Wu,XX,VA hj];rfl
 ·intro j hj;cases hj
 ·intro i o hi;cases hi
 ·rw[e0];exact hs2
 ·rw[e0];exact hr2
 ·rw[e0];intro e a' w' hp;refine hp.step ?_ (by simp[cC]) (.refl _ _) fun _ h=>h;exact ZX.trans (rY w) ZI (tT _ _)
end
end Go.Hx
namespace Go.Hx
variable {P:Program} {G:Nat->Option (List ZK)}
variable {α β:Type}
def px (a:α)(K:α->Prop):bG (some a) K=K a:=by simp[bG]
def vV (K:α->Prop):bG none K=False:=by simp[bG]
def yL (o:Option α)(f:α->Option β)(K:β->Prop):bG (o.bind f) K=bG o fun a=>bG (f a) K:=by
 cases o<;>simp[bG]
def iB (o:Option α)(f:α->β)(K:β->Prop):bG (o.map f) K=bG o fun a=>K (f a):=by
 cases o<;>simp[bG]
def Ca (c:Prop)[Decidable c](a:Option α)(K:α->Prop):bG (if c then a else none) K=(c/\bG a K):=by
 by_cases h:c<;>simp[h,bG]
def vW {o:Option α}{K K':α->Prop}(h:∀a,K a=K' a):bG o K=bG o K':=by
 have:K=K':=funext h;subst this;rfl
def Ix (p q:Prop):jx true p q=p:=by simp[jx]
def Iy (p q:Prop):jx false p q=q:=by simp[jx]
def jx.mk {t:Bool}{p q:Prop}(h1:t=true->p)(h2:t=false->q):jx t p q:=⟨h1,h2⟩
def Iz {f:FuncId}{args args':List ZK}{H H':ZJ}{K:ZP->ZJ->Prop}(h2:args=args')(h3:H=H'):ag P G f args H K=ag P G f args' H' K:=by
 rw[h2,h3]
theorem IA {n:Nat}{rd:Option Nat}{c:Code}{Q:AX->St->Prop}{s s':St}(h:s=s'):W P G n rd c Q s=W P G n rd c Q s':=by rw[h]
attribute [congr] Iz IA
def IB (K:St->Prop)(Q:AX->St->Prop)(s:St):lU K Q .normal s=K s:=(rfl)
def IC (K:St->Prop)(Q:AX->St->Prop)(i:Nat)(s:St):lU K Q (.exit i) s=Q (.exit i) s:=(rfl)
def ID (K:St->Prop)(Q:AX->St->Prop)(i:Nat)(s:St):lU K Q (.goto i) s=Q (.goto i) s:=(rfl)
def IE (K:St->Prop)(Q:AX->St->Prop)(s:St):lU K Q .ret s=Q .ret s:=(rfl)
def IF (K:St->Prop)(Q:AX->St->Prop)(s:St):lU K Q .panic s=Q .panic s:=(rfl)
def IG (i:Nat)(Q:AX->St->Prop)(s:St):nO i Q .normal s=Q .normal s:=(rfl)
def IH (i j:Nat)(Q:AX->St->Prop)(s:St):nO i Q (.exit j) s=if j=i then Q .normal s else Q (.exit j) s:=(rfl)
def II (i j:Nat)(Q:AX->St->Prop)(s:St):nO i Q (.goto j) s=Q (.goto j) s:=(rfl)
def IJ (i:Nat)(Q:AX->St->Prop)(s:St):nO i Q .ret s=Q .ret s:=(rfl)
def IK (i:Nat)(Q:AX->St->Prop)(s:St):nO i Q .panic s=Q .panic s:=(rfl)
def noGoto_normal (Q:AX->St->Prop)(s:St):noGoto Q .normal s=Q .normal s:=(rfl)
def noGoto_exit (i:Nat)(Q:AX->St->Prop)(s:St):noGoto Q (.exit i) s=Q (.exit i) s:=(rfl)
def noGoto_ret (Q:AX->St->Prop)(s:St):noGoto Q .ret s=Q .ret s:=(rfl)
def noGoto_panic (Q:AX->St->Prop)(s:St):noGoto Q .panic s=Q .panic s:=(rfl)
section code
variable {n:Nat} {rd:Option Nat} {Q:AX->St->Prop} {s:St}
def IL:vc P G n rd .skip Q s=Q .normal s:=(rfl)
def IM (l:Nat):vc P G n rd (.label l) Q s=Q .normal s:=(rfl)
def IN (id:Nat)(ops:Array Oper):vc P G n rd (.region id ops false) Q s=opsV P G rd Q ops ops.toList s:=(rfl)
def IP (id:Nat)(ops:Array Oper):vc P G n rd (.region id ops true) Q s=W P G n rd (.region id ops true) Q s:=(rfl)
def IQ (a b:Code):vc P G n rd (.seq a b) Q s=vc P G n rd a (lU (vc P G n rd b Q) Q) s:=(rfl)
def IR (id:Nat)(c:Code):vc P G n rd (.block id c) Q s=vc P G n rd c (nO id Q) s:=(rfl)
def IS (c:Code):vc P G n rd (.loop c) Q s=W P G n rd (.loop c) Q s:=(rfl)
def IT (f:Operand)(ps:Array Tmp)(asg c:Code):vc P G n rd (.rangeFunc f ps asg c) Q s=W P G n rd (.rangeFunc f ps asg c) Q s:=(rfl)
def IU (i:Nat):vc P G n rd (.exit i) Q s=Q (.exit i) s:=(rfl)
def IV (c:Code):vc P G n rd (.scope c) Q s=vc P G n rd c (noGoto Q) s:=(rfl)
def IW (i:Nat):vc P G n rd (.goto i) Q s=Q (.goto i) s:=(rfl)
def IX:vc P G n rd .ret Q s=Q .ret s:=(rfl)
def Cb:ZK->Option Bool
 |.lit (.bool t)=>some t
 |_=>none
def IY (t:Bool):Cb (.lit (.bool t))=some t:=rfl
def IZ (c:Operand)(a b:Code):vc P G n rd (.cond c a b) Q s=bG (Cb (ay G s.ρ c)) fun t=>jx t (vc P G n rd a Q s) (vc P G n rd b Q s):=by
 simp only[vc];congr 1
end code
def I0 (ρ:Env)(t:Tmp):ay G ρ (.tmp t)=ρ t:=rfl
def I1 (ρ:Env)(v:Value):ay G ρ (.const v)=.lit v:=rfl
def I3 (ρ:Env)(f:FuncId):ay G ρ (.func f)=.Z f [] []:=rfl
def I4 (ρ:Env)(d:Tmp)(v:ZK)(t:Tmp):aW ρ (some d) v t=if t=d then v else ρ t:=rfl
def I5 (ρ:Env)(v:ZK):aW ρ none v=ρ:=rfl
def I6 (ws:Nat)(ρ ρ₀:Env)(t:Nat):mask ws ρ ρ₀ t=if ws / 2 ^ t % 2=1 then ρ t else ρ₀ t:=rfl
def iv:ZK->Int
 |.lit (.int _ n)=>n
 |_=>0
def aZ (k:IntKind)(n:Int):iv (.lit (.int k n))=n:=rfl
def yM (l:List ZK)(t:Nat):ja l t=(l[t]?).getD (.lit undef):=rfl
def I7 (rs:List ResultVar)(H:ZJ)(K:ZP->ZJ->Prop)(s:St):rR P G rs H K .ret s=bG (iQ P s.H s.ρ rs) fun vs=>aq P G H K (pq vs) s.H:=(rfl)
def I9 (rs:List ResultVar)(H:ZJ)(K:ZP->ZJ->Prop)(s:St):rR P G rs H K .normal s=bG (iQ P s.H s.ρ rs) fun vs=>aq P G H K (pq vs) s.H:=(rfl)
def Ja (H:ZJ)(ρ:Env):iQ P H ρ []=some []:=rfl
def Jb (H:ZJ)(ρ:Env)(t:Tmp)(r:List ResultVar):iQ P H ρ (.tmp t :: r)=(iQ P H ρ r).map (ρ t :: ·):=rfl
def Jc (H:ZJ)(ρ:Env)(a:Tmp)(t:TypeId)(r:List ResultVar):iQ P H ρ (.cell a t :: r)=(iN P H t (ρ a)).bind fun v=>(iQ P H ρ r).map (v :: ·):=rfl
def Jd (v:ZK):pq [v]=v:=rfl
def Je (v u:ZK)(r:List ZK):pq (v :: u :: r)=.nf (v :: u :: r):=rfl
def Jf:pq []=.nf []:=rfl
section ops
variable {rd:Option Nat} {Q:AX->St->Prop} {K:St->Prop} {s:St} {d:Option Tmp} {ty:TypeId} {pos:String} {aft:Array Edge} {g:Option (Nat × Bool)}
def Jg (all:Array Oper):opsV P G rd Q all [] s=Q .normal s:=(rfl)
def Jh (all:Array Oper)(op:Op)(rest:List Oper):opsV P G rd Q all (⟨d,op,ty,pos,aft,none⟩ :: rest) s=bd P G rd Q ⟨d,op,ty,pos,aft,none⟩ (opsV P G rd Q all rest) s:=by
 simp[opsV,iu,px]
def Ji (all:Array Oper)(op:Op)(rest:List Oper)(j:Nat)(want:Bool):opsV P G rd Q all (⟨d,op,ty,pos,aft,some (j,want)⟩ :: rest) s =
  bG (iu all s.ρ ⟨d,op,ty,pos,aft,some (j,want)⟩) fun t=>if t=true then bd P G rd Q ⟨d,op,ty,pos,aft,some (j,want)⟩ (opsV P G rd Q all rest) s else opsV P G rd Q all rest ⟨aW s.ρ d (.lit undef),s.H⟩:=(rfl)
def Jj (P:Program)(G:Nat->Option (List ZK))(fv:ZK)(args:List ZK)(H:ZJ)(K:ZP->ZJ->Prop)(_d:TagR K:=.mk):Prop:=au P G fv args H K
def Jk (fv:Operand)(args:Array Operand)(ats:Array TypeId):bd P G rd Q ⟨d,.call ⟨.value fv,args,ats⟩,ty,pos,aft,g⟩ K s =
  Jj P G (ay G s.ρ fv) (args.toList.map (ay G s.ρ)) s.H fun r H'=>fZ H' rd/\match r with
   |.ret v=>K ⟨aW s.ρ d v,H'⟩
   |.panic=>Q .panic ⟨s.ρ,H'⟩:=(rfl)
def Jl (x:Operand):bd P G rd Q ⟨d,.panic x,ty,pos,aft,g⟩ K s=((∃t v,(ay G s.ρ x)=.lit (.iface t v))/\Q .panic s):=(rfl)
def Jm (x:Operand):bd P G rd Q ⟨d,.move x,ty,pos,aft,g⟩ K s=K ⟨aW s.ρ d (ay G s.ρ x),s.H⟩:=by simp[bd,ar,px]
def Jn (x:Operand):bd P G rd Q ⟨d,.assign x,ty,pos,aft,g⟩ K s=K ⟨aW s.ρ d (ay G s.ρ x),s.H⟩:=by simp[bd,ar,px]
def Jo (c a b:Operand):bd P G rd Q ⟨d,.pick c a b,ty,pos,aft,g⟩ K s=bG (match ay G s.ρ c with|.lit (.bool t)=>some t|_=>none) fun t=>K ⟨aW s.ρ d (if t then ay G s.ρ a else ay G s.ρ b),s.H⟩:=by
 simp only[bd,ar];split<;>simp_all[px,vV]
def Jp (e:TypeId):bd P G rd Q ⟨d,.alloc e,ty,pos,aft,g⟩ K s=bG (cw P e) fun z=>bG (s.H.lay s.H.A (.J 0 e z)) fun H'=>K ⟨aW s.ρ d (.M s.H.A 0 0),H'⟩:=by
 simp only[bd,ar,yL];exact vW fun _=>iB ..
def Jq (e:TypeId)(x:Operand):bd P G rd Q ⟨d,.box e x,ty,pos,aft,g⟩ K s=bG (s.H.lay s.H.A (.J 0 e (ay G s.ρ x).cells)) fun H'=>K ⟨aW s.ρ d (.M s.H.A 0 0),H'⟩:=by
 simp[bd,ar,iB]
def Jr (t:TypeId)(parts:Array (Nat × Operand)):bd P G rd Q ⟨d,.build t parts,ty,pos,aft,g⟩ K s=bG (tB P t (parts.toList.map fun p=>(p.1,ay G s.ρ p.2))) fun v=>K ⟨aW s.ρ d v,s.H⟩:=by
 simp[bd,ar,iB]
def Js (t:TypeId)(len:Nat)(parts:Array (Nat × Operand)):bd P G rd Q ⟨d,.buildSlice t len parts,ty,pos,aft,g⟩ K s =
  bG (pe P s.H s.H.A t len (parts.toList.map fun p=>(p.1,ay G s.ρ p.2))) fun vH=>K ⟨aW s.ρ d vH.1,vH.2⟩:=by
 simp[bd,ar]
def Jt (t:TypeId)(a:Operand):bd P G rd Q ⟨d,.load t a,ty,pos,aft,g⟩ K s=bG (iN P s.H t (ay G s.ρ a)) fun v=>K ⟨aW s.ρ d v,s.H⟩:=by
 simp[bd,ar,iB]
def Ju (t:TypeId)(a x:Operand):bd P G rd Q ⟨d,.store t a x,ty,pos,aft,g⟩ K s=((P.underlying t).isSome=true/\bG (kO P s.H t (ay G s.ρ a) (ay G s.ρ x)) fun H'=>K ⟨aW s.ρ d (.lit undef),H'⟩):=by
 simp[bd,ar,Ca,iB]
def Jv (x:Operand):bd P G rd Q ⟨d,.nilCheck x,ty,pos,aft,g⟩ K s=bG (mG s.H (ay G s.ρ x)) fun v=>K ⟨aW s.ρ d v,s.H⟩:=by
 simp[bd,ar,iB]
def Jw (op:BinOp)(t:TypeId)(x y:Operand)(u:TypeId):bd P G rd Q ⟨d,.binOp op t x y u,ty,pos,aft,g⟩ K s =
  tO P op t (lV s.H op (ay G s.ρ x) (ay G s.ρ y)) (fun v=>K ⟨aW s.ρ d v,s.H⟩) (bG (bI P op t x y (ay G s.ρ x) (ay G s.ρ y)) fun v=>K ⟨aW s.ρ d v,s.H⟩):=by
 simp[bd,ar,iB]
def Jx (op:BinOp)(t:TypeId)(Kb:ZK->Prop)(p:Prop):tO P op t none Kb p=p:=rfl
def Jy (op:BinOp)(t:TypeId)(k:Bool)(Kb:ZK->Prop)(p:Prop):tO P op t (some k) Kb p=(tM (P.underlying t)=true/\∀b:Bool,(k=true->b=false)->Kb (.lit (.bool (if op == .neq then !b else b)))):=rfl
def Jz (e:TypeId):tM (some (.slice e))=true:=rfl
def JA (H:ZJ)(op:BinOp)(v:Value)(y:ZK):lV H op (.lit v) y=none:=by
 unfold lV;split<;>rfl
def JB (H:ZJ)(n:Nat)(cells:List ZK):lV H .eql (.Q n cells) (.lit (.slice none 0 0))=some (decide (0<n)):=rfl
def JC (H:ZJ)(n:Nat)(cells:List ZK):lV H .neq (.Q n cells) (.lit (.slice none 0 0))=some (decide (0<n)):=rfl
def Cc (H:ZJ)(id g o n z:Nat):lV H .eql (.U id g o n z) (.lit (.slice none 0 0))=match H.V id g with|some _=>some (decide (0<n))|none=>none:=rfl
def JD:(BinOp.eql == BinOp.neq)=false:=rfl
def JE:(BinOp.neq == BinOp.neq)=true:=rfl
def JF (op:UnOp)(t:TypeId)(x:Operand):bd P G rd Q ⟨d,.unOp op t x,ty,pos,aft,g⟩ K s=bG (rF P op (ay G s.ρ x)) fun v=>K ⟨aW s.ρ d v,s.H⟩:=by
 simp[bd,ar,iB]
def JG (a b:TypeId)(x:Operand):bd P G rd Q ⟨d,.convert a b x,ty,pos,aft,g⟩ K s=bG (mF P s.H a b (ay G s.ρ x)) fun v=>K ⟨aW s.ρ d v,s.H⟩:=by
 simp[bd,ar,iB]
def JH (f:FuncId)(first cap:Array Operand):bd P G rd Q ⟨d,.makeFunc (.func f) first cap,ty,pos,aft,g⟩ K s=K ⟨aW s.ρ d (.Z f (first.toList.map (ay G s.ρ)) (cap.toList.map (ay G s.ρ))),s.H⟩:=by
 simp[bd,ar,px]
def JI (t:TypeId)(l c:Operand):bd P G rd Q ⟨d,.makeSlice t l c,ty,pos,aft,g⟩ K s=bG (nK P s.H s.H.A t (ay G s.ρ l) (ay G s.ρ c)) fun vH=>K ⟨aW s.ρ d vH.1,vH.2⟩:=by
 simp[bd,ar]
def JJ (t:TypeId)(x:Operand)(lo hi:Option Operand):bd P G rd Q ⟨d,.slice t x lo hi none,ty,pos,aft,g⟩ K s =
  bG (oY P s.H t (ay G s.ρ x) (lo.map (ay G s.ρ)) (hi.map (ay G s.ρ))) fun v=>K ⟨aW s.ρ d v,s.H⟩:=by
 simp[bd,ar,iB]
def vX (P:Program)(H:ZJ)(s:TypeId)(f:Nat)(x:ZK):Option ZK :=
 (bU P s f).bind fun of=>match x with
  |.M id gen off=>(H.V id gen).map fun _=>.M id gen (off+of.1)
  |.ni cells off=>some (.ni cells (off+of.1))
  |_=>none
def JK (t:TypeId)(x:Operand)(f:Nat):bd P G rd Q ⟨d,.fieldAddr t x f,ty,pos,aft,g⟩ K s=bG (vX P s.H t f (ay G s.ρ x)) fun v=>K ⟨aW s.ρ d v,s.H⟩:=by
 simp only[bd,ar,vX,yL];refine vW fun of=>?_;split<;>simp_all[vV,iB,px]
def vY (P:Program)(H:ZJ)(t:TypeId)(x i:ZK):Option ZK:=match i with
 |.lit (.int _ i)=>oX P H t x i
 |_=>none
def JL (t:TypeId)(x i:Operand):bd P G rd Q ⟨d,.indexAddr t x i,ty,pos,aft,g⟩ K s=bG (vY P s.H t (ay G s.ρ x) (ay G s.ρ i)) fun v=>K ⟨aW s.ρ d v,s.H⟩:=by
 simp only[bd,ar,vY];split<;>simp_all[vV,iB]
def JM (t:TypeId)(x i:Operand):bd P G rd Q ⟨d,.index t x i,ty,pos,aft,g⟩ K s=bG (qm P t (ay G s.ρ x) (ay G s.ρ i)) fun v=>K ⟨aW s.ρ d v,s.H⟩:=by
 simp[bd,ar,iB]
def JN (t:Operand)(i:Nat):bd P G rd Q ⟨d,.extract t i,ty,pos,aft,g⟩ K s=bG (ph (ay G s.ρ t) i) fun v=>K ⟨aW s.ρ d v,s.H⟩:=by
 simp[bd,ar,iB]
def JO (b:Builtin)(args:Array Operand)(ats:Array TypeId):bd P G rd Q ⟨d,.call ⟨.builtin b,args,ats⟩,ty,pos,aft,g⟩ K s =
  bG (iO P s.H s.H.A b ats.toList (args.toList.map (ay G s.ρ))) fun vH=>K ⟨aW s.ρ d vH.1,vH.2⟩:=by
 simp[bd,ar]
end ops
def builtin_len (H:ZJ)(id:Nat)(t:TypeId)(x:ZK):iO P H id .len [t] [x]=(nI P H t x).map fun v=>(v,H):=rfl
def builtin_append (H:ZJ)(id:Nat)(t u:TypeId)(s x:ZK):iO P H id .append [t,u] [s,x]=cr P H id t u s x:=rfl
def builtin_copy (H:ZJ)(id:Nat)(t u:TypeId)(s x:ZK):iO P H id .copy [t,u] [s,x]=mC P H t s x:=rfl
def builtin_min (H:ZJ)(id:Nat)(ts:List TypeId)(k:IntKind)(a b:Int):iO P H id .min ts [.lit (.int k a),.lit (.int k b)]=some (.lit (.int k (if b<a then b else a)),H):=by
 cases ts with
 |nil=>rfl
 |cons t ts=>rfl
def builtin_max (H:ZJ)(id:Nat)(ts:List TypeId)(k:IntKind)(a b:Int):iO P H id .max ts [.lit (.int k a),.lit (.int k b)]=some (.lit (.int k (if b > a then b else a)),H):=by
 cases ts with
 |nil=>rfl
 |cons t ts=>rfl
section nums
variable {t:TypeId} {x y:Operand} {k:IntKind} {a b:Int}
def JP:bI P .add t x y (.lit (.int k a)) (.lit (.int k b))=some (.lit (.int k (k.wrap (a+b)))):=by
 simp[bI,ZK.dG,eqGuard,binOp,Op.intArith,bQ,bind,Sem.bind,pure]
def JQ:bI P .sub t x y (.lit (.int k a)) (.lit (.int k b))=some (.lit (.int k (k.wrap (a-b)))):=by
 simp[bI,ZK.dG,eqGuard,binOp,Op.intArith,bQ,bind,Sem.bind,pure]
def JR:bI P .mul t x y (.lit (.int k a)) (.lit (.int k b))=some (.lit (.int k (k.wrap (a*b)))):=by
 simp[bI,ZK.dG,eqGuard,binOp,Op.intArith,bQ,bind,Sem.bind,pure]
def JS:bI P .quo t x y (.lit (.int k a)) (.lit (.int k b))=if b≠0 then some (.lit (.int k (k.wrap (a.tdiv b)))) else none:=by
 by_cases h:b=0<;>simp[h,bI,ZK.dG,eqGuard,binOp,Op.intDiv,runtimePanic,program,goPanic,bQ,bind,Sem.bind,pure]
def JT:bI P .rem t x y (.lit (.int k a)) (.lit (.int k b))=if b≠0 then some (.lit (.int k (a.tmod b))) else none:=by
 by_cases h:b=0<;>simp[h,bI,ZK.dG,eqGuard,binOp,Op.intDiv,runtimePanic,program,goPanic,bQ,bind,Sem.bind,pure]
def JU:bI P .lss t x y (.lit (.int k a)) (.lit (.int k b))=some (.lit (.bool (decide (a<b)))):=by
 simp[bI,ZK.dG,eqGuard,binOp,Op.intCmp,bQ,bind,Sem.bind,pure]
def JV:bI P .leq t x y (.lit (.int k a)) (.lit (.int k b))=some (.lit (.bool (decide (a<=b)))):=by
 simp[bI,ZK.dG,eqGuard,binOp,Op.intCmp,bQ,bind,Sem.bind,pure]
def JW:bI P .gtr t x y (.lit (.int k a)) (.lit (.int k b))=some (.lit (.bool (decide (b<a)))):=by
 simp[bI,ZK.dG,eqGuard,binOp,Op.intCmp,bQ,bind,Sem.bind,pure]
def JX:bI P .geq t x y (.lit (.int k a)) (.lit (.int k b))=some (.lit (.bool (decide (b<=a)))):=by
 simp[bI,ZK.dG,eqGuard,binOp,Op.intCmp,bQ,bind,Sem.bind,pure]
def JY:bI P .eql t x y (.lit (.int k a)) (.lit (.int k b))=some (.lit (.bool (decide (a=b)))):=by
 simp[bI,ZK.dG,eqGuard,binOp,Op.intCmp,bQ,bind,Sem.bind,pure];rfl
def JZ:bI P .neq t x y (.lit (.int k a)) (.lit (.int k b))=some (.lit (.bool (!decide (a=b)))):=by
 simp[bI,ZK.dG,eqGuard,binOp,Op.intCmp,bQ,bind,Sem.bind,pure];rfl
def J0 {op:UnOp}(h:op=.neg):rF P op (.lit (.int k a))=some (.lit (.int k (k.wrap (0-a)))):=by
 subst h;rfl
def J1 (v:Bool):rF P .not (.lit (.bool v))=some (.lit (.bool (!v))):=rfl
def J2 (H:ZJ)(s d:TypeId)(v:Value):mF P H s d (.lit v)=mE P s d (.lit v):=rfl
def J3 (H:ZJ)(s d:TypeId)(c:List ZK):mF P H s d (.agg c)=mE P s d (.agg c):=rfl
def J4 {s d:TypeId}{k':IntKind}(hs:(P.underlying s).isSome=true)(hd:P.underlying d=some (.int k')):mE P s d (.lit (.int k a))=some (.lit (.int k' (k'.wrap a))):=by
 obtain⟨ds,hs⟩:=Wj.1 hs;simp only[mE,ZK.dG];have:bQ P (convert s d (.int k a))=some (.int k' (k'.wrap a)):=by
  simp[convert,underlying,program,hs,hd,bQ,bind,Sem.bind,pure,Conv.intToInt]
 rw[this];rfl
end nums
def ext (H:ZJ)(L:List ZQ):ZJ :=
 { get:=fun j=>if H.A<=j/\j<H.A+L.length then L[j-H.A]? else H.get j,A:=H.A+L.length }
def ext_nil (H:ZJ):ext H []=H:=by
 unfold ext;have:(fun j=>if H.A<=j/\j<H.A+([]:List ZQ).length then ([]:List ZQ)[j-H.A]? else H.get j)=H.get:=by
  funext j
  rw[Vx];simp only[List.length_nil];omega
 rw[this];rfl
def aM (H:ZJ)(L:List ZQ):(ext H L).A=H.A+L.length:=rfl
def tR (H:ZJ)(b:ZQ):H.lay H.A b=some (ext H [b]):=by
 unfold ZJ.lay ext;rw[VA rfl];congr 2
 funext j
 by_cases h:j=H.A
 ·subst h;simp
 ·rw[Vx h,Vx];simp only[List.length_cons,List.length_nil];omega
def Cd (H:ZJ)(L:List ZQ)(b:ZQ):(ext H L).lay (H.A+L.length) b=some (ext H (L++[b])):=by
 unfold ZJ.lay;rw[VA (aM H L).symm];unfold ext;congr 2
 ·funext j
  simp only[List.length_append,List.length_cons,List.length_nil];by_cases h:j=H.A+L.length
  ·subst h;rw[VA rfl,VA O,XE];simp
  ·rw[Vx h];by_cases h2:H.A<=j/\j<H.A+L.length
   ·rw[VA h2,VA O,VH O]
   ·rw[Vx h2,Vx O]
 ·simp only[List.length_append,List.length_cons,List.length_nil];omega
def Ce (H:ZJ)(L:List ZQ)(i:Nat)(b:ZQ)(h:L.length=i):(ext H L).lay (H.A+i) b=some (ext H (L++[b])):=by subst h;exact Cd H L b
def bH (H:ZJ)(L:List ZQ)(i:Nat)(h:i<L.length):(ext H L).get (H.A+i)=L[i]?:=by
 unfold ext;simp only;rw[VA O,XE]
def dM (H:ZJ)(L:List ZQ)(i:Nat)(h:i<H.A):(ext H L).get i=H.get i:=by
 unfold ext;simp only;rw[Vx O]
def yO (H:ZJ)(L:List ZQ)(i:Nat)(b:ZQ)(h:i<L.length):(ext H L).upd (H.A+i) b=ext H (L.set i b):=by
 unfold ext ZJ.upd;simp only[VW];congr 1
 funext j
 by_cases hj:j=H.A+i
 ·subst hj;rw[VA rfl,VA O,XE,VQ h]
 ·rw[Vx hj];by_cases h2:H.A<=j/\j<H.A+L.length
  ·rw[VA h2,VA h2,Wa O]
  ·rw[Vx h2,Vx h2]
def tS (b:Option ZQ)(gen:Nat):Option (TypeId × List ZK) :=
 match b with
 |some (.J g e cells)=>if g=gen then some (e,cells) else none
 |_=>none
def J5 (g gen:Nat)(e:TypeId)(cells:List ZK):tS (some (.J g e cells)) gen=if g=gen then some (e,cells) else none:=rfl
def yQ (H:ZJ)(L:List ZQ)(i gen:Nat)(h:i<L.length):(ext H L).V (H.A+i) gen=tS L[i]? gen:=by
 unfold ZJ.V tS;rw[bH H L i h];rfl
def J6 (H:ZJ)(b:ZQ)(L:List ZQ)(gen:Nat):(ext H (b :: L)).V H.A gen=tS (some b) gen:=yQ H (b :: L) 0 gen (ZF)
def J7 (H:ZJ)(c:ZQ)(L:List ZQ)(b:ZQ):(ext H (c :: L)).upd H.A b=ext H (b :: L):=yO H (c :: L) 0 b (ZF)
def gE {H R:ZJ}{L:List ZQ}(h:R=ext H L)(i:Nat){b:ZQ}(hb:L[i]? = some b):R.get (H.A + i)=some b := by
  rw[h,bH H L i (by
    rcases VV i L.length with g |g
    · exact g
    · rw[VD g] at hb;cases hb)]
  exact hb
def de {H R:ZJ}{b:ZQ}{L:List ZQ}(h:R=ext H (b :: L)):R.get H.A=some b := gE h 0 rfl
end Go.Hx
namespace Go.Hx
variable {P:Program} {G:Nat->Option (List ZK)}
def rZ (want:Bool):Option ZK->Option Bool
 |some (.lit (.bool b))=>some (b == want)
 |some (.lit _)=>some false
 |none=>some false
 |_=>none
def J8 (want b:Bool):rZ want (some (.lit (.bool b)))=some (b == want):=rfl
def J9 (b:Bool):(b == true)=b:=by cases b<;>rfl
def Ka (b:Bool):(b == false)=!b:=by cases b<;>rfl
def Kc (b:Bool)(p q:Prop):jx (!b) p q=jx b q p:=by cases b<;>simp[jx]
def Cm (t:Bool)(p q:Prop):(if t=true then p else q)=jx t p q:=by cases t<;>simp[jx]
def Cn (all:Array Oper)(ρ:Env)(d:Option Tmp)(op:Op)(ty:TypeId)(pos:String)(aft:Array Edge)(j:Nat)(want:Bool):
  iu all ρ ⟨d,op,ty,pos,aft,some (j,want)⟩=rZ want (((all[j]?).bind (·.dst)).map ρ):=by
 unfold iu;simp only;cases (all[j]?).bind (·.dst) with
 |none=>rfl
 |some d =>
  simp only[Option.map_some];cases ρ d with
  |lit v=>cases v<;>rfl
  |_=>rfl
section
variable {rd:Option Nat} {Q:AX->St->Prop} {s:St} {d:Option Tmp} {ty:TypeId} {pos:String} {aft:Array Edge} {g:Option (Nat × Bool)}
def Kd (all:Array Oper)(op:Op)(rest:List Oper)(j:Nat)(want:Bool):opsV P G rd Q all (⟨d,op,ty,pos,aft,some (j,want)⟩ :: rest) s =
  bG (rZ want (((all[j]?).bind (·.dst)).map s.ρ)) fun t=>jx t (bd P G rd Q ⟨d,op,ty,pos,aft,some (j,want)⟩ (opsV P G rd Q all rest) s) (opsV P G rd Q all rest ⟨aW s.ρ d (.lit undef),s.H⟩):=by
 rw[Ji,Cn];exact vW fun _=>Cm ..
variable {all:Array Oper} {tail:St->Prop} {b i:Nat} {bs:List Nat} {acc:List (Nat × FP)} {K:FP->St->Prop}
def Ke (bs:List Nat):eC P G all tail bs i acc [] s=tail s:=by cases bs<;>rfl
def Kf (op:Op)(rest:List Oper):eC P G all tail (b :: bs) i acc (⟨d,op,ty,pos,aft,none⟩ :: rest) s =
  bV P G ⟨d,op,ty,pos,aft,none⟩ (fun f s'=>jU b f acc/\eC P G all tail bs (i+1) (jc i f acc) rest s') s:=by
 simp[eC,iu,bG]
def Kg (op:Op)(rest:List Oper)(j:Nat)(want:Bool):eC P G all tail (b :: bs) i acc (⟨d,op,ty,pos,aft,some (j,want)⟩ :: rest) s =
  bG (rZ want (((all[j]?).bind (·.dst)).map s.ρ)) fun t =>
   jx t (bV P G ⟨d,op,ty,pos,aft,some (j,want)⟩ (fun f s'=>jU b f acc/\eC P G all tail bs (i+1) (jc i f acc) rest s') s)
    (eC P G all tail bs (i+1) acc rest ⟨aW s.ρ d (.lit undef),s.H⟩):=by
 simp only[eC,Cn];exact vW fun _=>Cm ..
def Kh (fv:Operand)(args:Array Operand)(ats:Array TypeId):bV P G ⟨d,.call ⟨.value fv,args,ats⟩,ty,pos,aft,g⟩ K s =
  ∃v rs,bL P G (ay G s.ρ fv) (args.toList.map (ay G s.ρ)) s.H v rs/\K ⟨[],rs⟩ ⟨aW s.ρ d v,s.H⟩:=(rfl)
abbrev QF:AX->St->Prop:=fun _ _=>False
def Ki (x:Operand):bV P G ⟨d,.move x,ty,pos,aft,g⟩ K s=bd P G none QF ⟨d,.move x,ty,pos,aft,g⟩ (K ⟨[],[]⟩) s:=(rfl)
def Kj (x:Operand):bV P G ⟨d,.assign x,ty,pos,aft,g⟩ K s=bd P G none QF ⟨d,.assign x,ty,pos,aft,g⟩ (K ⟨[],[]⟩) s:=(rfl)
def Kk (c x y:Operand):bV P G ⟨d,.pick c x y,ty,pos,aft,g⟩ K s=bd P G none QF ⟨d,.pick c x y,ty,pos,aft,g⟩ (K ⟨[],[]⟩) s:=(rfl)
def Kl (e:TypeId):bV P G ⟨d,.alloc e,ty,pos,aft,g⟩ K s=bd P G none QF ⟨d,.alloc e,ty,pos,aft,g⟩ (K ⟨[s.H.A],[]⟩) s:=(rfl)
def Km (e:TypeId)(x:Operand):bV P G ⟨d,.box e x,ty,pos,aft,g⟩ K s=bd P G none QF ⟨d,.box e x,ty,pos,aft,g⟩ (K ⟨[s.H.A],[]⟩) s:=(rfl)
def Kn (t:TypeId)(p:Array (Nat × Operand)):bV P G ⟨d,.build t p,ty,pos,aft,g⟩ K s=bd P G none QF ⟨d,.build t p,ty,pos,aft,g⟩ (K ⟨[],[]⟩) s:=(rfl)
def Ko (t:TypeId)(l:Nat)(p:Array (Nat × Operand)):bV P G ⟨d,.buildSlice t l p,ty,pos,aft,g⟩ K s=bd P G none QF ⟨d,.buildSlice t l p,ty,pos,aft,g⟩ (K ⟨[s.H.A],[]⟩) s:=(rfl)
def Kp (t:TypeId)(x:Operand):bV P G ⟨d,.load t x,ty,pos,aft,g⟩ K s=bd P G none QF ⟨d,.load t x,ty,pos,aft,g⟩ (K ⟨[],aT (ay G s.ρ x)⟩) s:=(rfl)
def Kq (t:TypeId)(x y:Operand):bV P G ⟨d,.store t x y,ty,pos,aft,g⟩ K s=bd P G none QF ⟨d,.store t x y,ty,pos,aft,g⟩ (K ⟨aT (ay G s.ρ x),aT (ay G s.ρ x)⟩) s:=(rfl)
def Kr (x:Operand):bV P G ⟨d,.nilCheck x,ty,pos,aft,g⟩ K s=bd P G none QF ⟨d,.nilCheck x,ty,pos,aft,g⟩ (K ⟨[],aT (ay G s.ρ x)⟩) s:=(rfl)
def Ks (op:BinOp)(t:TypeId)(x y:Operand)(u:TypeId):bV P G ⟨d,.binOp op t x y u,ty,pos,aft,g⟩ K s=bG (bI P op t x y (ay G s.ρ x) (ay G s.ρ y)) fun v=>K ⟨[],[]⟩ ⟨aW s.ρ d v,s.H⟩:=by
 simp only[bV,ar,iB];rfl
def Kt (op:UnOp)(t:TypeId)(x:Operand):bV P G ⟨d,.unOp op t x,ty,pos,aft,g⟩ K s=bd P G none QF ⟨d,.unOp op t x,ty,pos,aft,g⟩ (K ⟨[],[]⟩) s:=(rfl)
def Ku (t u:TypeId)(x:Operand):bV P G ⟨d,.convert t u x,ty,pos,aft,g⟩ K s=bd P G none QF ⟨d,.convert t u x,ty,pos,aft,g⟩ (K ⟨[],aT (ay G s.ρ x)⟩) s:=(rfl)
def Kv (t:TypeId)(x:Operand):bV P G ⟨d,.makeInterface t x,ty,pos,aft,g⟩ K s=bd P G none QF ⟨d,.makeInterface t x,ty,pos,aft,g⟩ (K ⟨[],[]⟩) s:=(rfl)
def Kw (f:Fn)(x y:Array Operand):bV P G ⟨d,.makeFunc f x y,ty,pos,aft,g⟩ K s=bd P G none QF ⟨d,.makeFunc f x y,ty,pos,aft,g⟩ (K ⟨[],[]⟩) s:=(rfl)
def Kx (t:TypeId)(x y:Operand):bV P G ⟨d,.makeSlice t x y,ty,pos,aft,g⟩ K s=bd P G none QF ⟨d,.makeSlice t x y,ty,pos,aft,g⟩ (K ⟨[s.H.A],[]⟩) s:=(rfl)
def Ky (t:TypeId)(x:Operand)(lo hi mx:Option Operand):bV P G ⟨d,.slice t x lo hi mx,ty,pos,aft,g⟩ K s=bd P G none QF ⟨d,.slice t x lo hi mx,ty,pos,aft,g⟩ (K ⟨[],aT (ay G s.ρ x)⟩) s:=(rfl)
def Kz (t:TypeId)(x:Operand)(f:Nat):bV P G ⟨d,.fieldAddr t x f,ty,pos,aft,g⟩ K s=bd P G none QF ⟨d,.fieldAddr t x f,ty,pos,aft,g⟩ (K ⟨[],aT (ay G s.ρ x)⟩) s:=(rfl)
def KA (t:TypeId)(x:Operand)(f:Nat):bV P G ⟨d,.field t x f,ty,pos,aft,g⟩ K s=bd P G none QF ⟨d,.field t x f,ty,pos,aft,g⟩ (K ⟨[],[]⟩) s:=(rfl)
def KB (t:TypeId)(x y:Operand):bV P G ⟨d,.indexAddr t x y,ty,pos,aft,g⟩ K s=bd P G none QF ⟨d,.indexAddr t x y,ty,pos,aft,g⟩ (K ⟨[],aT (ay G s.ρ x)⟩) s:=(rfl)
def KC (t:TypeId)(x y:Operand):bV P G ⟨d,.index t x y,ty,pos,aft,g⟩ K s=bd P G none QF ⟨d,.index t x y,ty,pos,aft,g⟩ (K ⟨[],[]⟩) s:=(rfl)
def KD (x:Operand)(f:Nat):bV P G ⟨d,.extract x f,ty,pos,aft,g⟩ K s=bd P G none QF ⟨d,.extract x f,ty,pos,aft,g⟩ (K ⟨[],[]⟩) s:=(rfl)
def KE (f:Builtin)(args:Array Operand)(ats:Array TypeId):bV P G ⟨d,.call ⟨.builtin f,args,ats⟩,ty,pos,aft,g⟩ K s =
  bd P G none QF ⟨d,.call ⟨.builtin f,args,ats⟩,ty,pos,aft,g⟩ (K (kS P s.H.A f ats.toList (args.toList.map (ay G s.ρ)))) s:=rfl
end
def KF (v:Value):aT (.lit v)=[]:=rfl
def KG (n:Nat)(l:List ZK):aT (.Q n l)=[]:=rfl
def KH (l:List ZK)(o:Nat):aT (.ni l o)=[]:=rfl
def KI (l:List ZK):aT (.agg l)=[]:=rfl
def KJ (id g o l z:Nat):aT (.U id g o l z)=[id]:=rfl
def KK (id g o:Nat):aT (.M id g o)=[id]:=rfl
def KL (id g o l z:Nat):lX (.U id g o l z)=true:=rfl
def KM (v:Value):lX (.lit v)=false:=rfl
def KN (n:Nat)(l:List ZK):lX (.Q n l)=false:=rfl
def KO (id:Nat)(t:TypeId)(x:ZK):kS P id .len [t] [x]=⟨[],nS P t x⟩:=rfl
def KP (id:Nat)(ts:List TypeId)(x y:ZK):kS P id .append ts [x,y]=if lX x=true then ⟨aT x,aT x++aT y⟩ else ⟨[id],aT y⟩:=by
 cases ts with
 |nil=>rfl
 |cons t ts=>cases ts<;>rfl
def KQ (id:Nat)(ts:List TypeId)(x y:ZK):kS P id .copy ts [x,y]=⟨aT x,aT x++aT y⟩:=by
 cases ts with
 |nil=>rfl
 |cons t ts=>cases ts<;>rfl
def KR (id:Nat)(ts:List TypeId)(l:List ZK):kS P id .max ts l=⟨[],[]⟩:=by
 rfl
def KS (t:TypeId)(x:ZK)(h:aT x=[]):nS P t x=[]:=by unfold nS;split<;>first|exact h|rfl
def KT (t:TypeId)(n:Nat)(l:List ZK):nS P t (.Q n l)=[]:=KS _ _ rfl
def nU (f f':FP):Prop:=(∀r,r∈f.nD->r ∉ f'.rs)/\(∀r,r∈f'.nD->r ∉ f.rs)
def KU (b:Nat)(f:FP):jU b f []=True:=by simp[jU]
def KV (b:Nat)(f:FP)(j:Nat)(f':FP)(acc:List (Nat × FP)):jU b f ((j,f') :: acc)=((b / 2 ^ j % 2=1\/nU f f')/\jU b f acc):=by
 simp only[jU,List.forall_mem_cons,Nat.testBit_eq_decide_div_mod_eq,Yr,eq_iff_iff];refine and_congr ⟨fun h=>?_,fun h hb=>?_⟩ Iff.rfl
 ·by_cases hb:b / 2 ^ j % 2=1
  ·exact .inl hb
  ·exact .inr (h hb)
 ·rcases h with h|h
  ·exact absurd h hb
  ·exact h
def KW (b:Nat)(acc:List (Nat × FP)):jU b ⟨[],[]⟩ acc=True:=by
 simp[jU]
def KX (e r e' r':List Nat):nU ⟨e,r⟩ ⟨e',r'⟩=((∀x,x∈e->x ∉ r')/\∀x,x∈e'->x ∉ r):=rfl
def KY (i:Nat)(acc:List (Nat × FP)):jc i ⟨[],[]⟩ acc=acc:=rfl
def KZ (i x:Nat)(e r:List Nat)(acc:List (Nat × FP)):jc i ⟨x :: e,r⟩ acc=(i,⟨x :: e,r⟩) :: acc:=rfl
def K0 (i x:Nat)(e r:List Nat)(acc:List (Nat × FP)):jc i ⟨e,x :: r⟩ acc=(i,⟨e,x :: r⟩) :: acc:=by cases e<;>rfl
def bL.mk {f:FuncId}{first cap args:List ZK}{H:ZJ}{v:ZK}{rs:List Nat}(hlt:∀r,r∈rs->r<H.A)
  (h:∀H2:ZJ,(∀r,r∈rs->H2.get r=H.get r)->H.A<=H2.A->ag P G f (first++args++cap) H2 fun r H3=>r=.ret v/\H3=H2):bL P G (.Z f first cap) args H v rs :=
 ⟨hlt,fun H2 h1 h2=>au.Z (h H2 h1 h2)⟩
def bL.pure {f:FuncId}{args:List ZK}{H:ZJ}{v:ZK}(h:∀H2:ZJ,ag P G f args H2 fun r H3=>r=.ret v/\H3=H2):bL P G (.Z f [] []) args H v [] :=
 bL.mk (fun _ h=>by cases h) fun H2 _ _=>by simpa using h H2
def ag.pure {f:FuncId}{args:List ZK}{H:ZJ}{v:ZK}{K:ZP->ZJ->Prop}(h:∀H2:ZJ,ag P G f args H2 fun r H3=>r=.ret v/\H3=H2)(hk:K (.ret v) H):ag P G f args H K :=
 (h H).mono fun r H3 ⟨h1,h2⟩=>by rw[h1,h2];exact hk
def W.dr {n:Nat}{id:Nat}{all:Array Oper}{rd:Option Nat}{Q:AX -> St -> Prop}{s:St}(K:Nat)(bs:List Nat)(hm:P.follows .mixedOrders=true)(h:eC P G all (opsV P G rd Q all (all.toList.drop K)) bs 0 [] (all.toList.take K) s)(hfit:all.toList.all (gX n)=true := by kernel_rfl)(hst:tQ all bs K=true := by kernel_rfl):W P G n rd (.region id all true) Q s := W.draw K bs hm hfit hst h
def ag.st {H : ZJ} {f : FuncId} {fn : Func} {c : Code} {args : List ZK} {K : ZP → ZJ → Prop} {rs : List ResultVar} {n : Nat} (hf : P.funcs[f]? = some fn) (h : vc P G n none c (rR P G rs H K) ⟨ja args, H⟩) (hb : fn.body = some c := by exact rfl) (hres : fn.results.toList = rs := by exact rfl) (hnt : fn.ntmps = n := by exact rfl) (hname : (fn.name == "runtime.NumGoroutine") = false := by decide) (hfit : fits n c = true := by kernel_rfl) (hargs : args.length ≤ n := by simp) : ag P G f args H K := .Ia hf hb hres hnt hname hfit hargs h
def ag.sw {H : ZJ} {f : FuncId} {fn : Func} {c : Code} {args : List ZK} {K : ZP → ZJ → Prop} {rs : List ResultVar} {n : Nat} (hf : P.funcs[f]? = some fn) (h : W P G n none c (rR P G rs H K) ⟨ja args, H⟩) (hb : fn.body = some c := by exact rfl) (hres : fn.results.toList = rs := by exact rfl) (hnt : fn.ntmps = n := by exact rfl) (hname : (fn.name == "runtime.NumGoroutine") = false := by decide) (hargs : args.length ≤ n := by simp) : ag P G f args H K := .BX hf hb hres hnt hname hargs h
end Go.Hx
namespace Go.Hx
variable {P:Program} {G:Nat->Option (List ZK)} {H:ZJ}
def gF (H:ZJ)(x:ZK):Option ZK :=
 match x with
  |.Q len _=>some (.lit (.int .i64 len))
  |.U id gen _ len _=>(H.V id gen).map fun _=>.lit (.int .i64 len)
  |.lit (.slice none 0 0)=>some (.lit (.int .i64 0))
  |_=>none
def yX (x:ZK):Option ZK :=
 match x with
  |.lit (.string s)=>some (.lit (.int .i64 s.size))
  |_=>none
def tW (d:Option TypeDesc)(H:ZJ)(x:ZK):Option ZK :=
 match d with
 |some (.slice _)=>gF H x
 |some .string=>yX x
 |some (.array n _)=>some (.lit (.int .i64 n))
 |_=>none
def Le (t:TypeId)(x:ZK):nI P H t x=tW (P.underlying t) H x:=rfl
def r9 (e:TypeId)(x:ZK):tW (some (.slice e)) H x=gF H x:=rfl
def Lf (x:ZK):tW (some .string) H x=yX x:=rfl
def Lg (n:Nat)(e:TypeId)(x:ZK):tW (some (.array n e)) H x=some (.lit (.int .i64 n)):=rfl
def Lh (n:Nat)(l:List ZK):gF H (.Q n l)=some (.lit (.int .i64 n)):=rfl
def Cq (id g o n z:Nat):gF H (.U id g o n z)=(H.V id g).map fun _=>.lit (.int .i64 n):=rfl
def Li:gF H (.lit (.slice none 0 0))=some (.lit (.int .i64 0)):=rfl
def Lj (s:ByteArray):yX (.lit (.string s))=some (.lit (.int .i64 s.size)):=rfl
def mJ (d:Option TypeDesc)(n:Nat)(cells:List ZK)(off:Nat):Option ZK :=
 match d with
 |none=>none
 |some d=>if rp d then (if off+n<=cells.length then some (.agg ((cells.drop off).take n)) else none) else cells[off]?
def Lk (t:TypeId)(cells:List ZK)(off:Nat):jv P t cells off=mJ (P.underlying t) (P.cellsOf t) cells off:=rfl
def Ll (k:IntKind)(n:Nat)(cells:List ZK)(off:Nat):mJ (some (.int k)) n cells off=cells[off]?:=rfl
def Lm (n:Nat)(cells:List ZK)(off:Nat):mJ (some .bool) n cells off=cells[off]?:=rfl
def Ln (n:Nat)(cells:List ZK)(off:Nat):mJ (some .string) n cells off=cells[off]?:=rfl
def Lo (e:TypeId)(n:Nat)(cells:List ZK)(off:Nat):mJ (some (.slice e)) n cells off=cells[off]?:=rfl
def Lp (e:TypeId)(n:Nat)(cells:List ZK)(off:Nat):mJ (some (.pointer e)) n cells off=cells[off]?:=rfl
def Lq (fs:Array Field)(n:Nat)(cells:List ZK)(off:Nat):mJ (some (.struct fs)) n cells off=if off+n<=cells.length then some (.agg ((cells.drop off).take n)) else none:=rfl
def Lr (k:Nat)(e:TypeId)(n:Nat)(cells:List ZK)(off:Nat):mJ (some (.array k e)) n cells off=if off+n<=cells.length then some (.agg ((cells.drop off).take n)) else none:=rfl
def Ls (cells vs:List ZK):setAt cells 0 vs=vs++cells.drop vs.length:=by simp[setAt]
def Lt (c:ZK)(cells vs:List ZK)(off:Nat):setAt (c :: cells) (off+1) vs=c :: setAt cells off vs:=by simp[setAt,Nat.succ_add]
def Lu (t:TypeId)(cells:List ZK)(off:Nat):iN P H t (.ni cells off)=jv P t cells off:=rfl
def Lv (t:TypeId)(id gen off:Nat):iN P H t (.M id gen off)=(H.V id gen).bind fun ec=>jv P t ec.2 off:=by
 simp only[ZJ.V,iN];generalize H.get id=x;cases x with
 |none=>rfl
 |some b =>
  cases b with
  |J g e cells =>
   simp only;by_cases hg:g=gen
   ·rw[VA hg,VA hg];rfl
   ·rw[Vx hg,Vx hg];rfl
  |_=>rfl
def Lw (t:TypeId)(id gen off:Nat)(v:ZK):kO P H t (.M id gen off) v =
  (H.V id gen).bind fun ec=>if v.cells.length=P.cellsOf t/\v.cells.all ZK.one=true/\off+v.cells.length<=ec.2.length then some (H.upd id (.J gen ec.1 (setAt ec.2 off v.cells))) else none:=by
 simp only[ZJ.V,kO];generalize H.get id=x;cases x with
 |none=>rfl
 |some b =>
  cases b with
  |J g e cells =>
   simp only;by_cases hg:g=gen
   ·subst hg;simp
   ·rw[Vx hg,Vx (fun h=>hg h.1)];rfl
  |_=>rfl
def wo (H:ZJ)(c:Nat)(x:ZK)(i:Int):Option ZK :=
 match x with
 |.U id gen off len sz=>if 0<=i/\i<(len:Int)/\sz=c then (H.V id gen).map fun _=>.M id gen (off+i.toNat*c) else none
 |.Q len cells=>if 0<=i/\i<(len:Int)/\cells≠[] then some (.ni cells (i.toNat*c)) else none
 |_=>none
def tX (H:ZJ)(c n:Nat)(x:ZK)(i:Int):Option ZK :=
 if 0<=i/\i<(n:Int) then
   match x with
   |.M id gen off=>(H.V id gen).map fun _=>.M id gen (off+i.toNat*c)
   |.ni cells off=>some (.ni cells (off+i.toNat*c))
   |_=>none
 else none
def wq (P:Program)(H:ZJ)(d:Option TypeDesc)(x:ZK)(i:Int):Option ZK :=
 match d with
 |some (.array n e)=>if (P.underlying e).isSome then tX H (P.cellsOf e) n x i else none
 |some (.slice e)=>if (P.underlying e).isSome then wo H (P.cellsOf e) x i else none
 |_=>none
def Lx (t:TypeId)(x:ZK)(k:IntKind)(i:Int):vY P H t x (.lit (.int k i))=wq P H (P.underlying t) x i:=by
 simp only[vY,oX,wq];cases P.underlying t with
 |none=>rfl
 |some d =>
  cases d with
  |array n e =>
   simp only[tX];by_cases h:(P.underlying e).isSome=true
   ·simp only[h,and_true,if_true];rfl
   ·rw[Vx h,Vx (fun h'=>h h'.2.2)]
  |slice e=>rfl
  |_=>rfl
def Ly (e:TypeId)(x:ZK)(i:Int):wq P H (some (.slice e)) x i=if (P.underlying e).isSome=true then wo H (P.cellsOf e) x i else none:=rfl
def Lz (n:Nat)(e:TypeId)(x:ZK)(i:Int):wq P H (some (.array n e)) x i=if (P.underlying e).isSome=true then tX H (P.cellsOf e) n x i else none:=rfl
def LA (c n:Nat)(l:List ZK)(i:Int):wo H c (.Q n l) i=if 0<=i/\i<(n:Int)/\l≠[] then some (.ni l (i.toNat*c)) else none:=rfl
def LB (c id g o n z:Nat)(i:Int):wo H c (.U id g o n z) i=if 0<=i/\i<(n:Int)/\z=c then (H.V id g).map fun _=>.M id g (o+i.toNat*c) else none:=rfl
def LC (c n:Nat)(l:List ZK)(o:Nat)(i:Int):tX H c n (.ni l o) i=if 0<=i/\i<(n:Int) then some (.ni l (o+i.toNat*c)) else none:=rfl
def LD (c n id g o:Nat)(i:Int):tX H c n (.M id g o) i=if 0<=i/\i<(n:Int) then (H.V id g).map fun _=>.M id g (o+i.toNat*c) else none:=rfl
def tY (H:ZJ)(c:Nat)(x:ZK)(lo hi:Option ZK):Option ZK :=
   match x with
   |.U id gen off len sz=>if sz=c then (H.V id gen).bind fun _=>(cK hi len len).bind fun h=>(cK lo 0 h).map fun l=>.U id gen (off+l*sz) (h-l) sz else none
   |.Q len cells=>if cells.length=len*c then (cK hi len len).bind fun h=>(cK lo 0 h).map fun l=>.Q (h-l) ((cells.drop (l*c)).take ((h-l)*c)) else none
   |.lit (.slice none 0 0)=>(cK hi 0 0).bind fun h=>(cK lo 0 h).map fun _=>.lit (.slice none 0 0)
   |_=>none
def tZ (H:ZJ)(c n:Nat)(x:ZK)(lo hi:Option ZK):Option ZK :=
   match x with
   |.M id gen off =>
    match H.V id gen with
    |some (_,cells) =>
     if off+n*c<=cells.length then
      (cK hi n n).bind fun h=>(cK lo 0 h).map fun l=>.U id gen (off+l*c) (h-l) c
     else none
    |none=>none
   | .ni cells off=>if off+n*c≤cells.length then
      (cK hi n n).bind fun h=>(cK lo 0 h).map fun l=>.Q (h-l) ((cells.drop (off+l*c)).take ((h-l)*c))
     else none
   |_=>none
def yY (x:ZK)(lo hi:Option ZK):Option ZK :=
  match x with
  |.lit (.string s)=>(cK hi s.size s.size).bind fun h=>(cK lo 0 h).map fun l=>.lit (.string (s.extract l h))
  |_=>none
def wu (P:Program)(H:ZJ)(d:Option TypeDesc)(x:ZK)(lo hi:Option ZK):Option ZK :=
 match d with
 |some (.array n e)=>if (P.underlying e).isSome then tZ H (P.cellsOf e) n x lo hi else none
 |some (.slice e)=>if (P.underlying e).isSome then tY H (P.cellsOf e) x lo hi else none
 |some .string=>yY x lo hi
 |_=>none
def LF (t:TypeId)(x:ZK)(lo hi:Option ZK):oY P H t x lo hi=wu P H (P.underlying t) x lo hi:=rfl
def LG (e:TypeId)(x:ZK)(lo hi:Option ZK):wu P H (some (.slice e)) x lo hi=if (P.underlying e).isSome=true then tY H (P.cellsOf e) x lo hi else none:=rfl
def LH (n:Nat)(e:TypeId)(x:ZK)(lo hi:Option ZK):wu P H (some (.array n e)) x lo hi=if (P.underlying e).isSome=true then tZ H (P.cellsOf e) n x lo hi else none:=rfl
def LI (x:ZK)(lo hi:Option ZK):wu P H (some .string) x lo hi=yY x lo hi:=rfl
def LJ (c id g o n z:Nat)(lo hi:Option ZK):tY H c (.U id g o n z) lo hi=if z=c then (H.V id g).bind fun _=>(cK hi n n).bind fun h=>(cK lo 0 h).map fun l=>.U id g (o+l*z) (h-l) z else none:=rfl
def LK (c n:Nat)(cells:List ZK)(lo hi:Option ZK):tY H c (.Q n cells) lo hi=if cells.length=n*c then (cK hi n n).bind fun h=>(cK lo 0 h).map fun l=>.Q (h-l) ((cells.drop (l*c)).take ((h-l)*c)) else none:=rfl
def LL (c:Nat)(lo hi:Option ZK):tY H c (.lit (.slice none 0 0)) lo hi=(cK hi 0 0).bind fun h=>(cK lo 0 h).map fun _=>.lit (.slice none 0 0):=rfl
def LM (c n:Nat)(cells:List ZK)(off:Nat)(lo hi:Option ZK):tZ H c n (.ni cells off) lo hi=if off+n*c<=cells.length then
      (cK hi n n).bind fun h=>(cK lo 0 h).map fun l=>.Q (h-l) ((cells.drop (off+l*c)).take ((h-l)*c)) else none:=rfl
def LN (c n id g off:Nat)(lo hi:Option ZK):tZ H c n (.M id g off) lo hi=(H.V id g).bind fun ec=>if off+n*c<=ec.2.length then
      (cK hi n n).bind fun h=>(cK lo 0 h).map fun l=>.U id g (off+l*c) (h-l) c else none:=by
 simp only[tZ];cases H.V id g<;>rfl
def LO (s:ByteArray)(lo hi:Option ZK):yY (.lit (.string s)) lo hi=(cK hi s.size s.size).bind fun h=>(cK lo 0 h).map fun l=>.lit (.string (s.extract l h)):=rfl
def LP (d m:Nat):cK none d m=some d:=rfl
def LR (k:IntKind)(i:Int)(d m:Nat):cK (some (.lit (.int k i))) d m=if 0<=i/\i<=(m:Int) then some i.toNat else none:=rfl
def LS (sz n:Nat)(l:List ZK):dH H sz (.Q n l)=if l.length=n*sz then some (n,l) else none:=rfl
def uc (sz id g o n z:Nat):dH H sz (.U id g o n z)=if z=sz then (H.V id g).map fun x=>(n,(x.2.drop o).take (n*sz)) else none:=rfl
def yZ (sz:Nat):dH H sz (.lit (.slice none 0 0))=some (0,[]):=rfl
def wy (P:Program)(H:ZJ)(id:Nat)(d0 d1:Option TypeDesc)(s x:ZK):Option (ZK × ZJ) :=
 match d0,d1 with
 | some (.slice e),some (.slice _)=>(cw P e).bind fun _=>(dH H (P.cellsOf e) x).bind fun nx =>
    match s with
    |.lit (.slice none 0 0) =>
     if nx.1=0 then some (s,H)
     else if nx.1*P.bytesOf e<=2 ^ 46/\nx.1<=2 ^ 46 then (H.lay id (.J 0 e nx.2)).map fun H'=>(.U id 0 0 nx.1 (P.cellsOf e),H')
     else none
    |.U id' gen off len sz =>
     (H.V id' gen).bind fun ec =>
      if ec.1=e/\sz=P.cellsOf e/\off+len*sz=ec.2.length/\(len+nx.1)*P.bytesOf e<=2 ^ 46/\len+nx.1<=2 ^ 46/\nx.2.all ZK.one=true then
       if nx.1=0 then some (s,H)
       else some (.U id' (gen+1) 0 (len+nx.1) sz,H.upd id' (.J (gen+1) e (ec.2.drop off++nx.2)))
      else none
    |_=>none
 |_,_=>none
def bf (id:Nat)(t u:TypeId)(s x:ZK):cr P H id t u s x=wy P H id (P.underlying t) (P.underlying u) s x:=by
 unfold cr wy;cases P.underlying t with
 |none=>rfl
 |some d =>
  cases d with
  |slice e =>
   cases P.underlying u with
   |none=>rfl
   |some d'=>cases d'<;>rfl
  |_=>rfl
def LU (id:Nat)(e u:TypeId)(x:ZK):wy P H id (some (.slice e)) (some (.slice u)) (.lit (.slice none 0 0)) x=(cw P e).bind fun _=>(dH H (P.cellsOf e) x).bind fun nx =>
  if nx.1=0 then some (.lit (.slice none 0 0),H) else if nx.1*P.bytesOf e<=2 ^ 46/\nx.1<=2 ^ 46 then (H.lay id (.J 0 e nx.2)).map fun H'=>(.U id 0 0 nx.1 (P.cellsOf e),H') else none:=rfl
def LV (id:Nat)(e u:TypeId)(x:ZK)(id' gen off len sz:Nat):wy P H id (some (.slice e)) (some (.slice u)) (.U id' gen off len sz) x=(cw P e).bind fun _=>(dH H (P.cellsOf e) x).bind fun nx =>
  (H.V id' gen).bind fun ec =>
      if ec.1=e/\sz=P.cellsOf e/\off+len*sz=ec.2.length/\(len+nx.1)*P.bytesOf e<=2 ^ 46/\len+nx.1<=2 ^ 46/\nx.2.all ZK.one=true then
       if nx.1=0 then some (.U id' gen off len sz,H)
       else some (.U id' (gen+1) 0 (len+nx.1) sz,H.upd id' (.J (gen+1) e (ec.2.drop off++nx.2)))
      else none:=rfl
def Cr (P:Program)(H:ZJ)(d0:Option TypeDesc)(d x:ZK):Option (ZK × ZJ) :=
 match d0 with
 |some (.slice e) =>
  if (P.underlying e).isSome then
   (dH H (P.cellsOf e) x).bind fun nx =>
    match d with
    |.U id gen off len sz =>
     (H.V id gen).bind fun ec =>
      if sz=P.cellsOf e/\off+len*sz<=ec.2.length/\nx.2.all ZK.one=true then
       some (.lit (.int .i64 (min nx.1 len:Nat)),H.upd id (.J gen ec.1 (setAt ec.2 off (nx.2.take (min nx.1 len*sz)))))
      else none
    |_=>none
  else none
 |_=>none
def LW (t:TypeId)(d x:ZK):mC P H t d x=Cr P H (P.underlying t) d x:=rfl
def LX (e:TypeId)(id gen off len sz:Nat)(x:ZK):Cr P H (some (.slice e)) (.U id gen off len sz) x=if (P.underlying e).isSome=true then
   (dH H (P.cellsOf e) x).bind fun nx=>(H.V id gen).bind fun ec =>
      if sz=P.cellsOf e/\off+len*sz<=ec.2.length/\nx.2.all ZK.one=true then
       some (.lit (.int .i64 (min nx.1 len:Nat)),H.upd id (.J gen ec.1 (setAt ec.2 off (nx.2.take (min nx.1 len*sz)))))
      else none
   else none:=rfl
def za (P:Program)(H:ZJ)(id:Nat)(d:Option TypeDesc)(l c:ZK):Option (ZK × ZJ) :=
 match d,l,c with
 |some (.slice e),.lit (.int _ l),.lit (.int _ c) =>
  if 0<=l/\l<=c/\c*P.bytesOf e<=2 ^ 46/\c<=2 ^ 46 then
   (lS P e l.toNat).bind fun cells=>(H.lay id (.J 0 e cells)).map fun H'=>(.U id 0 0 l.toNat (P.cellsOf e),H')
  else none
 |_,_,_=>none
def LY (id:Nat)(t:TypeId)(l c:ZK):nK P H id t l c=za P H id (P.underlying t) l c:=by
 unfold nK za;cases P.underlying t with
 |none=>rfl
 |some d=>rfl
def LZ (id:Nat)(e:TypeId)(k k':IntKind)(l c:Int):za P H id (some (.slice e)) (.lit (.int k l)) (.lit (.int k' c))=if 0<=l/\l<=c/\c*P.bytesOf e<=2 ^ 46/\c<=2 ^ 46 then
   (lS P e l.toNat).bind fun cells=>(H.lay id (.J 0 e cells)).map fun H'=>(.U id 0 0 l.toNat (P.cellsOf e),H')
  else none:=rfl
def L5 (e:TypeId)(n:Nat):lS P e n=(cw P e).map fun z=>(List.replicate n z).flatten:=rfl
def L6 (n:Nat)(v:ZK):(List.replicate n [v]).flatten=List.replicate n v:=by
 induction n with
 |zero=>rfl
 |succ n ih=>rw[WC,List.flatten_cons,ih,WC];rfl
def Cs (P:Program)(H:ZJ)(id:Nat)(d:Option TypeDesc)(len:Nat)(parts:List (Nat × ZK)):Option (ZK × ZJ) :=
 match d with
 |some (.slice e) =>
  if len*P.cellsOf e<=2 ^ 24 then
   (lS P e len).bind fun z=>(gM (fun i=>some (i*P.cellsOf e,P.cellsOf e)) z parts).bind fun cells =>
    (H.lay id (.J 0 e cells)).map fun H'=>(.U id 0 0 len (P.cellsOf e),H')
  else none
 |_=>none
def L7 (id:Nat)(t:TypeId)(len:Nat)(parts:List (Nat × ZK)):pe P H id t len parts=Cs P H id (P.underlying t) len parts:=rfl
def L8 (id:Nat)(e:TypeId)(len:Nat)(parts:List (Nat × ZK)):Cs P H id (some (.slice e)) len parts=if len*P.cellsOf e<=2 ^ 24 then
   (lS P e len).bind fun z=>(gM (fun i=>some (i*P.cellsOf e,P.cellsOf e)) z parts).bind fun cells =>
    (H.lay id (.J 0 e cells)).map fun H'=>(.U id 0 0 len (P.cellsOf e),H')
  else none:=rfl
def zb (P:Program)(t:TypeId)(d:Option TypeDesc)(parts:List (Nat × ZK)):Option ZK :=
 (cw P t).bind fun z =>
  match d with
  |some (.struct _)=>(jw P t).bind fun pl=>(gM (fun i=>pl[i]?) z parts).map .agg
  |some (.array _ e)=>if (P.underlying e).isSome then (gM (fun i=>some (i*P.cellsOf e,P.cellsOf e)) z parts).map .agg else none
  |_=>none
def L9 (t:TypeId)(parts:List (Nat × ZK)):tB P t parts=zb P t (P.underlying t) parts:=rfl
def Ma (t:TypeId)(fs:Array Field)(parts:List (Nat × ZK)):zb P t (some (.struct fs)) parts=(cw P t).bind fun z=>(jw P t).bind fun pl=>(gM (fun i=>pl[i]?) z parts).map .agg:=rfl
def Mb (t:TypeId)(n:Nat)(e:TypeId)(parts:List (Nat × ZK)):zb P t (some (.array n e)) parts=(cw P t).bind fun z=>if (P.underlying e).isSome=true then (gM (fun i=>some (i*P.cellsOf e,P.cellsOf e)) z parts).map .agg else none:=rfl
def Mc (pl:Nat->Option (Nat × Nat))(cells:List ZK):gM pl cells []=some cells:=rfl
def Md (pl:Nat->Option (Nat × Nat))(cells:List ZK)(i:Nat)(v:ZK)(rest:List (Nat × ZK)):gM pl cells ((i,v) :: rest)=(pl i).bind fun os =>
  if v.cells.length=os.2/\os.1+v.cells.length<=cells.length then gM pl (setAt cells os.1 v.cells) rest else none:=by
 simp only[gM];cases pl i<;>rfl
def Me (k:IntKind)(n:Int):(ZK.lit (.int k n)).cells=[.lit (.int k n)]:=rfl
def Mf (b:Bool):(ZK.lit (.bool b)).cells=[.lit (.bool b)]:=rfl
def Mg (s:ByteArray):(ZK.lit (.string s)).cells=[.lit (.string s)]:=rfl
def Mh (a:Option Addr)(n c:Nat):(ZK.lit (.slice a n c)).cells=[.lit (.slice a n c)]:=rfl
def Mi (l:List ZK):(ZK.agg l).cells=l:=rfl
def Mj (n:Nat)(l:List ZK):(ZK.Q n l).cells=[.Q n l]:=rfl
def Mk (a b c d e:Nat):(ZK.U a b c d e).cells=[.U a b c d e]:=rfl
def Ml (a b c:Nat):(ZK.M a b c).cells=[.M a b c]:=rfl
def Mm (k:IntKind)(n:Int):(ZK.lit (.int k n)).one=true:=rfl
def Mn (b:Bool):(ZK.lit (.bool b)).one=true:=rfl
def Mo (s:ByteArray):(ZK.lit (.string s)).one=true:=rfl
def Mp (a:Option Addr)(n c:Nat):(ZK.lit (.slice a n c)).one=true:=rfl
def Mq (n:Nat)(l:List ZK):(ZK.Q n l).one=true:=rfl
def Mr (a b c d e:Nat):(ZK.U a b c d e).one=true:=rfl
def Ms (a b c:Nat):(ZK.M a b c).one=true:=rfl
def aa (n:Int):ZK:=.lit (.int .i64 n)
def ints (l:List Int):List ZK:=l.map aa
def ah (l:List Int):ZK:=.Q l.length (ints l)
def aR (l:List Int):(ints l).length=l.length:=VJ ..
def fa (l:List Int)(i:Nat):(ints l)[i]?=(l[i]?).map aa:=List.getElem?_map ..
def yS (l:List Int):ints l=[]↔l=[]:=List.map_eq_nil_iff
end Go.Hx
namespace Go.Hx
variable {P:Program} {G:Nat->Option (List ZK)} {Γ Γ':aH} {H H':ZJ} {w w':World}
variable {f:FuncId}{args:List ZK}{id nx:Nat}{S:Nat->Prop}{v v':ZK}{K:ZP->ZJ->Prop}
inductive Below (n:Nat):ZK->Prop
 |lit (v:Value):Below n (.lit v)
 |Q {len:Nat} {cells:List ZK} (h:∀i (h:i<cells.length),Below n cells[i]):Below n (.Q len cells)
 |ni {off:Nat} {cells:List ZK} (h:∀i (h:i<cells.length),Below n cells[i]):Below n (.ni cells off)
 |agg {cells:List ZK} (h:∀i (h:i<cells.length),Below n cells[i]):Below n (.agg cells)
 |nf {cells:List ZK} (h:∀i (h:i<cells.length),Below n cells[i]):Below n (.nf cells)
 |Z {f:FuncId} {a b:List ZK} (h1:∀i (h:i<a.length),Below n a[i]) (h2:∀i (h:i<b.length),Below n b[i]):Below n (.Z f a b)
 |U {id g o l z:Nat} (h:id<n):Below n (.U id g o l z)
 |M {id g o:Nat} (h:id<n):Below n (.M id g o)
 |np {id:Nat} (h:id<n):Below n (.np id)
def ZO.r8 {cv:Value}(h:ZO P Γ H w v cv):Below H.A v:=by
 induction h with
 |lit v=>exact .lit v
 |nu a cap=>exact .Q fun i h=>absurd h (VN _)
 |Q hb hlt hlen hcs hcell hrel ih=>exact .Q fun i h=>ih i h (O)
 |U h=>exact .U h.1
 |M h=>exact .M h.1
 |ni hb hlt hcs hcell hrel ih=>exact .ni fun i h=>ih i h (O)
 |agg hcs hrel ih=>exact .agg fun i h=>ih i h (O)
 |nf hcs hrel ih=>exact .nf fun i h=>ih i h (O)
 |Z hfs hcs hf hc ih1 ih2=>exact .Z (fun i h=>ih1 i h O) fun i h=>ih2 i h (O)
 |np h=>exact .np h.1
def tU (n:Nat):ZQ->Prop
 |.J _ _ cells=>∀i (h:i<cells.length),Below n cells[i]
 |.loop _ _ m env _ _ _=>∀t,t<m->Below n (env t)
 |.mp _=>True
 |.nt=>True
structure Clo (H:ZJ):Prop where
 lt:∀id b,H.get id=some b->id<H.A
 below:∀id b,H.get id=some b->tU H.A b
theorem ZT.Z (R:ZT P G Γ H w):Clo H:=by
 refine⟨fun id b h=>R.A id b h,fun id b h=>?_⟩;cases b with
 |nt=>trivial
 |mp=>trivial
 |J g e cells =>
  intro i hi;have h1:=R.J id g e cells h;split at h1
  ·obtain⟨c,_,_,_,h5⟩:=h1;obtain⟨cv,_,h6⟩:=h5 i hi;exact h6.r8
  ·subst h1;exact absurd hi (VN _)
 |loop st pend n env ps asg body =>
  intro t ht;obtain⟨b,r,_,_,_,_,_,_,_,h8,h9⟩:=R.loop id st pend n env ps asg body h;exact(h9 t O).r8
inductive Fz (S:Nat->Prop)(H:ZJ)(nx:Nat):ZK->ZK->Prop
 |lit (v:Value):Fz S H nx (.lit v) (.lit v)
 |Q {len:Nat} {c c':List ZK} (hl:c'.length=c.length) (h:∀i (h:i<c.length) (h':i<c'.length),Fz S H nx c[i] c'[i]):Fz S H nx (.Q len c) (.Q len c')
 |ni {off:Nat} {c c':List ZK} (hl:c'.length=c.length) (h:∀i (h:i<c.length) (h':i<c'.length),Fz S H nx c[i] c'[i]):Fz S H nx (.ni c off) (.ni c' off)
 |agg {c c':List ZK} (hl:c'.length=c.length) (h:∀i (h:i<c.length) (h':i<c'.length),Fz S H nx c[i] c'[i]):Fz S H nx (.agg c) (.agg c')
 |nf {c c':List ZK} (hl:c'.length=c.length) (h:∀i (h:i<c.length) (h':i<c'.length),Fz S H nx c[i] c'[i]):Fz S H nx (.nf c) (.nf c')
 |Z {f:FuncId} {a a' b b':List ZK} (ha:a'.length=a.length) (hb:b'.length=b.length) (h1:∀i (h:i<a.length) (h':i<a'.length),Fz S H nx a[i] a'[i]) (h2:∀i (h:i<b.length) (h':i<b'.length),Fz S H nx b[i] b'[i]):Fz S H nx (.Z f a b) (.Z f a' b')
 |U {id g o l z:Nat} (h:id<nx) (hs:¬S id):Fz S H nx (.U id g o l z) (.U id g o l z)
 |M {id g o:Nat} (h:id<nx) (hs:¬S id):Fz S H nx (.M id g o) (.M id g o)
 |np {id:Nat} (h:id<nx) (hs:¬S id):Fz S H nx (.np id) (.np id)
 |deadOwn {id g o l z:Nat} (h:id<nx) (hs:S id):Fz S H nx (.U id g o l z) (.U id g o l z)
 |deadPtr {id g o:Nat} (h:id<nx) (hs:S id):Fz S H nx (.M id g o) (.M id g o)
 |deadYld {id:Nat} (h:id<nx) (hs:S id):Fz S H nx (.np id) (.np id)
 |nil:Fz S H nx (.lit (.slice none 0 0)) (.Q 0 [])
 |nz {id g o l z:Nat} {e:TypeId} {cells c':List ZK} (hs:S id) (hg:H.get id=some (.J g e cells)) (hl:c'.length=l*z)
   (h:∀i (h:i<l*z) (h2:o+i<cells.length) (h':i<c'.length),Fz S H nx cells[o+i] c'[i]):Fz S H nx (.U id g o l z) (.Q l c')
 |pfrz {id g o:Nat} {e:TypeId} {cells c':List ZK} (hs:S id) (hg:H.get id=some (.J g e cells)) (hne:cells≠[]) (hl:c'.length=cells.length)
   (h:∀i (h:i<cells.length) (h':i<c'.length),Fz S H nx cells[i] c'[i]):Fz S H nx (.M id g o) (.ni c' o)
def Fz.refl {H:ZJ}(h:Below nx v)(hs:∀id,id<nx->¬S id):Fz S H nx v v:=by
 induction h with
 |lit v=>exact .lit v
 |Q _ ih=>exact .Q rfl fun i h _=>ih i h
 |ni _ ih=>exact .ni rfl fun i h _=>ih i h
 |agg _ ih=>exact .agg rfl fun i h _=>ih i h
 |nf _ ih=>exact .nf rfl fun i h _=>ih i h
 |Z _ _ ih1 ih2=>exact .Z rfl rfl (fun i h _=>ih1 i h) fun i h _=>ih2 i h
 |U h=>exact .U h (hs _ h)
 |M h=>exact .M h (hs _ h)
 |np h=>exact .np h (hs _ h)
def Co (S:Nat->Prop)(H:ZJ)(nx:Nat):ZQ->ZQ->Prop
 |.J g e c,.J g' e' c'=>g'=g/\e'=e/\c'.length=c.length/\∀i (_:i<c.length) (_:i<c'.length),Fz S H nx c[i] c'[i]
 |.loop st pend n env ps asg body,.loop st' pend' n' env' ps' asg' body'=>st'=st/\pend'=pend/\n'=n/\env'=env/\ps'=ps/\asg'=asg/\body'=body/\∀t,t<n->Fz S H nx (env t) (env t)
 |.mp es,.mp es'=>es'=es
 |.nt,.nt=>True
 |_,_=>False
structure FzH (S:Nat->Prop)(H H':ZJ):Prop where
 gone:∀id,S id->H'.get id=none
 kept:∀id b,¬S id->H.get id=some b->id<H'.A/\∃b',H'.get id=some b'/\Co S H H'.A b b'
 none:∀id,¬S id->H.get id=none->H'.get id=none
open Classical in
noncomputable def gY (S:Nat->Prop)(Γ:aH):aH:=fun id=>if S id then none else Γ id
def kj (h:¬S id):gY S Γ id=Γ id:=by simp[gY,h]
def mI {x:Nat × Nat × Nat}(h:gY S Γ id=some x):¬S id/\Γ id=some x:=by
 unfold gY at h;split at h
 ·cases h
 ·exact⟨by assumption,h⟩
def wh {b:Nat}(h:(gY S Γ).iL b):Γ.iL b:=by
 obtain⟨id,base,n,h⟩:=h;exact⟨id,base,n,(mI h).2⟩
def FzH.back (F:FzH S H H'){b':ZQ}(h:H'.get id=some b'):¬S id/\∃b,H.get id=some b/\Co S H H'.A b b'/\id<H'.A:=by
 have hs:¬S id:=fun hs=>by rw[F.gone id hs]at h;cases h
 refine⟨hs,?_⟩;cases hg:H.get id with
 |none=>rw[F.none id hs hg]at h;cases h
 |some b =>
  obtain⟨h1,b1,h2,h3⟩:=F.kept id b hs hg;rw[h]at h2;cases h2;exact⟨b,rfl,h3,h1⟩
def Fz.sound (R:ZT P G Γ H w)(F:FzH S H H')(hf:Fz S H H'.A v v'):∀ {cv:Value},ZO P Γ H w v cv->ZO P (gY S Γ) H' w v' cv:=by
 induction hf with
 |lit v=>intro cv h;cases h;exact .lit _
 |nil=>intro cv h;cases h;exact .nu none 0
 |deadOwn hlt hs =>
  intro cv h;cases h with
  |U h=>exact .U ⟨hlt,h.2.1,fun hr=>(by rw[F.gone _ hs]at hr;cases hr),fun _ _ _ hg=>(by rw[F.gone _ hs]at hg;cases hg)⟩
 |deadPtr hlt hs =>
  intro cv h;cases h with
  |M h=>exact .M ⟨hlt,h.2.1,fun hr=>(by rw[F.gone _ hs]at hr;cases hr),fun _ _ _ hg=>(by rw[F.gone _ hs]at hg;cases hg)⟩
 |deadYld hlt hs =>
  intro cv h;cases h with
  |np h=>exact .np ⟨hlt,h.2.1,fun hr=>(by rw[F.gone _ hs]at hr;cases hr),fun _ _ _ _ _ _ _ hg=>(by rw[F.gone _ hs]at hg;cases hg),fun _ hg=>(by rw[F.gone _ hs]at hg;cases hg)⟩
 |Q hl hc ih =>
  intro cv h;cases h with
  |nu a cap =>
   rename_i c';have:c'=[]:=VF hl;subst this;exact .nu a cap
  |Q hb hlt hlen hcs hcell hrel=>exact .Q (fun h=>hb (wh h)) hlt hlen O hcell fun i h1 h2=>ih i O h1 (hrel i O h2)
 |ni hl hc ih =>
  intro cv h;cases h with
  |ni hb hlt hcs hcell hrel=>exact .ni (fun h=>hb (wh h)) hlt O hcell fun i h1 h2=>ih i O h1 (hrel i O h2)
 |agg hl hc ih =>
  intro cv h;cases h with
  |agg hcs hrel=>exact .agg O fun i h1 h2=>ih i O h1 (hrel i O h2)
 |nf hl hc ih =>
  intro cv h;cases h with
  |nf hcs hrel=>exact .nf O fun i h1 h2=>ih i O h1 (hrel i O h2)
 |Z ha hb h1 h2 ih1 ih2 =>
  intro cv h;cases h with
  |Z hfs hcs hf hc=>exact .Z O O (fun i a b=>ih1 i O a (hf i O b)) fun i a b=>ih2 i O a (hc i O b)
 |U hlt hs =>
  intro cv h;cases h with
  |U h =>
   obtain⟨h1,h2,h0,h3⟩:=h;refine .U ⟨hlt,h2,fun hr=>?_,fun g' e' cells' hg'=>?_⟩
   ·obtain⟨_,b,hb,hfb,_⟩:=F.back hr;cases b with
    |nt=>exact h0 hb
    |_=>exact hfb.elim
   ·obtain⟨_,b,hb,hfb,_⟩:=F.back hg';cases b with
    |J g e cells =>
     obtain⟨rfl,rfl,hlen,_⟩:=hfb;have:=h3 _ _ _ hb;rw[kj hs,hlen];exact this
    |_=>exact hfb.elim
 |M hlt hs =>
  intro cv h;cases h with
  |M h =>
   obtain⟨h1,h2,h0,h3⟩:=h;refine .M ⟨hlt,h2,fun hr=>?_,fun g' e' cells' hg'=>?_⟩
   ·obtain⟨_,b,hb,hfb,_⟩:=F.back hr;cases b with
    |nt=>exact h0 hb
    |_=>exact hfb.elim
   ·obtain⟨_,b,hb,hfb,_⟩:=F.back hg';cases b with
    |J g e cells =>
     obtain⟨rfl,rfl,hlen,_⟩:=hfb;have:=h3 _ _ _ hb;rw[kj hs];exact this
    |_=>exact hfb.elim
 |np hlt hs =>
  intro cv h;cases h with
  |np h =>
   obtain⟨h1,h2,h0,h3,h4⟩:=h;refine .np ⟨hlt,h2,fun hr=>?_,fun st pend n env ps asg body hg'=>?_,fun es hg'=>?_⟩
   ·obtain⟨_,b,hb,hfb,_⟩:=F.back hr;cases b with
    |nt=>exact h0 hb
    |_=>exact hfb.elim
   ·obtain⟨_,b,hb,hfb,_⟩:=F.back hg';cases b with
    |loop st0 pend0 n0 env0 ps0 asg0 body0 =>
     have:=h3 _ _ _ _ _ _ _ hb;rw[kj hs];exact this
    |_=>exact hfb.elim
   ·obtain⟨_,b,hb,hfb,_⟩:=F.back hg';cases b with
    |mp es0 =>
     have:=h4 _ hb;rw[kj hs];exact this
    |_=>exact hfb.elim
 | @nz id g o l z e cells c' hs hg hl hc ih =>
  intro cv h;cases h with
  |U h =>
   obtain⟨h1,h2,h0,h3⟩:=h;have h4:=(h3 _ _ _ hg).2 rfl;have harr:=R.J id g e cells hg;cases hΓ:Γ id with
   |none =>
    rw[hΓ]at h4;obtain⟨rfl,rfl,rfl⟩:=h4;have:c'=[]:=VF (by simpa using hl);subst this;exact .nu _ _
   |some y =>
    obtain⟨b,base,n⟩:=y;rw[hΓ]at h4 harr;obtain⟨a,cap,rfl,hcap,hoff,hor⟩:=h4;obtain⟨c,a1,a2,a3,a4⟩:=harr;rcases hor with ⟨rfl,hn⟩|⟨rfl,rfl⟩
    ·have hcell:∀i,i<l*z->∃cv,c[base+(o+i)]?=some cv/\∀(h:o+i<cells.length),ZO P Γ H w cells[o+i] cv:=fun i hi=>by
      obtain⟨cv,b1,b2⟩:=a4 (o+i) O;exact⟨cv,b1,fun _=>b2⟩
     let cs:List Value:=(List.range (l*z)).map fun i=>(c[base+(o+i)]?).getD undef
     have hcs:cs.length=c'.length:=(by simp[cs,hl]);refine .Q (cs:=cs) (fun ho=>?_) (R.lt _ _ _ _ hΓ) hcap hcs (fun i hi=>?_) fun i hi hi'=>?_
     ·obtain⟨id',base',n',h'⟩:=ho;obtain⟨hns,h''⟩:=mI h';have:=R.inj _ _ _ _ _ _ _ h'' hΓ;subst this;exact hns hs
     ·have hi2:i<l*z:=(by rw[hcs,hl]at hi;exact hi);obtain⟨cv,b1,_⟩:=hcell i hi2;have:cs[i]=cv:=(by simp[cs,b1]);rw[this];have he:base+o+i=base+(o+i):=O;simp only[World.cell?,a1,he];exact b1
     ·have hi2:i<l*z:=(by rw[hl]at hi;exact hi);obtain⟨cv,b1,b2⟩:=hcell i hi2;have:cs[i]=cv:=(by simp[cs,b1]);rw[this];exact ih i hi2 O hi (b2 O)
    ·have:c'=[]:=VF (by simpa using hl);subst this;exact .nu _ _
 | @pfrz id g o e cells c' hs hg hne hl hc ih =>
  intro cv h;cases h with
  |M h =>
   obtain⟨h1,h2,h0,h3⟩:=h;obtain⟨b,base,n,hΓ,rfl⟩:=(h3 _ _ _ hg).2 rfl;have harr:=R.J id g e cells hg;rw[hΓ]at harr;obtain⟨c,a1,a2,a3,a4⟩:=harr
   let cs:List Value:=(List.range cells.length).map fun i=>(c[base+i]?).getD undef
   have hcs:cs.length=c'.length:=(by simp[cs,hl]);have hcell:∀i (hi:i<cells.length) (hi':i<cs.length),c[base+i]?=some cs[i]/\ZO P Γ H w cells[i] cs[i]:=fun i hi hi'=>by
    obtain⟨cv,b1,b2⟩:=a4 i hi;have:cs[i]=cv:=(by simp[cs,b1]);rw[this];exact⟨b1,b2⟩
   refine .ni (cs:=cs) (fun ho=>?_) (R.lt _ _ _ _ hΓ) hcs (fun i hi=>?_) fun i hi hi'=>?_
   ·obtain⟨id',base',n',h'⟩:=ho;obtain⟨hns,h''⟩:=mI h';have:=R.inj _ _ _ _ _ _ _ h'' hΓ;subst this;exact hns hs
   ·simp only[World.cell?,a1];exact(hcell i O hi).1
   ·exact ih i O hi (hcell i O hi').2
def Fz.plain {H:ZJ}(h:Below 0 v):Fz S H nx v v:=by
 induction h with
 |lit v=>exact .lit v
 |Q _ ih=>exact .Q rfl fun i h _=>ih i h
 |ni _ ih=>exact .ni rfl fun i h _=>ih i h
 |agg _ ih=>exact .agg rfl fun i h _=>ih i h
 |nf _ ih=>exact .nf rfl fun i h _=>ih i h
 |Z _ _ ih1 ih2=>exact .Z rfl rfl (fun i h _=>ih1 i h) fun i h _=>ih2 i h
 |U h=>exact absurd h (VN _)
 |M h=>exact absurd h (VN _)
 |np h=>exact absurd h (VN _)
theorem Fz.ints {H:ZJ}{g o:Nat}{e:TypeId}{cells:List ZK}{x:List Int}{n:Nat}(hs:S id)(hg:H.get id=some (.J g e cells))(hn:n=x.length)(hx:∀i (h:i<x.length),cells[o+i]?=some (aa x[i])):
  Fz S H nx (.U id g o n 1) (ah x):=by
 subst hn;refine .nz hs hg (by simp[Go.Hx.ints]) fun i hi h2 h'=>?_;have h1:=hx i O;rw[Vz h2]at h1;rw[Option.some.inj h1];have:(Go.Hx.ints x)[i]=aa x[i]:=by simp[Go.Hx.ints]
 rw[this];exact .lit _
def Fz.yS {H:ZJ}:Fz S H nx (.lit (.slice none 0 0)) (ah []):=.nil
def Fz.dK {H:ZJ}(x:List Int):Fz S H nx (ah x) (ah x) :=
 .plain (.Q fun i h=>by simp only[Go.Hx.ints,VO];exact .lit _)
def ko (x:List Int):(Go.Hx.ints x).all ZK.one=true:=by simp[Go.Hx.ints,aa,ZK.one,Value.oneCell]
def gD (G:Nat->Option (List ZK)):Prop:=∀g cells,G g=some cells->Below 0 (.ni cells 0)
def FzH.bK (F:FzH S H H'):ZX Γ H w (gY S Γ) H' w where
 os:=rfl
 tape:=rfl
 output:=rfl
 size:=ZI
 nc:=fun _ _ h=>⟨rfl,fun h'=>h (wh h')⟩
 V:=fun id _ _ x' hx=>by
  obtain⟨hs,b,hb,hfb,_⟩:=F.back hx;refine⟨b,hb,?_⟩;cases b<;>cases x'<;>first|exact hfb.elim|skip
  ·obtain⟨rfl,rfl,hl,_⟩:=hfb;exact⟨ZI,fun _=>⟨kj hs,rfl,hl⟩⟩
  ·obtain⟨rfl,rfl,rfl,rfl,rfl,rfl,rfl,_⟩:=hfb;exact⟨kj hs,rfl,rfl,rfl,rfl,rfl⟩
  ·exact kj hs
  ·trivial
 nz:=fun _ _=>rfl
def FzH.rel (hG:gD G)(R:ZT P G Γ H w)(F:FzH S H H'):ZT P G (gY S Γ) H' w where
 J id g e cells hg:=by
  obtain⟨hs,b,hb,hfb,_⟩:=F.back hg;cases b with
  |J g0 e0 c0 =>
   obtain⟨rfl,rfl,hl,hc⟩:=hfb;have h1:=R.J _ _ _ _ hb;rw[kj hs];cases hΓ:Γ id with
   |none =>
    rw[hΓ]at h1;simp only at h1 ⊢;subst h1;exact VF hl
   |some y =>
    obtain⟨b,base,n⟩:=y;rw[hΓ]at h1;obtain⟨c,a1,a2,a3,a4⟩:=h1;refine⟨c,a1,a2,O,fun i hi=>?_⟩;obtain⟨cv,b1,b2⟩:=a4 i O;exact⟨cv,b1,(hc i O hi).sound R F b2⟩
  |_=>exact hfb.elim
 loop id st pend n env ps asg body hg:=by
  obtain⟨hs,b,hb,hfb,_⟩:=F.back hg;cases b with
  |loop =>
   obtain⟨rfl,rfl,rfl,rfl,rfl,rfl,rfl,hf⟩:=hfb;obtain⟨b,rr,a1,a2,a3,a4,a5,a6,a7,a8,a9⟩:=R.loop _ _ _ _ _ _ _ _ hb;exact⟨b,rr,by rw[kj hs];exact a1,a2,a3,a4,a5,a6,a7,a8,fun t ht=>(hf t O).sound R F (a9 t ht)⟩
  |_=>exact hfb.elim
 mp id es hg:=by
  obtain⟨hs,b,hb,hfb,_⟩:=F.back hg;cases b with
  |mp es0 =>
   have hfb':es=es0:=hfb;subst hfb';obtain⟨b,a1,a2⟩:=R.mp _ _ hb;exact⟨b,by rw[kj hs];exact a1,a2⟩
  |_=>exact hfb.elim
 nt id hg:=by
  obtain⟨hs,b,hb,hfb,_⟩:=F.back hg;cases b with
  |nt=>rw[kj hs];exact R.nt id hb
  |_=>exact hfb.elim
 inj id id' b base n base' n' h h':=R.inj id id' b base n base' n' (mI h).2 (mI h').2
 nI id x h:=by
  obtain⟨hs,h⟩:=mI h;obtain⟨y,hy⟩:=R.nI id x h;obtain⟨_,b',hb',_⟩:=F.kept id y hs hy;exact⟨b',hb'⟩
 lt id b base n h:=R.lt id b base n (mI h).2
 A id y h:=by
  obtain⟨_,_,_,_,h⟩:=F.back h;exact h
 nH g cells h:=(Fz.plain (hG g cells h)).sound R F (R.nH g cells h)
 gsz:=R.gsz
def qx.freeze (hG:gD G)(F:FzH S H H')(hv:Fz S H H'.A v v'):qx P G H v H' v' :=
 fun Γ _ R=>⟨gY S Γ,F.rel hG R,F.bK,fun _ h=>hv.sound R F h⟩
def eF.freeze (hG:gD G){s s':St}(F:FzH S s.H s'.H)(hv:∀t,Fz S s.H s'.H.A (s.ρ t) (s'.ρ t)):eF P G s s':=by
 intro n wb Γ a w hs;have E:ZX Γ s.H w (gY S Γ) s'.H w:=F.bK;refine⟨gY S Γ,⟨hs.size,fun t=>(hv t).sound hs.heap F (hs.env t),F.rel hG hs.heap,hs.defers.bK E,hs.low⟩,E,fun rd rb hr hri=>?_⟩;cases rd with
 |none=>exact hr
 |some id =>
  obtain⟨b,st,pend,n,env,ps,asg,body,h1,h2,h3⟩:=hr;obtain⟨st',pend',n',env',ps',asg',body',h4⟩:=hri;obtain⟨hns,_⟩:=F.back h4;exact⟨b,_,_,_,_,_,_,_,h1,by rw[kj hns];exact h2,h4⟩
def K2 (hc:Clo H)(L:List ZQ):FzH (fun id=>H.A<=id) (ext H L) H where
 gone id hs:=by
  cases h:H.get id with
  |none=>rfl
  |some b=>have:=hc.lt id b h;omega
 kept id b hs hb:=by
  have hlt:id<H.A:=Xo hs;rw[dM H L id hlt]at hb;have hbb:=hc.below id b hb;refine⟨hlt,b,hb,?_⟩;have hno:∀i,i<H.A->¬H.A<=i:=fun i h=>Nat.not_le_of_lt h;cases b with
  |nt=>trivial
  |mp=>rfl
  |J g e cells=>exact⟨rfl,rfl,rfl,fun i h _=>.refl (hbb i h) hno⟩
  |loop st pend n env ps asg body=>exact⟨rfl,rfl,rfl,rfl,rfl,rfl,rfl,fun t ht=>.refl (hbb t ht) hno⟩
 none id hs hb:=by
  rw[dM H L id (Xo hs)]at hb;exact hb
def aq.drop (hG:gD G)(hc:Clo H){L:List ZQ}(hv:Fz (fun id=>H.A<=id) (ext H L) H.A v v')(hk:K (.ret v') H):aq P G H K v (ext H L) :=
 ⟨v',H,.freeze hG (K2 hc L) hv,ZI,hk⟩
def aq.K3 (hG:gD G)(hc:Clo H)(hv:Fz (fun id=>H.A<=id) (ext H []) H.A v v')(hk:K (.ret v') H):aq P G H K v H:=by
 have:=aq.drop (P:=P) hG hc hv hk;rw[ext_nil]at this;exact this
theorem ag.Z {f : FuncId} {args : List ZK} {K : ZP → ZJ → Prop} (hf : ∃ fn, P.funcs[f]? = some fn ∧ fn.body.isNone = false ∧ (fn.name == "runtime.NumGoroutine") = false) (h : Clo H → ag P G f args H K) : ag P G f args H K :=
 ⟨hf,fun Γ w cargs R hr=>(h R.Z).2 Γ w cargs R hr⟩
def ag.K4   {K : ZP → ZJ → Prop} (hf : ∃ fn, P.funcs[f]? = some fn ∧ fn.body.isNone = false ∧ (fn.name == "runtime.NumGoroutine") = false) (h : Clo H → (∀ v, v ∈ args → Below H.A v) → ag P G f args H K) : ag P G f args H K :=
 ⟨hf,fun Γ w cargs R hr=>(h R.Z (fun v hv=>by
  obtain⟨i,hi,rfl⟩:=Zr.1 hv;exact(hr.2 i hi (by have:=hr.1;omega)).r8)).2 Γ w cargs R hr⟩
end Go.Hx
namespace Go.Hx
variable {P:Program} {G:Nat->Option (List ZK)} {Γ Γ':aH} {H H':ZJ} {w w':World}
variable {r:Loop}{b:Nat}{pend:Option Code}{x:Option ZQ}
def wm (R:ZT P G Γ H w){id:Nat}{st:LoopState}{n:Nat}{env:Env}{ps:Array Tmp}{asg body:Code}(hg:H.get id=some (.loop st pend n env ps asg body)):
    ∃b r,Γ id=some (b,0,0)/\w.heap[b]?=some (.loop r)/\r.state=st/\r.pending=pend/\r.params=ps/\r.assign=asg/\r.body=body/\r.tmps.size=n/\(∀t (h:t<r.tmps.size),ZO P Γ H w (env t) r.tmps[t]) /\
      ∀st' pend',ZT P G Γ (H.upd id (.loop st' pend' n env ps asg body)) (cB w b (.loop { r with state:=st',pending:=pend' })) /\
        ZX Γ H w Γ (H.upd id (.loop st' pend' n env ps asg body)) (cB w b (.loop { r with state:=st',pending:=pend' })):=by
  obtain⟨b,r,hΓ,hb,h1,h2,h3,h4,h5,h6,h7⟩:=R.loop id st pend n env ps asg body hg;refine⟨b,r,hΓ,hb,h1,h2,h3,h4,h5,h6,h7,fun st' pend'=>?_⟩;have hlt:=R.lt id b 0 0 hΓ;have E:ZX Γ H w Γ (H.upd id (.loop st' pend' n env ps asg body)) (cB w b (.loop { r with state:=st',pending:=pend' })) :=
    { os:=rfl,tape:=rfl,output:=rfl
      size:=by rw[kM];exact Nat.le_refl _
      nc:=fun c hc ho=>⟨by
        rw[fP,Vx];rintro⟨rfl,_⟩;exact ho ⟨id,0,0,hΓ⟩,ho⟩
      V:=fun i hi _ x' hx=>by
        rw[af]at hx;split at hx
        · rename_i hii;subst hii;simp only[Option.some.injEq]at hx;subst hx;exact⟨_,hg,rfl,rfl,rfl,rfl,rfl,rfl⟩
        · exact⟨x',hx,ZQ.le_refl _ _ _⟩
      nz:=fun a _=>tw hb (fun _ _ _ h=>by cases h) (fun _ _ _ h=>by cases h) a }
  refine⟨?_,E⟩;have hne:∀i b' base n',Γ i=some (b',base,n')->i≠id->b'≠b:=fun i b' base n' hi hii hbb=>by
    subst hbb;exact hii (R.inj _ _ _ _ _ _ _ hi hΓ)
  exact
    { J:=fun i g e cells hgi=>by
        rw[af]at hgi;split at hgi
        · simp at hgi
        · rename_i hii;have h:=R.J i g e cells hgi;cases hi:Γ i with
          |none=>rw[hi]at h;exact h
          |some y =>
            obtain⟨b',base,n'⟩:=y;rw[hi]at h;obtain⟨c,a1,a2,a3,a4⟩:=h;refine⟨c,?_,a2,a3,fun j hj=>let ⟨cv,b1,b2⟩:=a4 j hj;⟨cv,b1,b2.bK E ZI⟩⟩;rw[fP,Vx]
            · exact a1
            · rintro⟨h,_⟩;exact hne i b' base n' hi hii h
      loop:=fun i st2 pend2 n2 env2 ps2 asg2 body2 hgi=>by
        rw[af]at hgi;split at hgi
        · rename_i hii;subst hii;simp only[Option.some.injEq,ZQ.loop.injEq]at hgi;obtain⟨rfl,rfl,rfl,rfl,rfl,rfl,rfl⟩:=hgi;refine⟨b,{ r with state:=st',pending:=pend' },hΓ,by rw[fP,VA ⟨rfl,hlt⟩],rfl,rfl,h3,h4,h5,h6,fun t ht=>(h7 t ht).bK E ZI⟩
        · rename_i hii;obtain⟨b2,r2,a1,a2,a3,a4,a5,a6,a7,a8,a9⟩:=R.loop i _ _ _ _ _ _ _ hgi;refine⟨b2,r2,a1,?_,a3,a4,a5,a6,a7,a8,fun t ht=>(a9 t ht).bK E ZI⟩;rw[fP,Vx]
          · exact a2
          · rintro⟨h,_⟩;exact hne i b2 0 0 a1 hii h
      mp:=fun i es hgi=>by
        rw[af]at hgi;split at hgi
        · simp at hgi
        · rename_i hii;obtain⟨b2,a1,a2⟩:=R.mp i _ hgi;refine⟨b2,a1,?_⟩;rw[fP,Vx]
          · exact a2
          · rintro⟨h,_⟩;exact hne i b2 0 0 a1 hii h
      nt:=fun i hgi=>by
        rw[af]at hgi;split at hgi
        · simp at hgi
        · exact R.nt i hgi
      inj:=R.inj
      nI:=fun i x hi=>by
        obtain⟨y,hy⟩:=R.nI i x hi;rw[af];split
        · exact⟨_,rfl⟩
        · exact⟨y,hy⟩
      lt:=fun i b' base n' hi=>by rw[kM];exact R.lt i b' base n' hi
      A:=fun i y hy=>by
        rw[af]at hy;split at hy
        · rename_i hii;subst hii;exact R.A _ _ hg
        · exact R.A i y hy
      nH:=fun g cells h=>(R.nH g cells h).bK E (Nat.le_refl _)
      gsz:=R.rj E }
def tV (h:w.heap[b]?=some (.loop r)):(Instr.getLoop b).run P w=.ok r w:=by
  have hg:(getObj b).run P w=.ok (.loop r) w:=by simp[getObj,Sem.run,h]
  unfold Instr.getLoop;rw[az hg];rfl
def yT {o':Obj}(h:w.heap[b]?=some (.loop r)):(setObj b o').run P w=.ok () (cB w b o'):=by
  simp[setObj,Sem.run,h,cB]
def K5 (h:w.heap[b]?=some (.loop r))(hs:r.state=.ready):(Instr.beginRound b).run P w=.ok () (cB w b (.loop { r with state:=.busy,pending:=r.pending })):=by
  unfold Instr.beginRound;rw[az (tV h),az (yT h)];simp only[hs];rfl
def K6 (h:w.heap[b]?=some (.loop r))(j:Option Code):
    (Instr.endRound b j).run P w=.ok (.bool j.isNone) (cB w b (.loop { r with state:=if j.isNone then .ready else .done,pending:=j })):=by
  unfold Instr.endRound;rw[az (tV h),az (yT h)];rfl
def K7 (h:w.heap[b]?=some (.loop r))(hs:(r.state == .busy)=false):(Instr.endLoop b).run P w=.ok r.pending (cB w b (.loop { r with state:=.exhausted,pending:=r.pending })):=by
  unfold Instr.endLoop;rw[az (tV h)];simp only[hs,Bool.false_eq_true,if_false];rw[az (yT h)];rfl
def eZ (ρ:Env)(l:List (Tmp × ZK)):Env:=l.foldl (fun ρ p=>aW ρ (some p.1) p.2) ρ
def bb (env:Env)(n:Nat):Env:=fun t=>if t<n then env t else .lit undef
def qA (st:LoopState)(pend:Option Code):Option ZQ->Option ZQ
  |some (.loop _ _ n env ps asg body)=>some (.loop st pend n env ps asg body)
  |_=>none
def Cp:Option ZQ->Option ZQ
  |some (.loop .ready pend n env ps asg body)=>some (.loop .busy pend n env ps asg body)
  |_=>none
def K8 (id:Nat)(K:ZP->ZJ->Prop):AX->St->Prop
  |.normal,s=>bG (qA .ready none (s.H.get id)) fun b=>K (.ret (.lit (.bool true))) (s.H.upd id b)
  |.ret,s=>bG (qA .done (some .ret) (s.H.get id)) fun b=>K (.ret (.lit (.bool false))) (s.H.upd id b)
  |.exit i,s=>bG (qA .done (some (.exit i)) (s.H.get id)) fun b=>K (.ret (.lit (.bool false))) (s.H.upd id b)
  |.goto i,s=>bG (qA .done (some (.goto i)) (s.H.get id)) fun b=>K (.ret (.lit (.bool false))) (s.H.upd id b)
  |.panic,_=>False
def K9 (P:Program)(G:Nat->Option (List ZK))(n id:Nat)(body:Code)(K:ZP->ZJ->Prop):AX->St->Prop
  |.normal,s=>bG (Cp (s.H.get id)) fun b=>W P G n (some id) body (K8 id K) ⟨s.ρ,s.H.upd id b⟩
  |_,_=>False
def La:∀(l:List (Tmp × ZK)) (cl:List (Tmp × Value)) (ρ:Env) (tmps:Array Value),l.length=cl.length->(∀i (h:i<l.length) (h':i<cl.length),l[i].1=cl[i].1/\l[i].1<tmps.size/\ZO P Γ H w l[i].2 cl[i].2) ->
    (∀t,ZO P Γ H w (ρ t) (tmps.getD t undef)) ->
    ((cl.foldl (fun tmps (p:Tmp × Value)=>tmps.setIfInBounds p.1 p.2) tmps).size=tmps.size)/\∀t,ZO P Γ H w (eZ ρ l t) ((cl.foldl (fun tmps (p:Tmp × Value)=>tmps.setIfInBounds p.1 p.2) tmps).getD t undef):=by
  intro l
  induction l with
  |nil =>
    intro cl ρ tmps hl _ he;cases cl with
    |nil=>exact⟨rfl,he⟩
    |cons=>simp at hl
  |cons x l ih =>
    intro cl ρ tmps hl h he;cases cl with
    |nil=>simp at hl
    |cons y cl =>
      obtain⟨h1,h2,h3⟩:=h 0 ZF ZF;simp only[Wq]at h1 h2 h3;have:=ih cl (aW ρ (some x.1) x.2) (tmps.setIfInBounds y.1 y.2) (by simpa using hl) (fun i a b=>by
        have:=h (i+1) (by simpa using a) (by simpa using b);simp only[Xn]at this;simpa using this) (fun t=>by
          by_cases ht:t=x.1
          · subst ht;have e1:aW ρ (some x.1) x.2 x.1=x.2:=(by simp[aW]);have e2:(tmps.setIfInBounds y.1 y.2).getD x.1 undef=y.2:=(by rw[<- h1];simp[h2]);rw[e1,e2];exact h3
          · have e1 : aW ρ (some x.1) x.2 t=ρ t:=(by simp [aW,ht]);have e2 : (tmps.setIfInBounds y.1 y.2).getD t undef=tmps.getD t undef:=by
              simp only[Wu];rw[Wz,Vx (by rw[<- h1];exact fun h=>ht h.symm)]
            rw[e1,e2];exact he t)
      refine⟨?_,this.2⟩;have h4:=this.1;simp only[Array.size_setIfInBounds]at h4;exact h4
def Lb {st:LoopState}{b:ZQ}(h:qA st pend x=some b):∃st0 p0 n env ps asg body,x=some (.loop st0 p0 n env ps asg body)/\b=.loop st pend n env ps asg body:=by
  unfold qA at h;split at h
  · cases h;exact⟨_,_,_,_,_,_,_,rfl,rfl⟩
  · cases h
theorem au.np {id:Nat}{args:List ZK}{K:ZP->ZJ->Prop}{pend:Option Code}{n:Nat}{env:Env}{ps:Array Tmp}{asg body:Code}(hg:H.get id=some (.loop .ready pend n env ps asg body))(hl:args.length=ps.size)
    (hps:ps.toList.all (fun t=>decide (t<n))=true) (h:W P G n (some id) asg (K9 P G n id body K) ⟨eZ (bb env n) (ps.toList.zip args),H⟩):au P G (.np id) args H K:=by
  intro Γ w cfv cargs R hv hr;cases hv with
  |np hy =>
    obtain⟨b,hΓ,rfl⟩:=hy.2.2.2.1 _ _ _ _ _ _ _ hg;obtain⟨b',r,hΓ',hb,h1,h2,h3,h4,h5,h6,h7,_⟩:=wm R hg;rw[hΓ]at hΓ';simp only[Option.some.injEq,Prod.mk.injEq]at hΓ';obtain⟨rfl,_⟩:=hΓ';have hsz:cargs.size=r.params.size:=(by rw[hr.1,hl,h3]);refine⟨{ target:=.fn (.yield b) #[],args:=#[]++cargs },rfl,.inr (.inl ⟨b,r.fn,(r.params.zip (#[]++cargs)).foldl (fun tmps (t,a)=>tmps.setIfInBounds t a) r.tmps,r.assign,r.body,?_,?_⟩)⟩
    · show (Instr.yield b (#[]++cargs)).run P w=_;unfold Instr.yield;rw[az (tV hb)];have:¬((#[]++cargs).size≠r.params.size):=(by simp[hsz]);rw[Vx this];rfl
    · refine roundIn_of_wpIn (F:=Fence.wide) trivial ?_;have hfold : (r.params.zip (#[]++cargs)).foldl (fun tmps (t,a)=>tmps.setIfInBounds t a) r.tmps=(r.params.toList.zip cargs.toList).foldl (fun tmps (p : Tmp × Value)=>tmps.setIfInBounds p.1 p.2) r.tmps:=by
        rw[<- Array.foldl_toList];simp
      rw [hfold,h4,h5];have hset:=La (P:=P) (Γ:=Γ) (H:=H) (w:=w) (ps.toList.zip args) (r.params.toList.zip cargs.toList) (bb env n) r.tmps (by simp [hr.1,h3]) (fun i a c=>by
          simp only[List.length_zip,Xm]at a c;simp only[List.getElem_zip,WE];refine⟨by simp only[h3],?_,hr.2 i O O⟩;rw[h6];have:=VZ.1 hps (ps[i]' O) ZF;simpa using this) (fun t=>by
          unfold bb;by_cases ht:t<n
          · rw[VA ht];have:r.tmps.getD t undef=r.tmps[t]' O:=(by simp[h6,ht]);rw[this];exact h7 t (O)
          · rw[Vx ht];have:r.tmps.getD t undef=undef:=(by simp[h6,ht]);rw[this];exact .lit _)
      have hs:Z4 P G n ⟨0,[]⟩ Γ ⟨eZ (bb env n) (ps.toList.zip args),H⟩ { tmps:=(r.params.toList.zip cargs.toList).foldl (fun tmps (p:Tmp × Value)=>tmps.setIfInBounds p.1 p.2) r.tmps,defers:=[] } w :=
        ⟨by rw[hset.1,h6],hset.2,R,⟨[],rfl,Marks.nil⟩,WO _⟩
      refine wpIn_mono (h ⟨0,[]⟩ Γ _ w (some b) hs ⟨b,_,_,_,_,_,_,_,rfl,hΓ,hg⟩) ?_;rintro e a₁ w₁ ⟨x,s₁,Γ₁,hx,hq,hs₁,E₁,hn₁,hr₁,_⟩;cases x with
      |normal =>
        cases e with
        |normal =>
          obtain⟨blk,hbg,hW⟩:=hq;obtain⟨b1,st1,p1,n1,env1,ps1,asg1,body1,hb1,hΓ₁,hg₁⟩:=hr₁;simp only[Option.some.injEq]at hb1;subst hb1;rw[hg₁]at hbg;have hst:st1=.ready/\blk=.loop .busy p1 n1 env1 ps1 asg1 body1:=by
            cases st1<;>simp[Cp]at hbg
            exact⟨rfl,hbg.symm⟩
          obtain ⟨rfl,rfl⟩:=hst;obtain ⟨b2,r1,hΓ₂,hb2,k1,k2,k3,k4,k5,k6,k7,kset⟩:=wm hs₁.heap hg₁;rw [hΓ₁] at hΓ₂;simp only [Option.some.injEq,Prod.mk.injEq] at hΓ₂;obtain ⟨rfl,_⟩:=hΓ₂;obtain ⟨R2,E2⟩:=kset .busy r1.pending;rw [k2] at R2 E2;have hb3 : Γ₁ id=some (b,0,0):=hΓ₁;refine ⟨_,K5 hb2 k1,?_⟩;rw [k2];refine wpIn_mono (hW ⟨0,[]⟩ Γ₁ a₁ _ (some b) (hs₁.move E2 ZI R2) ⟨b,_,_,_,_,_,_,_,rfl,hΓ₁,by rw [af,VA rfl]⟩) ?_;rintro e a₂ w₂ ⟨x,s₂,Γ₂,hx,hq,hs₂,E3,hn₂,hr₂,_⟩;obtain ⟨b4,st4,p4,n4,env4,ps4,asg4,body4,hb4,hΓ₄,hg₄⟩:=hr₂;simp only [Option.some.injEq] at hb4;subst hb4;obtain ⟨b5,r5,hΓ₅,hb5,l1,l2,l3,l4,l5,l6,l7,lset⟩:=wm hs₂.heap hg₄;rw [hΓ₄] at hΓ₅;simp only [Option.some.injEq,Prod.mk.injEq] at hΓ₅;obtain ⟨rfl,_⟩:=hΓ₅;have E4 : ZX Γ H w Γ₂ s₂.H w₂:=(E₁.trans hn₁ E2).trans hn₁ E3;have hn4 : H.A≤s₂.H.A:=Wm hn₁ hn₂;have fin : ∀ (j : Option Code) (v : Bool),v=j.isNone→bG (qA (if j.isNone then .ready else .done) j (s₂.H.get id)) (fun bl=>K (.ret (.lit (.bool v))) (s₂.H.upd id bl)) →
              ∃cv w',(Instr.endRound b j).run P w₂=.ok cv w'/\jS P G Γ H w K (.returned cv) w':=by
            rintro j v rfl ⟨bl,hbl,hk⟩;obtain⟨R6,E6⟩:=lset (if j.isNone then .ready else .done) j;rw[hg₄]at hbl;obtain⟨_,_,_,_,_,_,_,heq,rfl⟩:=Lb hbl;simp only[Option.some.injEq,ZQ.loop.injEq]at heq;obtain⟨rfl,rfl,rfl,rfl,rfl,rfl,rfl⟩:=heq;exact⟨_,_,K6 hb5 j,.ret (.lit (.bool j.isNone)),_,Γ₂,ZO.lit _,hk,R6,E4.trans hn4 E6,hn4⟩
          cases e with
          |normal=>cases x with
            |normal=>exact fin none true rfl hq
            |_=>exact hx.elim
          |ret=>cases x with
            |ret=>exact fin (some .ret) false rfl hq
            |_=>exact hx.elim
          |exit i=>cases x with
            |exit i' =>
              obtain rfl:i=i':=hx;exact fin (some (.exit i)) false rfl hq
            |_=>exact hx.elim
          |goto i=>cases x with
            |goto i' =>
              obtain rfl:i=i':=hx;exact fin (some (.goto i)) false rfl hq
            |_=>exact hx.elim
          |panic c=>cases x with
            |panic=>exact hq.elim
            |_=>exact hx.elim
          |outgrown=>cases x<;>exact hx.elim
        |_=>exact hx.elim
      |_=>exact hq.elim
def yU (hos:w'.os=w.os)(ht:w'.tape=w.tape)(ho:w'.output=w.output)(hs:w.heap.size<=w'.heap.size)(hk:∀b,b<w.heap.size->w'.heap[b]?=w.heap[b]?)(hz:∀a,a.block<w.heap.size->w'.frozen? a=w.frozen? a)(R:ZT P G Γ H w):ZX Γ H w Γ H w'/\ZT P G Γ H w':=by
  have E:ZX Γ H w Γ H w':=⟨hos,ht,ho,hs,fun b hb h=>⟨hk b hb,h⟩,fun _ _ _ x' hx=>⟨x',hx,ZQ.le_refl _ _ _⟩,hz⟩
  refine⟨E,?_⟩;exact
    { J:=fun id g e cells hg=>by
        have h1:=R.J id g e cells hg;cases hΓ:Γ id with
        |none=>rw[hΓ]at h1;exact h1
        |some y =>
          obtain⟨b,base,n⟩:=y;rw[hΓ]at h1;obtain⟨c,a1,a2,a3,a4⟩:=h1;exact⟨c,by rw[hk b (R.lt _ _ _ _ hΓ)];exact a1,a2,a3,fun i hi=>let ⟨cv,b1,b2⟩:=a4 i hi;⟨cv,b1,b2.bK E ZI⟩⟩
      loop:=fun id st pend n env ps asg body hg=>by
        obtain⟨b,rr,a1,a2,a3,a4,a5,a6,a7,a8,a9⟩:=R.loop id st pend n env ps asg body hg;exact⟨b,rr,a1,by rw[hk b (R.lt _ _ _ _ a1)];exact a2,a3,a4,a5,a6,a7,a8,fun t ht=>(a9 t ht).bK E ZI⟩
      mp:=fun id es hg=>by
        obtain⟨b,a1,a2⟩:=R.mp id es hg;exact⟨b,a1,by rw[hk b (R.lt _ _ _ _ a1)];exact a2⟩
      nt:=R.nt
      inj:=R.inj
      nI:=R.nI
      lt:=fun id b base n h=>VM (R.lt id b base n h) hs
      A:=R.A
      nH:=fun g cells h=>(R.nH g cells h).bK E (Nat.le_refl _)
      gsz:=R.rj E }
def yV:Option ZQ->Option (Option Code × ZQ)
  |some (.loop .busy ..)=>none
  |some (.loop _ pend n env ps asg body)=>some (pend,.loop .exhausted pend n env ps asg body)
  |_=>none
def Lc (Q:AX->St->Prop)(s:St):Option Code->Prop
  |none=>Q .normal s
  |some .ret=>Q .ret s
  |some (.exit i)=>Q (.exit i) s
  |some (.goto i)=>Q (.goto i) s
  |_=>False
def yW (rd:Option Nat)(Q:AX->St->Prop)(ρ:Env)(id:Nat):ZP->ZJ->Prop
  |.ret _,H'=>fZ H' rd/\bG (yV (H'.get id)) fun pb=>Lc Q ⟨ρ,H'.upd id pb.2⟩ pb.1
  |.panic,H'=>fZ H' rd/\Q .panic ⟨ρ,H'⟩
def Ld {pb:Option Code × ZQ}(h:yV x=some pb):∃st pend n env ps asg body,x=some (.loop st pend n env ps asg body)/\(st == .busy)=false/\pb=(pend,.loop .exhausted pend n env ps asg body):=by
  unfold yV at h;split at h
  · cases h
  · rename_i st pend n env ps asg body hne;cases h;refine⟨_,_,_,_,_,_,_,rfl,?_,rfl⟩;cases st with
    |busy=>exact absurd rfl (by first|exact hne|exact fun h=>hne _ _ _ _ _ _ h)
    |_=>rfl
  · cases h
section
variable {n:Nat} {rd:Option Nat} {Q:AX->St->Prop}
theorem W.rangeFunc {g:Operand}{ps:Array Tmp}{asg body:Code}{s:St}{f:FuncId}{first cap:List ZK}(hg:ay G s.ρ g=.Z f first cap)
    (h:bG (s.H.lay s.H.A (.loop .ready none n s.ρ ps asg body)) fun H1=>ag P G f (first++[.np s.H.A]++cap) H1 (yW rd Q s.ρ s.H.A)):W P G n rd (.rangeFunc g ps asg body) Q s:=by
  intro wb Γ a w rb hs hr;obtain⟨H1,hlay,hcall⟩:=h;have hlay2:H1=⟨fun j=>if j=s.H.A then some (.loop .ready none n s.ρ ps asg body) else s.H.get j,s.H.A+1⟩:=by
    unfold ZJ.lay at hlay;rw[VA rfl]at hlay;exact(Option.some.inj hlay).symm
  subst hlay2;refine wpIn_rangeFunc fun fn _=>?_;have he:=jR hs g;rw[hg]at he
  -- the world with the record
  have key : ∀ (w0 : World) (mark : List Deferred) (dblk : Nat),ZX Γ s.H w Γ s.H w0→ZT P G Γ s.H w0 →
      tL wb Γ w0 (mark++a.defers) ->
      ∀w1,w1={ w0 with heap:=w0.heap.push (.loop { state:=.ready,pending:=none,fn:=fn,tmps:=a.tmps,params:=ps,assign:=asg,body:=body,defers:=dblk }) } ->
      (Instr.enterLoop fn a.tmps ps asg body (fB rb).round).run P w=.ok (w0.heap.size,mark) w1 ->
      ∃(l:Nat) (mark:List Deferred) (w₁:World) (d:Deferred) (w₁':World) (f:FuncId) (args:Array Value) (w₂:World),
      (Instr.enterLoop fn a.tmps ps asg body (fB rb).round).run P w=.ok (l,mark) w₁ /\
      (resolve a.eval (rangeCall g l) 0).run P w₁=.ok d w₁' /\
      (∀f',Target.leads P w₁' d.target d.args=some f'->(fB rb).fn f') /\
      (invoke d.target d.args).run P w₁'=.ok (.enter f args) w₂ /\
      ((fB rb).depth.isSome=true->1<=0) /\
      CallsIn (fB rb) (0-1) P f args w₂ (rangePost (fB rb) 0 P l (iZ P G n wb rd rb (wr (.rangeFunc g ps asg body)) Γ s.H a w Q) { a with defers:=mark++a.defers }):=by
    intro w0 mark dblk E0 R0 hdef w1 hw1 hent
    let rec':Loop:={ state:=.ready,pending:=none,fn:=fn,tmps:=a.tmps,params:=ps,assign:=asg,body:=body,defers:=dblk }
    have hheap:w1.heap=w0.heap.push (.loop rec'):=(by rw[hw1]);have hsz1:w1.heap.size=w0.heap.size+1:=(by rw[hheap];simp);have hk1:∀b,b<w0.heap.size->w1.heap[b]?=w0.heap[b]?:=fun b hb=>by
      rw[hheap,Yk];rw[Vx O]
    have hget1:w1.heap[w0.heap.size]?=some (.loop rec'):=(by rw[hheap];simp);obtain⟨E1,R1⟩:=yU (w':=w1) (by rw[hw1]) (by rw[hw1]) (by rw[hw1]) O hk1 (fun a _=>ry hheap (fun _ _ _ h=>by cases h) a) R0
    let Γ1:aH:=fun i=>if i=s.H.A then some (w0.heap.size,0,0) else Γ i
    let H1:ZJ:=⟨fun j=>if j=s.H.A then some (.loop .ready none n s.ρ ps asg body) else s.H.get j,s.H.A+1⟩
    have hfresh:∀i y,s.H.get i=some y->i≠s.H.A:=fun i y hy h=>by have:=R0.A i y hy;omega
    have hΓfresh:∀i x,Γ i=some x->i≠s.H.A:=fun i x hx=>let ⟨y,hy⟩:=R0.nI i x hx;hfresh i y hy
    have hΓ1:∀i,i≠s.H.A->Γ1 i=Γ i:=fun i hi=>by simp only[Γ1];rw[Vx hi]
    have hH1:∀i,i≠s.H.A->H1.get i=s.H.get i:=fun i hi=>by simp only[H1];rw[Vx hi]
    have E2:ZX Γ s.H w0 Γ1 H1 w1 :=
      { os:=by rw[hw1],tape:=by rw[hw1],output:=by rw[hw1],size:=O
        nc:=fun b hb ho=>⟨hk1 b hb,by
          rintro⟨i,base,m,hi⟩;simp only[Γ1]at hi;split at hi
          · simp only[Option.some.injEq,Prod.mk.injEq]at hi;omega
          · exact ho ⟨i,base,m,hi⟩⟩
        V:=fun i hi _ x' hx=>by
          rw[hH1 i O]at hx;refine⟨x',hx,?_⟩;have hΓi:Γ1 i=Γ i:=hΓ1 i O;cases x' with
          |J=>exact⟨ZI,fun _=>⟨hΓi,rfl,rfl⟩⟩
          |loop=>exact⟨hΓi,rfl,rfl,rfl,rfl,rfl⟩
          |mp=>exact hΓi
          |nt=>trivial
        nz:=fun a _=>ry hheap (fun _ _ _ h=>by cases h) a }
    have hn1:s.H.A<=H1.A:=XV _;have tr:∀v cv,ZO P Γ s.H w0 v cv->ZO P Γ1 H1 w1 v cv:=fun v cv h=>h.bK E2 hn1;have R2:ZT P G Γ1 H1 w1 :=
      { J:=fun i g e cells hi=>by
          by_cases hii:i=s.H.A
          · simp only[H1]at hi;rw[VA hii]at hi;simp at hi
          · rw[hH1 i hii]at hi;have h:=R0.J i g e cells hi;rw[hΓ1 i hii];cases hΓ:Γ i with
            |none=>rw[hΓ]at h;exact h
            |some y =>
              obtain⟨b,base,m⟩:=y;rw[hΓ]at h;obtain⟨c,a1,a2,a3,a4⟩:=h;exact⟨c,by rw[hk1 b (R0.lt _ _ _ _ hΓ)];exact a1,a2,a3,fun j hj=>let ⟨cv,b1,b2⟩:=a4 j hj;⟨cv,b1,tr _ _ b2⟩⟩
        loop:=fun i st2 pend2 n2 env2 ps2 asg2 body2 hi=>by
          by_cases hii:i=s.H.A
          · simp only [H1] at hi;rw [VA hii] at hi;simp only [Option.some.injEq,ZQ.loop.injEq] at hi;obtain ⟨rfl,rfl,rfl,rfl,rfl,rfl,rfl⟩:=hi;refine ⟨w0.heap.size,rec',by simp only [Γ1];rw [VA hii],hget1,rfl,rfl,rfl,rfl,rfl,hs.size,fun t ht=>?_⟩;have:=((hs.env t).bK E0 ZI).bK E2 hn1;have e1 : a.tmps.getD t undef=a.tmps[t]'ht:=by
              have:t<a.tmps.size:=ht;simp[this]
            rw[e1]at this;exact this
          · rw[hH1 i hii]at hi;obtain⟨b2,r2,a1,a2,a3,a4,a5,a6,a7,a8,a9⟩:=R0.loop i _ _ _ _ _ _ _ hi;exact⟨b2,r2,by rw[hΓ1 i hii];exact a1,by rw[hk1 b2 (R0.lt _ _ _ _ a1)];exact a2,a3,a4,a5,a6,a7,a8,fun t ht=>tr _ _ (a9 t ht)⟩
        mp:=fun i es hi=>by
          by_cases hii:i=s.H.A
          · simp only[H1]at hi;rw[VA hii]at hi;simp at hi
          · rw[hH1 i hii]at hi;obtain⟨b2,a1,a2⟩:=R0.mp i _ hi;exact⟨b2,by rw[hΓ1 i hii];exact a1,by rw[hk1 b2 (R0.lt _ _ _ _ a1)];exact a2⟩
        nt:=fun i hi=>by
          by_cases hii:i=s.H.A
          · simp only[H1]at hi;rw[VA hii]at hi;simp at hi
          · rw[hH1 i hii]at hi;rw[hΓ1 i hii];exact R0.nt i hi
        inj:=fun i i' b base m base' m' h h'=>by
          by_cases h1:i=s.H.A
          · by_cases h2:i'=s.H.A
            · rw[h1,h2]
            · rw[hΓ1 i' h2]at h';simp only[Γ1]at h;rw[VA h1]at h;simp only[Option.some.injEq,Prod.mk.injEq]at h;have:=R0.lt _ _ _ _ h';omega
          · by_cases h2:i'=s.H.A
            · rw[hΓ1 i h1]at h;simp only[Γ1]at h';rw[VA h2]at h';simp only[Option.some.injEq,Prod.mk.injEq]at h';have:=R0.lt _ _ _ _ h;omega
            · rw[hΓ1 i h1]at h;rw[hΓ1 i' h2]at h';exact R0.inj _ _ _ _ _ _ _ h h'
        nI:=fun i x hi=>by
          by_cases hii:i=s.H.A
          · simp only[H1];rw[VA hii];exact⟨_,rfl⟩
          · rw[hΓ1 i hii]at hi;rw[hH1 i hii];exact R0.nI i x hi
        lt:=fun i b base m hi=>by
          by_cases hii:i=s.H.A
          · simp only[Γ1]at hi;rw[VA hii]at hi;simp only[Option.some.injEq,Prod.mk.injEq]at hi;omega
          · rw[hΓ1 i hii]at hi;have:=R0.lt _ _ _ _ hi;omega
        A:=fun i y hi=>by
          by_cases hii:i=s.H.A
          · show i<s.H.A+1;omega
          · rw[hH1 i hii]at hi;have:=R0.A i y hi;show i<s.H.A+1;omega
        nH:=fun g cells h=>tr _ _ (R0.nH g cells h)
        gsz:=R0.rj E2 }
    have E3:ZX Γ s.H w Γ1 H1 w1:=E0.trans ZI E2;generalize hcg:a.eval g=cg at he;cases he with
    | @Z _ _ _ fs cs hfs hcs hf hc =>
      obtain⟨⟨fn',hfn',hb',hname'⟩,hcall⟩:=hcall;have hyld:ZO P Γ1 H1 w1 (.np s.H.A) (.func (.yield w0.heap.size) #[] #[]) :=
        .np ⟨W3 _,rfl,by simp[H1],fun st pend n env ps asg body hgi=>⟨w0.heap.size,by simp[Γ1],rfl⟩,fun es hgi=>by simp[H1]at hgi⟩
      have hargs:eE P Γ1 H1 w1 (first++[.np s.H.A]++cap) (fs.toArray++#[.func (.yield w0.heap.size) #[] #[]]++cs.toArray):=by
        refine vJ (vJ ⟨by simpa using hfs,fun i h1 h2=>?_⟩ ⟨rfl,fun i h1 h2=>?_⟩) ⟨by simpa using hcs,fun i h1 h2=>?_⟩
        · exact(by simpa using hf i h1 (by simpa using h2):ZO P Γ s.H w first[i] (fs.toArray[i])).bK E3 hn1
        · have:i=0:=(by simp at h1;omega);subst this;exact hyld
        · exact(by simpa using hc i h1 (by simpa using h2):ZO P Γ s.H w cap[i] (cs.toArray[i])).bK E3 hn1
      refine⟨w0.heap.size,mark,w1,{ target:=.fn (.func f) cs.toArray,args:=fs.toArray++#[.func (.yield w0.heap.size) #[] #[]] },w1,f,fs.toArray++#[.func (.yield w0.heap.size) #[] #[]]++cs.toArray,w1,hent,?_,fun _ _=>trivial,?_,fun hc=>by simp[Fence.wide]at hc,?_⟩
      · have hm:Array.map a.eval #[Operand.const (.func (.yield w0.heap.size) #[] #[])]=#[.func (.yield w0.heap.size) #[] #[]]:=(by simp[Act.eval]);unfold resolve;simp only[hcg,hm];rfl
      · show (callFunc f (fs.toArray++#[.func (.yield w0.heap.size) #[] #[]]++cs.toArray)).run P w1=_;unfold callFunc;rw[az (run_program P w1)];simp only[hfn'];rw[hname',hb'];rfl
      · have h4 : CallsIn (fB rb) 0 P f (fs.toArray++#[.func (.yield w0.heap.size) #[] #[]]++cs.toArray) w1 _:=hcall Γ1 w1 _ R2 hargs;refine h4.mono ?_;rintro e w3 ⟨r,H',Γ',hend,hk,R',E',hn'⟩;have E5 : ZX Γ s.H w Γ' H' w3:=E3.trans hn1 E';have hn5 : s.H.A≤H'.A:=Wm hn1 hn';have mkS : ∀ (H'' : ZJ) (w4 : World),ZT P G Γ' H'' w4→ZX Γ s.H w Γ' H'' w4→ZX Γ s.H w0 Γ' H'' w4→s.H.A≤H''.A→Z4 P G n wb Γ' ⟨s.ρ,H''⟩ { a with defers:=mark++a.defers } w4 :=
          fun H'' w4 R'' E'' E0'' hn''=>⟨hs.size,fun t=>(hs.env t).bK E'' hn'',R'',hdef.bK E0'',Wm hs.low E''.size⟩
        cases e with
        |returned cv =>
          cases r with
          |panic=>exact hend.elim
          |ret v =>
            obtain⟨hri,pb,hpb,hj⟩:=hk;obtain⟨st,pend,n2,env2,ps2,asg2,body2,hgl,hbusy,rfl⟩:=Ld hpb;obtain⟨b,r2,hΓb,hb,l1,l2,l3,l4,l5,l6,l7,lset⟩:=wm R' hgl;obtain⟨R6,E6⟩:=lset .exhausted r2.pending;have hbl:b=w0.heap.size:=by
              obtain⟨x,hx,hle⟩:=E'.V s.H.A (W3 _) (VM (W3 _) hn') _ hgl;have hx':H1.get s.H.A=some (.loop .ready none n s.ρ ps asg body):=(by simp[H1]);rw[hx']at hx;cases hx;have h1:=hle.1;rw[hΓb]at h1;simp only[Γ1,if_true,Option.some.injEq,Prod.mk.injEq]at h1;exact h1.1
            subst hbl;have hend':=K7 (P:=P) hb (by rw[l1];exact hbusy);rw[l2]at R6 E6 hend';refine⟨pend,_,hend',?_⟩;have E7:=E5.trans hn5 E6;have hS:=mkS _ _ R6 E7 ((E2.trans hn1 E').trans hn5 E6) hn5;have hri':fZ (H'.upd s.H.A (.loop .exhausted pend n2 env2 ps2 asg2 body2)) rd:=by
              cases rd with
              |none=>trivial
              |some i =>
                obtain⟨st3,pend3,n3,env3,ps3,asg3,body3,h3⟩:=hri;by_cases hii:i=s.H.A
                · exact⟨_,_,_,_,_,_,_,by rw[af,VA hii]⟩
                · exact⟨_,_,_,_,_,_,_,by rw[af,Vx hii];exact h3⟩
            have hR:=hr.bK E7 hn5 hs.heap hri';have post:∀(e:Exit) (x:AX),yE e x->Q x ⟨s.ρ,H'.upd s.H.A (.loop .exhausted pend n2 env2 ps2 asg2 body2)⟩->iZ P G n wb rd rb (wr (.rangeFunc g ps asg body)) Γ s.H a w Q e { a with defers:=mark++a.defers } _ :=
              fun e x hx hq=>⟨x,_,Γ',hx,hq,hS,E7,hn5,hR,fun t _=>rfl⟩
            simp only at hj;cases pend with
            |none=>exact post .normal .normal trivial hj
            |some c =>
              cases c with
              |ret=>exact wpIn_ret (post .ret .ret trivial hj)
              |exit i=>exact wpIn_exit (post (.exit i) (.exit i) rfl hj)
              |goto i=>exact wpIn_goto (post (.goto i) (.goto i) rfl hj)
              |_=>exact hj.elim
        |panicked chain =>
          cases r with
          |ret v=>exact hend.elim
          |panic =>
            exact⟨.panic,_,Γ',hend,hk.2,mkS _ _ R' E5 (E2.trans hn1 E') hn5,E5,hn5,hr.bK E5 hn5 hs.heap hk.1,fun t _=>rfl⟩
        |outgrown=>cases r<;>exact hend.elim
  cases rb with
  |none =>
    let w0:World:={ w with heap:=w.heap.push (.deferred (some [])) }
    have hk0:∀b,b<w.heap.size->w0.heap[b]?=w.heap[b]?:=fun b hb=>by
      show (w.heap.push _)[b]?=_;rw[Yk,Vx O]
    obtain⟨E0,R0⟩:=yU (w:=w) (w':=w0) rfl rfl rfl (by simp[w0]) hk0 (fun a _=>ry (o:=.deferred (some [])) rfl (fun _ _ _ h=>by cases h) a) hs.heap;refine key w0 [{ target:=.collected w.heap.size,args:=#[] }] w.heap.size E0 R0 ?_ _ rfl rfl;obtain⟨m,hm,hmk⟩:=hs.defers;refine⟨{ target:=.collected w.heap.size,args:=#[] } :: m,by rw[hm];rfl,fun d hd=>?_,?_⟩
    · simp only[List.mem_cons]at hd;rcases hd with rfl|hd
      · refine⟨w.heap.size,rfl,hs.low,?_,by simp[w0]⟩;rintro⟨i,base,m,hi⟩;have:=hs.heap.lt _ _ _ _ hi;omega
      · obtain⟨r,h1,h2,h3⟩:=hmk.1 d hd;exact⟨r,h1,h2,h3.bK E0⟩
    · refine YJ.2 ⟨fun d hd=>?_,hmk.2⟩;obtain⟨r,h1,h2,h3⟩:=hmk.1 d hd;rw[h1];intro he;simp only[Target.collected.injEq]at he;have h4:=h3.2;rw[<- he,W1 ZI]at h4;cases h4
  |some b0 =>
    have hlr:∃r,w.heap[b0]?=some (.loop r):=by
      cases rd with
      |none=>cases hr
      |some id =>
        obtain⟨b,st,pend,n',env,ps',asg',body',h1,h2,h3⟩:=hr;obtain⟨b',r,h4,h5,_⟩:=hs.heap.loop _ _ _ _ _ _ _ _ h3;rw[h2]at h4;simp only[Option.some.injEq,Prod.mk.injEq]at h4 h1;rw[h1,h4.1];exact⟨r,h5⟩
    obtain⟨r,hlr⟩:=hlr;refine key w [] r.defers (ZX.refl _ _ _) hs.heap (by simpa using hs.defers) _ rfl ?_;show (Instr.enterLoop fn a.tmps ps asg body (some b0)).run P w=_;unfold Instr.enterLoop;simp only[bind_assoc,pure_bind];rw[az (tV hlr)];rfl
end
end Go.Hx
namespace Go.Hx
variable {P:Program} {G:Nat->Option (List ZK)} {Γ Γ':aH} {H H':ZJ} {w w':World}
variable {f:FuncId}{args args':List ZK}{v':ZK}
def cZ:ZJ:=⟨fun _=>none,0⟩
inductive Z7 (H:ZJ):ZK->ZK->Prop
 |lit (v:Value):Z7 H (.lit v) (.lit v)
 |nil:Z7 H (.lit (.slice none 0 0)) (.Q 0 [])
 |nu:Z7 H (.Q 0 []) (.Q 0 [])
 |agg {c c':List ZK} (hl:c'.length=c.length) (h:∀i (h:i<c.length) (h':i<c'.length),Z7 H c[i] c'[i]):Z7 H (.agg c) (.agg c')
 |nf {c c':List ZK} (hl:c'.length=c.length) (h:∀i (h:i<c.length) (h':i<c'.length),Z7 H c[i] c'[i]):Z7 H (.nf c) (.nf c')
 |U {id g o l z:Nat} {e:TypeId} {cells c':List ZK} (hg:H.get id=some (.J g e cells)) (hl:c'.length=l*z)
   (h:∀i (h:i<l*z) (h2:o+i<cells.length) (h':i<c'.length),Z7 H cells[o+i] c'[i]):Z7 H (.U id g o l z) (.Q l c')
def Z7.sound (R:ZT P G Γ' H' w){N:Nat}(h1:∀b,Γ'.iL b->N<=b)(h2:∀b,Γ.iL b->b<N){v:ZK}(hf:Z7 H' v v'):∀ {cv:Value},ZO P Γ' H' w v cv->ZO P Γ H w v' cv:=by
 induction hf with
 |lit v=>intro cv h;cases h;exact .lit _
 |nil=>intro cv h;cases h;exact .nu none 0
 |nu =>
  intro cv h;cases h with
  |nu a cap=>exact .nu a cap
  |Q hb hlt hlen hcs hcell hrel=>exact .nu _ _
 |agg hl hc ih =>
  intro cv h;cases h with
  |agg hcs hrel=>exact .agg O fun i a b=>ih i O a (hrel i O b)
 |nf hl hc ih =>
  intro cv h;cases h with
  |nf hcs hrel=>exact .nf O fun i a b=>ih i O a (hrel i O b)
 | @U id g o l z e cells c' hg hl hc ih =>
  intro cv h;cases h with
  |U h =>
   obtain⟨_,_,h0,h3⟩:=h;have h4:=(h3 _ _ _ hg).2 rfl;have harr:=R.J id g e cells hg;cases hΓ:Γ' id with
   |none =>
    rw[hΓ]at h4;obtain⟨rfl,rfl,rfl⟩:=h4;have:c'=[]:=VF (by simpa using hl);subst this;exact .nu _ _
   |some y =>
    obtain⟨b,base,n⟩:=y;rw[hΓ]at h4 harr;obtain⟨a,cap,rfl,hcap,hoff,hor⟩:=h4;obtain⟨c,a1,a2,a3,a4⟩:=harr;rcases hor with ⟨rfl,hn⟩|⟨rfl,rfl⟩
    ·have hcell:∀i,i<l*z->∃cv,c[base+(o+i)]?=some cv/\∀(h:o+i<cells.length),ZO P Γ' H' w cells[o+i] cv:=fun i hi=>by
      obtain⟨cv,b1,b2⟩:=a4 (o+i) O;exact⟨cv,b1,fun _=>b2⟩
     let cs:List Value:=(List.range (l*z)).map fun i=>(c[base+(o+i)]?).getD undef
     have hcs:cs.length=c'.length:=(by simp[cs,hl]);refine .Q (cs:=cs) (fun ho=>?_) (R.lt _ _ _ _ hΓ) hcap hcs (fun i hi=>?_) fun i hi hi'=>?_
     ·have:=h2 b ho;have:=h1 b ⟨id,base,n,hΓ⟩;omega
     ·have hi2:i<l*z:=(by rw[hcs,hl]at hi;exact hi);obtain⟨cv,b1,_⟩:=hcell i hi2;have:cs[i]=cv:=(by simp[cs,b1]);rw[this];have he:base+o+i=base+(o+i):=O;simp only[World.cell?,a1,he];exact b1
     ·have hi2:i<l*z:=(by rw[hl]at hi;exact hi);obtain⟨cv,b1,b2⟩:=hcell i hi2;have:cs[i]=cv:=(by simp[cs,b1]);rw[this];exact ih i hi2 O hi (b2 O)
    ·have:c'=[]:=VF (by simpa using hl);subst this;exact .nu _ _
def G5 (H:ZJ):FzH (fun _=>True) H cZ:=⟨fun _ _=>rfl,fun _ _ h=>absurd trivial h,fun _ h=>absurd trivial h⟩
def Bn (b:Nat):¬(gY (fun _=>True) Γ).iL b:=by
 rintro⟨id,base,n,h⟩;exact(mI h).1 trivial
def Bo (o:Option ZK)(r:ZP)(H':ZJ):Prop:=match o with
 |some v'=>∃v,r=.ret v/\Z7 H' v v'
 |none=>r=.panic
def Bp:Option ZK->ZP
 |some v=>.ret v
 |none=>.panic
def ag.G6 {o:Option ZK}(hG:gD G)(hl:args'.length=args.length)(hv:∀i (h:i<args.length) (h':i<args'.length),Fz (fun _=>True) H 0 args[i] args'[i])
  (h:ag P G f args' cZ (Bo o)):ag P G f args H fun r H'=>r=Bp o/\H'=H:=by
 refine⟨h.1,fun Γ w cargs R hr=>?_⟩;have F:=G5 H;have R0:ZT P G (gY (fun _=>True) Γ) cZ w:=F.rel hG R;have hr0:eE P (gY (fun _=>True) Γ) cZ w args' cargs:=⟨by have:=hr.1;omega,fun i h1 h2=>(hv i O h1).sound R F (hr.2 i O h2)⟩
 refine(h.2 _ w cargs R0 hr0).mono ?_;rintro e w' ⟨r,H',Γ',hend,hg,R',E,hn⟩;have hown:∀b,Γ'.iL b->w.heap.size<=b:=fun b hb=>Yu fun hlt=>(E.nc b hlt (Bn b)).2 hb;have hown2:∀b,Γ.iL b->b<w.heap.size:=fun b ⟨id,base,n,hb⟩=>R.lt _ _ _ _ hb;obtain⟨E2,R2⟩:=yU E.os E.tape E.output E.size (fun b hb=>(E.nc b hb (Bn b)).1) E.nz R;refine⟨Bp o,H,Γ,?_,⟨rfl,rfl⟩,R2,E2,ZI⟩;cases o with
 |some v' =>
  obtain⟨v,rfl,hf⟩:=hg;cases e with
  |returned cv=>exact hf.sound R' hown hown2 hend
  |_=>exact hend.elim
 |none =>
  have hg':r=.panic:=hg;subst hg';cases e with
  |panicked chain=>exact hend
  |_=>exact hend.elim
def ag.frame (hG:gD G)(hl:args'.length=args.length)(hv:∀i (h:i<args.length) (h':i<args'.length),Fz (fun _=>True) H 0 args[i] args'[i])
  (h:ag P G f args' cZ fun r H'=>∃v,r=.ret v/\Z7 H' v v'):ag P G f args H fun r H'=>r=.ret v'/\H'=H:=ag.G6 (o:=some v') hG hl hv h
end Go.Hx
namespace Go.Hx.Ev
open Go.Hx
variable {P:Program} {G:Nat->Option (List ZK)} {Γ Γ':aH} {H H':ZJ} {w w':World}
variable {r:Nat}{e g:Nat->Option ZQ}
def dP (e g:Nat->Option ZQ):Nat->Option ZQ:=fun j=>match e j with
 |some b=>some b
 |none=>g j
def pj (e:Option (Nat × ZQ)):Nat->Option ZQ:=fun j=>match e with
 |some (k,b)=>if j=k then some b else none
 |none=>none
def Bk (e:Option (Nat × ZQ))(g:Nat->Option ZQ):dP (pj e) g=fC e g:=by
 funext j
 cases e with
 |none=>rfl
 |some kb =>
  obtain⟨k,b⟩:=kb;simp only[dP,pj,fC];by_cases h:j=k
  ·rw[VA h,VA h]
  ·rw[Vx h,Vx h]
def rJ (P:Program)(G:Nat->Option (List ZK))(fv:ZK)(args:List ZK)(H:ZJ)(v:ZK)(e:Nat->Option ZQ)(k:Nat)(f:FP):Prop :=
 (∀r,r∈f.rs->r<H.A)/\(∀r,(e r).isSome=true->r∈f.nD/\((r∈f.rs/\∃g t c,H.get r=some (.J g t c))\/(H.A<=r/\r<H.A+k)))/\(∀c,c<k->(e (H.A+c)).isSome=true) /\
 ∀H2:ZJ,(∀r,r∈f.rs->H2.get r=H.get r)->(∀c,c<k->H2.get (H.A+c)=some .nt)->H.A+k<=H2.A->au P G fv args H2 fun r H3=>r=.ret v/\H3=⟨dP e H2.get,H2.A⟩
def bV (P:Program)(G:Nat->Option (List ZK))(o:Oper)(K:FP->St->Prop)(s:St):Prop :=
 match o.op with
 |.call { callee:=.value fv,args,.. }=>∃v e k f,rJ P G (ay G s.ρ fv) (args.toList.map (ay G s.ρ)) s.H v e k f/\K f ⟨aW s.ρ o.dst v,⟨dP e s.H.get,s.H.A+k⟩⟩
 |op=>bG (ar P G s.ρ s.H s.H.A op) fun vH=>K (da P G s.ρ s.H.A op) ⟨aW s.ρ o.dst vH.1,vH.2⟩
def eC (P:Program)(G:Nat->Option (List ZK))(all:Array Oper)(tail:St->Prop):List Nat->Nat->List (Nat × FP)->List Oper->St->Prop
 |b :: bs,i,acc,o :: rest,s=>bG (iu all s.ρ o) fun t=>if t=true then bV P G o (fun f s'=>jU b f acc/\eC P G all tail bs (i+1) (jc i f acc) rest s') s
   else eC P G all tail bs (i+1) acc rest ⟨aW s.ρ o.dst (.lit undef),s.H⟩
 |_,_,_,[],s=>tail s
 | [],_,_,_ :: _,_=>False
structure Dt where
 v:ZK
 e:Nat->Option ZQ
 al:Nat
 f:FP
def bJ (all:Array Oper)(d:Nat->Dt)(ρ0:Env):Nat->(Nat->Bool)->Env
 |0,_=>ρ0
 |n+1,D=>if D n then aW (bJ all d ρ0 n D) (iA all n) (d n).v else bJ all d ρ0 n D
def bh (d:Nat->Dt)(g0:Nat->Option ZQ):Nat->(Nat->Bool)->Nat->Option ZQ
 |0,_=>g0
 |n+1,D=>if D n then dP (d n).e (bh d g0 n D) else bh d g0 n D
def aQ (d:Nat->Dt):Nat->Nat
 |0=>0
 |n+1=>aQ d n+(d n).al
def eD (x:Dt)(r:Nat):Prop:=(x.e r).isSome=true
def po (h:¬(e r).isSome=true):dP e g r=g r:=by
 unfold dP;cases he:e r with
 |none=>rfl
 |some b=>rw[he]at h;exact absurd rfl h
def Bl {g':Nat->Option ZQ}(h:(e r).isSome=true):dP e g r=dP e g' r:=by
 unfold dP;cases he:e r with
 |none=>rw[he]at h;cases h
 |some b=>rfl
def yg {g':Nat->Option ZQ}(h:g r=g' r):dP e g r=dP e g' r:=by
 unfold dP;rw[h]
def GW {e':Nat->Option ZQ}(h:∀r,(e r).isSome=true->¬(e' r).isSome=true):dP e' (dP e g)=dP e (dP e' g):=by
 funext r
 by_cases hx:(e r).isSome=true
 ·rw[po (h r hx)];exact Bl hx
 ·rw[po (g:=dP e' g) hx];exact yg (po hx)
section
variable {all:Array Oper} {d d':Nat->Dt} {ρ0:Env} {g0 g0':Nat->Option ZQ} {D D':Nat->Bool}
def qp {t:Tmp}:∀ {n:Nat},(∀j,j<n->iA all j=some t->D j=D' j)->bJ all d ρ0 n D t=bJ all d ρ0 n D' t:=by
 intro n
 induction n with
 |zero=>intro _;rfl
 |succ n ih =>
  intro h;have h0:=ih fun j hj=>h j O;simp only[bJ];by_cases hd:iA all n=some t
  ·rw[h n O hd];split
   ·exact vS h0
   ·exact h0
  ·have:∀(b:Bool) (ρ:Env),(if b=true then aW ρ (iA all n) (d n).v else ρ) t=ρ t:=by
    intro b ρ;split
    ·exact rV hd
    ·rfl
   rw[this,this];exact h0
def yh {m:Nat}:∀ {n:Nat},m<=n->bJ all d ρ0 n (fun j=>decide (j<m))=bJ all d ρ0 m fun _=>true:=by
 have low:∀k,k<=m->bJ all d ρ0 k (fun j=>decide (j<m))=bJ all d ρ0 k fun _=>true:=by
  intro k
  induction k with
  |zero=>intro _;rfl
  |succ k ih =>
   intro hk;simp only[bJ];rw[ih O,VA (by simp;omega)];simp
 intro n
 induction n with
 |zero =>
  intro hm;obtain rfl:m=0:=O
  exact low 0 (O)
 |succ n ih =>
  intro hm;by_cases h:m=n+1
  ·subst h;exact low (n+1) (O)
  ·simp only[bJ];rw[Vx (by simp;omega)];exact ih (O)
def qq {r:Nat}:∀ {n:Nat},(∀j,j<n->eD (d j) r->D j=D' j)->bh d g0 n D r=bh d g0 n D' r:=by
 intro n
 induction n with
 |zero=>intro _;rfl
 |succ n ih =>
  intro h;have h0:=ih fun j hj=>h j O;simp only[bh];by_cases hd:eD (d n) r
  ·rw[h n O hd];split
   ·exact yg h0
   ·exact h0
  ·have:∀(b:Bool) (g:Nat->Option ZQ),(if b=true then dP (d n).e g else g) r=g r:=by
    intro b g;split
    ·exact po hd
    ·rfl
   rw[this,this];exact h0
def yi {m:Nat}:∀ {n:Nat},m<=n->bh d g0 n (fun j=>decide (j<m))=bh d g0 m fun _=>true:=by
 have low:∀k,k<=m->bh d g0 k (fun j=>decide (j<m))=bh d g0 k fun _=>true:=by
  intro k
  induction k with
  |zero=>intro _;rfl
  |succ k ih =>
   intro hk;simp only[bh];rw[ih O,VA (by simp;omega)];simp
 intro n
 induction n with
 |zero =>
  intro hm;obtain rfl:m=0:=O
  exact low 0 (O)
 |succ n ih =>
  intro hm;by_cases h:m=n+1
  ·subst h;exact low (n+1) (O)
  ·simp only[bh];rw[Vx (by simp;omega)];exact ih (O)
def tD {r:Nat}:∀ {n:Nat},(g0 r=g0' r\/∃j,j<n/\D j=true/\eD (d j) r)->bh d g0 n D r=bh d g0' n D r:=by
 intro n
 induction n with
 |zero =>
  rintro(h|⟨j,hj,_⟩)
  ·exact h
  ·omega
 |succ n ih =>
  intro h;simp only[bh];by_cases hD:D n=true
  ·rw[VA hD,VA hD];by_cases ht:eD (d n) r
   ·exact Bl ht
   ·refine yg (ih ?_);rcases h with h|⟨j,hj,h1,h2⟩
    ·exact .inl h
    ·by_cases hjn:j=n
     ·subst hjn;exact absurd h2 ht
     ·exact .inr ⟨j,O,h1,h2⟩
  ·rw[Vx hD,Vx hD];refine ih ?_;rcases h with h|⟨j,hj,h1,h2⟩
   ·exact .inl h
   ·by_cases hjn:j=n
    ·subst hjn;exact absurd h1 hD
    ·exact .inr ⟨j,O,h1,h2⟩
def yj {r:Nat}:∀ {n:Nat},(∀j,j<n->D j=true->¬eD (d j) r)->bh d g0 n D r=g0 r:=by
 intro n
 induction n with
 |zero=>intro _;rfl
 |succ n ih =>
  intro h;simp only[bh];split
  ·rename_i hD;rw[po (h n O hD)];exact ih fun j hj=>h j (O)
  ·exact ih fun j hj=>h j (O)
def cL (D:Nat->Bool)(i:Nat):Nat->Bool:=fun j=>if j=i then true else D j
def yk {i:Nat}(hD:D i=false):∀ {n:Nat},i<n->(∀j,i<j->j<n->D j=true->∀t,iA all i=some t->iA all j≠some t) ->
  bJ all d ρ0 n (cL D i)=aW (bJ all d ρ0 n D) (iA all i) (d i).v:=by
 intro n
 induction n with
 |zero=>intro h;omega
 |succ n ih =>
  intro hi h;by_cases hin:i=n
  ·subst hin;have h0:bJ all d ρ0 i (cL D i)=bJ all d ρ0 i D:=funext fun t=>qp fun j hj _=>by simp[cL,Yl hj]
   simp only[bJ];rw[VA (by simp[cL]),Vx (by simp[hD]),h0]
  ·have hw:cL D i n=D n:=(by simp[cL,Ne.symm hin]);have h0:=ih O fun j h1 h2=>h j h1 O;simp only[bJ,hw];split
   ·rename_i hDn;rw[h0];exact B9 (h n O O hDn)
   ·exact h0
def yl {i:Nat}(hD:D i=false):∀ {n:Nat},i<n->(∀j,i<j->j<n->D j=true->∀t,eD (d i) t->¬eD (d j) t) ->
  bh d g0 n (cL D i)=dP (d i).e (bh d g0 n D):=by
 intro n
 induction n with
 |zero=>intro h;omega
 |succ n ih =>
  intro hi h;by_cases hin:i=n
  ·subst hin;have h0:bh d g0 i (cL D i)=bh d g0 i D:=funext fun t=>qq fun j hj _=>by simp[cL,Yl hj]
   simp only[bh];rw[VA (by simp[cL]),Vx (by simp[hD]),h0]
  ·have hw:cL D i n=D n:=(by simp[cL,Ne.symm hin]);have h0:=ih O fun j h1 h2=>h j h1 O;simp only[bh,hw];split
   ·rename_i hDn;rw[h0];exact GW (h n O O hDn)
   ·exact h0
def rK {m n:Nat}(h:m<=n):aQ d m<=aQ d n:=by
 induction n with
 |zero =>
  have:m=0:=O
  subst this;exact Nat.le_refl _
 |succ n ih =>
  by_cases hm:m=n+1
  ·subst hm;exact Nat.le_refl _
  ·exact Wm (ih O) (by simp[aQ])
def tE {n c:Nat}(h:c<aQ d n):∃j,j<n/\aQ d j<=c/\c<aQ d j+(d j).al:=by
 induction n with
 |zero=>simp[aQ]at h
 |succ n ih =>
  by_cases hc:c<aQ d n
  ·obtain⟨j,h1,h2⟩:=ih hc;exact⟨j,O,h2⟩
  ·simp only[aQ]at h;exact⟨n,O,O,O⟩
def mH {i n:Nat}(h:i<n):aQ d i+(d i).al<=aQ d n:=by
 have:=rK (d:=d) (m:=i+1) (n:=n) h;simpa only[aQ] using this
def tF {n:Nat}(h:∀j,j<n->d j=d' j):bJ all d ρ0 n D=bJ all d' ρ0 n D:=by
 induction n with
 |zero=>rfl
 |succ n ih=>simp only[bJ];rw[ih fun j hj=>h j O,h n O]
def tG {n:Nat}(h:∀j,j<n->d j=d' j):bh d g0 n D=bh d' g0 n D:=by
 induction n with
 |zero=>rfl
 |succ n ih=>simp only[bh];rw[ih fun j hj=>h j O,h n O]
def gO {n:Nat}(h:∀j,j<n->d j=d' j):aQ d n=aQ d' n:=by
 induction n with
 |zero=>rfl
 |succ n ih=>simp only[aQ];rw[ih fun j hj=>h j O,h n O]
end
def ExecOk (P:Program)(G:Nat->Option (List ZK))(all:Array Oper)(o:Oper)(id:Nat)(s s':St):Prop :=
 (iu all s.ρ o=some false/\s'=⟨aW s.ρ o.dst (.lit undef),s.H⟩) \/
 (iu all s.ρ o=some true/\∃v,s'.ρ=aW s.ρ o.dst v /\
  (ar P G s.ρ s.H id o.op=some (v,s'.H) \/
   ∃fv args ats,o.op=.call ⟨.value fv,args,ats⟩/\(∀id st pend m env ps asg body,s.H.get id=some (.loop st pend m env ps asg body)->s'.H.get id=s.H.get id)/\au P G (ay G s.ρ fv) (args.toList.map (ay G s.ρ)) s.H fun r H3=>r=.ret v/\H3=s'.H))
def ym {n:Nat}{wb:nnb}{rd rb:Option Nat}{all:Array Oper}{o:Oper}{id i:Nat}{s s':St}{a:Act}{A:Act->World->Prop}{Q':Exit->Act->World->Prop}(ho:all[i]?=some o)(hd:gX n o=true)
  (hs:Z4 P G n wb Γ s a w) (hr:eW Γ s.H rd rb) (h:ExecOk P G all o id s s')
  (hnext:∀ Γ' a' w',Z4 P G n wb Γ' s' a' w'->ZX Γ s.H w Γ' s'.H w'->s.H.A<=s'.H.A->eW Γ' s'.H rd rb->(∃cv,a'=a.put o.dst cv)->A a' w'):
  wpOpIn (fB rb) 0 P all Q' i A a w:=by
 have hdst:∀d,o.dst=some d->d<n:=by
  intro d hd';unfold gX at hd;rw[hd']at hd;simpa using hd
 unfold wpOpIn;rw[ho];simp only;rcases h with ⟨hw,rfl⟩|⟨hw,v,hρ,h⟩
 ·rw[rO hs hw];simp only[Bool.false_eq_true,if_false];refine⟨fun _ _=>trivial,?_⟩;have hs':=lW (v:=.lit undef) (cv:=undef) hs hdst (ZX.refl Γ s.H w) ZI hs.heap (.lit _);exact hnext Γ _ w hs' (ZX.refl _ _ _) ZI hr ⟨_,rfl⟩
 ·rw[rO hs hw];simp only[if_true];obtain⟨ρ',H'⟩:=s';simp only at hρ;subst hρ;refine⟨fun _ _=>trivial,?_⟩;rcases h with hop|⟨fv,args,ats,hop,hH,hap⟩
  ·simp only at hop;rw[Oper.semAt_eq _ _ _ (fun c hc=>by rw[hc]at hop;simp[ar]at hop)];obtain⟨nx,cv,Γ',w',hrun,hnx,E,hn,R,hv⟩:=yB hs.heap (jR hs) hop;rw[hrun];have hri:=yF hr (yG hs.heap hop);have hs':=lW hs hdst E hn R hv;have hr':=hr.bK E hn hs.heap hri;rcases hnx with rfl|⟨rfl,rfl⟩
   ·exact hnext Γ' _ w' hs' E hn hr' ⟨_,rfl⟩
   ·exact hnext Γ' _ w' hs' E hn hr' ⟨_,rfl⟩
  ·rw[Oper.semAt_eq _ _ _ (fun c hc=>by rw[hc]at hop;cases hop)];obtain⟨d,h1,h2⟩:=hap Γ w (a.eval fv) (args.map a.eval) hs.heap (jR hs fv) ⟨ZF,fun i h1 h2=>by simp only[VO,XS,WE];exact jR hs _⟩;have hex:(execOp a.eval o).run P w=(invoke d.target d.args).run P w:=by
    unfold execOp;simp only[hop];unfold resolve;simp only;rw[az h1]
   have hri:fZ H' rd:=by
    cases rd with
    |none=>trivial
    |some id =>
     obtain⟨b,st,pend,n,env,ps,asg,body,_,_,h3⟩:=hr;exact⟨_,_,_,_,_,_,_,(hH _ _ _ _ _ _ _ _ h3).trans h3⟩
   have cont:∀e w',jS P G Γ s.H w (fun r H3=>r=.ret v/\H3=H') e w'->(match e with
     |.returned v=>A (a.put o.dst v) w'
     |.panicked chain=>Q' (.panic chain) a w'
     |.outgrown=>LetsOut Q'):=by
    rintro e w' ⟨r,H4,Γ',hend,⟨rfl,rfl⟩,R,E,hn⟩;have hr':=hr.bK E hn hs.heap hri;cases e with
    |returned cv=>exact hnext Γ' _ w' (lW hs hdst E hn R hend) E hn hr' ⟨_,rfl⟩
    |panicked chain=>exact hend.elim
    |outgrown=>exact hend.elim
   rw[hex];rcases h2 with ⟨f,as,h3,h4⟩|⟨l,f,tm,asg,body,h3,h4⟩|⟨cv,w',h3,h4⟩
   ·rw[h3];refine⟨fun hc=>by simp[Fence.wide]at hc,?_⟩;have h4':CallsIn (fB rb) 0 P f as w _:=h4;refine h4'.mono ?_;intro e w' hp;have:=cont e w' hp;cases e<;>exact this
   ·rw[h3];refine⟨fun hc=>by simp[Fence.wide]at hc,?_⟩;have h4':RoundIn (fB rb) 0 P l f tm asg body w _:=h4;refine h4'.mono ?_;intro e w' hp;have:=cont e w' hp;cases e<;>exact this
   ·rw[h3];exact cont (.returned cv) w' h4
def nL (d:Nat->Dt)(H0:ZJ)(m:Nat):ZJ:=⟨bh d H0.get m fun _=>true,H0.A+aQ d m⟩
def canon (all:Array Oper)(d:Nat->Dt)(s0:St)(m:Nat):St:=⟨bJ all d s0.ρ m fun _=>true,nL d s0.H m⟩
structure Z0 (P:Program)(G:Nat->Option (List ZK))(all:Array Oper)(bs:List Nat)(s0:St)(d:Nat->Dt)(i:Nat):Prop where
 step:∀o,all[i]?=some o->∀ ρ2 H2,(∀t,t∈o.looksAt all->ρ2 t=(canon all d s0 i).ρ t)->(∀r,r∈(d i).f.rs->H2.get r=(canon all d s0 i).H.get r) ->
  (∀c,c<(d i).al->H2.get (s0.H.A+aQ d i+c)=some .nt)->s0.H.A+aQ d i+(d i).al<=H2.A ->
  ExecOk P G all o (s0.H.A+aQ d i) ⟨ρ2,H2⟩ ⟨aW ρ2 o.dst (d i).v,⟨dP (d i).e H2.get,H2.A⟩⟩
 nD:∀r,eD (d i) r->r∈(d i).f.nD/\(r∈(d i).f.rs\/(s0.H.A+aQ d i<=r/\r<s0.H.A+aQ d i+(d i).al))
 al:∀c,c<(d i).al->eD (d i) (s0.H.A+aQ d i+c)
 lt:∀r,r∈(d i).f.rs->r<s0.H.A+aQ d i
 apart:∀j,j<i->(eY bs i).testBit j=false->(∀r,r∈(d i).f.nD->r ∉ (d j).f.rs)/\(∀r,r∈(d j).f.nD->r ∉ (d i).f.rs)
def cV (d:Nat->Dt)(m:Nat)(x:Dt):Nat->Dt:=fun j=>if j=m then x else d j
def iP {d:Nat->Dt}{m:Nat}{x:Dt}{i:Nat}(h:i<m):d i=cV d m x i:=by simp[cV,Yl h]
def dI {d:Nat->Dt}{m:Nat}{x:Dt}:cV d m x m=x:=by simp[cV]
def nM {all:Array Oper}{d d':Nat->Dt}{s0:St}{m:Nat}(h:∀j,j<m->d j=d' j):canon all d s0 m=canon all d' s0 m:=by
 unfold canon nL;rw[tF h,tG h,gO h]
def Z0.below {all:Array Oper}{bs:List Nat}{s0:St}{d d':Nat->Dt}{i:Nat}(g:Z0 P G all bs s0 d i)(h:∀j,j<=i->d j=d' j):Z0 P G all bs s0 d' i:=by
 have hi:=h i ZI;have hn:aQ d i=aQ d' i:=gO fun j hj=>h j O;have hc:canon all d s0 i=canon all d' s0 i:=nM fun j hj=>h j O;obtain⟨a,b,c,e,f⟩:=g;refine⟨?_,?_,?_,?_,?_⟩
 ·rw[<- hi,<- hn,<- hc];exact a
 ·rw[<- hi,<- hn];exact b
 ·rw[<- hi,<- hn];exact c
 ·rw[<- hi,<- hn];exact e
 ·intro j hj hb;rw[<- hi,<- h j O];exact f j hj hb
def lT (d:Nat->Dt)(m:Nat)(acc:List (Nat × FP)):Prop:=∀j,j<m->(d j).f=⟨[],[]⟩\/(j,(d j).f)∈acc
def lT.add {d:Nat->Dt}{m:Nat}{acc:List (Nat × FP)}(h:lT d m acc)(x:Dt):lT (cV d m x) (m+1) (jc m x.f acc):=by
 intro j hj;have key:∀p,p∈acc->p∈jc m x.f acc:=by
  intro p hp;unfold jc;split
  ·exact hp
  ·exact Xv _ hp
 by_cases hjm:j=m
 ·subst hjm;rw[dI];by_cases hf:x.f=⟨[],[]⟩
  ·exact .inl hf
  ·refine .inr ?_;unfold jc;split
   ·rename_i h0;exact absurd h0 hf
   ·exact YK
 ·rw[<- iP (x:=x) O];exact(h j O).imp id (key _)
def tH {d:Nat->Dt}{m:Nat}{acc:List (Nat × FP)}{b:Nat}{f:FP}(hc:lT d m acc)(h:jU b f acc):∀j,j<m->b.testBit j=false->(∀r,r∈f.nD->r ∉ (d j).f.rs)/\(∀r,r∈(d j).f.nD->r ∉ f.rs):=by
 intro j hj hb;rcases hc j hj with h0|h1
 ·rw[h0];exact⟨fun r _ h=>(by cases h),fun r h=>(by cases h)⟩
 ·exact h _ h1 hb
def qt {all:Array Oper}{d:Nat->Dt}{s0:St}{m:Nat}{x:Dt}{o:Oper}(ho:all[m]?=some o):
  canon all (cV d m x) s0 (m+1)=⟨aW (canon all d s0 m).ρ o.dst x.v,⟨dP x.e (canon all d s0 m).H.get,(canon all d s0 m).H.A+x.al⟩⟩:=by
 have hb:∀j,j<m->d j=cV d m x j:=fun j hj=>iP hj;unfold canon nL;simp only[bJ,bh,aQ,if_true,dI];rw[<- tF hb,<- tG hb,<- gO hb];simp only[iA,ho,Option.bind_some,W6]
def qu {all:Array Oper}{bs:List Nat}{s0:St}{d:Nat->Dt}{m:Nat}{x:Dt}(hg:∀i,i<m->Z0 P G all bs s0 d i)(hx:Z0 P G all bs s0 (cV d m x) m):
  ∀i,i<m+1->Z0 P G all bs s0 (cV d m x) i:=by
 intro i hi;by_cases him:i=m
 ·subst him;exact hx
 ·exact(hg i O).below fun j hj=>iP (O)
def trace {all:Array Oper}{bs:List Nat}{s0:St}{tail:St->Prop}{K:Nat}(hbs:bs.length=K)(hK:K<=all.size):∀(k m:Nat) (d:Nat->Dt) (acc:List (Nat × FP)),k+m=K ->
  (∀i,i<m->Z0 P G all bs s0 d i)->lT d m acc->iy (canon all d s0 m).H->eC P G all tail (bs.drop m) m acc ((all.toList.take K).drop m) (canon all d s0 m) ->
  ∃d',(∀i,i<K->Z0 P G all bs s0 d' i)/\tail (canon all d' s0 K):=by
 intro k
 induction k with
 |zero =>
  intro m d acc hm hg hc wf h;obtain rfl:m=K:=O
  refine⟨d,hg,?_⟩;have:(all.toList.take m).drop m=[]:=by
   apply Yy;simp only[VK];omega
  rw[this]at h;cases hb:bs.drop m with
  |nil=>rw[hb]at h;simpa only[eC] using h
  |cons b bs'=>rw[hb]at h;simpa only[eC] using h
 |succ k ih =>
  intro m d acc hm hg hc wf h;have hmK:m<K:=O
  have hms:m<all.size:=O
  have ho:all[m]?=some all[m]:=VL hms;have hbm:bs.drop m=eY bs m :: bs.drop (m+1):=by
   rw[Wt O];congr 1;simp[eY,Vz (show m<bs.length by omega)]
  have hom:(all.toList.take K).drop m=all[m] :: (all.toList.take K).drop (m+1):=by
   rw[Wt (by simp only[VK,Xm];omega)];congr 1;simp
  rw[hbm,hom]at h;simp only[eC]at h;obtain⟨t,ht,h⟩:=h;have hnext:(canon all d s0 m).H.A=s0.H.A+aQ d m:=rfl;cases t with
  |false =>
   simp only[Bool.false_eq_true,if_false]at h
   let x:Dt:=⟨.lit undef,fun _=>none,0,⟨[],[]⟩⟩
   have hb:∀j,j<m->d j=cV d m x j:=fun j hj=>iP hj;have hcan:canon all (cV d m x) s0 (m+1)=⟨aW (canon all d s0 m).ρ all[m].dst (.lit undef),(canon all d s0 m).H⟩:=qt ho;have hgx:Z0 P G all bs s0 (cV d m x) m:=by
    refine⟨?_,?_,?_,?_,?_⟩
    ·rw[dI,<- nM hb];intro o ho' ρ2 H2 h1 h2 h3 _;rw[ho]at ho';cases ho';refine .inl ⟨?_,rfl⟩;simp only;rw[rW h1,ht]
    ·rw[dI];intro k he;cases he
    ·rw[dI];intro c he;exact absurd he (VN _)
    ·rw[dI];intro r hr;cases hr
    ·rw[dI];intro j hj hbit;exact⟨fun r hr=>(by cases hr),fun r hr hr'=>(by cases hr')⟩
   refine ih (m+1) (cV d m x) acc O (qu hg hgx) (hc.add x) ?_ ?_
   ·rw[hcan];exact wf
   ·rw[hcan];exact h
  |true =>
   simp only[if_true]at h;unfold bV at h;split at h
   ·rename_i fv args ats hop;obtain⟨v,e,k,f,⟨hlt,heff,hnew,hcall⟩,hap,h⟩:=h
    let x:Dt:=⟨v,e,k,f⟩
    have hb:∀j,j<m->d j=cV d m x j:=fun j hj=>iP hj;have hcan:canon all (cV d m x) s0 (m+1)=⟨aW (canon all d s0 m).ρ all[m].dst v,⟨dP e (canon all d s0 m).H.get,(canon all d s0 m).H.A+k⟩⟩:=qt ho;have hgx:Z0 P G all bs s0 (cV d m x) m:=by
     refine⟨?_,?_,?_,?_,?_⟩
     ·rw[dI,<- nM hb,<- gO hb];intro o ho' ρ2 H2 h1 h2 h3 h4;rw[ho]at ho';cases ho';refine .inr ⟨?_,v,rfl,.inr ⟨fv,args,ats,hop,?_,?_⟩⟩
      ·simp only;rw[rW h1,ht]
      ·intro id st pend q env ps asg body hid;refine po fun hs=>?_;rcases(heff id hs).2 with ⟨hrs,g,t,c,hg⟩|⟨g1,g2⟩
       ·have e9:=h2 id hrs;simp only at hid;rw[hid,hg]at e9;cases e9
       ·obtain⟨c,rfl⟩:∃c,id=(canon all d s0 m).H.A+c:=⟨id-(canon all d s0 m).H.A,O⟩
        have e9:H2.get ((canon all d s0 m).H.A+c)=some .nt:=h3 c (show c<k by omega);simp only at hid;rw[hid]at e9;cases e9
      ·have hev:=vU (G:=G) h1;have e1:ay G ρ2 fv=ay G (canon all d s0 m).ρ fv:=hev fv (by simp[hop,Op.operands,Call.operands]);have e2:args.toList.map (ay G ρ2)=args.toList.map (ay G (canon all d s0 m).ρ) :=
        V1 fun y hy=>hev y (by simp only[hop,Op.operands,Call.operands];simp;exact .inr (by simpa using hy))
       simp only;rw[e1,e2];exact hcall H2 h2 h3 h4
     ·rw[dI,<- gO hb];intro r hr;exact⟨(heff r hr).1,(heff r hr).2.imp (fun h=>h.1) id⟩
     ·rw[dI,<- gO hb];exact hnew
     ·rw[dI,<- gO hb];exact hlt
     ·rw[dI];intro j hj hbit;rw[<- iP hj];exact tH hc hap j hj hbit
    refine ih (m+1) (cV d m x) _ O (qu hg hgx) (hc.add x) ?_ ?_
    ·rw[hcan];intro id b hid;show id<(canon all d s0 m).H.A+k;simp only at hid;by_cases hs:(e id).isSome=true
     ·rcases(heff id hs).2 with ⟨hrs,_⟩|⟨_,g2⟩
      ·have:=hlt id hrs;omega
      ·exact g2
     ·rw[po hs]at hid;have:=wf id b hid;omega
    ·rw[hcan];exact h
   ·obtain⟨⟨v,H'⟩,hop,hap,h⟩:=h;obtain⟨e,al,hget,hnx,heff,hal,hlt,hloc⟩:=B7 wf hop
    let x:Dt:=⟨v,pj e,(if al=true then 1 else 0),da P G (canon all d s0 m).ρ (canon all d s0 m).H.A all[m].op⟩
    have hb:∀j,j<m->d j=cV d m x j:=fun j hj=>iP hj;have hcan:canon all (cV d m x) s0 (m+1)=⟨aW (canon all d s0 m).ρ all[m].dst v,H'⟩:=by
     rw[qt ho];congr 1;cases H';simp only at hget hnx;simp only[ZJ.mk.injEq];refine⟨(Bk _ _).trans hget.symm,?_⟩;rw[hnx];simp only[x];cases al<;>simp
    have hgx:Z0 P G all bs s0 (cV d m x) m:=by
     refine⟨?_,?_,?_,?_,?_⟩
     ·rw[dI,<- nM hb,<- gO hb];intro o ho' ρ2 H2 h1 h2 h3 h4;rw[ho]at ho';cases ho';refine .inr ⟨?_,v,rfl,.inl ?_⟩
      ·simp only;rw[rW h1,ht]
      ·simp only;rw[B8 (ρ':=(canon all d s0 m).ρ) (vU h1),Bk];refine hloc H2 h2 fun ha=>?_;subst ha;have h5:=h3 0 (by simp[x]);simp only[x,if_true]at h4;refine⟨h5,?_⟩;rw[hnext];omega
     ·rw[dI,<- gO hb];intro r hr;unfold eD at hr;simp only[x,pj]at hr;cases he:e with
      |none=>rw[he]at hr;cases hr
      |some kb =>
       obtain⟨k0,b0⟩:=kb;rw[he]at hr;simp only at hr;by_cases hrk:r=k0
       ·subst hrk;obtain⟨h1,h2⟩:=heff r b0 he;refine⟨h1,?_⟩;cases hal2:al with
        |false=>exact .inl (h2 hal2)
        |true =>
         obtain⟨b1,hb1⟩:=hal hal2;rw[he]at hb1;simp only[Option.some.injEq,Prod.mk.injEq]at hb1;refine .inr ?_;simp only[x,hal2,if_true];rw[hnext]at hb1;omega
       ·rw[Vx hrk]at hr;cases hr
     ·rw[dI,<- gO hb];intro c hc2;cases hal2:al with
      |false=>simp[x,hal2]at hc2
      |true =>
       simp only[x,hal2,if_true]at hc2;obtain⟨b1,hb1⟩:=hal hal2;obtain rfl:c=0:=O;unfold eD;simp only[x,pj,hb1,Nat.add_zero];rw[hnext];simp
     ·rw[dI,<- gO hb];exact hlt
     ·rw[dI];intro j hj hbit;rw[<- iP hj];exact tH hc hap j hj hbit
    have wf':iy H':=by
     intro id b hid;rw[hget]at hid;rw[hnx];cases e with
     |none =>
      have:=wf id b hid;split<;>omega
     |some kb =>
      obtain⟨k0,b0⟩:=kb;simp only[fC]at hid;split at hid
      ·rename_i hk;subst hk;cases al with
       |true =>
        obtain⟨b1,hb1⟩:=hal rfl;simp only[Option.some.injEq,Prod.mk.injEq]at hb1;simp only[if_true];omega
       |false =>
        have:=hlt _ ((heff id b0 rfl).2 rfl);simpa using this
      ·have:=wf id b hid;split<;>omega
    refine ih (m+1) (cV d m x) _ O (qu hg hgx) (hc.add x) ?_ ?_
    ·rw[hcan];exact wf'
    ·rw[hcan];exact h
end Go.Hx.Ev
namespace Go.Hx.Ev
open Go.Hx
variable {P:Program} {G:Nat->Option (List ZK)} {Γ Γ':aH} {H H':ZJ} {w w':World}
variable {D:Nat->Bool}{d:Nat->Dt}{s0:St}
def bR (all:Array Oper)(d:Nat->Dt)(s0:St)(K:Nat)(D:Nat->Bool):St :=
 ⟨bJ all d s0.ρ K D,⟨bh d (cC s0.H (aQ d K)).get K D,s0.H.A+aQ d K⟩⟩
def yn {all:Array Oper}{bs:List Nat}{K:Nat}(S:nnf all bs K)(hg:∀i,i<K->Z0 P G all bs s0 d i){i:Nat}{o:Oper}(hi:i<K)(ho:all[i]?=some o)(hDi:D i=false)
  (hdown:∀j,j<i->(eY bs i).testBit j=true->D j=true) (hup:∀j,i<j->j<K->D j=true->(eY bs j).testBit i=false):
  ExecOk P G all o (s0.H.A+aQ d i) (bR all d s0 K D) (bR all d s0 K (cL D i)):=by
 have hget:∀j,j<K->∃oj,all[j]?=some oj:=fun j hj=>⟨_,VL (VM hj S.le)⟩
 have hgi:=hg i hi;have tgtE:∀j r,j<K->eD (d j) r->r∈(d j).f.nD/\(r∈(d j).f.rs\/(s0.H.A+aQ d j<=r/\r<s0.H.A+aQ d j+(d j).al)):=fun j r hj ht=>(hg j hj).nD r ht;have rangeK:∀r,r<s0.H.A+aQ d i->((cC s0.H (aQ d K)).get r=s0.H.get r\/∃j,j<i/\(fun _:Nat=>true) j=true/\eD (d j) r):=by
  intro r hr;by_cases h:s0.H.A<=r
  ·obtain⟨j,h1,h2,h3⟩:=tE (d:=d) (n:=i) (c:=r-s0.H.A) O;have:=(hg j O).al (r-s0.H.A-aQ d j) O;rw[show s0.H.A+aQ d j+(r-s0.H.A-aQ d j)=r by omega]at this;exact .inr ⟨j,h1,rfl,this⟩
  ·left;simp only[cC];rw[Vx O]
 have henv:∀t,t∈o.looksAt all->bJ all d s0.ρ K D t=(canon all d s0 i).ρ t:=by
  intro t ht;show _=bJ all d s0.ρ i (fun _=>true) t;rw[<- yh (all:=all) (d:=d) (ρ0:=s0.ρ) (m:=i) (n:=K) O];refine qp fun j hj hdj=>?_;obtain⟨oj,hoj⟩:=hget j hj;rw[py hoj]at hdj;rcases Xh j i with h|rfl|h
  ·cases hb:(eY bs i).testBit j with
   |true=>rw[hdown j h hb];simp[h]
   |false=>exact absurd ht ((rX (S.apart i j o oj hi h ho hoj hb)).1 t hdj)
  ·rw[hDi];simp
  ·cases hD:D j with
   |false=>symm;simp;omega
   |true=>exact absurd ht ((rX (S.apart j i oj o hj h hoj ho (hup j h hj hD))).2.1 t hdj)
 have hheap:∀r,r∈(d i).f.rs->bh d (cC s0.H (aQ d K)).get K D r=(canon all d s0 i).H.get r:=by
  intro r hr;show _=bh d s0.H.get i (fun _=>true) r;rw[<- tD (g0:=(cC s0.H (aQ d K)).get) (rangeK r (hgi.lt r hr)),<- yi (m:=i) (n:=K) O];refine qq fun j hj ht=>?_;obtain⟨he,_⟩:=tgtE j r hj ht;rcases Xh j i with h|rfl|h
  ·cases hb:(eY bs i).testBit j with
   |true=>rw[hdown j h hb];simp[h]
   |false=>exact absurd hr ((hgi.apart j h hb).2 r he)
  ·rw[hDi];simp
  ·cases hD:D j with
   |false=>symm;simp;omega
   |true=>exact absurd hr (((hg j hj).apart i h (hup j h hj hD)).1 r he)
 have hal:∀c,c<(d i).al->bh d (cC s0.H (aQ d K)).get K D (s0.H.A+aQ d i+c)=some .nt:=by
  intro c hc;have hlt:=mH (d:=d) hi;have heff:=(hgi.nD _ (hgi.al c hc)).1;rw[yj]
  ·simp only[cC];rw[VA O]
  ·intro j hj hD ht;obtain⟨h1,h2⟩:=tgtE j _ hj ht;rcases Xh j i with h|rfl|h
   ·rcases h2 with h3|⟨h2,h3⟩
    ·have:=(hg j hj).lt _ h3;have:=rK (d:=d) (XW h);omega
    ·have:=mH (d:=d) h;omega
   ·rw[hDi]at hD;cases hD
   ·rcases h2 with h3|⟨h2,h3⟩
    ·exact absurd h3 (((hg j hj).apart i h (hup j h hj hD)).2 _ heff)
    ·have:=mH (d:=d) h;omega
 have:=hgi.step o ho (bJ all d s0.ρ K D) ⟨bh d (cC s0.H (aQ d K)).get K D,s0.H.A+aQ d K⟩ henv hheap hal (by have:=mH (d:=d) hi;simp only;omega);have e1:bJ all d s0.ρ K (cL D i)=aW (bJ all d s0.ρ K D) o.dst (d i).v:=by
  rw[yk hDi hi,py ho];intro j h hj hD t hti;obtain⟨oj,hoj⟩:=hget j hj;rw[py ho]at hti;rw[py hoj];exact(rX (S.apart j i oj o hj h hoj ho (hup j h hj hD))).2.2 t hti
 have e2:bh d (cC s0.H (aQ d K)).get K (cL D i)=dP (d i).e (bh d (cC s0.H (aQ d K)).get K D):=by
  refine yl hDi hi fun j h hj hD r hti htj=>?_;obtain⟨a1,a2⟩:=tgtE i r hi hti;obtain⟨b1,b2⟩:=tgtE j r hj htj;obtain⟨c1,c2⟩:=(hg j hj).apart i h (hup j h hj hD);rcases b2 with b3|⟨b2,b3⟩
  ·exact c2 r a1 b3
  ·rcases a2 with a3|⟨a2,a3⟩
   ·exact c1 r b1 a3
   ·have:=mH (d:=d) h;omega
 unfold bR;rw[e1,e2];exact this
def tI {all:Array Oper}{bs:List Nat}{K:Nat}(hg:∀i,i<K->Z0 P G all bs s0 d i)(hD:∀j,j<K->D j=true):bR all d s0 K D=canon all d s0 K:=by
 unfold bR canon nL;have e1:bJ all d s0.ρ K D=bJ all d s0.ρ K fun _=>true:=funext fun t=>qp fun j hj _=>hD j hj;have e2:bh d (cC s0.H (aQ d K)).get K D=bh d s0.H.get K fun _=>true:=by
  funext r
  rw[qq (D':=fun _=>true) fun j hj _=>hD j hj];refine tD ?_;by_cases h:s0.H.A<=r/\r<s0.H.A+aQ d K
  ·obtain⟨j,h1,h2,h3⟩:=tE (d:=d) (n:=K) (c:=r-s0.H.A) O;have:=(hg j h1).al (r-s0.H.A-aQ d j) O;rw[show s0.H.A+aQ d j+(r-s0.H.A-aQ d j)=r by omega]at this;exact .inr ⟨j,h1,rfl,this⟩
  ·left;simp only[cC];rw[Vx h]
 rw[e1,e2]
def yo {all:Array Oper}{K:Nat}(hD:∀j,j<K->D j=false):bR all d s0 K D=⟨s0.ρ,cC s0.H (aQ d K)⟩:=by
 unfold bR;have e1:∀n,n<=K->bJ all d s0.ρ n D=s0.ρ:=by
  intro n
  induction n with
  |zero=>intro _;rfl
  |succ n ih=>intro h;simp only[bJ];rw[Vx (by simp[hD n h])];exact ih (O)
 have e2:∀n,n<=K->bh d (cC s0.H (aQ d K)).get n D=(cC s0.H (aQ d K)).get:=by
  intro n
  induction n with
  |zero=>intro _;rfl
  |succ n ih=>intro h;simp only[bh];rw[Vx (by simp[hD n h])];exact ih (O)
 rw[e1 K ZI,e2 K ZI];rfl
variable {n:Nat} {wb:nnb} {rd rb:Option Nat} {Q:AX->St->Prop} {all:Array Oper} {bs:List Nat} {K:Nat} {id:Nat} {dr:Bool}
def yp (S:nnf all bs K)(hfit:∀o,o∈all.toList->gX n o=true)(hg:∀i,i<K->Z0 P G all bs s0 d i)(htail:opsV P G rd Q all (all.toList.drop K) (canon all d s0 K)):
  ∀(r:Nat) (listed:Array Bool) (D:Nat->Bool) (Γ:aH) (a:Act) (w:World),listed.size=all.size->gu listed all.size=r->(∀j,j<all.size->listed.getD j true=D j)->(∀j,D j=true->j<K)->vZ all D ->
  Z4 P G n wb Γ (bR all d s0 K D) a w->eW Γ (bR all d s0 K D).H rd rb ->
  ∀(Q':Exit->Act->World->Prop),(∀e a' w',iZ P G n wb rd rb (wr (.region id all dr)) Γ (bR all d s0 K D).H a w Q e a' w'->Q' e a' w')->wpAnyIn (fB rb) 0 P .any all Q' r listed a w:=by
 intro r
 induction r with
 |zero =>
  intro listed D Γ a w hsz hc hl hlow hL hs hr Q' hq;have hall:∀j,j<K->D j=true:=fun j hj=>by rw[<- hl j (VM hj S.le)];exact v7 hc j (VM hj S.le)
  have hKs:K=all.size:=by
   rcases VV K all.size with h|h
   ·have h1:=v7 hc K h;rw[hl K h]at h1;have:=hlow K h1;omega
   ·have:=S.le;omega
  rw[tI hg hall]at hs hr hq;exact we S hfit 0 K listed _ Γ a w O ZI hsz hc (fun j hj=>by rw[hl j hj];exact⟨hlow j,hall j⟩) htail hs hr Q' hq
 |succ r ih =>
  intro listed D Γ a w hsz hc hl hlow hL hs hr Q' hq;by_cases hall:∀j,j<K->D j=true
  ·rw[tI hg hall]at hs hr hq;have hcount:∀m,m<=all.size->gu listed m=m-K:=by
    intro m
    induction m with
    |zero=>intro _;simp[gu]
    |succ m ihm =>
     intro hm;simp only[gu];rw[ihm O,hl m O];by_cases hmK:m<K
     ·rw[hall m hmK];simp;omega
     ·have:D m=false:=by
       cases hD:D m with
       |false=>rfl
       |true=>exact absurd (hlow m hD) hmK
      rw[this];simp;omega
   have h1:=hcount all.size ZI;exact we S hfit (r+1) K listed _ Γ a w (by have:=S.le;omega) ZI hsz hc (fun j hj=>by rw[hl j hj];exact⟨hlow j,hall j⟩) htail hs hr Q' hq
  ·have hex:∃j,j<K/\D j=false:=by
    by_cases h:∃j,j<K/\D j=false
    ·exact h
    ·refine absurd (fun j hj=>?_) hall;cases hD:D j with
     |true=>rfl
     |false=>exact absurd ⟨j,hj,hD⟩ h
   have least:∀k,(∃j,j<k/\j<K/\D j=false)->∃j,j<K/\D j=false/\∀i,i<j->D i=true:=by
    intro k
    induction k with
    |zero=>rintro⟨j,hj,_⟩;omega
    |succ k ihk =>
     rintro⟨j,h1,h2,h3⟩;by_cases h:∃j,j<k/\j<K/\D j=false
     ·exact ihk h
     ·refine⟨j,h2,h3,fun i hi=>?_⟩;cases hD:D i with
      |true=>rfl
      |false=>exact absurd ⟨i,O,O,hD⟩ h
   obtain⟨j0,hj0K,hj0,hbelow⟩:=least K (let ⟨j,h1,h2⟩:=hex;⟨j,h1,h1,h2⟩);have hj0s:j0<all.size:=VM hj0K S.le;have hr0:j0∈Region.ready .any all listed:=by
    refine mem_ready.2 ⟨by rw[hl j0 hj0s];exact hj0,_,VL hj0s,fun e he hb=>?_⟩;have hlt:=S.down j0 _ (VL hj0s) e he hb;rw[qz O false true,hl e.on O];exact hbelow _ hlt
   refine⟨fun h0=>(by rw[h0]at hr0;cases hr0),fun i hi=>?_⟩;obtain⟨hiun,oi,hoi,hdir⟩:=mem_ready.1 hi;have his:=(WX.1 hoi).1;have hdirD:∀e,e∈oi.after->Region.binds .any e=true->D e.on=true:=fun e he hb=>by
    have:=S.down i oi hoi e he hb;rw[<- hl e.on O,<- qz O false true];exact hdir e he hb
   have hahead:=S.ahead hL i oi;have hiK:i<K:=by
    rcases VV i K with h|h
    ·exact h
    ·have:=hahead j0 hoi hdirD (by rw[Vx O];omega);rw[hj0]at this;cases this
   have hDi:D i=false:=(by rw[<- hl i his];exact hiun);have hex:=yn (P:=P) (G:=G) S hg hiK hoi hDi (fun j hj hb=>hahead j hoi hdirD (by rw[VA hiK];exact hb)) (fun j h1 h2 hD=>by
    cases hb:(eY bs j).testBit i with
    |false=>rfl
    |true =>
     have hjs:j<all.size:=VM h2 S.le;have:=S.ahead hL j _ i (VL hjs) (fun e he hbe=>hL j _ hD (VL hjs) e he hbe) (by rw[VA h2];exact hb);rw[hDi]at this;cases this)
   have hoi':oi=all[i]:=by
    rw[VL his]at hoi;exact(Option.some.inj hoi).symm
   refine ym hoi (hfit oi (by rw[hoi'];simp)) hs hr hex ?_;rintro Γ' a' w' hs' E hn hr' ⟨cv,rfl⟩;have hc':gu (listed.setIfInBounds i true) all.size=r:=by
    have:=yR hiun all.size;rw[VA his]at this;omega
   refine ih (listed.setIfInBounds i true) (cL D i) Γ' _ w' (by simpa using hsz) hc' ?_ ?_ ?_ hs' hr' Q' fun e a'' w'' hp=>hq _ _ _ (hp.step E hn (by rw[hoi'];exact rP his cv) fun _ h=>h)
   ·intro j hj;by_cases hji:j=i
    ·subst hji;simp[cL]
    ·rw[getD_set_ne true (Ne.symm hji),hl j hj];simp[cL,hji]
   ·intro j hj;by_cases hji:j=i
    ·subst hji;exact hiK
    ·simp only[cL,Vx hji]at hj;exact hlow j hj
   ·intro k ok hk hok e he hb;by_cases hki:k=i
    ·subst hki;rw[hoi]at hok;cases hok;have:=hdirD e he hb;simp only[cL];split
     ·rfl
     ·exact this
    ·simp only[cL,Vx hki]at hk;have:=hL k ok hk hok e he hb;simp only[cL];split
     ·rfl
     ·exact this
def W.GX {s:St}(K:Nat)(bs:List Nat)(hm:P.follows .mixedOrders=true)(hfit:all.toList.all (gX n)=true)(hst:tQ all bs K=true)
  (h:eC P G all (opsV P G rd Q all (all.toList.drop K)) bs 0 [] (all.toList.take K) s):W P G n rd (.region id all true) Q s:=by
 intro wb Γ a w rb hs hr;have S:=Ci hst;have hfit':∀o,o∈all.toList->gX n o=true:=fun o ho=>VZ.1 hfit o ho;have wf:iy s.H:=fun id b hb=>hs.heap.A id b hb;have hcan0:canon all (fun _=>⟨.lit undef,fun _=>none,0,⟨[],[]⟩⟩) s 0=s:=rfl;obtain⟨d,hg,htail⟩:=trace (P:=P) (G:=G) (all:=all) (bs:=bs) (s0:=s) (tail:=opsV P G rd Q all (all.toList.drop K)) S.len S.le K 0 (fun _=>⟨.lit undef,fun _=>none,0,⟨[],[]⟩⟩) [] (O)
  (fun i hi=>O) (fun j hj=>O) (by rw[hcan0];exact wf) (by rw[hcan0];exact h)
 refine wpIn_region_any hm ?_
 let w1:World:={ w with drawn:=w.drawn+1 }
 have R1:ZT P G Γ s.H w1:=hs.heap.move rfl (rY w) ZI (fun id b hb=>.inl hb) fun id b hb=>hb;have hs1:Z4 P G n wb Γ s a w1:=hs.move (rY w) ZI R1;have hs2:Z4 P G n wb Γ ⟨s.ρ,cC s.H (aQ d K)⟩ a w1:=hs1.move (tT _ _) (by simp[cC]) (Ck R1 _);have hr2:eW Γ (cC s.H (aQ d K)) rd rb:=hr.move fun id b hb=>by
  simp only[cC];rw[Vx]
  ·exact hb
  ·have:=hs.heap.A id b hb;omega
 have e0:bR all d s K (fun _=>false)=⟨s.ρ,cC s.H (aQ d K)⟩:=yo fun _ _=>rfl;refine yp (wb:=wb) (id:=id) (dr:=true) S hfit' hg htail all.size _ (fun _=>false) Γ a w1 ZF (Cl _ ZI) ?_ ?_ ?_ ?_ ?_ _ ?_
 ·intro j hj;rw[Wu,XX,VA hj];rfl
 ·intro j hj;cases hj
 ·intro i o hi;cases hi
 ·rw[e0];exact hs2
 ·rw[e0];exact hr2
 ·rw[e0];intro e a' w' hp;refine hp.step ?_ (by simp[cC]) (.refl _ _) fun _ h=>h;exact ZX.trans (rY w) ZI (tT _ _)
end Go.Hx.Ev
namespace Go.Hx.Ev
open Go.Hx
variable {P:Program} {G:Nat->Option (List ZK)} {Γ Γ':aH} {H H':ZJ} {w w':World}
variable {K:Nat->Prop}{v:ZK}
inductive Cln (K:Nat->Prop):ZK->Prop
 |lit (v:Value):Cln K (.lit v)
 |nil:Cln K (.Q 0 [])
 |agg {c:List ZK} (h:∀i (h:i<c.length),Cln K c[i]):Cln K (.agg c)
 |nf {c:List ZK} (h:∀i (h:i<c.length),Cln K c[i]):Cln K (.nf c)
 |Z {f:FuncId} {a b:List ZK} (h1:∀i (h:i<a.length),Cln K a[i]) (h2:∀i (h:i<b.length),Cln K b[i]):Cln K (.Z f a b)
 |U {id g o l z:Nat} (h:K id):Cln K (.U id g o l z)
 |M {id g o:Nat} (h:K id):Cln K (.M id g o)
def Cln.mono {K':Nat->Prop}(h:Cln K v)(hk:∀id,K id->K' id):Cln K' v:=by
 induction h with
 |lit v=>exact .lit v
 |nil=>exact .nil
 |agg _ ih=>exact .agg ih
 |nf _ ih=>exact .nf ih
 |Z _ _ ih1 ih2=>exact .Z ih1 ih2
 |U h=>exact .U (hk _ h)
 |M h=>exact .M (hk _ h)
def Cln.fz {S:Nat->Prop}{nx:Nat}(h:Cln (fun id=>¬S id/\id<nx) v):Fz S H nx v v:=by
 induction h with
 |lit v=>exact .lit v
 |nil=>exact .Q rfl fun i h=>absurd h (VN _)
 |agg _ ih=>exact .agg rfl fun i h _=>ih i h
 |nf _ ih=>exact .nf rfl fun i h _=>ih i h
 |Z _ _ ih1 ih2=>exact .Z rfl rfl (fun i h _=>ih1 i h) fun i h _=>ih2 i h
 |U h=>exact .U h.2 h.1
 |M h=>exact .M h.2 h.1
def Cln.sound {Γ₁ Γ₂:aH}{H₁ H₂:ZJ}(hK:∀id,K id->H₂.get id=H₁.get id/\Γ₂ id=Γ₁ id)(hn:H₁.A<=H₂.A)(h:Cln K v):
  ∀ {cv:Value},ZO P Γ₁ H₁ w v cv->ZO P Γ₂ H₂ w v cv:=by
 induction h with
 |lit v=>intro cv h;cases h;exact .lit _
 |nil =>
  intro cv h;cases h with
  |nu a cap=>exact .nu a cap
  |Q hb hlt hlen hcs hcell hrel=>exact .nu _ _
 |agg _ ih=>intro cv h;cases h with|agg hcs hrel=>exact .agg hcs fun i h1 h2=>ih i h1 (hrel i h1 h2)
 |nf _ ih=>intro cv h;cases h with|nf hcs hrel=>exact .nf hcs fun i h1 h2=>ih i h1 (hrel i h1 h2)
 |Z _ _ ih1 ih2=>intro cv h;cases h with|Z hfs hcs hf hc=>exact .Z hfs hcs (fun i h1 h2=>ih1 i h1 (hf i h1 h2)) fun i h1 h2=>ih2 i h1 (hc i h1 h2)
 |U h =>
  intro cv hv;cases hv with
  |U hv =>
   obtain⟨a,b,c,d⟩:=hv;obtain⟨e1,e2⟩:=hK _ h;refine .U ⟨O,b,by rw[e1];exact c,fun g e cells hg=>?_⟩;rw[e1]at hg;rw[e2];exact d g e cells hg
 |M h =>
  intro cv hv;cases hv with
  |M hv =>
   obtain⟨a,b,c,d⟩:=hv;obtain⟨e1,e2⟩:=hK _ h;refine .M ⟨O,b,by rw[e1];exact c,fun g e cells hg=>?_⟩;rw[e1]at hg;rw[e2];exact d g e cells hg
def ki (lo hi:Nat)(lv:Nat->Bool)(g:Nat->Option ZQ):Nat->Option ZQ:=fun id=>if lo<=id/\id<hi then (if lv id=true then g id else some (.J 0 0 [])) else none
def rL (lo hi:Nat):List Nat:=(List.range (hi-lo)).map (·+lo)
def GY {lo hi r:Nat}(h1:lo<=r)(h2:r<hi):r∈rL lo hi:=by
 unfold rL;rw[VI];exact⟨r-lo,by rw[VP];omega,O⟩
open Classical in
def rJ.mk {f:FuncId}{first cap args args':List ZK}(Hs Hs':ZJ)(kp:Nat->Prop)(lv:Nat->Bool)(rs:List Nat)(hG:gD G)
  (hrs:∀r,r∈rs->r<H.A) (hnx:Hs.A=H.A) (hle:Hs.A<=Hs'.A)
  (hkp:∀id,kp id->id∈rs/\Hs.get id=H.get id/\Hs'.get id=H.get id/\∃g e c,H.get id=some (.J g e c)/\∀i (h:i<c.length),Cln kp c[i])
  (hgone:∀id,¬kp id->Hs.get id=none)
  (hl:args'.length=(first++args++cap).length)
  (hargs:∀H2:ZJ,(∀r,r∈rs->H2.get r=H.get r)->∀i (h:i<(first++args++cap).length) (h':i<args'.length),Fz (fun id=>¬kp id) H2 H.A (first++args++cap)[i] args'[i])
  (hcall:ag P G f args' Hs fun r H'=>r=.ret v/\H'=Hs')
  (hv:Cln (fun id=>kp id\/(H.A<=id/\id<Hs'.A/\lv id=true)) v)
  (hnew:∀id,H.A<=id->id<Hs'.A->lv id=true->∃g e c,Hs'.get id=some (.J g e c)/\∀i (h:i<c.length),Cln (fun id=>kp id\/(H.A<=id/\id<Hs'.A/\lv id=true)) c[i]):
  rJ P G (.Z f first cap) args H v (ki H.A Hs'.A lv Hs'.get) (Hs'.A-H.A) ⟨rL H.A Hs'.A,rs⟩:=by
 have hsome:∀id,H.A<=id->id<Hs'.A->(ki H.A Hs'.A lv Hs'.get id).isSome=true:=by
  intro id h1 h2;unfold ki;rw[VA ⟨h1,h2⟩];split
  ·rename_i h3;obtain⟨g,e,c,h4,_⟩:=hnew id h1 h2 h3;rw[h4];rfl
  ·rfl
 have hout:∀id,(ki H.A Hs'.A lv Hs'.get id).isSome=true->H.A<=id/\id<Hs'.A:=by
  intro id h;unfold ki at h;split at h
  ·assumption
  ·cases h
 refine⟨hrs,fun r hr=>?_,fun c hc=>hsome _ O O,?_⟩
 ·obtain⟨h1,h2⟩:=hout r hr;exact⟨GY h1 h2,.inr ⟨h1,O⟩⟩
 intro H2 hag hres hn2;refine au.Z ⟨hcall.1,fun Γ w cargs R hr=>?_⟩
 let S:Nat->Prop:=fun id=>¬kp id
 have kpO:∀id,¬S id->kp id:=fun id h=>V2 h;have hkH2:∀id,kp id->H2.get id=H.get id:=fun id h=>hag id (hkp id h).1;have hlow:∀id,kp id->id<H.A:=fun id h=>hrs id (hkp id h).1;have F:FzH S H2 Hs:=by
  refine⟨fun id hs=>hgone id hs,fun id b hs hb=>?_,fun id hs hb=>?_⟩
  ·have hk:=kpO id hs;obtain⟨h1,h2,h3,g,e,c,h4,h5⟩:=hkp id hk;rw[hkH2 id hk,h4]at hb;cases hb;refine⟨by rw[hnx];exact hlow id hk,.J g e c,by rw[h2,h4],rfl,rfl,rfl,fun i hi _=>?_⟩;exact((h5 i hi).mono fun id hk=>⟨fun hs=>hs hk,by rw[hnx];exact hlow id hk⟩).fz
  ·have hk:=kpO id hs;obtain⟨h1,h2,h3,g,e,c,h4,h5⟩:=hkp id hk;rw[hkH2 id hk,h4]at hb;cases hb
 have R0:ZT P G (gY S Γ) Hs w:=F.rel hG R;have hr0:eE P (gY S Γ) Hs w args' cargs:=⟨by have:=hr.1;omega,fun i h1 h2=>(by
  have:=hargs H2 hag i O h1;rw[<- hnx]at this;exact this.sound R F (hr.2 i O h2))⟩
 refine(hcall.2 _ w cargs R0 hr0).mono ?_;rintro e w' ⟨r,H',Γ',hend,⟨rfl,rfl⟩,R',E,hn⟩
 let nw:Nat->Prop:=fun id=>H.A<=id/\id<H'.A
 let lw:Nat->Prop:=fun id=>H.A<=id/\id<H'.A/\lv id=true
 let Γ3:aH:=fun id=>if lw id then Γ' id else Γ id
 let H3:ZJ:=⟨dP (ki H.A H'.A lv H'.get) H2.get,H2.A⟩
 have hnle:H'.A<=H2.A:=O
 have g3l:∀id,lw id->Γ3 id=Γ' id:=fun id h=>VA h;have g3o:∀id,¬lw id->Γ3 id=Γ id:=fun id h=>Vx h;have kold:∀id,kp id->¬nw id:=fun id h hn=>by have:=hlow id h;have:=hn.1;omega
 have koldl:∀id,kp id->¬lw id:=fun id h hn=>kold id h ⟨hn.1,hn.2.1⟩;have gk:∀id,kp id->Γ' id=Γ id:=by
  intro id hk;obtain⟨h1,h2,h3,g,e,c,h4,h5⟩:=hkp id hk;have hlo:=hlow id hk;obtain⟨x,hx,hle'⟩:=E.V id O O (.J g e c) (by rw[h3,h4]);rw[h2,h4]at hx;cases hx;rw[(hle'.2 rfl).1];exact kj fun hs=>hs hk
 have h3new:∀id,nw id->H3.get id=ki H.A H'.A lv H'.get id:=by
  intro id h;show dP _ _ id=_;unfold dP;have:=hsome id h.1 h.2;split
  ·rename_i b hb;rw[hb]
  ·rename_i hb;rw[hb]at this;cases this
 have h3live:∀id,lw id->H3.get id=H'.get id:=by
  intro id h;rw[h3new id ⟨h.1,h.2.1⟩];unfold ki;rw[VA ⟨h.1,h.2.1⟩,VA h.2.2]
 have h3dead:∀id,nw id->¬lw id->H3.get id=some (.J 0 0 []):=by
  intro id h hl;rw[h3new id h];unfold ki;rw[VA h,Vx fun h2=>hl ⟨h.1,h.2,h2⟩]
 have h3old:∀id,¬nw id->H3.get id=H2.get id:=by
  intro id h;show dP _ _ id=_;exact po fun h'=>h (hout id h')
 have hrsv:∀id,nw id->H2.get id=some .nt:=by
  intro id h;have:=hres (id-H.A) (by have:=h.1;have:=h.2;omega)
  rwa [show H.A+(id-H.A)=id by have:=h.1;omega]at this
 have hΓnew:∀id,nw id->Γ id=none:=fun id h=>R.nt id (hrsv id h);have hfar:∀id b base n,lw id->Γ' id=some (b,base,n)->w.heap.size<=b:=by
  intro id b base n hid hb;refine Yu fun hlt=>?_;have hown:(gY S Γ).iL b:=V2 fun hno=>(E.nc b hlt hno).2 ⟨id,base,n,hb⟩;obtain⟨id0,base0,n0,h0⟩:=hown;obtain⟨hs0,h0⟩:=mI h0;have hk0:=kpO id0 hs0;rw[<- gk id0 hk0]at h0;have:=R'.inj _ _ _ _ _ _ _ h0 hb;subst this;exact koldl _ hk0 hid
 have EE:ZX Γ H2 w Γ3 H3 w':=by
  refine⟨E.os,E.tape,E.output,E.size,fun b hb ho=>⟨(E.nc b hb fun h=>ho (wh h)).1,?_⟩,fun id h1 h2 x' hx'=>?_,E.nz⟩
  ·rintro⟨id,base,n,h⟩;by_cases hl:lw id
   ·rw[g3l id hl]at h;have:=hfar id b base n hl h;omega
   ·rw[g3o id hl]at h;exact ho ⟨id,base,n,h⟩
  ·by_cases hnw:nw id
   ·exact⟨.nt,hrsv id hnw,trivial⟩
   ·rw[h3old id hnw]at hx';refine⟨x',hx',?_⟩;have hg:Γ3 id=Γ id:=g3o id fun h=>hnw ⟨h.1,h.2.1⟩;cases x' with
    |J g e c=>exact⟨ZI,fun _=>⟨hg,rfl,rfl⟩⟩
    |loop=>exact⟨hg,rfl,rfl,rfl,rfl,rfl⟩
    |nt=>trivial
    |mp=>exact hg
 have hn3:H2.A<=H3.A:=Nat.le_refl _;have hK:∀id,(kp id\/lw id)->H3.get id=H'.get id/\Γ3 id=Γ' id:=by
  rintro id (h|h)
  ·refine⟨?_,?_⟩
   ·rw[h3old id (kold id h),hkH2 id h,(hkp id h).2.2.1]
   ·rw[g3o id (koldl id h),gk id h]
  ·exact⟨h3live id h,g3l id h⟩
 have hle3:H'.A<=H3.A:=hnle;have hidden:∀id b base n,¬kp id->Γ id=some (b,base,n)->w'.heap[b]?=w.heap[b]?:=by
  intro id b base n hk h;refine(E.nc b (R.lt _ _ _ _ h) ?_).1;rintro⟨id0,base0,n0,h0⟩;obtain⟨hs0,h0⟩:=mI h0;have:=R.inj _ _ _ _ _ _ _ h h0;subst this;exact hs0 hk
 have R3:ZT P G Γ3 H3 w':=by
  refine⟨?_,?_,?_,?_,?_,?_,?_,?_,?_,?_⟩
  ·intro id g e cells hg;have main : (kp id∨lw id)→(∀ i (h : i<cells.length),Cln (fun id=>kp id∨lw id) cells[i])→H'.get id=some (.J g e cells)→_:=fun hid hc hg'=>R'.J id g e cells hg';have fin : (kp id∨lw id)→(∀ i (h : i<cells.length),Cln (fun id=>kp id∨lw id) cells[i])→H'.get id=some (.J g e cells)→(match Γ3 id with
     |some (b,base,n)=>∃c,w'.heap[b]?=some (.cells c e (0,0))/\c.size=n/\base+cells.length<=n /\
      ∀i (h:i<cells.length),∃cv,c[base+i]?=some cv/\ZO P Γ3 H3 w' cells[i] cv
     |none=>cells=[]):=by
    intro hid hc hg';have h1:=R'.J id g e cells hg';rw[(hK id hid).2];cases hΓ:Γ' id with
    |none=>rw[hΓ]at h1;exact h1
    |some y =>
     obtain⟨b,base,n⟩:=y;rw[hΓ]at h1;obtain⟨c,a1,a2,a3,a4⟩:=h1;refine⟨c,a1,a2,a3,fun i hi=>?_⟩;obtain⟨cv,b1,b2⟩:=a4 i hi;exact⟨cv,b1,(hc i hi).sound hK hle3 b2⟩
   by_cases hl:lw id
   ·have hg':=hg;rw[h3live id hl]at hg';obtain⟨g0,e0,c0,h4,h5⟩:=hnew id hl.1 hl.2.1 hl.2.2;rw[h4]at hg';cases hg';exact fin (.inr hl) h5 h4
   ·by_cases hnw:nw id
    ·rw[h3dead id hnw hl]at hg;cases hg;rw[g3o id hl,hΓnew id hnw]
    ·rw[h3old id hnw]at hg;by_cases hk:kp id
     ·obtain⟨h1,h2,h3,g0,e0,c0,h4,h5⟩:=hkp id hk;rw[hkH2 id hk,h4]at hg;cases hg;exact fin (.inl hk) (fun i hi=>(h5 i hi).mono fun _ h=>.inl h) (by rw[h3,h4])
     ·have h1:=R.J id g e cells hg;rw[g3o id hl];cases hΓ:Γ id with
      |none=>rw[hΓ]at h1;exact h1
      |some y =>
       obtain⟨b,base,n⟩:=y;rw[hΓ]at h1;obtain⟨c,a1,a2,a3,a4⟩:=h1;refine⟨c,by rw[hidden id b base n hk hΓ];exact a1,a2,a3,fun i hi=>?_⟩;obtain⟨cv,b1,b2⟩:=a4 i hi;exact⟨cv,b1,b2.bK EE hn3⟩
  ·intro id st pend n env ps asg body hg;by_cases hl:lw id
   ·rw[h3live id hl]at hg;obtain⟨g0,e0,c0,h4,h5⟩:=hnew id hl.1 hl.2.1 hl.2.2;rw[h4]at hg;cases hg
   ·by_cases hnw:nw id
    ·rw[h3dead id hnw hl]at hg;cases hg
    ·rw[h3old id hnw]at hg;have hk:¬kp id:=fun hk=>by
      obtain⟨h1,h2,h3,g0,e0,c0,h4,h5⟩:=hkp id hk;rw[hkH2 id hk,h4]at hg;cases hg
     obtain⟨b,r,a1,a2,a3,a4,a5,a6,a7,a8,a9⟩:=R.loop id st pend n env ps asg body hg;exact⟨b,r,by rw[g3o id hl];exact a1,by rw[hidden id b 0 0 hk a1];exact a2,a3,a4,a5,a6,a7,a8,fun t ht=>(a9 t ht).bK EE hn3⟩
  ·intro id es hg;by_cases hl:lw id
   ·rw[h3live id hl]at hg;obtain⟨g0,e0,c0,h4,h5⟩:=hnew id hl.1 hl.2.1 hl.2.2;rw[h4]at hg;cases hg
   ·by_cases hnw:nw id
    ·rw[h3dead id hnw hl]at hg;cases hg
    ·rw[h3old id hnw]at hg;have hk:¬kp id:=fun hk=>by
      obtain⟨h1,h2,h3,g0,e0,c0,h4,h5⟩:=hkp id hk;rw[hkH2 id hk,h4]at hg;cases hg
     obtain⟨b,a1,a2⟩:=R.mp id es hg;exact⟨b,by rw[g3o id hl];exact a1,by rw[hidden id b 0 0 hk a1];exact a2⟩
  ·intro id hg;have hnw:¬nw id:=fun hnw=>by
    by_cases hl:lw id
    ·rw[h3live id hl]at hg;obtain⟨g0,e0,c0,h4,h5⟩:=hnew id hl.1 hl.2.1 hl.2.2;rw[h4]at hg;cases hg
    ·rw[h3dead id hnw hl]at hg;cases hg
   rw[h3old id hnw]at hg;rw[g3o id fun h=>hnw ⟨h.1,h.2.1⟩];exact R.nt id hg
  ·intro id id' b base n base' n' h h';by_cases hl:lw id<;>by_cases hl':lw id'
   ·rw[g3l id hl]at h;rw[g3l id' hl']at h';exact R'.inj _ _ _ _ _ _ _ h h'
   ·rw[g3l id hl]at h;rw[g3o id' hl']at h';have:=hfar id b base n hl h;have:=R.lt _ _ _ _ h';omega
   ·rw[g3o id hl]at h;rw[g3l id' hl']at h';have:=hfar id' b base' n' hl' h';have:=R.lt _ _ _ _ h;omega
   ·rw[g3o id hl]at h;rw[g3o id' hl']at h';exact R.inj _ _ _ _ _ _ _ h h'
  ·intro id x h;by_cases hl:lw id
   ·obtain⟨g0,e0,c0,h4,h5⟩:=hnew id hl.1 hl.2.1 hl.2.2;exact⟨_,by rw[h3live id hl];exact h4⟩
   ·rw[g3o id hl]at h;by_cases hnw:nw id
    ·exact⟨_,h3dead id hnw hl⟩
    ·obtain⟨y,hy⟩:=R.nI id x h;exact⟨y,by rw[h3old id hnw];exact hy⟩
  ·intro id b base n h;by_cases hl:lw id
   ·rw[g3l id hl]at h;exact R'.lt _ _ _ _ h
   ·rw[g3o id hl]at h;exact VM (R.lt _ _ _ _ h) E.size
  ·intro id y h;by_cases hnw:nw id
   ·have:=hnw.2;exact VM this hnle
   ·rw[h3old id hnw]at h;exact R.A id y h
  ·intro g cells h;exact(R.nH g cells h).bK EE hn3
  ·exact R.rj EE
 refine⟨.ret v,H3,Γ3,?_,⟨rfl,rfl⟩,R3,EE,hn3⟩;cases e with
 |returned cv=>exact hv.sound hK hle3 hend
 |panicked chain=>exact hend.elim
 |outgrown=>exact hend.elim
end Go.Hx.Ev
namespace Go.Hx
inductive BT (α:Type) where
 |nil
 |node (v:Option α) (l r:BT α)
inductive EBlk where
 |J (gen:Nat) (elem:TypeId) (cells:List ZK)
 |loop (st:LoopState) (pend:Option Code) (n:Nat) (env:BT ZK) (ps:Array Tmp) (asg body:Code)
 |mp (es:List (Int × Int))
structure EH where
 hp:BT EBlk
 nx:Nat
inductive RR where
 |ev (x:AX) (env:BT ZK) (h:EH)
 |ret (v:ZK) (h:EH)
 |panic (h:EH)
inductive OR where
 |fail
 |val (v:ZK)
 |nD (v:ZK) (r g:Nat) (e:TypeId) (cells:List ZK) (fresh:Bool)
 |effM (v:ZK) (r:Nat) (es:List (Int × Int)) (fresh:Bool)
structure GD where
 z:ZK
 ok:ZK->Bool
structure EP where
 P:Program
 G:Nat->Option (List ZK)
 gd:FuncId->Option GD
  /-- What is known already of a function's calls. -/
 known:FuncId->Option (List (List ZK × ZK))
  /-- What a call of a function without a body comes to. -/
 ext:FuncId->Option (List ZK->Option ZK):=fun _=>none
section step
end step
section step
end step
end Go.Hx
namespace Go.Hx
variable {P:Program} {G:Nat->Option (List ZK)}
end Go.Hx
namespace Go.Hx
end Go.Hx
namespace Go.Hx
end Go.Hx
namespace Go.Hx
end Go.Hx
namespace Go.Hx
def MM (z:GD):Option ZK->ZK
 |some u=>.nf [u,.lit (.int .i64 0)]
 |none=>.nf [z.z,.lit (.int .i64 6)]
def MN (P:Program)(G:Nat->Option (List ZK))(f:FuncId)(z:GD):Prop:=∀g cap cap' (H:ZJ) o,cap'.length=cap.length ->
 (∀H2:ZJ,(∀id,id<H.A->H2.get id=H.get id)->∀i (h:i<cap.length) (h':i<cap'.length),Fz (fun _=>True) H2 0 cap[i] cap'[i]) ->
 (∀u,o=some u->z.ok u=true)->ag P G g cap' cZ (Bo o)->ag P G f [.Z g [] cap] H fun r H'=>r=.ret (MM z o)/\H'=H
def MO (E:EP):Prop:=∀f e,E.ext f=some e->∀args r,e args=some r->∀(H:ZJ) (K:ZP->ZJ->Prop),K (.ret r) H->au E.P E.G (.Z f [] []) args H K
structure EOk (E:EP):Prop where
 gok:gD E.G
 mixed:E.P.follows .mixedOrders=true
 known:∀f l,E.known f=some l->∀a v,(a,v)∈l->ag E.P E.G f a cZ fun r H'=>∃u,r=.ret u/\Z7 H' u v
 gd:∀f z,E.gd f=some z->MN E.P E.G f z
 ext:MO E
section
end
end Go.Hx
namespace Go.Hx
open Go.ChangeShapes Go.WideShapes Go.RowKit
variable {P:Program} {G:Nat->Option (List ZK)}
variable {sp:Nat->Bool}{H:Type}{enc:TypeId × Value->H}
def jQ:aH:=fun _=>none
def yc (P:Program)(G:Nat->Option (List ZK))(W:World):Prop:=∀g cells,G g=some cells->ZO P jQ cZ W (.ni cells 0) (.pointer (some ⟨g,0,none⟩))/\∃c e f,W.heap[g]?=some (.cells c e f)/\c.size=cells.length
def GJ {W:World}(hg:yc P G W):ZT P G jQ cZ W where
 J _ _ _ _ h:=by cases h
 loop _ _ _ _ _ _ _ _ h:=by cases h
 mp _ _ h:=by cases h
 nt _ h:=by cases h
 inj _ _ _ _ _ _ _ h:=by cases h
 nI _ _ h:=by cases h
 lt _ _ _ _ h:=by cases h
 A _ _ h:=by cases h
 nH g cells h:=(hg g cells h).1
 gsz g cells h:=(hg g cells h).2
def Bh (b:Nat):¬jQ.iL b:=fun ⟨_,_,_,h⟩=>by cases h
def GK {f:FuncId}{args:List ZK}{cargs:Array Value}{W:World}(hA:ag P G f args cZ fun r H'=>∃u,r=.ret u/\Z7 H' u (.lit (.bool true)))(hg:yc P G W)(hr:eE P jQ cZ W args cargs):
  Calls P f cargs W fun e W'=>e=.returned (.bool true)/\RowKit.Below W.heap.size W W'/\∀a,a.block<W.heap.size->W'.frozen? a=W.frozen? a:=by
 refine callsIn_wide.1 ((hA.2 jQ W cargs (GJ hg) hr).mono ?_);rintro e W' ⟨r,H',Γ',hend,⟨u,rfl,hf⟩,_,E,_⟩;cases e with
 |returned cv =>
  have hu:u=.lit (.bool true):=by cases hf;rfl
  subst hu;cases hend;exact⟨rfl,⟨E.os,E.tape,E.output,E.size,fun k hk=>(E.nc k hk (Bh k)).1⟩,E.nz⟩
 |panicked=>exact hend.elim
 |outgrown=>exact hend.elim
def GL {W W':World}(hb:RowKit.Below W.heap.size W W')(may:MemPlace->Prop):W.keptBut W' may:=by
 refine⟨hb.os,hb.output,fun i hi=>?_⟩;rw[hb.block i hi];cases h:W.heap[i]? with
 |none=>rfl
 |some o=>cases o<;>first|exact rfl|exact⟨rfl,rfl,rfl,fun _ _=>rfl⟩|exact .inr ⟨rfl,rfl⟩
def GM (hl:laidOutB P=true){W W':World}(hb:RowKit.Below W.heap.size W W'):∀ {ts:List TypeId} {vs:List Value} {ds:List (DataW H)} {ps:List MemPlace},
  ts.all (fun t=>P.readableRec t && decide (t<P.types.size))=true->DataW.TrodAll enc P W 0 (fun _=>true) true ts vs ds ps->(∀x∈ps,x.block<W.heap.size)->(∀x∈ps,sp x.block=true)->DataW.TrodAll enc P W' 0 sp true ts vs ds ps:=by
 intro ts
 induction ts with
 |nil =>
  intro vs ds ps _ h _ _;cases vs<;>cases ds<;>first|exact h|exact h.elim
 |cons t ts ih =>
  intro vs ds ps hok h hlt hsp;simp only[List.all_cons,Wh,decide_eq_true_eq]at hok;cases vs with
  |nil=>cases ds<;>exact h.elim
  |cons v vs=>cases ds with
   |nil=>exact h.elim
   |cons d ds =>
    obtain⟨p,q,h1,h2,rfl⟩:=h;refine⟨p,q,?_,ih hok.2 h2 (fun x hx=>hlt x (by simp[hx])) (fun x hx=>hsp x (by simp[hx])),rfl⟩;exact WideElems.Trod_stays hl hok.1.1 hok.1.2 h1 (fun x hx=>hb.same (hlt x (by simp[hx]))) (fun x hx=>hsp x (by simp[hx]))
def GN {W:World}{base:Nat}{held:Bool}:∀ {ts:List TypeId} {vs:List Value} {ds:List (DataW H)} {ps:List MemPlace},
  DataW.TrodAll enc P W base sp held ts vs ds ps->vs.length=ts.length/\ds.length=ts.length:=by
 intro ts
 induction ts with
 |nil =>
  intro vs ds ps h;cases vs<;>cases ds<;>first|exact⟨rfl,rfl⟩|exact h.elim
 |cons t ts ih =>
  intro vs ds ps h;cases vs with
  |nil=>cases ds<;>exact h.elim
  |cons v vs=>cases ds with
   |nil=>exact h.elim
   |cons d ds =>
    obtain⟨p,q,_,h2,_⟩:=h;obtain⟨h3,h4⟩:=ih h2;exact⟨by simp[h3],by simp[h4]⟩
def GO {f:Func}{s:ChangeSpec}{apart fresh handsOn again:Bool}{W W':World}{args:Array Value}{ds gs:List (DataW H)}{before:List MemPlace}{t:TypeId}
  (hl:laidOutB P=true) (hok:f.params.toList.all (fun t=>P.readableRec t && decide (t<P.types.size))=true) (hvars:s.vars=[]) (hrt:f.resultTypes=#[t]) (ht:P.underlying t=some .bool)
  (hs:∀ds:List (DataW H),ds.length=f.params.toList.length->s.fn H (ds++[])={ results:=[.lit (.bool true)],args:=ds })
  (hW:DataW.Whole enc P f.params.toList s.vars apart W args.toList ds gs before) (hb:RowKit.Below W.heap.size W W') (hfz:∀a,a.block<W.heap.size->W'.frozen? a=W.frozen? a):s.post enc P f apart fresh handsOn again W args (.bool true) W':=by
 have hW':=hW;obtain⟨p,q,hA,hV,rfl,hz,hn⟩:=hW;have hgs:gs=[]/\q=[]:=by
  rw[hvars]at hV;cases gs with
  |nil=>exact⟨rfl,hV⟩
  |cons=>exact hV.elim
 obtain⟨rfl,rfl⟩:=hgs;have hfn:=hs ds (GN hA).2;have hlt:∀x∈p,x.block<W.heap.size:=fun x hx=>by simpa using hW'.lt x (by simp[hx])
 have hres:∀(b:Nat) (sp:Nat->Bool) (hd:Bool),DataW.TrodAll enc P W' b sp hd f.resultTypes.toList ((Value.bool true).resultList f.resultTypes.size) (s.fn H (ds++[])).results []:=fun b sp hd=>by
  rw[hfn,hrt];exact trodAll_mk1 (shut_bool ht true)
 have hargs:∀sp:Nat->Bool,(∀x∈p,sp x.block=true)->DataW.TrodAll enc P W' 0 sp true f.params.toList args.toList (s.fn H (ds++[])).args p:=fun sp hsp=>by
  rw[hfn];exact GM hl hb hok hA hlt hsp
 have hva:∀sp:Nat->Bool,DataW.TrodVars enc P W' sp s.vars (s.fn H (ds++[])).vars []:=fun sp=>by
  rw[hfn,hvars];exact rfl
 have hpp:p++[]=p:=List.append_nil p;have hold:∀x∈p,(fun b=>decide (b<W.heap.size)) x.block=true:=fun x hx=>by simpa using hlt x hx
 rw[hpp]at hW' hz hn;refine⟨ds,[],p,[],p,[],hW',hres _ _ _,hargs _ hold,hva _,World.keptBut_mono (fun x hx=>⟨hx,.inr (.inl hx)⟩) (GL hb _),fun _=>⟨ok_one hrt rfl (okWide_bool_mk ht true),(s.fn H (ds++[])).results++(s.fn H (ds++[])).args,(s.fn H (ds++[])).vars,p,?_,fun x hx _=>hx⟩⟩;have hall:=trodAll_append (hargs (fun _=>true) fun _ _=>rfl) (hres 0 (fun _=>true) true);refine⟨p,[],by simpa using hall,hva _,ZF,fun b off hx=>?_,fun ha=>by simpa using hn ha⟩;rw[hfz _ (hlt _ hx)];exact hz b off hx
end Go.Hx
namespace Go.Hx
variable {P:Program} {G:Nat->Option (List ZK)}
def ze:Nat->Option (List ZK):=fun _=>none
def MP:gD ze:=fun _ _ h=>by cases h
def MQ (W:World):yc P ze W:=fun _ _ h=>by cases h
end Go.Hx
namespace Go.Hx
variable {P:Program} {G:Nat->Option (List ZK)} {Γ Γ':aH} {H H':ZJ} {w w':World}
section
variable {n:Nat} {wb:nnb} {rd rb:Option Nat} {Q:AX->St->Prop}
end
end Go.Hx
