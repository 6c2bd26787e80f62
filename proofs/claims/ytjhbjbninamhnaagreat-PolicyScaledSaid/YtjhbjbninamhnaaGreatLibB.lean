/-
  Regions that draw their order. Own work: no program stands in this text.
-/
import Derived.Test.YtjhbjbninamhnaaGreatLibA
import Derived.OrdersIn
import Derived.KernelRfl
import Derived.ProofKit
import Derived.SevenTiedAt
import Derived.RecoverIn
set_option linter.all false
namespace Go.Hx
variable {P:Program} {G:Nat->Option (List W9)} {Γ Γ':aC} {H H':Xn} {w w':World}
variable {c:Call}{ρ:Env}{id n:Nat}{o:Op}{t u:TypeId}{a v x:W9}{H2:Xn}
def aL:W9->List Nat
 |.Q id _ _ _ _=>[id]
 |.R id _ _=>[id]
 |_=>[]
def eQ:W9->List Nat
 |.ni id=>[id]
 |_=>[]
structure FP where
 nt:List Nat
 rs:List Nat
def lJ:W9->Bool
 |.Q ..=>true
 |_=>false
def mz (P:Program)(t:TypeId)(x:W9):List Nat:=match P.underlying t with
 |some (.slice _)=>aL x
 |_=>[]
def kF (P:Program)(id:Nat)(b:Builtin)(ats:List TypeId)(args:List W9):FP :=
 match b,ats,args with
 |.append,_,[s,x]=>if lJ s then ⟨aL s,aL s++aL x⟩ else ⟨[id],aL x⟩
 |.copy,_,[d,x]=>⟨aL d,aL d++aL x⟩
 |.clear,_,[d]=>⟨aL d,aL d⟩
 |.len,[t],[x]=>⟨[],mz P t x⟩
 |_,_,_=>⟨[],[]⟩
def cq (P:Program)(G:Nat->Option (List W9))(ρ:Env)(id:Nat):Op->FP
 |.load _ a=>⟨[],aL (aw G ρ a)⟩
 |.nilCheck a=>⟨[],aL (aw G ρ a)⟩
 |.slice _ a _ _ _=>⟨[],aL (aw G ρ a)⟩
 |.fieldAddr _ a _=>⟨[],aL (aw G ρ a)⟩
 |.indexAddr _ a _=>⟨[],aL (aw G ρ a)⟩
 |.convert _ _ a=>⟨[],aL (aw G ρ a)⟩
 |.store _ a _=>⟨aL (aw G ρ a),aL (aw G ρ a)⟩
 |.alloc _=>⟨[id],[]⟩
 |.box _ _=>⟨[id],[]⟩
 |.buildSlice _ _ _=>⟨[id],[]⟩
 |.makeSlice _ _ _=>⟨[id],[]⟩
 |.makeMap _ _=>⟨[id],[]⟩
 |.lookup _ x _ _=>⟨[],eQ (aw G ρ x)⟩
 |.mapUpdate _ m _ _|.insert _ m _ _|.mapEntry _ m _|.entryStore _ m _ _=>⟨eQ (aw G ρ m),eQ (aw G ρ m)⟩
 |.call c=>match c.callee with
  |.builtin b=>kF P id b c.argTypes.toList (c.args.toList.map (aw G ρ))
  |_=>⟨[],[]⟩
 |_=>⟨[],[]⟩
def eT (e:Option (Nat × Xe))(g:Nat->Option Xe):Nat->Option Xe :=
 match e with
 |none=>g
 |some (k,b)=>fun j=>if j=k then some b else g j
def gM (H:Xn):Prop:=∀id b,H.get id=some b->id<H.A
def kG (wf:gM H){gen:Nat}{ec:TypeId × List W9}(h:H.X id gen=some ec):id<H.A:=wf id _ (jq (e:=ec.1) (cells:=ec.2) h)
def kH (h:H2.get id=H.get id)(gen:Nat):H2.X id gen=H.X id gen:=by unfold Xn.X;rw[h]
def Local (P:Program)(G:Nat->Option (List W9))(ρ:Env)(H:Xn)(o:Op)(v:W9)(H':Xn)(f:FP):Prop :=
 ∃(e:Option (Nat × Xe)) (al:Bool),H'.get=eT e H.get/\H'.A=(if al then H.A+1 else H.A) /\
  (∀k b,e=some (k,b)->k∈f.nt/\(al=false->k∈f.rs))/\(al=true->∃b,e=some (H.A,b))/\(∀r,r∈f.rs->r<H.A) /\
  ∀H2:Xn,(∀r,r∈f.rs->H2.get r=H.get r)->(al=true->H2.get H.A=some .nm/\H.A≠H2.A)->ak P G ρ H2 H.A o=some (v,⟨eT e H2.get,H2.A⟩)
variable {f:FP}
def dq (hrs:∀r,r∈f.rs->r<H.A)(h:∀H2:Xn,(∀r,r∈f.rs->H2.get r=H.get r)->ak P G ρ H2 H.A o=some (v,H2)):Local P G ρ H o v H f:=by
 refine⟨none,false,rfl,rfl,?_,?_,hrs,fun H2 ha _=>h H2 ha⟩
 ·intro k b h;cases h
 ·intro h;cases h
def qm {b:Xe}(hl:H.lay H.A b=some H')(hta:H.A∈f.nt)(hrs:∀r,r∈f.rs->r<H.A)
  (h:∀H2:Xn,(∀r,r∈f.rs->H2.get r=H.get r)->∀H2',H2.lay H.A b=some H2'->ak P G ρ H2 H.A o=some (v,H2')):Local P G ρ H o v H' f:=by
 obtain⟨h1,h2⟩:=jS hl;have h2':H'.A=H.A+1:=by
  unfold Xn.lay at hl;rw[SU rfl]at hl;simp only[Option.some.injEq]at hl;rw[<- hl]
 refine⟨some (H.A,b),true,funext h1,by simp[h2'],?_,?_,hrs,fun H2 ha hr=>?_⟩
 ·intro k b' hk;simp only[Option.some.injEq,Prod.mk.injEq]at hk;exact⟨hk.1 ▸ hta,fun h=>by cases h⟩
 ·exact fun _=>⟨b,rfl⟩
 ·obtain⟨hr1,hr2⟩:=hr rfl;refine h H2 ha _ ?_;unfold Xn.lay;rw[SQ hr2,hr1];rfl
def nK {b:Xe}(hid:id∈f.nt)(hid':id∈f.rs)(hrs:∀r,r∈f.rs->r<H.A)
  (h:∀H2:Xn,(∀r,r∈f.rs->H2.get r=H.get r)->ak P G ρ H2 H.A o=some (v,H2.upd id b)):Local P G ρ H o v (H.upd id b) f:=by
 refine⟨some (id,b),false,rfl,rfl,?_,?_,hrs,fun H2 ha _=>h H2 ha⟩
 ·intro k b' hk;simp only[Option.some.injEq,Prod.mk.injEq]at hk;exact⟨hk.1 ▸ hid,fun _=>hk.1 ▸ hid'⟩
 ·intro h;cases h
def cS :∀r,r∈([]:List Nat)->r<n:=fun _ h=>by cases h
def gO (h:id<n):∀r,r∈[id]->r<n:=fun r hr=>by
 simp only[List.mem_singleton]at hr;omega
def Gd (h:∀r,r∈aL a->H2.get r=H.get r):g9 P H2 t a=g9 P H t a:=by
 cases a with
 |R id gen off=>simp only[g9];rw[h id (by simp[aL])]
 |_=>rfl
def Ge (wf:gM H)(h:g9 P H t a=some v):∀r,r∈aL a->r<H.A:=by
 cases a with
 |R id gen off =>
  refine gO ?_;simp only[g9]at h;split at h
  ·rename_i hg;exact wf _ _ hg
  ·cases h
 |Q=>simp[g9]at h
 |_=>exact cS
def Gf (h:jQ P H t a v=some H'):∃id gen off g e cells,a=.R id gen off/\H.get id=some (.J g e cells)/\∃cells',H'=H.upd id (.J g e cells') /\
  ∀H2:Xn,H2.get id=H.get id->jQ P H2 t a v=some (H2.upd id (.J g e cells')):=by
 cases a with
 |R id gen off =>
  simp only[jQ]at h;split at h
  ·rename_i g e cells hg;split at h
   ·rename_i hc;simp only[Option.some.injEq]at h;refine⟨id,gen,off,g,e,cells,rfl,hg,_,h.symm,fun H2 h2=>?_⟩;simp only[jQ];rw[h2,hg];simp only;rw[SU hc]
   ·cases h
  ·cases h
 |_=>simp[jQ]at h
def Gg (wf:gM H){i:Int}(h:np P H t x i=some v):(∀r,r∈aL x->r<H.A)/\∀H2:Xn,(∀r,r∈aL x->H2.get r=H.get r)->np P H2 t x i=some v:=by
 unfold np at h ⊢;split at h
 ·split at h
  ·rename_i hc;split at h
   ·rename_i id gen off;simp only[SO]at h;obtain⟨ec,hl,hv⟩:=h;refine⟨gO (kG wf hl),fun H2 h2=>?_⟩;rw[SU hc];simp only[kH (h2 id (by simp[aL])),hl,Option.map_some,hv]
   ·refine⟨cS,fun H2 _=>?_⟩;rw[SU hc];exact h
   ·cases h
  ·cases h
 ·split at h
  ·rename_i hc;split at h
   ·rename_i id gen off len sz;split at h
    ·rename_i hi;simp only[SO]at h;obtain⟨ec,hl,hv⟩:=h;refine⟨gO (kG wf hl),fun H2 h2=>?_⟩;rw[SU hc,SU hi];simp only[kH (h2 id (by simp[aL])),hl,Option.map_some,hv]
    ·cases h
   ·refine⟨cS,fun H2 _=>?_⟩;rw[SU hc];exact h
   ·cases h
  ·cases h
 ·cases h
def Gh (wf:gM H){lo hi:Option W9}(h:nt P H t x lo hi=some v):(∀r,r∈aL x->r<H.A)/\∀H2:Xn,(∀r,r∈aL x->H2.get r=H.get r)->nt P H2 t x lo hi=some v:=by
 unfold nt at h ⊢;split at h
 ·split at h
  ·rename_i hc;split at h
   ·rename_i id gen off;split at h
    ·rename_i e' cells hl;refine⟨gO (kG wf hl),fun H2 h2=>?_⟩;rw[SU hc];simp only[kH (h2 id (by simp[aL])),hl];exact h
    ·cases h
   ·refine⟨cS,fun H2 _=>?_⟩;rw[SU hc];exact h
   ·cases h
  ·cases h
 ·split at h
  ·rename_i hc;split at h
   ·rename_i id gen off len sz;split at h
    ·rename_i hi;have h0:=h;simp only[SW]at h;obtain⟨ec,hl,_⟩:=h;refine⟨gO (kG wf hl),fun H2 h2=>?_⟩;rw[SU hc,SU hi,kH (h2 id (by simp[aL]))];exact h0
    ·cases h
   ·refine⟨cS,fun H2 _=>?_⟩;rw[SU hc];exact h
   ·refine⟨cS,fun H2 _=>?_⟩;rw[SU hc];exact h
   ·cases h
  ·cases h
 ·split at h
  ·exact⟨cS,fun H2 _=>h⟩
  ·cases h
 ·cases h
def Gi (wf:gM H)(h:mm P H t x=some v):(∀r,r∈mz P t x->r<H.A)/\∀H2:Xn,(∀r,r∈mz P t x->H2.get r=H.get r)->mm P H2 t x=some v:=by
 unfold mm mz at *
 cases hu:P.underlying t with
 |none=>rw[hu]at h;cases h
 |some d =>
  rw[hu]at h;cases d with
  |slice e =>
   simp only at h ⊢;split at h
   ·exact⟨cS,fun _ _=>h⟩
   ·rename_i id gen off len sz;simp only[SO]at h;obtain⟨ec,hl,hv⟩:=h;refine⟨gO (kG wf hl),fun H2 h2=>?_⟩;simp only[kH (h2 id (by simp[aL])),hl,Option.map_some,hv]
   ·exact⟨cS,fun _ _=>h⟩
   ·cases h
  |string=>exact⟨cS,fun _ _=>h⟩
  |array n e=>exact⟨cS,fun _ _=>h⟩
  |_=>cases h
def xB (wf:gM H){sz:Nat}{r:Nat × List W9}(h:cX H sz x=some r):(∀r,r∈aL x->r<H.A)/\∀H2:Xn,(∀r,r∈aL x->H2.get r=H.get r)->cX H2 sz x=some r:=by
 unfold cX at h ⊢;split at h
 ·exact⟨cS,fun _ _=>h⟩
 ·rename_i id gen off len sz';split at h
  ·rename_i hsz;simp only[SO]at h;obtain⟨ec,hl,hv⟩:=h;refine⟨gO (kG wf hl),fun H2 h2=>?_⟩;rw[SU hsz];simp only[kH (h2 id (by simp[aL])),hl,Option.map_some,hv]
  ·cases h
 ·exact⟨cS,fun _ _=>h⟩
 ·cases h
def AT {a b:List Nat}{p:Nat->Prop}(h1:∀r,r∈a->p r)(h2:∀r,r∈b->p r):∀r,r∈a++b->p r:=fun r hr=>(Tk.1 hr).elim (h1 r) (h2 r)
def Gj (wf:gM H){s:W9}(hb:c.callee=.builtin .append)(hats:c.argTypes.toList=[t,u])(hargs:c.args.toList.map (aw G ρ)=[s,x])
  (h:bT P H H.A t u s x=some (v,H')):Local P G ρ H (.call c) v H' (cq P G ρ H.A (.call c)):=by
 have hfp:cq P G ρ H.A (.call c)=if lJ s then ⟨aL s,aL s++aL x⟩ else ⟨[H.A],aL x⟩:=by
  simp only[cq,hb,hats,hargs,kF]
 have hop:∀H2:Xn,ak P G ρ H2 H.A (.call c)=bT P H2 H.A t u s x:=fun H2=>by
  simp only[ak,hb,hats,hargs,hJ]
 rw[hfp];unfold bT at h;split at h
 ·rename_i e he;split at h
  ·rename_i e' he';simp only[SW]at h;obtain⟨z,hz,nx,hsrc,h⟩:=h;obtain⟨hxlt,hxl⟩:=xB wf hsrc;split at h
   ·simp only[lJ,Bool.false_eq_true,if_false];split at h
    ·rename_i hn0;simp only[Option.some.injEq,Prod.mk.injEq]at h;obtain⟨rfl,rfl⟩:=h;refine dq hxlt fun H2 h2=>?_;rw[hop];simp only[bT,he,he',hz,hxl H2 h2,Option.bind_some,SU hn0]
    ·rename_i hn0;split at h
     ·rename_i hb;simp only[SO,Prod.mk.injEq]at h;obtain⟨H3,hl,rfl,rfl⟩:=h;refine qm hl W5 hxlt fun H2 h2 H2' hl2=>?_;rw[hop];simp only[bT,he,he',hz,hxl H2 h2,Option.bind_some,SQ hn0,SU hb,hl2,Option.map_some]
     ·cases h
   ·rename_i id' gen off len sz;simp only[lJ,if_true];simp only[SW]at h;obtain⟨ec,hl,h⟩:=h;have hlt:∀r,r∈aL (.Q id' gen off len sz)++aL x->r<H.A:=AT (gO (kG wf hl)) hxlt;have hl2:∀H2:Xn,(∀r,r∈aL (.Q id' gen off len sz)++aL x->H2.get r=H.get r)->H2.X id' gen=some ec:=fun H2 h2=>by
     rw[kH (h2 id' (by simp[aL]))];exact hl
    have hx2:∀H2:Xn,(∀r,r∈aL (.Q id' gen off len sz)++aL x->H2.get r=H.get r)->cX H2 (P.cellsOf e) x=some nx:=fun H2 h2 =>
     hxl H2 fun r hr=>h2 r (VX _ hr)
    split at h
    ·rename_i hc;split at h
     ·rename_i hn0;simp only[Option.some.injEq,Prod.mk.injEq]at h;obtain⟨rfl,rfl⟩:=h;refine dq hlt fun H2 h2=>?_;rw[hop];simp only[bT,he,he',hz,hx2 H2 h2,hl2 H2 h2,Option.bind_some];rw[SU hc,SU hn0]
     ·rename_i hn0;simp only[Option.some.injEq,Prod.mk.injEq]at h;obtain⟨rfl,rfl⟩:=h;refine nK (by simp[aL]) (by simp[aL]) hlt fun H2 h2=>?_;rw[hop];simp only[bT,he,he',hz,hx2 H2 h2,hl2 H2 h2,Option.bind_some];rw[SU hc,SQ hn0]
    ·cases h
   ·cases h
  ·cases h
 ·cases h
def Gk (wf:gM H){s:W9}(hb:c.callee=.builtin .copy)(hats:c.argTypes.toList=[t,u])(hargs:c.args.toList.map (aw G ρ)=[s,x])
  (h:lD P H t s x=some (v,H')):Local P G ρ H (.call c) v H' (cq P G ρ H.A (.call c)):=by
 have hfp:cq P G ρ H.A (.call c)=⟨aL s,aL s++aL x⟩:=by
  simp only[cq,hb,hats,hargs,kF]
 have hop:∀H2:Xn,ak P G ρ H2 H.A (.call c)=lD P H2 t s x:=fun H2=>by
  simp only[ak,hb,hats,hargs,hJ]
 rw[hfp];unfold lD at h;split at h
 ·rename_i e he;split at h
  ·rename_i hs;simp only[SW]at h;obtain⟨nx,hsrc,h⟩:=h;obtain⟨hxlt,hxl⟩:=xB wf hsrc;split at h
   ·rename_i id' gen off len sz;simp only[SW]at h;obtain⟨ec,hl,h⟩:=h;have hlt:∀r,r∈aL (.Q id' gen off len sz)++aL x->r<H.A:=AT (gO (kG wf hl)) hxlt;split at h
    ·rename_i hc;simp only[Option.some.injEq,Prod.mk.injEq]at h;obtain⟨rfl,rfl⟩:=h;refine nK (by simp[aL]) (by simp[aL]) hlt fun H2 h2=>?_;have hl2:H2.X id' gen=some ec:=by
      rw[kH (h2 id' (by simp[aL]))];exact hl
     rw[hop];simp only[lD,he,hs,if_true,hxl H2 fun r hr=>h2 r (VX _ hr),hl2,Option.bind_some];rw[SU hc]
    ·cases h
   ·cases h
  ·cases h
 ·cases h
def Gl (wf:gM H){s:W9}(hb:c.callee=.builtin .clear)(hats:c.argTypes.toList=[t])(hargs:c.args.toList.map (aw G ρ)=[s])
  (h:lE P H t s=some (v,H')):Local P G ρ H (.call c) v H' (cq P G ρ H.A (.call c)):=by
 have hfp:cq P G ρ H.A (.call c)=⟨aL s,aL s⟩:=by
  simp only[cq,hb,hats,hargs,kF]
 have hop:∀H2:Xn,ak P G ρ H2 H.A (.call c)=lE P H2 t s:=fun H2=>by
  simp only[ak,hb,hats,hargs,hJ]
 rw[hfp];unfold lE at h;split at h
 ·rename_i e he;split at h
  ·simp only[Option.some.injEq,Prod.mk.injEq]at h;obtain⟨rfl,rfl⟩:=h;refine dq (fun r hr=>by cases hr) fun H2 h2=>?_;rw[hop];simp only[lE,he]
  ·rename_i id' gen off len sz;simp only[SW]at h;obtain⟨ec,hl,h⟩:=h;have hlt:∀r,r∈aL (.Q id' gen off len sz)->r<H.A:=gO (kG wf hl);have hl2:∀H2:Xn,(∀r,r∈aL (.Q id' gen off len sz)->H2.get r=H.get r)->H2.X id' gen=some ec:=fun H2 h2=>by
    rw[kH (h2 id' (by simp[aL]))];exact hl
   split at h
   ·rename_i h0;simp only[Option.some.injEq,Prod.mk.injEq]at h;obtain⟨rfl,rfl⟩:=h;refine dq hlt fun H2 h2=>?_;rw[hop];simp only[lE,he,hl2 H2 h2,Option.bind_some];rw[SU h0]
   ·rename_i h0;simp only[SW]at h;obtain⟨z,hz,h⟩:=h;split at h
    ·rename_i hc;simp only[Option.some.injEq,Prod.mk.injEq]at h;obtain⟨rfl,rfl⟩:=h;refine nK (by simp[aL]) (by simp[aL]) hlt fun H2 h2=>?_;rw[hop];simp only[lE,he,hl2 H2 h2,hz,Option.bind_some];rw[SQ h0,SU hc]
    ·cases h
  ·cases h
 ·cases h
def AU (wf:gM H){m k x:Operand}(h:mn P H t (aw G ρ m) (aw G ρ k) (aw G ρ x)=some (v,H'))(hfp:cq P G ρ H.A o=⟨eQ (aw G ρ m),eQ (aw G ρ m)⟩)
  (hop:∀H2:Xn,ak P G ρ H2 H.A o=mn P H2 t (aw G ρ m) (aw G ρ k) (aw G ρ x)):Local P G ρ H o v H' (cq P G ρ H.A o):=by
 rw[hfp];unfold mn at h;split at h
 ·rename_i hm;split at h
  ·rename_i id k' u hx hk hu;split at h
   ·rename_i es hg;simp only[Option.some.injEq,Prod.mk.injEq]at h;obtain⟨rfl,rfl⟩:=h;refine nK (by rw[hx];simp[eQ]) (by rw[hx];simp[eQ]) (by rw[hx];exact gO (wf _ _ hg)) fun H2 h2=>?_;have hg2:H2.get id=some (.mp es):=(by rw[h2 id (by rw[hx];simp[eQ])];exact hg);rw[hop];simp only[mn,hm,if_true,hx,hk,hu,hg2]
   ·cases h
  ·cases h
 ·cases h
def Gm (wf:gM H){s d:TypeId}(h:lG P H s d x=some v):(∀r,r∈aL x->r<H.A)/\∀H2:Xn,(∀r,r∈aL x->H2.get r=H.get r)->lG P H2 s d x=some v:=by
 have bytes:∀y:W9,ny P H s d y=some v->(∀r,r∈aL y->r<H.A)/\∀H2:Xn,(∀r,r∈aL y->H2.get r=H.get r)->ny P H2 s d y=some v:=by
  intro y h;unfold ny at h;split at h
  ·rename_i hsb;simp only[SW]at h;obtain⟨nl,hs,h⟩:=h;obtain⟨h1,h2⟩:=xB wf hs;refine⟨h1,fun H2 ha=>?_⟩;unfold ny;rw[SU hsb,h2 H2 ha];exact h
  ·cases h
 unfold lG at h;split at h
 ·exact bytes _ h
 ·exact bytes _ h
 ·rename_i hne1 hne2;refine⟨fun r hr=>?_,fun H2 _=>?_⟩
  ·unfold lF at h;split at h
   ·rename_i a ha;cases x<;>simp_all[aL,W9.cW]
   ·cases h
  ·unfold lG;split
   ·exact absurd rfl (hne1 _ _ _ _ _)
   ·exact absurd rfl (hne2 _ _)
   ·exact h
def AV (wf:gM H)(h:ak P G ρ H H.A o=some (v,H')):Local P G ρ H o v H' (cq P G ρ H.A o):=by
 cases o with
 |makeMap t r =>
  simp only[ak]at h;split at h
  ·simp only[SO,Prod.mk.injEq]at h;obtain⟨H3,hl,rfl,rfl⟩:=h;refine qm hl (by simp[cq]) cS fun H2 _ H2' hl2=>?_;simp only[ak,hl2,Option.map_some]
  ·cases h
 |lookup t x i ok =>
  simp only[ak,SO,Prod.mk.injEq]at h;obtain⟨v',hv,rfl,rfl⟩:=h;have hfp:cq P G ρ H.A (.lookup t x i ok)=⟨[],eQ (aw G ρ x)⟩:=rfl;rw[hfp];unfold pV at hv;split at hv
  ·rename_i hm;split at hv
   ·rename_i hx hi;refine dq (by rw[hx];exact cS) fun H2 _=>?_;simp only[ak,pV,hm,if_true,hx,hi];simp only[Option.some.injEq]at hv;simp[hv]
   ·rename_i id k hx hi;split at hv
    ·rename_i es hg;refine dq (by rw[hx];exact gO (wf _ _ hg)) fun H2 h2=>?_;have hg2:H2.get id=some (.mp es):=(by rw[h2 id (by rw[hx];simp[eQ])];exact hg);simp only[ak,pV,hm,if_true,hx,hi,hg2];simp only[Option.some.injEq]at hv;simp[hv]
    ·cases hv
   ·cases hv
  ·cases hv
 |mapUpdate t m k x=>exact AU wf (by simp only[ak]at h;exact h) (by rfl) fun H2=>rfl
 |insert t m k x=>exact AU wf (by simp only[ak]at h;exact h) (by rfl) fun H2=>rfl
 |mapEntry t m k =>
  simp only[ak]at h;have hfp:cq P G ρ H.A (.mapEntry t m k)=⟨eQ (aw G ρ m),eQ (aw G ρ m)⟩:=rfl;rw[hfp];unfold oL at h;split at h
  ·rename_i hm;split at h
   ·rename_i id k' hx hk;split at h
    ·rename_i es hg;have hg2:∀H2:Xn,(∀r,r∈eQ (aw G ρ m)->H2.get r=H.get r)->H2.get id=some (.mp es):=fun H2 h2=>by rw[h2 id (by rw[hx];simp[eQ])];exact hg
     split at h
     ·rename_i n u hf;simp only[Option.some.injEq,Prod.mk.injEq]at h;obtain⟨rfl,rfl⟩:=h;refine nK (by rw[hx];simp[eQ]) (by rw[hx];simp[eQ]) (by rw[hx];exact gO (wf _ _ hg)) fun H2 h2=>?_;simp only[ak,oL,hm,if_true,hx,hk,hg2 H2 h2,hf]
     ·rename_i hf;simp only[Option.some.injEq,Prod.mk.injEq]at h;obtain⟨rfl,rfl⟩:=h;refine nK (by rw[hx];simp[eQ]) (by rw[hx];simp[eQ]) (by rw[hx];exact gO (wf _ _ hg)) fun H2 h2=>?_;simp only[ak,oL,hm,if_true,hx,hk,hg2 H2 h2,hf]
    ·cases h
   ·cases h
  ·cases h
 |entryStore t m s x =>
  simp only[ak]at h;have hfp:cq P G ρ H.A (.entryStore t m s x)=⟨eQ (aw G ρ m),eQ (aw G ρ m)⟩:=rfl;rw[hfp];unfold pW at h;split at h
  ·rename_i id s' u hx hs hu;split at h
   ·rename_i es hg;split at h
    ·rename_i hlt;simp only[Option.some.injEq,Prod.mk.injEq]at h;obtain⟨rfl,rfl⟩:=h;refine nK (by rw[hx];simp[eQ]) (by rw[hx];simp[eQ]) (by rw[hx];exact gO (wf _ _ hg)) fun H2 h2=>?_;have hg2:H2.get id=some (.mp es):=(by rw[h2 id (by rw[hx];simp[eQ])];exact hg);simp only[ak,pW,hx,hs,hu,hg2];rw[SU hlt]
    ·cases h
   ·cases h
  ·cases h
 |alloc e =>
  simp only[ak,SW,SO,Prod.mk.injEq]at h;obtain⟨z,hz,H3,hl,rfl,rfl⟩:=h;refine qm hl (by simp[cq]) cS fun H2 _ H2' hl2=>?_;simp only[ak,hz,hl2,Option.bind_some,Option.map_some]
 |box e x =>
  simp only[ak,SO,Prod.mk.injEq]at h;obtain⟨H3,hl,rfl,rfl⟩:=h;refine qm hl (by simp[cq]) cS fun H2 _ H2' hl2=>?_;simp only[ak,hl2,Option.map_some]
 |buildSlice t len parts =>
  simp only[ak,nu]at h;split at h
  ·rename_i e he;split at h
   ·rename_i hc;simp only[SW,SO,Prod.mk.injEq]at h;obtain⟨z,hz,cells,hcl,H3,hl,rfl,rfl⟩:=h;refine qm hl (by simp[cq]) cS fun H2 _ H2' hl2=>?_;simp only[ak,nu,he];rw[SU hc];simp only[hz,hcl,hl2,Option.bind_some,Option.map_some]
   ·cases h
  ·cases h
 |makeSlice t l c =>
  simp only[ak,mo]at h;split at h
  ·rename_i e k l' k' c' he hl' hc';split at h
   ·rename_i hc;simp only[SW,SO,Prod.mk.injEq]at h;obtain⟨cells,hz,H3,hl,rfl,rfl⟩:=h;refine qm hl (by simp[cq]) cS fun H2 _ H2' hl2=>?_;simp only[ak,mo,he,hl',hc'];rw[SU hc];simp only[hz,hl2,Option.bind_some,Option.map_some]
   ·cases h
  ·cases h
 |store t a x =>
  simp only[ak]at h;split at h
  ·rename_i hu;simp only[SO,Prod.mk.injEq]at h;obtain⟨H3,hst,rfl,rfl⟩:=h;obtain⟨id,gen,off,g,e,cells,ha,hg,cells',rfl,hall⟩:=Gf hst;have hfp:cq P G ρ H.A (.store t a x)=⟨[id],[id]⟩:=(by simp only[cq,ha,aL]);rw[hfp];refine nK W5 W5 (gO (wf _ _ hg)) fun H2 h2=>?_;simp only[ak,hu,if_true,hall H2 (h2 id W5),Option.map_some]
  ·cases h
 |load t p =>
  simp only[ak,SO,Prod.mk.injEq]at h;obtain⟨v',hv,rfl,rfl⟩:=h;refine dq (Ge wf hv) fun H2 h2=>?_;simp only[ak,Gd h2,hv,Option.map_some]
 |nilCheck p =>
  simp only[ak,SO,Prod.mk.injEq]at h;obtain⟨v',hv,rfl,rfl⟩:=h;have hv0:=hv;unfold lH at hv;split at hv
  ·rename_i id gen off hp;simp only[SO]at hv;obtain⟨ec,hl,hv⟩:=hv;have hfp:cq P G ρ H.A (.nilCheck p)=⟨[],[id]⟩:=(by simp only[cq,hp,aL]);rw[hfp];refine dq (gO (kG wf hl)) fun H2 h2=>?_;subst hv;simp only[ak,hp,lH,kH (h2 id W5),hl,Option.map_some]
  ·rename_i hp;have hfp:cq P G ρ H.A (.nilCheck p)=⟨[],[]⟩:=(by simp only[cq,hp,aL]);rw[hfp];refine dq cS fun H2 _=>?_;simp only[ak,hp,lH,Option.map_some,Option.some.injEq]at hv ⊢;rw[hv]
  ·rename_i hp;have hfp:cq P G ρ H.A (.nilCheck p)=⟨[],[]⟩:=(by simp only[cq,hp,aL]);rw[hfp];refine dq cS fun H2 _=>?_;simp only[ak,hp,lH,Option.map_some,Option.some.injEq]at hv ⊢;rw[hv]
  ·cases hv
 |slice t x lo hi mx =>
  simp only[ak]at h;split at h
  ·simp only[SO,Prod.mk.injEq]at h;obtain⟨v',hv,rfl,rfl⟩:=h;obtain⟨h1,h2⟩:=Gh wf hv;refine dq h1 fun H2 h3=>?_;simp only[ak,h2 H2 h3,Option.map_some]
  ·cases h
 |indexAddr t x i =>
  simp only[ak]at h;split at h
  ·rename_i k i' hi;simp only[SO,Prod.mk.injEq]at h;obtain⟨v',hv,rfl,rfl⟩:=h;obtain⟨h1,h2⟩:=Gg wf hv;refine dq h1 fun H2 h3=>?_;simp only[ak,hi,h2 H2 h3,Option.map_some]
  ·cases h
 |fieldAddr s x f =>
  simp only[ak,SW]at h;obtain⟨of,hof,h⟩:=h;split at h
  ·rename_i id gen off hx;simp only[SO,Prod.mk.injEq]at h;obtain⟨ec,hl,rfl,rfl⟩:=h;have hfp:cq P G ρ H.A (.fieldAddr s x f)=⟨[],[id]⟩:=(by simp only[cq,hx,aL]);rw[hfp];refine dq (gO (kG wf hl)) fun H2 h2=>?_;simp only[ak,hof,Option.bind_some,hx,kH (h2 id W5),hl,Option.map_some]
  ·rename_i cells off hx;simp only[Option.some.injEq,Prod.mk.injEq]at h;obtain⟨rfl,rfl⟩:=h;have hfp:cq P G ρ H.A (.fieldAddr s x f)=⟨[],[]⟩:=(by simp only[cq,hx,aL]);rw[hfp];refine dq cS fun H2 _=>?_;simp only[ak,hof,Option.bind_some,hx]
  ·cases h
 |call c =>
  have h0:=h;simp only[ak]at h;split at h
  ·rename_i b hb;unfold hJ at h;split at h
   ·rename_i t x hats hargs;simp only[SO,Prod.mk.injEq]at h;obtain⟨v',hv,rfl,rfl⟩:=h;obtain⟨h1,h2⟩:=Gi wf hv;have hfp:cq P G ρ H.A (.call c)=⟨[],mz P t x⟩:=(by simp only[cq,hb,hats,hargs,kF]);rw[hfp];refine dq h1 fun H2 h3=>?_;simp only[ak,hb,hats,hargs,hJ,h2 H2 h3,Option.map_some]
   ·rename_i hats hargs;exact Gj wf hb hats hargs h
   ·rename_i hats hargs;exact Gk wf hb hats hargs h
   ·rename_i hats hargs;exact Gl wf hb hats hargs h
   ·rename_i hats;simp only[SW,SO,Prod.mk.injEq]at h;obtain⟨vs,h1,v',h2,rfl,rfl⟩:=h;have hfp:cq P G ρ H.A (.call c)=⟨[],[]⟩:=(by simp only[cq,hb,kF]);rw[hfp];refine dq cS fun H2 _=>?_;simp only[ak,hb,hJ,h1,h2,Option.bind_some,Option.map_some]
   ·rename_i hats;simp only[SW,SO,Prod.mk.injEq]at h;obtain⟨vs,h1,v',h2,rfl,rfl⟩:=h;have hfp:cq P G ρ H.A (.call c)=⟨[],[]⟩:=(by simp only[cq,hb,kF]);rw[hfp];refine dq cS fun H2 _=>?_;simp only[ak,hb,hJ,h1,h2,Option.bind_some,Option.map_some]
   ·cases h
  ·cases h
 |pick c a b =>
  simp only[ak]at h;split at h
  ·rename_i t ht;simp only[Option.some.injEq,Prod.mk.injEq]at h;obtain⟨rfl,rfl⟩:=h;refine dq cS fun H2 _=>?_;simp only[ak,ht]
  ·cases h
 |makeFunc fn f c =>
  simp only[ak]at h;split at h
  ·simp only[Option.some.injEq,Prod.mk.injEq]at h;obtain⟨rfl,rfl⟩:=h;exact dq cS fun H2 _=>by simp only[ak]
  ·cases h
 |makeInterface t x =>
  simp only[ak]at h;split at h
  ·rename_i y hy;simp only[SO,Prod.mk.injEq]at h;obtain⟨v',hv,rfl,rfl⟩:=h;refine dq cS fun H2 _=>?_;simp only[ak,hy,hv,Option.map_some]
  ·cases h
 |field s x f =>
  simp only[ak,SW]at h;obtain⟨of,hof,h⟩:=h;split at h
  ·rename_i hx;simp only[SO,Prod.mk.injEq]at h;obtain⟨v',hv,rfl,rfl⟩:=h;refine dq cS fun H2 _=>?_;simp only[ak,hof,Option.bind_some,hx,hv,Option.map_some]
  ·rename_i hx;simp only[SO,Prod.mk.injEq]at h;obtain⟨v',hv,rfl,rfl⟩:=h;refine dq cS fun H2 _=>?_;simp only[ak,hof,Option.bind_some,hx,hv,Option.map_some]
  ·cases h
 |move x=>simp only[ak,Option.some.injEq,Prod.mk.injEq]at h;obtain⟨rfl,rfl⟩:=h;exact dq cS fun H2 _=>by simp only[ak]
 |assign x=>simp only[ak,Option.some.injEq,Prod.mk.injEq]at h;obtain⟨rfl,rfl⟩:=h;exact dq cS fun H2 _=>by simp only[ak]
 |build t p=>simp only[ak,SO,Prod.mk.injEq]at h;obtain⟨v',hv,rfl,rfl⟩:=h;exact dq cS fun H2 _=>by simp only[ak,hv,Option.map_some]
 |binOp a b c d e=>simp only[ak,SO,Prod.mk.injEq]at h;obtain⟨v',hv,rfl,rfl⟩:=h;exact dq cS fun H2 _=>by simp only[ak,hv,Option.map_some]
 |unOp a b c=>simp only[ak,SO,Prod.mk.injEq]at h;obtain⟨v',hv,rfl,rfl⟩:=h;exact dq cS fun H2 _=>by simp only[ak,hv,Option.map_some]
 |convert a b c =>
  simp only[ak,SO,Prod.mk.injEq]at h;obtain⟨v',hv,rfl,rfl⟩:=h;obtain⟨h1,h2⟩:=Gm wf hv;refine dq h1 fun H2 ha=>?_;simp only[ak,h2 H2 ha,Option.map_some]
 |index a b c=>simp only[ak,SO,Prod.mk.injEq]at h;obtain⟨v',hv,rfl,rfl⟩:=h;exact dq cS fun H2 _=>by simp only[ak,hv,Option.map_some]
 |extract a b=>simp only[ak,SO,Prod.mk.injEq]at h;obtain⟨v',hv,rfl,rfl⟩:=h;exact dq cS fun H2 _=>by simp only[ak,hv,Option.map_some]
 |_=>simp[ak]at h
def AW {ρ':Env}(h:∀x,x∈o.operands->aw G ρ x=aw G ρ' x):ak P G ρ H id o=ak P G ρ' H id o:=by
 have hparts:∀(ps:Array (Nat × Operand)),(∀x,x∈(ps.toList.map (·.2)).toArray->aw G ρ x=aw G ρ' x)->ps.toList.map (fun p=>(p.1,aw G ρ p.2))=ps.toList.map (fun p=>(p.1,aw G ρ' p.2)):=by
  intro ps hp;refine Tf fun p hpm=>?_;rw[hp p.2 (by simpa using ⟨p.1,by simpa using hpm⟩)]
 have hlist:∀(ps:Array Operand),(∀x,x∈ps->aw G ρ x=aw G ρ' x)->ps.toList.map (aw G ρ)=ps.toList.map (aw G ρ'):=by
  intro ps hp;exact Tf fun p hpm=>hp p (by simpa using hpm)
 cases o with
 |build t ps=>simp only[ak];rw[hparts ps h]
 |buildSlice t len ps=>simp only[ak];rw[hparts ps h]
 |makeFunc fn f c =>
  simp only[ak];rw[hlist f fun x hx=>h x (by simp[Op.operands,hx]),hlist c fun x hx=>h x (by simp[Op.operands,hx])]
 |slice t x lo hi mx =>
  have hx:=h x (by simp[Op.operands]);have hlo:lo.map (aw G ρ)=lo.map (aw G ρ'):=by
   cases lo with
   |none=>rfl
   |some l=>simp only[Option.map_some];rw[h l (by simp[Op.operands])]
  have hhi:hi.map (aw G ρ)=hi.map (aw G ρ'):=by
   cases hi with
   |none=>rfl
   |some l=>simp only[Option.map_some];rw[h l (by simp[Op.operands])]
  simp only[ak,hx,hlo,hhi]
 |call c =>
  simp only[ak];rw[hlist c.args fun x hx=>h x (by
   simp only[Op.operands,Call.operands];split<;>simp[hx])]
 |pick c a b=>simp only[ak,h c (by simp[Op.operands]),h a (by simp[Op.operands]),h b (by simp[Op.operands])]
 |store t a x=>simp only[ak,h a (by simp[Op.operands]),h x (by simp[Op.operands])]
 |binOp op t x y u=>simp only[ak,h x (by simp[Op.operands]),h y (by simp[Op.operands])]
 |makeSlice t l c=>simp only[ak,h l (by simp[Op.operands]),h c (by simp[Op.operands])]
 |indexAddr t x i=>simp only[ak,h x (by simp[Op.operands]),h i (by simp[Op.operands])]
 |index t x i=>simp only[ak,h x (by simp[Op.operands]),h i (by simp[Op.operands])]
 |move x=>simp only[ak,h x (by simp[Op.operands])]
 |assign x=>simp only[ak,h x (by simp[Op.operands])]
 |box e x=>simp only[ak,h x (by simp[Op.operands])]
 |load e x=>simp only[ak,h x (by simp[Op.operands])]
 |nilCheck x=>simp only[ak,h x (by simp[Op.operands])]
 |unOp a b x=>simp only[ak,h x (by simp[Op.operands])]
 |convert a b x=>simp only[ak,h x (by simp[Op.operands])]
 |makeInterface t x=>simp only[ak,h x (by simp[Op.operands])]
 |fieldAddr s x f=>simp only[ak,h x (by simp[Op.operands])]
 |field s x f=>simp only[ak,h x (by simp[Op.operands])]
 |extract x i=>simp only[ak,h x (by simp[Op.operands])]
 |lookup t x i ok=>simp only[ak,h x (by simp[Op.operands]),h i (by simp[Op.operands])]
 |mapUpdate t m k x=>simp only[ak,h m (by simp[Op.operands]),h k (by simp[Op.operands]),h x (by simp[Op.operands])]
 |insert t m k x=>simp only[ak,h m (by simp[Op.operands]),h k (by simp[Op.operands]),h x (by simp[Op.operands])]
 |mapEntry t m k=>simp only[ak,h m (by simp[Op.operands]),h k (by simp[Op.operands])]
 |entryStore t m s x=>simp only[ak,h m (by simp[Op.operands]),h s (by simp[Op.operands]),h x (by simp[Op.operands])]
 |_=>rfl
end Go.Hx
namespace Go.Hx
variable {P:Program} {G:Nat->Option (List W9)} {Γ Γ':aC} {H H':Xn} {w w':World}
variable {ρ:Env}{r:Nat}{g:Nat->Option Xe}{e:Option (Nat × Xe)}{x:Option Tmp}{t:Tmp}{v:W9}
def bp (P:Program)(G:Nat->Option (List W9))(fv:W9)(args:List W9)(H:Xn)(v:W9)(rs:List Nat):Prop :=
 (∀r,r∈rs->r<H.A)/\∀H2:Xn,(∀r,r∈rs->H2.get r=H.get r)->H.A<=H2.A->az P G fv args H2 fun r H3=>r=.ret v/\H3=H2
def bF (P:Program)(G:Nat->Option (List W9))(o:Oper)(K:FP->St->Prop)(s:St):Prop :=
 match o.op with
 |.call { callee:=.value fv,args,.. }=>∃v rs,bp P G (aw G s.ρ fv) (args.toList.map (aw G s.ρ)) s.H v rs/\K ⟨[],rs⟩ ⟨aQ s.ρ o.dst v,s.H⟩
 |op=>bh (ak P G s.ρ s.H s.H.A op) fun vH=>K (cq P G s.ρ s.H.A op) ⟨aQ s.ρ o.dst vH.1,vH.2⟩
def iA (i:Nat)(f:FP)(acc:List (Nat × FP)):List (Nat × FP) :=
 match f with
 |⟨[],[]⟩=>acc
 |f=>(i,f) :: acc
def je (b:Nat)(f:FP)(acc:List (Nat × FP)):Prop :=
 ∀p,p∈acc->b.testBit p.1=false->(∀r,r∈f.nt->r ∉ p.2.rs)/\(∀r,r∈p.2.nt->r ∉ f.rs)
def dI (P:Program)(G:Nat->Option (List W9))(all:Array Oper)(tail:St->Prop):List Nat->Nat->List (Nat × FP)->List Oper->St->Prop
 |b :: bs,i,acc,o :: rest,s=>bh (gL all s.ρ o) fun t=>if t=true then bF P G o (fun f s'=>je b f acc/\dI P G all tail bs (i+1) (iA i f acc) rest s') s
   else dI P G all tail bs (i+1) acc rest ⟨aQ s.ρ o.dst (.lit undef),s.H⟩
 |_,_,_,[],s=>tail s
 | [],_,_,_ :: _,_=>False
def xC (o:Oper):List Nat:=(o.after.toList.filter fun e=>Region.binds .any e).map (·.on)
def tX (x:Option Tmp)(l:List Tmp):Bool:=match x with|some d=>!l.contains d|none=>true
def tY (all:Array Oper)(x y:Oper):Bool :=
 tX x.dst (y.looksAt all) && tX y.dst (x.looksAt all) && (match x.dst with|some d=>y.dst != some d|none=>true)
def ea (bs:List Nat)(i:Nat):Nat:=(bs[i]?).getD 0
def xD (bs:List Nat)(i:Nat)(o:Oper):Bool :=
 let es:=xC o
 let b:=ea bs i
 es.all (fun e=>decide (e<i)) && decide (b<2 ^ i) &&
 (List.range i).all (fun j=>!b.testBit j ||es.any fun e=>e == j ||(ea bs e).testBit j)
def rT (all:Array Oper)(bs:List Nat)(K:Nat):Bool :=
 decide (bs.length=K) && decide (K<=all.size) &&
 (List.range all.size).all (fun i=>match all[i]? with|some o=>xD (bs++(List.range' K (all.size-K)).map fun m=>2 ^ m-1) i o|none=>false) &&
 (List.range K).all fun i=>match all[i]? with
  |some o=>(List.range i).all fun j=>(ea bs i).testBit j ||(match all[j]? with|some o'=>tY all o' o|none=>false)
  |none=>false
structure Dt where
 v:W9
 e:Option (Nat × Xe)
 al:Bool
 f:FP
def gP (all:Array Oper)(i:Nat):Option Tmp:=(all[i]?).bind (·.dst)
def ba (all:Array Oper)(d:Nat->Dt)(ρ0:Env):Nat->(Nat->Bool)->Env
 |0,_=>ρ0
 |n+1,D=>if D n then aQ (ba all d ρ0 n D) (gP all n) (d n).v else ba all d ρ0 n D
def aT (d:Nat->Dt)(g0:Nat->Option Xe):Nat->(Nat->Bool)->Nat->Option Xe
 |0,_=>g0
 |n+1,D=>if D n then eT (d n).e (aT d g0 n D) else aT d g0 n D
def aG (d:Nat->Dt):Nat->Nat
 |0=>0
 |n+1=>aG d n+(if (d n).al then 1 else 0)
def dJ (x:Dt):Option Nat:=x.e.map (·.1)
def qo (h:e.map (·.1)≠some r):eT e g r=g r:=by
 cases e with
 |none=>rfl
 |some kb =>
  simp only[eT];rw[SQ];rintro rfl;exact h rfl
def qp (h:x≠some t):aQ ρ x v t=ρ t:=by
 cases x with
 |none=>rfl
 |some d =>
  simp only[aQ];rw[SQ];rintro rfl;exact h rfl
def tZ {ρ':Env}(h:ρ t=ρ' t):aQ ρ x v t=aQ ρ' x v t:=by
 cases x with
 |none=>exact h
 |some d=>simp only[aQ,h]
def uc {g':Nat->Option Xe}(h:g r=g' r):eT e g r=eT e g' r:=by
 cases e with
 |none=>exact h
 |some kb=>simp only[eT,h]
def AY {y:Option Tmp}{u:W9}(h:∀d,x=some d->y≠some d):aQ (aQ ρ x v) y u=aQ (aQ ρ y u) x v:=by
 funext t
 by_cases hx:x=some t
 ·rw[qp (h t hx)];exact tZ (qp (h t hx)).symm
 ·rw[qp (ρ:=aQ ρ y u) hx];exact tZ (qp hx)
def Gn {e':Option (Nat × Xe)}(h:∀r,e.map (·.1)=some r->e'.map (·.1)≠some r):eT e' (eT e g)=eT e (eT e' g):=by
 funext r
 by_cases hx:e.map (·.1)=some r
 ·rw[qo (h r hx)];exact uc (qo (h r hx)).symm
 ·rw[qo (g:=eT e' g) hx];exact uc (qo hx)
section
variable {all:Array Oper} {d d':Nat->Dt} {ρ0:Env} {g0 g0':Nat->Option Xe} {D D':Nat->Bool}
def oN {t:Tmp}:∀ {n:Nat},(∀j,j<n->gP all j=some t->D j=D' j)->ba all d ρ0 n D t=ba all d ρ0 n D' t:=by
 intro n
 induction n with
 |zero=>intro _;rfl
 |succ n ih =>
  intro h;have h0:=ih fun j hj=>h j O;simp only[ba];by_cases hd:gP all n=some t
  ·rw[h n O hd];split
   ·exact tZ h0
   ·exact h0
  ·have:∀(b:Bool) (ρ:Env),(if b=true then aQ ρ (gP all n) (d n).v else ρ) t=ρ t:=by
    intro b ρ;split
    ·exact qp hd
    ·rfl
   rw[this,this];exact h0
def wV {m:Nat}:∀ {n:Nat},m<=n->ba all d ρ0 n (fun j=>decide (j<m))=ba all d ρ0 m fun _=>true:=by
 have low:∀k,k<=m->ba all d ρ0 k (fun j=>decide (j<m))=ba all d ρ0 k fun _=>true:=by
  intro k
  induction k with
  |zero=>intro _;rfl
  |succ k ih =>
   intro hk;simp only[ba];rw[ih O,SU (by simp;omega)];simp
 intro n
 induction n with
 |zero =>
  intro hm;obtain rfl:m=0:=O
  exact low 0 (O)
 |succ n ih =>
  intro hm;by_cases h:m=n+1
  ·subst h;exact low (n+1) (O)
  ·simp only[ba];rw[SQ (by simp;omega)];exact ih (O)
def oO {r:Nat}:∀ {n:Nat},(∀j,j<n->dJ (d j)=some r->D j=D' j)->aT d g0 n D r=aT d g0 n D' r:=by
 intro n
 induction n with
 |zero=>intro _;rfl
 |succ n ih =>
  intro h;have h0:=ih fun j hj=>h j O;simp only[aT];by_cases hd:dJ (d n)=some r
  ·rw[h n O hd];split
   ·exact uc h0
   ·exact h0
  ·have:∀(b:Bool) (g:Nat->Option Xe),(if b=true then eT (d n).e g else g) r=g r:=by
    intro b g;split
    ·exact qo hd
    ·rfl
   rw[this,this];exact h0
def wW {m:Nat}:∀ {n:Nat},m<=n->aT d g0 n (fun j=>decide (j<m))=aT d g0 m fun _=>true:=by
 have low:∀k,k<=m->aT d g0 k (fun j=>decide (j<m))=aT d g0 k fun _=>true:=by
  intro k
  induction k with
  |zero=>intro _;rfl
  |succ k ih =>
   intro hk;simp only[aT];rw[ih O,SU (by simp;omega)];simp
 intro n
 induction n with
 |zero =>
  intro hm;obtain rfl:m=0:=O
  exact low 0 (O)
 |succ n ih =>
  intro hm;by_cases h:m=n+1
  ·subst h;exact low (n+1) (O)
  ·simp only[aT];rw[SQ (by simp;omega)];exact ih (O)
def rG {r:Nat}:∀ {n:Nat},(g0 r=g0' r\/∃j,j<n/\D j=true/\dJ (d j)=some r)->aT d g0 n D r=aT d g0' n D r:=by
 intro n
 induction n with
 |zero =>
  rintro(h|⟨j,hj,_⟩)
  ·exact h
  ·omega
 |succ n ih =>
  intro h;simp only[aT];by_cases hD:D n=true
  ·rw[SU hD,SU hD];by_cases ht:dJ (d n)=some r
   ·cases he:(d n).e with
    |none=>simp[dJ,he]at ht
    |some kb =>
     simp only[dJ,he,Option.map_some,Option.some.injEq]at ht;simp only[eT];rw[SU ht.symm,SU ht.symm]
   ·refine uc (ih ?_);rcases h with h|⟨j,hj,h1,h2⟩
    ·exact .inl h
    ·by_cases hjn:j=n
     ·subst hjn;exact absurd h2 ht
     ·exact .inr ⟨j,O,h1,h2⟩
  ·rw[SQ hD,SQ hD];refine ih ?_;rcases h with h|⟨j,hj,h1,h2⟩
   ·exact .inl h
   ·by_cases hjn:j=n
    ·subst hjn;exact absurd h1 hD
    ·exact .inr ⟨j,O,h1,h2⟩
def wX {r:Nat}:∀ {n:Nat},(∀j,j<n->D j=true->dJ (d j)≠some r)->aT d g0 n D r=g0 r:=by
 intro n
 induction n with
 |zero=>intro _;rfl
 |succ n ih =>
  intro h;simp only[aT];split
  ·rename_i hD;rw[qo (h n O hD)];exact ih fun j hj=>h j (O)
  ·exact ih fun j hj=>h j (O)
def bW (D:Nat->Bool)(i:Nat):Nat->Bool:=fun j=>if j=i then true else D j
def wY {i:Nat}(hD:D i=false):∀ {n:Nat},i<n->(∀j,i<j->j<n->D j=true->∀t,gP all i=some t->gP all j≠some t) ->
  ba all d ρ0 n (bW D i)=aQ (ba all d ρ0 n D) (gP all i) (d i).v:=by
 intro n
 induction n with
 |zero=>intro h;omega
 |succ n ih =>
  intro hi h;by_cases hin:i=n
  ·subst hin;have h0:ba all d ρ0 i (bW D i)=ba all d ρ0 i D:=funext fun t=>oN fun j hj _=>by simp[bW,VI hj]
   simp only[ba];rw[SU (by simp[bW]),SQ (by simp[hD]),h0]
  ·have hw:bW D i n=D n:=(by simp[bW,Ne.symm hin]);have h0:=ih O fun j h1 h2=>h j h1 O;simp only[ba,hw];split
   ·rename_i hDn;rw[h0];exact AY (h n O O hDn)
   ·exact h0
def wZ {i:Nat}(hD:D i=false):∀ {n:Nat},i<n->(∀j,i<j->j<n->D j=true->∀t,dJ (d i)=some t->dJ (d j)≠some t) ->
  aT d g0 n (bW D i)=eT (d i).e (aT d g0 n D):=by
 intro n
 induction n with
 |zero=>intro h;omega
 |succ n ih =>
  intro hi h;by_cases hin:i=n
  ·subst hin;have h0:aT d g0 i (bW D i)=aT d g0 i D:=funext fun t=>oO fun j hj _=>by simp[bW,VI hj]
   simp only[aT];rw[SU (by simp[bW]),SQ (by simp[hD]),h0]
  ·have hw:bW D i n=D n:=(by simp[bW,Ne.symm hin]);have h0:=ih O fun j h1 h2=>h j h1 O;simp only[aT,hw];split
   ·rename_i hDn;rw[h0];exact Gn (h n O O hDn)
   ·exact h0
def qd {m n:Nat}(h:m<=n):aG d m<=aG d n:=by
 induction n with
 |zero =>
  have:m=0:=O
  subst this;exact Nat.le_refl _
 |succ n ih =>
  by_cases hm:m=n+1
  ·subst hm;exact Nat.le_refl _
  ·exact Tw (ih O) (by simp[aG])
def rH {n c:Nat}(h:c<aG d n):∃j,j<n/\(d j).al=true/\aG d j=c:=by
 induction n with
 |zero=>simp[aG]at h
 |succ n ih =>
  by_cases hc:c<aG d n
  ·obtain⟨j,h1,h2⟩:=ih hc;exact⟨j,O,h2⟩
  ·simp only[aG]at h;cases hal:(d n).al with
   |false=>simp[hal]at h;omega
   |true =>
    simp only[hal,if_true]at h;exact⟨n,O,hal,O⟩
def lI {i n:Nat}(h:i<n)(hal:(d i).al=true):aG d i<aG d n:=by
 have:=qd (d:=d) (m:=i+1) (n:=n) h;simp only[aG,hal,if_true]at this;omega
def rI {n:Nat}(h:∀j,j<n->d j=d' j):ba all d ρ0 n D=ba all d' ρ0 n D:=by
 induction n with
 |zero=>rfl
 |succ n ih=>simp only[ba];rw[ih fun j hj=>h j O,h n O]
def rJ {n:Nat}(h:∀j,j<n->d j=d' j):aT d g0 n D=aT d' g0 n D:=by
 induction n with
 |zero=>rfl
 |succ n ih=>simp only[aT];rw[ih fun j hj=>h j O,h n O]
def fI {n:Nat}(h:∀j,j<n->d j=d' j):aG d n=aG d' n:=by
 induction n with
 |zero=>rfl
 |succ n ih=>simp only[aG];rw[ih fun j hj=>h j O,h n O]
end
def ExecOk (P:Program)(G:Nat->Option (List W9))(all:Array Oper)(o:Oper)(id:Nat)(s s':St):Prop :=
 (gL all s.ρ o=some false/\s'=⟨aQ s.ρ o.dst (.lit undef),s.H⟩) \/
 (gL all s.ρ o=some true/\∃v,s'.ρ=aQ s.ρ o.dst v /\
  (ak P G s.ρ s.H id o.op=some (v,s'.H) \/
   ∃fv args ats,o.op=.call ⟨.value fv,args,ats⟩/\s'.H=s.H/\az P G (aw G s.ρ fv) (args.toList.map (aw G s.ρ)) s.H fun r H3=>r=.ret v/\H3=s.H))
def xa {n:Nat}{wb:XE}{rd rb:Option Nat}{all:Array Oper}{o:Oper}{id i:Nat}{s s':St}{a:Act}{A:Act->World->Prop}{Q':Exit->Act->World->Prop}(ho:all[i]?=some o)(hd:fV n o=true)
  (hs:Xt P G n wb Γ s a w) (hr:dZ Γ s.H rd rb) (h:ExecOk P G all o id s s')
  (hnext:∀ Γ' a' w',Xt P G n wb Γ' s' a' w'->Xk Γ s.H w Γ' s'.H w'->s.H.A<=s'.H.A->dZ Γ' s'.H rd rb->(∃cv,a'=a.put o.dst cv)->A a' w'):
  wpOpIn (eP rb) 0 P all Q' i A a w:=by
 have hdst:∀d,o.dst=some d->d<n:=by
  intro d hd';unfold fV at hd;rw[hd']at hd;simpa using hd
 unfold wpOpIn;rw[ho];simp only;rcases h with ⟨hw,rfl⟩|⟨hw,v,hρ,h⟩
 ·rw[qh hs hw];simp only[Bool.false_eq_true,if_false];refine⟨fun _ _=>trivial,?_⟩;have hs':=kE (v:=.lit undef) (cv:=undef) hs hdst (Xk.refl Γ s.H w) W8 hs.heap (.lit _);exact hnext Γ _ w hs' (Xk.refl _ _ _) W8 hr ⟨_,rfl⟩
 ·rw[qh hs hw];simp only[if_true];obtain⟨ρ',H'⟩:=s';simp only at hρ;subst hρ;refine⟨fun _ _=>trivial,?_⟩;rcases h with hop|⟨fv,args,ats,hop,hH,hap⟩
  ·simp only at hop;rw[Oper.semAt_eq _ _ _ (fun c hc=>by rw[hc]at hop;simp[ak]at hop)];obtain⟨nx,cv,Γ',w',hrun,hnx,E,hn,R,hv⟩:=xu hs.heap (jb hs) hop;rw[hrun];have hri:=xy hr (xz hs.heap hop);have hs':=kE hs hdst E hn R hv;have hr':=hr.bb E hn hs.heap hri;rcases hnx with rfl|⟨rfl,rfl⟩
   ·exact hnext Γ' _ w' hs' E hn hr' ⟨_,rfl⟩
   ·exact hnext Γ' _ w' hs' E hn hr' ⟨_,rfl⟩
  ·simp only at hH;subst hH;rw[Oper.semAt_eq _ _ _ (fun c hc=>by rw[hc]at hop;cases hop)];obtain⟨d,h1,h2⟩:=hap Γ w (a.eval fv) (args.map a.eval) hs.heap (jb hs fv) ⟨W5,fun i h1 h2=>by simp only[S9,Vd,TW];exact jb hs _⟩;have hex:(execOp a.eval o).run P w=(invoke d.target d.args).run P w:=by
    unfold execOp;simp only[hop];unfold resolve;simp only;rw[au h1]
   have hri:fD s.H rd:=by
    cases rd with
    |none=>trivial
    |some id =>
     obtain⟨b,st,pend,n,env,ps,asg,body,_,_,h3⟩:=hr;exact⟨_,_,_,_,_,_,_,h3⟩
   have cont:∀e w',jc P G Γ s.H w (fun r H3=>r=.ret v/\H3=s.H) e w'->(match e with
     |.returned v=>A (a.put o.dst v) w'
     |.panicked chain=>Q' (.panic chain) a w'
     |.outgrown=>LetsOut Q'):=by
    rintro e w' ⟨r,H',Γ',hend,⟨rfl,rfl⟩,R,E,hn⟩;have hr':=hr.bb E hn hs.heap hri;cases e with
    |returned cv=>exact hnext Γ' _ w' (kE hs hdst E hn R hend) E hn hr' ⟨_,rfl⟩
    |panicked chain=>exact hend.elim
    |outgrown=>exact hend.elim
   rw[hex];rcases h2 with ⟨f,as,h3,h4⟩|⟨l,f,tm,asg,body,h3,h4⟩|⟨cv,w',h3,h4⟩
   ·rw[h3];refine⟨fun hc=>by simp[Fence.wide]at hc,?_⟩;have h4':CallsIn (eP rb) 0 P f as w _:=h4;refine h4'.mono ?_;intro e w' hp;have:=cont e w' hp;cases e<;>exact this
   ·rw[h3];refine⟨fun hc=>by simp[Fence.wide]at hc,?_⟩;have h4':RoundIn (eP rb) 0 P l f tm asg body w _:=h4;refine h4'.mono ?_;intro e w' hp;have:=cont e w' hp;cases e<;>exact this
   ·rw[h3];exact cont (.returned cv) w' h4
def mr (d:Nat->Dt)(H0:Xn)(m:Nat):Xn:=⟨aT d H0.get m fun _=>true,H0.A+aG d m⟩
def canon (all:Array Oper)(d:Nat->Dt)(s0:St)(m:Nat):St:=⟨ba all d s0.ρ m fun _=>true,mr d s0.H m⟩
structure Xp (P:Program)(G:Nat->Option (List W9))(all:Array Oper)(bs:List Nat)(s0:St)(d:Nat->Dt)(i:Nat):Prop where
 step:∀o,all[i]?=some o->∀ ρ2 H2,(∀t,t∈o.looksAt all->ρ2 t=(canon all d s0 i).ρ t)->(∀r,r∈(d i).f.rs->H2.get r=(canon all d s0 i).H.get r) ->
  ((d i).al=true->H2.get (s0.H.A+aG d i)=some .nm/\s0.H.A+aG d i≠H2.A)->s0.H.A+aG d i<=H2.A ->
  ExecOk P G all o (s0.H.A+aG d i) ⟨ρ2,H2⟩ ⟨aQ ρ2 o.dst (d i).v,⟨eT (d i).e H2.get,H2.A⟩⟩
 nt:∀k b,(d i).e=some (k,b)->k∈(d i).f.nt/\((d i).al=false->k∈(d i).f.rs)
 al:(d i).al=true->∃b,(d i).e=some (s0.H.A+aG d i,b)
 lt:∀r,r∈(d i).f.rs->r<s0.H.A+aG d i
 apart:∀j,j<i->(ea bs i).testBit j=false->(∀r,r∈(d i).f.nt->r ∉ (d j).f.rs)/\(∀r,r∈(d j).f.nt->r ∉ (d i).f.rs)
def qq {all:Array Oper}{o:Oper}{ρ ρ':Env}(h:∀t,t∈o.looksAt all->ρ' t=ρ t):gL all ρ' o=gL all ρ o:=by
 unfold gL;cases hg:o.guard with
 |none=>rfl
 |some gw =>
  obtain⟨j,want⟩:=gw;simp only;cases hd:(all[j]?).bind (·.dst) with
  |none=>rfl
  |some d =>
   simp only;rw[h d (by simp[Oper.looksAt,hg,hd])]
def ud {all:Array Oper}{o:Oper}{ρ ρ':Env}(h:∀t,t∈o.looksAt all->ρ' t=ρ t):∀x,x∈o.op.operands->aw G ρ' x=aw G ρ x:=by
 intro x hx;cases x with
 |tmp t=>exact h t (Ve _ (List.mem_filterMap.2 ⟨.tmp t,by simpa using hx,rfl⟩))
 |_=>rfl
def b7 (d:Nat->Dt)(m:Nat)(x:Dt):Nat->Dt:=fun j=>if j=m then x else d j
def hZ {d:Nat->Dt}{m:Nat}{x:Dt}{i:Nat}(h:i<m):d i=b7 d m x i:=by simp[b7,VI h]
def cY {d:Nat->Dt}{m:Nat}{x:Dt}:b7 d m x m=x:=by simp[b7]
def mu {all:Array Oper}{d d':Nat->Dt}{s0:St}{m:Nat}(h:∀j,j<m->d j=d' j):canon all d s0 m=canon all d' s0 m:=by
 unfold canon mr;rw[rI h,rJ h,fI h]
def Xp.below {all:Array Oper}{bs:List Nat}{s0:St}{d d':Nat->Dt}{i:Nat}(g:Xp P G all bs s0 d i)(h:∀j,j<=i->d j=d' j):Xp P G all bs s0 d' i:=by
 have hi:=h i W8;have hn:aG d i=aG d' i:=fI fun j hj=>h j O;have hc:canon all d s0 i=canon all d' s0 i:=mu fun j hj=>h j O;obtain⟨a,b,c,e,f⟩:=g;refine⟨?_,?_,?_,?_,?_⟩
 ·rw[<- hi,<- hn,<- hc];exact a
 ·rw[<- hi];exact b
 ·rw[<- hi,<- hn];exact c
 ·rw[<- hi,<- hn];exact e
 ·intro j hj hb;rw[<- hi,<- h j O];exact f j hj hb
def kB (d:Nat->Dt)(m:Nat)(acc:List (Nat × FP)):Prop:=∀j,j<m->(d j).f=⟨[],[]⟩\/(j,(d j).f)∈acc
def kB.add {d:Nat->Dt}{m:Nat}{acc:List (Nat × FP)}(h:kB d m acc)(x:Dt):kB (b7 d m x) (m+1) (iA m x.f acc):=by
 intro j hj;have key:∀p,p∈acc->p∈iA m x.f acc:=by
  intro p hp;unfold iA;split
  ·exact hp
  ·exact UN _ hp
 by_cases hjm:j=m
 ·subst hjm;rw[cY];by_cases hf:x.f=⟨[],[]⟩
  ·exact .inl hf
  ·refine .inr ?_;unfold iA;split
   ·rename_i h0;exact absurd h0 hf
   ·exact V6
 ·rw[<- hZ (x:=x) O];exact(h j O).imp id (key _)
def rK {d:Nat->Dt}{m:Nat}{acc:List (Nat × FP)}{b:Nat}{f:FP}(hc:kB d m acc)(h:je b f acc):∀j,j<m->b.testBit j=false->(∀r,r∈f.nt->r ∉ (d j).f.rs)/\(∀r,r∈(d j).f.nt->r ∉ f.rs):=by
 intro j hj hb;rcases hc j hj with h0|h1
 ·rw[h0];exact⟨fun r _ h=>(by cases h),fun r h=>(by cases h)⟩
 ·exact h _ h1 hb
def oS {all:Array Oper}{d:Nat->Dt}{s0:St}{m:Nat}{x:Dt}{o:Oper}(ho:all[m]?=some o):
  canon all (b7 d m x) s0 (m+1)=⟨aQ (canon all d s0 m).ρ o.dst x.v,⟨eT x.e (canon all d s0 m).H.get,(canon all d s0 m).H.A+(if x.al then 1 else 0)⟩⟩:=by
 have hb:∀j,j<m->d j=b7 d m x j:=fun j hj=>hZ hj;unfold canon mr;simp only[ba,aT,aG,if_true,cY];rw[<- rI hb,<- rJ hb,<- fI hb];simp only[gP,ho,Option.bind_some,UJ]
def oT {all:Array Oper}{bs:List Nat}{s0:St}{d:Nat->Dt}{m:Nat}{x:Dt}(hg:∀i,i<m->Xp P G all bs s0 d i)(hx:Xp P G all bs s0 (b7 d m x) m):
  ∀i,i<m+1->Xp P G all bs s0 (b7 d m x) i:=by
 intro i hi;by_cases him:i=m
 ·subst him;exact hx
 ·exact(hg i O).below fun j hj=>hZ (O)
def trace {all:Array Oper}{bs:List Nat}{s0:St}{tail:St->Prop}{K:Nat}(hbs:bs.length=K)(hK:K<=all.size):∀(k m:Nat) (d:Nat->Dt) (acc:List (Nat × FP)),k+m=K ->
  (∀i,i<m->Xp P G all bs s0 d i)->kB d m acc->gM (canon all d s0 m).H->dI P G all tail (bs.drop m) m acc ((all.toList.take K).drop m) (canon all d s0 m) ->
  ∃d',(∀i,i<K->Xp P G all bs s0 d' i)/\tail (canon all d' s0 K):=by
 intro k
 induction k with
 |zero =>
  intro m d acc hm hg hc wf h;obtain rfl:m=K:=O
  refine⟨d,hg,?_⟩;have:(all.toList.take m).drop m=[]:=by
   apply VU;simp only[Td];omega
  rw[this]at h;cases hb:bs.drop m with
  |nil=>rw[hb]at h;simpa only[dI] using h
  |cons b bs'=>rw[hb]at h;simpa only[dI] using h
 |succ k ih =>
  intro m d acc hm hg hc wf h;have hmK:m<K:=O
  have hms:m<all.size:=O
  have ho:all[m]?=some all[m]:=S6 hms;have hbm:bs.drop m=ea bs m :: bs.drop (m+1):=by
   rw[TI O];congr 1;simp[ea,SP (show m<bs.length by omega)]
  have hom:(all.toList.take K).drop m=all[m] :: (all.toList.take K).drop (m+1):=by
   rw[TI (by simp only[Td,UE];omega)];congr 1;simp
  rw[hbm,hom]at h;simp only[dI]at h;obtain⟨t,ht,h⟩:=h;have hnext:(canon all d s0 m).H.A=s0.H.A+aG d m:=rfl;cases t with
  |false =>
   simp only[Bool.false_eq_true,if_false]at h
   let x:Dt:=⟨.lit undef,none,false,⟨[],[]⟩⟩
   have hb:∀j,j<m->d j=b7 d m x j:=fun j hj=>hZ hj;have hcan:canon all (b7 d m x) s0 (m+1)=⟨aQ (canon all d s0 m).ρ all[m].dst (.lit undef),(canon all d s0 m).H⟩:=oS ho;have hgx:Xp P G all bs s0 (b7 d m x) m:=by
    refine⟨?_,?_,?_,?_,?_⟩
    ·rw[cY,<- mu hb];intro o ho' ρ2 H2 h1 h2 h3 _;rw[ho]at ho';cases ho';refine .inl ⟨?_,rfl⟩;simp only;rw[qq h1,ht]
    ·rw[cY];intro k b he;cases he
    ·rw[cY];intro he;cases he
    ·rw[cY];intro r hr;cases hr
    ·rw[cY];intro j hj hbit;exact⟨fun r hr=>(by cases hr),fun r hr hr'=>(by cases hr')⟩
   refine ih (m+1) (b7 d m x) acc O (oT hg hgx) (hc.add x) ?_ ?_
   ·rw[hcan];exact wf
   ·rw[hcan];exact h
  |true =>
   simp only[if_true]at h;unfold bF at h;split at h
   ·rename_i fv args ats hop;obtain⟨v,rs,⟨hlt,hcall⟩,hap,h⟩:=h
    let x:Dt:=⟨v,none,false,⟨[],rs⟩⟩
    have hb:∀j,j<m->d j=b7 d m x j:=fun j hj=>hZ hj;have hcan:canon all (b7 d m x) s0 (m+1)=⟨aQ (canon all d s0 m).ρ all[m].dst v,(canon all d s0 m).H⟩:=oS ho;have hgx:Xp P G all bs s0 (b7 d m x) m:=by
     refine⟨?_,?_,?_,?_,?_⟩
     ·rw[cY,<- mu hb];intro o ho' ρ2 H2 h1 h2 h3 h4;rw[ho]at ho';cases ho';refine .inr ⟨?_,v,rfl,.inr ⟨fv,args,ats,hop,rfl,?_⟩⟩
      ·simp only;rw[qq h1,ht]
      ·have hev:=ud (G:=G) h1;have e1:aw G ρ2 fv=aw G (canon all d s0 m).ρ fv:=hev fv (by simp[hop,Op.operands,Call.operands]);have e2:args.toList.map (aw G ρ2)=args.toList.map (aw G (canon all d s0 m).ρ) :=
        Tf fun y hy=>hev y (by simp only[hop,Op.operands,Call.operands];simp;exact .inr (by simpa using hy))
       simp only;rw[e1,e2];exact hcall H2 h2 (by rw[hnext,fI hb];exact h4)
     ·rw[cY];intro k b he;cases he
     ·rw[cY];intro he;cases he
     ·rw[cY,<- fI hb];exact hlt
     ·rw[cY];intro j hj hbit;rw[<- hZ hj];exact rK hc hap j hj hbit
    refine ih (m+1) (b7 d m x) _ O (oT hg hgx) (hc.add x) ?_ ?_
    ·rw[hcan];exact wf
    ·rw[hcan];exact h
   ·obtain⟨⟨v,H'⟩,hop,hap,h⟩:=h;obtain⟨e,al,hget,hnx,heff,hal,hlt,hloc⟩:=AV wf hop
    let x:Dt:=⟨v,e,al,cq P G (canon all d s0 m).ρ (canon all d s0 m).H.A all[m].op⟩
    have hb:∀j,j<m->d j=b7 d m x j:=fun j hj=>hZ hj;have hcan:canon all (b7 d m x) s0 (m+1)=⟨aQ (canon all d s0 m).ρ all[m].dst v,H'⟩:=by
     rw[oS ho];congr 1;cases H';simp only at hget hnx;simp only[Xn.mk.injEq];refine⟨hget.symm,?_⟩;rw[hnx];simp only[x];cases al<;>simp
    have hgx:Xp P G all bs s0 (b7 d m x) m:=by
     refine⟨?_,?_,?_,?_,?_⟩
     ·rw[cY,<- mu hb,<- fI hb];intro o ho' ρ2 H2 h1 h2 h3 h4;rw[ho]at ho';cases ho';refine .inr ⟨?_,v,rfl,.inl ?_⟩
      ·simp only;rw[qq h1,ht]
      ·simp only;rw[AW (ρ':=(canon all d s0 m).ρ) (ud h1)];exact hloc H2 h2 h3
     ·rw[cY];exact heff
     ·rw[cY,<- fI hb];exact hal
     ·rw[cY,<- fI hb];exact hlt
     ·rw[cY];intro j hj hbit;rw[<- hZ hj];exact rK hc hap j hj hbit
    have wf':gM H':=by
     intro id b hid;rw[hget]at hid;rw[hnx];cases e with
     |none =>
      have:=wf id b hid;split<;>omega
     |some kb =>
      obtain⟨k0,b0⟩:=kb;simp only[eT]at hid;split at hid
      ·rename_i hk;subst hk;cases al with
       |true =>
        obtain⟨b1,hb1⟩:=hal rfl;simp only[Option.some.injEq,Prod.mk.injEq]at hb1;simp only[if_true];omega
       |false =>
        have:=hlt _ ((heff id b0 rfl).2 rfl);simpa using this
      ·have:=wf id b hid;split<;>omega
    refine ih (m+1) (b7 d m x) _ O (oT hg hgx) (hc.add x) ?_ ?_
    ·rw[hcan];exact wf'
    ·rw[hcan];exact h
end Go.Hx
namespace Go.Hx
variable {P:Program} {G:Nat->Option (List W9)} {Γ Γ':aC} {H H':Xn} {w w':World}
variable {bs:List Nat}{K i j:Nat}{D:Nat->Bool}{d:Nat->Dt}{o:Oper}{s0:St}
structure XJ (all:Array Oper)(bs:List Nat)(K:Nat):Prop where
 len:bs.length=K
 le:K<=all.size
 down:∀i o,all[i]?=some o->∀e,e∈o.after->Region.binds .any e=true->e.on<i
 just:∀i o j,all[i]?=some o->(if i<K then (ea bs i).testBit j=true else j<i)->∃e,e∈o.after/\Region.binds .any e=true/\(e.on=j\/(if e.on<K then (ea bs e.on).testBit j=true else j<e.on))
 apart:∀i j oi oj,i<K->j<i->all[i]?=some oi->all[j]?=some oj->(ea bs i).testBit j=false->tY all oj oi=true
def A3 {k:Nat}:k∈xC o↔∃e,e∈o.after/\Region.binds .any e=true/\e.on=k:=by
 simp[xC,and_assoc]
def A4 {N:Nat}(hl:bs.length=K)(hi:i<N)(hK:K<=N):
  (ea (bs++(List.range' K (N-K)).map fun m=>2 ^ m-1) i).testBit j=true↔(if i<K then (ea bs i).testBit j=true else j<i):=by
 unfold ea;by_cases h:i<K
 ·rw[SU h,Ta O]
 ·rw[SQ h,Tu O,List.getElem?_map,List.getElem?_range' O];simp only[Option.map_some,Option.getD_some,UD,decide_eq_true_eq];have:K+1*(i-bs.length)=i:=O
  rw[this]
def A5 {all:Array Oper}(h:rT all bs K=true):XJ all bs K:=by
 unfold rT at h;simp only[Tv,decide_eq_true_eq,Tn,S7]at h;obtain⟨⟨⟨hlen,hle⟩,hone⟩,hap⟩:=h;have hlt:∀i o,all[i]?=some o->i<all.size:=fun i o ho=>(TO.1 ho).1;have hdown:∀i o,all[i]?=some o->∀e,e∈o.after->Region.binds .any e=true->e.on<i:=by
  intro i o ho e he hb;have h1:=hone i (hlt i o ho);rw[ho]at h1;simp only[xD,Tv,Tn,decide_eq_true_eq]at h1;exact h1.1.1 e.on (A3.2 ⟨e,he,hb,rfl⟩)
 refine⟨hlen,hle,hdown,?_,?_⟩
 ·intro i o j ho hj;have hi:=hlt i o ho;have h1:=hone i hi;rw[ho]at h1;simp only[xD,Tv,Tn,decide_eq_true_eq,S7]at h1;obtain⟨⟨_,hb⟩,h2⟩:=h1;have hbit:=(A4 (j:=j) hlen hi hle).2 hj;have hji:j<i:=by
   rcases Tg j i with h|h
   ·exact h
   ·have:=VT (SZ hb (Ti O h));rw[hbit]at this;cases this
  have h3:=h2 j hji;rw[hbit]at h3;simp only[Bool.not_true,Bool.false_or,Vj,Tx,beq_iff_eq]at h3;obtain⟨k,hk,h4⟩:=h3;obtain⟨e,he,hbe,rfl⟩:=A3.1 hk;refine⟨e,he,hbe,h4.imp id fun h5=>?_⟩;exact(A4 (j:=j) hlen (Nat.lt_trans (hdown i o ho e he hbe) hi) hle).1 h5
 ·intro i j oi oj hi hj hoi hoj hbit;have h1:=hap i hi;rw[hoi]at h1;simp only[Tn,S7]at h1;have h2:=h1 j hj;rw[hbit,hoj]at h2;simpa using h2
def A6 {x:Option Tmp}{l:List Tmp}{t:Tmp}(h:tX x l=true)(hx:x=some t):t ∉ l:=by
 subst hx;simpa[tX] using h
def qt {all:Array Oper}{x y:Oper}(h:tY all x y=true):(∀t,x.dst=some t->t ∉ y.looksAt all)/\(∀t,y.dst=some t->t ∉ x.looksAt all)/\(∀t,x.dst=some t->y.dst≠some t):=by
 simp only[tY,Tv]at h;obtain⟨⟨h1,h2⟩,h3⟩:=h;refine⟨fun t ht=>A6 h1 ht,fun t ht=>A6 h2 ht,fun t ht=>?_⟩;rw[ht]at h3;simpa using h3
def um (all:Array Oper)(L:Nat->Bool):Prop:=∀i o,L i=true->all[i]?=some o->∀e,e∈o.after->Region.binds .any e=true->L e.on=true
def XJ.ahead {all:Array Oper}(S:XJ all bs K){L:Nat->Bool}(hL:um all L):∀i o j,all[i]?=some o->(∀e,e∈o.after->Region.binds .any e=true->L e.on=true) ->
  (if i<K then (ea bs i).testBit j=true else j<i)->L j=true:=by
 intro i
 induction i using Nat.strongRecOn with
 |_ i ih =>
  intro o j ho hdir hj;obtain⟨e,he,hb,h⟩:=S.just i o j ho hj;have hon:=hdir e he hb;rcases h with rfl|h
  ·exact hon
  ·have hlt:=S.down i o ho e he hb;have hi:=(TO.1 ho).1;exact ih e.on hlt all[e.on] j (S6 O) (hL e.on _ hon (S6 O)) h
def bR (H:Xn)(k:Nat):Xn:=⟨fun j=>if H.A<=j/\j<H.A+k then some .nm else H.get j,H.A+k⟩
def rV (H:Xn)(k:Nat):Xk Γ H w Γ (bR H k) w where
 os:=rfl
 tape:=rfl
 output:=rfl
 size:=W8
 nb:=fun _ _ h=>⟨rfl,h⟩
 X:=fun id h1 _ x' hx=>by
  refine⟨x',?_,Xe.le_refl _ _ _⟩;simp only[bR]at hx;rw[SQ O]at hx;exact hx
 ny:=fun _ _=>rfl
 kind:=.refl _
 newb:=.refl _ _
def qu (w:World):Xk Γ H w Γ H { w with drawn:=w.drawn+1 } where
 os:=rfl
 tape:=rfl
 output:=rfl
 size:=W8
 nb:=fun _ _ h=>⟨rfl,h⟩
 X:=fun _ _ _ x' hx=>⟨x',hx,Xe.le_refl _ _ _⟩
 ny:=fun _ _=>rfl
 kind:=.refl _
 newb:=.refl _ _
def Xh.move (R:Xh P G Γ H w)(hheap:w'.heap=w.heap)(E:Xk Γ H w Γ H' w')(hn:H.A<=H'.A)(hget:∀id b,H'.get id=some b->H.get id=some b\/(b=.nm/\H.get id=none/\id<H'.A))(hsame:∀id b,H.get id=some b->H'.get id=some b):Xh P G Γ H' w' where
 J id g e cells hg:=by
  rcases hget _ _ hg with h|h
  ·have h1:=R.J id g e cells h;cases hΓ:Γ id with
   |none=>rw[hΓ]at h1;exact h1
   |some y =>
    obtain⟨b,base,n⟩:=y;rw[hΓ]at h1;obtain⟨c,a1,a2,a3,a4⟩:=h1;exact⟨c,by rw[hheap];exact a1,a2,a3,fun i hi=>let ⟨cv,b1,b2⟩:=a4 i hi;⟨cv,b1,b2.bb E hn⟩⟩
  ·cases h.1
 loop id st pend n env ps asg body hg:=by
  rcases hget _ _ hg with h|h
  ·obtain⟨b,rr,a1,a2,a3,a4,a5,a6,a7,a8,a9⟩:=R.loop id st pend n env ps asg body h;exact⟨b,rr,a1,by rw[hheap];exact a2,a3,a4,a5,a6,a7,a8,fun t ht=>(a9 t ht).bb E hn⟩
  ·cases h.1
 mp id es hg:=by
  rcases hget _ _ hg with h|h
  ·obtain⟨b,a1,a2⟩:=R.mp id es h;exact⟨b,a1,by rw[hheap];exact a2⟩
  ·cases h.1
 nm id hg:=by
  rcases hget _ _ hg with h|h
  ·exact R.nm id h
  ·cases hΓ:Γ id with
   |none=>rfl
   |some x =>
    obtain⟨y,hy⟩:=R.nD id x hΓ;rw[h.2.1]at hy;cases hy
 inj:=R.inj
 nD id x h:=let ⟨y,hy⟩:=R.nD id x h;⟨y,hsame _ _ hy⟩
 lt id b base n h:=by rw[hheap];exact R.lt id b base n h
 A id y h:=by
  rcases hget _ _ h with h|h
  ·exact SZ (R.A id y h) hn
  ·exact h.2.2
 nC g cells h:=(R.nC g cells h).bb E hn
 gsz:=R.pO E
def A7 (R:Xh P G Γ H w)(k:Nat):Xh P G Γ (bR H k) w:=by
 have hnone:∀id,H.A<=id->H.get id=none:=by
  intro id h;cases hg:H.get id with
  |none=>rfl
  |some y=>have:=R.A id y hg;omega
 refine R.move rfl (rV H k) (by simp[bR]) (fun id b hb=>?_) (fun id b hb=>?_)
 ·simp only[bR]at hb;split at hb
  ·rename_i hc;simp only[Option.some.injEq]at hb;exact .inr ⟨hb.symm,hnone id hc.1,hc.2⟩
  ·exact .inl hb
 ·simp only[bR];rw[SQ]
  ·exact hb
  ·have:=R.A id b hb;omega
def Xt.move {n:Nat}{wb:XE}{s:St}{a:Act}(hs:Xt P G n wb Γ s a w){H':Xn}(E:Xk Γ s.H w Γ H' w')(hn:s.H.A<=H'.A)(R:Xh P G Γ H' w'):Xt P G n wb Γ ⟨s.ρ,H'⟩ a w' :=
 ⟨hs.size,fun t=>(hs.env t).bb E hn,R,hs.defers.bb E,Tw hs.low E.size⟩
def dZ.move {rd rb:Option Nat}(h:dZ Γ H rd rb)(hk:∀id b,H.get id=some b->H'.get id=some b):dZ Γ H' rd rb:=by
 cases rd with
 |none=>exact h
 |some id =>
  obtain⟨b,st,pend,n,env,ps,asg,body,h1,h2,h3⟩:=h;exact⟨b,_,_,_,_,_,_,_,h1,h2,hk _ _ h3⟩
def eO (all:Array Oper)(d:Nat->Dt)(s0:St)(K:Nat)(D:Nat->Bool):St :=
 ⟨ba all d s0.ρ K D,⟨aT d (bR s0.H (aG d K)).get K D,s0.H.A+aG d K⟩⟩
def nM {all:Array Oper}(h:all[j]?=some o):gP all j=o.dst:=by simp[gP,h]
def xc {all:Array Oper}(S:XJ all bs K)(hg:∀i,i<K->Xp P G all bs s0 d i)(hi:i<K)(ho:all[i]?=some o)(hDi:D i=false)
  (hdown:∀j,j<i->(ea bs i).testBit j=true->D j=true) (hup:∀j,i<j->j<K->D j=true->(ea bs j).testBit i=false):
  ExecOk P G all o (s0.H.A+aG d i) (eO all d s0 K D) (eO all d s0 K (bW D i)):=by
 have hget:∀j,j<K->∃oj,all[j]?=some oj:=fun j hj=>⟨_,S6 (SZ hj S.le)⟩
 have hgi:=hg i hi;have tgtE:∀j r,j<K->dJ (d j)=some r->r∈(d j).f.nt/\(((d j).al=true/\r=s0.H.A+aG d j)\/((d j).al=false/\r∈(d j).f.rs)):=by
  intro j r hj ht;unfold dJ at ht;cases he:(d j).e with
  |none=>rw[he]at ht;cases ht
  |some kb =>
   obtain⟨k,b⟩:=kb;rw[he]at ht;simp only[Option.map_some,Option.some.injEq]at ht;subst ht;obtain⟨h1,h2⟩:=(hg j hj).nt k b he;refine⟨h1,?_⟩;cases hal:(d j).al with
   |true =>
    obtain⟨b',hb'⟩:=(hg j hj).al hal;rw[he]at hb';simp only[Option.some.injEq,Prod.mk.injEq]at hb';exact .inl ⟨rfl,hb'.1⟩
   |false=>exact .inr ⟨rfl,h2 hal⟩
 have rangeK:∀r,r<s0.H.A+aG d i->((bR s0.H (aG d K)).get r=s0.H.get r\/∃j,j<i/\(fun _:Nat=>true) j=true/\dJ (d j)=some r):=by
  intro r hr;by_cases h:s0.H.A<=r
  ·obtain⟨j,h1,h2,h3⟩:=rH (d:=d) (n:=i) (c:=r-s0.H.A) O;obtain⟨b,hb⟩:=(hg j O).al h2;refine .inr ⟨j,h1,rfl,?_⟩;unfold dJ;rw[hb,h3];simp only[Option.map_some,Option.some.injEq];omega
  ·left;simp only[bR];rw[SQ O]
 have henv:∀t,t∈o.looksAt all->ba all d s0.ρ K D t=(canon all d s0 i).ρ t:=by
  intro t ht;show _=ba all d s0.ρ i (fun _=>true) t;rw[<- wV (all:=all) (d:=d) (ρ0:=s0.ρ) (m:=i) (n:=K) O];refine oN fun j hj hdj=>?_;obtain⟨oj,hoj⟩:=hget j hj;rw[nM hoj]at hdj;rcases Up j i with h|rfl|h
  ·cases hb:(ea bs i).testBit j with
   |true=>rw[hdown j h hb];simp[h]
   |false=>exact absurd ht ((qt (S.apart i j o oj hi h ho hoj hb)).1 t hdj)
  ·rw[hDi];simp
  ·cases hD:D j with
   |false=>symm;simp;omega
   |true=>exact absurd ht ((qt (S.apart j i oj o hj h hoj ho (hup j h hj hD))).2.1 t hdj)
 have hheap:∀r,r∈(d i).f.rs->aT d (bR s0.H (aG d K)).get K D r=(canon all d s0 i).H.get r:=by
  intro r hr;show _=aT d s0.H.get i (fun _=>true) r;rw[<- rG (g0:=(bR s0.H (aG d K)).get) (rangeK r (hgi.lt r hr)),<- wW (m:=i) (n:=K) O];refine oO fun j hj ht=>?_;obtain⟨he,_⟩:=tgtE j r hj ht;rcases Up j i with h|rfl|h
  ·cases hb:(ea bs i).testBit j with
   |true=>rw[hdown j h hb];simp[h]
   |false=>exact absurd hr ((hgi.apart j h hb).2 r he)
  ·rw[hDi];simp
  ·cases hD:D j with
   |false=>symm;simp;omega
   |true=>exact absurd hr (((hg j hj).apart i h (hup j h hj hD)).1 r he)
 have hal:(d i).al=true->aT d (bR s0.H (aG d K)).get K D (s0.H.A+aG d i)=some .nm/\s0.H.A+aG d i≠s0.H.A+aG d K:=by
  intro hal;have hlt:=lI hi hal;refine⟨?_,O⟩;obtain⟨b,hb⟩:=hgi.al hal;have heff:=(hgi.nt _ _ hb).1;rw[wX]
  ·simp only[bR];rw[SU O]
  ·intro j hj hD ht;obtain⟨h1,h2⟩:=tgtE j _ hj ht;rcases Up j i with h|rfl|h
   ·rcases h2 with ⟨h2,h3⟩|⟨h2,h3⟩
    ·have:=lI h h2;omega
    ·have:=(hg j hj).lt _ h3;have:=qd (d:=d) (Vy h);omega
   ·rw[hDi]at hD;cases hD
   ·rcases h2 with ⟨h2,h3⟩|⟨h2,h3⟩
    ·have:=lI h hal;omega
    ·exact absurd h3 (((hg j hj).apart i h (hup j h hj hD)).2 _ heff)
 have:=hgi.step o ho (ba all d s0.ρ K D) ⟨aT d (bR s0.H (aG d K)).get K D,s0.H.A+aG d K⟩ henv hheap hal (by have:=qd (d:=d) (Vy hi);simp only;omega);have e1:ba all d s0.ρ K (bW D i)=aQ (ba all d s0.ρ K D) o.dst (d i).v:=by
  rw[wY hDi hi,nM ho];intro j h hj hD t hti;obtain⟨oj,hoj⟩:=hget j hj;rw[nM ho]at hti;rw[nM hoj];exact(qt (S.apart j i oj o hj h hoj ho (hup j h hj hD))).2.2 t hti
 have e2:aT d (bR s0.H (aG d K)).get K (bW D i)=eT (d i).e (aT d (bR s0.H (aG d K)).get K D):=by
  refine wZ hDi hi fun j h hj hD r hti htj=>?_;obtain⟨a1,a2⟩:=tgtE i r hi hti;obtain⟨b1,b2⟩:=tgtE j r hj htj;obtain⟨c1,c2⟩:=(hg j hj).apart i h (hup j h hj hD);rcases b2 with ⟨b2,b3⟩|⟨b2,b3⟩
  ·rcases a2 with ⟨a2,a3⟩|⟨a2,a3⟩
   ·have:=lI h a2;omega
   ·exact c1 r b1 a3
  ·exact c2 r a1 b3
 unfold eO;rw[e1,e2];exact this
def rL {all:Array Oper}(hg:∀i,i<K->Xp P G all bs s0 d i)(hD:∀j,j<K->D j=true):eO all d s0 K D=canon all d s0 K:=by
 unfold eO canon mr;have e1:ba all d s0.ρ K D=ba all d s0.ρ K fun _=>true:=funext fun t=>oN fun j hj _=>hD j hj;have e2:aT d (bR s0.H (aG d K)).get K D=aT d s0.H.get K fun _=>true:=by
  funext r
  rw[oO (D':=fun _=>true) fun j hj _=>hD j hj];refine rG ?_;by_cases h:s0.H.A<=r/\r<s0.H.A+aG d K
  ·obtain⟨j,h1,h2,h3⟩:=rH (d:=d) (n:=K) (c:=r-s0.H.A) O;obtain⟨b,hb⟩:=(hg j h1).al h2;refine .inr ⟨j,h1,rfl,?_⟩;unfold dJ;rw[hb,h3];simp only[Option.map_some,Option.some.injEq];omega
  ·left;simp only[bR];rw[SQ h]
 rw[e1,e2]
def xd {all:Array Oper}(hD:∀j,j<K->D j=false):eO all d s0 K D=⟨s0.ρ,bR s0.H (aG d K)⟩:=by
 unfold eO;have e1:∀n,n<=K->ba all d s0.ρ n D=s0.ρ:=by
  intro n
  induction n with
  |zero=>intro _;rfl
  |succ n ih=>intro h;simp only[ba];rw[SQ (by simp[hD n h])];exact ih (O)
 have e2:∀n,n<=K->aT d (bR s0.H (aG d K)).get n D=(bR s0.H (aG d K)).get:=by
  intro n
  induction n with
  |zero=>intro _;rfl
  |succ n ih=>intro h;simp only[aT];rw[SQ (by simp[hD n h])];exact ih (O)
 rw[e1 K W8,e2 K W8];rfl
end Go.Hx
namespace Go.Hx
variable {P:Program} {G:Nat->Option (List W9)} {Γ Γ':aC} {H H':Xn} {w w':World}
variable {listed:Array Bool}{i n:Nat}
def fF (listed:Array Bool):Nat->Nat
 |0=>0
 |n+1=>fF listed n+(if listed.getD n true=false then 1 else 0)
def xJ (hi:listed.getD i true=false):∀n,fF (listed.setIfInBounds i true) n+(if i<n then 1 else 0)=fF listed n:=by
 have hsz:i<listed.size:=by
  rcases Tg i listed.size with h|h
  ·exact h
  ·rw[TK,Ul h]at hi;cases hi
 intro n
 induction n with
 |zero=>simp[fF]
 |succ n ih =>
  simp only[fF];by_cases hin:n=i
  ·subst hin;have:(listed.setIfInBounds n true).getD n true=true:=(by simp[hsz]);have h2:(if n<n then 1 else 0)=0:=SQ (VB n);have h3:(if n<n+1 then 1 else 0)=1:=SU (Un n);rw[h2]at ih;rw[this,h3,hi];simp;omega
  ·rw[getD_set_ne true (Ne.symm hin)];have h4:(if i<n+1 then 1 else 0)=(if i<n then 1 else 0):=by
    by_cases h:i<n
    ·rw[SU h,SU (show i<n+1 by omega)]
    ·rw[SQ h,SQ (show ¬i<n+1 by omega)]
   rw[h4];generalize (if i<n then 1 else 0)=x at ih ⊢;omega
def uq (h:fF listed n=0):∀j,j<n->listed.getD j true=true:=by
 induction n with
 |zero=>intro j hj;omega
 |succ n ih =>
  simp only[fF]at h;intro j hj;by_cases hjn:j=n
  ·subst hjn;cases hl:listed.getD j true with
   |true=>rfl
   |false=>rw[hl]at h;simp at h
  ·exact ih O j (O)
def ur :∀m,m<=n->fF (Array.replicate n false) m=m:=by
 intro m
 induction m with
 |zero=>intro _;rfl
 |succ m ih =>
  intro h;simp only[fF];rw[ih O,SU];rw[TK,Vp,SU O];rfl
def oW (h:i<listed.size)(x y:Bool):listed.getD i x=listed.getD i y:=by
 simp[TK,S6 h]
section
variable {n:Nat} {wb:XE} {rd rb:Option Nat} {Q:AX->St->Prop} {all:Array Oper} {bs:List Nat} {K:Nat} {id:Nat} {dr:Bool}
def uu (S:XJ all bs K)(hfit:∀o,o∈all.toList->fV n o=true):∀(r m:Nat) (listed:Array Bool) (s:St) (Γ:aC) (a:Act) (w:World),r+m=all.size->K<=m->listed.size=all.size->fF listed all.size=r ->
  (∀j,j<all.size->(listed.getD j true=true↔j<m))->opsV P G rd Q all (all.toList.drop m) s->Xt P G n wb Γ s a w->dZ Γ s.H rd rb ->
  ∀(Q':Exit->Act->World->Prop),(∀e a' w',iy P G n wb rd rb (wr (.region id all dr)) Γ s.H a w Q e a' w'->Q' e a' w')->wpAnyIn (eP rb) 0 P .any all Q' r listed a w:=by
 intro r
 induction r with
 |zero =>
  intro m listed s Γ a w hm hKm hsz hc hl h hs hr Q' hq;have:all.toList.drop m=[]:=VU (by simp;omega);rw[this]at h;refine⟨?_,hq _ _ _ (.here (x:=.normal) trivial h hs hr)⟩;rw[List.eq_nil_iff_forall_not_mem];intro j hj;obtain⟨h1,o,ho,_⟩:=mem_ready.1 hj;have hjs:=(TO.1 ho).1;rw[(hl j hjs).2 O]at h1;cases h1
 |succ r ih =>
  intro m listed s Γ a w hm hKm hsz hc hl h hs hr Q' hq;have hms:m<all.size:=O
  have ho:all[m]?=some all[m]:=S6 hms;have hmun:listed.getD m true=false:=by
   cases hx:listed.getD m true with
   |false=>rfl
   |true=>have:=(hl m hms).1 hx;omega
  have hready:m∈Region.ready .any all listed:=by
   refine mem_ready.2 ⟨hmun,_,ho,fun e he hb=>?_⟩;have:=S.down m _ ho e he hb;rw[oW O false true];exact(hl e.on O).2 this
  refine⟨fun h0=>(by rw[h0]at hready;cases hready),fun i hi=>?_⟩;obtain⟨hiun,oi,hoi,hall⟩:=mem_ready.1 hi;have his:=(TO.1 hoi).1;have him:m<=i:=by
   rcases Tg i m with h|h
   ·rw[(hl i his).2 h]at hiun;cases hiun
   ·exact h
  have hL:um all fun j=>listed.getD j false:=by
   intro k ok hk hok e he hb;have hks:=(TO.1 hok).1;have h1:=S.down k ok hok e he hb;simp only at hk ⊢;rw[oW O false true]at hk ⊢;have:=(hl k hks).1 hk;exact(hl _ O).2 (O)
  have hieq:i=m:=by
   rcases Tg m i with h|h
   ·have h1:=S.ahead hL i oi m hoi hall (by rw[SQ O];exact h);rw[oW O false true,hmun]at h1;cases h1
   ·omega
  subst hieq;have hlist:all.toList.drop i=all[i] :: all.toList.drop (i+1):=by
   rw[TI (by simpa using hms)];simp
  rw[hlist]at h;simp only[opsV]at h;have hl':∀j,j<all.size->((listed.setIfInBounds i true).getD j true=true↔j<i+1):=by
   intro j hj;by_cases hji:j=i
   ·subst hji;simp
   ·rw[getD_set_ne true (Ne.symm hji),hl j hj];omega
  have hc':fF (listed.setIfInBounds i true) all.size=r:=by
   have:=xJ hmun all.size;rw[SU hms]at this;omega
  have hd:=hfit all[i] W5;obtain⟨t,ht,h⟩:=h;unfold wpOpIn;rw[ho];simp only;rw[qh hs ht];cases t with
  |true =>
   simp only[if_true]at h ⊢;refine AL hd hs hr h ?_ ?_
   ·rintro Γ' s' a' w' hk hs' E hn hr' ⟨cv,rfl⟩;exact ih (i+1) _ s' Γ' _ w' O O (by simpa using hsz) hc' hl' hk hs' hr' Q' fun e a'' w'' hp=>hq _ _ _ (hp.step E hn (qi hms cv) fun _ h=>h)
   ·rintro Γ' s' a' w' chain hp hc hs' E hn hr' rfl;exact hq _ _ _ ⟨.panic,s',Γ',hc,hp,hs',E,hn,hr',.refl _ _⟩
  |false =>
   simp only[Bool.false_eq_true,if_false]at h ⊢;refine⟨fun _ _=>trivial,?_⟩;have hdst:∀d,all[i].dst=some d->d<n:=by
    intro d hd';unfold fV at hd;rw[hd']at hd;simpa using hd
   have hs':=kE (v:=.lit undef) (cv:=undef) hs hdst (Xk.refl Γ s.H w) W8 hs.heap (.lit _);exact ih (i+1) _ ⟨aQ s.ρ all[i].dst (.lit undef),s.H⟩ Γ _ w O O (by simpa using hsz) hc' hl' h hs' hr Q' fun e a'' w'' hp=>hq _ _ _ (hp.step (Xk.refl _ _ _) W8 (qi hms _) fun _ h=>h)
def xe (S:XJ all bs K)(hfit:∀o,o∈all.toList->fV n o=true){d:Nat->Dt}{s0:St}(hg:∀i,i<K->Xp P G all bs s0 d i)(htail:opsV P G rd Q all (all.toList.drop K) (canon all d s0 K)):
  ∀(r:Nat) (listed:Array Bool) (D:Nat->Bool) (Γ:aC) (a:Act) (w:World),listed.size=all.size->fF listed all.size=r->(∀j,j<all.size->listed.getD j true=D j)->(∀j,D j=true->j<K)->um all D ->
  Xt P G n wb Γ (eO all d s0 K D) a w->dZ Γ (eO all d s0 K D).H rd rb ->
  ∀(Q':Exit->Act->World->Prop),(∀e a' w',iy P G n wb rd rb (wr (.region id all dr)) Γ (eO all d s0 K D).H a w Q e a' w'->Q' e a' w')->wpAnyIn (eP rb) 0 P .any all Q' r listed a w:=by
 intro r
 induction r with
 |zero =>
  intro listed D Γ a w hsz hc hl hlow hL hs hr Q' hq;have hall:∀j,j<K->D j=true:=fun j hj=>by rw[<- hl j (SZ hj S.le)];exact uq hc j (SZ hj S.le)
  have hKs:K=all.size:=by
   rcases Tg K all.size with h|h
   ·have h1:=uq hc K h;rw[hl K h]at h1;have:=hlow K h1;omega
   ·have:=S.le;omega
  rw[rL hg hall]at hs hr hq;exact uu S hfit 0 K listed _ Γ a w O W8 hsz hc (fun j hj=>by rw[hl j hj];exact⟨hlow j,hall j⟩) htail hs hr Q' hq
 |succ r ih =>
  intro listed D Γ a w hsz hc hl hlow hL hs hr Q' hq;by_cases hall:∀j,j<K->D j=true
  ·rw[rL hg hall]at hs hr hq;have hcount:∀m,m<=all.size->fF listed m=m-K:=by
    intro m
    induction m with
    |zero=>intro _;simp[fF]
    |succ m ihm =>
     intro hm;simp only[fF];rw[ihm O,hl m O];by_cases hmK:m<K
     ·rw[hall m hmK];simp;omega
     ·have:D m=false:=by
       cases hD:D m with
       |false=>rfl
       |true=>exact absurd (hlow m hD) hmK
      rw[this];simp;omega
   have h1:=hcount all.size W8;exact uu S hfit (r+1) K listed _ Γ a w (by have:=S.le;omega) W8 hsz hc (fun j hj=>by rw[hl j hj];exact⟨hlow j,hall j⟩) htail hs hr Q' hq
  ·have hex:∃j,j<K/\D j=false:=by
    by_cases h:∃j,j<K/\D j=false
    ·exact h
    ·refine absurd (fun j hj=>?_) hall;cases hD:D j with
     |true=>rfl
     |false=>exact absurd ⟨j,hj,hD⟩ h
   have least:∀k,(∃j,j<k/\j<K/\D j=false)->∃j,j<K/\D j=false/\∀i,i<j->D i=true:=by
    intro k
    induction k with
    |zero=>rintro⟨j,hj,_⟩;omega
    |succ k ihk =>
     rintro⟨j,h1,h2,h3⟩;by_cases h:∃j,j<k/\j<K/\D j=false
     ·exact ihk h
     ·refine⟨j,h2,h3,fun i hi=>?_⟩;cases hD:D i with
      |true=>rfl
      |false=>exact absurd ⟨i,O,O,hD⟩ h
   obtain⟨j0,hj0K,hj0,hbelow⟩:=least K (let ⟨j,h1,h2⟩:=hex;⟨j,h1,h1,h2⟩);have hj0s:j0<all.size:=SZ hj0K S.le;have hr0:j0∈Region.ready .any all listed:=by
    refine mem_ready.2 ⟨by rw[hl j0 hj0s];exact hj0,_,S6 hj0s,fun e he hb=>?_⟩;have hlt:=S.down j0 _ (S6 hj0s) e he hb;rw[oW O false true,hl e.on O];exact hbelow _ hlt
   refine⟨fun h0=>(by rw[h0]at hr0;cases hr0),fun i hi=>?_⟩;obtain⟨hiun,oi,hoi,hdir⟩:=mem_ready.1 hi;have his:=(TO.1 hoi).1;have hdirD:∀e,e∈oi.after->Region.binds .any e=true->D e.on=true:=fun e he hb=>by
    have:=S.down i oi hoi e he hb;rw[<- hl e.on O,<- oW O false true];exact hdir e he hb
   have hahead:=S.ahead hL i oi;have hiK:i<K:=by
    rcases Tg i K with h|h
    ·exact h
    ·have:=hahead j0 hoi hdirD (by rw[SQ O];omega);rw[hj0]at this;cases this
   have hDi:D i=false:=(by rw[<- hl i his];exact hiun);have hex:=xc (P:=P) (G:=G) S hg hiK hoi hDi (fun j hj hb=>hahead j hoi hdirD (by rw[SU hiK];exact hb)) (fun j h1 h2 hD=>by
    cases hb:(ea bs j).testBit i with
    |false=>rfl
    |true =>
     have hjs:j<all.size:=SZ h2 S.le;have:=S.ahead hL j _ i (S6 hjs) (fun e he hbe=>hL j _ hD (S6 hjs) e he hbe) (by rw[SU h2];exact hb);rw[hDi]at this;cases this)
   have hoi':oi=all[i]:=by
    rw[S6 his]at hoi;exact(Option.some.inj hoi).symm
   refine xa hoi (hfit oi (by rw[hoi'];simp)) hs hr hex ?_;rintro Γ' a' w' hs' E hn hr' ⟨cv,rfl⟩;have hc':fF (listed.setIfInBounds i true) all.size=r:=by
    have:=xJ hiun all.size;rw[SU his]at this;omega
   refine ih (listed.setIfInBounds i true) (bW D i) Γ' _ w' (by simpa using hsz) hc' ?_ ?_ ?_ hs' hr' Q' fun e a'' w'' hp=>hq _ _ _ (hp.step E hn (by rw[hoi'];exact qi his cv) fun _ h=>h)
   ·intro j hj;by_cases hji:j=i
    ·subst hji;simp[bW]
    ·rw[getD_set_ne true (Ne.symm hji),hl j hj];simp[bW,hji]
   ·intro j hj;by_cases hji:j=i
    ·subst hji;exact hiK
    ·simp only[bW,SQ hji]at hj;exact hlow j hj
   ·intro k ok hk hok e he hb;by_cases hki:k=i
    ·subst hki;rw[hoi]at hok;cases hok;have:=hdirD e he hb;simp only[bW];split
     ·rfl
     ·exact this
    ·simp only[bW,SQ hki]at hk;have:=hL k ok hk hok e he hb;simp only[bW];split
     ·rfl
     ·exact this
def W.draw {s:St}(K:Nat)(bs:List Nat)(hm:P.follows .mixedOrders=true)(hfit:all.toList.all (fV n)=true)(hst:rT all bs K=true)
  (h:dI P G all (opsV P G rd Q all (all.toList.drop K)) bs 0 [] (all.toList.take K) s):W P G n rd (.region id all true) Q s:=by
 intro wb Γ a w rb hs hr;have S:=A5 hst;have hfit':∀o,o∈all.toList->fV n o=true:=fun o ho=>Tn.1 hfit o ho;have wf:gM s.H:=fun id b hb=>hs.heap.A id b hb;have hcan0:canon all (fun _=>⟨.lit undef,none,false,⟨[],[]⟩⟩) s 0=s:=rfl;obtain⟨d,hg,htail⟩:=trace (P:=P) (G:=G) (all:=all) (bs:=bs) (s0:=s) (tail:=opsV P G rd Q all (all.toList.drop K)) S.len S.le K 0 (fun _=>⟨.lit undef,none,false,⟨[],[]⟩⟩) [] (O)
  (fun i hi=>O) (fun j hj=>O) (by rw[hcan0];exact wf) (by rw[hcan0];exact h)
 refine wpIn_region_any hm ?_
 let w1:World:={ w with drawn:=w.drawn+1 }
 have R1:Xh P G Γ s.H w1:=hs.heap.move rfl (qu w) W8 (fun id b hb=>.inl hb) fun id b hb=>hb;have hs1:Xt P G n wb Γ s a w1:=hs.move (qu w) W8 R1;have hs2:Xt P G n wb Γ ⟨s.ρ,bR s.H (aG d K)⟩ a w1:=hs1.move (rV _ _) (by simp[bR]) (A7 R1 _);have hr2:dZ Γ (bR s.H (aG d K)) rd rb:=hr.move fun id b hb=>by
  simp only[bR];rw[SQ]
  ·exact hb
  ·have:=hs.heap.A id b hb;omega
 have e0:eO all d s K (fun _=>false)=⟨s.ρ,bR s.H (aG d K)⟩:=xd fun _ _=>rfl;refine xe (wb:=wb) (id:=id) (dr:=true) S hfit' hg htail all.size _ (fun _=>false) Γ a w1 W5 (ur _ W8) ?_ ?_ ?_ ?_ ?_ _ ?_
 ·intro j hj;rw[TK,Vp,SU hj];rfl
 ·intro j hj;cases hj
 ·intro i o hi;cases hi
 ·rw[e0];exact hs2
 ·rw[e0];exact hr2
 ·rw[e0];intro e a' w' hp;refine hp.step ?_ (by simp[bR]) (.refl _ _) fun _ h=>h;exact Xk.trans (qu w) W8 (rV _ _)
end
end Go.Hx
namespace Go.Hx
variable {P:Program} {G:Nat->Option (List W9)}
variable {α β:Type}
def nL (a:α)(K:α->Prop):bh (some a) K=K a:=by simp[bh]
def ue (K:α->Prop):bh none K=False:=by simp[bh]
def xE (o:Option α)(f:α->Option β)(K:β->Prop):bh (o.bind f) K=bh o fun a=>bh (f a) K:=by
 cases o<;>simp[bh]
def iB (o:Option α)(f:α->β)(K:β->Prop):bh (o.map f) K=bh o fun a=>K (f a):=by
 cases o<;>simp[bh]
def AZ (c:Prop)[Decidable c](a:Option α)(K:α->Prop):bh (if c then a else none) K=(c/\bh a K):=by
 by_cases h:c<;>simp[h,bh]
def uf {o:Option α}{K K':α->Prop}(h:∀a,K a=K' a):bh o K=bh o K':=by
 have:K=K':=funext h;subst this;rfl
def Gp (p q:Prop):iS true p q=p:=by simp[iS]
def Gq (p q:Prop):iS false p q=q:=by simp[iS]
def iS.mk {t:Bool}{p q:Prop}(h1:t=true->p)(h2:t=false->q):iS t p q:=⟨h1,h2⟩
def Gr {f:FuncId}{args args':List W9}{H H':Xn}{K:Xd->Xn->Prop}(h2:args=args')(h3:H=H'):ae P G f args H K=ae P G f args' H' K:=by
 rw[h2,h3]
theorem Gs {n:Nat}{rd:Option Nat}{c:Code}{Q:AX->St->Prop}{s s':St}(h:s=s'):W P G n rd c Q s=W P G n rd c Q s':=by rw[h]
attribute [congr] Gr Gs
def Gt (K:St->Prop)(Q:AX->St->Prop)(s:St):kC K Q .normal s=K s:=(rfl)
def Gu (K:St->Prop)(Q:AX->St->Prop)(i:Nat)(s:St):kC K Q (.exit i) s=Q (.exit i) s:=(rfl)
def Gv (K:St->Prop)(Q:AX->St->Prop)(i:Nat)(s:St):kC K Q (.goto i) s=Q (.goto i) s:=(rfl)
def Gw (K:St->Prop)(Q:AX->St->Prop)(s:St):kC K Q .ret s=Q .ret s:=(rfl)
def Gx (K:St->Prop)(Q:AX->St->Prop)(s:St):kC K Q .panic s=Q .panic s:=(rfl)
def Gy (i:Nat)(Q:AX->St->Prop)(s:St):mw i Q .normal s=Q .normal s:=(rfl)
def Gz (i j:Nat)(Q:AX->St->Prop)(s:St):mw i Q (.exit j) s=if j=i then Q .normal s else Q (.exit j) s:=(rfl)
def GA (i j:Nat)(Q:AX->St->Prop)(s:St):mw i Q (.goto j) s=Q (.goto j) s:=(rfl)
def GB (i:Nat)(Q:AX->St->Prop)(s:St):mw i Q .ret s=Q .ret s:=(rfl)
def GC (i:Nat)(Q:AX->St->Prop)(s:St):mw i Q .panic s=Q .panic s:=(rfl)
def noGoto_normal (Q:AX->St->Prop)(s:St):noGoto Q .normal s=Q .normal s:=(rfl)
def noGoto_exit (i:Nat)(Q:AX->St->Prop)(s:St):noGoto Q (.exit i) s=Q (.exit i) s:=(rfl)
def noGoto_ret (Q:AX->St->Prop)(s:St):noGoto Q .ret s=Q .ret s:=(rfl)
def noGoto_panic (Q:AX->St->Prop)(s:St):noGoto Q .panic s=Q .panic s:=(rfl)
section code
variable {n:Nat} {rd:Option Nat} {Q:AX->St->Prop} {s:St}
def GE:vc P G n rd .skip Q s=Q .normal s:=(rfl)
def GF (l:Nat):vc P G n rd (.label l) Q s=Q .normal s:=(rfl)
def GG (id:Nat)(ops:Array Oper):vc P G n rd (.region id ops false) Q s=opsV P G rd Q ops ops.toList s:=(rfl)
def GH (id:Nat)(ops:Array Oper):vc P G n rd (.region id ops true) Q s=W P G n rd (.region id ops true) Q s:=(rfl)
def GI (a b:Code):vc P G n rd (.seq a b) Q s=vc P G n rd a (kC (vc P G n rd b Q) Q) s:=(rfl)
def GJ (id:Nat)(c:Code):vc P G n rd (.block id c) Q s=vc P G n rd c (mw id Q) s:=(rfl)
def GK (c:Code):vc P G n rd (.loop c) Q s=W P G n rd (.loop c) Q s:=(rfl)
def GL (f:Operand)(ps:Array Tmp)(asg c:Code):vc P G n rd (.rangeFunc f ps asg c) Q s=W P G n rd (.rangeFunc f ps asg c) Q s:=(rfl)
def GM (i:Nat):vc P G n rd (.exit i) Q s=Q (.exit i) s:=(rfl)
def GN (c:Code):vc P G n rd (.scope c) Q s=vc P G n rd c (noGoto Q) s:=(rfl)
def GO (i:Nat):vc P G n rd (.goto i) Q s=Q (.goto i) s:=(rfl)
def GP:vc P G n rd .ret Q s=Q .ret s:=(rfl)
def A0:W9->Option Bool
 |.lit (.bool t)=>some t
 |_=>none
def GQ (t:Bool):A0 (.lit (.bool t))=some t:=rfl
def GR (c:Operand)(a b:Code):vc P G n rd (.cond c a b) Q s=bh (A0 (aw G s.ρ c)) fun t=>iS t (vc P G n rd a Q s) (vc P G n rd b Q s):=by
 simp only[vc];congr 1
end code
def GS (ρ:Env)(t:Tmp):aw G ρ (.tmp t)=ρ t:=rfl
def GT (ρ:Env)(v:Value):aw G ρ (.const v)=.lit v:=rfl
def GU (ρ:Env)(f:FuncId):aw G ρ (.func f)=.Z f [] []:=rfl
def GV (ρ:Env)(d:Tmp)(v:W9)(t:Tmp):aQ ρ (some d) v t=if t=d then v else ρ t:=rfl
def GW (ρ:Env)(v:W9):aQ ρ none v=ρ:=rfl
def GX (ws:Nat)(ρ ρ₀:Env)(t:Nat):mask ws ρ ρ₀ t=if ws / 2 ^ t % 2=1 then ρ t else ρ₀ t:=rfl
def iv:W9->Int
 |.lit (.int _ n)=>n
 |_=>0
def bj (k:IntKind)(n:Int):iv (.lit (.int k n))=n:=rfl
def xF (l:List W9)(t:Nat):iz l t=(l[t]?).getD (.lit undef):=rfl
def GY (rs:List ResultVar)(H:Xn)(K:Xd->Xn->Prop)(s:St):qk P G rs H K .ret s=bh (ia P s.H s.ρ rs) fun vs=>ar P G H K (nI vs) s.H:=(rfl)
def GZ (rs:List ResultVar)(H:Xn)(K:Xd->Xn->Prop)(s:St):qk P G rs H K .normal s=bh (ia P s.H s.ρ rs) fun vs=>ar P G H K (nI vs) s.H:=(rfl)
def G1 (H:Xn)(ρ:Env):ia P H ρ []=some []:=rfl
def G2 (H:Xn)(ρ:Env)(t:Tmp)(r:List ResultVar):ia P H ρ (.tmp t :: r)=(ia P H ρ r).map (ρ t :: ·):=rfl
def G3 (H:Xn)(ρ:Env)(a:Tmp)(t:TypeId)(r:List ResultVar):ia P H ρ (.cell a t :: r)=(g9 P H t (ρ a)).bind fun v=>(ia P H ρ r).map (v :: ·):=rfl
def G4 (v:W9):nI [v]=v:=rfl
def G5 (v u:W9)(r:List W9):nI (v :: u :: r)=.na (v :: u :: r):=rfl
def G6:nI []=.na []:=rfl
section ops
variable {rd:Option Nat} {Q:AX->St->Prop} {K:St->Prop} {s:St} {d:Option Tmp} {ty:TypeId} {pos:String} {aft:Array Edge} {g:Option (Nat × Bool)}
def G7 (all:Array Oper):opsV P G rd Q all [] s=Q .normal s:=(rfl)
def G8 (all:Array Oper)(op:Op)(rest:List Oper):opsV P G rd Q all (⟨d,op,ty,pos,aft,none⟩ :: rest) s=aY P G rd Q ⟨d,op,ty,pos,aft,none⟩ (opsV P G rd Q all rest) s:=by
 simp[opsV,gL,nL]
def G9 (all:Array Oper)(op:Op)(rest:List Oper)(j:Nat)(want:Bool):opsV P G rd Q all (⟨d,op,ty,pos,aft,some (j,want)⟩ :: rest) s =
  bh (gL all s.ρ ⟨d,op,ty,pos,aft,some (j,want)⟩) fun t=>if t=true then aY P G rd Q ⟨d,op,ty,pos,aft,some (j,want)⟩ (opsV P G rd Q all rest) s else opsV P G rd Q all rest ⟨aQ s.ρ d (.lit undef),s.H⟩:=(rfl)
def Hd (P:Program)(G:Nat->Option (List W9))(fv:W9)(args:List W9)(H:Xn)(K:Xd->Xn->Prop)(_d:TagR K:=.mk):Prop:=az P G fv args H K
def Hh (fv:Operand)(args:Array Operand)(ats:Array TypeId):aY P G rd Q ⟨d,.call ⟨.value fv,args,ats⟩,ty,pos,aft,g⟩ K s =
  Hd P G (aw G s.ρ fv) (args.toList.map (aw G s.ρ)) s.H fun r H'=>fD H' rd/\match r with
   |.ret v=>K ⟨aQ s.ρ d v,H'⟩
   |.panic=>Q .panic ⟨s.ρ,H'⟩:=(rfl)
def Hi (x:Operand):aY P G rd Q ⟨d,.panic x,ty,pos,aft,g⟩ K s=((∃t v,(aw G s.ρ x)=.lit (.iface t v))/\Q .panic s):=(rfl)
def Hl (x:Operand):aY P G rd Q ⟨d,.move x,ty,pos,aft,g⟩ K s=K ⟨aQ s.ρ d (aw G s.ρ x),s.H⟩:=by simp[aY,ak,nL]
def Hn (x:Operand):aY P G rd Q ⟨d,.assign x,ty,pos,aft,g⟩ K s=K ⟨aQ s.ρ d (aw G s.ρ x),s.H⟩:=by simp[aY,ak,nL]
def Ho (c a b:Operand):aY P G rd Q ⟨d,.pick c a b,ty,pos,aft,g⟩ K s=bh (match aw G s.ρ c with|.lit (.bool t)=>some t|_=>none) fun t=>K ⟨aQ s.ρ d (if t then aw G s.ρ a else aw G s.ρ b),s.H⟩:=by
 simp only[aY,ak];split<;>simp_all[nL,ue]
def Hp (e:TypeId):aY P G rd Q ⟨d,.alloc e,ty,pos,aft,g⟩ K s=bh (bU P e) fun z=>bh (s.H.lay s.H.A (.J 0 e z)) fun H'=>K ⟨aQ s.ρ d (.R s.H.A 0 0),H'⟩:=by
 simp only[aY,ak,xE];exact uf fun _=>iB ..
def Ht (e:TypeId)(x:Operand):aY P G rd Q ⟨d,.box e x,ty,pos,aft,g⟩ K s=bh (s.H.lay s.H.A (.J 0 e (aw G s.ρ x).cells)) fun H'=>K ⟨aQ s.ρ d (.R s.H.A 0 0),H'⟩:=by
 simp[aY,ak,iB]
def Hv (t:TypeId)(parts:Array (Nat × Operand)):aY P G rd Q ⟨d,.build t parts,ty,pos,aft,g⟩ K s=bh (rD P t (parts.toList.map fun p=>(p.1,aw G s.ρ p.2))) fun v=>K ⟨aQ s.ρ d v,s.H⟩:=by
 simp[aY,ak,iB]
def HE (t:TypeId)(len:Nat)(parts:Array (Nat × Operand)):aY P G rd Q ⟨d,.buildSlice t len parts,ty,pos,aft,g⟩ K s =
  bh (nu P s.H s.H.A t len (parts.toList.map fun p=>(p.1,aw G s.ρ p.2))) fun vH=>K ⟨aQ s.ρ d vH.1,vH.2⟩:=by
 simp[aY,ak]
def HH (t:TypeId)(a:Operand):aY P G rd Q ⟨d,.load t a,ty,pos,aft,g⟩ K s=bh (g9 P s.H t (aw G s.ρ a)) fun v=>K ⟨aQ s.ρ d v,s.H⟩:=by
 simp[aY,ak,iB]
def HI (t:TypeId)(a x:Operand):aY P G rd Q ⟨d,.store t a x,ty,pos,aft,g⟩ K s=((P.underlying t).isSome=true/\bh (jQ P s.H t (aw G s.ρ a) (aw G s.ρ x)) fun H'=>K ⟨aQ s.ρ d (.lit undef),H'⟩):=by
 simp[aY,ak,AZ,iB]
def HJ (x:Operand):aY P G rd Q ⟨d,.nilCheck x,ty,pos,aft,g⟩ K s=bh (lH s.H (aw G s.ρ x)) fun v=>K ⟨aQ s.ρ d v,s.H⟩:=by
 simp[aY,ak,iB]
def HK (op:BinOp)(t:TypeId)(x y:Operand)(u:TypeId):aY P G rd Q ⟨d,.binOp op t x y u,ty,pos,aft,g⟩ K s =
  rQ P op t (kD s.H op (aw G s.ρ x) (aw G s.ρ y)) (fun v=>K ⟨aQ s.ρ d v,s.H⟩) (bh (bn P op t x y (aw G s.ρ x) (aw G s.ρ y)) fun v=>K ⟨aQ s.ρ d v,s.H⟩):=by
 simp[aY,ak,iB]
def HL (op:BinOp)(t:TypeId)(Kb:W9->Prop)(p:Prop):rQ P op t none Kb p=p:=rfl
def HM (op:BinOp)(t:TypeId)(k:Bool)(Kb:W9->Prop)(p:Prop):rQ P op t (some k) Kb p=(rP (P.underlying t)=true/\∀b:Bool,(k=true->b=false)->Kb (.lit (.bool (if op == .neq then !b else b)))):=rfl
def HN (e:TypeId):rP (some (.slice e))=true:=rfl
def HO (H:Xn)(op:BinOp)(v:Value)(y:W9):kD H op (.lit v) y=none:=by
 unfold kD;split<;>rfl
def HP (H:Xn)(n:Nat)(cells:List W9):kD H .eql (.M n cells) (.lit (.slice none 0 0))=some (decide (0<n)):=rfl
def HQ (H:Xn)(n:Nat)(cells:List W9):kD H .neq (.M n cells) (.lit (.slice none 0 0))=some (decide (0<n)):=rfl
def A1 (H:Xn)(id g o n z:Nat):kD H .eql (.Q id g o n z) (.lit (.slice none 0 0))=match H.X id g with|some _=>some (decide (0<n))|none=>none:=rfl
def HR:(BinOp.eql == BinOp.neq)=false:=rfl
def HS:(BinOp.neq == BinOp.neq)=true:=rfl
def HT (op:UnOp)(t:TypeId)(x:Operand):aY P G rd Q ⟨d,.unOp op t x,ty,pos,aft,g⟩ K s=bh (pY P op (aw G s.ρ x)) fun v=>K ⟨aQ s.ρ d v,s.H⟩:=by
 simp[aY,ak,iB]
def HU (a b:TypeId)(x:Operand):aY P G rd Q ⟨d,.convert a b x,ty,pos,aft,g⟩ K s=bh (lG P s.H a b (aw G s.ρ x)) fun v=>K ⟨aQ s.ρ d v,s.H⟩:=by
 simp[aY,ak,iB]
def HV (f:FuncId)(first cap:Array Operand):aY P G rd Q ⟨d,.makeFunc (.func f) first cap,ty,pos,aft,g⟩ K s=K ⟨aQ s.ρ d (.Z f (first.toList.map (aw G s.ρ)) (cap.toList.map (aw G s.ρ))),s.H⟩:=by
 simp[aY,ak,nL]
def HW (t:TypeId)(l c:Operand):aY P G rd Q ⟨d,.makeSlice t l c,ty,pos,aft,g⟩ K s=bh (mo P s.H s.H.A t (aw G s.ρ l) (aw G s.ρ c)) fun vH=>K ⟨aQ s.ρ d vH.1,vH.2⟩:=by
 simp[aY,ak]
def HX (t:TypeId)(x:Operand)(lo hi:Option Operand):aY P G rd Q ⟨d,.slice t x lo hi none,ty,pos,aft,g⟩ K s =
  bh (nt P s.H t (aw G s.ρ x) (lo.map (aw G s.ρ)) (hi.map (aw G s.ρ))) fun v=>K ⟨aQ s.ρ d v,s.H⟩:=by
 simp[aY,ak,iB]
def ui (P:Program)(H:Xn)(s:TypeId)(f:Nat)(x:W9):Option W9 :=
 (bK P s f).bind fun of=>match x with
  |.R id gen off=>(H.X id gen).map fun _=>.R id gen (off+of.1)
  |.nf cells off=>some (.nf cells (off+of.1))
  |_=>none
def HY (t:TypeId)(x:Operand)(f:Nat):aY P G rd Q ⟨d,.fieldAddr t x f,ty,pos,aft,g⟩ K s=bh (ui P s.H t f (aw G s.ρ x)) fun v=>K ⟨aQ s.ρ d v,s.H⟩:=by
 simp only[aY,ak,ui,xE];refine uf fun of=>?_;split<;>simp_all[ue,iB,nL]
def uj (P:Program)(H:Xn)(t:TypeId)(x i:W9):Option W9:=match i with
 |.lit (.int _ i)=>np P H t x i
 |_=>none
def HZ (t:TypeId)(x i:Operand):aY P G rd Q ⟨d,.indexAddr t x i,ty,pos,aft,g⟩ K s=bh (uj P s.H t (aw G s.ρ x) (aw G s.ρ i)) fun v=>K ⟨aQ s.ρ d v,s.H⟩:=by
 simp only[aY,ak,uj];split<;>simp_all[ue,iB]
def Ia (t:TypeId)(x i:Operand):aY P G rd Q ⟨d,.index t x i,ty,pos,aft,g⟩ K s=bh (oM P t (aw G s.ρ x) (aw G s.ρ i)) fun v=>K ⟨aQ s.ρ d v,s.H⟩:=by
 simp[aY,ak,iB]
def Ib (t:Operand)(i:Nat):aY P G rd Q ⟨d,.extract t i,ty,pos,aft,g⟩ K s=bh (nE (aw G s.ρ t) i) fun v=>K ⟨aQ s.ρ d v,s.H⟩:=by
 simp[aY,ak,iB]
def Ic (b:Builtin)(args:Array Operand)(ats:Array TypeId):aY P G rd Q ⟨d,.call ⟨.builtin b,args,ats⟩,ty,pos,aft,g⟩ K s =
  bh (hJ P s.H s.H.A b ats.toList (args.toList.map (aw G s.ρ))) fun vH=>K ⟨aQ s.ρ d vH.1,vH.2⟩:=by
 simp[aY,ak]
end ops
def builtin_len (H:Xn)(id:Nat)(t:TypeId)(x:W9):hJ P H id .len [t] [x]=(mm P H t x).map fun v=>(v,H):=rfl
def builtin_append (H:Xn)(id:Nat)(t u:TypeId)(s x:W9):hJ P H id .append [t,u] [s,x]=bT P H id t u s x:=rfl
def builtin_copy (H:Xn)(id:Nat)(t u:TypeId)(s x:W9):hJ P H id .copy [t,u] [s,x]=lD P H t s x:=rfl
def builtin_min (H:Xn)(id:Nat)(ts:List TypeId)(k:IntKind)(a b:Int):hJ P H id .min ts [.lit (.int k a),.lit (.int k b)]=some (.lit (.int k (if b<a then b else a)),H):=by
 cases ts with
 |nil=>rfl
 |cons t ts=>rfl
def builtin_max (H:Xn)(id:Nat)(ts:List TypeId)(k:IntKind)(a b:Int):hJ P H id .max ts [.lit (.int k a),.lit (.int k b)]=some (.lit (.int k (if b > a then b else a)),H):=by
 cases ts with
 |nil=>rfl
 |cons t ts=>rfl
section nums
variable {t:TypeId} {x y:Operand} {k:IntKind} {a b:Int}
def Ie:bn P .add t x y (.lit (.int k a)) (.lit (.int k b))=some (.lit (.int k (k.wrap (a+b)))):=by
 simp[bn,W9.cW,eqGuard,binOp,Op.intArith,bC,bind,Sem.bind,pure]
def If:bn P .sub t x y (.lit (.int k a)) (.lit (.int k b))=some (.lit (.int k (k.wrap (a-b)))):=by
 simp[bn,W9.cW,eqGuard,binOp,Op.intArith,bC,bind,Sem.bind,pure]
def Ig:bn P .mul t x y (.lit (.int k a)) (.lit (.int k b))=some (.lit (.int k (k.wrap (a*b)))):=by
 simp[bn,W9.cW,eqGuard,binOp,Op.intArith,bC,bind,Sem.bind,pure]
def Ih:bn P .quo t x y (.lit (.int k a)) (.lit (.int k b))=if b≠0 then some (.lit (.int k (k.wrap (a.tdiv b)))) else none:=by
 by_cases h:b=0<;>simp[h,bn,W9.cW,eqGuard,binOp,Op.intDiv,runtimePanic,program,goPanic,bC,bind,Sem.bind,pure]
def Ii:bn P .rem t x y (.lit (.int k a)) (.lit (.int k b))=if b≠0 then some (.lit (.int k (a.tmod b))) else none:=by
 by_cases h:b=0<;>simp[h,bn,W9.cW,eqGuard,binOp,Op.intDiv,runtimePanic,program,goPanic,bC,bind,Sem.bind,pure]
def Ij:bn P .lss t x y (.lit (.int k a)) (.lit (.int k b))=some (.lit (.bool (decide (a<b)))):=by
 simp[bn,W9.cW,eqGuard,binOp,Op.intCmp,bC,bind,Sem.bind,pure]
def Ik:bn P .leq t x y (.lit (.int k a)) (.lit (.int k b))=some (.lit (.bool (decide (a<=b)))):=by
 simp[bn,W9.cW,eqGuard,binOp,Op.intCmp,bC,bind,Sem.bind,pure]
def Il:bn P .gtr t x y (.lit (.int k a)) (.lit (.int k b))=some (.lit (.bool (decide (b<a)))):=by
 simp[bn,W9.cW,eqGuard,binOp,Op.intCmp,bC,bind,Sem.bind,pure]
def Im:bn P .geq t x y (.lit (.int k a)) (.lit (.int k b))=some (.lit (.bool (decide (b<=a)))):=by
 simp[bn,W9.cW,eqGuard,binOp,Op.intCmp,bC,bind,Sem.bind,pure]
def Io:bn P .eql t x y (.lit (.int k a)) (.lit (.int k b))=some (.lit (.bool (decide (a=b)))):=by
 simp[bn,W9.cW,eqGuard,binOp,Op.intCmp,bC,bind,Sem.bind,pure];rfl
def Ip:bn P .neq t x y (.lit (.int k a)) (.lit (.int k b))=some (.lit (.bool (!decide (a=b)))):=by
 simp[bn,W9.cW,eqGuard,binOp,Op.intCmp,bC,bind,Sem.bind,pure];rfl
def Iq {op:UnOp}(h:op=.neg):pY P op (.lit (.int k a))=some (.lit (.int k (k.wrap (0-a)))):=by
 subst h;rfl
def Ir (v:Bool):pY P .not (.lit (.bool v))=some (.lit (.bool (!v))):=rfl
def Is (H:Xn)(s d:TypeId)(v:Value):lG P H s d (.lit v)=lF P s d (.lit v):=rfl
def It (H:Xn)(s d:TypeId)(c:List W9):lG P H s d (.agg c)=lF P s d (.agg c):=rfl
def Iu {s d:TypeId}{k':IntKind}(hs:(P.underlying s).isSome=true)(hd:P.underlying d=some (.int k')):lF P s d (.lit (.int k a))=some (.lit (.int k' (k'.wrap a))):=by
 obtain⟨ds,hs⟩:=Tp.1 hs;simp only[lF,W9.cW];have:bC P (convert s d (.int k a))=some (.int k' (k'.wrap a)):=by
  simp[convert,underlying,program,hs,hd,bC,bind,Sem.bind,pure,Conv.intToInt]
 rw[this];rfl
end nums
def ext (H:Xn)(L:List Xe):Xn :=
 { get:=fun j=>if H.A<=j/\j<H.A+L.length then L[j-H.A]? else H.get j,A:=H.A+L.length }
def ext_nil (H:Xn):ext H []=H:=by
 unfold ext;have:(fun j=>if H.A<=j/\j<H.A+([]:List Xe).length then ([]:List Xe)[j-H.A]? else H.get j)=H.get:=by
  funext j
  rw[SQ];simp only[List.length_nil];omega
 rw[this];rfl
def aX (H:Xn)(L:List Xe):(ext H L).A=H.A+L.length:=rfl
def uk (H:Xn)(b:Xe):H.lay H.A b=some (ext H [b]):=by
 unfold Xn.lay ext;rw[SU rfl];congr 2
 funext j
 by_cases h:j=H.A
 ·subst h;simp
 ·rw[SQ h,SQ];simp only[List.length_cons,List.length_nil];omega
def xG (H:Xn)(L:List Xe)(b:Xe):(ext H L).lay (H.A+L.length) b=some (ext H (L++[b])):=by
 unfold Xn.lay;rw[SU (aX H L).symm];unfold ext;congr 2
 ·funext j
  simp only[List.length_append,List.length_cons,List.length_nil];by_cases h:j=H.A+L.length
  ·subst h;rw[SU rfl,SU O,Vq];simp
  ·rw[SQ h];by_cases h2:H.A<=j/\j<H.A+L.length
   ·rw[SU h2,SU O,Ta O]
   ·rw[SQ h2,SQ O]
 ·simp only[List.length_append,List.length_cons,List.length_nil];omega
def A2 (H:Xn)(L:List Xe)(i:Nat)(b:Xe)(h:L.length=i):(ext H L).lay (H.A+i) b=some (ext H (L++[b])):=by subst h;exact xG H L b
def bL (H:Xn)(L:List Xe)(i:Nat)(h:i<L.length):(ext H L).get (H.A+i)=L[i]?:=by
 unfold ext;simp only;rw[SU O,Vq]
def cP (H:Xn)(L:List Xe)(i:Nat)(h:i<H.A):(ext H L).get i=H.get i:=by
 unfold ext;simp only;rw[SQ O]
def xH (H:Xn)(L:List Xe)(i:Nat)(b:Xe)(h:i<L.length):(ext H L).upd (H.A+i) b=ext H (L.set i b):=by
 unfold ext Xn.upd;simp only[Tl];congr 1
 funext j
 by_cases hj:j=H.A+i
 ·subst hj;rw[SU rfl,SU O,Vq,Te h]
 ·rw[SQ hj];by_cases h2:H.A<=j/\j<H.A+L.length
  ·rw[SU h2,SU h2,To O]
  ·rw[SQ h2,SQ h2]
def rU (b:Option Xe)(gen:Nat):Option (TypeId × List W9) :=
 match b with
 |some (.J g e cells)=>if g=gen then some (e,cells) else none
 |_=>none
def Iv (g gen:Nat)(e:TypeId)(cells:List W9):rU (some (.J g e cells)) gen=if g=gen then some (e,cells) else none:=rfl
def xI (H:Xn)(L:List Xe)(i gen:Nat)(h:i<L.length):(ext H L).X (H.A+i) gen=rU L[i]? gen:=by
 unfold Xn.X rU;rw[bL H L i h];rfl
def Iw (H:Xn)(b:Xe)(L:List Xe)(gen:Nat):(ext H (b :: L)).X H.A gen=rU (some b) gen:=xI H (b :: L) 0 gen (W5)
def Ix (H:Xn)(c:Xe)(L:List Xe)(b:Xe):(ext H (c :: L)).upd H.A b=ext H (b :: L):=xH H (c :: L) 0 b (W5)
def gE {H R:Xn}{L:List Xe}(h:R=ext H L)(i:Nat){b:Xe}(hb:L[i]? = some b):R.get (H.A + i)=some b := by
  rw[h,bL H L i (by
    rcases Tg i L.length with g |g
    · exact g
    · rw[SX g] at hb;cases hb)]
  exact hb
def dv {H R:Xn}{b:Xe}{L:List Xe}(h:R=ext H (b :: L)):R.get H.A=some b := gE h 0 rfl
end Go.Hx
namespace Go.Hx
variable {P:Program} {G:Nat->Option (List W9)}
def rW (want:Bool):Option W9->Option Bool
 |some (.lit (.bool b))=>some (b == want)
 |some (.lit _)=>some false
 |none=>some false
 |_=>none
def Iy (want b:Bool):rW want (some (.lit (.bool b)))=some (b == want):=rfl
def Iz (b:Bool):(b == true)=b:=by cases b<;>rfl
def IA (b:Bool):(b == false)=!b:=by cases b<;>rfl
def IB (b:Bool)(p q:Prop):iS (!b) p q=iS b q p:=by cases b<;>simp[iS]
def A8 (t:Bool)(p q:Prop):(if t=true then p else q)=iS t p q:=by cases t<;>simp[iS]
def A9 (all:Array Oper)(ρ:Env)(d:Option Tmp)(op:Op)(ty:TypeId)(pos:String)(aft:Array Edge)(j:Nat)(want:Bool):
  gL all ρ ⟨d,op,ty,pos,aft,some (j,want)⟩=rW want (((all[j]?).bind (·.dst)).map ρ):=by
 unfold gL;simp only;cases (all[j]?).bind (·.dst) with
 |none=>rfl
 |some d =>
  simp only[Option.map_some];cases ρ d with
  |lit v=>cases v<;>rfl
  |_=>rfl
section
variable {rd:Option Nat} {Q:AX->St->Prop} {s:St} {d:Option Tmp} {ty:TypeId} {pos:String} {aft:Array Edge} {g:Option (Nat × Bool)}
def IC (all:Array Oper)(op:Op)(rest:List Oper)(j:Nat)(want:Bool):opsV P G rd Q all (⟨d,op,ty,pos,aft,some (j,want)⟩ :: rest) s =
  bh (rW want (((all[j]?).bind (·.dst)).map s.ρ)) fun t=>iS t (aY P G rd Q ⟨d,op,ty,pos,aft,some (j,want)⟩ (opsV P G rd Q all rest) s) (opsV P G rd Q all rest ⟨aQ s.ρ d (.lit undef),s.H⟩):=by
 rw[G9,A9];exact uf fun _=>A8 ..
variable {all:Array Oper} {tail:St->Prop} {b i:Nat} {bs:List Nat} {acc:List (Nat × FP)} {K:FP->St->Prop}
def ID (bs:List Nat):dI P G all tail bs i acc [] s=tail s:=by cases bs<;>rfl
def IE (op:Op)(rest:List Oper):dI P G all tail (b :: bs) i acc (⟨d,op,ty,pos,aft,none⟩ :: rest) s =
  bF P G ⟨d,op,ty,pos,aft,none⟩ (fun f s'=>je b f acc/\dI P G all tail bs (i+1) (iA i f acc) rest s') s:=by
 simp[dI,gL,bh]
def IF (op:Op)(rest:List Oper)(j:Nat)(want:Bool):dI P G all tail (b :: bs) i acc (⟨d,op,ty,pos,aft,some (j,want)⟩ :: rest) s =
  bh (rW want (((all[j]?).bind (·.dst)).map s.ρ)) fun t =>
   iS t (bF P G ⟨d,op,ty,pos,aft,some (j,want)⟩ (fun f s'=>je b f acc/\dI P G all tail bs (i+1) (iA i f acc) rest s') s)
    (dI P G all tail bs (i+1) acc rest ⟨aQ s.ρ d (.lit undef),s.H⟩):=by
 simp only[dI,A9];exact uf fun _=>A8 ..
def IG (fv:Operand)(args:Array Operand)(ats:Array TypeId):bF P G ⟨d,.call ⟨.value fv,args,ats⟩,ty,pos,aft,g⟩ K s =
  ∃v rs,bp P G (aw G s.ρ fv) (args.toList.map (aw G s.ρ)) s.H v rs/\K ⟨[],rs⟩ ⟨aQ s.ρ d v,s.H⟩:=(rfl)
abbrev QF:AX->St->Prop:=fun _ _=>False
def IH (x:Operand):bF P G ⟨d,.move x,ty,pos,aft,g⟩ K s=aY P G none QF ⟨d,.move x,ty,pos,aft,g⟩ (K ⟨[],[]⟩) s:=(rfl)
def II (x:Operand):bF P G ⟨d,.assign x,ty,pos,aft,g⟩ K s=aY P G none QF ⟨d,.assign x,ty,pos,aft,g⟩ (K ⟨[],[]⟩) s:=(rfl)
def IJ (c x y:Operand):bF P G ⟨d,.pick c x y,ty,pos,aft,g⟩ K s=aY P G none QF ⟨d,.pick c x y,ty,pos,aft,g⟩ (K ⟨[],[]⟩) s:=(rfl)
def IK (e:TypeId):bF P G ⟨d,.alloc e,ty,pos,aft,g⟩ K s=aY P G none QF ⟨d,.alloc e,ty,pos,aft,g⟩ (K ⟨[s.H.A],[]⟩) s:=(rfl)
def IL (e:TypeId)(x:Operand):bF P G ⟨d,.box e x,ty,pos,aft,g⟩ K s=aY P G none QF ⟨d,.box e x,ty,pos,aft,g⟩ (K ⟨[s.H.A],[]⟩) s:=(rfl)
def IM (t:TypeId)(p:Array (Nat × Operand)):bF P G ⟨d,.build t p,ty,pos,aft,g⟩ K s=aY P G none QF ⟨d,.build t p,ty,pos,aft,g⟩ (K ⟨[],[]⟩) s:=(rfl)
def IN (t:TypeId)(l:Nat)(p:Array (Nat × Operand)):bF P G ⟨d,.buildSlice t l p,ty,pos,aft,g⟩ K s=aY P G none QF ⟨d,.buildSlice t l p,ty,pos,aft,g⟩ (K ⟨[s.H.A],[]⟩) s:=(rfl)
def IP (t:TypeId)(x:Operand):bF P G ⟨d,.load t x,ty,pos,aft,g⟩ K s=aY P G none QF ⟨d,.load t x,ty,pos,aft,g⟩ (K ⟨[],aL (aw G s.ρ x)⟩) s:=(rfl)
def IQ (t:TypeId)(x y:Operand):bF P G ⟨d,.store t x y,ty,pos,aft,g⟩ K s=aY P G none QF ⟨d,.store t x y,ty,pos,aft,g⟩ (K ⟨aL (aw G s.ρ x),aL (aw G s.ρ x)⟩) s:=(rfl)
def IR (x:Operand):bF P G ⟨d,.nilCheck x,ty,pos,aft,g⟩ K s=aY P G none QF ⟨d,.nilCheck x,ty,pos,aft,g⟩ (K ⟨[],aL (aw G s.ρ x)⟩) s:=(rfl)
def IS (op:BinOp)(t:TypeId)(x y:Operand)(u:TypeId):bF P G ⟨d,.binOp op t x y u,ty,pos,aft,g⟩ K s=bh (bn P op t x y (aw G s.ρ x) (aw G s.ρ y)) fun v=>K ⟨[],[]⟩ ⟨aQ s.ρ d v,s.H⟩:=by
 simp only[bF,ak,iB];rfl
def IT (op:UnOp)(t:TypeId)(x:Operand):bF P G ⟨d,.unOp op t x,ty,pos,aft,g⟩ K s=aY P G none QF ⟨d,.unOp op t x,ty,pos,aft,g⟩ (K ⟨[],[]⟩) s:=(rfl)
def IU (t u:TypeId)(x:Operand):bF P G ⟨d,.convert t u x,ty,pos,aft,g⟩ K s=aY P G none QF ⟨d,.convert t u x,ty,pos,aft,g⟩ (K ⟨[],aL (aw G s.ρ x)⟩) s:=(rfl)
def IV (t:TypeId)(x:Operand):bF P G ⟨d,.makeInterface t x,ty,pos,aft,g⟩ K s=aY P G none QF ⟨d,.makeInterface t x,ty,pos,aft,g⟩ (K ⟨[],[]⟩) s:=(rfl)
def IW (f:Fn)(x y:Array Operand):bF P G ⟨d,.makeFunc f x y,ty,pos,aft,g⟩ K s=aY P G none QF ⟨d,.makeFunc f x y,ty,pos,aft,g⟩ (K ⟨[],[]⟩) s:=(rfl)
def IX (t:TypeId)(x y:Operand):bF P G ⟨d,.makeSlice t x y,ty,pos,aft,g⟩ K s=aY P G none QF ⟨d,.makeSlice t x y,ty,pos,aft,g⟩ (K ⟨[s.H.A],[]⟩) s:=(rfl)
def IY (t:TypeId)(x:Operand)(lo hi mx:Option Operand):bF P G ⟨d,.slice t x lo hi mx,ty,pos,aft,g⟩ K s=aY P G none QF ⟨d,.slice t x lo hi mx,ty,pos,aft,g⟩ (K ⟨[],aL (aw G s.ρ x)⟩) s:=(rfl)
def IZ (t:TypeId)(x:Operand)(f:Nat):bF P G ⟨d,.fieldAddr t x f,ty,pos,aft,g⟩ K s=aY P G none QF ⟨d,.fieldAddr t x f,ty,pos,aft,g⟩ (K ⟨[],aL (aw G s.ρ x)⟩) s:=(rfl)
def I0 (t:TypeId)(x:Operand)(f:Nat):bF P G ⟨d,.field t x f,ty,pos,aft,g⟩ K s=aY P G none QF ⟨d,.field t x f,ty,pos,aft,g⟩ (K ⟨[],[]⟩) s:=(rfl)
def I1 (t:TypeId)(x y:Operand):bF P G ⟨d,.indexAddr t x y,ty,pos,aft,g⟩ K s=aY P G none QF ⟨d,.indexAddr t x y,ty,pos,aft,g⟩ (K ⟨[],aL (aw G s.ρ x)⟩) s:=(rfl)
def I3 (t:TypeId)(x y:Operand):bF P G ⟨d,.index t x y,ty,pos,aft,g⟩ K s=aY P G none QF ⟨d,.index t x y,ty,pos,aft,g⟩ (K ⟨[],[]⟩) s:=(rfl)
def I4 (x:Operand)(f:Nat):bF P G ⟨d,.extract x f,ty,pos,aft,g⟩ K s=aY P G none QF ⟨d,.extract x f,ty,pos,aft,g⟩ (K ⟨[],[]⟩) s:=(rfl)
def I5 (f:Builtin)(args:Array Operand)(ats:Array TypeId):bF P G ⟨d,.call ⟨.builtin f,args,ats⟩,ty,pos,aft,g⟩ K s =
  aY P G none QF ⟨d,.call ⟨.builtin f,args,ats⟩,ty,pos,aft,g⟩ (K (kF P s.H.A f ats.toList (args.toList.map (aw G s.ρ)))) s:=rfl
end
def I6 (v:Value):aL (.lit v)=[]:=rfl
def I7 (n:Nat)(l:List W9):aL (.M n l)=[]:=rfl
def I9 (l:List W9)(o:Nat):aL (.nf l o)=[]:=rfl
def Ja (l:List W9):aL (.agg l)=[]:=rfl
def Jb (id g o l z:Nat):aL (.Q id g o l z)=[id]:=rfl
def Jc (id g o:Nat):aL (.R id g o)=[id]:=rfl
def Jd (id g o l z:Nat):lJ (.Q id g o l z)=true:=rfl
def Je (v:Value):lJ (.lit v)=false:=rfl
def Jf (n:Nat)(l:List W9):lJ (.M n l)=false:=rfl
def Jg (id:Nat)(t:TypeId)(x:W9):kF P id .len [t] [x]=⟨[],mz P t x⟩:=rfl
def Jh (id:Nat)(ts:List TypeId)(x y:W9):kF P id .append ts [x,y]=if lJ x=true then ⟨aL x,aL x++aL y⟩ else ⟨[id],aL y⟩:=by
 cases ts with
 |nil=>rfl
 |cons t ts=>cases ts<;>rfl
def Ji (id:Nat)(ts:List TypeId)(x y:W9):kF P id .copy ts [x,y]=⟨aL x,aL x++aL y⟩:=by
 cases ts with
 |nil=>rfl
 |cons t ts=>cases ts<;>rfl
def Jj (t:TypeId)(x:W9)(h:aL x=[]):mz P t x=[]:=by unfold mz;split<;>first|exact h|rfl
def Jk (t:TypeId)(n:Nat)(l:List W9):mz P t (.M n l)=[]:=Jj _ _ rfl
def nN (f f':FP):Prop:=(∀r,r∈f.nt->r ∉ f'.rs)/\(∀r,r∈f'.nt->r ∉ f.rs)
def Jl (b:Nat)(f:FP):je b f []=True:=by simp[je]
def Jm (b:Nat)(f:FP)(j:Nat)(f':FP)(acc:List (Nat × FP)):je b f ((j,f') :: acc)=((b / 2 ^ j % 2=1\/nN f f')/\je b f acc):=by
 simp only[je,List.forall_mem_cons,Nat.testBit_eq_decide_div_mod_eq,VQ,eq_iff_iff];refine and_congr ⟨fun h=>?_,fun h hb=>?_⟩ Iff.rfl
 ·by_cases hb:b / 2 ^ j % 2=1
  ·exact .inl hb
  ·exact .inr (h hb)
 ·rcases h with h|h
  ·exact absurd h hb
  ·exact h
def Jn (b:Nat)(acc:List (Nat × FP)):je b ⟨[],[]⟩ acc=True:=by
 simp[je]
def Jo (e r e' r':List Nat):nN ⟨e,r⟩ ⟨e',r'⟩=((∀x,x∈e->x ∉ r')/\∀x,x∈e'->x ∉ r):=rfl
def Jp (i:Nat)(acc:List (Nat × FP)):iA i ⟨[],[]⟩ acc=acc:=rfl
def Jq (i x:Nat)(e r:List Nat)(acc:List (Nat × FP)):iA i ⟨x :: e,r⟩ acc=(i,⟨x :: e,r⟩) :: acc:=rfl
def Jr (i x:Nat)(e r:List Nat)(acc:List (Nat × FP)):iA i ⟨e,x :: r⟩ acc=(i,⟨e,x :: r⟩) :: acc:=by cases e<;>rfl
def bp.mk {f:FuncId}{first cap args:List W9}{H:Xn}{v:W9}{rs:List Nat}(hlt:∀r,r∈rs->r<H.A)
  (h:∀H2:Xn,(∀r,r∈rs->H2.get r=H.get r)->H.A<=H2.A->ae P G f (first++args++cap) H2 fun r H3=>r=.ret v/\H3=H2):bp P G (.Z f first cap) args H v rs :=
 ⟨hlt,fun H2 h1 h2=>az.Z (h H2 h1 h2)⟩
def bp.pure {f:FuncId}{args:List W9}{H:Xn}{v:W9}(h:∀H2:Xn,ae P G f args H2 fun r H3=>r=.ret v/\H3=H2):bp P G (.Z f [] []) args H v [] :=
 bp.mk (fun _ h=>by cases h) fun H2 _ _=>by simpa using h H2
def ae.pure {f:FuncId}{args:List W9}{H:Xn}{v:W9}{K:Xd->Xn->Prop}(h:∀H2:Xn,ae P G f args H2 fun r H3=>r=.ret v/\H3=H2)(hk:K (.ret v) H):ae P G f args H K :=
 (h H).mono fun r H3 ⟨h1,h2⟩=>by rw[h1,h2];exact hk
def W.dr {n:Nat}{id:Nat}{all:Array Oper}{rd:Option Nat}{Q:AX -> St -> Prop}{s:St}(K:Nat)(bs:List Nat)(hm:P.follows .mixedOrders=true)(h:dI P G all (opsV P G rd Q all (all.toList.drop K)) bs 0 [] (all.toList.take K) s)(hfit:all.toList.all (fV n)=true := by kernel_rfl)(hst:rT all bs K=true := by kernel_rfl):W P G n rd (.region id all true) Q s := W.draw K bs hm hfit hst h
def ae.st {H : Xn} {f : FuncId} {fn : Func} {c : Code} {args : List W9} {K : Xd → Xn → Prop} {rs : List ResultVar} {n : Nat} (hf : P.funcs[f]? = some fn) (h : vc P G n none c (qk P G rs H K) ⟨iz args, H⟩) (hb : fn.body = some c := by exact rfl) (hres : fn.results.toList = rs := by exact rfl) (hnt : fn.ntmps = n := by exact rfl) (hname : (fn.name == "runtime.NumGoroutine") = false := by decide) (hfit : fits n c = true := by kernel_rfl) (hargs : args.length ≤ n := by simp) : ae P G f args H K := .F6 hf hb hres hnt hname hfit hargs h
def ae.sw {H : Xn} {f : FuncId} {fn : Func} {c : Code} {args : List W9} {K : Xd → Xn → Prop} {rs : List ResultVar} {n : Nat} (hf : P.funcs[f]? = some fn) (h : W P G n none c (qk P G rs H K) ⟨iz args, H⟩) (hb : fn.body = some c := by exact rfl) (hres : fn.results.toList = rs := by exact rfl) (hnt : fn.ntmps = n := by exact rfl) (hname : (fn.name == "runtime.NumGoroutine") = false := by decide) (hargs : args.length ≤ n := by simp) : ae P G f args H K := .AN hf hb hres hnt hname hargs h
end Go.Hx
namespace Go.Hx
variable {P:Program} {G:Nat->Option (List W9)} {H:Xn}
def iC (H:Xn)(x:W9):Option W9 :=
 match x with
  |.M len _=>some (.lit (.int .i64 len))
  |.Q id gen _ len _=>(H.X id gen).map fun _=>.lit (.int .i64 len)
  |.lit (.slice none 0 0)=>some (.lit (.int .i64 0))
  |_=>none
def xP (x:W9):Option W9 :=
 match x with
  |.lit (.string s)=>some (.lit (.int .i64 s.size))
  |_=>none
def r8 (d:Option TypeDesc)(H:Xn)(x:W9):Option W9 :=
 match d with
 |some (.slice _)=>iC H x
 |some .string=>xP x
 |some (.array n _)=>some (.lit (.int .i64 n))
 |_=>none
def JE (t:TypeId)(x:W9):mm P H t x=r8 (P.underlying t) H x:=rfl
def qv (e:TypeId)(x:W9):r8 (some (.slice e)) H x=iC H x:=rfl
def JF (x:W9):r8 (some .string) H x=xP x:=rfl
def JG (n:Nat)(e:TypeId)(x:W9):r8 (some (.array n e)) H x=some (.lit (.int .i64 n)):=rfl
def JH (n:Nat)(l:List W9):iC H (.M n l)=some (.lit (.int .i64 n)):=rfl
def Bd (id g o n z:Nat):iC H (.Q id g o n z)=(H.X id g).map fun _=>.lit (.int .i64 n):=rfl
def JI:iC H (.lit (.slice none 0 0))=some (.lit (.int .i64 0)):=rfl
def JJ (s:ByteArray):xP (.lit (.string s))=some (.lit (.int .i64 s.size)):=rfl
def mA (d:Option TypeDesc)(n:Nat)(cells:List W9)(off:Nat):Option W9 :=
 match d with
 |none=>none
 |some d=>if pQ d then (if off+n<=cells.length then some (.agg ((cells.drop off).take n)) else none) else cells[off]?
def JK (t:TypeId)(cells:List W9)(off:Nat):iQ P t cells off=mA (P.underlying t) (P.cellsOf t) cells off:=rfl
def JL (k:IntKind)(n:Nat)(cells:List W9)(off:Nat):mA (some (.int k)) n cells off=cells[off]?:=rfl
def JM (n:Nat)(cells:List W9)(off:Nat):mA (some .bool) n cells off=cells[off]?:=rfl
def JN (n:Nat)(cells:List W9)(off:Nat):mA (some .string) n cells off=cells[off]?:=rfl
def JO (e:TypeId)(n:Nat)(cells:List W9)(off:Nat):mA (some (.slice e)) n cells off=cells[off]?:=rfl
def JP (e:TypeId)(n:Nat)(cells:List W9)(off:Nat):mA (some (.pointer e)) n cells off=cells[off]?:=rfl
def JQ (fs:Array Field)(n:Nat)(cells:List W9)(off:Nat):mA (some (.struct fs)) n cells off=if off+n<=cells.length then some (.agg ((cells.drop off).take n)) else none:=rfl
def JR (k:Nat)(e:TypeId)(n:Nat)(cells:List W9)(off:Nat):mA (some (.array k e)) n cells off=if off+n<=cells.length then some (.agg ((cells.drop off).take n)) else none:=rfl
def JS (cells vs:List W9):setAt cells 0 vs=vs++cells.drop vs.length:=by simp[setAt]
def JT (c:W9)(cells vs:List W9)(off:Nat):setAt (c :: cells) (off+1) vs=c :: setAt cells off vs:=by simp[setAt,Nat.succ_add]
def JU (t:TypeId)(cells:List W9)(off:Nat):g9 P H t (.nf cells off)=iQ P t cells off:=rfl
def JV (t:TypeId)(id gen off:Nat):g9 P H t (.R id gen off)=(H.X id gen).bind fun ec=>iQ P t ec.2 off:=by
 simp only[Xn.X,g9];generalize H.get id=x;cases x with
 |none=>rfl
 |some b =>
  cases b with
  |J g e cells =>
   simp only;by_cases hg:g=gen
   ·rw[SU hg,SU hg];rfl
   ·rw[SQ hg,SQ hg];rfl
  |_=>rfl
def JW (t:TypeId)(id gen off:Nat)(v:W9):jQ P H t (.R id gen off) v =
  (H.X id gen).bind fun ec=>if v.cells.length=P.cellsOf t/\v.cells.all W9.one=true/\off+v.cells.length<=ec.2.length then some (H.upd id (.J gen ec.1 (setAt ec.2 off v.cells))) else none:=by
 simp only[Xn.X,jQ];generalize H.get id=x;cases x with
 |none=>rfl
 |some b =>
  cases b with
  |J g e cells =>
   simp only;by_cases hg:g=gen
   ·subst hg;simp
   ·rw[SQ hg,SQ (fun h=>hg h.1)];rfl
  |_=>rfl
def uy (H:Xn)(c:Nat)(x:W9)(i:Int):Option W9 :=
 match x with
 |.Q id gen off len sz=>if 0<=i/\i<(len:Int)/\sz=c then (H.X id gen).map fun _=>.R id gen (off+i.toNat*c) else none
 |.M len cells=>if 0<=i/\i<(len:Int)/\cells≠[] then some (.nf cells (i.toNat*c)) else none
 |_=>none
def r9 (H:Xn)(c n:Nat)(x:W9)(i:Int):Option W9 :=
 if 0<=i/\i<(n:Int) then
   match x with
   |.R id gen off=>(H.X id gen).map fun _=>.R id gen (off+i.toNat*c)
   |.nf cells off=>some (.nf cells (off+i.toNat*c))
   |_=>none
 else none
def uz (P:Program)(H:Xn)(d:Option TypeDesc)(x:W9)(i:Int):Option W9 :=
 match d with
 |some (.array n e)=>if (P.underlying e).isSome then r9 H (P.cellsOf e) n x i else none
 |some (.slice e)=>if (P.underlying e).isSome then uy H (P.cellsOf e) x i else none
 |_=>none
def JX (t:TypeId)(x:W9)(k:IntKind)(i:Int):uj P H t x (.lit (.int k i))=uz P H (P.underlying t) x i:=by
 simp only[uj,np,uz];cases P.underlying t with
 |none=>rfl
 |some d =>
  cases d with
  |array n e =>
   simp only[r9];by_cases h:(P.underlying e).isSome=true
   ·simp only[h,and_true,if_true];rfl
   ·rw[SQ h,SQ (fun h'=>h h'.2.2)]
  |slice e=>rfl
  |_=>rfl
def JY (e:TypeId)(x:W9)(i:Int):uz P H (some (.slice e)) x i=if (P.underlying e).isSome=true then uy H (P.cellsOf e) x i else none:=rfl
def JZ (n:Nat)(e:TypeId)(x:W9)(i:Int):uz P H (some (.array n e)) x i=if (P.underlying e).isSome=true then r9 H (P.cellsOf e) n x i else none:=rfl
def J0 (c n:Nat)(l:List W9)(i:Int):uy H c (.M n l) i=if 0<=i/\i<(n:Int)/\l≠[] then some (.nf l (i.toNat*c)) else none:=rfl
def J1 (c id g o n z:Nat)(i:Int):uy H c (.Q id g o n z) i=if 0<=i/\i<(n:Int)/\z=c then (H.X id g).map fun _=>.R id g (o+i.toNat*c) else none:=rfl
def J2 (c n:Nat)(l:List W9)(o:Nat)(i:Int):r9 H c n (.nf l o) i=if 0<=i/\i<(n:Int) then some (.nf l (o+i.toNat*c)) else none:=rfl
def J3 (c n id g o:Nat)(i:Int):r9 H c n (.R id g o) i=if 0<=i/\i<(n:Int) then (H.X id g).map fun _=>.R id g (o+i.toNat*c) else none:=rfl
def sd (H:Xn)(c:Nat)(x:W9)(lo hi:Option W9):Option W9 :=
   match x with
   |.Q id gen off len sz=>if sz=c then (H.X id gen).bind fun _=>(bZ hi len len).bind fun h=>(bZ lo 0 h).map fun l=>.Q id gen (off+l*sz) (h-l) sz else none
   |.M len cells=>if cells.length=len*c then (bZ hi len len).bind fun h=>(bZ lo 0 h).map fun l=>.M (h-l) ((cells.drop (l*c)).take ((h-l)*c)) else none
   |.lit (.slice none 0 0)=>(bZ hi 0 0).bind fun h=>(bZ lo 0 h).map fun _=>.lit (.slice none 0 0)
   |_=>none
def xQ (H:Xn)(c n:Nat)(x:W9)(lo hi:Option W9):Option W9 :=
   match x with
   |.R id gen off =>
    match H.X id gen with
    |some (_,cells) =>
     if off+n*c<=cells.length then
      (bZ hi n n).bind fun h=>(bZ lo 0 h).map fun l=>.Q id gen (off+l*c) (h-l) c
     else none
    |none=>none
   | .nf cells off=>if off+n*c≤cells.length then
      (bZ hi n n).bind fun h=>(bZ lo 0 h).map fun l=>.M (h-l) ((cells.drop (off+l*c)).take ((h-l)*c))
     else none
   |_=>none
def xR (x:W9)(lo hi:Option W9):Option W9 :=
  match x with
  |.lit (.string s)=>(bZ hi s.size s.size).bind fun h=>(bZ lo 0 h).map fun l=>.lit (.string (s.extract l h))
  |_=>none
def uA (P:Program)(H:Xn)(d:Option TypeDesc)(x:W9)(lo hi:Option W9):Option W9 :=
 match d with
 |some (.array n e)=>if (P.underlying e).isSome then xQ H (P.cellsOf e) n x lo hi else none
 |some (.slice e)=>if (P.underlying e).isSome then sd H (P.cellsOf e) x lo hi else none
 |some .string=>xR x lo hi
 |_=>none
def J4 (t:TypeId)(x:W9)(lo hi:Option W9):nt P H t x lo hi=uA P H (P.underlying t) x lo hi:=rfl
def J5 (e:TypeId)(x:W9)(lo hi:Option W9):uA P H (some (.slice e)) x lo hi=if (P.underlying e).isSome=true then sd H (P.cellsOf e) x lo hi else none:=rfl
def J6 (n:Nat)(e:TypeId)(x:W9)(lo hi:Option W9):uA P H (some (.array n e)) x lo hi=if (P.underlying e).isSome=true then xQ H (P.cellsOf e) n x lo hi else none:=rfl
def J7 (x:W9)(lo hi:Option W9):uA P H (some .string) x lo hi=xR x lo hi:=rfl
def J8 (c id g o n z:Nat)(lo hi:Option W9):sd H c (.Q id g o n z) lo hi=if z=c then (H.X id g).bind fun _=>(bZ hi n n).bind fun h=>(bZ lo 0 h).map fun l=>.Q id g (o+l*z) (h-l) z else none:=rfl
def J9 (c n:Nat)(cells:List W9)(lo hi:Option W9):sd H c (.M n cells) lo hi=if cells.length=n*c then (bZ hi n n).bind fun h=>(bZ lo 0 h).map fun l=>.M (h-l) ((cells.drop (l*c)).take ((h-l)*c)) else none:=rfl
def Ka (c:Nat)(lo hi:Option W9):sd H c (.lit (.slice none 0 0)) lo hi=(bZ hi 0 0).bind fun h=>(bZ lo 0 h).map fun _=>.lit (.slice none 0 0):=rfl
def Kc (c n:Nat)(cells:List W9)(off:Nat)(lo hi:Option W9):xQ H c n (.nf cells off) lo hi=if off+n*c<=cells.length then
      (bZ hi n n).bind fun h=>(bZ lo 0 h).map fun l=>.M (h-l) ((cells.drop (off+l*c)).take ((h-l)*c)) else none:=rfl
def Kd (s:ByteArray)(lo hi:Option W9):xR (.lit (.string s)) lo hi=(bZ hi s.size s.size).bind fun h=>(bZ lo 0 h).map fun l=>.lit (.string (s.extract l h)):=rfl
def Ke (d m:Nat):bZ none d m=some d:=rfl
def Kf (k:IntKind)(i:Int)(d m:Nat):bZ (some (.lit (.int k i))) d m=if 0<=i/\i<=(m:Int) then some i.toNat else none:=rfl
def Kg (sz n:Nat)(l:List W9):cX H sz (.M n l)=if l.length=n*sz then some (n,l) else none:=rfl
def se (sz id g o n z:Nat):cX H sz (.Q id g o n z)=if z=sz then (H.X id g).map fun x=>(n,(x.2.drop o).take (n*sz)) else none:=rfl
def xS (sz:Nat):cX H sz (.lit (.slice none 0 0))=some (0,[]):=rfl
def uB (P:Program)(H:Xn)(id:Nat)(d0 d1:Option TypeDesc)(s x:W9):Option (W9 × Xn) :=
 match d0,d1 with
 | some (.slice e),some (.slice _)=>(bU P e).bind fun _=>(cX H (P.cellsOf e) x).bind fun nx =>
    match s with
    |.lit (.slice none 0 0) =>
     if nx.1=0 then some (s,H)
     else if nx.1*P.bytesOf e<=2 ^ 47/\nx.1<=2 ^ 47 then (H.lay id (.J 0 e nx.2)).map fun H'=>(.Q id 0 0 nx.1 (P.cellsOf e),H')
     else none
    |.Q id' gen off len sz =>
     (H.X id' gen).bind fun ec =>
      if ec.1=e/\sz=P.cellsOf e/\off+len*sz=ec.2.length/\(len+nx.1)*P.bytesOf e<=2 ^ 47/\len+nx.1<=2 ^ 47/\nx.2.all W9.one=true then
       if nx.1=0 then some (s,H)
       else some (.Q id' (gen+1) 0 (len+nx.1) sz,H.upd id' (.J (gen+1) e (ec.2.drop off++nx.2)))
      else none
    |_=>none
 |_,_=>none
def aJ (id:Nat)(t u:TypeId)(s x:W9):bT P H id t u s x=uB P H id (P.underlying t) (P.underlying u) s x:=by
 unfold bT uB;cases P.underlying t with
 |none=>rfl
 |some d =>
  cases d with
  |slice e =>
   cases P.underlying u with
   |none=>rfl
   |some d'=>cases d'<;>rfl
  |_=>rfl
def Kh (id:Nat)(e u:TypeId)(x:W9):uB P H id (some (.slice e)) (some (.slice u)) (.lit (.slice none 0 0)) x=(bU P e).bind fun _=>(cX H (P.cellsOf e) x).bind fun nx =>
  if nx.1=0 then some (.lit (.slice none 0 0),H) else if nx.1*P.bytesOf e<=2 ^ 47/\nx.1<=2 ^ 47 then (H.lay id (.J 0 e nx.2)).map fun H'=>(.Q id 0 0 nx.1 (P.cellsOf e),H') else none:=rfl
def Ki (id:Nat)(e u:TypeId)(x:W9)(id' gen off len sz:Nat):uB P H id (some (.slice e)) (some (.slice u)) (.Q id' gen off len sz) x=(bU P e).bind fun _=>(cX H (P.cellsOf e) x).bind fun nx =>
  (H.X id' gen).bind fun ec =>
      if ec.1=e/\sz=P.cellsOf e/\off+len*sz=ec.2.length/\(len+nx.1)*P.bytesOf e<=2 ^ 47/\len+nx.1<=2 ^ 47/\nx.2.all W9.one=true then
       if nx.1=0 then some (.Q id' gen off len sz,H)
       else some (.Q id' (gen+1) 0 (len+nx.1) sz,H.upd id' (.J (gen+1) e (ec.2.drop off++nx.2)))
      else none:=rfl
def Be (P:Program)(H:Xn)(d0:Option TypeDesc)(d x:W9):Option (W9 × Xn) :=
 match d0 with
 |some (.slice e) =>
  if (P.underlying e).isSome then
   (cX H (P.cellsOf e) x).bind fun nx =>
    match d with
    |.Q id gen off len sz =>
     (H.X id gen).bind fun ec =>
      if sz=P.cellsOf e/\off+len*sz<=ec.2.length/\nx.2.all W9.one=true then
       some (.lit (.int .i64 (min nx.1 len:Nat)),H.upd id (.J gen ec.1 (setAt ec.2 off (nx.2.take (min nx.1 len*sz)))))
      else none
    |_=>none
  else none
 |_=>none
def Kj (t:TypeId)(d x:W9):lD P H t d x=Be P H (P.underlying t) d x:=rfl
def Kk (e:TypeId)(id gen off len sz:Nat)(x:W9):Be P H (some (.slice e)) (.Q id gen off len sz) x=if (P.underlying e).isSome=true then
   (cX H (P.cellsOf e) x).bind fun nx=>(H.X id gen).bind fun ec =>
      if sz=P.cellsOf e/\off+len*sz<=ec.2.length/\nx.2.all W9.one=true then
       some (.lit (.int .i64 (min nx.1 len:Nat)),H.upd id (.J gen ec.1 (setAt ec.2 off (nx.2.take (min nx.1 len*sz)))))
      else none
   else none:=rfl
def xT (P:Program)(H:Xn)(id:Nat)(d:Option TypeDesc)(l c:W9):Option (W9 × Xn) :=
 match d,l,c with
 |some (.slice e),.lit (.int _ l),.lit (.int _ c) =>
  if 0<=l/\l<=c/\c*P.bytesOf e<=2 ^ 46/\c<=2 ^ 46 then
   (kA P e l.toNat).bind fun cells=>(H.lay id (.J 0 e cells)).map fun H'=>(.Q id 0 0 l.toNat (P.cellsOf e),H')
  else none
 |_,_,_=>none
def Kl (id:Nat)(t:TypeId)(l c:W9):mo P H id t l c=xT P H id (P.underlying t) l c:=by
 unfold mo xT;cases P.underlying t with
 |none=>rfl
 |some d=>rfl
def Km (id:Nat)(e:TypeId)(k k':IntKind)(l c:Int):xT P H id (some (.slice e)) (.lit (.int k l)) (.lit (.int k' c))=if 0<=l/\l<=c/\c*P.bytesOf e<=2 ^ 46/\c<=2 ^ 46 then
   (kA P e l.toNat).bind fun cells=>(H.lay id (.J 0 e cells)).map fun H'=>(.Q id 0 0 l.toNat (P.cellsOf e),H')
  else none:=rfl
def Kn (e:TypeId)(n:Nat):kA P e n=(bU P e).map fun z=>(List.replicate n z).flatten:=rfl
def Ko (n:Nat)(v:W9):(List.replicate n [v]).flatten=List.replicate n v:=by
 induction n with
 |zero=>rfl
 |succ n ih=>rw[Uo,List.flatten_cons,ih,Uo];rfl
def Bf (P:Program)(H:Xn)(id:Nat)(d:Option TypeDesc)(len:Nat)(parts:List (Nat × W9)):Option (W9 × Xn) :=
 match d with
 |some (.slice e) =>
  if len*P.cellsOf e<=2 ^ 24 then
   (kA P e len).bind fun z=>(fH (fun i=>some (i*P.cellsOf e,P.cellsOf e)) z parts).bind fun cells =>
    (H.lay id (.J 0 e cells)).map fun H'=>(.Q id 0 0 len (P.cellsOf e),H')
  else none
 |_=>none
def Kp (id:Nat)(t:TypeId)(len:Nat)(parts:List (Nat × W9)):nu P H id t len parts=Bf P H id (P.underlying t) len parts:=rfl
def Kq (id:Nat)(e:TypeId)(len:Nat)(parts:List (Nat × W9)):Bf P H id (some (.slice e)) len parts=if len*P.cellsOf e<=2 ^ 24 then
   (kA P e len).bind fun z=>(fH (fun i=>some (i*P.cellsOf e,P.cellsOf e)) z parts).bind fun cells =>
    (H.lay id (.J 0 e cells)).map fun H'=>(.Q id 0 0 len (P.cellsOf e),H')
  else none:=rfl
def xU (P:Program)(t:TypeId)(d:Option TypeDesc)(parts:List (Nat × W9)):Option W9 :=
 (bU P t).bind fun z =>
  match d with
  |some (.struct _)=>(iR P t).bind fun pl=>(fH (fun i=>pl[i]?) z parts).map .agg
  |some (.array _ e)=>if (P.underlying e).isSome then (fH (fun i=>some (i*P.cellsOf e,P.cellsOf e)) z parts).map .agg else none
  |_=>none
def Kr (t:TypeId)(parts:List (Nat × W9)):rD P t parts=xU P t (P.underlying t) parts:=rfl
def Ks (t:TypeId)(fs:Array Field)(parts:List (Nat × W9)):xU P t (some (.struct fs)) parts=(bU P t).bind fun z=>(iR P t).bind fun pl=>(fH (fun i=>pl[i]?) z parts).map .agg:=rfl
def Kt (t:TypeId)(n:Nat)(e:TypeId)(parts:List (Nat × W9)):xU P t (some (.array n e)) parts=(bU P t).bind fun z=>if (P.underlying e).isSome=true then (fH (fun i=>some (i*P.cellsOf e,P.cellsOf e)) z parts).map .agg else none:=rfl
def Ku (pl:Nat->Option (Nat × Nat))(cells:List W9):fH pl cells []=some cells:=rfl
def Kv (pl:Nat->Option (Nat × Nat))(cells:List W9)(i:Nat)(v:W9)(rest:List (Nat × W9)):fH pl cells ((i,v) :: rest)=(pl i).bind fun os =>
  if v.cells.length=os.2/\os.1+v.cells.length<=cells.length then fH pl (setAt cells os.1 v.cells) rest else none:=by
 simp only[fH];cases pl i<;>rfl
def Kw (k:IntKind)(n:Int):(W9.lit (.int k n)).cells=[.lit (.int k n)]:=rfl
def Kx (b:Bool):(W9.lit (.bool b)).cells=[.lit (.bool b)]:=rfl
def Ky (s:ByteArray):(W9.lit (.string s)).cells=[.lit (.string s)]:=rfl
def Kz (a:Option Addr)(n c:Nat):(W9.lit (.slice a n c)).cells=[.lit (.slice a n c)]:=rfl
def KA (l:List W9):(W9.agg l).cells=l:=rfl
def KB (n:Nat)(l:List W9):(W9.M n l).cells=[.M n l]:=rfl
def KC (a b c d e:Nat):(W9.Q a b c d e).cells=[.Q a b c d e]:=rfl
def KD (a b c:Nat):(W9.R a b c).cells=[.R a b c]:=rfl
def KE (k:IntKind)(n:Int):(W9.lit (.int k n)).one=true:=rfl
def KF (b:Bool):(W9.lit (.bool b)).one=true:=rfl
def KG (s:ByteArray):(W9.lit (.string s)).one=true:=rfl
def KH (a:Option Addr)(n c:Nat):(W9.lit (.slice a n c)).one=true:=rfl
def KI (n:Nat)(l:List W9):(W9.M n l).one=true:=rfl
def KJ (a b c d e:Nat):(W9.Q a b c d e).one=true:=rfl
def KK (a b c:Nat):(W9.R a b c).one=true:=rfl
def aa (n:Int):W9:=.lit (.int .i64 n)
def ints (l:List Int):List W9:=l.map aa
def ah (l:List Int):W9:=.M l.length (ints l)
def aS (l:List Int):(ints l).length=l.length:=S8 ..
def eG (l:List Int)(i:Nat):(ints l)[i]?=(l[i]?).map aa:=List.getElem?_map ..
def xK (l:List Int):ints l=[]↔l=[]:=List.map_eq_nil_iff
end Go.Hx
namespace Go.Hx
variable {P:Program} {G:Nat->Option (List W9)} {Γ Γ':aC} {H H':Xn} {w w':World}
variable {f:FuncId}{args:List W9}{id nx:Nat}{S:Nat->Prop}{v v':W9}{K:Xd->Xn->Prop}
inductive Below (n:Nat):W9->Prop
 |lit (v:Value):Below n (.lit v)
 |M {len:Nat} {cells:List W9} (h:∀i (h:i<cells.length),Below n cells[i]):Below n (.M len cells)
 |nf {off:Nat} {cells:List W9} (h:∀i (h:i<cells.length),Below n cells[i]):Below n (.nf cells off)
 |agg {cells:List W9} (h:∀i (h:i<cells.length),Below n cells[i]):Below n (.agg cells)
 |na {cells:List W9} (h:∀i (h:i<cells.length),Below n cells[i]):Below n (.na cells)
 |Z {f:FuncId} {a b:List W9} (h1:∀i (h:i<a.length),Below n a[i]) (h2:∀i (h:i<b.length),Below n b[i]):Below n (.Z f a b)
 |Q {id g o l z:Nat} (h:id<n):Below n (.Q id g o l z)
 |R {id g o:Nat} (h:id<n):Below n (.R id g o)
 |ni {id:Nat} (h:id<n):Below n (.ni id)
def Xc.rX {cv:Value}(h:Xc P Γ H w v cv):Below H.A v:=by
 induction h with
 |lit v=>exact .lit v
 |nq a cap=>exact .M fun i h=>absurd h (Tb _)
 |M hb hlt hlen hcs hcell hrel ih=>exact .M fun i h=>ih i h (O)
 |Q h=>exact .Q h.1
 |R h=>exact .R h.1
 |nf hb hlt hcs hcell hrel ih=>exact .nf fun i h=>ih i h (O)
 |agg hcs hrel ih=>exact .agg fun i h=>ih i h (O)
 |na hcs hrel ih=>exact .na fun i h=>ih i h (O)
 |Z hfs hcs hf hc ih1 ih2=>exact .Z (fun i h=>ih1 i h O) fun i h=>ih2 i h (O)
 |ni h=>exact .ni h.1
def rY (n:Nat):Xe->Prop
 |.J _ _ cells=>∀i (h:i<cells.length),Below n cells[i]
 |.loop _ _ m env _ _ _=>∀t,t<m->Below n (env t)
 |.mp _=>True
 |.nm=>True
structure XN (H:Xn):Prop where
 lt:∀id b,H.get id=some b->id<H.A
 below:∀id b,H.get id=some b->rY H.A b
theorem Xh.Z (R:Xh P G Γ H w):XN H:=by
 refine⟨fun id b h=>R.A id b h,fun id b h=>?_⟩;cases b with
 |nm=>trivial
 |mp=>trivial
 |J g e cells =>
  intro i hi;have h1:=R.J id g e cells h;split at h1
  ·obtain⟨c,_,_,_,h5⟩:=h1;obtain⟨cv,_,h6⟩:=h5 i hi;exact h6.rX
  ·subst h1;exact absurd hi (Tb _)
 |loop st pend n env ps asg body =>
  intro t ht;obtain⟨b,r,_,_,_,_,_,_,_,h8,h9⟩:=R.loop id st pend n env ps asg body h;exact(h9 t O).rX
inductive Fz (S:Nat->Prop)(H:Xn)(nx:Nat):W9->W9->Prop
 |lit (v:Value):Fz S H nx (.lit v) (.lit v)
 |M {len:Nat} {c c':List W9} (hl:c'.length=c.length) (h:∀i (h:i<c.length) (h':i<c'.length),Fz S H nx c[i] c'[i]):Fz S H nx (.M len c) (.M len c')
 |nf {off:Nat} {c c':List W9} (hl:c'.length=c.length) (h:∀i (h:i<c.length) (h':i<c'.length),Fz S H nx c[i] c'[i]):Fz S H nx (.nf c off) (.nf c' off)
 |agg {c c':List W9} (hl:c'.length=c.length) (h:∀i (h:i<c.length) (h':i<c'.length),Fz S H nx c[i] c'[i]):Fz S H nx (.agg c) (.agg c')
 |na {c c':List W9} (hl:c'.length=c.length) (h:∀i (h:i<c.length) (h':i<c'.length),Fz S H nx c[i] c'[i]):Fz S H nx (.na c) (.na c')
 |Z {f:FuncId} {a a' b b':List W9} (ha:a'.length=a.length) (hb:b'.length=b.length) (h1:∀i (h:i<a.length) (h':i<a'.length),Fz S H nx a[i] a'[i]) (h2:∀i (h:i<b.length) (h':i<b'.length),Fz S H nx b[i] b'[i]):Fz S H nx (.Z f a b) (.Z f a' b')
 |Q {id g o l z:Nat} (h:id<nx) (hs:¬S id):Fz S H nx (.Q id g o l z) (.Q id g o l z)
 |R {id g o:Nat} (h:id<nx) (hs:¬S id):Fz S H nx (.R id g o) (.R id g o)
 |ni {id:Nat} (h:id<nx) (hs:¬S id):Fz S H nx (.ni id) (.ni id)
 |deadOwn {id g o l z:Nat} (h:id<nx) (hs:S id):Fz S H nx (.Q id g o l z) (.Q id g o l z)
 |deadPtr {id g o:Nat} (h:id<nx) (hs:S id):Fz S H nx (.R id g o) (.R id g o)
 |deadYld {id:Nat} (h:id<nx) (hs:S id):Fz S H nx (.ni id) (.ni id)
 |nil:Fz S H nx (.lit (.slice none 0 0)) (.M 0 [])
 |ny {id g o l z:Nat} {e:TypeId} {cells c':List W9} (hs:S id) (hg:H.get id=some (.J g e cells)) (hl:c'.length=l*z)
   (h:∀i (h:i<l*z) (h2:o+i<cells.length) (h':i<c'.length),Fz S H nx cells[o+i] c'[i]):Fz S H nx (.Q id g o l z) (.M l c')
 |pfrz {id g o:Nat} {e:TypeId} {cells c':List W9} (hs:S id) (hg:H.get id=some (.J g e cells)) (hne:cells≠[]) (hl:c'.length=cells.length)
   (h:∀i (h:i<cells.length) (h':i<c'.length),Fz S H nx cells[i] c'[i]):Fz S H nx (.R id g o) (.nf c' o)
def Fz.refl {H:Xn}(h:Below nx v)(hs:∀id,id<nx->¬S id):Fz S H nx v v:=by
 induction h with
 |lit v=>exact .lit v
 |M _ ih=>exact .M rfl fun i h _=>ih i h
 |nf _ ih=>exact .nf rfl fun i h _=>ih i h
 |agg _ ih=>exact .agg rfl fun i h _=>ih i h
 |na _ ih=>exact .na rfl fun i h _=>ih i h
 |Z _ _ ih1 ih2=>exact .Z rfl rfl (fun i h _=>ih1 i h) fun i h _=>ih2 i h
 |Q h=>exact .Q h (hs _ h)
 |R h=>exact .R h (hs _ h)
 |ni h=>exact .ni h (hs _ h)
def Ba (S:Nat->Prop)(H:Xn)(nx:Nat):Xe->Xe->Prop
 |.J g e c,.J g' e' c'=>g'=g/\e'=e/\c'.length=c.length/\∀i (_:i<c.length) (_:i<c'.length),Fz S H nx c[i] c'[i]
 |.loop st pend n env ps asg body,.loop st' pend' n' env' ps' asg' body'=>st'=st/\pend'=pend/\n'=n/\env'=env/\ps'=ps/\asg'=asg/\body'=body/\∀t,t<n->Fz S H nx (env t) (env t)
 |.mp es,.mp es'=>es'=es
 |.nm,.nm=>True
 |_,_=>False
structure XM (S:Nat->Prop)(H H':Xn):Prop where
 gone:∀id,S id->H'.get id=none
 kept:∀id b,¬S id->H.get id=some b->id<H'.A/\∃b',H'.get id=some b'/\Ba S H H'.A b b'
 none:∀id,¬S id->H.get id=none->H'.get id=none
open Classical in
noncomputable def fW (S:Nat->Prop)(Γ:aC):aC:=fun id=>if S id then none else Γ id
def js (h:¬S id):fW S Γ id=Γ id:=by simp[fW,h]
def kI {x:Nat × Nat × Nat}(h:fW S Γ id=some x):¬S id/\Γ id=some x:=by
 unfold fW at h;split at h
 ·cases h
 ·exact⟨by assumption,h⟩
def uw {b:Nat}(h:(fW S Γ).gZ b):Γ.gZ b:=by
 obtain⟨id,base,n,h⟩:=h;exact⟨id,base,n,(kI h).2⟩
def XM.back (F:XM S H H'){b':Xe}(h:H'.get id=some b'):¬S id/\∃b,H.get id=some b/\Ba S H H'.A b b'/\id<H'.A:=by
 have hs:¬S id:=fun hs=>by rw[F.gone id hs]at h;cases h
 refine⟨hs,?_⟩;cases hg:H.get id with
 |none=>rw[F.none id hs hg]at h;cases h
 |some b =>
  obtain⟨h1,b1,h2,h3⟩:=F.kept id b hs hg;rw[h]at h2;cases h2;exact⟨b,rfl,h3,h1⟩
def Fz.sound (R:Xh P G Γ H w)(F:XM S H H')(hf:Fz S H H'.A v v'):∀ {cv:Value},Xc P Γ H w v cv->Xc P (fW S Γ) H' w v' cv:=by
 induction hf with
 |lit v=>intro cv h;cases h;exact .lit _
 |nil=>intro cv h;cases h;exact .nq none 0
 |deadOwn hlt hs =>
  intro cv h;cases h with
  |Q h=>exact .Q ⟨hlt,h.2.1,fun hr=>(by rw[F.gone _ hs]at hr;cases hr),fun _ _ _ hg=>(by rw[F.gone _ hs]at hg;cases hg)⟩
 |deadPtr hlt hs =>
  intro cv h;cases h with
  |R h=>exact .R ⟨hlt,h.2.1,fun hr=>(by rw[F.gone _ hs]at hr;cases hr),fun _ _ _ hg=>(by rw[F.gone _ hs]at hg;cases hg)⟩
 |deadYld hlt hs =>
  intro cv h;cases h with
  |ni h=>exact .ni ⟨hlt,h.2.1,fun hr=>(by rw[F.gone _ hs]at hr;cases hr),fun _ _ _ _ _ _ _ hg=>(by rw[F.gone _ hs]at hg;cases hg),fun _ hg=>(by rw[F.gone _ hs]at hg;cases hg)⟩
 |M hl hc ih =>
  intro cv h;cases h with
  |nq a cap =>
   rename_i c';have:c'=[]:=S3 hl;subst this;exact .nq a cap
  |M hb hlt hlen hcs hcell hrel=>exact .M (fun h=>hb (uw h)) hlt hlen O hcell fun i h1 h2=>ih i O h1 (hrel i O h2)
 |nf hl hc ih =>
  intro cv h;cases h with
  |nf hb hlt hcs hcell hrel=>exact .nf (fun h=>hb (uw h)) hlt O hcell fun i h1 h2=>ih i O h1 (hrel i O h2)
 |agg hl hc ih =>
  intro cv h;cases h with
  |agg hcs hrel=>exact .agg O fun i h1 h2=>ih i O h1 (hrel i O h2)
 |na hl hc ih =>
  intro cv h;cases h with
  |na hcs hrel=>exact .na O fun i h1 h2=>ih i O h1 (hrel i O h2)
 |Z ha hb h1 h2 ih1 ih2 =>
  intro cv h;cases h with
  |Z hfs hcs hf hc=>exact .Z O O (fun i a b=>ih1 i O a (hf i O b)) fun i a b=>ih2 i O a (hc i O b)
 |Q hlt hs =>
  intro cv h;cases h with
  |Q h =>
   obtain⟨h1,h2,h0,h3⟩:=h;refine .Q ⟨hlt,h2,fun hr=>?_,fun g' e' cells' hg'=>?_⟩
   ·obtain⟨_,b,hb,hfb,_⟩:=F.back hr;cases b with
    |nm=>exact h0 hb
    |_=>exact hfb.elim
   ·obtain⟨_,b,hb,hfb,_⟩:=F.back hg';cases b with
    |J g e cells =>
     obtain⟨rfl,rfl,hlen,_⟩:=hfb;have:=h3 _ _ _ hb;rw[js hs,hlen];exact this
    |_=>exact hfb.elim
 |R hlt hs =>
  intro cv h;cases h with
  |R h =>
   obtain⟨h1,h2,h0,h3⟩:=h;refine .R ⟨hlt,h2,fun hr=>?_,fun g' e' cells' hg'=>?_⟩
   ·obtain⟨_,b,hb,hfb,_⟩:=F.back hr;cases b with
    |nm=>exact h0 hb
    |_=>exact hfb.elim
   ·obtain⟨_,b,hb,hfb,_⟩:=F.back hg';cases b with
    |J g e cells =>
     obtain⟨rfl,rfl,hlen,_⟩:=hfb;have:=h3 _ _ _ hb;rw[js hs];exact this
    |_=>exact hfb.elim
 |ni hlt hs =>
  intro cv h;cases h with
  |ni h =>
   obtain⟨h1,h2,h0,h3,h4⟩:=h;refine .ni ⟨hlt,h2,fun hr=>?_,fun st pend n env ps asg body hg'=>?_,fun es hg'=>?_⟩
   ·obtain⟨_,b,hb,hfb,_⟩:=F.back hr;cases b with
    |nm=>exact h0 hb
    |_=>exact hfb.elim
   ·obtain⟨_,b,hb,hfb,_⟩:=F.back hg';cases b with
    |loop st0 pend0 n0 env0 ps0 asg0 body0 =>
     have:=h3 _ _ _ _ _ _ _ hb;rw[js hs];exact this
    |_=>exact hfb.elim
   ·obtain⟨_,b,hb,hfb,_⟩:=F.back hg';cases b with
    |mp es0 =>
     have:=h4 _ hb;rw[js hs];exact this
    |_=>exact hfb.elim
 | @ny id g o l z e cells c' hs hg hl hc ih =>
  intro cv h;cases h with
  |Q h =>
   obtain⟨h1,h2,h0,h3⟩:=h;have h4:=(h3 _ _ _ hg).2 rfl;have harr:=R.J id g e cells hg;cases hΓ:Γ id with
   |none =>
    rw[hΓ]at h4;obtain⟨rfl,rfl,rfl⟩:=h4;have:c'=[]:=S3 (by simpa using hl);subst this;exact .nq _ _
   |some y =>
    obtain⟨b,base,n⟩:=y;rw[hΓ]at h4 harr;obtain⟨a,cap,rfl,hcap,hoff,hor⟩:=h4;obtain⟨c,a1,a2,a3,a4⟩:=harr;rcases hor with ⟨rfl,hn⟩|⟨rfl,rfl⟩
    ·have hcell:∀i,i<l*z->∃cv,c[base+(o+i)]?=some cv/\∀(h:o+i<cells.length),Xc P Γ H w cells[o+i] cv:=fun i hi=>by
      obtain⟨cv,b1,b2⟩:=a4 (o+i) O;exact⟨cv,b1,fun _=>b2⟩
     let cs:List Value:=(List.range (l*z)).map fun i=>(c[base+(o+i)]?).getD undef
     have hcs:cs.length=c'.length:=(by simp[cs,hl]);refine .M (cs:=cs) (fun ho=>?_) (R.lt _ _ _ _ hΓ) hcap hcs (fun i hi=>?_) fun i hi hi'=>?_
     ·obtain⟨id',base',n',h'⟩:=ho;obtain⟨hns,h''⟩:=kI h';have:=R.inj _ _ _ _ _ _ _ h'' hΓ;subst this;exact hns hs
     ·have hi2:i<l*z:=(by rw[hcs,hl]at hi;exact hi);obtain⟨cv,b1,_⟩:=hcell i hi2;have:cs[i]=cv:=(by simp[cs,b1]);rw[this];have he:base+o+i=base+(o+i):=O;simp only[World.cell?,a1,he];exact b1
     ·have hi2:i<l*z:=(by rw[hl]at hi;exact hi);obtain⟨cv,b1,b2⟩:=hcell i hi2;have:cs[i]=cv:=(by simp[cs,b1]);rw[this];exact ih i hi2 O hi (b2 O)
    ·have:c'=[]:=S3 (by simpa using hl);subst this;exact .nq _ _
 | @pfrz id g o e cells c' hs hg hne hl hc ih =>
  intro cv h;cases h with
  |R h =>
   obtain⟨h1,h2,h0,h3⟩:=h;obtain⟨b,base,n,hΓ,rfl⟩:=(h3 _ _ _ hg).2 rfl;have harr:=R.J id g e cells hg;rw[hΓ]at harr;obtain⟨c,a1,a2,a3,a4⟩:=harr
   let cs:List Value:=(List.range cells.length).map fun i=>(c[base+i]?).getD undef
   have hcs:cs.length=c'.length:=(by simp[cs,hl]);have hcell:∀i (hi:i<cells.length) (hi':i<cs.length),c[base+i]?=some cs[i]/\Xc P Γ H w cells[i] cs[i]:=fun i hi hi'=>by
    obtain⟨cv,b1,b2⟩:=a4 i hi;have:cs[i]=cv:=(by simp[cs,b1]);rw[this];exact⟨b1,b2⟩
   refine .nf (cs:=cs) (fun ho=>?_) (R.lt _ _ _ _ hΓ) hcs (fun i hi=>?_) fun i hi hi'=>?_
   ·obtain⟨id',base',n',h'⟩:=ho;obtain⟨hns,h''⟩:=kI h';have:=R.inj _ _ _ _ _ _ _ h'' hΓ;subst this;exact hns hs
   ·simp only[World.cell?,a1];exact(hcell i O hi).1
   ·exact ih i O hi (hcell i O hi').2
def Fz.plain {H:Xn}(h:Below 0 v):Fz S H nx v v:=by
 induction h with
 |lit v=>exact .lit v
 |M _ ih=>exact .M rfl fun i h _=>ih i h
 |nf _ ih=>exact .nf rfl fun i h _=>ih i h
 |agg _ ih=>exact .agg rfl fun i h _=>ih i h
 |na _ ih=>exact .na rfl fun i h _=>ih i h
 |Z _ _ ih1 ih2=>exact .Z rfl rfl (fun i h _=>ih1 i h) fun i h _=>ih2 i h
 |Q h=>exact absurd h (Tb _)
 |R h=>exact absurd h (Tb _)
 |ni h=>exact absurd h (Tb _)
theorem Fz.ints {H:Xn}{g o:Nat}{e:TypeId}{cells:List W9}{x:List Int}{n:Nat}(hs:S id)(hg:H.get id=some (.J g e cells))(hn:n=x.length)(hx:∀i (h:i<x.length),cells[o+i]?=some (aa x[i])):
  Fz S H nx (.Q id g o n 1) (ah x):=by
 subst hn;refine .ny hs hg (by simp[Go.Hx.ints]) fun i hi h2 h'=>?_;have h1:=hx i O;rw[SP h2]at h1;rw[Option.some.inj h1];have:(Go.Hx.ints x)[i]=aa x[i]:=by simp[Go.Hx.ints]
 rw[this];exact .lit _
def Fz.xK {H:Xn}:Fz S H nx (.lit (.slice none 0 0)) (ah []):=.nil
def Fz.dC {H:Xn}(x:List Int):Fz S H nx (ah x) (ah x) :=
 .plain (.M fun i h=>by simp only[Go.Hx.ints,S9];exact .lit _)
def lK (x:List Int):(Go.Hx.ints x).all W9.one=true:=by simp[Go.Hx.ints,aa,W9.one,Value.oneCell]
def fK (G:Nat->Option (List W9)):Prop:=∀g cells,G g=some cells->Below 0 (.nf cells 0)
def XM.bb (F:XM S H H'):Xk Γ H w (fW S Γ) H' w where
 os:=rfl
 tape:=rfl
 output:=rfl
 size:=W8
 nb:=fun _ _ h=>⟨rfl,fun h'=>h (uw h')⟩
 X:=fun id _ _ x' hx=>by
  obtain⟨hs,b,hb,hfb,_⟩:=F.back hx;refine⟨b,hb,?_⟩;cases b<;>cases x'<;>first|exact hfb.elim|skip
  ·obtain⟨rfl,rfl,hl,_⟩:=hfb;exact⟨W8,fun _=>⟨js hs,rfl,hl⟩⟩
  ·obtain⟨rfl,rfl,rfl,rfl,rfl,rfl,rfl,_⟩:=hfb;exact⟨js hs,rfl,rfl,rfl,rfl,rfl⟩
  ·exact js hs
  ·trivial
 ny:=fun _ _=>rfl
 kind:=.refl _
 newb:=fun _ _ x y h _=>⟨x,y,(kI h).2⟩
def XM.rel (hG:fK G)(R:Xh P G Γ H w)(F:XM S H H'):Xh P G (fW S Γ) H' w where
 J id g e cells hg:=by
  obtain⟨hs,b,hb,hfb,_⟩:=F.back hg;cases b with
  |J g0 e0 c0 =>
   obtain⟨rfl,rfl,hl,hc⟩:=hfb;have h1:=R.J _ _ _ _ hb;rw[js hs];cases hΓ:Γ id with
   |none =>
    rw[hΓ]at h1;simp only at h1 ⊢;subst h1;exact S3 hl
   |some y =>
    obtain⟨b,base,n⟩:=y;rw[hΓ]at h1;obtain⟨c,a1,a2,a3,a4⟩:=h1;refine⟨c,a1,a2,O,fun i hi=>?_⟩;obtain⟨cv,b1,b2⟩:=a4 i O;exact⟨cv,b1,(hc i O hi).sound R F b2⟩
  |_=>exact hfb.elim
 loop id st pend n env ps asg body hg:=by
  obtain⟨hs,b,hb,hfb,_⟩:=F.back hg;cases b with
  |loop =>
   obtain⟨rfl,rfl,rfl,rfl,rfl,rfl,rfl,hf⟩:=hfb;obtain⟨b,rr,a1,a2,a3,a4,a5,a6,a7,a8,a9⟩:=R.loop _ _ _ _ _ _ _ _ hb;exact⟨b,rr,by rw[js hs];exact a1,a2,a3,a4,a5,a6,a7,a8,fun t ht=>(hf t O).sound R F (a9 t ht)⟩
  |_=>exact hfb.elim
 mp id es hg:=by
  obtain⟨hs,b,hb,hfb,_⟩:=F.back hg;cases b with
  |mp es0 =>
   have hfb':es=es0:=hfb;subst hfb';obtain⟨b,a1,a2⟩:=R.mp _ _ hb;exact⟨b,by rw[js hs];exact a1,a2⟩
  |_=>exact hfb.elim
 nm id hg:=by
  obtain⟨hs,b,hb,hfb,_⟩:=F.back hg;cases b with
  |nm=>rw[js hs];exact R.nm id hb
  |_=>exact hfb.elim
 inj id id' b base n base' n' h h':=R.inj id id' b base n base' n' (kI h).2 (kI h').2
 nD id x h:=by
  obtain⟨hs,h⟩:=kI h;obtain⟨y,hy⟩:=R.nD id x h;obtain⟨_,b',hb',_⟩:=F.kept id y hs hy;exact⟨b',hb'⟩
 lt id b base n h:=R.lt id b base n (kI h).2
 A id y h:=by
  obtain⟨_,_,_,_,h⟩:=F.back h;exact h
 nC g cells h:=(Fz.plain (hG g cells h)).sound R F (R.nC g cells h)
 gsz:=R.gsz
def oV.freeze (hG:fK G)(F:XM S H H')(hv:Fz S H H'.A v v'):oV P G H v H' v' :=
 fun Γ _ R=>⟨fW S Γ,F.rel hG R,F.bb,fun _ h=>hv.sound R F h⟩
def eA.freeze (hG:fK G){s s':St}(F:XM S s.H s'.H)(hv:∀t,Fz S s.H s'.H.A (s.ρ t) (s'.ρ t)):eA P G s s':=by
 intro n wb Γ a w hs;have E:Xk Γ s.H w (fW S Γ) s'.H w:=F.bb;refine⟨fW S Γ,⟨hs.size,fun t=>(hv t).sound hs.heap F (hs.env t),F.rel hG hs.heap,hs.defers.bb E,hs.low⟩,E,fun rd rb hr hri=>?_⟩;cases rd with
 |none=>exact hr
 |some id =>
  obtain⟨b,st,pend,n,env,ps,asg,body,h1,h2,h3⟩:=hr;obtain⟨st',pend',n',env',ps',asg',body',h4⟩:=hri;obtain⟨hns,_⟩:=F.back h4;exact⟨b,_,_,_,_,_,_,_,h1,by rw[js hns];exact h2,h4⟩
def Js (hc:XN H)(L:List Xe):XM (fun id=>H.A<=id) (ext H L) H where
 gone id hs:=by
  cases h:H.get id with
  |none=>rfl
  |some b=>have:=hc.lt id b h;omega
 kept id b hs hb:=by
  have hlt:id<H.A:=UG hs;rw[cP H L id hlt]at hb;have hbb:=hc.below id b hb;refine⟨hlt,b,hb,?_⟩;have hno:∀i,i<H.A->¬H.A<=i:=fun i h=>Nat.not_le_of_lt h;cases b with
  |nm=>trivial
  |mp=>rfl
  |J g e cells=>exact⟨rfl,rfl,rfl,fun i h _=>.refl (hbb i h) hno⟩
  |loop st pend n env ps asg body=>exact⟨rfl,rfl,rfl,rfl,rfl,rfl,rfl,fun t ht=>.refl (hbb t ht) hno⟩
 none id hs hb:=by
  rw[cP H L id (UG hs)]at hb;exact hb
def ar.drop (hG:fK G)(hc:XN H){L:List Xe}(hv:Fz (fun id=>H.A<=id) (ext H L) H.A v v')(hk:K (.ret v') H):ar P G H K v (ext H L) :=
 ⟨v',H,.freeze hG (Js hc L) hv,W8,hk⟩
def ar.Jt (hG:fK G)(hc:XN H)(hv:Fz (fun id=>H.A<=id) (ext H []) H.A v v')(hk:K (.ret v') H):ar P G H K v H:=by
 have:=ar.drop (P:=P) hG hc hv hk;rw[ext_nil]at this;exact this
theorem ae.Z {f : FuncId} {args : List W9} {K : Xd → Xn → Prop} (hf : ∃ fn, P.funcs[f]? = some fn ∧ fn.body.isNone = false ∧ (fn.name == "runtime.NumGoroutine") = false) (h : XN H → ae P G f args H K) : ae P G f args H K :=
 ⟨hf,fun Γ w cargs R hr=>(h R.Z).2 Γ w cargs R hr⟩
def ae.Ju   {K : Xd → Xn → Prop} (hf : ∃ fn, P.funcs[f]? = some fn ∧ fn.body.isNone = false ∧ (fn.name == "runtime.NumGoroutine") = false) (h : XN H → (∀ v, v ∈ args → Below H.A v) → ae P G f args H K) : ae P G f args H K :=
 ⟨hf,fun Γ w cargs R hr=>(h R.Z (fun v hv=>by
  obtain⟨i,hi,rfl⟩:=WN.1 hv;exact(hr.2 i hi (by have:=hr.1;omega)).rX)).2 Γ w cargs R hr⟩
end Go.Hx
namespace Go.Hx
variable {P:Program} {G:Nat->Option (List W9)} {Γ Γ':aC} {H H':Xn} {w w':World}
variable {r:Loop}{b:Nat}{pend:Option Code}{x:Option Xe}
def ux (R:Xh P G Γ H w){id:Nat}{st:LoopState}{n:Nat}{env:Env}{ps:Array Tmp}{asg body:Code}(hg:H.get id=some (.loop st pend n env ps asg body)):
    ∃b r,Γ id=some (b,0,0)/\w.heap[b]?=some (.loop r)/\r.state=st/\r.pending=pend/\r.params=ps/\r.assign=asg/\r.body=body/\r.tmps.size=n/\(∀t (h:t<r.tmps.size),Xc P Γ H w (env t) r.tmps[t]) /\
      ∀st' pend',Xh P G Γ (H.upd id (.loop st' pend' n env ps asg body)) (bO w b (.loop { r with state:=st',pending:=pend' })) /\
        Xk Γ H w Γ (H.upd id (.loop st' pend' n env ps asg body)) (bO w b (.loop { r with state:=st',pending:=pend' })):=by
  obtain⟨b,r,hΓ,hb,h1,h2,h3,h4,h5,h6,h7⟩:=R.loop id st pend n env ps asg body hg;refine⟨b,r,hΓ,hb,h1,h2,h3,h4,h5,h6,h7,fun st' pend'=>?_⟩;have hlt:=R.lt id b 0 0 hΓ;have E:Xk Γ H w Γ (H.upd id (.loop st' pend' n env ps asg body)) (bO w b (.loop { r with state:=st',pending:=pend' })) :=
    { os:=rfl,tape:=rfl,output:=rfl
      size:=by rw[jP];exact Nat.le_refl _
      nb:=fun c hc ho=>⟨by
        rw[eF,SQ];rintro⟨rfl,_⟩;exact ho ⟨id,0,0,hΓ⟩,ho⟩
      X:=fun i hi _ x' hx=>by
        rw[ag]at hx;split at hx
        · rename_i hii;subst hii;simp only[Option.some.injEq]at hx;subst hx;exact⟨_,hg,rfl,rfl,rfl,rfl,rfl,rfl⟩
        · exact⟨x',hx,Xe.le_refl _ _ _⟩
      ny:=fun a _=>ry hb (fun _ _ _ h=>by cases h) (fun _ _ _ h=>by cases h) a
      kind:=wM hb fun _ _ _ h=>by cases h
      newb:=.refl _ _ }
  refine⟨?_,E⟩;have hne:∀i b' base n',Γ i=some (b',base,n')->i≠id->b'≠b:=fun i b' base n' hi hii hbb=>by
    subst hbb;exact hii (R.inj _ _ _ _ _ _ _ hi hΓ)
  exact
    { J:=fun i g e cells hgi=>by
        rw[ag]at hgi;split at hgi
        · simp at hgi
        · rename_i hii;have h:=R.J i g e cells hgi;cases hi:Γ i with
          |none=>rw[hi]at h;exact h
          |some y =>
            obtain⟨b',base,n'⟩:=y;rw[hi]at h;obtain⟨c,a1,a2,a3,a4⟩:=h;refine⟨c,?_,a2,a3,fun j hj=>let ⟨cv,b1,b2⟩:=a4 j hj;⟨cv,b1,b2.bb E W8⟩⟩;rw[eF,SQ]
            · exact a1
            · rintro⟨h,_⟩;exact hne i b' base n' hi hii h
      loop:=fun i st2 pend2 n2 env2 ps2 asg2 body2 hgi=>by
        rw[ag]at hgi;split at hgi
        · rename_i hii;subst hii;simp only[Option.some.injEq,Xe.loop.injEq]at hgi;obtain⟨rfl,rfl,rfl,rfl,rfl,rfl,rfl⟩:=hgi;refine⟨b,{ r with state:=st',pending:=pend' },hΓ,by rw[eF,SU ⟨rfl,hlt⟩],rfl,rfl,h3,h4,h5,h6,fun t ht=>(h7 t ht).bb E W8⟩
        · rename_i hii;obtain⟨b2,r2,a1,a2,a3,a4,a5,a6,a7,a8,a9⟩:=R.loop i _ _ _ _ _ _ _ hgi;refine⟨b2,r2,a1,?_,a3,a4,a5,a6,a7,a8,fun t ht=>(a9 t ht).bb E W8⟩;rw[eF,SQ]
          · exact a2
          · rintro⟨h,_⟩;exact hne i b2 0 0 a1 hii h
      mp:=fun i es hgi=>by
        rw[ag]at hgi;split at hgi
        · simp at hgi
        · rename_i hii;obtain⟨b2,a1,a2⟩:=R.mp i _ hgi;refine⟨b2,a1,?_⟩;rw[eF,SQ]
          · exact a2
          · rintro⟨h,_⟩;exact hne i b2 0 0 a1 hii h
      nm:=fun i hgi=>by
        rw[ag]at hgi;split at hgi
        · simp at hgi
        · exact R.nm i hgi
      inj:=R.inj
      nD:=fun i x hi=>by
        obtain⟨y,hy⟩:=R.nD i x hi;rw[ag];split
        · exact⟨_,rfl⟩
        · exact⟨y,hy⟩
      lt:=fun i b' base n' hi=>by rw[jP];exact R.lt i b' base n' hi
      A:=fun i y hy=>by
        rw[ag]at hy;split at hy
        · rename_i hii;subst hii;exact R.A _ _ hg
        · exact R.A i y hy
      nC:=fun g cells h=>(R.nC g cells h).bb E (Nat.le_refl _)
      gsz:=R.pO E }
def rZ (h:w.heap[b]?=some (.loop r)):(Instr.getLoop b).run P w=.ok r w:=by
  have hg:(getObj b).run P w=.ok (.loop r) w:=by simp[getObj,Sem.run,h]
  unfold Instr.getLoop;rw[au hg];rfl
def xL {o':Obj}(h:w.heap[b]?=some (.loop r)):(setObj b o').run P w=.ok () (bO w b o'):=by
  simp[setObj,Sem.run,h,bO]
def Jv (h:w.heap[b]?=some (.loop r))(hs:r.state=.ready):(Instr.beginRound b).run P w=.ok () (bO w b (.loop { r with state:=.busy,pending:=r.pending })):=by
  unfold Instr.beginRound;rw[au (rZ h),au (xL h)];simp only[hs];rfl
def Jw (h:w.heap[b]?=some (.loop r))(j:Option Code):
    (Instr.endRound b j).run P w=.ok (.bool j.isNone) (bO w b (.loop { r with state:=if j.isNone then .ready else .done,pending:=j })):=by
  unfold Instr.endRound;rw[au (rZ h),au (xL h)];rfl
def Jx (h:w.heap[b]?=some (.loop r))(hs:(r.state == .busy)=false):(Instr.endLoop b).run P w=.ok r.pending (bO w b (.loop { r with state:=.exhausted,pending:=r.pending })):=by
  unfold Instr.endLoop;rw[au (rZ h)];simp only[hs,Bool.false_eq_true,if_false];rw[au (xL h)];rfl
def ic (ρ:Env)(l:List (Tmp × W9)):Env:=l.foldl (fun ρ p=>aQ ρ (some p.1) p.2) ρ
def cG (env:Env)(n:Nat):Env:=fun t=>if t<n then env t else .lit undef
def oX (st:LoopState)(pend:Option Code):Option Xe->Option Xe
  |some (.loop _ _ n env ps asg body)=>some (.loop st pend n env ps asg body)
  |_=>none
def Bc:Option Xe->Option Xe
  |some (.loop .ready pend n env ps asg body)=>some (.loop .busy pend n env ps asg body)
  |_=>none
def Jy (id:Nat)(K:Xd->Xn->Prop):AX->St->Prop
  |.normal,s=>bh (oX .ready none (s.H.get id)) fun b=>K (.ret (.lit (.bool true))) (s.H.upd id b)
  |.ret,s=>bh (oX .done (some .ret) (s.H.get id)) fun b=>K (.ret (.lit (.bool false))) (s.H.upd id b)
  |.exit i,s=>bh (oX .done (some (.exit i)) (s.H.get id)) fun b=>K (.ret (.lit (.bool false))) (s.H.upd id b)
  |.goto i,s=>bh (oX .done (some (.goto i)) (s.H.get id)) fun b=>K (.ret (.lit (.bool false))) (s.H.upd id b)
  |.panic,_=>False
def Jz (P:Program)(G:Nat->Option (List W9))(n id:Nat)(body:Code)(K:Xd->Xn->Prop):AX->St->Prop
  |.normal,s=>bh (Bc (s.H.get id)) fun b=>W P G n (some id) body (Jy id K) ⟨s.ρ,s.H.upd id b⟩
  |_,_=>False
def JA:∀(l:List (Tmp × W9)) (cl:List (Tmp × Value)) (ρ:Env) (tmps:Array Value),l.length=cl.length->(∀i (h:i<l.length) (h':i<cl.length),l[i].1=cl[i].1/\l[i].1<tmps.size/\Xc P Γ H w l[i].2 cl[i].2) ->
    (∀t,Xc P Γ H w (ρ t) (tmps.getD t undef)) ->
    ((cl.foldl (fun tmps (p:Tmp × Value)=>tmps.setIfInBounds p.1 p.2) tmps).size=tmps.size)/\∀t,Xc P Γ H w (ic ρ l t) ((cl.foldl (fun tmps (p:Tmp × Value)=>tmps.setIfInBounds p.1 p.2) tmps).getD t undef):=by
  intro l
  induction l with
  |nil =>
    intro cl ρ tmps hl _ he;cases cl with
    |nil=>exact⟨rfl,he⟩
    |cons=>simp at hl
  |cons x l ih =>
    intro cl ρ tmps hl h he;cases cl with
    |nil=>simp at hl
    |cons y cl =>
      obtain⟨h1,h2,h3⟩:=h 0 W5 W5;simp only[TE]at h1 h2 h3;have:=ih cl (aQ ρ (some x.1) x.2) (tmps.setIfInBounds y.1 y.2) (by simpa using hl) (fun i a b=>by
        have:=h (i+1) (by simpa using a) (by simpa using b);simp only[UF]at this;simpa using this) (fun t=>by
          by_cases ht:t=x.1
          · subst ht;have e1:aQ ρ (some x.1) x.2 x.1=x.2:=(by simp[aQ]);have e2:(tmps.setIfInBounds y.1 y.2).getD x.1 undef=y.2:=(by rw[<- h1];simp[h2]);rw[e1,e2];exact h3
          · have e1 : aQ ρ (some x.1) x.2 t=ρ t:=(by simp [aQ,ht]);have e2 : (tmps.setIfInBounds y.1 y.2).getD t undef=tmps.getD t undef:=by
              simp only[TK];rw[TQ,SQ (by rw[<- h1];exact fun h=>ht h.symm)]
            rw[e1,e2];exact he t)
      refine⟨?_,this.2⟩;have h4:=this.1;simp only[Array.size_setIfInBounds]at h4;exact h4
def JB {st:LoopState}{b:Xe}(h:oX st pend x=some b):∃st0 p0 n env ps asg body,x=some (.loop st0 p0 n env ps asg body)/\b=.loop st pend n env ps asg body:=by
  unfold oX at h;split at h
  · cases h;exact⟨_,_,_,_,_,_,_,rfl,rfl⟩
  · cases h
theorem az.ni {id:Nat}{args:List W9}{K:Xd->Xn->Prop}{pend:Option Code}{n:Nat}{env:Env}{ps:Array Tmp}{asg body:Code}(hg:H.get id=some (.loop .ready pend n env ps asg body))(hl:args.length=ps.size)
    (hps:ps.toList.all (fun t=>decide (t<n))=true) (h:W P G n (some id) asg (Jz P G n id body K) ⟨ic (cG env n) (ps.toList.zip args),H⟩):az P G (.ni id) args H K:=by
  intro Γ w cfv cargs R hv hr;cases hv with
  |ni hy =>
    obtain⟨b,hΓ,rfl⟩:=hy.2.2.2.1 _ _ _ _ _ _ _ hg;obtain⟨b',r,hΓ',hb,h1,h2,h3,h4,h5,h6,h7,_⟩:=ux R hg;rw[hΓ]at hΓ';simp only[Option.some.injEq,Prod.mk.injEq]at hΓ';obtain⟨rfl,_⟩:=hΓ';have hsz:cargs.size=r.params.size:=(by rw[hr.1,hl,h3]);refine⟨{ target:=.fn (.yield b) #[],args:=#[]++cargs },rfl,.inr (.inl ⟨b,r.fn,(r.params.zip (#[]++cargs)).foldl (fun tmps (t,a)=>tmps.setIfInBounds t a) r.tmps,r.assign,r.body,?_,?_⟩)⟩
    · show (Instr.yield b (#[]++cargs)).run P w=_;unfold Instr.yield;rw[au (rZ hb)];have:¬((#[]++cargs).size≠r.params.size):=(by simp[hsz]);rw[SQ this];rfl
    · refine roundIn_of_wpIn (F:=Fence.wide) trivial ?_;have hfold : (r.params.zip (#[]++cargs)).foldl (fun tmps (t,a)=>tmps.setIfInBounds t a) r.tmps=(r.params.toList.zip cargs.toList).foldl (fun tmps (p : Tmp × Value)=>tmps.setIfInBounds p.1 p.2) r.tmps:=by
        rw[<- Array.foldl_toList];simp
      rw [hfold,h4,h5];have hset:=JA (P:=P) (Γ:=Γ) (H:=H) (w:=w) (ps.toList.zip args) (r.params.toList.zip cargs.toList) (cG env n) r.tmps (by simp [hr.1,h3]) (fun i a c=>by
          simp only[List.length_zip,UE]at a c;simp only[List.getElem_zip,TW];refine⟨by simp only[h3],?_,hr.2 i O O⟩;rw[h6];have:=Tn.1 hps (ps[i]' O) W5;simpa using this) (fun t=>by
          unfold cG;by_cases ht:t<n
          · rw[SU ht];have:r.tmps.getD t undef=r.tmps[t]' O:=(by simp[h6,ht]);rw[this];exact h7 t (O)
          · rw[SQ ht];have:r.tmps.getD t undef=undef:=(by simp[h6,ht]);rw[this];exact .lit _)
      have hs:Xt P G n ⟨0,[]⟩ Γ ⟨ic (cG env n) (ps.toList.zip args),H⟩ { tmps:=(r.params.toList.zip cargs.toList).foldl (fun tmps (p:Tmp × Value)=>tmps.setIfInBounds p.1 p.2) r.tmps,defers:=[] } w :=
        ⟨by rw[hset.1,h6],hset.2,R,⟨[],rfl,Marks.nil⟩,Uh _⟩
      refine wpIn_mono (h ⟨0,[]⟩ Γ _ w (some b) hs ⟨b,_,_,_,_,_,_,_,rfl,hΓ,hg⟩) ?_;rintro e a₁ w₁ ⟨x,s₁,Γ₁,hx,hq,hs₁,E₁,hn₁,hr₁,_⟩;cases x with
      |normal =>
        cases e with
        |normal =>
          obtain⟨blk,hbg,hW⟩:=hq;obtain⟨b1,st1,p1,n1,env1,ps1,asg1,body1,hb1,hΓ₁,hg₁⟩:=hr₁;simp only[Option.some.injEq]at hb1;subst hb1;rw[hg₁]at hbg;have hst:st1=.ready/\blk=.loop .busy p1 n1 env1 ps1 asg1 body1:=by
            cases st1<;>simp[Bc]at hbg
            exact⟨rfl,hbg.symm⟩
          obtain ⟨rfl,rfl⟩:=hst;obtain ⟨b2,r1,hΓ₂,hb2,k1,k2,k3,k4,k5,k6,k7,kset⟩:=ux hs₁.heap hg₁;rw [hΓ₁] at hΓ₂;simp only [Option.some.injEq,Prod.mk.injEq] at hΓ₂;obtain ⟨rfl,_⟩:=hΓ₂;obtain ⟨R2,E2⟩:=kset .busy r1.pending;rw [k2] at R2 E2;have hb3 : Γ₁ id=some (b,0,0):=hΓ₁;refine ⟨_,Jv hb2 k1,?_⟩;rw [k2];refine wpIn_mono (hW ⟨0,[]⟩ Γ₁ a₁ _ (some b) (hs₁.move E2 W8 R2) ⟨b,_,_,_,_,_,_,_,rfl,hΓ₁,by rw [ag,SU rfl]⟩) ?_;rintro e a₂ w₂ ⟨x,s₂,Γ₂,hx,hq,hs₂,E3,hn₂,hr₂,_⟩;obtain ⟨b4,st4,p4,n4,env4,ps4,asg4,body4,hb4,hΓ₄,hg₄⟩:=hr₂;simp only [Option.some.injEq] at hb4;subst hb4;obtain ⟨b5,r5,hΓ₅,hb5,l1,l2,l3,l4,l5,l6,l7,lset⟩:=ux hs₂.heap hg₄;rw [hΓ₄] at hΓ₅;simp only [Option.some.injEq,Prod.mk.injEq] at hΓ₅;obtain ⟨rfl,_⟩:=hΓ₅;have E4 : Xk Γ H w Γ₂ s₂.H w₂:=(E₁.trans hn₁ E2).trans hn₁ E3;have hn4 : H.A≤s₂.H.A:=Tw hn₁ hn₂;have fin : ∀ (j : Option Code) (v : Bool),v=j.isNone→bh (oX (if j.isNone then .ready else .done) j (s₂.H.get id)) (fun bl=>K (.ret (.lit (.bool v))) (s₂.H.upd id bl)) →
              ∃cv w',(Instr.endRound b j).run P w₂=.ok cv w'/\jc P G Γ H w K (.returned cv) w':=by
            rintro j v rfl ⟨bl,hbl,hk⟩;obtain⟨R6,E6⟩:=lset (if j.isNone then .ready else .done) j;rw[hg₄]at hbl;obtain⟨_,_,_,_,_,_,_,heq,rfl⟩:=JB hbl;simp only[Option.some.injEq,Xe.loop.injEq]at heq;obtain⟨rfl,rfl,rfl,rfl,rfl,rfl,rfl⟩:=heq;exact⟨_,_,Jw hb5 j,.ret (.lit (.bool j.isNone)),_,Γ₂,Xc.lit _,hk,R6,E4.trans hn4 E6,hn4⟩
          cases e with
          |normal=>cases x with
            |normal=>exact fin none true rfl hq
            |_=>exact hx.elim
          |ret=>cases x with
            |ret=>exact fin (some .ret) false rfl hq
            |_=>exact hx.elim
          |exit i=>cases x with
            |exit i' =>
              obtain rfl:i=i':=hx;exact fin (some (.exit i)) false rfl hq
            |_=>exact hx.elim
          |goto i=>cases x with
            |goto i' =>
              obtain rfl:i=i':=hx;exact fin (some (.goto i)) false rfl hq
            |_=>exact hx.elim
          |panic c=>cases x with
            |panic=>exact hq.elim
            |_=>exact hx.elim
          |outgrown=>cases x<;>exact hx.elim
        |_=>exact hx.elim
      |_=>exact hq.elim
def xM (hos:w'.os=w.os)(ht:w'.tape=w.tape)(ho:w'.output=w.output)(hs:w.heap.size<=w'.heap.size)(hk:∀b,b<w.heap.size->w'.heap[b]?=w.heap[b]?)(hz:∀a,a.block<w.heap.size->w'.frozen? a=w.frozen? a)(R:Xh P G Γ H w):Xk Γ H w Γ H w'/\Xh P G Γ H w':=by
  have E:Xk Γ H w Γ H w':=⟨hos,ht,ho,hs,fun b hb h=>⟨hk b hb,h⟩,fun _ _ _ x' hx=>⟨x',hx,Xe.le_refl _ _ _⟩,hz,EN hk,.refl _ _⟩
  refine⟨E,?_⟩;exact
    { J:=fun id g e cells hg=>by
        have h1:=R.J id g e cells hg;cases hΓ:Γ id with
        |none=>rw[hΓ]at h1;exact h1
        |some y =>
          obtain⟨b,base,n⟩:=y;rw[hΓ]at h1;obtain⟨c,a1,a2,a3,a4⟩:=h1;exact⟨c,by rw[hk b (R.lt _ _ _ _ hΓ)];exact a1,a2,a3,fun i hi=>let ⟨cv,b1,b2⟩:=a4 i hi;⟨cv,b1,b2.bb E W8⟩⟩
      loop:=fun id st pend n env ps asg body hg=>by
        obtain⟨b,rr,a1,a2,a3,a4,a5,a6,a7,a8,a9⟩:=R.loop id st pend n env ps asg body hg;exact⟨b,rr,a1,by rw[hk b (R.lt _ _ _ _ a1)];exact a2,a3,a4,a5,a6,a7,a8,fun t ht=>(a9 t ht).bb E W8⟩
      mp:=fun id es hg=>by
        obtain⟨b,a1,a2⟩:=R.mp id es hg;exact⟨b,a1,by rw[hk b (R.lt _ _ _ _ a1)];exact a2⟩
      nm:=R.nm
      inj:=R.inj
      nD:=R.nD
      lt:=fun id b base n h=>SZ (R.lt id b base n h) hs
      A:=R.A
      nC:=fun g cells h=>(R.nC g cells h).bb E (Nat.le_refl _)
      gsz:=R.pO E }
def xN:Option Xe->Option (Option Code × Xe)
  |some (.loop .busy ..)=>none
  |some (.loop _ pend n env ps asg body)=>some (pend,.loop .exhausted pend n env ps asg body)
  |_=>none
def JC (Q:AX->St->Prop)(s:St):Option Code->Prop
  |none=>Q .normal s
  |some .ret=>Q .ret s
  |some (.exit i)=>Q (.exit i) s
  |some (.goto i)=>Q (.goto i) s
  |_=>False
def xO (rd:Option Nat)(Q:AX->St->Prop)(ρ:Env)(id:Nat):Xd->Xn->Prop
  |.ret _,H'=>fD H' rd/\bh (xN (H'.get id)) fun pb=>JC Q ⟨ρ,H'.upd id pb.2⟩ pb.1
  |.panic,H'=>fD H' rd/\Q .panic ⟨ρ,H'⟩
def JD {pb:Option Code × Xe}(h:xN x=some pb):∃st pend n env ps asg body,x=some (.loop st pend n env ps asg body)/\(st == .busy)=false/\pb=(pend,.loop .exhausted pend n env ps asg body):=by
  unfold xN at h;split at h
  · cases h
  · rename_i st pend n env ps asg body hne;cases h;refine⟨_,_,_,_,_,_,_,rfl,?_,rfl⟩;cases st with
    |busy=>exact absurd rfl (by first|exact hne|exact fun h=>hne _ _ _ _ _ _ h)
    |_=>rfl
  · cases h
section
variable {n:Nat} {rd:Option Nat} {Q:AX->St->Prop}
theorem W.rangeFunc {g:Operand}{ps:Array Tmp}{asg body:Code}{s:St}{f:FuncId}{first cap:List W9}(hg:aw G s.ρ g=.Z f first cap)
    (h:bh (s.H.lay s.H.A (.loop .ready none n s.ρ ps asg body)) fun H1=>ae P G f (first++[.ni s.H.A]++cap) H1 (xO rd Q s.ρ s.H.A)):W P G n rd (.rangeFunc g ps asg body) Q s:=by
  intro wb Γ a w rb hs hr;obtain⟨H1,hlay,hcall⟩:=h;have hlay2:H1=⟨fun j=>if j=s.H.A then some (.loop .ready none n s.ρ ps asg body) else s.H.get j,s.H.A+1⟩:=by
    unfold Xn.lay at hlay;rw[SU rfl]at hlay;exact(Option.some.inj hlay).symm
  subst hlay2;refine wpIn_rangeFunc fun fn _=>?_;have he:=jb hs g;rw[hg]at he
  -- the world with the record
  have key : ∀ (w0 : World) (mark : List Deferred) (dblk : Nat),Xk Γ s.H w Γ s.H w0→Xh P G Γ s.H w0 →
      rO wb Γ w0 (mark++a.defers) ->
      ∀w1,w1={ w0 with heap:=w0.heap.push (.loop { state:=.ready,pending:=none,fn:=fn,tmps:=a.tmps,params:=ps,assign:=asg,body:=body,defers:=dblk }) } ->
      (Instr.enterLoop fn a.tmps ps asg body (eP rb).round).run P w=.ok (w0.heap.size,mark) w1 ->
      ∃(l:Nat) (mark:List Deferred) (w₁:World) (d:Deferred) (w₁':World) (f:FuncId) (args:Array Value) (w₂:World),
      (Instr.enterLoop fn a.tmps ps asg body (eP rb).round).run P w=.ok (l,mark) w₁ /\
      (resolve a.eval (rangeCall g l) 0).run P w₁=.ok d w₁' /\
      (∀f',Target.leads P w₁' d.target d.args=some f'->(eP rb).fn f') /\
      (invoke d.target d.args).run P w₁'=.ok (.enter f args) w₂ /\
      ((eP rb).depth.isSome=true->1<=0) /\
      CallsIn (eP rb) (0-1) P f args w₂ (rangePost (eP rb) 0 P l (iy P G n wb rd rb (wr (.rangeFunc g ps asg body)) Γ s.H a w Q) { a with defers:=mark++a.defers }):=by
    intro w0 mark dblk E0 R0 hdef w1 hw1 hent
    let rec':Loop:={ state:=.ready,pending:=none,fn:=fn,tmps:=a.tmps,params:=ps,assign:=asg,body:=body,defers:=dblk }
    have hheap:w1.heap=w0.heap.push (.loop rec'):=(by rw[hw1]);have hsz1:w1.heap.size=w0.heap.size+1:=(by rw[hheap];simp);have hk1:∀b,b<w0.heap.size->w1.heap[b]?=w0.heap[b]?:=fun b hb=>by
      rw[hheap,Vn];rw[SQ O]
    have hget1:w1.heap[w0.heap.size]?=some (.loop rec'):=(by rw[hheap];simp);obtain⟨E1,R1⟩:=xM (w':=w1) (by rw[hw1]) (by rw[hw1]) (by rw[hw1]) O hk1 (fun a _=>pS hheap (fun _ _ _ h=>by cases h) a) R0
    let Γ1:aC:=fun i=>if i=s.H.A then some (w0.heap.size,0,0) else Γ i
    let H1:Xn:=⟨fun j=>if j=s.H.A then some (.loop .ready none n s.ρ ps asg body) else s.H.get j,s.H.A+1⟩
    have hfresh:∀i y,s.H.get i=some y->i≠s.H.A:=fun i y hy h=>by have:=R0.A i y hy;omega
    have hΓfresh:∀i x,Γ i=some x->i≠s.H.A:=fun i x hx=>let ⟨y,hy⟩:=R0.nD i x hx;hfresh i y hy
    have hΓ1:∀i,i≠s.H.A->Γ1 i=Γ i:=fun i hi=>by simp only[Γ1];rw[SQ hi]
    have hH1:∀i,i≠s.H.A->H1.get i=s.H.get i:=fun i hi=>by simp only[H1];rw[SQ hi]
    have E2:Xk Γ s.H w0 Γ1 H1 w1 :=
      { os:=by rw[hw1],tape:=by rw[hw1],output:=by rw[hw1],size:=O
        nb:=fun b hb ho=>⟨hk1 b hb,by
          rintro⟨i,base,m,hi⟩;simp only[Γ1]at hi;split at hi
          · simp only[Option.some.injEq,Prod.mk.injEq]at hi;omega
          · exact ho ⟨i,base,m,hi⟩⟩
        X:=fun i hi _ x' hx=>by
          rw[hH1 i O]at hx;refine⟨x',hx,?_⟩;have hΓi:Γ1 i=Γ i:=hΓ1 i O;cases x' with
          |J=>exact⟨W8,fun _=>⟨hΓi,rfl,rfl⟩⟩
          |loop=>exact⟨hΓi,rfl,rfl,rfl,rfl,rfl⟩
          |mp=>exact hΓi
          |nm=>trivial
        ny:=fun a _=>pS hheap (fun _ _ _ h=>by cases h) a
        kind:=tF hheap
        newb:=fun i b x y hi hlt=>by
          simp only[Γ1]at hi;split at hi
          · simp only[Option.some.injEq,Prod.mk.injEq]at hi;omega
          · exact⟨x,y,hi⟩ }
    have hn1:s.H.A<=H1.A:=Vm _;have tr:∀v cv,Xc P Γ s.H w0 v cv->Xc P Γ1 H1 w1 v cv:=fun v cv h=>h.bb E2 hn1;have R2:Xh P G Γ1 H1 w1 :=
      { J:=fun i g e cells hi=>by
          by_cases hii:i=s.H.A
          · simp only[H1]at hi;rw[SU hii]at hi;simp at hi
          · rw[hH1 i hii]at hi;have h:=R0.J i g e cells hi;rw[hΓ1 i hii];cases hΓ:Γ i with
            |none=>rw[hΓ]at h;exact h
            |some y =>
              obtain⟨b,base,m⟩:=y;rw[hΓ]at h;obtain⟨c,a1,a2,a3,a4⟩:=h;exact⟨c,by rw[hk1 b (R0.lt _ _ _ _ hΓ)];exact a1,a2,a3,fun j hj=>let ⟨cv,b1,b2⟩:=a4 j hj;⟨cv,b1,tr _ _ b2⟩⟩
        loop:=fun i st2 pend2 n2 env2 ps2 asg2 body2 hi=>by
          by_cases hii:i=s.H.A
          · simp only [H1] at hi;rw [SU hii] at hi;simp only [Option.some.injEq,Xe.loop.injEq] at hi;obtain ⟨rfl,rfl,rfl,rfl,rfl,rfl,rfl⟩:=hi;refine ⟨w0.heap.size,rec',by simp only [Γ1];rw [SU hii],hget1,rfl,rfl,rfl,rfl,rfl,hs.size,fun t ht=>?_⟩;have:=((hs.env t).bb E0 W8).bb E2 hn1;have e1 : a.tmps.getD t undef=a.tmps[t]'ht:=by
              have:t<a.tmps.size:=ht;simp[this]
            rw[e1]at this;exact this
          · rw[hH1 i hii]at hi;obtain⟨b2,r2,a1,a2,a3,a4,a5,a6,a7,a8,a9⟩:=R0.loop i _ _ _ _ _ _ _ hi;exact⟨b2,r2,by rw[hΓ1 i hii];exact a1,by rw[hk1 b2 (R0.lt _ _ _ _ a1)];exact a2,a3,a4,a5,a6,a7,a8,fun t ht=>tr _ _ (a9 t ht)⟩
        mp:=fun i es hi=>by
          by_cases hii:i=s.H.A
          · simp only[H1]at hi;rw[SU hii]at hi;simp at hi
          · rw[hH1 i hii]at hi;obtain⟨b2,a1,a2⟩:=R0.mp i _ hi;exact⟨b2,by rw[hΓ1 i hii];exact a1,by rw[hk1 b2 (R0.lt _ _ _ _ a1)];exact a2⟩
        nm:=fun i hi=>by
          by_cases hii:i=s.H.A
          · simp only[H1]at hi;rw[SU hii]at hi;simp at hi
          · rw[hH1 i hii]at hi;rw[hΓ1 i hii];exact R0.nm i hi
        inj:=fun i i' b base m base' m' h h'=>by
          by_cases h1:i=s.H.A
          · by_cases h2:i'=s.H.A
            · rw[h1,h2]
            · rw[hΓ1 i' h2]at h';simp only[Γ1]at h;rw[SU h1]at h;simp only[Option.some.injEq,Prod.mk.injEq]at h;have:=R0.lt _ _ _ _ h';omega
          · by_cases h2:i'=s.H.A
            · rw[hΓ1 i h1]at h;simp only[Γ1]at h';rw[SU h2]at h';simp only[Option.some.injEq,Prod.mk.injEq]at h';have:=R0.lt _ _ _ _ h;omega
            · rw[hΓ1 i h1]at h;rw[hΓ1 i' h2]at h';exact R0.inj _ _ _ _ _ _ _ h h'
        nD:=fun i x hi=>by
          by_cases hii:i=s.H.A
          · simp only[H1];rw[SU hii];exact⟨_,rfl⟩
          · rw[hΓ1 i hii]at hi;rw[hH1 i hii];exact R0.nD i x hi
        lt:=fun i b base m hi=>by
          by_cases hii:i=s.H.A
          · simp only[Γ1]at hi;rw[SU hii]at hi;simp only[Option.some.injEq,Prod.mk.injEq]at hi;omega
          · rw[hΓ1 i hii]at hi;have:=R0.lt _ _ _ _ hi;omega
        A:=fun i y hi=>by
          by_cases hii:i=s.H.A
          · show i<s.H.A+1;omega
          · rw[hH1 i hii]at hi;have:=R0.A i y hi;show i<s.H.A+1;omega
        nC:=fun g cells h=>tr _ _ (R0.nC g cells h)
        gsz:=R0.pO E2 }
    have E3:Xk Γ s.H w Γ1 H1 w1:=E0.trans W8 E2;generalize hcg:a.eval g=cg at he;cases he with
    | @Z _ _ _ fs cs hfs hcs hf hc =>
      obtain⟨⟨fn',hfn',hb',hname'⟩,hcall⟩:=hcall;have hyld:Xc P Γ1 H1 w1 (.ni s.H.A) (.func (.yield w0.heap.size) #[] #[]) :=
        .ni ⟨Un _,rfl,by simp[H1],fun st pend n env ps asg body hgi=>⟨w0.heap.size,by simp[Γ1],rfl⟩,fun es hgi=>by simp[H1]at hgi⟩
      have hargs:dK P Γ1 H1 w1 (first++[.ni s.H.A]++cap) (fs.toArray++#[.func (.yield w0.heap.size) #[] #[]]++cs.toArray):=by
        refine tS (tS ⟨by simpa using hfs,fun i h1 h2=>?_⟩ ⟨rfl,fun i h1 h2=>?_⟩) ⟨by simpa using hcs,fun i h1 h2=>?_⟩
        · exact(by simpa using hf i h1 (by simpa using h2):Xc P Γ s.H w first[i] (fs.toArray[i])).bb E3 hn1
        · have:i=0:=(by simp at h1;omega);subst this;exact hyld
        · exact(by simpa using hc i h1 (by simpa using h2):Xc P Γ s.H w cap[i] (cs.toArray[i])).bb E3 hn1
      refine⟨w0.heap.size,mark,w1,{ target:=.fn (.func f) cs.toArray,args:=fs.toArray++#[.func (.yield w0.heap.size) #[] #[]] },w1,f,fs.toArray++#[.func (.yield w0.heap.size) #[] #[]]++cs.toArray,w1,hent,?_,fun _ _=>trivial,?_,fun hc=>by simp[Fence.wide]at hc,?_⟩
      · have hm:Array.map a.eval #[Operand.const (.func (.yield w0.heap.size) #[] #[])]=#[.func (.yield w0.heap.size) #[] #[]]:=(by simp[Act.eval]);unfold resolve;simp only[hcg,hm];rfl
      · show (callFunc f (fs.toArray++#[.func (.yield w0.heap.size) #[] #[]]++cs.toArray)).run P w1=_;unfold callFunc;rw[au (run_program P w1)];simp only[hfn'];rw[hname',hb'];rfl
      · have h4 : CallsIn (eP rb) 0 P f (fs.toArray++#[.func (.yield w0.heap.size) #[] #[]]++cs.toArray) w1 _:=hcall Γ1 w1 _ R2 hargs;refine h4.mono ?_;rintro e w3 ⟨r,H',Γ',hend,hk,R',E',hn'⟩;have E5 : Xk Γ s.H w Γ' H' w3:=E3.trans hn1 E';have hn5 : s.H.A≤H'.A:=Tw hn1 hn';have mkS : ∀ (H'' : Xn) (w4 : World),Xh P G Γ' H'' w4→Xk Γ s.H w Γ' H'' w4→Xk Γ s.H w0 Γ' H'' w4→s.H.A≤H''.A→Xt P G n wb Γ' ⟨s.ρ,H''⟩ { a with defers:=mark++a.defers } w4 :=
          fun H'' w4 R'' E'' E0'' hn''=>⟨hs.size,fun t=>(hs.env t).bb E'' hn'',R'',hdef.bb E0'',Tw hs.low E''.size⟩
        cases e with
        |returned cv =>
          cases r with
          |panic=>exact hend.elim
          |ret v =>
            obtain⟨hri,pb,hpb,hj⟩:=hk;obtain⟨st,pend,n2,env2,ps2,asg2,body2,hgl,hbusy,rfl⟩:=JD hpb;obtain⟨b,r2,hΓb,hb,l1,l2,l3,l4,l5,l6,l7,lset⟩:=ux R' hgl;obtain⟨R6,E6⟩:=lset .exhausted r2.pending;have hbl:b=w0.heap.size:=by
              obtain⟨x,hx,hle⟩:=E'.X s.H.A (Un _) (SZ (Un _) hn') _ hgl;have hx':H1.get s.H.A=some (.loop .ready none n s.ρ ps asg body):=(by simp[H1]);rw[hx']at hx;cases hx;have h1:=hle.1;rw[hΓb]at h1;simp only[Γ1,if_true,Option.some.injEq,Prod.mk.injEq]at h1;exact h1.1
            subst hbl;have hend':=Jx (P:=P) hb (by rw[l1];exact hbusy);rw[l2]at R6 E6 hend';refine⟨pend,_,hend',?_⟩;have E7:=E5.trans hn5 E6;have hS:=mkS _ _ R6 E7 ((E2.trans hn1 E').trans hn5 E6) hn5;have hri':fD (H'.upd s.H.A (.loop .exhausted pend n2 env2 ps2 asg2 body2)) rd:=by
              cases rd with
              |none=>trivial
              |some i =>
                obtain⟨st3,pend3,n3,env3,ps3,asg3,body3,h3⟩:=hri;by_cases hii:i=s.H.A
                · exact⟨_,_,_,_,_,_,_,by rw[ag,SU hii]⟩
                · exact⟨_,_,_,_,_,_,_,by rw[ag,SQ hii];exact h3⟩
            have hR:=hr.bb E7 hn5 hs.heap hri';have post:∀(e:Exit) (x:AX),xx e x->Q x ⟨s.ρ,H'.upd s.H.A (.loop .exhausted pend n2 env2 ps2 asg2 body2)⟩->iy P G n wb rd rb (wr (.rangeFunc g ps asg body)) Γ s.H a w Q e { a with defers:=mark++a.defers } _ :=
              fun e x hx hq=>⟨x,_,Γ',hx,hq,hS,E7,hn5,hR,fun t _=>rfl⟩
            simp only at hj;cases pend with
            |none=>exact post .normal .normal trivial hj
            |some c =>
              cases c with
              |ret=>exact wpIn_ret (post .ret .ret trivial hj)
              |exit i=>exact wpIn_exit (post (.exit i) (.exit i) rfl hj)
              |goto i=>exact wpIn_goto (post (.goto i) (.goto i) rfl hj)
              |_=>exact hj.elim
        |panicked chain =>
          cases r with
          |ret v=>exact hend.elim
          |panic =>
            exact⟨.panic,_,Γ',hend,hk.2,mkS _ _ R' E5 (E2.trans hn1 E') hn5,E5,hn5,hr.bb E5 hn5 hs.heap hk.1,fun t _=>rfl⟩
        |outgrown=>cases r<;>exact hend.elim
  cases rb with
  |none =>
    let w0:World:={ w with heap:=w.heap.push (.deferred (some [])) }
    have hk0:∀b,b<w.heap.size->w0.heap[b]?=w.heap[b]?:=fun b hb=>by
      show (w.heap.push _)[b]?=_;rw[Vn,SQ O]
    obtain⟨E0,R0⟩:=xM (w:=w) (w':=w0) rfl rfl rfl (by simp[w0]) hk0 (fun a _=>pS (o:=.deferred (some [])) rfl (fun _ _ _ h=>by cases h) a) hs.heap;refine key w0 [{ target:=.collected w.heap.size,args:=#[] }] w.heap.size E0 R0 ?_ _ rfl rfl;obtain⟨m,hm,hmk⟩:=hs.defers;refine⟨{ target:=.collected w.heap.size,args:=#[] } :: m,by rw[hm];rfl,fun d hd=>?_,?_⟩
    · simp only[List.mem_cons]at hd;rcases hd with rfl|hd
      · refine⟨w.heap.size,rfl,hs.low,?_,by simp[w0]⟩;rintro⟨i,base,m,hi⟩;have:=hs.heap.lt _ _ _ _ hi;omega
      · obtain⟨r,h1,h2,h3⟩:=hmk.1 d hd;exact⟨r,h1,h2,h3.bb E0⟩
    · refine V5.2 ⟨fun d hd=>?_,hmk.2⟩;obtain⟨r,h1,h2,h3⟩:=hmk.1 d hd;rw[h1];intro he;simp only[Target.collected.injEq]at he;have h4:=h3.2;rw[<- he,Ul W8]at h4;cases h4
  |some b0 =>
    have hlr:∃r,w.heap[b0]?=some (.loop r):=by
      cases rd with
      |none=>cases hr
      |some id =>
        obtain⟨b,st,pend,n',env,ps',asg',body',h1,h2,h3⟩:=hr;obtain⟨b',r,h4,h5,_⟩:=hs.heap.loop _ _ _ _ _ _ _ _ h3;rw[h2]at h4;simp only[Option.some.injEq,Prod.mk.injEq]at h4 h1;rw[h1,h4.1];exact⟨r,h5⟩
    obtain⟨r,hlr⟩:=hlr;refine key w [] r.defers (Xk.refl _ _ _) hs.heap (by simpa using hs.defers) _ rfl ?_;show (Instr.enterLoop fn a.tmps ps asg body (some b0)).run P w=_;unfold Instr.enterLoop;simp only[bind_assoc,pure_bind];rw[au (rZ hlr)];rfl
end
end Go.Hx
namespace Go.Hx
variable {P:Program} {G:Nat->Option (List W9)} {Γ Γ':aC} {H H':Xn} {w w':World}
variable {f:FuncId}{args args':List W9}{v':W9}
def dp:Xn:=⟨fun _=>none,0⟩
inductive Xx (H:Xn):W9->W9->Prop
 |lit (v:Value):Xx H (.lit v) (.lit v)
 |nil:Xx H (.lit (.slice none 0 0)) (.M 0 [])
 |nq:Xx H (.M 0 []) (.M 0 [])
 |agg {c c':List W9} (hl:c'.length=c.length) (h:∀i (h:i<c.length) (h':i<c'.length),Xx H c[i] c'[i]):Xx H (.agg c) (.agg c')
 |na {c c':List W9} (hl:c'.length=c.length) (h:∀i (h:i<c.length) (h':i<c'.length),Xx H c[i] c'[i]):Xx H (.na c) (.na c')
 |Q {id g o l z:Nat} {e:TypeId} {cells c':List W9} (hg:H.get id=some (.J g e cells)) (hl:c'.length=l*z)
   (h:∀i (h:i<l*z) (h2:o+i<cells.length) (h':i<c'.length),Xx H cells[o+i] c'[i]):Xx H (.Q id g o l z) (.M l c')
def Xx.sound (R:Xh P G Γ' H' w){N:Nat}(h1:∀b,Γ'.gZ b->N<=b)(h2:∀b,Γ.gZ b->b<N){v:W9}(hf:Xx H' v v'):∀ {cv:Value},Xc P Γ' H' w v cv->Xc P Γ H w v' cv:=by
 induction hf with
 |lit v=>intro cv h;cases h;exact .lit _
 |nil=>intro cv h;cases h;exact .nq none 0
 |nq =>
  intro cv h;cases h with
  |nq a cap=>exact .nq a cap
  |M hb hlt hlen hcs hcell hrel=>exact .nq _ _
 |agg hl hc ih =>
  intro cv h;cases h with
  |agg hcs hrel=>exact .agg O fun i a b=>ih i O a (hrel i O b)
 |na hl hc ih =>
  intro cv h;cases h with
  |na hcs hrel=>exact .na O fun i a b=>ih i O a (hrel i O b)
 | @Q id g o l z e cells c' hg hl hc ih =>
  intro cv h;cases h with
  |Q h =>
   obtain⟨_,_,h0,h3⟩:=h;have h4:=(h3 _ _ _ hg).2 rfl;have harr:=R.J id g e cells hg;cases hΓ:Γ' id with
   |none =>
    rw[hΓ]at h4;obtain⟨rfl,rfl,rfl⟩:=h4;have:c'=[]:=S3 (by simpa using hl);subst this;exact .nq _ _
   |some y =>
    obtain⟨b,base,n⟩:=y;rw[hΓ]at h4 harr;obtain⟨a,cap,rfl,hcap,hoff,hor⟩:=h4;obtain⟨c,a1,a2,a3,a4⟩:=harr;rcases hor with ⟨rfl,hn⟩|⟨rfl,rfl⟩
    ·have hcell:∀i,i<l*z->∃cv,c[base+(o+i)]?=some cv/\∀(h:o+i<cells.length),Xc P Γ' H' w cells[o+i] cv:=fun i hi=>by
      obtain⟨cv,b1,b2⟩:=a4 (o+i) O;exact⟨cv,b1,fun _=>b2⟩
     let cs:List Value:=(List.range (l*z)).map fun i=>(c[base+(o+i)]?).getD undef
     have hcs:cs.length=c'.length:=(by simp[cs,hl]);refine .M (cs:=cs) (fun ho=>?_) (R.lt _ _ _ _ hΓ) hcap hcs (fun i hi=>?_) fun i hi hi'=>?_
     ·have:=h2 b ho;have:=h1 b ⟨id,base,n,hΓ⟩;omega
     ·have hi2:i<l*z:=(by rw[hcs,hl]at hi;exact hi);obtain⟨cv,b1,_⟩:=hcell i hi2;have:cs[i]=cv:=(by simp[cs,b1]);rw[this];have he:base+o+i=base+(o+i):=O;simp only[World.cell?,a1,he];exact b1
     ·have hi2:i<l*z:=(by rw[hl]at hi;exact hi);obtain⟨cv,b1,b2⟩:=hcell i hi2;have:cs[i]=cv:=(by simp[cs,b1]);rw[this];exact ih i hi2 O hi (b2 O)
    ·have:c'=[]:=S3 (by simpa using hl);subst this;exact .nq _ _
def Fq (H:Xn):XM (fun _=>True) H dp:=⟨fun _ _=>rfl,fun _ _ h=>absurd trivial h,fun _ h=>absurd trivial h⟩
def Af (b:Nat):¬(fW (fun _=>True) Γ).gZ b:=by
 rintro⟨id,base,n,h⟩;exact(kI h).1 trivial
def Ag (o:Option W9)(r:Xd)(H':Xn):Prop:=match o with
 |some v'=>∃v,r=.ret v/\Xx H' v v'
 |none=>r=.panic
def Ah:Option W9->Xd
 |some v=>.ret v
 |none=>.panic
def ae.Fs {o:Option W9}(hG:fK G)(hl:args'.length=args.length)(hv:∀i (h:i<args.length) (h':i<args'.length),Fz (fun _=>True) H 0 args[i] args'[i])
  (h:ae P G f args' dp (Ag o)):ae P G f args H fun r H'=>r=Ah o/\H'=H:=by
 refine⟨h.1,fun Γ w cargs R hr=>?_⟩;have F:=Fq H;have R0:Xh P G (fW (fun _=>True) Γ) dp w:=F.rel hG R;have hr0:dK P (fW (fun _=>True) Γ) dp w args' cargs:=⟨by have:=hr.1;omega,fun i h1 h2=>(hv i O h1).sound R F (hr.2 i O h2)⟩
 refine(h.2 _ w cargs R0 hr0).mono ?_;rintro e w' ⟨r,H',Γ',hend,hg,R',E,hn⟩;have hown:∀b,Γ'.gZ b->w.heap.size<=b:=fun b hb=>VR fun hlt=>(E.nb b hlt (Af b)).2 hb;have hown2:∀b,Γ.gZ b->b<w.heap.size:=fun b ⟨id,base,n,hb⟩=>R.lt _ _ _ _ hb;obtain⟨E2,R2⟩:=xM E.os E.tape E.output E.size (fun b hb=>(E.nb b hb (Af b)).1) E.ny R;refine⟨Ah o,H,Γ,?_,⟨rfl,rfl⟩,R2,E2,W8⟩;cases o with
 |some v' =>
  obtain⟨v,rfl,hf⟩:=hg;cases e with
  |returned cv=>exact hf.sound R' hown hown2 hend
  |_=>exact hend.elim
 |none =>
  have hg':r=.panic:=hg;subst hg';cases e with
  |panicked chain=>exact hend
  |_=>exact hend.elim
def ae.frame (hG:fK G)(hl:args'.length=args.length)(hv:∀i (h:i<args.length) (h':i<args'.length),Fz (fun _=>True) H 0 args[i] args'[i])
  (h:ae P G f args' dp fun r H'=>∃v,r=.ret v/\Xx H' v v'):ae P G f args H fun r H'=>r=.ret v'/\H'=H:=ae.Fs (o:=some v') hG hl hv h
end Go.Hx
namespace Go.Hx.Ev
open Go.Hx
variable {P:Program} {G:Nat->Option (List W9)} {Γ Γ':aC} {H H':Xn} {w w':World}
variable {r:Nat}{e g:Nat->Option Xe}
def dh (e g:Nat->Option Xe):Nat->Option Xe:=fun j=>match e j with
 |some b=>some b
 |none=>g j
def nG (e:Option (Nat × Xe)):Nat->Option Xe:=fun j=>match e with
 |some (k,b)=>if j=k then some b else none
 |none=>none
def Ac (e:Option (Nat × Xe))(g:Nat->Option Xe):dh (nG e) g=eT e g:=by
 funext j
 cases e with
 |none=>rfl
 |some kb =>
  obtain⟨k,b⟩:=kb;simp only[dh,nG,eT];by_cases h:j=k
  ·rw[SU h,SU h]
  ·rw[SQ h,SQ h]
def qc (P:Program)(G:Nat->Option (List W9))(fv:W9)(args:List W9)(H:Xn)(v:W9)(e:Nat->Option Xe)(k:Nat)(f:FP):Prop :=
 (∀r,r∈f.rs->r<H.A)/\(∀r,(e r).isSome=true->r∈f.nt/\((r∈f.rs/\∃g t c,H.get r=some (.J g t c))\/(H.A<=r/\r<H.A+k)))/\(∀c,c<k->(e (H.A+c)).isSome=true) /\
 ∀H2:Xn,(∀r,r∈f.rs->H2.get r=H.get r)->(∀c,c<k->H2.get (H.A+c)=some .nm)->H.A+k<=H2.A->az P G fv args H2 fun r H3=>r=.ret v/\H3=⟨dh e H2.get,H2.A⟩
def bF (P:Program)(G:Nat->Option (List W9))(o:Oper)(K:FP->St->Prop)(s:St):Prop :=
 match o.op with
 |.call { callee:=.value fv,args,.. }=>∃v e k f,qc P G (aw G s.ρ fv) (args.toList.map (aw G s.ρ)) s.H v e k f/\K f ⟨aQ s.ρ o.dst v,⟨dh e s.H.get,s.H.A+k⟩⟩
 |op=>bh (ak P G s.ρ s.H s.H.A op) fun vH=>K (cq P G s.ρ s.H.A op) ⟨aQ s.ρ o.dst vH.1,vH.2⟩
def dI (P:Program)(G:Nat->Option (List W9))(all:Array Oper)(tail:St->Prop):List Nat->Nat->List (Nat × FP)->List Oper->St->Prop
 |b :: bs,i,acc,o :: rest,s=>bh (gL all s.ρ o) fun t=>if t=true then bF P G o (fun f s'=>je b f acc/\dI P G all tail bs (i+1) (iA i f acc) rest s') s
   else dI P G all tail bs (i+1) acc rest ⟨aQ s.ρ o.dst (.lit undef),s.H⟩
 |_,_,_,[],s=>tail s
 | [],_,_,_ :: _,_=>False
structure Dt where
 v:W9
 e:Nat->Option Xe
 al:Nat
 f:FP
def ba (all:Array Oper)(d:Nat->Dt)(ρ0:Env):Nat->(Nat->Bool)->Env
 |0,_=>ρ0
 |n+1,D=>if D n then aQ (ba all d ρ0 n D) (gP all n) (d n).v else ba all d ρ0 n D
def aT (d:Nat->Dt)(g0:Nat->Option Xe):Nat->(Nat->Bool)->Nat->Option Xe
 |0,_=>g0
 |n+1,D=>if D n then dh (d n).e (aT d g0 n D) else aT d g0 n D
def aG (d:Nat->Dt):Nat->Nat
 |0=>0
 |n+1=>aG d n+(d n).al
def dJ (x:Dt)(r:Nat):Prop:=(x.e r).isSome=true
def nH (h:¬(e r).isSome=true):dh e g r=g r:=by
 unfold dh;cases he:e r with
 |none=>rfl
 |some b=>rw[he]at h;exact absurd rfl h
def Ad {g':Nat->Option Xe}(h:(e r).isSome=true):dh e g r=dh e g' r:=by
 unfold dh;cases he:e r with
 |none=>rw[he]at h;cases h
 |some b=>rfl
def wU {g':Nat->Option Xe}(h:g r=g' r):dh e g r=dh e g' r:=by
 unfold dh;rw[h]
def Fh {e':Nat->Option Xe}(h:∀r,(e r).isSome=true->¬(e' r).isSome=true):dh e' (dh e g)=dh e (dh e' g):=by
 funext r
 by_cases hx:(e r).isSome=true
 ·rw[nH (h r hx)];exact Ad hx
 ·rw[nH (g:=dh e' g) hx];exact wU (nH hx)
section
variable {all:Array Oper} {d d':Nat->Dt} {ρ0:Env} {g0 g0':Nat->Option Xe} {D D':Nat->Bool}
def oN {t:Tmp}:∀ {n:Nat},(∀j,j<n->gP all j=some t->D j=D' j)->ba all d ρ0 n D t=ba all d ρ0 n D' t:=by
 intro n
 induction n with
 |zero=>intro _;rfl
 |succ n ih =>
  intro h;have h0:=ih fun j hj=>h j O;simp only[ba];by_cases hd:gP all n=some t
  ·rw[h n O hd];split
   ·exact tZ h0
   ·exact h0
  ·have:∀(b:Bool) (ρ:Env),(if b=true then aQ ρ (gP all n) (d n).v else ρ) t=ρ t:=by
    intro b ρ;split
    ·exact qp hd
    ·rfl
   rw[this,this];exact h0
def wV {m:Nat}:∀ {n:Nat},m<=n->ba all d ρ0 n (fun j=>decide (j<m))=ba all d ρ0 m fun _=>true:=by
 have low:∀k,k<=m->ba all d ρ0 k (fun j=>decide (j<m))=ba all d ρ0 k fun _=>true:=by
  intro k
  induction k with
  |zero=>intro _;rfl
  |succ k ih =>
   intro hk;simp only[ba];rw[ih O,SU (by simp;omega)];simp
 intro n
 induction n with
 |zero =>
  intro hm;obtain rfl:m=0:=O
  exact low 0 (O)
 |succ n ih =>
  intro hm;by_cases h:m=n+1
  ·subst h;exact low (n+1) (O)
  ·simp only[ba];rw[SQ (by simp;omega)];exact ih (O)
def oO {r:Nat}:∀ {n:Nat},(∀j,j<n->dJ (d j) r->D j=D' j)->aT d g0 n D r=aT d g0 n D' r:=by
 intro n
 induction n with
 |zero=>intro _;rfl
 |succ n ih =>
  intro h;have h0:=ih fun j hj=>h j O;simp only[aT];by_cases hd:dJ (d n) r
  ·rw[h n O hd];split
   ·exact wU h0
   ·exact h0
  ·have:∀(b:Bool) (g:Nat->Option Xe),(if b=true then dh (d n).e g else g) r=g r:=by
    intro b g;split
    ·exact nH hd
    ·rfl
   rw[this,this];exact h0
def wW {m:Nat}:∀ {n:Nat},m<=n->aT d g0 n (fun j=>decide (j<m))=aT d g0 m fun _=>true:=by
 have low:∀k,k<=m->aT d g0 k (fun j=>decide (j<m))=aT d g0 k fun _=>true:=by
  intro k
  induction k with
  |zero=>intro _;rfl
  |succ k ih =>
   intro hk;simp only[aT];rw[ih O,SU (by simp;omega)];simp
 intro n
 induction n with
 |zero =>
  intro hm;obtain rfl:m=0:=O
  exact low 0 (O)
 |succ n ih =>
  intro hm;by_cases h:m=n+1
  ·subst h;exact low (n+1) (O)
  ·simp only[aT];rw[SQ (by simp;omega)];exact ih (O)
def rG {r:Nat}:∀ {n:Nat},(g0 r=g0' r\/∃j,j<n/\D j=true/\dJ (d j) r)->aT d g0 n D r=aT d g0' n D r:=by
 intro n
 induction n with
 |zero =>
  rintro(h|⟨j,hj,_⟩)
  ·exact h
  ·omega
 |succ n ih =>
  intro h;simp only[aT];by_cases hD:D n=true
  ·rw[SU hD,SU hD];by_cases ht:dJ (d n) r
   ·exact Ad ht
   ·refine wU (ih ?_);rcases h with h|⟨j,hj,h1,h2⟩
    ·exact .inl h
    ·by_cases hjn:j=n
     ·subst hjn;exact absurd h2 ht
     ·exact .inr ⟨j,O,h1,h2⟩
  ·rw[SQ hD,SQ hD];refine ih ?_;rcases h with h|⟨j,hj,h1,h2⟩
   ·exact .inl h
   ·by_cases hjn:j=n
    ·subst hjn;exact absurd h1 hD
    ·exact .inr ⟨j,O,h1,h2⟩
def wX {r:Nat}:∀ {n:Nat},(∀j,j<n->D j=true->¬dJ (d j) r)->aT d g0 n D r=g0 r:=by
 intro n
 induction n with
 |zero=>intro _;rfl
 |succ n ih =>
  intro h;simp only[aT];split
  ·rename_i hD;rw[nH (h n O hD)];exact ih fun j hj=>h j (O)
  ·exact ih fun j hj=>h j (O)
def bW (D:Nat->Bool)(i:Nat):Nat->Bool:=fun j=>if j=i then true else D j
def wY {i:Nat}(hD:D i=false):∀ {n:Nat},i<n->(∀j,i<j->j<n->D j=true->∀t,gP all i=some t->gP all j≠some t) ->
  ba all d ρ0 n (bW D i)=aQ (ba all d ρ0 n D) (gP all i) (d i).v:=by
 intro n
 induction n with
 |zero=>intro h;omega
 |succ n ih =>
  intro hi h;by_cases hin:i=n
  ·subst hin;have h0:ba all d ρ0 i (bW D i)=ba all d ρ0 i D:=funext fun t=>oN fun j hj _=>by simp[bW,VI hj]
   simp only[ba];rw[SU (by simp[bW]),SQ (by simp[hD]),h0]
  ·have hw:bW D i n=D n:=(by simp[bW,Ne.symm hin]);have h0:=ih O fun j h1 h2=>h j h1 O;simp only[ba,hw];split
   ·rename_i hDn;rw[h0];exact AY (h n O O hDn)
   ·exact h0
def wZ {i:Nat}(hD:D i=false):∀ {n:Nat},i<n->(∀j,i<j->j<n->D j=true->∀t,dJ (d i) t->¬dJ (d j) t) ->
  aT d g0 n (bW D i)=dh (d i).e (aT d g0 n D):=by
 intro n
 induction n with
 |zero=>intro h;omega
 |succ n ih =>
  intro hi h;by_cases hin:i=n
  ·subst hin;have h0:aT d g0 i (bW D i)=aT d g0 i D:=funext fun t=>oO fun j hj _=>by simp[bW,VI hj]
   simp only[aT];rw[SU (by simp[bW]),SQ (by simp[hD]),h0]
  ·have hw:bW D i n=D n:=(by simp[bW,Ne.symm hin]);have h0:=ih O fun j h1 h2=>h j h1 O;simp only[aT,hw];split
   ·rename_i hDn;rw[h0];exact Fh (h n O O hDn)
   ·exact h0
def qd {m n:Nat}(h:m<=n):aG d m<=aG d n:=by
 induction n with
 |zero =>
  have:m=0:=O
  subst this;exact Nat.le_refl _
 |succ n ih =>
  by_cases hm:m=n+1
  ·subst hm;exact Nat.le_refl _
  ·exact Tw (ih O) (by simp[aG])
def rH {n c:Nat}(h:c<aG d n):∃j,j<n/\aG d j<=c/\c<aG d j+(d j).al:=by
 induction n with
 |zero=>simp[aG]at h
 |succ n ih =>
  by_cases hc:c<aG d n
  ·obtain⟨j,h1,h2⟩:=ih hc;exact⟨j,O,h2⟩
  ·simp only[aG]at h;exact⟨n,O,O,O⟩
def lI {i n:Nat}(h:i<n):aG d i+(d i).al<=aG d n:=by
 have:=qd (d:=d) (m:=i+1) (n:=n) h;simpa only[aG] using this
def rI {n:Nat}(h:∀j,j<n->d j=d' j):ba all d ρ0 n D=ba all d' ρ0 n D:=by
 induction n with
 |zero=>rfl
 |succ n ih=>simp only[ba];rw[ih fun j hj=>h j O,h n O]
def rJ {n:Nat}(h:∀j,j<n->d j=d' j):aT d g0 n D=aT d' g0 n D:=by
 induction n with
 |zero=>rfl
 |succ n ih=>simp only[aT];rw[ih fun j hj=>h j O,h n O]
def fI {n:Nat}(h:∀j,j<n->d j=d' j):aG d n=aG d' n:=by
 induction n with
 |zero=>rfl
 |succ n ih=>simp only[aG];rw[ih fun j hj=>h j O,h n O]
end
def ExecOk (P:Program)(G:Nat->Option (List W9))(all:Array Oper)(o:Oper)(id:Nat)(s s':St):Prop :=
 (gL all s.ρ o=some false/\s'=⟨aQ s.ρ o.dst (.lit undef),s.H⟩) \/
 (gL all s.ρ o=some true/\∃v,s'.ρ=aQ s.ρ o.dst v /\
  (ak P G s.ρ s.H id o.op=some (v,s'.H) \/
   ∃fv args ats,o.op=.call ⟨.value fv,args,ats⟩/\(∀id st pend m env ps asg body,s.H.get id=some (.loop st pend m env ps asg body)->s'.H.get id=s.H.get id)/\az P G (aw G s.ρ fv) (args.toList.map (aw G s.ρ)) s.H fun r H3=>r=.ret v/\H3=s'.H))
def xa {n:Nat}{wb:XE}{rd rb:Option Nat}{all:Array Oper}{o:Oper}{id i:Nat}{s s':St}{a:Act}{A:Act->World->Prop}{Q':Exit->Act->World->Prop}(ho:all[i]?=some o)(hd:fV n o=true)
  (hs:Xt P G n wb Γ s a w) (hr:dZ Γ s.H rd rb) (h:ExecOk P G all o id s s')
  (hnext:∀ Γ' a' w',Xt P G n wb Γ' s' a' w'->Xk Γ s.H w Γ' s'.H w'->s.H.A<=s'.H.A->dZ Γ' s'.H rd rb->(∃cv,a'=a.put o.dst cv)->A a' w'):
  wpOpIn (eP rb) 0 P all Q' i A a w:=by
 have hdst:∀d,o.dst=some d->d<n:=by
  intro d hd';unfold fV at hd;rw[hd']at hd;simpa using hd
 unfold wpOpIn;rw[ho];simp only;rcases h with ⟨hw,rfl⟩|⟨hw,v,hρ,h⟩
 ·rw[qh hs hw];simp only[Bool.false_eq_true,if_false];refine⟨fun _ _=>trivial,?_⟩;have hs':=kE (v:=.lit undef) (cv:=undef) hs hdst (Xk.refl Γ s.H w) W8 hs.heap (.lit _);exact hnext Γ _ w hs' (Xk.refl _ _ _) W8 hr ⟨_,rfl⟩
 ·rw[qh hs hw];simp only[if_true];obtain⟨ρ',H'⟩:=s';simp only at hρ;subst hρ;refine⟨fun _ _=>trivial,?_⟩;rcases h with hop|⟨fv,args,ats,hop,hH,hap⟩
  ·simp only at hop;rw[Oper.semAt_eq _ _ _ (fun c hc=>by rw[hc]at hop;simp[ak]at hop)];obtain⟨nx,cv,Γ',w',hrun,hnx,E,hn,R,hv⟩:=xu hs.heap (jb hs) hop;rw[hrun];have hri:=xy hr (xz hs.heap hop);have hs':=kE hs hdst E hn R hv;have hr':=hr.bb E hn hs.heap hri;rcases hnx with rfl|⟨rfl,rfl⟩
   ·exact hnext Γ' _ w' hs' E hn hr' ⟨_,rfl⟩
   ·exact hnext Γ' _ w' hs' E hn hr' ⟨_,rfl⟩
  ·rw[Oper.semAt_eq _ _ _ (fun c hc=>by rw[hc]at hop;cases hop)];obtain⟨d,h1,h2⟩:=hap Γ w (a.eval fv) (args.map a.eval) hs.heap (jb hs fv) ⟨W5,fun i h1 h2=>by simp only[S9,Vd,TW];exact jb hs _⟩;have hex:(execOp a.eval o).run P w=(invoke d.target d.args).run P w:=by
    unfold execOp;simp only[hop];unfold resolve;simp only;rw[au h1]
   have hri:fD H' rd:=by
    cases rd with
    |none=>trivial
    |some id =>
     obtain⟨b,st,pend,n,env,ps,asg,body,_,_,h3⟩:=hr;exact⟨_,_,_,_,_,_,_,(hH _ _ _ _ _ _ _ _ h3).trans h3⟩
   have cont:∀e w',jc P G Γ s.H w (fun r H3=>r=.ret v/\H3=H') e w'->(match e with
     |.returned v=>A (a.put o.dst v) w'
     |.panicked chain=>Q' (.panic chain) a w'
     |.outgrown=>LetsOut Q'):=by
    rintro e w' ⟨r,H4,Γ',hend,⟨rfl,rfl⟩,R,E,hn⟩;have hr':=hr.bb E hn hs.heap hri;cases e with
    |returned cv=>exact hnext Γ' _ w' (kE hs hdst E hn R hend) E hn hr' ⟨_,rfl⟩
    |panicked chain=>exact hend.elim
    |outgrown=>exact hend.elim
   rw[hex];rcases h2 with ⟨f,as,h3,h4⟩|⟨l,f,tm,asg,body,h3,h4⟩|⟨cv,w',h3,h4⟩
   ·rw[h3];refine⟨fun hc=>by simp[Fence.wide]at hc,?_⟩;have h4':CallsIn (eP rb) 0 P f as w _:=h4;refine h4'.mono ?_;intro e w' hp;have:=cont e w' hp;cases e<;>exact this
   ·rw[h3];refine⟨fun hc=>by simp[Fence.wide]at hc,?_⟩;have h4':RoundIn (eP rb) 0 P l f tm asg body w _:=h4;refine h4'.mono ?_;intro e w' hp;have:=cont e w' hp;cases e<;>exact this
   ·rw[h3];exact cont (.returned cv) w' h4
def mr (d:Nat->Dt)(H0:Xn)(m:Nat):Xn:=⟨aT d H0.get m fun _=>true,H0.A+aG d m⟩
def canon (all:Array Oper)(d:Nat->Dt)(s0:St)(m:Nat):St:=⟨ba all d s0.ρ m fun _=>true,mr d s0.H m⟩
structure Xp (P:Program)(G:Nat->Option (List W9))(all:Array Oper)(bs:List Nat)(s0:St)(d:Nat->Dt)(i:Nat):Prop where
 step:∀o,all[i]?=some o->∀ ρ2 H2,(∀t,t∈o.looksAt all->ρ2 t=(canon all d s0 i).ρ t)->(∀r,r∈(d i).f.rs->H2.get r=(canon all d s0 i).H.get r) ->
  (∀c,c<(d i).al->H2.get (s0.H.A+aG d i+c)=some .nm)->s0.H.A+aG d i+(d i).al<=H2.A ->
  ExecOk P G all o (s0.H.A+aG d i) ⟨ρ2,H2⟩ ⟨aQ ρ2 o.dst (d i).v,⟨dh (d i).e H2.get,H2.A⟩⟩
 nt:∀r,dJ (d i) r->r∈(d i).f.nt/\(r∈(d i).f.rs\/(s0.H.A+aG d i<=r/\r<s0.H.A+aG d i+(d i).al))
 al:∀c,c<(d i).al->dJ (d i) (s0.H.A+aG d i+c)
 lt:∀r,r∈(d i).f.rs->r<s0.H.A+aG d i
 apart:∀j,j<i->(ea bs i).testBit j=false->(∀r,r∈(d i).f.nt->r ∉ (d j).f.rs)/\(∀r,r∈(d j).f.nt->r ∉ (d i).f.rs)
def b7 (d:Nat->Dt)(m:Nat)(x:Dt):Nat->Dt:=fun j=>if j=m then x else d j
def hZ {d:Nat->Dt}{m:Nat}{x:Dt}{i:Nat}(h:i<m):d i=b7 d m x i:=by simp[b7,VI h]
def cY {d:Nat->Dt}{m:Nat}{x:Dt}:b7 d m x m=x:=by simp[b7]
def mu {all:Array Oper}{d d':Nat->Dt}{s0:St}{m:Nat}(h:∀j,j<m->d j=d' j):canon all d s0 m=canon all d' s0 m:=by
 unfold canon mr;rw[rI h,rJ h,fI h]
def Xp.below {all:Array Oper}{bs:List Nat}{s0:St}{d d':Nat->Dt}{i:Nat}(g:Xp P G all bs s0 d i)(h:∀j,j<=i->d j=d' j):Xp P G all bs s0 d' i:=by
 have hi:=h i W8;have hn:aG d i=aG d' i:=fI fun j hj=>h j O;have hc:canon all d s0 i=canon all d' s0 i:=mu fun j hj=>h j O;obtain⟨a,b,c,e,f⟩:=g;refine⟨?_,?_,?_,?_,?_⟩
 ·rw[<- hi,<- hn,<- hc];exact a
 ·rw[<- hi,<- hn];exact b
 ·rw[<- hi,<- hn];exact c
 ·rw[<- hi,<- hn];exact e
 ·intro j hj hb;rw[<- hi,<- h j O];exact f j hj hb
def kB (d:Nat->Dt)(m:Nat)(acc:List (Nat × FP)):Prop:=∀j,j<m->(d j).f=⟨[],[]⟩\/(j,(d j).f)∈acc
def kB.add {d:Nat->Dt}{m:Nat}{acc:List (Nat × FP)}(h:kB d m acc)(x:Dt):kB (b7 d m x) (m+1) (iA m x.f acc):=by
 intro j hj;have key:∀p,p∈acc->p∈iA m x.f acc:=by
  intro p hp;unfold iA;split
  ·exact hp
  ·exact UN _ hp
 by_cases hjm:j=m
 ·subst hjm;rw[cY];by_cases hf:x.f=⟨[],[]⟩
  ·exact .inl hf
  ·refine .inr ?_;unfold iA;split
   ·rename_i h0;exact absurd h0 hf
   ·exact V6
 ·rw[<- hZ (x:=x) O];exact(h j O).imp id (key _)
def rK {d:Nat->Dt}{m:Nat}{acc:List (Nat × FP)}{b:Nat}{f:FP}(hc:kB d m acc)(h:je b f acc):∀j,j<m->b.testBit j=false->(∀r,r∈f.nt->r ∉ (d j).f.rs)/\(∀r,r∈(d j).f.nt->r ∉ f.rs):=by
 intro j hj hb;rcases hc j hj with h0|h1
 ·rw[h0];exact⟨fun r _ h=>(by cases h),fun r h=>(by cases h)⟩
 ·exact h _ h1 hb
def oS {all:Array Oper}{d:Nat->Dt}{s0:St}{m:Nat}{x:Dt}{o:Oper}(ho:all[m]?=some o):
  canon all (b7 d m x) s0 (m+1)=⟨aQ (canon all d s0 m).ρ o.dst x.v,⟨dh x.e (canon all d s0 m).H.get,(canon all d s0 m).H.A+x.al⟩⟩:=by
 have hb:∀j,j<m->d j=b7 d m x j:=fun j hj=>hZ hj;unfold canon mr;simp only[ba,aT,aG,if_true,cY];rw[<- rI hb,<- rJ hb,<- fI hb];simp only[gP,ho,Option.bind_some,UJ]
def oT {all:Array Oper}{bs:List Nat}{s0:St}{d:Nat->Dt}{m:Nat}{x:Dt}(hg:∀i,i<m->Xp P G all bs s0 d i)(hx:Xp P G all bs s0 (b7 d m x) m):
  ∀i,i<m+1->Xp P G all bs s0 (b7 d m x) i:=by
 intro i hi;by_cases him:i=m
 ·subst him;exact hx
 ·exact(hg i O).below fun j hj=>hZ (O)
def trace {all:Array Oper}{bs:List Nat}{s0:St}{tail:St->Prop}{K:Nat}(hbs:bs.length=K)(hK:K<=all.size):∀(k m:Nat) (d:Nat->Dt) (acc:List (Nat × FP)),k+m=K ->
  (∀i,i<m->Xp P G all bs s0 d i)->kB d m acc->gM (canon all d s0 m).H->dI P G all tail (bs.drop m) m acc ((all.toList.take K).drop m) (canon all d s0 m) ->
  ∃d',(∀i,i<K->Xp P G all bs s0 d' i)/\tail (canon all d' s0 K):=by
 intro k
 induction k with
 |zero =>
  intro m d acc hm hg hc wf h;obtain rfl:m=K:=O
  refine⟨d,hg,?_⟩;have:(all.toList.take m).drop m=[]:=by
   apply VU;simp only[Td];omega
  rw[this]at h;cases hb:bs.drop m with
  |nil=>rw[hb]at h;simpa only[dI] using h
  |cons b bs'=>rw[hb]at h;simpa only[dI] using h
 |succ k ih =>
  intro m d acc hm hg hc wf h;have hmK:m<K:=O
  have hms:m<all.size:=O
  have ho:all[m]?=some all[m]:=S6 hms;have hbm:bs.drop m=ea bs m :: bs.drop (m+1):=by
   rw[TI O];congr 1;simp[ea,SP (show m<bs.length by omega)]
  have hom:(all.toList.take K).drop m=all[m] :: (all.toList.take K).drop (m+1):=by
   rw[TI (by simp only[Td,UE];omega)];congr 1;simp
  rw[hbm,hom]at h;simp only[dI]at h;obtain⟨t,ht,h⟩:=h;have hnext:(canon all d s0 m).H.A=s0.H.A+aG d m:=rfl;cases t with
  |false =>
   simp only[Bool.false_eq_true,if_false]at h
   let x:Dt:=⟨.lit undef,fun _=>none,0,⟨[],[]⟩⟩
   have hb:∀j,j<m->d j=b7 d m x j:=fun j hj=>hZ hj;have hcan:canon all (b7 d m x) s0 (m+1)=⟨aQ (canon all d s0 m).ρ all[m].dst (.lit undef),(canon all d s0 m).H⟩:=oS ho;have hgx:Xp P G all bs s0 (b7 d m x) m:=by
    refine⟨?_,?_,?_,?_,?_⟩
    ·rw[cY,<- mu hb];intro o ho' ρ2 H2 h1 h2 h3 _;rw[ho]at ho';cases ho';refine .inl ⟨?_,rfl⟩;simp only;rw[qq h1,ht]
    ·rw[cY];intro k he;cases he
    ·rw[cY];intro c he;exact absurd he (Tb _)
    ·rw[cY];intro r hr;cases hr
    ·rw[cY];intro j hj hbit;exact⟨fun r hr=>(by cases hr),fun r hr hr'=>(by cases hr')⟩
   refine ih (m+1) (b7 d m x) acc O (oT hg hgx) (hc.add x) ?_ ?_
   ·rw[hcan];exact wf
   ·rw[hcan];exact h
  |true =>
   simp only[if_true]at h;unfold bF at h;split at h
   ·rename_i fv args ats hop;obtain⟨v,e,k,f,⟨hlt,heff,hnew,hcall⟩,hap,h⟩:=h
    let x:Dt:=⟨v,e,k,f⟩
    have hb:∀j,j<m->d j=b7 d m x j:=fun j hj=>hZ hj;have hcan:canon all (b7 d m x) s0 (m+1)=⟨aQ (canon all d s0 m).ρ all[m].dst v,⟨dh e (canon all d s0 m).H.get,(canon all d s0 m).H.A+k⟩⟩:=oS ho;have hgx:Xp P G all bs s0 (b7 d m x) m:=by
     refine⟨?_,?_,?_,?_,?_⟩
     ·rw[cY,<- mu hb,<- fI hb];intro o ho' ρ2 H2 h1 h2 h3 h4;rw[ho]at ho';cases ho';refine .inr ⟨?_,v,rfl,.inr ⟨fv,args,ats,hop,?_,?_⟩⟩
      ·simp only;rw[qq h1,ht]
      ·intro id st pend q env ps asg body hid;refine nH fun hs=>?_;rcases(heff id hs).2 with ⟨hrs,g,t,c,hg⟩|⟨g1,g2⟩
       ·have e9:=h2 id hrs;simp only at hid;rw[hid,hg]at e9;cases e9
       ·obtain⟨c,rfl⟩:∃c,id=(canon all d s0 m).H.A+c:=⟨id-(canon all d s0 m).H.A,O⟩
        have e9:H2.get ((canon all d s0 m).H.A+c)=some .nm:=h3 c (show c<k by omega);simp only at hid;rw[hid]at e9;cases e9
      ·have hev:=ud (G:=G) h1;have e1:aw G ρ2 fv=aw G (canon all d s0 m).ρ fv:=hev fv (by simp[hop,Op.operands,Call.operands]);have e2:args.toList.map (aw G ρ2)=args.toList.map (aw G (canon all d s0 m).ρ) :=
        Tf fun y hy=>hev y (by simp only[hop,Op.operands,Call.operands];simp;exact .inr (by simpa using hy))
       simp only;rw[e1,e2];exact hcall H2 h2 h3 h4
     ·rw[cY,<- fI hb];intro r hr;exact⟨(heff r hr).1,(heff r hr).2.imp (fun h=>h.1) id⟩
     ·rw[cY,<- fI hb];exact hnew
     ·rw[cY,<- fI hb];exact hlt
     ·rw[cY];intro j hj hbit;rw[<- hZ hj];exact rK hc hap j hj hbit
    refine ih (m+1) (b7 d m x) _ O (oT hg hgx) (hc.add x) ?_ ?_
    ·rw[hcan];intro id b hid;show id<(canon all d s0 m).H.A+k;simp only at hid;by_cases hs:(e id).isSome=true
     ·rcases(heff id hs).2 with ⟨hrs,_⟩|⟨_,g2⟩
      ·have:=hlt id hrs;omega
      ·exact g2
     ·rw[nH hs]at hid;have:=wf id b hid;omega
    ·rw[hcan];exact h
   ·obtain⟨⟨v,H'⟩,hop,hap,h⟩:=h;obtain⟨e,al,hget,hnx,heff,hal,hlt,hloc⟩:=AV wf hop
    let x:Dt:=⟨v,nG e,(if al=true then 1 else 0),cq P G (canon all d s0 m).ρ (canon all d s0 m).H.A all[m].op⟩
    have hb:∀j,j<m->d j=b7 d m x j:=fun j hj=>hZ hj;have hcan:canon all (b7 d m x) s0 (m+1)=⟨aQ (canon all d s0 m).ρ all[m].dst v,H'⟩:=by
     rw[oS ho];congr 1;cases H';simp only at hget hnx;simp only[Xn.mk.injEq];refine⟨(Ac _ _).trans hget.symm,?_⟩;rw[hnx];simp only[x];cases al<;>simp
    have hgx:Xp P G all bs s0 (b7 d m x) m:=by
     refine⟨?_,?_,?_,?_,?_⟩
     ·rw[cY,<- mu hb,<- fI hb];intro o ho' ρ2 H2 h1 h2 h3 h4;rw[ho]at ho';cases ho';refine .inr ⟨?_,v,rfl,.inl ?_⟩
      ·simp only;rw[qq h1,ht]
      ·simp only;rw[AW (ρ':=(canon all d s0 m).ρ) (ud h1),Ac];refine hloc H2 h2 fun ha=>?_;subst ha;have h5:=h3 0 (by simp[x]);simp only[x,if_true]at h4;refine⟨h5,?_⟩;rw[hnext];omega
     ·rw[cY,<- fI hb];intro r hr;unfold dJ at hr;simp only[x,nG]at hr;cases he:e with
      |none=>rw[he]at hr;cases hr
      |some kb =>
       obtain⟨k0,b0⟩:=kb;rw[he]at hr;simp only at hr;by_cases hrk:r=k0
       ·subst hrk;obtain⟨h1,h2⟩:=heff r b0 he;refine⟨h1,?_⟩;cases hal2:al with
        |false=>exact .inl (h2 hal2)
        |true =>
         obtain⟨b1,hb1⟩:=hal hal2;rw[he]at hb1;simp only[Option.some.injEq,Prod.mk.injEq]at hb1;refine .inr ?_;simp only[x,hal2,if_true];rw[hnext]at hb1;omega
       ·rw[SQ hrk]at hr;cases hr
     ·rw[cY,<- fI hb];intro c hc2;cases hal2:al with
      |false=>simp[x,hal2]at hc2
      |true =>
       simp only[x,hal2,if_true]at hc2;obtain⟨b1,hb1⟩:=hal hal2;obtain rfl:c=0:=O;unfold dJ;simp only[x,nG,hb1,Nat.add_zero];rw[hnext];simp
     ·rw[cY,<- fI hb];exact hlt
     ·rw[cY];intro j hj hbit;rw[<- hZ hj];exact rK hc hap j hj hbit
    have wf':gM H':=by
     intro id b hid;rw[hget]at hid;rw[hnx];cases e with
     |none =>
      have:=wf id b hid;split<;>omega
     |some kb =>
      obtain⟨k0,b0⟩:=kb;simp only[eT]at hid;split at hid
      ·rename_i hk;subst hk;cases al with
       |true =>
        obtain⟨b1,hb1⟩:=hal rfl;simp only[Option.some.injEq,Prod.mk.injEq]at hb1;simp only[if_true];omega
       |false =>
        have:=hlt _ ((heff id b0 rfl).2 rfl);simpa using this
      ·have:=wf id b hid;split<;>omega
    refine ih (m+1) (b7 d m x) _ O (oT hg hgx) (hc.add x) ?_ ?_
    ·rw[hcan];exact wf'
    ·rw[hcan];exact h
end Go.Hx.Ev
namespace Go.Hx.Ev
open Go.Hx
variable {P:Program} {G:Nat->Option (List W9)} {Γ Γ':aC} {H H':Xn} {w w':World}
variable {D:Nat->Bool}{d:Nat->Dt}{s0:St}
def eO (all:Array Oper)(d:Nat->Dt)(s0:St)(K:Nat)(D:Nat->Bool):St :=
 ⟨ba all d s0.ρ K D,⟨aT d (bR s0.H (aG d K)).get K D,s0.H.A+aG d K⟩⟩
def xc {all:Array Oper}{bs:List Nat}{K:Nat}(S:XJ all bs K)(hg:∀i,i<K->Xp P G all bs s0 d i){i:Nat}{o:Oper}(hi:i<K)(ho:all[i]?=some o)(hDi:D i=false)
  (hdown:∀j,j<i->(ea bs i).testBit j=true->D j=true) (hup:∀j,i<j->j<K->D j=true->(ea bs j).testBit i=false):
  ExecOk P G all o (s0.H.A+aG d i) (eO all d s0 K D) (eO all d s0 K (bW D i)):=by
 have hget:∀j,j<K->∃oj,all[j]?=some oj:=fun j hj=>⟨_,S6 (SZ hj S.le)⟩
 have hgi:=hg i hi;have tgtE:∀j r,j<K->dJ (d j) r->r∈(d j).f.nt/\(r∈(d j).f.rs\/(s0.H.A+aG d j<=r/\r<s0.H.A+aG d j+(d j).al)):=fun j r hj ht=>(hg j hj).nt r ht;have rangeK:∀r,r<s0.H.A+aG d i->((bR s0.H (aG d K)).get r=s0.H.get r\/∃j,j<i/\(fun _:Nat=>true) j=true/\dJ (d j) r):=by
  intro r hr;by_cases h:s0.H.A<=r
  ·obtain⟨j,h1,h2,h3⟩:=rH (d:=d) (n:=i) (c:=r-s0.H.A) O;have:=(hg j O).al (r-s0.H.A-aG d j) O;rw[show s0.H.A+aG d j+(r-s0.H.A-aG d j)=r by omega]at this;exact .inr ⟨j,h1,rfl,this⟩
  ·left;simp only[bR];rw[SQ O]
 have henv:∀t,t∈o.looksAt all->ba all d s0.ρ K D t=(canon all d s0 i).ρ t:=by
  intro t ht;show _=ba all d s0.ρ i (fun _=>true) t;rw[<- wV (all:=all) (d:=d) (ρ0:=s0.ρ) (m:=i) (n:=K) O];refine oN fun j hj hdj=>?_;obtain⟨oj,hoj⟩:=hget j hj;rw[nM hoj]at hdj;rcases Up j i with h|rfl|h
  ·cases hb:(ea bs i).testBit j with
   |true=>rw[hdown j h hb];simp[h]
   |false=>exact absurd ht ((qt (S.apart i j o oj hi h ho hoj hb)).1 t hdj)
  ·rw[hDi];simp
  ·cases hD:D j with
   |false=>symm;simp;omega
   |true=>exact absurd ht ((qt (S.apart j i oj o hj h hoj ho (hup j h hj hD))).2.1 t hdj)
 have hheap:∀r,r∈(d i).f.rs->aT d (bR s0.H (aG d K)).get K D r=(canon all d s0 i).H.get r:=by
  intro r hr;show _=aT d s0.H.get i (fun _=>true) r;rw[<- rG (g0:=(bR s0.H (aG d K)).get) (rangeK r (hgi.lt r hr)),<- wW (m:=i) (n:=K) O];refine oO fun j hj ht=>?_;obtain⟨he,_⟩:=tgtE j r hj ht;rcases Up j i with h|rfl|h
  ·cases hb:(ea bs i).testBit j with
   |true=>rw[hdown j h hb];simp[h]
   |false=>exact absurd hr ((hgi.apart j h hb).2 r he)
  ·rw[hDi];simp
  ·cases hD:D j with
   |false=>symm;simp;omega
   |true=>exact absurd hr (((hg j hj).apart i h (hup j h hj hD)).1 r he)
 have hal:∀c,c<(d i).al->aT d (bR s0.H (aG d K)).get K D (s0.H.A+aG d i+c)=some .nm:=by
  intro c hc;have hlt:=lI (d:=d) hi;have heff:=(hgi.nt _ (hgi.al c hc)).1;rw[wX]
  ·simp only[bR];rw[SU O]
  ·intro j hj hD ht;obtain⟨h1,h2⟩:=tgtE j _ hj ht;rcases Up j i with h|rfl|h
   ·rcases h2 with h3|⟨h2,h3⟩
    ·have:=(hg j hj).lt _ h3;have:=qd (d:=d) (Vy h);omega
    ·have:=lI (d:=d) h;omega
   ·rw[hDi]at hD;cases hD
   ·rcases h2 with h3|⟨h2,h3⟩
    ·exact absurd h3 (((hg j hj).apart i h (hup j h hj hD)).2 _ heff)
    ·have:=lI (d:=d) h;omega
 have:=hgi.step o ho (ba all d s0.ρ K D) ⟨aT d (bR s0.H (aG d K)).get K D,s0.H.A+aG d K⟩ henv hheap hal (by have:=lI (d:=d) hi;simp only;omega);have e1:ba all d s0.ρ K (bW D i)=aQ (ba all d s0.ρ K D) o.dst (d i).v:=by
  rw[wY hDi hi,nM ho];intro j h hj hD t hti;obtain⟨oj,hoj⟩:=hget j hj;rw[nM ho]at hti;rw[nM hoj];exact(qt (S.apart j i oj o hj h hoj ho (hup j h hj hD))).2.2 t hti
 have e2:aT d (bR s0.H (aG d K)).get K (bW D i)=dh (d i).e (aT d (bR s0.H (aG d K)).get K D):=by
  refine wZ hDi hi fun j h hj hD r hti htj=>?_;obtain⟨a1,a2⟩:=tgtE i r hi hti;obtain⟨b1,b2⟩:=tgtE j r hj htj;obtain⟨c1,c2⟩:=(hg j hj).apart i h (hup j h hj hD);rcases b2 with b3|⟨b2,b3⟩
  ·exact c2 r a1 b3
  ·rcases a2 with a3|⟨a2,a3⟩
   ·exact c1 r b1 a3
   ·have:=lI (d:=d) h;omega
 unfold eO;rw[e1,e2];exact this
def rL {all:Array Oper}{bs:List Nat}{K:Nat}(hg:∀i,i<K->Xp P G all bs s0 d i)(hD:∀j,j<K->D j=true):eO all d s0 K D=canon all d s0 K:=by
 unfold eO canon mr;have e1:ba all d s0.ρ K D=ba all d s0.ρ K fun _=>true:=funext fun t=>oN fun j hj _=>hD j hj;have e2:aT d (bR s0.H (aG d K)).get K D=aT d s0.H.get K fun _=>true:=by
  funext r
  rw[oO (D':=fun _=>true) fun j hj _=>hD j hj];refine rG ?_;by_cases h:s0.H.A<=r/\r<s0.H.A+aG d K
  ·obtain⟨j,h1,h2,h3⟩:=rH (d:=d) (n:=K) (c:=r-s0.H.A) O;have:=(hg j h1).al (r-s0.H.A-aG d j) O;rw[show s0.H.A+aG d j+(r-s0.H.A-aG d j)=r by omega]at this;exact .inr ⟨j,h1,rfl,this⟩
  ·left;simp only[bR];rw[SQ h]
 rw[e1,e2]
def xd {all:Array Oper}{K:Nat}(hD:∀j,j<K->D j=false):eO all d s0 K D=⟨s0.ρ,bR s0.H (aG d K)⟩:=by
 unfold eO;have e1:∀n,n<=K->ba all d s0.ρ n D=s0.ρ:=by
  intro n
  induction n with
  |zero=>intro _;rfl
  |succ n ih=>intro h;simp only[ba];rw[SQ (by simp[hD n h])];exact ih (O)
 have e2:∀n,n<=K->aT d (bR s0.H (aG d K)).get n D=(bR s0.H (aG d K)).get:=by
  intro n
  induction n with
  |zero=>intro _;rfl
  |succ n ih=>intro h;simp only[aT];rw[SQ (by simp[hD n h])];exact ih (O)
 rw[e1 K W8,e2 K W8];rfl
variable {n:Nat} {wb:XE} {rd rb:Option Nat} {Q:AX->St->Prop} {all:Array Oper} {bs:List Nat} {K:Nat} {id:Nat} {dr:Bool}
def xe (S:XJ all bs K)(hfit:∀o,o∈all.toList->fV n o=true)(hg:∀i,i<K->Xp P G all bs s0 d i)(htail:opsV P G rd Q all (all.toList.drop K) (canon all d s0 K)):
  ∀(r:Nat) (listed:Array Bool) (D:Nat->Bool) (Γ:aC) (a:Act) (w:World),listed.size=all.size->fF listed all.size=r->(∀j,j<all.size->listed.getD j true=D j)->(∀j,D j=true->j<K)->um all D ->
  Xt P G n wb Γ (eO all d s0 K D) a w->dZ Γ (eO all d s0 K D).H rd rb ->
  ∀(Q':Exit->Act->World->Prop),(∀e a' w',iy P G n wb rd rb (wr (.region id all dr)) Γ (eO all d s0 K D).H a w Q e a' w'->Q' e a' w')->wpAnyIn (eP rb) 0 P .any all Q' r listed a w:=by
 intro r
 induction r with
 |zero =>
  intro listed D Γ a w hsz hc hl hlow hL hs hr Q' hq;have hall:∀j,j<K->D j=true:=fun j hj=>by rw[<- hl j (SZ hj S.le)];exact uq hc j (SZ hj S.le)
  have hKs:K=all.size:=by
   rcases Tg K all.size with h|h
   ·have h1:=uq hc K h;rw[hl K h]at h1;have:=hlow K h1;omega
   ·have:=S.le;omega
  rw[rL hg hall]at hs hr hq;exact uu S hfit 0 K listed _ Γ a w O W8 hsz hc (fun j hj=>by rw[hl j hj];exact⟨hlow j,hall j⟩) htail hs hr Q' hq
 |succ r ih =>
  intro listed D Γ a w hsz hc hl hlow hL hs hr Q' hq;by_cases hall:∀j,j<K->D j=true
  ·rw[rL hg hall]at hs hr hq;have hcount:∀m,m<=all.size->fF listed m=m-K:=by
    intro m
    induction m with
    |zero=>intro _;simp[fF]
    |succ m ihm =>
     intro hm;simp only[fF];rw[ihm O,hl m O];by_cases hmK:m<K
     ·rw[hall m hmK];simp;omega
     ·have:D m=false:=by
       cases hD:D m with
       |false=>rfl
       |true=>exact absurd (hlow m hD) hmK
      rw[this];simp;omega
   have h1:=hcount all.size W8;exact uu S hfit (r+1) K listed _ Γ a w (by have:=S.le;omega) W8 hsz hc (fun j hj=>by rw[hl j hj];exact⟨hlow j,hall j⟩) htail hs hr Q' hq
  ·have hex:∃j,j<K/\D j=false:=by
    by_cases h:∃j,j<K/\D j=false
    ·exact h
    ·refine absurd (fun j hj=>?_) hall;cases hD:D j with
     |true=>rfl
     |false=>exact absurd ⟨j,hj,hD⟩ h
   have least:∀k,(∃j,j<k/\j<K/\D j=false)->∃j,j<K/\D j=false/\∀i,i<j->D i=true:=by
    intro k
    induction k with
    |zero=>rintro⟨j,hj,_⟩;omega
    |succ k ihk =>
     rintro⟨j,h1,h2,h3⟩;by_cases h:∃j,j<k/\j<K/\D j=false
     ·exact ihk h
     ·refine⟨j,h2,h3,fun i hi=>?_⟩;cases hD:D i with
      |true=>rfl
      |false=>exact absurd ⟨i,O,O,hD⟩ h
   obtain⟨j0,hj0K,hj0,hbelow⟩:=least K (let ⟨j,h1,h2⟩:=hex;⟨j,h1,h1,h2⟩);have hj0s:j0<all.size:=SZ hj0K S.le;have hr0:j0∈Region.ready .any all listed:=by
    refine mem_ready.2 ⟨by rw[hl j0 hj0s];exact hj0,_,S6 hj0s,fun e he hb=>?_⟩;have hlt:=S.down j0 _ (S6 hj0s) e he hb;rw[oW O false true,hl e.on O];exact hbelow _ hlt
   refine⟨fun h0=>(by rw[h0]at hr0;cases hr0),fun i hi=>?_⟩;obtain⟨hiun,oi,hoi,hdir⟩:=mem_ready.1 hi;have his:=(TO.1 hoi).1;have hdirD:∀e,e∈oi.after->Region.binds .any e=true->D e.on=true:=fun e he hb=>by
    have:=S.down i oi hoi e he hb;rw[<- hl e.on O,<- oW O false true];exact hdir e he hb
   have hahead:=S.ahead hL i oi;have hiK:i<K:=by
    rcases Tg i K with h|h
    ·exact h
    ·have:=hahead j0 hoi hdirD (by rw[SQ O];omega);rw[hj0]at this;cases this
   have hDi:D i=false:=(by rw[<- hl i his];exact hiun);have hex:=xc (P:=P) (G:=G) S hg hiK hoi hDi (fun j hj hb=>hahead j hoi hdirD (by rw[SU hiK];exact hb)) (fun j h1 h2 hD=>by
    cases hb:(ea bs j).testBit i with
    |false=>rfl
    |true =>
     have hjs:j<all.size:=SZ h2 S.le;have:=S.ahead hL j _ i (S6 hjs) (fun e he hbe=>hL j _ hD (S6 hjs) e he hbe) (by rw[SU h2];exact hb);rw[hDi]at this;cases this)
   have hoi':oi=all[i]:=by
    rw[S6 his]at hoi;exact(Option.some.inj hoi).symm
   refine xa hoi (hfit oi (by rw[hoi'];simp)) hs hr hex ?_;rintro Γ' a' w' hs' E hn hr' ⟨cv,rfl⟩;have hc':fF (listed.setIfInBounds i true) all.size=r:=by
    have:=xJ hiun all.size;rw[SU his]at this;omega
   refine ih (listed.setIfInBounds i true) (bW D i) Γ' _ w' (by simpa using hsz) hc' ?_ ?_ ?_ hs' hr' Q' fun e a'' w'' hp=>hq _ _ _ (hp.step E hn (by rw[hoi'];exact qi his cv) fun _ h=>h)
   ·intro j hj;by_cases hji:j=i
    ·subst hji;simp[bW]
    ·rw[getD_set_ne true (Ne.symm hji),hl j hj];simp[bW,hji]
   ·intro j hj;by_cases hji:j=i
    ·subst hji;exact hiK
    ·simp only[bW,SQ hji]at hj;exact hlow j hj
   ·intro k ok hk hok e he hb;by_cases hki:k=i
    ·subst hki;rw[hoi]at hok;cases hok;have:=hdirD e he hb;simp only[bW];split
     ·rfl
     ·exact this
    ·simp only[bW,SQ hki]at hk;have:=hL k ok hk hok e he hb;simp only[bW];split
     ·rfl
     ·exact this
def W.Fi {s:St}(K:Nat)(bs:List Nat)(hm:P.follows .mixedOrders=true)(hfit:all.toList.all (fV n)=true)(hst:rT all bs K=true)
  (h:dI P G all (opsV P G rd Q all (all.toList.drop K)) bs 0 [] (all.toList.take K) s):W P G n rd (.region id all true) Q s:=by
 intro wb Γ a w rb hs hr;have S:=A5 hst;have hfit':∀o,o∈all.toList->fV n o=true:=fun o ho=>Tn.1 hfit o ho;have wf:gM s.H:=fun id b hb=>hs.heap.A id b hb;have hcan0:canon all (fun _=>⟨.lit undef,fun _=>none,0,⟨[],[]⟩⟩) s 0=s:=rfl;obtain⟨d,hg,htail⟩:=trace (P:=P) (G:=G) (all:=all) (bs:=bs) (s0:=s) (tail:=opsV P G rd Q all (all.toList.drop K)) S.len S.le K 0 (fun _=>⟨.lit undef,fun _=>none,0,⟨[],[]⟩⟩) [] (O)
  (fun i hi=>O) (fun j hj=>O) (by rw[hcan0];exact wf) (by rw[hcan0];exact h)
 refine wpIn_region_any hm ?_
 let w1:World:={ w with drawn:=w.drawn+1 }
 have R1:Xh P G Γ s.H w1:=hs.heap.move rfl (qu w) W8 (fun id b hb=>.inl hb) fun id b hb=>hb;have hs1:Xt P G n wb Γ s a w1:=hs.move (qu w) W8 R1;have hs2:Xt P G n wb Γ ⟨s.ρ,bR s.H (aG d K)⟩ a w1:=hs1.move (rV _ _) (by simp[bR]) (A7 R1 _);have hr2:dZ Γ (bR s.H (aG d K)) rd rb:=hr.move fun id b hb=>by
  simp only[bR];rw[SQ]
  ·exact hb
  ·have:=hs.heap.A id b hb;omega
 have e0:eO all d s K (fun _=>false)=⟨s.ρ,bR s.H (aG d K)⟩:=xd fun _ _=>rfl;refine xe (wb:=wb) (id:=id) (dr:=true) S hfit' hg htail all.size _ (fun _=>false) Γ a w1 W5 (ur _ W8) ?_ ?_ ?_ ?_ ?_ _ ?_
 ·intro j hj;rw[TK,Vp,SU hj];rfl
 ·intro j hj;cases hj
 ·intro i o hi;cases hi
 ·rw[e0];exact hs2
 ·rw[e0];exact hr2
 ·rw[e0];intro e a' w' hp;refine hp.step ?_ (by simp[bR]) (.refl _ _) fun _ h=>h;exact Xk.trans (qu w) W8 (rV _ _)
end Go.Hx.Ev
namespace Go.Hx.Ev
open Go.Hx
variable {P:Program} {G:Nat->Option (List W9)} {Γ Γ':aC} {H H':Xn} {w w':World}
variable {K:Nat->Prop}{v:W9}
inductive XI (K:Nat->Prop):W9->Prop
 |lit (v:Value):XI K (.lit v)
 |nil:XI K (.M 0 [])
 |agg {c:List W9} (h:∀i (h:i<c.length),XI K c[i]):XI K (.agg c)
 |na {c:List W9} (h:∀i (h:i<c.length),XI K c[i]):XI K (.na c)
 |Z {f:FuncId} {a b:List W9} (h1:∀i (h:i<a.length),XI K a[i]) (h2:∀i (h:i<b.length),XI K b[i]):XI K (.Z f a b)
 |Q {id g o l z:Nat} (h:K id):XI K (.Q id g o l z)
 |R {id g o:Nat} (h:K id):XI K (.R id g o)
def XI.mono {K':Nat->Prop}(h:XI K v)(hk:∀id,K id->K' id):XI K' v:=by
 induction h with
 |lit v=>exact .lit v
 |nil=>exact .nil
 |agg _ ih=>exact .agg ih
 |na _ ih=>exact .na ih
 |Z _ _ ih1 ih2=>exact .Z ih1 ih2
 |Q h=>exact .Q (hk _ h)
 |R h=>exact .R (hk _ h)
def XI.fz {S:Nat->Prop}{nx:Nat}(h:XI (fun id=>¬S id/\id<nx) v):Fz S H nx v v:=by
 induction h with
 |lit v=>exact .lit v
 |nil=>exact .M rfl fun i h=>absurd h (Tb _)
 |agg _ ih=>exact .agg rfl fun i h _=>ih i h
 |na _ ih=>exact .na rfl fun i h _=>ih i h
 |Z _ _ ih1 ih2=>exact .Z rfl rfl (fun i h _=>ih1 i h) fun i h _=>ih2 i h
 |Q h=>exact .Q h.2 h.1
 |R h=>exact .R h.2 h.1
def XI.sound {Γ₁ Γ₂:aC}{H₁ H₂:Xn}(hK:∀id,K id->H₂.get id=H₁.get id/\Γ₂ id=Γ₁ id)(hn:H₁.A<=H₂.A)(h:XI K v):
  ∀ {cv:Value},Xc P Γ₁ H₁ w v cv->Xc P Γ₂ H₂ w v cv:=by
 induction h with
 |lit v=>intro cv h;cases h;exact .lit _
 |nil =>
  intro cv h;cases h with
  |nq a cap=>exact .nq a cap
  |M hb hlt hlen hcs hcell hrel=>exact .nq _ _
 |agg _ ih=>intro cv h;cases h with|agg hcs hrel=>exact .agg hcs fun i h1 h2=>ih i h1 (hrel i h1 h2)
 |na _ ih=>intro cv h;cases h with|na hcs hrel=>exact .na hcs fun i h1 h2=>ih i h1 (hrel i h1 h2)
 |Z _ _ ih1 ih2=>intro cv h;cases h with|Z hfs hcs hf hc=>exact .Z hfs hcs (fun i h1 h2=>ih1 i h1 (hf i h1 h2)) fun i h1 h2=>ih2 i h1 (hc i h1 h2)
 |Q h =>
  intro cv hv;cases hv with
  |Q hv =>
   obtain⟨a,b,c,d⟩:=hv;obtain⟨e1,e2⟩:=hK _ h;refine .Q ⟨O,b,by rw[e1];exact c,fun g e cells hg=>?_⟩;rw[e1]at hg;rw[e2];exact d g e cells hg
 |R h =>
  intro cv hv;cases hv with
  |R hv =>
   obtain⟨a,b,c,d⟩:=hv;obtain⟨e1,e2⟩:=hK _ h;refine .R ⟨O,b,by rw[e1];exact c,fun g e cells hg=>?_⟩;rw[e1]at hg;rw[e2];exact d g e cells hg
def jr (lo hi:Nat)(lv:Nat->Bool)(g:Nat->Option Xe):Nat->Option Xe:=fun id=>if lo<=id/\id<hi then (if lv id=true then g id else some (.J 0 0 [])) else none
def qe (lo hi:Nat):List Nat:=(List.range (hi-lo)).map (·+lo)
def Fj {lo hi r:Nat}(h1:lo<=r)(h2:r<hi):r∈qe lo hi:=by
 unfold qe;rw[S4];exact⟨r-lo,by rw[S7];omega,O⟩
open Classical in
def qc.mk {f:FuncId}{first cap args args':List W9}(Hs Hs':Xn)(kp:Nat->Prop)(lv:Nat->Bool)(rs:List Nat)(hG:fK G)
  (hrs:∀r,r∈rs->r<H.A) (hnx:Hs.A=H.A) (hle:Hs.A<=Hs'.A)
  (hkp:∀id,kp id->id∈rs/\Hs.get id=H.get id/\Hs'.get id=H.get id/\∃g e c,H.get id=some (.J g e c)/\∀i (h:i<c.length),XI kp c[i])
  (hgone:∀id,¬kp id->Hs.get id=none)
  (hl:args'.length=(first++args++cap).length)
  (hargs:∀H2:Xn,(∀r,r∈rs->H2.get r=H.get r)->∀i (h:i<(first++args++cap).length) (h':i<args'.length),Fz (fun id=>¬kp id) H2 H.A (first++args++cap)[i] args'[i])
  (hcall:ae P G f args' Hs fun r H'=>r=.ret v/\H'=Hs')
  (hv:XI (fun id=>kp id\/(H.A<=id/\id<Hs'.A/\lv id=true)) v)
  (hnew:∀id,H.A<=id->id<Hs'.A->lv id=true->∃g e c,Hs'.get id=some (.J g e c)/\∀i (h:i<c.length),XI (fun id=>kp id\/(H.A<=id/\id<Hs'.A/\lv id=true)) c[i]):
  qc P G (.Z f first cap) args H v (jr H.A Hs'.A lv Hs'.get) (Hs'.A-H.A) ⟨qe H.A Hs'.A,rs⟩:=by
 have hsome:∀id,H.A<=id->id<Hs'.A->(jr H.A Hs'.A lv Hs'.get id).isSome=true:=by
  intro id h1 h2;unfold jr;rw[SU ⟨h1,h2⟩];split
  ·rename_i h3;obtain⟨g,e,c,h4,_⟩:=hnew id h1 h2 h3;rw[h4];rfl
  ·rfl
 have hout:∀id,(jr H.A Hs'.A lv Hs'.get id).isSome=true->H.A<=id/\id<Hs'.A:=by
  intro id h;unfold jr at h;split at h
  ·assumption
  ·cases h
 refine⟨hrs,fun r hr=>?_,fun c hc=>hsome _ O O,?_⟩
 ·obtain⟨h1,h2⟩:=hout r hr;exact⟨Fj h1 h2,.inr ⟨h1,O⟩⟩
 intro H2 hag hres hn2;refine az.Z ⟨hcall.1,fun Γ w cargs R hr=>?_⟩
 let S:Nat->Prop:=fun id=>¬kp id
 have kpO:∀id,¬S id->kp id:=fun id h=>TS h;have hkH2:∀id,kp id->H2.get id=H.get id:=fun id h=>hag id (hkp id h).1;have hlow:∀id,kp id->id<H.A:=fun id h=>hrs id (hkp id h).1;have F:XM S H2 Hs:=by
  refine⟨fun id hs=>hgone id hs,fun id b hs hb=>?_,fun id hs hb=>?_⟩
  ·have hk:=kpO id hs;obtain⟨h1,h2,h3,g,e,c,h4,h5⟩:=hkp id hk;rw[hkH2 id hk,h4]at hb;cases hb;refine⟨by rw[hnx];exact hlow id hk,.J g e c,by rw[h2,h4],rfl,rfl,rfl,fun i hi _=>?_⟩;exact((h5 i hi).mono fun id hk=>⟨fun hs=>hs hk,by rw[hnx];exact hlow id hk⟩).fz
  ·have hk:=kpO id hs;obtain⟨h1,h2,h3,g,e,c,h4,h5⟩:=hkp id hk;rw[hkH2 id hk,h4]at hb;cases hb
 have R0:Xh P G (fW S Γ) Hs w:=F.rel hG R;have hr0:dK P (fW S Γ) Hs w args' cargs:=⟨by have:=hr.1;omega,fun i h1 h2=>(by
  have:=hargs H2 hag i O h1;rw[<- hnx]at this;exact this.sound R F (hr.2 i O h2))⟩
 refine(hcall.2 _ w cargs R0 hr0).mono ?_;rintro e w' ⟨r,H',Γ',hend,⟨rfl,rfl⟩,R',E,hn⟩
 let nw:Nat->Prop:=fun id=>H.A<=id/\id<H'.A
 let lw:Nat->Prop:=fun id=>H.A<=id/\id<H'.A/\lv id=true
 let Γ3:aC:=fun id=>if lw id then Γ' id else Γ id
 let H3:Xn:=⟨dh (jr H.A H'.A lv H'.get) H2.get,H2.A⟩
 have hnle:H'.A<=H2.A:=O
 have g3l:∀id,lw id->Γ3 id=Γ' id:=fun id h=>SU h;have g3o:∀id,¬lw id->Γ3 id=Γ id:=fun id h=>SQ h;have kold:∀id,kp id->¬nw id:=fun id h hn=>by have:=hlow id h;have:=hn.1;omega
 have koldl:∀id,kp id->¬lw id:=fun id h hn=>kold id h ⟨hn.1,hn.2.1⟩;have gk:∀id,kp id->Γ' id=Γ id:=by
  intro id hk;obtain⟨h1,h2,h3,g,e,c,h4,h5⟩:=hkp id hk;have hlo:=hlow id hk;obtain⟨x,hx,hle'⟩:=E.X id O O (.J g e c) (by rw[h3,h4]);rw[h2,h4]at hx;cases hx;rw[(hle'.2 rfl).1];exact js fun hs=>hs hk
 have h3new:∀id,nw id->H3.get id=jr H.A H'.A lv H'.get id:=by
  intro id h;show dh _ _ id=_;unfold dh;have:=hsome id h.1 h.2;split
  ·rename_i b hb;rw[hb]
  ·rename_i hb;rw[hb]at this;cases this
 have h3live:∀id,lw id->H3.get id=H'.get id:=by
  intro id h;rw[h3new id ⟨h.1,h.2.1⟩];unfold jr;rw[SU ⟨h.1,h.2.1⟩,SU h.2.2]
 have h3dead:∀id,nw id->¬lw id->H3.get id=some (.J 0 0 []):=by
  intro id h hl;rw[h3new id h];unfold jr;rw[SU h,SQ fun h2=>hl ⟨h.1,h.2,h2⟩]
 have h3old:∀id,¬nw id->H3.get id=H2.get id:=by
  intro id h;show dh _ _ id=_;exact nH fun h'=>h (hout id h')
 have hrsv:∀id,nw id->H2.get id=some .nm:=by
  intro id h;have:=hres (id-H.A) (by have:=h.1;have:=h.2;omega)
  rwa [show H.A+(id-H.A)=id by have:=h.1;omega]at this
 have hΓnew:∀id,nw id->Γ id=none:=fun id h=>R.nm id (hrsv id h);have hfar:∀id b base n,lw id->Γ' id=some (b,base,n)->w.heap.size<=b:=by
  intro id b base n hid hb;refine VR fun hlt=>?_;have hown:(fW S Γ).gZ b:=TS fun hno=>(E.nb b hlt hno).2 ⟨id,base,n,hb⟩;obtain⟨id0,base0,n0,h0⟩:=hown;obtain⟨hs0,h0⟩:=kI h0;have hk0:=kpO id0 hs0;rw[<- gk id0 hk0]at h0;have:=R'.inj _ _ _ _ _ _ _ h0 hb;subst this;exact koldl _ hk0 hid
 have EE:Xk Γ H2 w Γ3 H3 w':=by
  refine⟨E.os,E.tape,E.output,E.size,fun b hb ho=>⟨(E.nb b hb fun h=>ho (uw h)).1,?_⟩,fun id h1 h2 x' hx'=>?_,E.ny,E.kind,fun id b x y hb hlt=>?_⟩
  ·rintro⟨id,base,n,h⟩;by_cases hl:lw id
   ·rw[g3l id hl]at h;have:=hfar id b base n hl h;omega
   ·rw[g3o id hl]at h;exact ho ⟨id,base,n,h⟩
  ·by_cases hnw:nw id
   ·exact⟨.nm,hrsv id hnw,trivial⟩
   ·rw[h3old id hnw]at hx';refine⟨x',hx',?_⟩;have hg:Γ3 id=Γ id:=g3o id fun h=>hnw ⟨h.1,h.2.1⟩;cases x' with
    |J g e c=>exact⟨W8,fun _=>⟨hg,rfl,rfl⟩⟩
    |loop=>exact⟨hg,rfl,rfl,rfl,rfl,rfl⟩
    |nm=>trivial
    |mp=>exact hg
  ·by_cases hl:lw id
   ·rw[g3l id hl]at hb;have:=hfar id b x y hl hb;omega
   ·rw[g3o id hl]at hb;exact⟨x,y,hb⟩
 have hn3:H2.A<=H3.A:=Nat.le_refl _;have hK:∀id,(kp id\/lw id)->H3.get id=H'.get id/\Γ3 id=Γ' id:=by
  rintro id (h|h)
  ·refine⟨?_,?_⟩
   ·rw[h3old id (kold id h),hkH2 id h,(hkp id h).2.2.1]
   ·rw[g3o id (koldl id h),gk id h]
  ·exact⟨h3live id h,g3l id h⟩
 have hle3:H'.A<=H3.A:=hnle;have hidden:∀id b base n,¬kp id->Γ id=some (b,base,n)->w'.heap[b]?=w.heap[b]?:=by
  intro id b base n hk h;refine(E.nb b (R.lt _ _ _ _ h) ?_).1;rintro⟨id0,base0,n0,h0⟩;obtain⟨hs0,h0⟩:=kI h0;have:=R.inj _ _ _ _ _ _ _ h h0;subst this;exact hs0 hk
 have R3:Xh P G Γ3 H3 w':=by
  refine⟨?_,?_,?_,?_,?_,?_,?_,?_,?_,?_⟩
  ·intro id g e cells hg;have main : (kp id∨lw id)→(∀ i (h : i<cells.length),XI (fun id=>kp id∨lw id) cells[i])→H'.get id=some (.J g e cells)→_:=fun hid hc hg'=>R'.J id g e cells hg';have fin : (kp id∨lw id)→(∀ i (h : i<cells.length),XI (fun id=>kp id∨lw id) cells[i])→H'.get id=some (.J g e cells)→(match Γ3 id with
     |some (b,base,n)=>∃c,w'.heap[b]?=some (.cells c e (0,0))/\c.size=n/\base+cells.length<=n /\
      ∀i (h:i<cells.length),∃cv,c[base+i]?=some cv/\Xc P Γ3 H3 w' cells[i] cv
     |none=>cells=[]):=by
    intro hid hc hg';have h1:=R'.J id g e cells hg';rw[(hK id hid).2];cases hΓ:Γ' id with
    |none=>rw[hΓ]at h1;exact h1
    |some y =>
     obtain⟨b,base,n⟩:=y;rw[hΓ]at h1;obtain⟨c,a1,a2,a3,a4⟩:=h1;refine⟨c,a1,a2,a3,fun i hi=>?_⟩;obtain⟨cv,b1,b2⟩:=a4 i hi;exact⟨cv,b1,(hc i hi).sound hK hle3 b2⟩
   by_cases hl:lw id
   ·have hg':=hg;rw[h3live id hl]at hg';obtain⟨g0,e0,c0,h4,h5⟩:=hnew id hl.1 hl.2.1 hl.2.2;rw[h4]at hg';cases hg';exact fin (.inr hl) h5 h4
   ·by_cases hnw:nw id
    ·rw[h3dead id hnw hl]at hg;cases hg;rw[g3o id hl,hΓnew id hnw]
    ·rw[h3old id hnw]at hg;by_cases hk:kp id
     ·obtain⟨h1,h2,h3,g0,e0,c0,h4,h5⟩:=hkp id hk;rw[hkH2 id hk,h4]at hg;cases hg;exact fin (.inl hk) (fun i hi=>(h5 i hi).mono fun _ h=>.inl h) (by rw[h3,h4])
     ·have h1:=R.J id g e cells hg;rw[g3o id hl];cases hΓ:Γ id with
      |none=>rw[hΓ]at h1;exact h1
      |some y =>
       obtain⟨b,base,n⟩:=y;rw[hΓ]at h1;obtain⟨c,a1,a2,a3,a4⟩:=h1;refine⟨c,by rw[hidden id b base n hk hΓ];exact a1,a2,a3,fun i hi=>?_⟩;obtain⟨cv,b1,b2⟩:=a4 i hi;exact⟨cv,b1,b2.bb EE hn3⟩
  ·intro id st pend n env ps asg body hg;by_cases hl:lw id
   ·rw[h3live id hl]at hg;obtain⟨g0,e0,c0,h4,h5⟩:=hnew id hl.1 hl.2.1 hl.2.2;rw[h4]at hg;cases hg
   ·by_cases hnw:nw id
    ·rw[h3dead id hnw hl]at hg;cases hg
    ·rw[h3old id hnw]at hg;have hk:¬kp id:=fun hk=>by
      obtain⟨h1,h2,h3,g0,e0,c0,h4,h5⟩:=hkp id hk;rw[hkH2 id hk,h4]at hg;cases hg
     obtain⟨b,r,a1,a2,a3,a4,a5,a6,a7,a8,a9⟩:=R.loop id st pend n env ps asg body hg;exact⟨b,r,by rw[g3o id hl];exact a1,by rw[hidden id b 0 0 hk a1];exact a2,a3,a4,a5,a6,a7,a8,fun t ht=>(a9 t ht).bb EE hn3⟩
  ·intro id es hg;by_cases hl:lw id
   ·rw[h3live id hl]at hg;obtain⟨g0,e0,c0,h4,h5⟩:=hnew id hl.1 hl.2.1 hl.2.2;rw[h4]at hg;cases hg
   ·by_cases hnw:nw id
    ·rw[h3dead id hnw hl]at hg;cases hg
    ·rw[h3old id hnw]at hg;have hk:¬kp id:=fun hk=>by
      obtain⟨h1,h2,h3,g0,e0,c0,h4,h5⟩:=hkp id hk;rw[hkH2 id hk,h4]at hg;cases hg
     obtain⟨b,a1,a2⟩:=R.mp id es hg;exact⟨b,by rw[g3o id hl];exact a1,by rw[hidden id b 0 0 hk a1];exact a2⟩
  ·intro id hg;have hnw:¬nw id:=fun hnw=>by
    by_cases hl:lw id
    ·rw[h3live id hl]at hg;obtain⟨g0,e0,c0,h4,h5⟩:=hnew id hl.1 hl.2.1 hl.2.2;rw[h4]at hg;cases hg
    ·rw[h3dead id hnw hl]at hg;cases hg
   rw[h3old id hnw]at hg;rw[g3o id fun h=>hnw ⟨h.1,h.2.1⟩];exact R.nm id hg
  ·intro id id' b base n base' n' h h';by_cases hl:lw id<;>by_cases hl':lw id'
   ·rw[g3l id hl]at h;rw[g3l id' hl']at h';exact R'.inj _ _ _ _ _ _ _ h h'
   ·rw[g3l id hl]at h;rw[g3o id' hl']at h';have:=hfar id b base n hl h;have:=R.lt _ _ _ _ h';omega
   ·rw[g3o id hl]at h;rw[g3l id' hl']at h';have:=hfar id' b base' n' hl' h';have:=R.lt _ _ _ _ h;omega
   ·rw[g3o id hl]at h;rw[g3o id' hl']at h';exact R.inj _ _ _ _ _ _ _ h h'
  ·intro id x h;by_cases hl:lw id
   ·obtain⟨g0,e0,c0,h4,h5⟩:=hnew id hl.1 hl.2.1 hl.2.2;exact⟨_,by rw[h3live id hl];exact h4⟩
   ·rw[g3o id hl]at h;by_cases hnw:nw id
    ·exact⟨_,h3dead id hnw hl⟩
    ·obtain⟨y,hy⟩:=R.nD id x h;exact⟨y,by rw[h3old id hnw];exact hy⟩
  ·intro id b base n h;by_cases hl:lw id
   ·rw[g3l id hl]at h;exact R'.lt _ _ _ _ h
   ·rw[g3o id hl]at h;exact SZ (R.lt _ _ _ _ h) E.size
  ·intro id y h;by_cases hnw:nw id
   ·have:=hnw.2;exact SZ this hnle
   ·rw[h3old id hnw]at h;exact R.A id y h
  ·intro g cells h;exact(R.nC g cells h).bb EE hn3
  ·exact R.pO EE
 refine⟨.ret v,H3,Γ3,?_,⟨rfl,rfl⟩,R3,EE,hn3⟩;cases e with
 |returned cv=>exact hv.sound hK hle3 hend
 |panicked chain=>exact hend.elim
 |outgrown=>exact hend.elim
end Go.Hx.Ev
namespace Go.Hx
inductive BT (α:Type) where
 |nil
 |node (v:Option α) (l r:BT α)
inductive EBlk where
 |J (gen:Nat) (elem:TypeId) (cells:List W9)
 |loop (st:LoopState) (pend:Option Code) (n:Nat) (env:BT W9) (ps:Array Tmp) (asg body:Code)
 |mp (es:List (Int × Int))
structure EH where
 hp:BT EBlk
 nx:Nat
inductive RR where
 |ev (x:AX) (env:BT W9) (h:EH)
 |ret (v:W9) (h:EH)
 |panic (h:EH)
inductive OR where
 |fail
 |val (v:W9)
 |nt (v:W9) (r g:Nat) (e:TypeId) (cells:List W9) (fresh:Bool)
 |effM (v:W9) (r:Nat) (es:List (Int × Int)) (fresh:Bool)
structure GD where
 z:W9
 ok:W9->Bool
structure EP where
 P:Program
 G:Nat->Option (List W9)
 gd:FuncId->Option GD
  /-- What is known already of a function's calls. -/
 known:FuncId->Option (List (List W9 × W9))
  /-- What a call of a function without a body comes to. -/
 ext:FuncId->Option (List W9->Option W9):=fun _=>none
section step
end step
section step
end step
end Go.Hx
namespace Go.Hx
variable {P:Program} {G:Nat->Option (List W9)}
end Go.Hx
namespace Go.Hx
end Go.Hx
namespace Go.Hx
end Go.Hx
namespace Go.Hx
end Go.Hx
namespace Go.Hx
def K5 (z:GD):Option W9->W9
 |some u=>.na [u,.lit (.int .i64 0)]
 |none=>.na [z.z,.lit (.int .i64 6)]
def K6 (P:Program)(G:Nat->Option (List W9))(f:FuncId)(z:GD):Prop:=∀g cap cap' (H:Xn) o,cap'.length=cap.length ->
 (∀H2:Xn,(∀id,id<H.A->H2.get id=H.get id)->∀i (h:i<cap.length) (h':i<cap'.length),Fz (fun _=>True) H2 0 cap[i] cap'[i]) ->
 (∀u,o=some u->z.ok u=true)->ae P G g cap' dp (Ag o)->ae P G f [.Z g [] cap] H fun r H'=>r=.ret (K5 z o)/\H'=H
def K7 (E:EP):Prop:=∀f e,E.ext f=some e->∀args r,e args=some r->∀(H:Xn) (K:Xd->Xn->Prop),K (.ret r) H->az E.P E.G (.Z f [] []) args H K
structure EOk (E:EP):Prop where
 gok:fK E.G
 mixed:E.P.follows .mixedOrders=true
 known:∀f l,E.known f=some l->∀a v,(a,v)∈l->ae E.P E.G f a dp fun r H'=>∃u,r=.ret u/\Xx H' u v
 gd:∀f z,E.gd f=some z->K6 E.P E.G f z
 ext:K7 E
section
end
end Go.Hx
namespace Go.Hx
open Go.ChangeShapes Go.WideShapes Go.RowKit
variable {P:Program} {G:Nat->Option (List W9)}
variable {sp:Nat->Bool}{H:Type}{enc:TypeId × Value->H}
def jR:aC:=fun _=>none
def wN (P:Program)(G:Nat->Option (List W9))(W:World):Prop:=∀g cells,G g=some cells->Xc P jR dp W (.nf cells 0) (.pointer (some ⟨g,0,none⟩))/\∃c e f,W.heap[g]?=some (.cells c e f)/\c.size=cells.length
def ES {W:World}(hg:wN P G W):Xh P G jR dp W where
 J _ _ _ _ h:=by cases h
 loop _ _ _ _ _ _ _ _ h:=by cases h
 mp _ _ h:=by cases h
 nm _ h:=by cases h
 inj _ _ _ _ _ _ _ h:=by cases h
 nD _ _ h:=by cases h
 lt _ _ _ _ h:=by cases h
 A _ _ h:=by cases h
 nC g cells h:=(hg g cells h).1
 gsz g cells h:=(hg g cells h).2
def z9 (b:Nat):¬jR.gZ b:=fun ⟨_,_,_,h⟩=>by cases h
def ET {f:FuncId}{args:List W9}{cargs:Array Value}{W:World}(hA:ae P G f args dp fun r H'=>∃u,r=.ret u/\Xx H' u (.lit (.bool true)))(hg:wN P G W)(hr:dK P jR dp W args cargs):
  Calls P f cargs W fun e W'=>e=.returned (.bool true)/\RowKit.Below W.heap.size W W'/\∀a,a.block<W.heap.size->W'.frozen? a=W.frozen? a:=by
 refine callsIn_wide.1 ((hA.2 jR W cargs (ES hg) hr).mono ?_);rintro e W' ⟨r,H',Γ',hend,⟨u,rfl,hf⟩,_,E,_⟩;cases e with
 |returned cv =>
  have hu:u=.lit (.bool true):=by cases hf;rfl
  subst hu;cases hend;exact⟨rfl,⟨E.os,E.tape,E.output,E.size,fun k hk=>(E.nb k hk (z9 k)).1⟩,E.ny⟩
 |panicked=>exact hend.elim
 |outgrown=>exact hend.elim
def EU {W W':World}(hb:RowKit.Below W.heap.size W W')(may:MemPlace->Prop):W.keptBut W' may:=by
 refine⟨hb.os,hb.output,fun i hi=>?_⟩;rw[hb.block i hi];cases h:W.heap[i]? with
 |none=>rfl
 |some o=>cases o<;>first|exact rfl|exact⟨rfl,rfl,rfl,fun _ _=>rfl⟩|exact .inr ⟨rfl,rfl⟩
def EV (hl:laidOutB P=true){W W':World}(hb:RowKit.Below W.heap.size W W'):∀ {ts:List TypeId} {vs:List Value} {ds:List (DataW H)} {ps:List MemPlace},
  ts.all (fun t=>P.readableRec t && decide (t<P.types.size))=true->DataW.TrodAll enc P W 0 (fun _=>true) true ts vs ds ps->(∀x∈ps,x.block<W.heap.size)->(∀x∈ps,sp x.block=true)->DataW.TrodAll enc P W' 0 sp true ts vs ds ps:=by
 intro ts
 induction ts with
 |nil =>
  intro vs ds ps _ h _ _;cases vs<;>cases ds<;>first|exact h|exact h.elim
 |cons t ts ih =>
  intro vs ds ps hok h hlt hsp;simp only[List.all_cons,Tv,decide_eq_true_eq]at hok;cases vs with
  |nil=>cases ds<;>exact h.elim
  |cons v vs=>cases ds with
   |nil=>exact h.elim
   |cons d ds =>
    obtain⟨p,q,h1,h2,rfl⟩:=h;refine⟨p,q,?_,ih hok.2 h2 (fun x hx=>hlt x (by simp[hx])) (fun x hx=>hsp x (by simp[hx])),rfl⟩;exact WideElems.Trod_stays hl hok.1.1 hok.1.2 h1 (fun x hx=>hb.same (hlt x (by simp[hx]))) (fun x hx=>hsp x (by simp[hx]))
def EW {W:World}{base:Nat}{held:Bool}:∀ {ts:List TypeId} {vs:List Value} {ds:List (DataW H)} {ps:List MemPlace},
  DataW.TrodAll enc P W base sp held ts vs ds ps->vs.length=ts.length/\ds.length=ts.length:=by
 intro ts
 induction ts with
 |nil =>
  intro vs ds ps h;cases vs<;>cases ds<;>first|exact⟨rfl,rfl⟩|exact h.elim
 |cons t ts ih =>
  intro vs ds ps h;cases vs with
  |nil=>cases ds<;>exact h.elim
  |cons v vs=>cases ds with
   |nil=>exact h.elim
   |cons d ds =>
    obtain⟨p,q,_,h2,_⟩:=h;obtain⟨h3,h4⟩:=ih h2;exact⟨by simp[h3],by simp[h4]⟩
def EX {f:Func}{s:ChangeSpec}{apart fresh handsOn again:Bool}{W W':World}{args:Array Value}{ds gs:List (DataW H)}{before:List MemPlace}{t:TypeId}
  (hl:laidOutB P=true) (hok:f.params.toList.all (fun t=>P.readableRec t && decide (t<P.types.size))=true) (hvars:s.vars=[]) (hrt:f.resultTypes=#[t]) (ht:P.underlying t=some .bool)
  (hs:∀ds:List (DataW H),ds.length=f.params.toList.length->s.fn H (ds++[])={ results:=[.lit (.bool true)],args:=ds })
  (hW:DataW.Whole enc P f.params.toList s.vars apart W args.toList ds gs before) (hb:RowKit.Below W.heap.size W W') (hfz:∀a,a.block<W.heap.size->W'.frozen? a=W.frozen? a):s.post enc P f apart fresh handsOn again W args (.bool true) W':=by
 have hW':=hW;obtain⟨p,q,hA,hV,rfl,hz,hn⟩:=hW;have hgs:gs=[]/\q=[]:=by
  rw[hvars]at hV;cases gs with
  |nil=>exact⟨rfl,hV⟩
  |cons=>exact hV.elim
 obtain⟨rfl,rfl⟩:=hgs;have hfn:=hs ds (EW hA).2;have hlt:∀x∈p,x.block<W.heap.size:=fun x hx=>by simpa using hW'.lt x (by simp[hx])
 have hres:∀(b:Nat) (sp:Nat->Bool) (hd:Bool),DataW.TrodAll enc P W' b sp hd f.resultTypes.toList ((Value.bool true).resultList f.resultTypes.size) (s.fn H (ds++[])).results []:=fun b sp hd=>by
  rw[hfn,hrt];exact trodAll_mk1 (shut_bool ht true)
 have hargs:∀sp:Nat->Bool,(∀x∈p,sp x.block=true)->DataW.TrodAll enc P W' 0 sp true f.params.toList args.toList (s.fn H (ds++[])).args p:=fun sp hsp=>by
  rw[hfn];exact EV hl hb hok hA hlt hsp
 have hva:∀sp:Nat->Bool,DataW.TrodVars enc P W' sp s.vars (s.fn H (ds++[])).vars []:=fun sp=>by
  rw[hfn,hvars];exact rfl
 have hpp:p++[]=p:=List.append_nil p;have hold:∀x∈p,(fun b=>decide (b<W.heap.size)) x.block=true:=fun x hx=>by simpa using hlt x hx
 rw[hpp]at hW' hz hn;refine⟨ds,[],p,[],p,[],hW',hres _ _ _,hargs _ hold,hva _,World.keptBut_mono (fun x hx=>⟨hx,.inr (.inl hx)⟩) (EU hb _),fun _=>⟨ok_one hrt rfl (okWide_bool_mk ht true),(s.fn H (ds++[])).results++(s.fn H (ds++[])).args,(s.fn H (ds++[])).vars,p,?_,fun x hx _=>hx⟩⟩;have hall:=trodAll_append (hargs (fun _=>true) fun _ _=>rfl) (hres 0 (fun _=>true) true);refine⟨p,[],by simpa using hall,hva _,W5,fun b off hx=>?_,fun ha=>by simpa using hn ha⟩;rw[hfz _ (hlt _ hx)];exact hz b off hx
end Go.Hx
namespace Go.Hx
variable {P:Program} {G:Nat->Option (List W9)}
def xX:Nat->Option (List W9):=fun _=>none
def K8:fK xX:=fun _ _ h=>by cases h
def K9 (W:World):wN P xX W:=fun _ _ h=>by cases h
end Go.Hx
namespace Go.Hx
variable {P:Program} {G:Nat->Option (List W9)} {Γ Γ':aC} {H H':Xn} {w w':World}
section
variable {n:Nat} {wb:XE} {rd rb:Option Nat} {Q:AX->St->Prop}
end
end Go.Hx
