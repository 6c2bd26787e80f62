/-
  Regions that draw their order. Own work: no program stands in this text.
-/
import Derived.Test.YtebhdkihcdmmjaaGreatLibA
import Derived.OrdersIn
import Derived.KernelRfl
import Derived.ProofKit
import Derived.SevenTiedAt
set_option linter.all false
namespace Go.Hx
variable {P:Program} {G:Nat->Option (List Zo)} {Γ Γ':aC} {H H':Zn} {w w':World}
variable {c:Call}{ρ:Env}{id n:Nat}{o:Op}{t u:TypeId}{H2:Zn}{a v x:Zo}
def aR:Zo->List Nat
 |.U id _ _ _ _=>[id]
 |.O id _ _=>[id]
 |_=>[]
def fb:Zo->List Nat
 |.np id=>[id]
 |_=>[]
structure FP where
 nD:List Nat
 rs:List Nat
def lW:Zo->Bool
 |.U ..=>true
 |_=>false
def mH (P:Program)(t:TypeId)(x:Zo):List Nat:=match P.underlying t with
 |some (.slice _)=>aR x
 |_=>[]
def kS (P:Program)(id:Nat)(b:Builtin)(ats:List TypeId)(args:List Zo):FP :=
 match b,ats,args with
 |.append,_,[s,x]=>if lW s then ⟨aR s,aR s++aR x⟩ else ⟨[id],aR x⟩
 |.copy,_,[d,x]=>⟨aR d,aR d++aR x⟩
 |.clear,_,[d]=>⟨aR d,aR d⟩
 |.len,[t],[x]=>⟨[],mH P t x⟩
 |_,_,_=>⟨[],[]⟩
def cG (P:Program)(G:Nat->Option (List Zo))(ρ:Env)(id:Nat):Op->FP
 |.load _ a=>⟨[],aR (ar G ρ a)⟩
 |.nilCheck a=>⟨[],aR (ar G ρ a)⟩
 |.slice _ a _ _ _=>⟨[],aR (ar G ρ a)⟩
 |.fieldAddr _ a _=>⟨[],aR (ar G ρ a)⟩
 |.indexAddr _ a _=>⟨[],aR (ar G ρ a)⟩
 |.convert _ _ a=>⟨[],aR (ar G ρ a)⟩
 |.store _ a _=>⟨aR (ar G ρ a),aR (ar G ρ a)⟩
 |.alloc _=>⟨[id],[]⟩
 |.box _ _=>⟨[id],[]⟩
 |.buildSlice _ _ _=>⟨[id],[]⟩
 |.makeSlice _ _ _=>⟨[id],[]⟩
 |.makeMap _ _=>⟨[id],[]⟩
 |.lookup _ x _ _=>⟨[],fb (ar G ρ x)⟩
 |.mapUpdate _ m _ _|.insert _ m _ _|.mapEntry _ m _|.entryStore _ m _ _=>⟨fb (ar G ρ m),fb (ar G ρ m)⟩
 |.call c=>match c.callee with
  |.builtin b=>kS P id b c.argTypes.toList (c.args.toList.map (ar G ρ))
  |_=>⟨[],[]⟩
 |_=>⟨[],[]⟩
def fg (e:Option (Nat × Zu))(g:Nat->Option Zu):Nat->Option Zu :=
 match e with
 |none=>g
 |some (k,b)=>fun j=>if j=k then some b else g j
def gU (H:Zn):Prop:=∀id b,H.get id=some b->id<H.A
def kT (wf:gU H){gen:Nat}{ec:TypeId × List Zo}(h:H.na id gen=some ec):id<H.A:=wf id _ (jI (e:=ec.1) (cells:=ec.2) h)
def kU (h:H2.get id=H.get id)(gen:Nat):H2.na id gen=H.na id gen:=by unfold Zn.na;rw[h]
def Local (P:Program)(G:Nat->Option (List Zo))(ρ:Env)(H:Zn)(o:Op)(v:Zo)(H':Zn)(f:FP):Prop :=
 ∃(e:Option (Nat × Zu)) (al:Bool),H'.get=fg e H.get/\H'.A=(if al then H.A+1 else H.A) /\
  (∀k b,e=some (k,b)->k∈f.nD/\(al=false->k∈f.rs))/\(al=true->∃b,e=some (H.A,b))/\(∀r,r∈f.rs->r<H.A) /\
  ∀H2:Zn,(∀r,r∈f.rs->H2.get r=H.get r)->(al=true->H2.get H.A=some .nr/\H.A≠H2.A)->ak P G ρ H2 H.A o=some (v,⟨fg e H2.get,H2.A⟩)
variable {f:FP}
def dH (hrs:∀r,r∈f.rs->r<H.A)(h:∀H2:Zn,(∀r,r∈f.rs->H2.get r=H.get r)->ak P G ρ H2 H.A o=some (v,H2)):Local P G ρ H o v H f:=by
 refine⟨none,false,rfl,rfl,?_,?_,hrs,fun H2 ha _=>h H2 ha⟩
 ·intro k b h;cases h
 ·intro h;cases h
def qE {b:Zu}(hl:H.lay H.A b=some H')(hta:H.A∈f.nD)(hrs:∀r,r∈f.rs->r<H.A)
  (h:∀H2:Zn,(∀r,r∈f.rs->H2.get r=H.get r)->∀H2',H2.lay H.A b=some H2'->ak P G ρ H2 H.A o=some (v,H2')):Local P G ρ H o v H' f:=by
 obtain⟨h1,h2⟩:=ke hl;have h2':H'.A=H.A+1:=by
  unfold Zn.lay at hl;rw[UX rfl]at hl;simp only[Option.some.injEq]at hl;rw[<- hl]
 refine⟨some (H.A,b),true,funext h1,by simp[h2'],?_,?_,hrs,fun H2 ha hr=>?_⟩
 ·intro k b' hk;simp only[Option.some.injEq,Prod.mk.injEq]at hk;exact⟨hk.1 ▸ hta,fun h=>by cases h⟩
 ·exact fun _=>⟨b,rfl⟩
 ·obtain⟨hr1,hr2⟩:=hr rfl;refine h H2 ha _ ?_;unfold Zn.lay;rw[UW hr2,hr1];rfl
def nW {b:Zu}(hid:id∈f.nD)(hid':id∈f.rs)(hrs:∀r,r∈f.rs->r<H.A)
  (h:∀H2:Zn,(∀r,r∈f.rs->H2.get r=H.get r)->ak P G ρ H2 H.A o=some (v,H2.upd id b)):Local P G ρ H o v (H.upd id b) f:=by
 refine⟨some (id,b),false,rfl,rfl,?_,?_,hrs,fun H2 ha _=>h H2 ha⟩
 ·intro k b' hk;simp only[Option.some.injEq,Prod.mk.injEq]at hk;exact⟨hk.1 ▸ hid,fun _=>hk.1 ▸ hid'⟩
 ·intro h;cases h
def c7 :∀r,r∈([]:List Nat)->r<n:=fun _ h=>by cases h
def gV (h:id<n):∀r,r∈[id]->r<n:=fun r hr=>by
 simp only[List.mem_singleton]at hr;omega
def HO (h:∀r,r∈aR a->H2.get r=H.get r):im P H2 t a=im P H t a:=by
 cases a with
 |O id gen off=>simp only[im];rw[h id (by simp[aR])]
 |_=>rfl
def HP (wf:gU H)(h:im P H t a=some v):∀r,r∈aR a->r<H.A:=by
 cases a with
 |O id gen off =>
  refine gV ?_;simp only[im]at h;split at h
  ·rename_i hg;exact wf _ _ hg
  ·cases h
 |U=>simp[im]at h
 |_=>exact c7
def HQ (h:j9 P H t a v=some H'):∃id gen off g e cells,a=.O id gen off/\H.get id=some (.J g e cells)/\∃cells',H'=H.upd id (.J g e cells') /\
  ∀H2:Zn,H2.get id=H.get id->j9 P H2 t a v=some (H2.upd id (.J g e cells')):=by
 cases a with
 |O id gen off =>
  simp only[j9]at h;split at h
  ·rename_i g e cells hg;split at h
   ·rename_i hc;simp only[Option.some.injEq]at h;refine⟨id,gen,off,g,e,cells,rfl,hg,_,h.symm,fun H2 h2=>?_⟩;simp only[j9];rw[h2,hg];simp only;rw[UX hc]
   ·cases h
  ·cases h
 |_=>simp[j9]at h
def HR (wf:gU H){i:Int}(h:nI P H t x i=some v):(∀r,r∈aR x->r<H.A)/\∀H2:Zn,(∀r,r∈aR x->H2.get r=H.get r)->nI P H2 t x i=some v:=by
 unfold nI at h ⊢;split at h
 ·split at h
  ·rename_i hc;split at h
   ·rename_i id gen off;simp only[UT]at h;obtain⟨ec,hl,hv⟩:=h;refine⟨gV (kT wf hl),fun H2 h2=>?_⟩;rw[UX hc];simp only[kU (h2 id (by simp[aR])),hl,Option.map_some,hv]
   ·refine⟨c7,fun H2 _=>?_⟩;rw[UX hc];exact h
   ·cases h
  ·cases h
 ·split at h
  ·rename_i hc;split at h
   ·rename_i id gen off len sz;split at h
    ·rename_i hi;simp only[UT]at h;obtain⟨ec,hl,hv⟩:=h;refine⟨gV (kT wf hl),fun H2 h2=>?_⟩;rw[UX hc,UX hi];simp only[kU (h2 id (by simp[aR])),hl,Option.map_some,hv]
    ·cases h
   ·refine⟨c7,fun H2 _=>?_⟩;rw[UX hc];exact h
   ·cases h
  ·cases h
 ·cases h
def HS (wf:gU H){lo hi:Option Zo}(h:nJ P H t x lo hi=some v):(∀r,r∈aR x->r<H.A)/\∀H2:Zn,(∀r,r∈aR x->H2.get r=H.get r)->nJ P H2 t x lo hi=some v:=by
 unfold nJ at h ⊢;split at h
 ·split at h
  ·rename_i hc;split at h
   ·rename_i id gen off;split at h
    ·rename_i e' cells hl;refine⟨gV (kT wf hl),fun H2 h2=>?_⟩;rw[UX hc];simp only[kU (h2 id (by simp[aR])),hl];exact h
    ·cases h
   ·refine⟨c7,fun H2 _=>?_⟩;rw[UX hc];exact h
   ·cases h
  ·cases h
 ·split at h
  ·rename_i hc;split at h
   ·rename_i id gen off len sz;split at h
    ·rename_i hi;have h0:=h;simp only[U0]at h;obtain⟨ec,hl,_⟩:=h;refine⟨gV (kT wf hl),fun H2 h2=>?_⟩;rw[UX hc,UX hi,kU (h2 id (by simp[aR]))];exact h0
    ·cases h
   ·refine⟨c7,fun H2 _=>?_⟩;rw[UX hc];exact h
   ·refine⟨c7,fun H2 _=>?_⟩;rw[UX hc];exact h
   ·cases h
  ·cases h
 ·split at h
  ·exact⟨c7,fun H2 _=>h⟩
  ·cases h
 ·cases h
def HT (wf:gU H)(h:nK P H t x=some v):(∀r,r∈mH P t x->r<H.A)/\∀H2:Zn,(∀r,r∈mH P t x->H2.get r=H.get r)->nK P H2 t x=some v:=by
 unfold nK mH at *
 cases hu:P.underlying t with
 |none=>rw[hu]at h;cases h
 |some d =>
  rw[hu]at h;cases d with
  |slice e =>
   simp only at h ⊢;split at h
   ·exact⟨c7,fun _ _=>h⟩
   ·rename_i id gen off len sz;simp only[UT]at h;obtain⟨ec,hl,hv⟩:=h;refine⟨gV (kT wf hl),fun H2 h2=>?_⟩;simp only[kU (h2 id (by simp[aR])),hl,Option.map_some,hv]
   ·exact⟨c7,fun _ _=>h⟩
   ·cases h
  |string=>exact⟨c7,fun _ _=>h⟩
  |array n e=>exact⟨c7,fun _ _=>h⟩
  |_=>cases h
def x9 (wf:gU H){sz:Nat}{r:Nat × List Zo}(h:dc H sz x=some r):(∀r,r∈aR x->r<H.A)/\∀H2:Zn,(∀r,r∈aR x->H2.get r=H.get r)->dc H2 sz x=some r:=by
 unfold dc at h ⊢;split at h
 ·exact⟨c7,fun _ _=>h⟩
 ·rename_i id gen off len sz';split at h
  ·rename_i hsz;simp only[UT]at h;obtain⟨ec,hl,hv⟩:=h;refine⟨gV (kT wf hl),fun H2 h2=>?_⟩;rw[UX hsz];simp only[kU (h2 id (by simp[aR])),hl,Option.map_some,hv]
  ·cases h
 ·exact⟨c7,fun _ _=>h⟩
 ·cases h
def BC {a b:List Nat}{p:Nat->Prop}(h1:∀r,r∈a->p r)(h2:∀r,r∈b->p r):∀r,r∈a++b->p r:=fun r hr=>(Vp.1 hr).elim (h1 r) (h2 r)
def HU (wf:gU H){s:Zo}(hb:c.callee=.builtin .append)(hats:c.argTypes.toList=[t,u])(hargs:c.args.toList.map (ar G ρ)=[s,x])
  (h:bU P H H.A t u s x=some (v,H')):Local P G ρ H (.call c) v H' (cG P G ρ H.A (.call c)):=by
 have hfp:cG P G ρ H.A (.call c)=if lW s then ⟨aR s,aR s++aR x⟩ else ⟨[H.A],aR x⟩:=by
  simp only[cG,hb,hats,hargs,kS]
 have hop:∀H2:Zn,ak P G ρ H2 H.A (.call c)=bU P H2 H.A t u s x:=fun H2=>by
  simp only[ak,hb,hats,hargs,gR]
 rw[hfp];unfold bU at h;split at h
 ·rename_i e he;split at h
  ·rename_i e' he';simp only[U0]at h;obtain⟨z,hz,nx,hsrc,h⟩:=h;obtain⟨hxlt,hxl⟩:=x9 wf hsrc;split at h
   ·simp only[lW,Bool.false_eq_true,if_false];split at h
    ·rename_i hn0;simp only[Option.some.injEq,Prod.mk.injEq]at h;obtain⟨rfl,rfl⟩:=h;refine dH hxlt fun H2 h2=>?_;rw[hop];simp only[bU,he,he',hz,hxl H2 h2,Option.bind_some,UX hn0]
    ·rename_i hn0;split at h
     ·rename_i hb;simp only[UT,Prod.mk.injEq]at h;obtain⟨H3,hl,rfl,rfl⟩:=h;refine qE hl Zj hxlt fun H2 h2 H2' hl2=>?_;rw[hop];simp only[bU,he,he',hz,hxl H2 h2,Option.bind_some,UW hn0,UX hb,hl2,Option.map_some]
     ·cases h
   ·rename_i id' gen off len sz;simp only[lW,if_true];simp only[U0]at h;obtain⟨ec,hl,h⟩:=h;have hlt:∀r,r∈aR (.U id' gen off len sz)++aR x->r<H.A:=BC (gV (kT wf hl)) hxlt;have hl2:∀H2:Zn,(∀r,r∈aR (.U id' gen off len sz)++aR x->H2.get r=H.get r)->H2.na id' gen=some ec:=fun H2 h2=>by
     rw[kU (h2 id' (by simp[aR]))];exact hl
    have hx2:∀H2:Zn,(∀r,r∈aR (.U id' gen off len sz)++aR x->H2.get r=H.get r)->dc H2 (P.cellsOf e) x=some nx:=fun H2 h2 =>
     hxl H2 fun r hr=>h2 r (Yl _ hr)
    split at h
    ·rename_i hc;split at h
     ·rename_i hn0;simp only[Option.some.injEq,Prod.mk.injEq]at h;obtain⟨rfl,rfl⟩:=h;refine dH hlt fun H2 h2=>?_;rw[hop];simp only[bU,he,he',hz,hx2 H2 h2,hl2 H2 h2,Option.bind_some];rw[UX hc,UX hn0]
     ·rename_i hn0;simp only[Option.some.injEq,Prod.mk.injEq]at h;obtain⟨rfl,rfl⟩:=h;refine nW (by simp[aR]) (by simp[aR]) hlt fun H2 h2=>?_;rw[hop];simp only[bU,he,he',hz,hx2 H2 h2,hl2 H2 h2,Option.bind_some];rw[UX hc,UW hn0]
    ·cases h
   ·cases h
  ·cases h
 ·cases h
def HV (wf:gU H){s:Zo}(hb:c.callee=.builtin .copy)(hats:c.argTypes.toList=[t,u])(hargs:c.args.toList.map (ar G ρ)=[s,x])
  (h:lP P H t s x=some (v,H')):Local P G ρ H (.call c) v H' (cG P G ρ H.A (.call c)):=by
 have hfp:cG P G ρ H.A (.call c)=⟨aR s,aR s++aR x⟩:=by
  simp only[cG,hb,hats,hargs,kS]
 have hop:∀H2:Zn,ak P G ρ H2 H.A (.call c)=lP P H2 t s x:=fun H2=>by
  simp only[ak,hb,hats,hargs,gR]
 rw[hfp];unfold lP at h;split at h
 ·rename_i e he;split at h
  ·rename_i hs;simp only[U0]at h;obtain⟨nx,hsrc,h⟩:=h;obtain⟨hxlt,hxl⟩:=x9 wf hsrc;split at h
   ·rename_i id' gen off len sz;simp only[U0]at h;obtain⟨ec,hl,h⟩:=h;have hlt:∀r,r∈aR (.U id' gen off len sz)++aR x->r<H.A:=BC (gV (kT wf hl)) hxlt;split at h
    ·rename_i hc;simp only[Option.some.injEq,Prod.mk.injEq]at h;obtain⟨rfl,rfl⟩:=h;refine nW (by simp[aR]) (by simp[aR]) hlt fun H2 h2=>?_;have hl2:H2.na id' gen=some ec:=by
      rw[kU (h2 id' (by simp[aR]))];exact hl
     rw[hop];simp only[lP,he,hs,if_true,hxl H2 fun r hr=>h2 r (Yl _ hr),hl2,Option.bind_some];rw[UX hc]
    ·cases h
   ·cases h
  ·cases h
 ·cases h
def HW (wf:gU H){s:Zo}(hb:c.callee=.builtin .clear)(hats:c.argTypes.toList=[t])(hargs:c.args.toList.map (ar G ρ)=[s])
  (h:jq P H t s=some (v,H')):Local P G ρ H (.call c) v H' (cG P G ρ H.A (.call c)):=by
 have hfp:cG P G ρ H.A (.call c)=⟨aR s,aR s⟩:=by
  simp only[cG,hb,hats,hargs,kS]
 have hop:∀H2:Zn,ak P G ρ H2 H.A (.call c)=jq P H2 t s:=fun H2=>by
  simp only[ak,hb,hats,hargs,gR]
 rw[hfp];unfold jq at h;split at h
 ·rename_i e he;split at h
  ·simp only[Option.some.injEq,Prod.mk.injEq]at h;obtain⟨rfl,rfl⟩:=h;refine dH (fun r hr=>by cases hr) fun H2 h2=>?_;rw[hop];simp only[jq,he]
  ·rename_i id' gen off len sz;simp only[U0]at h;obtain⟨ec,hl,h⟩:=h;have hlt:∀r,r∈aR (.U id' gen off len sz)->r<H.A:=gV (kT wf hl);have hl2:∀H2:Zn,(∀r,r∈aR (.U id' gen off len sz)->H2.get r=H.get r)->H2.na id' gen=some ec:=fun H2 h2=>by
    rw[kU (h2 id' (by simp[aR]))];exact hl
   split at h
   ·rename_i h0;simp only[Option.some.injEq,Prod.mk.injEq]at h;obtain⟨rfl,rfl⟩:=h;refine dH hlt fun H2 h2=>?_;rw[hop];simp only[jq,he,hl2 H2 h2,Option.bind_some];rw[UX h0]
   ·rename_i h0;simp only[U0]at h;obtain⟨z,hz,h⟩:=h;split at h
    ·rename_i hc;simp only[Option.some.injEq,Prod.mk.injEq]at h;obtain⟨rfl,rfl⟩:=h;refine nW (by simp[aR]) (by simp[aR]) hlt fun H2 h2=>?_;rw[hop];simp only[jq,he,hl2 H2 h2,hz,Option.bind_some];rw[UW h0,UX hc]
    ·cases h
  ·cases h
 ·cases h
def BD (wf:gU H){m k x:Operand}(h:mz P H t (ar G ρ m) (ar G ρ k) (ar G ρ x)=some (v,H'))(hfp:cG P G ρ H.A o=⟨fb (ar G ρ m),fb (ar G ρ m)⟩)
  (hop:∀H2:Zn,ak P G ρ H2 H.A o=mz P H2 t (ar G ρ m) (ar G ρ k) (ar G ρ x)):Local P G ρ H o v H' (cG P G ρ H.A o):=by
 rw[hfp];unfold mz at h;split at h
 ·rename_i hm;split at h
  ·rename_i id k' u hx hk hu;split at h
   ·rename_i es hg;simp only[Option.some.injEq,Prod.mk.injEq]at h;obtain⟨rfl,rfl⟩:=h;refine nW (by rw[hx];simp[fb]) (by rw[hx];simp[fb]) (by rw[hx];exact gV (wf _ _ hg)) fun H2 h2=>?_;have hg2:H2.get id=some (.mp es):=(by rw[h2 id (by rw[hx];simp[fb])];exact hg);rw[hop];simp only[mz,hm,if_true,hx,hk,hu,hg2]
   ·cases h
  ·cases h
 ·cases h
def HX (wf:gU H){s d:TypeId}(h:lS P H s d x=some v):(∀r,r∈aR x->r<H.A)/\∀H2:Zn,(∀r,r∈aR x->H2.get r=H.get r)->lS P H2 s d x=some v:=by
 have bytes:∀y:Zo,nM P H s d y=some v->(∀r,r∈aR y->r<H.A)/\∀H2:Zn,(∀r,r∈aR y->H2.get r=H.get r)->nM P H2 s d y=some v:=by
  intro y h;unfold nM at h;split at h
  ·rename_i hsb;simp only[U0]at h;obtain⟨nl,hs,h⟩:=h;obtain⟨h1,h2⟩:=x9 wf hs;refine⟨h1,fun H2 ha=>?_⟩;unfold nM;rw[UX hsb,h2 H2 ha];exact h
  ·cases h
 unfold lS at h;split at h
 ·exact bytes _ h
 ·exact bytes _ h
 ·rename_i hne1 hne2;refine⟨fun r hr=>?_,fun H2 _=>?_⟩
  ·unfold lQ at h;split at h
   ·rename_i a ha;cases x<;>simp_all[aR,Zo.cU]
   ·cases h
  ·unfold lS;split
   ·exact absurd rfl (hne1 _ _ _ _ _)
   ·exact absurd rfl (hne2 _ _)
   ·exact h
def BE (wf:gU H)(h:ak P G ρ H H.A o=some (v,H')):Local P G ρ H o v H' (cG P G ρ H.A o):=by
 cases o with
 |makeMap t r =>
  simp only[ak]at h;split at h
  ·simp only[UT,Prod.mk.injEq]at h;obtain⟨H3,hl,rfl,rfl⟩:=h;refine qE hl (by simp[cG]) c7 fun H2 _ H2' hl2=>?_;simp only[ak,hl2,Option.map_some]
  ·cases h
 |lookup t x i ok =>
  simp only[ak,UT,Prod.mk.injEq]at h;obtain⟨v',hv,rfl,rfl⟩:=h;have hfp:cG P G ρ H.A (.lookup t x i ok)=⟨[],fb (ar G ρ x)⟩:=rfl;rw[hfp];unfold qo at hv;split at hv
  ·rename_i hm;split at hv
   ·rename_i hx hi;refine dH (by rw[hx];exact c7) fun H2 _=>?_;simp only[ak,qo,hm,if_true,hx,hi];simp only[Option.some.injEq]at hv;simp[hv]
   ·rename_i id k hx hi;split at hv
    ·rename_i es hg;refine dH (by rw[hx];exact gV (wf _ _ hg)) fun H2 h2=>?_;have hg2:H2.get id=some (.mp es):=(by rw[h2 id (by rw[hx];simp[fb])];exact hg);simp only[ak,qo,hm,if_true,hx,hi,hg2];simp only[Option.some.injEq]at hv;simp[hv]
    ·cases hv
   ·cases hv
  ·cases hv
 |mapUpdate t m k x=>exact BD wf (by simp only[ak]at h;exact h) (by rfl) fun H2=>rfl
 |insert t m k x=>exact BD wf (by simp only[ak]at h;exact h) (by rfl) fun H2=>rfl
 |mapEntry t m k =>
  simp only[ak]at h;have hfp:cG P G ρ H.A (.mapEntry t m k)=⟨fb (ar G ρ m),fb (ar G ρ m)⟩:=rfl;rw[hfp];unfold oV at h;split at h
  ·rename_i hm;split at h
   ·rename_i id k' hx hk;split at h
    ·rename_i es hg;have hg2:∀H2:Zn,(∀r,r∈fb (ar G ρ m)->H2.get r=H.get r)->H2.get id=some (.mp es):=fun H2 h2=>by rw[h2 id (by rw[hx];simp[fb])];exact hg
     split at h
     ·rename_i n u hf;simp only[Option.some.injEq,Prod.mk.injEq]at h;obtain⟨rfl,rfl⟩:=h;refine nW (by rw[hx];simp[fb]) (by rw[hx];simp[fb]) (by rw[hx];exact gV (wf _ _ hg)) fun H2 h2=>?_;simp only[ak,oV,hm,if_true,hx,hk,hg2 H2 h2,hf]
     ·rename_i hf;simp only[Option.some.injEq,Prod.mk.injEq]at h;obtain⟨rfl,rfl⟩:=h;refine nW (by rw[hx];simp[fb]) (by rw[hx];simp[fb]) (by rw[hx];exact gV (wf _ _ hg)) fun H2 h2=>?_;simp only[ak,oV,hm,if_true,hx,hk,hg2 H2 h2,hf]
    ·cases h
   ·cases h
  ·cases h
 |entryStore t m s x =>
  simp only[ak]at h;have hfp:cG P G ρ H.A (.entryStore t m s x)=⟨fb (ar G ρ m),fb (ar G ρ m)⟩:=rfl;rw[hfp];unfold qp at h;split at h
  ·rename_i id s' u hx hs hu;split at h
   ·rename_i es hg;split at h
    ·rename_i hlt;simp only[Option.some.injEq,Prod.mk.injEq]at h;obtain⟨rfl,rfl⟩:=h;refine nW (by rw[hx];simp[fb]) (by rw[hx];simp[fb]) (by rw[hx];exact gV (wf _ _ hg)) fun H2 h2=>?_;have hg2:H2.get id=some (.mp es):=(by rw[h2 id (by rw[hx];simp[fb])];exact hg);simp only[ak,qp,hx,hs,hu,hg2];rw[UX hlt]
    ·cases h
   ·cases h
  ·cases h
 |alloc e =>
  simp only[ak,U0,UT,Prod.mk.injEq]at h;obtain⟨z,hz,H3,hl,rfl,rfl⟩:=h;refine qE hl (by simp[cG]) c7 fun H2 _ H2' hl2=>?_;simp only[ak,hz,hl2,Option.bind_some,Option.map_some]
 |box e x =>
  simp only[ak,UT,Prod.mk.injEq]at h;obtain⟨H3,hl,rfl,rfl⟩:=h;refine qE hl (by simp[cG]) c7 fun H2 _ H2' hl2=>?_;simp only[ak,hl2,Option.map_some]
 |buildSlice t len parts =>
  simp only[ak,nL]at h;split at h
  ·rename_i e he;split at h
   ·rename_i hc;simp only[U0,UT,Prod.mk.injEq]at h;obtain⟨z,hz,cells,hcl,H3,hl,rfl,rfl⟩:=h;refine qE hl (by simp[cG]) c7 fun H2 _ H2' hl2=>?_;simp only[ak,nL,he];rw[UX hc];simp only[hz,hcl,hl2,Option.bind_some,Option.map_some]
   ·cases h
  ·cases h
 |makeSlice t l c =>
  simp only[ak,mA]at h;split at h
  ·rename_i e k l' k' c' he hl' hc';split at h
   ·rename_i hc;simp only[U0,UT,Prod.mk.injEq]at h;obtain⟨cells,hz,H3,hl,rfl,rfl⟩:=h;refine qE hl (by simp[cG]) c7 fun H2 _ H2' hl2=>?_;simp only[ak,mA,he,hl',hc'];rw[UX hc];simp only[hz,hl2,Option.bind_some,Option.map_some]
   ·cases h
  ·cases h
 |store t a x =>
  simp only[ak]at h;split at h
  ·rename_i hu;simp only[UT,Prod.mk.injEq]at h;obtain⟨H3,hst,rfl,rfl⟩:=h;obtain⟨id,gen,off,g,e,cells,ha,hg,cells',rfl,hall⟩:=HQ hst;have hfp:cG P G ρ H.A (.store t a x)=⟨[id],[id]⟩:=(by simp only[cG,ha,aR]);rw[hfp];refine nW Zj Zj (gV (wf _ _ hg)) fun H2 h2=>?_;simp only[ak,hu,if_true,hall H2 (h2 id Zj),Option.map_some]
  ·cases h
 |load t p =>
  simp only[ak,UT,Prod.mk.injEq]at h;obtain⟨v',hv,rfl,rfl⟩:=h;refine dH (HP wf hv) fun H2 h2=>?_;simp only[ak,HO h2,hv,Option.map_some]
 |nilCheck p =>
  simp only[ak,UT,Prod.mk.injEq]at h;obtain⟨v',hv,rfl,rfl⟩:=h;have hv0:=hv;unfold lT at hv;split at hv
  ·rename_i id gen off hp;simp only[UT]at hv;obtain⟨ec,hl,hv⟩:=hv;have hfp:cG P G ρ H.A (.nilCheck p)=⟨[],[id]⟩:=(by simp only[cG,hp,aR]);rw[hfp];refine dH (gV (kT wf hl)) fun H2 h2=>?_;subst hv;simp only[ak,hp,lT,kU (h2 id Zj),hl,Option.map_some]
  ·rename_i hp;have hfp:cG P G ρ H.A (.nilCheck p)=⟨[],[]⟩:=(by simp only[cG,hp,aR]);rw[hfp];refine dH c7 fun H2 _=>?_;simp only[ak,hp,lT,Option.map_some,Option.some.injEq]at hv ⊢;rw[hv]
  ·rename_i hp;have hfp:cG P G ρ H.A (.nilCheck p)=⟨[],[]⟩:=(by simp only[cG,hp,aR]);rw[hfp];refine dH c7 fun H2 _=>?_;simp only[ak,hp,lT,Option.map_some,Option.some.injEq]at hv ⊢;rw[hv]
  ·cases hv
 |slice t x lo hi mx =>
  simp only[ak]at h;split at h
  ·simp only[UT,Prod.mk.injEq]at h;obtain⟨v',hv,rfl,rfl⟩:=h;obtain⟨h1,h2⟩:=HS wf hv;refine dH h1 fun H2 h3=>?_;simp only[ak,h2 H2 h3,Option.map_some]
  ·cases h
 |indexAddr t x i =>
  simp only[ak]at h;split at h
  ·rename_i k i' hi;simp only[UT,Prod.mk.injEq]at h;obtain⟨v',hv,rfl,rfl⟩:=h;obtain⟨h1,h2⟩:=HR wf hv;refine dH h1 fun H2 h3=>?_;simp only[ak,hi,h2 H2 h3,Option.map_some]
  ·cases h
 |fieldAddr s x f =>
  simp only[ak,U0]at h;obtain⟨of,hof,h⟩:=h;split at h
  ·rename_i id gen off hx;simp only[UT,Prod.mk.injEq]at h;obtain⟨ec,hl,rfl,rfl⟩:=h;have hfp:cG P G ρ H.A (.fieldAddr s x f)=⟨[],[id]⟩:=(by simp only[cG,hx,aR]);rw[hfp];refine dH (gV (kT wf hl)) fun H2 h2=>?_;simp only[ak,hof,Option.bind_some,hx,kU (h2 id Zj),hl,Option.map_some]
  ·rename_i cells off hx;simp only[Option.some.injEq,Prod.mk.injEq]at h;obtain⟨rfl,rfl⟩:=h;have hfp:cG P G ρ H.A (.fieldAddr s x f)=⟨[],[]⟩:=(by simp only[cG,hx,aR]);rw[hfp];refine dH c7 fun H2 _=>?_;simp only[ak,hof,Option.bind_some,hx]
  ·cases h
 |call c =>
  have h0:=h;simp only[ak]at h;split at h
  ·rename_i b hb;unfold gR at h;split at h
   ·rename_i t x hats hargs;simp only[UT,Prod.mk.injEq]at h;obtain⟨v',hv,rfl,rfl⟩:=h;obtain⟨h1,h2⟩:=HT wf hv;have hfp:cG P G ρ H.A (.call c)=⟨[],mH P t x⟩:=(by simp only[cG,hb,hats,hargs,kS]);rw[hfp];refine dH h1 fun H2 h3=>?_;simp only[ak,hb,hats,hargs,gR,h2 H2 h3,Option.map_some]
   ·rename_i hats hargs;exact HU wf hb hats hargs h
   ·rename_i hats hargs;exact HV wf hb hats hargs h
   ·rename_i hats hargs;exact HW wf hb hats hargs h
   ·rename_i hats;simp only[U0,UT,Prod.mk.injEq]at h;obtain⟨vs,h1,v',h2,rfl,rfl⟩:=h;have hfp:cG P G ρ H.A (.call c)=⟨[],[]⟩:=(by simp only[cG,hb,kS]);rw[hfp];refine dH c7 fun H2 _=>?_;simp only[ak,hb,gR,h1,h2,Option.bind_some,Option.map_some]
   ·rename_i hats;simp only[U0,UT,Prod.mk.injEq]at h;obtain⟨vs,h1,v',h2,rfl,rfl⟩:=h;have hfp:cG P G ρ H.A (.call c)=⟨[],[]⟩:=(by simp only[cG,hb,kS]);rw[hfp];refine dH c7 fun H2 _=>?_;simp only[ak,hb,gR,h1,h2,Option.bind_some,Option.map_some]
   ·cases h
  ·cases h
 |pick c a b =>
  simp only[ak]at h;split at h
  ·rename_i t ht;simp only[Option.some.injEq,Prod.mk.injEq]at h;obtain⟨rfl,rfl⟩:=h;refine dH c7 fun H2 _=>?_;simp only[ak,ht]
  ·cases h
 |makeFunc fn f c =>
  simp only[ak]at h;split at h
  ·simp only[Option.some.injEq,Prod.mk.injEq]at h;obtain⟨rfl,rfl⟩:=h;exact dH c7 fun H2 _=>by simp only[ak]
  ·cases h
 |makeInterface t x =>
  simp only[ak]at h;split at h
  ·rename_i y hy;simp only[UT,Prod.mk.injEq]at h;obtain⟨v',hv,rfl,rfl⟩:=h;refine dH c7 fun H2 _=>?_;simp only[ak,hy,hv,Option.map_some]
  ·cases h
 |field s x f =>
  simp only[ak,U0]at h;obtain⟨of,hof,h⟩:=h;split at h
  ·rename_i hx;simp only[UT,Prod.mk.injEq]at h;obtain⟨v',hv,rfl,rfl⟩:=h;refine dH c7 fun H2 _=>?_;simp only[ak,hof,Option.bind_some,hx,hv,Option.map_some]
  ·rename_i hx;simp only[UT,Prod.mk.injEq]at h;obtain⟨v',hv,rfl,rfl⟩:=h;refine dH c7 fun H2 _=>?_;simp only[ak,hof,Option.bind_some,hx,hv,Option.map_some]
  ·cases h
 |move x=>simp only[ak,Option.some.injEq,Prod.mk.injEq]at h;obtain⟨rfl,rfl⟩:=h;exact dH c7 fun H2 _=>by simp only[ak]
 |assign x=>simp only[ak,Option.some.injEq,Prod.mk.injEq]at h;obtain⟨rfl,rfl⟩:=h;exact dH c7 fun H2 _=>by simp only[ak]
 |build t p=>simp only[ak,UT,Prod.mk.injEq]at h;obtain⟨v',hv,rfl,rfl⟩:=h;exact dH c7 fun H2 _=>by simp only[ak,hv,Option.map_some]
 |binOp a b c d e=>simp only[ak,UT,Prod.mk.injEq]at h;obtain⟨v',hv,rfl,rfl⟩:=h;exact dH c7 fun H2 _=>by simp only[ak,hv,Option.map_some]
 |unOp a b c=>simp only[ak,UT,Prod.mk.injEq]at h;obtain⟨v',hv,rfl,rfl⟩:=h;exact dH c7 fun H2 _=>by simp only[ak,hv,Option.map_some]
 |convert a b c =>
  simp only[ak,UT,Prod.mk.injEq]at h;obtain⟨v',hv,rfl,rfl⟩:=h;obtain⟨h1,h2⟩:=HX wf hv;refine dH h1 fun H2 ha=>?_;simp only[ak,h2 H2 ha,Option.map_some]
 |index a b c=>simp only[ak,UT,Prod.mk.injEq]at h;obtain⟨v',hv,rfl,rfl⟩:=h;exact dH c7 fun H2 _=>by simp only[ak,hv,Option.map_some]
 |extract a b=>simp only[ak,UT,Prod.mk.injEq]at h;obtain⟨v',hv,rfl,rfl⟩:=h;exact dH c7 fun H2 _=>by simp only[ak,hv,Option.map_some]
 |_=>simp[ak]at h
def BG {ρ':Env}(h:∀x,x∈o.operands->ar G ρ x=ar G ρ' x):ak P G ρ H id o=ak P G ρ' H id o:=by
 have hparts:∀(ps:Array (Nat × Operand)),(∀x,x∈(ps.toList.map (·.2)).toArray->ar G ρ x=ar G ρ' x)->ps.toList.map (fun p=>(p.1,ar G ρ p.2))=ps.toList.map (fun p=>(p.1,ar G ρ' p.2)):=by
  intro ps hp;refine Vn fun p hpm=>?_;rw[hp p.2 (by simpa using ⟨p.1,by simpa using hpm⟩)]
 have hlist:∀(ps:Array Operand),(∀x,x∈ps->ar G ρ x=ar G ρ' x)->ps.toList.map (ar G ρ)=ps.toList.map (ar G ρ'):=by
  intro ps hp;exact Vn fun p hpm=>hp p (by simpa using hpm)
 cases o with
 |build t ps=>simp only[ak];rw[hparts ps h]
 |buildSlice t len ps=>simp only[ak];rw[hparts ps h]
 |makeFunc fn f c =>
  simp only[ak];rw[hlist f fun x hx=>h x (by simp[Op.operands,hx]),hlist c fun x hx=>h x (by simp[Op.operands,hx])]
 |slice t x lo hi mx =>
  have hx:=h x (by simp[Op.operands]);have hlo:lo.map (ar G ρ)=lo.map (ar G ρ'):=by
   cases lo with
   |none=>rfl
   |some l=>simp only[Option.map_some];rw[h l (by simp[Op.operands])]
  have hhi:hi.map (ar G ρ)=hi.map (ar G ρ'):=by
   cases hi with
   |none=>rfl
   |some l=>simp only[Option.map_some];rw[h l (by simp[Op.operands])]
  simp only[ak,hx,hlo,hhi]
 |call c =>
  simp only[ak];rw[hlist c.args fun x hx=>h x (by
   simp only[Op.operands,Call.operands];split<;>simp[hx])]
 |pick c a b=>simp only[ak,h c (by simp[Op.operands]),h a (by simp[Op.operands]),h b (by simp[Op.operands])]
 |store t a x=>simp only[ak,h a (by simp[Op.operands]),h x (by simp[Op.operands])]
 |binOp op t x y u=>simp only[ak,h x (by simp[Op.operands]),h y (by simp[Op.operands])]
 |makeSlice t l c=>simp only[ak,h l (by simp[Op.operands]),h c (by simp[Op.operands])]
 |indexAddr t x i=>simp only[ak,h x (by simp[Op.operands]),h i (by simp[Op.operands])]
 |index t x i=>simp only[ak,h x (by simp[Op.operands]),h i (by simp[Op.operands])]
 |move x=>simp only[ak,h x (by simp[Op.operands])]
 |assign x=>simp only[ak,h x (by simp[Op.operands])]
 |box e x=>simp only[ak,h x (by simp[Op.operands])]
 |load e x=>simp only[ak,h x (by simp[Op.operands])]
 |nilCheck x=>simp only[ak,h x (by simp[Op.operands])]
 |unOp a b x=>simp only[ak,h x (by simp[Op.operands])]
 |convert a b x=>simp only[ak,h x (by simp[Op.operands])]
 |makeInterface t x=>simp only[ak,h x (by simp[Op.operands])]
 |fieldAddr s x f=>simp only[ak,h x (by simp[Op.operands])]
 |field s x f=>simp only[ak,h x (by simp[Op.operands])]
 |extract x i=>simp only[ak,h x (by simp[Op.operands])]
 |lookup t x i ok=>simp only[ak,h x (by simp[Op.operands]),h i (by simp[Op.operands])]
 |mapUpdate t m k x=>simp only[ak,h m (by simp[Op.operands]),h k (by simp[Op.operands]),h x (by simp[Op.operands])]
 |insert t m k x=>simp only[ak,h m (by simp[Op.operands]),h k (by simp[Op.operands]),h x (by simp[Op.operands])]
 |mapEntry t m k=>simp only[ak,h m (by simp[Op.operands]),h k (by simp[Op.operands])]
 |entryStore t m s x=>simp only[ak,h m (by simp[Op.operands]),h s (by simp[Op.operands]),h x (by simp[Op.operands])]
 |_=>rfl
end Go.Hx
namespace Go.Hx
variable {P:Program} {G:Nat->Option (List Zo)} {Γ Γ':aC} {H H':Zn} {w w':World}
variable {ρ:Env}{r:Nat}{g:Nat->Option Zu}{e:Option (Nat × Zu)}{x:Option Tmp}{t:Tmp}{v:Zo}
def bF (P:Program)(G:Nat->Option (List Zo))(fv:Zo)(args:List Zo)(H:Zn)(v:Zo)(rs:List Nat):Prop :=
 (∀r,r∈rs->r<H.A)/\∀H2:Zn,(∀r,r∈rs->H2.get r=H.get r)->H.A<=H2.A->ao P G fv args H2 fun r H3=>r=.ret v/\H3=H2
def bI (P:Program)(G:Nat->Option (List Zo))(o:Oper)(K:FP->St->Prop)(s:St):Prop :=
 match o.op with
 |.call { callee:=.value fv,args,.. }=>∃v rs,bF P G (ar G s.ρ fv) (args.toList.map (ar G s.ρ)) s.H v rs/\K ⟨[],rs⟩ ⟨aI s.ρ o.dst v,s.H⟩
 |op=>bq (ak P G s.ρ s.H s.H.A op) fun vH=>K (cG P G s.ρ s.H.A op) ⟨aI s.ρ o.dst vH.1,vH.2⟩
def fI (i:Nat)(f:FP)(acc:List (Nat × FP)):List (Nat × FP) :=
 match f with
 |⟨[],[]⟩=>acc
 |f=>(i,f) :: acc
def jt (b:Nat)(f:FP)(acc:List (Nat × FP)):Prop :=
 ∀p,p∈acc->b.testBit p.1=false->(∀r,r∈f.nD->r ∉ p.2.rs)/\(∀r,r∈p.2.nD->r ∉ f.rs)
def dR (P:Program)(G:Nat->Option (List Zo))(all:Array Oper)(tail:St->Prop):List Nat->Nat->List (Nat × FP)->List Oper->St->Prop
 |b :: bs,i,acc,o :: rest,s=>bq (gS all s.ρ o) fun t=>if t=true then bI P G o (fun f s'=>jt b f acc/\dR P G all tail bs (i+1) (fI i f acc) rest s') s
   else dR P G all tail bs (i+1) acc rest ⟨aI s.ρ o.dst (.lit undef),s.H⟩
 |_,_,_,[],s=>tail s
 | [],_,_,_ :: _,_=>False
def ya (o:Oper):List Nat:=(o.after.toList.filter fun e=>Region.binds .any e).map (·.on)
def uw (x:Option Tmp)(l:List Tmp):Bool:=match x with|some d=>!l.contains d|none=>true
def ux (all:Array Oper)(x y:Oper):Bool :=
 uw x.dst (y.looksAt all) && uw y.dst (x.looksAt all) && (match x.dst with|some d=>y.dst != some d|none=>true)
def eC (bs:List Nat)(i:Nat):Nat:=(bs[i]?).getD 0
def yb (bs:List Nat)(i:Nat)(o:Oper):Bool :=
 let es:=ya o
 let b:=eC bs i
 es.all (fun e=>decide (e<i)) && decide (b<2 ^ i) &&
 (List.range i).all (fun j=>!b.testBit j ||es.any fun e=>e == j ||(eC bs e).testBit j)
def sE (all:Array Oper)(bs:List Nat)(K:Nat):Bool :=
 decide (bs.length=K) && decide (K<=all.size) &&
 (List.range all.size).all (fun i=>match all[i]? with|some o=>yb (bs++(List.range' K (all.size-K)).map fun m=>2 ^ m-1) i o|none=>false) &&
 (List.range K).all fun i=>match all[i]? with
  |some o=>(List.range i).all fun j=>(eC bs i).testBit j ||(match all[j]? with|some o'=>ux all o' o|none=>false)
  |none=>false
structure Dt where
 v:Zo
 e:Option (Nat × Zu)
 al:Bool
 f:FP
def gW (all:Array Oper)(i:Nat):Option Tmp:=(all[i]?).bind (·.dst)
def bz (all:Array Oper)(d:Nat->Dt)(ρ0:Env):Nat->(Nat->Bool)->Env
 |0,_=>ρ0
 |n+1,D=>if D n then aI (bz all d ρ0 n D) (gW all n) (d n).v else bz all d ρ0 n D
def aW (d:Nat->Dt)(g0:Nat->Option Zu):Nat->(Nat->Bool)->Nat->Option Zu
 |0,_=>g0
 |n+1,D=>if D n then fg (d n).e (aW d g0 n D) else aW d g0 n D
def aM (d:Nat->Dt):Nat->Nat
 |0=>0
 |n+1=>aM d n+(if (d n).al then 1 else 0)
def dS (x:Dt):Option Nat:=x.e.map (·.1)
def qF (h:e.map (·.1)≠some r):fg e g r=g r:=by
 cases e with
 |none=>rfl
 |some kb =>
  simp only[fg];rw[UW];rintro rfl;exact h rfl
def qG (h:x≠some t):aI ρ x v t=ρ t:=by
 cases x with
 |none=>rfl
 |some d =>
  simp only[aI];rw[UW];rintro rfl;exact h rfl
def uy {ρ':Env}(h:ρ t=ρ' t):aI ρ x v t=aI ρ' x v t:=by
 cases x with
 |none=>exact h
 |some d=>simp only[aI,h]
def uz {g':Nat->Option Zu}(h:g r=g' r):fg e g r=fg e g' r:=by
 cases e with
 |none=>exact h
 |some kb=>simp only[fg,h]
def BH {y:Option Tmp}{u:Zo}(h:∀d,x=some d->y≠some d):aI (aI ρ x v) y u=aI (aI ρ y u) x v:=by
 funext t
 by_cases hx:x=some t
 ·rw[qG (h t hx)];exact uy (qG (h t hx)).symm
 ·rw[qG (ρ:=aI ρ y u) hx];exact uy (qG hx)
def HY {e':Option (Nat × Zu)}(h:∀r,e.map (·.1)=some r->e'.map (·.1)≠some r):fg e' (fg e g)=fg e (fg e' g):=by
 funext r
 by_cases hx:e.map (·.1)=some r
 ·rw[qF (h r hx)];exact uz (qF (h r hx)).symm
 ·rw[qF (g:=fg e' g) hx];exact uz (qF hx)
section
variable {all:Array Oper} {d d':Nat->Dt} {ρ0:Env} {g0 g0':Nat->Option Zu} {D D':Nat->Bool}
def oX {t:Tmp}:∀ {n:Nat},(∀j,j<n->gW all j=some t->D j=D' j)->bz all d ρ0 n D t=bz all d ρ0 n D' t:=by
 intro n
 induction n with
 |zero=>intro _;rfl
 |succ n ih =>
  intro h;have h0:=ih fun j hj=>h j V;simp only[bz];by_cases hd:gW all n=some t
  ·rw[h n V hd];split
   ·exact uy h0
   ·exact h0
  ·have:∀(b:Bool) (ρ:Env),(if b=true then aI ρ (gW all n) (d n).v else ρ) t=ρ t:=by
    intro b ρ;split
    ·exact qG hd
    ·rfl
   rw[this,this];exact h0
def xA {m:Nat}:∀ {n:Nat},m<=n->bz all d ρ0 n (fun j=>decide (j<m))=bz all d ρ0 m fun _=>true:=by
 have low:∀k,k<=m->bz all d ρ0 k (fun j=>decide (j<m))=bz all d ρ0 k fun _=>true:=by
  intro k
  induction k with
  |zero=>intro _;rfl
  |succ k ih =>
   intro hk;simp only[bz];rw[ih V,UX (by simp;omega)];simp
 intro n
 induction n with
 |zero =>
  intro hm;obtain rfl:m=0:=V
  exact low 0 (V)
 |succ n ih =>
  intro hm;by_cases h:m=n+1
  ·subst h;exact low (n+1) (V)
  ·simp only[bz];rw[UW (by simp;omega)];exact ih (V)
def oY {r:Nat}:∀ {n:Nat},(∀j,j<n->dS (d j)=some r->D j=D' j)->aW d g0 n D r=aW d g0 n D' r:=by
 intro n
 induction n with
 |zero=>intro _;rfl
 |succ n ih =>
  intro h;have h0:=ih fun j hj=>h j V;simp only[aW];by_cases hd:dS (d n)=some r
  ·rw[h n V hd];split
   ·exact uz h0
   ·exact h0
  ·have:∀(b:Bool) (g:Nat->Option Zu),(if b=true then fg (d n).e g else g) r=g r:=by
    intro b g;split
    ·exact qF hd
    ·rfl
   rw[this,this];exact h0
def xB {m:Nat}:∀ {n:Nat},m<=n->aW d g0 n (fun j=>decide (j<m))=aW d g0 m fun _=>true:=by
 have low:∀k,k<=m->aW d g0 k (fun j=>decide (j<m))=aW d g0 k fun _=>true:=by
  intro k
  induction k with
  |zero=>intro _;rfl
  |succ k ih =>
   intro hk;simp only[aW];rw[ih V,UX (by simp;omega)];simp
 intro n
 induction n with
 |zero =>
  intro hm;obtain rfl:m=0:=V
  exact low 0 (V)
 |succ n ih =>
  intro hm;by_cases h:m=n+1
  ·subst h;exact low (n+1) (V)
  ·simp only[aW];rw[UW (by simp;omega)];exact ih (V)
def se {r:Nat}:∀ {n:Nat},(g0 r=g0' r\/∃j,j<n/\D j=true/\dS (d j)=some r)->aW d g0 n D r=aW d g0' n D r:=by
 intro n
 induction n with
 |zero =>
  rintro(h|⟨j,hj,_⟩)
  ·exact h
  ·omega
 |succ n ih =>
  intro h;simp only[aW];by_cases hD:D n=true
  ·rw[UX hD,UX hD];by_cases ht:dS (d n)=some r
   ·cases he:(d n).e with
    |none=>simp[dS,he]at ht
    |some kb =>
     simp only[dS,he,Option.map_some,Option.some.injEq]at ht;simp only[fg];rw[UX ht.symm,UX ht.symm]
   ·refine uz (ih ?_);rcases h with h|⟨j,hj,h1,h2⟩
    ·exact .inl h
    ·by_cases hjn:j=n
     ·subst hjn;exact absurd h2 ht
     ·exact .inr ⟨j,V,h1,h2⟩
  ·rw[UW hD,UW hD];refine ih ?_;rcases h with h|⟨j,hj,h1,h2⟩
   ·exact .inl h
   ·by_cases hjn:j=n
    ·subst hjn;exact absurd h1 hD
    ·exact .inr ⟨j,V,h1,h2⟩
def xC {r:Nat}:∀ {n:Nat},(∀j,j<n->D j=true->dS (d j)≠some r)->aW d g0 n D r=g0 r:=by
 intro n
 induction n with
 |zero=>intro _;rfl
 |succ n ih =>
  intro h;simp only[aW];split
  ·rename_i hD;rw[qF (h n V hD)];exact ih fun j hj=>h j (V)
  ·exact ih fun j hj=>h j (V)
def bZ (D:Nat->Bool)(i:Nat):Nat->Bool:=fun j=>if j=i then true else D j
def xD {i:Nat}(hD:D i=false):∀ {n:Nat},i<n->(∀j,i<j->j<n->D j=true->∀t,gW all i=some t->gW all j≠some t) ->
  bz all d ρ0 n (bZ D i)=aI (bz all d ρ0 n D) (gW all i) (d i).v:=by
 intro n
 induction n with
 |zero=>intro h;omega
 |succ n ih =>
  intro hi h;by_cases hin:i=n
  ·subst hin;have h0:bz all d ρ0 i (bZ D i)=bz all d ρ0 i D:=funext fun t=>oX fun j hj _=>by simp[bZ,X2 hj]
   simp only[bz];rw[UX (by simp[bZ]),UW (by simp[hD]),h0]
  ·have hw:bZ D i n=D n:=(by simp[bZ,Ne.symm hin]);have h0:=ih V fun j h1 h2=>h j h1 V;simp only[bz,hw];split
   ·rename_i hDn;rw[h0];exact BH (h n V V hDn)
   ·exact h0
def xE {i:Nat}(hD:D i=false):∀ {n:Nat},i<n->(∀j,i<j->j<n->D j=true->∀t,dS (d i)=some t->dS (d j)≠some t) ->
  aW d g0 n (bZ D i)=fg (d i).e (aW d g0 n D):=by
 intro n
 induction n with
 |zero=>intro h;omega
 |succ n ih =>
  intro hi h;by_cases hin:i=n
  ·subst hin;have h0:aW d g0 i (bZ D i)=aW d g0 i D:=funext fun t=>oY fun j hj _=>by simp[bZ,X2 hj]
   simp only[aW];rw[UX (by simp[bZ]),UW (by simp[hD]),h0]
  ·have hw:bZ D i n=D n:=(by simp[bZ,Ne.symm hin]);have h0:=ih V fun j h1 h2=>h j h1 V;simp only[aW,hw];split
   ·rename_i hDn;rw[h0];exact HY (h n V V hDn)
   ·exact h0
def qy {m n:Nat}(h:m<=n):aM d m<=aM d n:=by
 induction n with
 |zero =>
  have:m=0:=V
  subst this;exact Nat.le_refl _
 |succ n ih =>
  by_cases hm:m=n+1
  ·subst hm;exact Nat.le_refl _
  ·exact VC (ih V) (by simp[aM])
def sf {n c:Nat}(h:c<aM d n):∃j,j<n/\(d j).al=true/\aM d j=c:=by
 induction n with
 |zero=>simp[aM]at h
 |succ n ih =>
  by_cases hc:c<aM d n
  ·obtain⟨j,h1,h2⟩:=ih hc;exact⟨j,V,h2⟩
  ·simp only[aM]at h;cases hal:(d n).al with
   |false=>simp[hal]at h;omega
   |true =>
    simp only[hal,if_true]at h;exact⟨n,V,hal,V⟩
def lU {i n:Nat}(h:i<n)(hal:(d i).al=true):aM d i<aM d n:=by
 have:=qy (d:=d) (m:=i+1) (n:=n) h;simp only[aM,hal,if_true]at this;omega
def sh {n:Nat}(h:∀j,j<n->d j=d' j):bz all d ρ0 n D=bz all d' ρ0 n D:=by
 induction n with
 |zero=>rfl
 |succ n ih=>simp only[bz];rw[ih fun j hj=>h j V,h n V]
def sj {n:Nat}(h:∀j,j<n->d j=d' j):aW d g0 n D=aW d' g0 n D:=by
 induction n with
 |zero=>rfl
 |succ n ih=>simp only[aW];rw[ih fun j hj=>h j V,h n V]
def fQ {n:Nat}(h:∀j,j<n->d j=d' j):aM d n=aM d' n:=by
 induction n with
 |zero=>rfl
 |succ n ih=>simp only[aM];rw[ih fun j hj=>h j V,h n V]
end
def ExecOk (P:Program)(G:Nat->Option (List Zo))(all:Array Oper)(o:Oper)(id:Nat)(s s':St):Prop :=
 (gS all s.ρ o=some false/\s'=⟨aI s.ρ o.dst (.lit undef),s.H⟩) \/
 (gS all s.ρ o=some true/\∃v,s'.ρ=aI s.ρ o.dst v /\
  (ak P G s.ρ s.H id o.op=some (v,s'.H) \/
   ∃fv args ats,o.op=.call ⟨.value fv,args,ats⟩/\s'.H=s.H/\ao P G (ar G s.ρ fv) (args.toList.map (ar G s.ρ)) s.H fun r H3=>r=.ret v/\H3=s.H))
def xF {n:Nat}{wb:ZR}{rd rb:Option Nat}{all:Array Oper}{o:Oper}{id i:Nat}{s s':St}{a:Act}{A:Act->World->Prop}{Q':Exit->Act->World->Prop}(ho:all[i]?=some o)(hd:eK n o=true)
  (hs:ZE P G n wb Γ s a w) (hr:dO Γ s.H rd rb) (h:ExecOk P G all o id s s')
  (hnext:∀ Γ' a' w',ZE P G n wb Γ' s' a' w'->Zy Γ s.H w Γ' s'.H w'->s.H.A<=s'.H.A->dO Γ' s'.H rd rb->(∃cv,a'=a.put o.dst cv)->A a' w'):
  wpOpIn (dV rb) 0 P all Q' i A a w:=by
 have hdst:∀d,o.dst=some d->d<n:=by
  intro d hd';unfold eK at hd;rw[hd']at hd;simpa using hd
 unfold wpOpIn;rw[ho];simp only;rcases h with ⟨hw,rfl⟩|⟨hw,v,hρ,h⟩
 ·rw[pf hs hw];simp only[Bool.false_eq_true,if_false];refine⟨fun _ _=>trivial,?_⟩;have hs':=jb (v:=.lit undef) (cv:=undef) hs hdst (Zy.refl Γ s.H w) Zm hs.heap (.lit _);exact hnext Γ _ w hs' (Zy.refl _ _ _) Zm hr ⟨_,rfl⟩
 ·rw[pf hs hw];simp only[if_true];obtain⟨ρ',H'⟩:=s';simp only at hρ;subst hρ;refine⟨fun _ _=>trivial,?_⟩;rcases h with hop|⟨fv,args,ats,hop,hH,hap⟩
  ·simp only at hop;rw[Oper.semAt_eq _ _ _ (fun c hc=>by rw[hc]at hop;simp[ak]at hop)];obtain⟨nx,cv,Γ',w',hrun,hnx,E,hn,R,hv⟩:=xT hs.heap (jr hs) hop;rw[hrun];have hri:=xW hr (xX hs.heap hop);have hs':=jb hs hdst E hn R hv;have hr':=hr.aY E hn hs.heap hri;rcases hnx with rfl|⟨rfl,rfl⟩
   ·exact hnext Γ' _ w' hs' E hn hr' ⟨_,rfl⟩
   ·exact hnext Γ' _ w' hs' E hn hr' ⟨_,rfl⟩
  ·simp only at hH;subst hH;rw[Oper.semAt_eq _ _ _ (fun c hc=>by rw[hc]at hop;cases hop)];obtain⟨d,h1,h2⟩:=hap Γ w (a.eval fv) (args.map a.eval) hs.heap (jr hs fv) ⟨Zj,fun i h1 h2=>by simp only[Ve,Xw,V4];exact jr hs _⟩;have hex:(execOp a.eval o).run P w=(invoke d.target d.args).run P w:=by
    unfold execOp;simp only[hop];unfold resolve;simp only;rw[aq h1]
   have hri:fG s.H rd:=by
    cases rd with
    |none=>trivial
    |some id =>
     obtain⟨b,st,pend,n,env,ps,asg,body,_,_,h3⟩:=hr;exact⟨_,_,_,_,_,_,_,h3⟩
   have cont:∀e w',fH P G Γ s.H w (fun r H3=>r=.ret v/\H3=s.H) e w'->(match e with
     |.returned v=>A (a.put o.dst v) w'
     |.panicked chain=>Q' (.panic chain) a w'
     |.outgrown=>LetsOut Q'):=by
    rintro e w' ⟨r,H',Γ',hend,⟨rfl,rfl⟩,R,E,hn⟩;have hr':=hr.aY E hn hs.heap hri;cases e with
    |returned cv=>exact hnext Γ' _ w' (jb hs hdst E hn R hend) E hn hr' ⟨_,rfl⟩
    |panicked chain=>exact hend.elim
    |outgrown=>exact hend.elim
   rw[hex];rcases h2 with ⟨f,as,h3,h4⟩|⟨l,f,tm,asg,body,h3,h4⟩|⟨cv,w',h3,h4⟩
   ·rw[h3];refine⟨fun hc=>by simp[Fence.wide]at hc,?_⟩;have h4':CallsIn (dV rb) 0 P f as w _:=h4;refine h4'.mono ?_;intro e w' hp;have:=cont e w' hp;cases e<;>exact this
   ·rw[h3];refine⟨fun hc=>by simp[Fence.wide]at hc,?_⟩;have h4':RoundIn (dV rb) 0 P l f tm asg body w _:=h4;refine h4'.mono ?_;intro e w' hp;have:=cont e w' hp;cases e<;>exact this
   ·rw[h3];exact cont (.returned cv) w' h4
def mB (d:Nat->Dt)(H0:Zn)(m:Nat):Zn:=⟨aW d H0.get m fun _=>true,H0.A+aM d m⟩
def canon (all:Array Oper)(d:Nat->Dt)(s0:St)(m:Nat):St:=⟨bz all d s0.ρ m fun _=>true,mB d s0.H m⟩
structure ZD (P:Program)(G:Nat->Option (List Zo))(all:Array Oper)(bs:List Nat)(s0:St)(d:Nat->Dt)(i:Nat):Prop where
 step:∀o,all[i]?=some o->∀ ρ2 H2,(∀t,t∈o.looksAt all->ρ2 t=(canon all d s0 i).ρ t)->(∀r,r∈(d i).f.rs->H2.get r=(canon all d s0 i).H.get r) ->
  ((d i).al=true->H2.get (s0.H.A+aM d i)=some .nr/\s0.H.A+aM d i≠H2.A)->s0.H.A+aM d i<=H2.A ->
  ExecOk P G all o (s0.H.A+aM d i) ⟨ρ2,H2⟩ ⟨aI ρ2 o.dst (d i).v,⟨fg (d i).e H2.get,H2.A⟩⟩
 nD:∀k b,(d i).e=some (k,b)->k∈(d i).f.nD/\((d i).al=false->k∈(d i).f.rs)
 al:(d i).al=true->∃b,(d i).e=some (s0.H.A+aM d i,b)
 lt:∀r,r∈(d i).f.rs->r<s0.H.A+aM d i
 apart:∀j,j<i->(eC bs i).testBit j=false->(∀r,r∈(d i).f.nD->r ∉ (d j).f.rs)/\(∀r,r∈(d j).f.nD->r ∉ (d i).f.rs)
def qH {all:Array Oper}{o:Oper}{ρ ρ':Env}(h:∀t,t∈o.looksAt all->ρ' t=ρ t):gS all ρ' o=gS all ρ o:=by
 unfold gS;cases hg:o.guard with
 |none=>rfl
 |some gw =>
  obtain⟨j,want⟩:=gw;simp only;cases hd:(all[j]?).bind (·.dst) with
  |none=>rfl
  |some d =>
   simp only;rw[h d (by simp[Oper.looksAt,hg,hd])]
def uA {all:Array Oper}{o:Oper}{ρ ρ':Env}(h:∀t,t∈o.looksAt all->ρ' t=ρ t):∀x,x∈o.op.operands->ar G ρ' x=ar G ρ x:=by
 intro x hx;cases x with
 |tmp t=>exact h t (XS _ (List.mem_filterMap.2 ⟨.tmp t,by simpa using hx,rfl⟩))
 |_=>rfl
def cC (d:Nat->Dt)(m:Nat)(x:Dt):Nat->Dt:=fun j=>if j=m then x else d j
def iq {d:Nat->Dt}{m:Nat}{x:Dt}{i:Nat}(h:i<m):d i=cC d m x i:=by simp[cC,X2 h]
def de {d:Nat->Dt}{m:Nat}{x:Dt}:cC d m x m=x:=by simp[cC]
def mC {all:Array Oper}{d d':Nat->Dt}{s0:St}{m:Nat}(h:∀j,j<m->d j=d' j):canon all d s0 m=canon all d' s0 m:=by
 unfold canon mB;rw[sh h,sj h,fQ h]
def ZD.below {all:Array Oper}{bs:List Nat}{s0:St}{d d':Nat->Dt}{i:Nat}(g:ZD P G all bs s0 d i)(h:∀j,j<=i->d j=d' j):ZD P G all bs s0 d' i:=by
 have hi:=h i Zm;have hn:aM d i=aM d' i:=fQ fun j hj=>h j V;have hc:canon all d s0 i=canon all d' s0 i:=mC fun j hj=>h j V;obtain⟨a,b,c,e,f⟩:=g;refine⟨?_,?_,?_,?_,?_⟩
 ·rw[<- hi,<- hn,<- hc];exact a
 ·rw[<- hi];exact b
 ·rw[<- hi,<- hn];exact c
 ·rw[<- hi,<- hn];exact e
 ·intro j hj hb;rw[<- hi,<- h j V];exact f j hj hb
def kP (d:Nat->Dt)(m:Nat)(acc:List (Nat × FP)):Prop:=∀j,j<m->(d j).f=⟨[],[]⟩\/(j,(d j).f)∈acc
def kP.add {d:Nat->Dt}{m:Nat}{acc:List (Nat × FP)}(h:kP d m acc)(x:Dt):kP (cC d m x) (m+1) (fI m x.f acc):=by
 intro j hj;have key:∀p,p∈acc->p∈fI m x.f acc:=by
  intro p hp;unfold fI;split
  ·exact hp
  ·exact W5 _ hp
 by_cases hjm:j=m
 ·subst hjm;rw[de];by_cases hf:x.f=⟨[],[]⟩
  ·exact .inl hf
  ·refine .inr ?_;unfold fI;split
   ·rename_i h0;exact absurd h0 hf
   ·exact List.mem_cons_self
 ·rw[<- iq (x:=x) V];exact(h j V).imp id (key _)
def sk {d:Nat->Dt}{m:Nat}{acc:List (Nat × FP)}{b:Nat}{f:FP}(hc:kP d m acc)(h:jt b f acc):∀j,j<m->b.testBit j=false->(∀r,r∈f.nD->r ∉ (d j).f.rs)/\(∀r,r∈(d j).f.nD->r ∉ f.rs):=by
 intro j hj hb;rcases hc j hj with h0|h1
 ·rw[h0];exact⟨fun r _ h=>(by cases h),fun r h=>(by cases h)⟩
 ·exact h _ h1 hb
def oZ {all:Array Oper}{d:Nat->Dt}{s0:St}{m:Nat}{x:Dt}{o:Oper}(ho:all[m]?=some o):
  canon all (cC d m x) s0 (m+1)=⟨aI (canon all d s0 m).ρ o.dst x.v,⟨fg x.e (canon all d s0 m).H.get,(canon all d s0 m).H.A+(if x.al then 1 else 0)⟩⟩:=by
 have hb:∀j,j<m->d j=cC d m x j:=fun j hj=>iq hj;unfold canon mB;simp only[bz,aW,aM,if_true,de];rw[<- sh hb,<- sj hb,<- fQ hb];simp only[gW,ho,Option.bind_some,WZ]
def o9 {all:Array Oper}{bs:List Nat}{s0:St}{d:Nat->Dt}{m:Nat}{x:Dt}(hg:∀i,i<m->ZD P G all bs s0 d i)(hx:ZD P G all bs s0 (cC d m x) m):
  ∀i,i<m+1->ZD P G all bs s0 (cC d m x) i:=by
 intro i hi;by_cases him:i=m
 ·subst him;exact hx
 ·exact(hg i V).below fun j hj=>iq (V)
def trace {all:Array Oper}{bs:List Nat}{s0:St}{tail:St->Prop}{K:Nat}(hbs:bs.length=K)(hK:K<=all.size):∀(k m:Nat) (d:Nat->Dt) (acc:List (Nat × FP)),k+m=K ->
  (∀i,i<m->ZD P G all bs s0 d i)->kP d m acc->gU (canon all d s0 m).H->dR P G all tail (bs.drop m) m acc ((all.toList.take K).drop m) (canon all d s0 m) ->
  ∃d',(∀i,i<K->ZD P G all bs s0 d' i)/\tail (canon all d' s0 K):=by
 intro k
 induction k with
 |zero =>
  intro m d acc hm hg hc wf h;obtain rfl:m=K:=V
  refine⟨d,hg,?_⟩;have:(all.toList.take m).drop m=[]:=by
   apply Yg;simp only[Vd];omega
  rw[this]at h;cases hb:bs.drop m with
  |nil=>rw[hb]at h;simpa only[dR] using h
  |cons b bs'=>rw[hb]at h;simpa only[dR] using h
 |succ k ih =>
  intro m d acc hm hg hc wf h;have hmK:m<K:=V
  have hms:m<all.size:=V
  have ho:all[m]?=some all[m]:=U6 hms;have hbm:bs.drop m=eC bs m :: bs.drop (m+1):=by
   rw[VT V];congr 1;simp[eC,UV (show m<bs.length by omega)]
  have hom:(all.toList.take K).drop m=all[m] :: (all.toList.take K).drop (m+1):=by
   rw[VT (by simp only[Vd,WT];omega)];congr 1;simp
  rw[hbm,hom]at h;simp only[dR]at h;obtain⟨t,ht,h⟩:=h;have hnext:(canon all d s0 m).H.A=s0.H.A+aM d m:=rfl;cases t with
  |false =>
   simp only[Bool.false_eq_true,if_false]at h
   let x:Dt:=⟨.lit undef,none,false,⟨[],[]⟩⟩
   have hb:∀j,j<m->d j=cC d m x j:=fun j hj=>iq hj;have hcan:canon all (cC d m x) s0 (m+1)=⟨aI (canon all d s0 m).ρ all[m].dst (.lit undef),(canon all d s0 m).H⟩:=oZ ho;have hgx:ZD P G all bs s0 (cC d m x) m:=by
    refine⟨?_,?_,?_,?_,?_⟩
    ·rw[de,<- mC hb];intro o ho' ρ2 H2 h1 h2 h3 _;rw[ho]at ho';cases ho';refine .inl ⟨?_,rfl⟩;simp only;rw[qH h1,ht]
    ·rw[de];intro k b he;cases he
    ·rw[de];intro he;cases he
    ·rw[de];intro r hr;cases hr
    ·rw[de];intro j hj hbit;exact⟨fun r hr=>(by cases hr),fun r hr hr'=>(by cases hr')⟩
   refine ih (m+1) (cC d m x) acc V (o9 hg hgx) (hc.add x) ?_ ?_
   ·rw[hcan];exact wf
   ·rw[hcan];exact h
  |true =>
   simp only[if_true]at h;unfold bI at h;split at h
   ·rename_i fv args ats hop;obtain⟨v,rs,⟨hlt,hcall⟩,hap,h⟩:=h
    let x:Dt:=⟨v,none,false,⟨[],rs⟩⟩
    have hb:∀j,j<m->d j=cC d m x j:=fun j hj=>iq hj;have hcan:canon all (cC d m x) s0 (m+1)=⟨aI (canon all d s0 m).ρ all[m].dst v,(canon all d s0 m).H⟩:=oZ ho;have hgx:ZD P G all bs s0 (cC d m x) m:=by
     refine⟨?_,?_,?_,?_,?_⟩
     ·rw[de,<- mC hb];intro o ho' ρ2 H2 h1 h2 h3 h4;rw[ho]at ho';cases ho';refine .inr ⟨?_,v,rfl,.inr ⟨fv,args,ats,hop,rfl,?_⟩⟩
      ·simp only;rw[qH h1,ht]
      ·have hev:=uA (G:=G) h1;have e1:ar G ρ2 fv=ar G (canon all d s0 m).ρ fv:=hev fv (by simp[hop,Op.operands,Call.operands]);have e2:args.toList.map (ar G ρ2)=args.toList.map (ar G (canon all d s0 m).ρ) :=
        Vn fun y hy=>hev y (by simp only[hop,Op.operands,Call.operands];simp;exact .inr (by simpa using hy))
       simp only;rw[e1,e2];exact hcall H2 h2 (by rw[hnext,fQ hb];exact h4)
     ·rw[de];intro k b he;cases he
     ·rw[de];intro he;cases he
     ·rw[de,<- fQ hb];exact hlt
     ·rw[de];intro j hj hbit;rw[<- iq hj];exact sk hc hap j hj hbit
    refine ih (m+1) (cC d m x) _ V (o9 hg hgx) (hc.add x) ?_ ?_
    ·rw[hcan];exact wf
    ·rw[hcan];exact h
   ·obtain⟨⟨v,H'⟩,hop,hap,h⟩:=h;obtain⟨e,al,hget,hnx,heff,hal,hlt,hloc⟩:=BE wf hop
    let x:Dt:=⟨v,e,al,cG P G (canon all d s0 m).ρ (canon all d s0 m).H.A all[m].op⟩
    have hb:∀j,j<m->d j=cC d m x j:=fun j hj=>iq hj;have hcan:canon all (cC d m x) s0 (m+1)=⟨aI (canon all d s0 m).ρ all[m].dst v,H'⟩:=by
     rw[oZ ho];congr 1;cases H';simp only at hget hnx;simp only[Zn.mk.injEq];refine⟨hget.symm,?_⟩;rw[hnx];simp only[x];cases al<;>simp
    have hgx:ZD P G all bs s0 (cC d m x) m:=by
     refine⟨?_,?_,?_,?_,?_⟩
     ·rw[de,<- mC hb,<- fQ hb];intro o ho' ρ2 H2 h1 h2 h3 h4;rw[ho]at ho';cases ho';refine .inr ⟨?_,v,rfl,.inl ?_⟩
      ·simp only;rw[qH h1,ht]
      ·simp only;rw[BG (ρ':=(canon all d s0 m).ρ) (uA h1)];exact hloc H2 h2 h3
     ·rw[de];exact heff
     ·rw[de,<- fQ hb];exact hal
     ·rw[de,<- fQ hb];exact hlt
     ·rw[de];intro j hj hbit;rw[<- iq hj];exact sk hc hap j hj hbit
    have wf':gU H':=by
     intro id b hid;rw[hget]at hid;rw[hnx];cases e with
     |none =>
      have:=wf id b hid;split<;>omega
     |some kb =>
      obtain⟨k0,b0⟩:=kb;simp only[fg]at hid;split at hid
      ·rename_i hk;subst hk;cases al with
       |true =>
        obtain⟨b1,hb1⟩:=hal rfl;simp only[Option.some.injEq,Prod.mk.injEq]at hb1;simp only[if_true];omega
       |false =>
        have:=hlt _ ((heff id b0 rfl).2 rfl);simpa using this
      ·have:=wf id b hid;split<;>omega
    refine ih (m+1) (cC d m x) _ V (o9 hg hgx) (hc.add x) ?_ ?_
    ·rw[hcan];exact wf'
    ·rw[hcan];exact h
end Go.Hx
namespace Go.Hx
variable {P:Program} {G:Nat->Option (List Zo)} {Γ Γ':aC} {H H':Zn} {w w':World}
variable {bs:List Nat}{K i j:Nat}{D:Nat->Bool}{d:Nat->Dt}{o:Oper}{s0:St}
structure ZY (all:Array Oper)(bs:List Nat)(K:Nat):Prop where
 len:bs.length=K
 le:K<=all.size
 down:∀i o,all[i]?=some o->∀e,e∈o.after->Region.binds .any e=true->e.on<i
 just:∀i o j,all[i]?=some o->(if i<K then (eC bs i).testBit j=true else j<i)->∃e,e∈o.after/\Region.binds .any e=true/\(e.on=j\/(if e.on<K then (eC bs e.on).testBit j=true else j<e.on))
 apart:∀i j oi oj,i<K->j<i->all[i]?=some oi->all[j]?=some oj->(eC bs i).testBit j=false->ux all oj oi=true
def BL {k:Nat}:k∈ya o↔∃e,e∈o.after/\Region.binds .any e=true/\e.on=k:=by
 simp[ya,and_assoc]
def BM {N:Nat}(hl:bs.length=K)(hi:i<N)(hK:K<=N):
  (eC (bs++(List.range' K (N-K)).map fun m=>2 ^ m-1) i).testBit j=true↔(if i<K then (eC bs i).testBit j=true else j<i):=by
 unfold eC;by_cases h:i<K
 ·rw[UX h,Vf V]
 ·rw[UW h,VA V,List.getElem?_map,List.getElem?_range' V];simp only[Option.map_some,Option.getD_some,Wz,decide_eq_true_eq];have:K+1*(i-bs.length)=i:=V
  rw[this]
def BN {all:Array Oper}(h:sE all bs K=true):ZY all bs K:=by
 unfold sE at h;simp only[Vr,decide_eq_true_eq,Vo,U9]at h;obtain⟨⟨⟨hlen,hle⟩,hone⟩,hap⟩:=h;have hlt:∀i o,all[i]?=some o->i<all.size:=fun i o ho=>(VV.1 ho).1;have hdown:∀i o,all[i]?=some o->∀e,e∈o.after->Region.binds .any e=true->e.on<i:=by
  intro i o ho e he hb;have h1:=hone i (hlt i o ho);rw[ho]at h1;simp only[yb,Vr,Vo,decide_eq_true_eq]at h1;exact h1.1.1 e.on (BL.2 ⟨e,he,hb,rfl⟩)
 refine⟨hlen,hle,hdown,?_,?_⟩
 ·intro i o j ho hj;have hi:=hlt i o ho;have h1:=hone i hi;rw[ho]at h1;simp only[yb,Vr,Vo,decide_eq_true_eq,U9]at h1;obtain⟨⟨_,hb⟩,h2⟩:=h1;have hbit:=(BM (j:=j) hlen hi hle).2 hj;have hji:j<i:=by
   rcases Vj j i with h|h
   ·exact h
   ·have:=Wc (U4 hb (U7 V h));rw[hbit]at this;cases this
  have h3:=h2 j hji;rw[hbit]at h3;simp only[Bool.not_true,Bool.false_or,XQ,Vu,beq_iff_eq]at h3;obtain⟨k,hk,h4⟩:=h3;obtain⟨e,he,hbe,rfl⟩:=BL.1 hk;refine⟨e,he,hbe,h4.imp id fun h5=>?_⟩;exact(BM (j:=j) hlen (Nat.lt_trans (hdown i o ho e he hbe) hi) hle).1 h5
 ·intro i j oi oj hi hj hoi hoj hbit;have h1:=hap i hi;rw[hoi]at h1;simp only[Vo,U9]at h1;have h2:=h1 j hj;rw[hbit,hoj]at h2;simpa using h2
def BO {x:Option Tmp}{l:List Tmp}{t:Tmp}(h:uw x l=true)(hx:x=some t):t ∉ l:=by
 subst hx;simpa[uw] using h
def qI {all:Array Oper}{x y:Oper}(h:ux all x y=true):(∀t,x.dst=some t->t ∉ y.looksAt all)/\(∀t,y.dst=some t->t ∉ x.looksAt all)/\(∀t,x.dst=some t->y.dst≠some t):=by
 simp only[ux,Vr]at h;obtain⟨⟨h1,h2⟩,h3⟩:=h;refine⟨fun t ht=>BO h1 ht,fun t ht=>BO h2 ht,fun t ht=>?_⟩;rw[ht]at h3;simpa using h3
def uF (all:Array Oper)(L:Nat->Bool):Prop:=∀i o,L i=true->all[i]?=some o->∀e,e∈o.after->Region.binds .any e=true->L e.on=true
def ZY.ahead {all:Array Oper}(S:ZY all bs K){L:Nat->Bool}(hL:uF all L):∀i o j,all[i]?=some o->(∀e,e∈o.after->Region.binds .any e=true->L e.on=true) ->
  (if i<K then (eC bs i).testBit j=true else j<i)->L j=true:=by
 intro i
 induction i using Nat.strongRecOn with
 |_ i ih =>
  intro o j ho hdir hj;obtain⟨e,he,hb,h⟩:=S.just i o j ho hj;have hon:=hdir e he hb;rcases h with rfl|h
  ·exact hon
  ·have hlt:=S.down i o ho e he hb;have hi:=(VV.1 ho).1;exact ih e.on hlt all[e.on] j (U6 V) (hL e.on _ hon (U6 V)) h
def bP (H:Zn)(k:Nat):Zn:=⟨fun j=>if H.A<=j/\j<H.A+k then some .nr else H.get j,H.A+k⟩
def sH (H:Zn)(k:Nat):Zy Γ H w Γ (bP H k) w where
 os:=rfl
 tape:=rfl
 output:=rfl
 size:=Zm
 ng:=fun _ _ h=>⟨rfl,h⟩
 na:=fun id h1 _ x' hx=>by
  refine⟨x',?_,Zu.le_refl _ _ _⟩;simp only[bP]at hx;rw[UW V]at hx;exact hx
 nA:=fun _ _=>rfl
 kind:=.refl _
 newb:=.refl _ _
def qJ (w:World):Zy Γ H w Γ H { w with drawn:=w.drawn+1 } where
 os:=rfl
 tape:=rfl
 output:=rfl
 size:=Zm
 ng:=fun _ _ h=>⟨rfl,h⟩
 na:=fun _ _ _ x' hx=>⟨x',hx,Zu.le_refl _ _ _⟩
 nA:=fun _ _=>rfl
 kind:=.refl _
 newb:=.refl _ _
def Zw.move (R:Zw P G Γ H w)(hheap:w'.heap=w.heap)(E:Zy Γ H w Γ H' w')(hn:H.A<=H'.A)(hget:∀id b,H'.get id=some b->H.get id=some b\/(b=.nr/\H.get id=none/\id<H'.A))(hsame:∀id b,H.get id=some b->H'.get id=some b):Zw P G Γ H' w' where
 J id g e cells hg:=by
  rcases hget _ _ hg with h|h
  ·have h1:=R.J id g e cells h;cases hΓ:Γ id with
   |none=>rw[hΓ]at h1;exact h1
   |some y =>
    obtain⟨b,base,n⟩:=y;rw[hΓ]at h1;obtain⟨c,a1,a2,a3,a4⟩:=h1;exact⟨c,by rw[hheap];exact a1,a2,a3,fun i hi=>let ⟨cv,b1,b2⟩:=a4 i hi;⟨cv,b1,b2.aY E hn⟩⟩
  ·cases h.1
 loop id st pend n env ps asg body hg:=by
  rcases hget _ _ hg with h|h
  ·obtain⟨b,rr,a1,a2,a3,a4,a5,a6,a7,a8,a9⟩:=R.loop id st pend n env ps asg body h;exact⟨b,rr,a1,by rw[hheap];exact a2,a3,a4,a5,a6,a7,a8,fun t ht=>(a9 t ht).aY E hn⟩
  ·cases h.1
 mp id es hg:=by
  rcases hget _ _ hg with h|h
  ·obtain⟨b,a1,a2⟩:=R.mp id es h;exact⟨b,a1,by rw[hheap];exact a2⟩
  ·cases h.1
 nr id hg:=by
  rcases hget _ _ hg with h|h
  ·exact R.nr id h
  ·cases hΓ:Γ id with
   |none=>rfl
   |some x =>
    obtain⟨y,hy⟩:=R.nF id x hΓ;rw[h.2.1]at hy;cases hy
 inj:=R.inj
 nF id x h:=let ⟨y,hy⟩:=R.nF id x h;⟨y,hsame _ _ hy⟩
 lt id b base n h:=by rw[hheap];exact R.lt id b base n h
 A id y h:=by
  rcases hget _ _ h with h|h
  ·exact U4 (R.A id y h) hn
  ·exact h.2.2
 nE g cells h:=(R.nE g cells h).aY E hn
 gsz:=R.qf E
def BP (R:Zw P G Γ H w)(k:Nat):Zw P G Γ (bP H k) w:=by
 have hnone:∀id,H.A<=id->H.get id=none:=by
  intro id h;cases hg:H.get id with
  |none=>rfl
  |some y=>have:=R.A id y hg;omega
 refine R.move rfl (sH H k) (by simp[bP]) (fun id b hb=>?_) (fun id b hb=>?_)
 ·simp only[bP]at hb;split at hb
  ·rename_i hc;simp only[Option.some.injEq]at hb;exact .inr ⟨hb.symm,hnone id hc.1,hc.2⟩
  ·exact .inl hb
 ·simp only[bP];rw[UW]
  ·exact hb
  ·have:=R.A id b hb;omega
def ZE.move {n:Nat}{wb:ZR}{s:St}{a:Act}(hs:ZE P G n wb Γ s a w){H':Zn}(E:Zy Γ s.H w Γ H' w')(hn:s.H.A<=H'.A)(R:Zw P G Γ H' w'):ZE P G n wb Γ ⟨s.ρ,H'⟩ a w' :=
 ⟨hs.size,fun t=>(hs.env t).aY E hn,R,hs.defers.aY E,VC hs.low E.size⟩
def dO.move {rd rb:Option Nat}(h:dO Γ H rd rb)(hk:∀id b,H.get id=some b->H'.get id=some b):dO Γ H' rd rb:=by
 cases rd with
 |none=>exact h
 |some id =>
  obtain⟨b,st,pend,n,env,ps,asg,body,h1,h2,h3⟩:=h;exact⟨b,_,_,_,_,_,_,_,h1,h2,hk _ _ h3⟩
def fa (all:Array Oper)(d:Nat->Dt)(s0:St)(K:Nat)(D:Nat->Bool):St :=
 ⟨bz all d s0.ρ K D,⟨aW d (bP s0.H (aM d K)).get K D,s0.H.A+aM d K⟩⟩
def nY {all:Array Oper}(h:all[j]?=some o):gW all j=o.dst:=by simp[gW,h]
def xG {all:Array Oper}(S:ZY all bs K)(hg:∀i,i<K->ZD P G all bs s0 d i)(hi:i<K)(ho:all[i]?=some o)(hDi:D i=false)
  (hdown:∀j,j<i->(eC bs i).testBit j=true->D j=true) (hup:∀j,i<j->j<K->D j=true->(eC bs j).testBit i=false):
  ExecOk P G all o (s0.H.A+aM d i) (fa all d s0 K D) (fa all d s0 K (bZ D i)):=by
 have hget:∀j,j<K->∃oj,all[j]?=some oj:=fun j hj=>⟨_,U6 (U4 hj S.le)⟩
 have hgi:=hg i hi;have tgtE:∀j r,j<K->dS (d j)=some r->r∈(d j).f.nD/\(((d j).al=true/\r=s0.H.A+aM d j)\/((d j).al=false/\r∈(d j).f.rs)):=by
  intro j r hj ht;unfold dS at ht;cases he:(d j).e with
  |none=>rw[he]at ht;cases ht
  |some kb =>
   obtain⟨k,b⟩:=kb;rw[he]at ht;simp only[Option.map_some,Option.some.injEq]at ht;subst ht;obtain⟨h1,h2⟩:=(hg j hj).nD k b he;refine⟨h1,?_⟩;cases hal:(d j).al with
   |true =>
    obtain⟨b',hb'⟩:=(hg j hj).al hal;rw[he]at hb';simp only[Option.some.injEq,Prod.mk.injEq]at hb';exact .inl ⟨rfl,hb'.1⟩
   |false=>exact .inr ⟨rfl,h2 hal⟩
 have rangeK:∀r,r<s0.H.A+aM d i->((bP s0.H (aM d K)).get r=s0.H.get r\/∃j,j<i/\(fun _:Nat=>true) j=true/\dS (d j)=some r):=by
  intro r hr;by_cases h:s0.H.A<=r
  ·obtain⟨j,h1,h2,h3⟩:=sf (d:=d) (n:=i) (c:=r-s0.H.A) V;obtain⟨b,hb⟩:=(hg j V).al h2;refine .inr ⟨j,h1,rfl,?_⟩;unfold dS;rw[hb,h3];simp only[Option.map_some,Option.some.injEq];omega
  ·left;simp only[bP];rw[UW V]
 have henv:∀t,t∈o.looksAt all->bz all d s0.ρ K D t=(canon all d s0 i).ρ t:=by
  intro t ht;show _=bz all d s0.ρ i (fun _=>true) t;rw[<- xA (all:=all) (d:=d) (ρ0:=s0.ρ) (m:=i) (n:=K) V];refine oX fun j hj hdj=>?_;obtain⟨oj,hoj⟩:=hget j hj;rw[nY hoj]at hdj;rcases Wl j i with h|rfl|h
  ·cases hb:(eC bs i).testBit j with
   |true=>rw[hdown j h hb];simp[h]
   |false=>exact absurd ht ((qI (S.apart i j o oj hi h ho hoj hb)).1 t hdj)
  ·rw[hDi];simp
  ·cases hD:D j with
   |false=>symm;simp;omega
   |true=>exact absurd ht ((qI (S.apart j i oj o hj h hoj ho (hup j h hj hD))).2.1 t hdj)
 have hheap:∀r,r∈(d i).f.rs->aW d (bP s0.H (aM d K)).get K D r=(canon all d s0 i).H.get r:=by
  intro r hr;show _=aW d s0.H.get i (fun _=>true) r;rw[<- se (g0:=(bP s0.H (aM d K)).get) (rangeK r (hgi.lt r hr)),<- xB (m:=i) (n:=K) V];refine oY fun j hj ht=>?_;obtain⟨he,_⟩:=tgtE j r hj ht;rcases Wl j i with h|rfl|h
  ·cases hb:(eC bs i).testBit j with
   |true=>rw[hdown j h hb];simp[h]
   |false=>exact absurd hr ((hgi.apart j h hb).2 r he)
  ·rw[hDi];simp
  ·cases hD:D j with
   |false=>symm;simp;omega
   |true=>exact absurd hr (((hg j hj).apart i h (hup j h hj hD)).1 r he)
 have hal:(d i).al=true->aW d (bP s0.H (aM d K)).get K D (s0.H.A+aM d i)=some .nr/\s0.H.A+aM d i≠s0.H.A+aM d K:=by
  intro hal;have hlt:=lU hi hal;refine⟨?_,V⟩;obtain⟨b,hb⟩:=hgi.al hal;have heff:=(hgi.nD _ _ hb).1;rw[xC]
  ·simp only[bP];rw[UX V]
  ·intro j hj hD ht;obtain⟨h1,h2⟩:=tgtE j _ hj ht;rcases Wl j i with h|rfl|h
   ·rcases h2 with ⟨h2,h3⟩|⟨h2,h3⟩
    ·have:=lU h h2;omega
    ·have:=(hg j hj).lt _ h3;have:=qy (d:=d) (XK h);omega
   ·rw[hDi]at hD;cases hD
   ·rcases h2 with ⟨h2,h3⟩|⟨h2,h3⟩
    ·have:=lU h hal;omega
    ·exact absurd h3 (((hg j hj).apart i h (hup j h hj hD)).2 _ heff)
 have:=hgi.step o ho (bz all d s0.ρ K D) ⟨aW d (bP s0.H (aM d K)).get K D,s0.H.A+aM d K⟩ henv hheap hal (by have:=qy (d:=d) (XK hi);simp only;omega);have e1:bz all d s0.ρ K (bZ D i)=aI (bz all d s0.ρ K D) o.dst (d i).v:=by
  rw[xD hDi hi,nY ho];intro j h hj hD t hti;obtain⟨oj,hoj⟩:=hget j hj;rw[nY ho]at hti;rw[nY hoj];exact(qI (S.apart j i oj o hj h hoj ho (hup j h hj hD))).2.2 t hti
 have e2:aW d (bP s0.H (aM d K)).get K (bZ D i)=fg (d i).e (aW d (bP s0.H (aM d K)).get K D):=by
  refine xE hDi hi fun j h hj hD r hti htj=>?_;obtain⟨a1,a2⟩:=tgtE i r hi hti;obtain⟨b1,b2⟩:=tgtE j r hj htj;obtain⟨c1,c2⟩:=(hg j hj).apart i h (hup j h hj hD);rcases b2 with ⟨b2,b3⟩|⟨b2,b3⟩
  ·rcases a2 with ⟨a2,a3⟩|⟨a2,a3⟩
   ·have:=lU h a2;omega
   ·exact c1 r b1 a3
  ·exact c2 r a1 b3
 unfold fa;rw[e1,e2];exact this
def sr {all:Array Oper}(hg:∀i,i<K->ZD P G all bs s0 d i)(hD:∀j,j<K->D j=true):fa all d s0 K D=canon all d s0 K:=by
 unfold fa canon mB;have e1:bz all d s0.ρ K D=bz all d s0.ρ K fun _=>true:=funext fun t=>oX fun j hj _=>hD j hj;have e2:aW d (bP s0.H (aM d K)).get K D=aW d s0.H.get K fun _=>true:=by
  funext r
  rw[oY (D':=fun _=>true) fun j hj _=>hD j hj];refine se ?_;by_cases h:s0.H.A<=r/\r<s0.H.A+aM d K
  ·obtain⟨j,h1,h2,h3⟩:=sf (d:=d) (n:=K) (c:=r-s0.H.A) V;obtain⟨b,hb⟩:=(hg j h1).al h2;refine .inr ⟨j,h1,rfl,?_⟩;unfold dS;rw[hb,h3];simp only[Option.map_some,Option.some.injEq];omega
  ·left;simp only[bP];rw[UW h]
 rw[e1,e2]
def xH {all:Array Oper}(hD:∀j,j<K->D j=false):fa all d s0 K D=⟨s0.ρ,bP s0.H (aM d K)⟩:=by
 unfold fa;have e1:∀n,n<=K->bz all d s0.ρ n D=s0.ρ:=by
  intro n
  induction n with
  |zero=>intro _;rfl
  |succ n ih=>intro h;simp only[bz];rw[UW (by simp[hD n h])];exact ih (V)
 have e2:∀n,n<=K->aW d (bP s0.H (aM d K)).get n D=(bP s0.H (aM d K)).get:=by
  intro n
  induction n with
  |zero=>intro _;rfl
  |succ n ih=>intro h;simp only[aW];rw[UW (by simp[hD n h])];exact ih (V)
 rw[e1 K Zm,e2 K Zm];rfl
end Go.Hx
namespace Go.Hx
variable {P:Program} {G:Nat->Option (List Zo)} {Γ Γ':aC} {H H':Zn} {w w':World}
variable {listed:Array Bool}{i n:Nat}
def fJ (listed:Array Bool):Nat->Nat
 |0=>0
 |n+1=>fJ listed n+(if listed.getD n true=false then 1 else 0)
def yi (hi:listed.getD i true=false):∀n,fJ (listed.setIfInBounds i true) n+(if i<n then 1 else 0)=fJ listed n:=by
 have hsz:i<listed.size:=by
  rcases Vj i listed.size with h|h
  ·exact h
  ·rw[VJ,Wt h]at hi;cases hi
 intro n
 induction n with
 |zero=>simp[fJ]
 |succ n ih =>
  simp only[fJ];by_cases hin:n=i
  ·subst hin;have:(listed.setIfInBounds n true).getD n true=true:=(by simp[hsz]);have h2:(if n<n then 1 else 0)=0:=UW (XT n);have h3:(if n<n+1 then 1 else 0)=1:=UX (VY n);rw[h2]at ih;rw[this,h3,hi];simp;omega
  ·rw[getD_set_ne true (Ne.symm hin)];have h4:(if i<n+1 then 1 else 0)=(if i<n then 1 else 0):=by
    by_cases h:i<n
    ·rw[UX h,UX (show i<n+1 by omega)]
    ·rw[UW h,UW (show ¬i<n+1 by omega)]
   rw[h4];generalize (if i<n then 1 else 0)=x at ih ⊢;omega
def uG (h:fJ listed n=0):∀j,j<n->listed.getD j true=true:=by
 induction n with
 |zero=>intro j hj;omega
 |succ n ih =>
  simp only[fJ]at h;intro j hj;by_cases hjn:j=n
  ·subst hjn;cases hl:listed.getD j true with
   |true=>rfl
   |false=>rw[hl]at h;simp at h
  ·exact ih V j (V)
def uH :∀m,m<=n->fJ (Array.replicate n false) m=m:=by
 intro m
 induction m with
 |zero=>intro _;rfl
 |succ m ih =>
  intro h;simp only[fJ];rw[ih V,UX];rw[VJ,Xa,UX V];rfl
def pj (h:i<listed.size)(x y:Bool):listed.getD i x=listed.getD i y:=by
 simp[VJ,U6 h]
section
variable {n:Nat} {wb:ZR} {rd rb:Option Nat} {Q:AX->St->Prop} {all:Array Oper} {bs:List Nat} {K:Nat} {id:Nat} {dr:Bool}
def uI (S:ZY all bs K)(hfit:∀o,o∈all.toList->eK n o=true):∀(r m:Nat) (listed:Array Bool) (s:St) (Γ:aC) (a:Act) (w:World),r+m=all.size->K<=m->listed.size=all.size->fJ listed all.size=r ->
  (∀j,j<all.size->(listed.getD j true=true↔j<m))->opsV P G rd Q all (all.toList.drop m) s->ZE P G n wb Γ s a w->dO Γ s.H rd rb ->
  ∀(Q':Exit->Act->World->Prop),(∀e a' w',ir P G n wb rd rb (wr (.region id all dr)) Γ s.H a w Q e a' w'->Q' e a' w')->wpAnyIn (dV rb) 0 P .any all Q' r listed a w:=by
 intro r
 induction r with
 |zero =>
  intro m listed s Γ a w hm hKm hsz hc hl h hs hr Q' hq;have:all.toList.drop m=[]:=Yg (by simp;omega);rw[this]at h;refine⟨?_,hq _ _ _ (.here (x:=.normal) trivial h hs hr)⟩;rw[List.eq_nil_iff_forall_not_mem];intro j hj;obtain⟨h1,o,ho,_⟩:=mem_ready.1 hj;have hjs:=(VV.1 ho).1;rw[(hl j hjs).2 V]at h1;cases h1
 |succ r ih =>
  intro m listed s Γ a w hm hKm hsz hc hl h hs hr Q' hq;have hms:m<all.size:=V
  have ho:all[m]?=some all[m]:=U6 hms;have hmun:listed.getD m true=false:=by
   cases hx:listed.getD m true with
   |false=>rfl
   |true=>have:=(hl m hms).1 hx;omega
  have hready:m∈Region.ready .any all listed:=by
   refine mem_ready.2 ⟨hmun,_,ho,fun e he hb=>?_⟩;have:=S.down m _ ho e he hb;rw[pj V false true];exact(hl e.on V).2 this
  refine⟨fun h0=>(by rw[h0]at hready;cases hready),fun i hi=>?_⟩;obtain⟨hiun,oi,hoi,hall⟩:=mem_ready.1 hi;have his:=(VV.1 hoi).1;have him:m<=i:=by
   rcases Vj i m with h|h
   ·rw[(hl i his).2 h]at hiun;cases hiun
   ·exact h
  have hL:uF all fun j=>listed.getD j false:=by
   intro k ok hk hok e he hb;have hks:=(VV.1 hok).1;have h1:=S.down k ok hok e he hb;simp only at hk ⊢;rw[pj V false true]at hk ⊢;have:=(hl k hks).1 hk;exact(hl _ V).2 (V)
  have hieq:i=m:=by
   rcases Vj m i with h|h
   ·have h1:=S.ahead hL i oi m hoi hall (by rw[UW V];exact h);rw[pj V false true,hmun]at h1;cases h1
   ·omega
  subst hieq;have hlist:all.toList.drop i=all[i] :: all.toList.drop (i+1):=by
   rw[VT (by simpa using hms)];simp
  rw[hlist]at h;simp only[opsV]at h;have hl':∀j,j<all.size->((listed.setIfInBounds i true).getD j true=true↔j<i+1):=by
   intro j hj;by_cases hji:j=i
   ·subst hji;simp
   ·rw[getD_set_ne true (Ne.symm hji),hl j hj];omega
  have hc':fJ (listed.setIfInBounds i true) all.size=r:=by
   have:=yi hmun all.size;rw[UX hms]at this;omega
  have hd:=hfit all[i] Zj;obtain⟨t,ht,h⟩:=h;unfold wpOpIn;rw[ho];simp only;rw[pf hs ht];cases t with
  |true =>
   simp only[if_true]at h ⊢;refine xY hd hs hr h ?_ ?_
   ·rintro Γ' s' a' w' hk hs' E hn hr' ⟨cv,rfl⟩;exact ih (i+1) _ s' Γ' _ w' V V (by simpa using hsz) hc' hl' hk hs' hr' Q' fun e a'' w'' hp=>hq _ _ _ (hp.step E hn (nV hms cv) fun _ h=>h)
   ·rintro Γ' s' a' w' chain hp hc hs' E hn hr' rfl;exact hq _ _ _ ⟨.panic,s',Γ',hc,hp,hs',E,hn,hr',.refl _ _⟩
  |false =>
   simp only[Bool.false_eq_true,if_false]at h ⊢;refine⟨fun _ _=>trivial,?_⟩;have hdst:∀d,all[i].dst=some d->d<n:=by
    intro d hd';unfold eK at hd;rw[hd']at hd;simpa using hd
   have hs':=jb (v:=.lit undef) (cv:=undef) hs hdst (Zy.refl Γ s.H w) Zm hs.heap (.lit _);exact ih (i+1) _ ⟨aI s.ρ all[i].dst (.lit undef),s.H⟩ Γ _ w V V (by simpa using hsz) hc' hl' h hs' hr Q' fun e a'' w'' hp=>hq _ _ _ (hp.step (Zy.refl _ _ _) Zm (nV hms _) fun _ h=>h)
def xI (S:ZY all bs K)(hfit:∀o,o∈all.toList->eK n o=true){d:Nat->Dt}{s0:St}(hg:∀i,i<K->ZD P G all bs s0 d i)(htail:opsV P G rd Q all (all.toList.drop K) (canon all d s0 K)):
  ∀(r:Nat) (listed:Array Bool) (D:Nat->Bool) (Γ:aC) (a:Act) (w:World),listed.size=all.size->fJ listed all.size=r->(∀j,j<all.size->listed.getD j true=D j)->(∀j,D j=true->j<K)->uF all D ->
  ZE P G n wb Γ (fa all d s0 K D) a w->dO Γ (fa all d s0 K D).H rd rb ->
  ∀(Q':Exit->Act->World->Prop),(∀e a' w',ir P G n wb rd rb (wr (.region id all dr)) Γ (fa all d s0 K D).H a w Q e a' w'->Q' e a' w')->wpAnyIn (dV rb) 0 P .any all Q' r listed a w:=by
 intro r
 induction r with
 |zero =>
  intro listed D Γ a w hsz hc hl hlow hL hs hr Q' hq;have hall:∀j,j<K->D j=true:=fun j hj=>by rw[<- hl j (U4 hj S.le)];exact uG hc j (U4 hj S.le)
  have hKs:K=all.size:=by
   rcases Vj K all.size with h|h
   ·have h1:=uG hc K h;rw[hl K h]at h1;have:=hlow K h1;omega
   ·have:=S.le;omega
  rw[sr hg hall]at hs hr hq;exact uI S hfit 0 K listed _ Γ a w V Zm hsz hc (fun j hj=>by rw[hl j hj];exact⟨hlow j,hall j⟩) htail hs hr Q' hq
 |succ r ih =>
  intro listed D Γ a w hsz hc hl hlow hL hs hr Q' hq;by_cases hall:∀j,j<K->D j=true
  ·rw[sr hg hall]at hs hr hq;have hcount:∀m,m<=all.size->fJ listed m=m-K:=by
    intro m
    induction m with
    |zero=>intro _;simp[fJ]
    |succ m ihm =>
     intro hm;simp only[fJ];rw[ihm V,hl m V];by_cases hmK:m<K
     ·rw[hall m hmK];simp;omega
     ·have:D m=false:=by
       cases hD:D m with
       |false=>rfl
       |true=>exact absurd (hlow m hD) hmK
      rw[this];simp;omega
   have h1:=hcount all.size Zm;exact uI S hfit (r+1) K listed _ Γ a w (by have:=S.le;omega) Zm hsz hc (fun j hj=>by rw[hl j hj];exact⟨hlow j,hall j⟩) htail hs hr Q' hq
  ·have hex:∃j,j<K/\D j=false:=by
    by_cases h:∃j,j<K/\D j=false
    ·exact h
    ·refine absurd (fun j hj=>?_) hall;cases hD:D j with
     |true=>rfl
     |false=>exact absurd ⟨j,hj,hD⟩ h
   have least:∀k,(∃j,j<k/\j<K/\D j=false)->∃j,j<K/\D j=false/\∀i,i<j->D i=true:=by
    intro k
    induction k with
    |zero=>rintro⟨j,hj,_⟩;omega
    |succ k ihk =>
     rintro⟨j,h1,h2,h3⟩;by_cases h:∃j,j<k/\j<K/\D j=false
     ·exact ihk h
     ·refine⟨j,h2,h3,fun i hi=>?_⟩;cases hD:D i with
      |true=>rfl
      |false=>exact absurd ⟨i,V,V,hD⟩ h
   obtain⟨j0,hj0K,hj0,hbelow⟩:=least K (let ⟨j,h1,h2⟩:=hex;⟨j,h1,h1,h2⟩);have hj0s:j0<all.size:=U4 hj0K S.le;have hr0:j0∈Region.ready .any all listed:=by
    refine mem_ready.2 ⟨by rw[hl j0 hj0s];exact hj0,_,U6 hj0s,fun e he hb=>?_⟩;have hlt:=S.down j0 _ (U6 hj0s) e he hb;rw[pj V false true,hl e.on V];exact hbelow _ hlt
   refine⟨fun h0=>(by rw[h0]at hr0;cases hr0),fun i hi=>?_⟩;obtain⟨hiun,oi,hoi,hdir⟩:=mem_ready.1 hi;have his:=(VV.1 hoi).1;have hdirD:∀e,e∈oi.after->Region.binds .any e=true->D e.on=true:=fun e he hb=>by
    have:=S.down i oi hoi e he hb;rw[<- hl e.on V,<- pj V false true];exact hdir e he hb
   have hahead:=S.ahead hL i oi;have hiK:i<K:=by
    rcases Vj i K with h|h
    ·exact h
    ·have:=hahead j0 hoi hdirD (by rw[UW V];omega);rw[hj0]at this;cases this
   have hDi:D i=false:=(by rw[<- hl i his];exact hiun);have hex:=xG (P:=P) (G:=G) S hg hiK hoi hDi (fun j hj hb=>hahead j hoi hdirD (by rw[UX hiK];exact hb)) (fun j h1 h2 hD=>by
    cases hb:(eC bs j).testBit i with
    |false=>rfl
    |true =>
     have hjs:j<all.size:=U4 h2 S.le;have:=S.ahead hL j _ i (U6 hjs) (fun e he hbe=>hL j _ hD (U6 hjs) e he hbe) (by rw[UX h2];exact hb);rw[hDi]at this;cases this)
   have hoi':oi=all[i]:=by
    rw[U6 his]at hoi;exact(Option.some.inj hoi).symm
   refine xF hoi (hfit oi (by rw[hoi'];simp)) hs hr hex ?_;rintro Γ' a' w' hs' E hn hr' ⟨cv,rfl⟩;have hc':fJ (listed.setIfInBounds i true) all.size=r:=by
    have:=yi hiun all.size;rw[UX his]at this;omega
   refine ih (listed.setIfInBounds i true) (bZ D i) Γ' _ w' (by simpa using hsz) hc' ?_ ?_ ?_ hs' hr' Q' fun e a'' w'' hp=>hq _ _ _ (hp.step E hn (by rw[hoi'];exact nV his cv) fun _ h=>h)
   ·intro j hj;by_cases hji:j=i
    ·subst hji;simp[bZ]
    ·rw[getD_set_ne true (Ne.symm hji),hl j hj];simp[bZ,hji]
   ·intro j hj;by_cases hji:j=i
    ·subst hji;exact hiK
    ·simp only[bZ,UW hji]at hj;exact hlow j hj
   ·intro k ok hk hok e he hb;by_cases hki:k=i
    ·subst hki;rw[hoi]at hok;cases hok;have:=hdirD e he hb;simp only[bZ];split
     ·rfl
     ·exact this
    ·simp only[bZ,UW hki]at hk;have:=hL k ok hk hok e he hb;simp only[bZ];split
     ·rfl
     ·exact this
def W.draw {s:St}(K:Nat)(bs:List Nat)(hm:P.follows .mixedOrders=true)(hfit:all.toList.all (eK n)=true)(hst:sE all bs K=true)
  (h:dR P G all (opsV P G rd Q all (all.toList.drop K)) bs 0 [] (all.toList.take K) s):W P G n rd (.region id all true) Q s:=by
 intro wb Γ a w rb hs hr;have S:=BN hst;have hfit':∀o,o∈all.toList->eK n o=true:=fun o ho=>Vo.1 hfit o ho;have wf:gU s.H:=fun id b hb=>hs.heap.A id b hb;have hcan0:canon all (fun _=>⟨.lit undef,none,false,⟨[],[]⟩⟩) s 0=s:=rfl;obtain⟨d,hg,htail⟩:=trace (P:=P) (G:=G) (all:=all) (bs:=bs) (s0:=s) (tail:=opsV P G rd Q all (all.toList.drop K)) S.len S.le K 0 (fun _=>⟨.lit undef,none,false,⟨[],[]⟩⟩) [] (V)
  (fun i hi=>V) (fun j hj=>V) (by rw[hcan0];exact wf) (by rw[hcan0];exact h)
 refine wpIn_region_any hm ?_
 let w1:World:={ w with drawn:=w.drawn+1 }
 have R1:Zw P G Γ s.H w1:=hs.heap.move rfl (qJ w) Zm (fun id b hb=>.inl hb) fun id b hb=>hb;have hs1:ZE P G n wb Γ s a w1:=hs.move (qJ w) Zm R1;have hs2:ZE P G n wb Γ ⟨s.ρ,bP s.H (aM d K)⟩ a w1:=hs1.move (sH _ _) (by simp[bP]) (BP R1 _);have hr2:dO Γ (bP s.H (aM d K)) rd rb:=hr.move fun id b hb=>by
  simp only[bP];rw[UW]
  ·exact hb
  ·have:=hs.heap.A id b hb;omega
 have e0:fa all d s K (fun _=>false)=⟨s.ρ,bP s.H (aM d K)⟩:=xH fun _ _=>rfl;refine xI (wb:=wb) (id:=id) (dr:=true) S hfit' hg htail all.size _ (fun _=>false) Γ a w1 Zj (uH _ Zm) ?_ ?_ ?_ ?_ ?_ _ ?_
 ·intro j hj;rw[VJ,Xa,UX hj];rfl
 ·intro j hj;cases hj
 ·intro i o hi;cases hi
 ·rw[e0];exact hs2
 ·rw[e0];exact hr2
 ·rw[e0];intro e a' w' hp;refine hp.step ?_ (by simp[bP]) (.refl _ _) fun _ h=>h;exact Zy.trans (qJ w) Zm (sH _ _)
end
end Go.Hx
namespace Go.Hx
variable {P:Program} {G:Nat->Option (List Zo)}
variable {α β:Type}
def nX (a:α)(K:α->Prop):bq (some a) K=K a:=by simp[bq]
def sF (K:α->Prop):bq none K=False:=by simp[bq]
def yc (o:Option α)(f:α->Option β)(K:β->Prop):bq (o.bind f) K=bq o fun a=>bq (f a) K:=by
 cases o<;>simp[bq]
def iy (o:Option α)(f:α->β)(K:β->Prop):bq (o.map f) K=bq o fun a=>K (f a):=by
 cases o<;>simp[bq]
def BI (c:Prop)[Decidable c](a:Option α)(K:α->Prop):bq (if c then a else none) K=(c/\bq a K):=by
 by_cases h:c<;>simp[h,bq]
def uB {o:Option α}{K K':α->Prop}(h:∀a,K a=K' a):bq o K=bq o K':=by
 have:K=K':=funext h;subst this;rfl
def HZ (p q:Prop):jc true p q=p:=by simp[jc]
def Ia (p q:Prop):jc false p q=q:=by simp[jc]
def jc.mk {t:Bool}{p q:Prop}(h1:t=true->p)(h2:t=false->q):jc t p q:=⟨h1,h2⟩
def Ib {f:FuncId}{args args':List Zo}{H H':Zn}{K:Zt->Zn->Prop}(h2:args=args')(h3:H=H'):ae P G f args H K=ae P G f args' H' K:=by
 rw[h2,h3]
theorem Ic {n:Nat}{rd:Option Nat}{c:Code}{Q:AX->St->Prop}{s s':St}(h:s=s'):W P G n rd c Q s=W P G n rd c Q s':=by rw[h]
attribute [congr] Ib Ic
def Ie (K:St->Prop)(Q:AX->St->Prop)(s:St):kQ K Q .normal s=K s:=(rfl)
def If (K:St->Prop)(Q:AX->St->Prop)(i:Nat)(s:St):kQ K Q (.exit i) s=Q (.exit i) s:=(rfl)
def Ig (K:St->Prop)(Q:AX->St->Prop)(i:Nat)(s:St):kQ K Q (.goto i) s=Q (.goto i) s:=(rfl)
def Ih (K:St->Prop)(Q:AX->St->Prop)(s:St):kQ K Q .ret s=Q .ret s:=(rfl)
def Ii (K:St->Prop)(Q:AX->St->Prop)(s:St):kQ K Q .panic s=Q .panic s:=(rfl)
def Ij (i:Nat)(Q:AX->St->Prop)(s:St):mF i Q .normal s=Q .normal s:=(rfl)
def Ik (i j:Nat)(Q:AX->St->Prop)(s:St):mF i Q (.exit j) s=if j=i then Q .normal s else Q (.exit j) s:=(rfl)
def Il (i j:Nat)(Q:AX->St->Prop)(s:St):mF i Q (.goto j) s=Q (.goto j) s:=(rfl)
def Im (i:Nat)(Q:AX->St->Prop)(s:St):mF i Q .ret s=Q .ret s:=(rfl)
def Io (i:Nat)(Q:AX->St->Prop)(s:St):mF i Q .panic s=Q .panic s:=(rfl)
def noGoto_normal (Q:AX->St->Prop)(s:St):noGoto Q .normal s=Q .normal s:=(rfl)
def noGoto_exit (i:Nat)(Q:AX->St->Prop)(s:St):noGoto Q (.exit i) s=Q (.exit i) s:=(rfl)
def noGoto_ret (Q:AX->St->Prop)(s:St):noGoto Q .ret s=Q .ret s:=(rfl)
def noGoto_panic (Q:AX->St->Prop)(s:St):noGoto Q .panic s=Q .panic s:=(rfl)
section code
variable {n:Nat} {rd:Option Nat} {Q:AX->St->Prop} {s:St}
def Ip:vc P G n rd .skip Q s=Q .normal s:=(rfl)
def Iq (l:Nat):vc P G n rd (.label l) Q s=Q .normal s:=(rfl)
def Ir (id:Nat)(ops:Array Oper):vc P G n rd (.region id ops false) Q s=opsV P G rd Q ops ops.toList s:=(rfl)
def Is (id:Nat)(ops:Array Oper):vc P G n rd (.region id ops true) Q s=W P G n rd (.region id ops true) Q s:=(rfl)
def It (a b:Code):vc P G n rd (.seq a b) Q s=vc P G n rd a (kQ (vc P G n rd b Q) Q) s:=(rfl)
def Iu (id:Nat)(c:Code):vc P G n rd (.block id c) Q s=vc P G n rd c (mF id Q) s:=(rfl)
def Iv (c:Code):vc P G n rd (.loop c) Q s=W P G n rd (.loop c) Q s:=(rfl)
def Iw (f:Operand)(ps:Array Tmp)(asg c:Code):vc P G n rd (.rangeFunc f ps asg c) Q s=W P G n rd (.rangeFunc f ps asg c) Q s:=(rfl)
def Ix (i:Nat):vc P G n rd (.exit i) Q s=Q (.exit i) s:=(rfl)
def Iy (c:Code):vc P G n rd (.scope c) Q s=vc P G n rd c (noGoto Q) s:=(rfl)
def Iz (i:Nat):vc P G n rd (.goto i) Q s=Q (.goto i) s:=(rfl)
def IA:vc P G n rd .ret Q s=Q .ret s:=(rfl)
def BJ:Zo->Option Bool
 |.lit (.bool t)=>some t
 |_=>none
def IB (t:Bool):BJ (.lit (.bool t))=some t:=rfl
def IC (c:Operand)(a b:Code):vc P G n rd (.cond c a b) Q s=bq (BJ (ar G s.ρ c)) fun t=>jc t (vc P G n rd a Q s) (vc P G n rd b Q s):=by
 simp only[vc];congr 1
end code
def ID (ρ:Env)(t:Tmp):ar G ρ (.tmp t)=ρ t:=rfl
def IE (ρ:Env)(v:Value):ar G ρ (.const v)=.lit v:=rfl
def IF (ρ:Env)(f:FuncId):ar G ρ (.func f)=.Z f [] []:=rfl
def IG (ρ:Env)(d:Tmp)(v:Zo)(t:Tmp):aI ρ (some d) v t=if t=d then v else ρ t:=rfl
def IH (ρ:Env)(v:Zo):aI ρ none v=ρ:=rfl
def II (ws:Nat)(ρ ρ₀:Env)(t:Nat):mask ws ρ ρ₀ t=if ws / 2 ^ t % 2=1 then ρ t else ρ₀ t:=rfl
def iv:Zo->Int
 |.lit (.int _ n)=>n
 |_=>0
def bh (k:IntKind)(n:Int):iv (.lit (.int k n))=n:=rfl
def yd (l:List Zo)(t:Nat):dC l t=(l[t]?).getD (.lit undef):=rfl
def IJ (rs:List ResultVar)(H:Zn)(K:Zt->Zn->Prop)(s:St):qD P G rs H K .ret s=bq (fS P s.H s.ρ rs) fun vs=>aj P G H K (kR vs) s.H:=(rfl)
def IK (rs:List ResultVar)(H:Zn)(K:Zt->Zn->Prop)(s:St):qD P G rs H K .normal s=bq (fS P s.H s.ρ rs) fun vs=>aj P G H K (kR vs) s.H:=(rfl)
def IL (H:Zn)(ρ:Env):fS P H ρ []=some []:=rfl
def IM (H:Zn)(ρ:Env)(t:Tmp)(r:List ResultVar):fS P H ρ (.tmp t :: r)=(fS P H ρ r).map (ρ t :: ·):=rfl
def IN (H:Zn)(ρ:Env)(a:Tmp)(t:TypeId)(r:List ResultVar):fS P H ρ (.cell a t :: r)=(im P H t (ρ a)).bind fun v=>(fS P H ρ r).map (v :: ·):=rfl
def IP (v:Zo):kR [v]=v:=rfl
def IQ (v u:Zo)(r:List Zo):kR (v :: u :: r)=.nf (v :: u :: r):=rfl
def IR:kR []=.nf []:=rfl
section ops
variable {rd:Option Nat} {Q:AX->St->Prop} {K:St->Prop} {s:St} {d:Option Tmp} {ty:TypeId} {pos:String} {aft:Array Edge} {g:Option (Nat × Bool)}
def IS (all:Array Oper):opsV P G rd Q all [] s=Q .normal s:=(rfl)
def IT (all:Array Oper)(op:Op)(rest:List Oper):opsV P G rd Q all (⟨d,op,ty,pos,aft,none⟩ :: rest) s=aX P G rd Q ⟨d,op,ty,pos,aft,none⟩ (opsV P G rd Q all rest) s:=by
 simp[opsV,gS,nX]
def IU (all:Array Oper)(op:Op)(rest:List Oper)(j:Nat)(want:Bool):opsV P G rd Q all (⟨d,op,ty,pos,aft,some (j,want)⟩ :: rest) s =
  bq (gS all s.ρ ⟨d,op,ty,pos,aft,some (j,want)⟩) fun t=>if t=true then aX P G rd Q ⟨d,op,ty,pos,aft,some (j,want)⟩ (opsV P G rd Q all rest) s else opsV P G rd Q all rest ⟨aI s.ρ d (.lit undef),s.H⟩:=(rfl)
def IV (P:Program)(G:Nat->Option (List Zo))(fv:Zo)(args:List Zo)(H:Zn)(K:Zt->Zn->Prop)(_d:TagR K:=.mk):Prop:=ao P G fv args H K
def IW (fv:Operand)(args:Array Operand)(ats:Array TypeId):aX P G rd Q ⟨d,.call ⟨.value fv,args,ats⟩,ty,pos,aft,g⟩ K s =
  IV P G (ar G s.ρ fv) (args.toList.map (ar G s.ρ)) s.H fun r H'=>fG H' rd/\match r with
   |.ret v=>K ⟨aI s.ρ d v,H'⟩
   |.panic=>Q .panic ⟨s.ρ,H'⟩:=(rfl)
def IX (x:Operand):aX P G rd Q ⟨d,.panic x,ty,pos,aft,g⟩ K s=((∃t v,(ar G s.ρ x)=.lit (.iface t v))/\Q .panic s):=(rfl)
def IY (x:Operand):aX P G rd Q ⟨d,.move x,ty,pos,aft,g⟩ K s=K ⟨aI s.ρ d (ar G s.ρ x),s.H⟩:=by simp[aX,ak,nX]
def IZ (x:Operand):aX P G rd Q ⟨d,.assign x,ty,pos,aft,g⟩ K s=K ⟨aI s.ρ d (ar G s.ρ x),s.H⟩:=by simp[aX,ak,nX]
def I0 (c a b:Operand):aX P G rd Q ⟨d,.pick c a b,ty,pos,aft,g⟩ K s=bq (match ar G s.ρ c with|.lit (.bool t)=>some t|_=>none) fun t=>K ⟨aI s.ρ d (if t then ar G s.ρ a else ar G s.ρ b),s.H⟩:=by
 simp only[aX,ak];split<;>simp_all[nX,sF]
def I1 (e:TypeId):aX P G rd Q ⟨d,.alloc e,ty,pos,aft,g⟩ K s=bq (bS P e) fun z=>bq (s.H.lay s.H.A (.J 0 e z)) fun H'=>K ⟨aI s.ρ d (.O s.H.A 0 0),H'⟩:=by
 simp only[aX,ak,yc];exact uB fun _=>iy ..
def I3 (e:TypeId)(x:Operand):aX P G rd Q ⟨d,.box e x,ty,pos,aft,g⟩ K s=bq (s.H.lay s.H.A (.J 0 e (ar G s.ρ x).cells)) fun H'=>K ⟨aI s.ρ d (.O s.H.A 0 0),H'⟩:=by
 simp[aX,ak,iy]
def I4 (t:TypeId)(parts:Array (Nat × Operand)):aX P G rd Q ⟨d,.build t parts,ty,pos,aft,g⟩ K s=bq (r8 P t (parts.toList.map fun p=>(p.1,ar G s.ρ p.2))) fun v=>K ⟨aI s.ρ d v,s.H⟩:=by
 simp[aX,ak,iy]
def I5 (t:TypeId)(len:Nat)(parts:Array (Nat × Operand)):aX P G rd Q ⟨d,.buildSlice t len parts,ty,pos,aft,g⟩ K s =
  bq (nL P s.H s.H.A t len (parts.toList.map fun p=>(p.1,ar G s.ρ p.2))) fun vH=>K ⟨aI s.ρ d vH.1,vH.2⟩:=by
 simp[aX,ak]
def I6 (t:TypeId)(a:Operand):aX P G rd Q ⟨d,.load t a,ty,pos,aft,g⟩ K s=bq (im P s.H t (ar G s.ρ a)) fun v=>K ⟨aI s.ρ d v,s.H⟩:=by
 simp[aX,ak,iy]
def I7 (t:TypeId)(a x:Operand):aX P G rd Q ⟨d,.store t a x,ty,pos,aft,g⟩ K s=((P.underlying t).isSome=true/\bq (j9 P s.H t (ar G s.ρ a) (ar G s.ρ x)) fun H'=>K ⟨aI s.ρ d (.lit undef),H'⟩):=by
 simp[aX,ak,BI,iy]
def I9 (x:Operand):aX P G rd Q ⟨d,.nilCheck x,ty,pos,aft,g⟩ K s=bq (lT s.H (ar G s.ρ x)) fun v=>K ⟨aI s.ρ d v,s.H⟩:=by
 simp[aX,ak,iy]
def Ja (op:BinOp)(t:TypeId)(x y:Operand)(u:TypeId):aX P G rd Q ⟨d,.binOp op t x y u,ty,pos,aft,g⟩ K s =
  sB P op t (lV s.H op (ar G s.ρ x) (ar G s.ρ y)) (fun v=>K ⟨aI s.ρ d v,s.H⟩) (bq (aU P op t x y (ar G s.ρ x) (ar G s.ρ y)) fun v=>K ⟨aI s.ρ d v,s.H⟩):=by
 simp[aX,ak,iy]
def Jb (op:BinOp)(t:TypeId)(Kb:Zo->Prop)(p:Prop):sB P op t none Kb p=p:=rfl
def Jc (op:BinOp)(t:TypeId)(k:Bool)(Kb:Zo->Prop)(p:Prop):sB P op t (some k) Kb p=(sA (P.underlying t)=true/\∀b:Bool,(k=true->b=false)->Kb (.lit (.bool (if op == .neq then !b else b)))):=rfl
def Jd (e:TypeId):sA (some (.slice e))=true:=rfl
def Je (H:Zn)(op:BinOp)(v:Value)(y:Zo):lV H op (.lit v) y=none:=by
 unfold lV;split<;>rfl
def Jf (H:Zn)(n:Nat)(cells:List Zo):lV H .eql (.Q n cells) (.lit (.slice none 0 0))=some (decide (0<n)):=rfl
def Jg (H:Zn)(n:Nat)(cells:List Zo):lV H .neq (.Q n cells) (.lit (.slice none 0 0))=some (decide (0<n)):=rfl
def Jh:(BinOp.eql == BinOp.neq)=false:=rfl
def Ji:(BinOp.neq == BinOp.neq)=true:=rfl
def Jj (op:UnOp)(t:TypeId)(x:Operand):aX P G rd Q ⟨d,.unOp op t x,ty,pos,aft,g⟩ K s=bq (qu P op (ar G s.ρ x)) fun v=>K ⟨aI s.ρ d v,s.H⟩:=by
 simp[aX,ak,iy]
def Jk (a b:TypeId)(x:Operand):aX P G rd Q ⟨d,.convert a b x,ty,pos,aft,g⟩ K s=bq (lS P s.H a b (ar G s.ρ x)) fun v=>K ⟨aI s.ρ d v,s.H⟩:=by
 simp[aX,ak,iy]
def Jl (t:TypeId)(x:Operand):aX P G rd Q ⟨d,.makeInterface t x,ty,pos,aft,g⟩ K s =
  bq (match (ar G s.ρ x).cU with|some v=>(aQ P (Instr.makeInterface t v)).map Zo.lit|none=>none) fun v=>K ⟨aI s.ρ d v,s.H⟩:=by
 simp only[aX,ak];split<;>simp_all[sF,iy]
def Jm (f:FuncId)(first cap:Array Operand):aX P G rd Q ⟨d,.makeFunc (.func f) first cap,ty,pos,aft,g⟩ K s=K ⟨aI s.ρ d (.Z f (first.toList.map (ar G s.ρ)) (cap.toList.map (ar G s.ρ))),s.H⟩:=by
 simp[aX,ak,nX]
def Jn (t:TypeId)(l c:Operand):aX P G rd Q ⟨d,.makeSlice t l c,ty,pos,aft,g⟩ K s=bq (mA P s.H s.H.A t (ar G s.ρ l) (ar G s.ρ c)) fun vH=>K ⟨aI s.ρ d vH.1,vH.2⟩:=by
 simp[aX,ak]
def Jo (t:TypeId)(x:Operand)(lo hi:Option Operand):aX P G rd Q ⟨d,.slice t x lo hi none,ty,pos,aft,g⟩ K s =
  bq (nJ P s.H t (ar G s.ρ x) (lo.map (ar G s.ρ)) (hi.map (ar G s.ρ))) fun v=>K ⟨aI s.ρ d v,s.H⟩:=by
 simp[aX,ak,iy]
def uC (P:Program)(H:Zn)(s:TypeId)(f:Nat)(x:Zo):Option Zo :=
 (bL P s f).bind fun of=>match x with
  |.O id gen off=>(H.na id gen).map fun _=>.O id gen (off+of.1)
  |.ni cells off=>some (.ni cells (off+of.1))
  |_=>none
def Jp (t:TypeId)(x:Operand)(f:Nat):aX P G rd Q ⟨d,.fieldAddr t x f,ty,pos,aft,g⟩ K s=bq (uC P s.H t f (ar G s.ρ x)) fun v=>K ⟨aI s.ρ d v,s.H⟩:=by
 simp only[aX,ak,uC,yc];refine uB fun of=>?_;split<;>simp_all[sF,iy,nX]
def uD (P:Program)(H:Zn)(t:TypeId)(x i:Zo):Option Zo:=match i with
 |.lit (.int _ i)=>nI P H t x i
 |_=>none
def Jq (t:TypeId)(x i:Operand):aX P G rd Q ⟨d,.indexAddr t x i,ty,pos,aft,g⟩ K s=bq (uD P s.H t (ar G s.ρ x) (ar G s.ρ i)) fun v=>K ⟨aI s.ρ d v,s.H⟩:=by
 simp only[aX,ak,uD];split<;>simp_all[sF,iy]
def Jr (t:TypeId)(x i:Operand):aX P G rd Q ⟨d,.index t x i,ty,pos,aft,g⟩ K s=bq (oW P t (ar G s.ρ x) (ar G s.ρ i)) fun v=>K ⟨aI s.ρ d v,s.H⟩:=by
 simp[aX,ak,iy]
def Js (t:Operand)(i:Nat):aX P G rd Q ⟨d,.extract t i,ty,pos,aft,g⟩ K s=bq (nN (ar G s.ρ t) i) fun v=>K ⟨aI s.ρ d v,s.H⟩:=by
 simp[aX,ak,iy]
def Jt (b:Builtin)(args:Array Operand)(ats:Array TypeId):aX P G rd Q ⟨d,.call ⟨.builtin b,args,ats⟩,ty,pos,aft,g⟩ K s =
  bq (gR P s.H s.H.A b ats.toList (args.toList.map (ar G s.ρ))) fun vH=>K ⟨aI s.ρ d vH.1,vH.2⟩:=by
 simp[aX,ak]
end ops
def builtin_len (H:Zn)(id:Nat)(t:TypeId)(x:Zo):gR P H id .len [t] [x]=(nK P H t x).map fun v=>(v,H):=rfl
def builtin_append (H:Zn)(id:Nat)(t u:TypeId)(s x:Zo):gR P H id .append [t,u] [s,x]=bU P H id t u s x:=rfl
def builtin_copy (H:Zn)(id:Nat)(t u:TypeId)(s x:Zo):gR P H id .copy [t,u] [s,x]=lP P H t s x:=rfl
def builtin_min (H:Zn)(id:Nat)(ts:List TypeId)(k:IntKind)(a b:Int):gR P H id .min ts [.lit (.int k a),.lit (.int k b)]=some (.lit (.int k (if b<a then b else a)),H):=by
 cases ts with
 |nil=>rfl
 |cons t ts=>rfl
def builtin_max (H:Zn)(id:Nat)(ts:List TypeId)(k:IntKind)(a b:Int):gR P H id .max ts [.lit (.int k a),.lit (.int k b)]=some (.lit (.int k (if b > a then b else a)),H):=by
 cases ts with
 |nil=>rfl
 |cons t ts=>rfl
section nums
variable {t:TypeId} {x y:Operand} {k:IntKind} {a b:Int}
def Ju:aU P .add t x y (.lit (.int k a)) (.lit (.int k b))=some (.lit (.int k (k.wrap (a+b)))):=by
 simp[aU,Zo.cU,eqGuard,binOp,Op.intArith,aQ,bind,Sem.bind,pure]
def Jv:aU P .sub t x y (.lit (.int k a)) (.lit (.int k b))=some (.lit (.int k (k.wrap (a-b)))):=by
 simp[aU,Zo.cU,eqGuard,binOp,Op.intArith,aQ,bind,Sem.bind,pure]
def Jw:aU P .mul t x y (.lit (.int k a)) (.lit (.int k b))=some (.lit (.int k (k.wrap (a*b)))):=by
 simp[aU,Zo.cU,eqGuard,binOp,Op.intArith,aQ,bind,Sem.bind,pure]
def Jx:aU P .quo t x y (.lit (.int k a)) (.lit (.int k b))=if b≠0 then some (.lit (.int k (k.wrap (a.tdiv b)))) else none:=by
 by_cases h:b=0<;>simp[h,aU,Zo.cU,eqGuard,binOp,Op.intDiv,runtimePanic,program,goPanic,aQ,bind,Sem.bind,pure]
def Jy:aU P .rem t x y (.lit (.int k a)) (.lit (.int k b))=if b≠0 then some (.lit (.int k (a.tmod b))) else none:=by
 by_cases h:b=0<;>simp[h,aU,Zo.cU,eqGuard,binOp,Op.intDiv,runtimePanic,program,goPanic,aQ,bind,Sem.bind,pure]
def Jz:aU P .lss t x y (.lit (.int k a)) (.lit (.int k b))=some (.lit (.bool (decide (a<b)))):=by
 simp[aU,Zo.cU,eqGuard,binOp,Op.intCmp,aQ,bind,Sem.bind,pure]
def JA:aU P .leq t x y (.lit (.int k a)) (.lit (.int k b))=some (.lit (.bool (decide (a<=b)))):=by
 simp[aU,Zo.cU,eqGuard,binOp,Op.intCmp,aQ,bind,Sem.bind,pure]
def JB:aU P .gtr t x y (.lit (.int k a)) (.lit (.int k b))=some (.lit (.bool (decide (b<a)))):=by
 simp[aU,Zo.cU,eqGuard,binOp,Op.intCmp,aQ,bind,Sem.bind,pure]
def JC:aU P .geq t x y (.lit (.int k a)) (.lit (.int k b))=some (.lit (.bool (decide (b<=a)))):=by
 simp[aU,Zo.cU,eqGuard,binOp,Op.intCmp,aQ,bind,Sem.bind,pure]
def JD:aU P .eql t x y (.lit (.int k a)) (.lit (.int k b))=some (.lit (.bool (decide (a=b)))):=by
 simp[aU,Zo.cU,eqGuard,binOp,Op.intCmp,aQ,bind,Sem.bind,pure];rfl
def JE:aU P .neq t x y (.lit (.int k a)) (.lit (.int k b))=some (.lit (.bool (!decide (a=b)))):=by
 simp[aU,Zo.cU,eqGuard,binOp,Op.intCmp,aQ,bind,Sem.bind,pure];rfl
def JF {op:UnOp}(h:op=.neg):qu P op (.lit (.int k a))=some (.lit (.int k (k.wrap (0-a)))):=by
 subst h;rfl
def JG (v:Bool):qu P .not (.lit (.bool v))=some (.lit (.bool (!v))):=rfl
def JH (H:Zn)(s d:TypeId)(v:Value):lS P H s d (.lit v)=lQ P s d (.lit v):=rfl
def JI (H:Zn)(s d:TypeId)(c:List Zo):lS P H s d (.agg c)=lQ P s d (.agg c):=rfl
def JJ {s d:TypeId}{k':IntKind}(hs:(P.underlying s).isSome=true)(hd:P.underlying d=some (.int k')):lQ P s d (.lit (.int k a))=some (.lit (.int k' (k'.wrap a))):=by
 obtain⟨ds,hs⟩:=Vx.1 hs;simp only[lQ,Zo.cU];have:aQ P (convert s d (.int k a))=some (.int k' (k'.wrap a)):=by
  simp[convert,underlying,program,hs,hd,aQ,bind,Sem.bind,pure,Conv.intToInt]
 rw[this];rfl
end nums
def ext (H:Zn)(L:List Zu):Zn :=
 { get:=fun j=>if H.A<=j/\j<H.A+L.length then L[j-H.A]? else H.get j,A:=H.A+L.length }
def ext_nil (H:Zn):ext H []=H:=by
 unfold ext;have:(fun j=>if H.A<=j/\j<H.A+([]:List Zu).length then ([]:List Zu)[j-H.A]? else H.get j)=H.get:=by
  funext j
  rw[UW];simp only[List.length_nil];omega
 rw[this];rfl
def aV (H:Zn)(L:List Zu):(ext H L).A=H.A+L.length:=rfl
def uE (H:Zn)(b:Zu):H.lay H.A b=some (ext H [b]):=by
 unfold Zn.lay ext;rw[UX rfl];congr 2
 funext j
 by_cases h:j=H.A
 ·subst h;simp
 ·rw[UW h,UW];simp only[List.length_cons,List.length_nil];omega
def ye (H:Zn)(L:List Zu)(b:Zu):(ext H L).lay (H.A+L.length) b=some (ext H (L++[b])):=by
 unfold Zn.lay;rw[UX (aV H L).symm];unfold ext;congr 2
 ·funext j
  simp only[List.length_append,List.length_cons,List.length_nil];by_cases h:j=H.A+L.length
  ·subst h;rw[UX rfl,UX V,XE];simp
  ·rw[UW h];by_cases h2:H.A<=j/\j<H.A+L.length
   ·rw[UX h2,UX V,Vf V]
   ·rw[UW h2,UW V]
 ·simp only[List.length_append,List.length_cons,List.length_nil];omega
def BK (H:Zn)(L:List Zu)(i:Nat)(b:Zu)(h:L.length=i):(ext H L).lay (H.A+i) b=some (ext H (L++[b])):=by subst h;exact ye H L b
def bO (H:Zn)(L:List Zu)(i:Nat)(h:i<L.length):(ext H L).get (H.A+i)=L[i]?:=by
 unfold ext;simp only;rw[UX V,XE]
def c9 (H:Zn)(L:List Zu)(i:Nat)(h:i<H.A):(ext H L).get i=H.get i:=by
 unfold ext;simp only;rw[UW V]
def yf (H:Zn)(L:List Zu)(i:Nat)(b:Zu)(h:i<L.length):(ext H L).upd (H.A+i) b=ext H (L.set i b):=by
 unfold ext Zn.upd;simp only[Vm];congr 1
 funext j
 by_cases hj:j=H.A+i
 ·subst hj;rw[UX rfl,UX V,XE,Vi h]
 ·rw[UW hj];by_cases h2:H.A<=j/\j<H.A+L.length
  ·rw[UX h2,UX h2,Vw V]
  ·rw[UW h2,UW h2]
def sG (b:Option Zu)(gen:Nat):Option (TypeId × List Zo) :=
 match b with
 |some (.J g e cells)=>if g=gen then some (e,cells) else none
 |_=>none
def JK (g gen:Nat)(e:TypeId)(cells:List Zo):sG (some (.J g e cells)) gen=if g=gen then some (e,cells) else none:=rfl
def yg (H:Zn)(L:List Zu)(i gen:Nat)(h:i<L.length):(ext H L).na (H.A+i) gen=sG L[i]? gen:=by
 unfold Zn.na sG;rw[bO H L i h];rfl
def JL (H:Zn)(b:Zu)(L:List Zu)(gen:Nat):(ext H (b :: L)).na H.A gen=sG (some b) gen:=yg H (b :: L) 0 gen (Zj)
def JM (H:Zn)(c:Zu)(L:List Zu)(b:Zu):(ext H (c :: L)).upd H.A b=ext H (b :: L):=yf H (c :: L) 0 b (Zj)
def gE {H R:Zn}{L:List Zu}(h:R=ext H L)(i:Nat){b:Zu}(hb:L[i]? = some b):R.get (H.A + i)=some b := by
  rw[h,bO H L i (by
    rcases Vj i L.length with g |g
    · exact g
    · rw[U3 g] at hb;cases hb)]
  exact hb
def dp {H R:Zn}{b:Zu}{L:List Zu}(h:R=ext H (b :: L)):R.get H.A=some b := gE h 0 rfl
end Go.Hx
namespace Go.Hx
variable {P:Program} {G:Nat->Option (List Zo)}
def sI (want:Bool):Option Zo->Option Bool
 |some (.lit (.bool b))=>some (b == want)
 |some (.lit _)=>some false
 |none=>some false
 |_=>none
def JN (want b:Bool):sI want (some (.lit (.bool b)))=some (b == want):=rfl
def JO (b:Bool):(b == true)=b:=by cases b<;>rfl
def JP (b:Bool):(b == false)=!b:=by cases b<;>rfl
def JQ (b:Bool)(p q:Prop):jc (!b) p q=jc b q p:=by cases b<;>simp[jc]
def BQ (t:Bool)(p q:Prop):(if t=true then p else q)=jc t p q:=by cases t<;>simp[jc]
def BR (all:Array Oper)(ρ:Env)(d:Option Tmp)(op:Op)(ty:TypeId)(pos:String)(aft:Array Edge)(j:Nat)(want:Bool):
  gS all ρ ⟨d,op,ty,pos,aft,some (j,want)⟩=sI want (((all[j]?).bind (·.dst)).map ρ):=by
 unfold gS;simp only;cases (all[j]?).bind (·.dst) with
 |none=>rfl
 |some d =>
  simp only[Option.map_some];cases ρ d with
  |lit v=>cases v<;>rfl
  |_=>rfl
section
variable {rd:Option Nat} {Q:AX->St->Prop} {s:St} {d:Option Tmp} {ty:TypeId} {pos:String} {aft:Array Edge} {g:Option (Nat × Bool)}
def JR (all:Array Oper)(op:Op)(rest:List Oper)(j:Nat)(want:Bool):opsV P G rd Q all (⟨d,op,ty,pos,aft,some (j,want)⟩ :: rest) s =
  bq (sI want (((all[j]?).bind (·.dst)).map s.ρ)) fun t=>jc t (aX P G rd Q ⟨d,op,ty,pos,aft,some (j,want)⟩ (opsV P G rd Q all rest) s) (opsV P G rd Q all rest ⟨aI s.ρ d (.lit undef),s.H⟩):=by
 rw[IU,BR];exact uB fun _=>BQ ..
variable {all:Array Oper} {tail:St->Prop} {b i:Nat} {bs:List Nat} {acc:List (Nat × FP)} {K:FP->St->Prop}
def JS (bs:List Nat):dR P G all tail bs i acc [] s=tail s:=by cases bs<;>rfl
def JT (op:Op)(rest:List Oper):dR P G all tail (b :: bs) i acc (⟨d,op,ty,pos,aft,none⟩ :: rest) s =
  bI P G ⟨d,op,ty,pos,aft,none⟩ (fun f s'=>jt b f acc/\dR P G all tail bs (i+1) (fI i f acc) rest s') s:=by
 simp[dR,gS,bq]
def JU (op:Op)(rest:List Oper)(j:Nat)(want:Bool):dR P G all tail (b :: bs) i acc (⟨d,op,ty,pos,aft,some (j,want)⟩ :: rest) s =
  bq (sI want (((all[j]?).bind (·.dst)).map s.ρ)) fun t =>
   jc t (bI P G ⟨d,op,ty,pos,aft,some (j,want)⟩ (fun f s'=>jt b f acc/\dR P G all tail bs (i+1) (fI i f acc) rest s') s)
    (dR P G all tail bs (i+1) acc rest ⟨aI s.ρ d (.lit undef),s.H⟩):=by
 simp only[dR,BR];exact uB fun _=>BQ ..
def JV (fv:Operand)(args:Array Operand)(ats:Array TypeId):bI P G ⟨d,.call ⟨.value fv,args,ats⟩,ty,pos,aft,g⟩ K s =
  ∃v rs,bF P G (ar G s.ρ fv) (args.toList.map (ar G s.ρ)) s.H v rs/\K ⟨[],rs⟩ ⟨aI s.ρ d v,s.H⟩:=(rfl)
abbrev QF:AX->St->Prop:=fun _ _=>False
def JW (x:Operand):bI P G ⟨d,.move x,ty,pos,aft,g⟩ K s=aX P G none QF ⟨d,.move x,ty,pos,aft,g⟩ (K ⟨[],[]⟩) s:=(rfl)
def JX (x:Operand):bI P G ⟨d,.assign x,ty,pos,aft,g⟩ K s=aX P G none QF ⟨d,.assign x,ty,pos,aft,g⟩ (K ⟨[],[]⟩) s:=(rfl)
def JY (c x y:Operand):bI P G ⟨d,.pick c x y,ty,pos,aft,g⟩ K s=aX P G none QF ⟨d,.pick c x y,ty,pos,aft,g⟩ (K ⟨[],[]⟩) s:=(rfl)
def JZ (e:TypeId):bI P G ⟨d,.alloc e,ty,pos,aft,g⟩ K s=aX P G none QF ⟨d,.alloc e,ty,pos,aft,g⟩ (K ⟨[s.H.A],[]⟩) s:=(rfl)
def J0 (e:TypeId)(x:Operand):bI P G ⟨d,.box e x,ty,pos,aft,g⟩ K s=aX P G none QF ⟨d,.box e x,ty,pos,aft,g⟩ (K ⟨[s.H.A],[]⟩) s:=(rfl)
def J1 (t:TypeId)(p:Array (Nat × Operand)):bI P G ⟨d,.build t p,ty,pos,aft,g⟩ K s=aX P G none QF ⟨d,.build t p,ty,pos,aft,g⟩ (K ⟨[],[]⟩) s:=(rfl)
def J2 (t:TypeId)(l:Nat)(p:Array (Nat × Operand)):bI P G ⟨d,.buildSlice t l p,ty,pos,aft,g⟩ K s=aX P G none QF ⟨d,.buildSlice t l p,ty,pos,aft,g⟩ (K ⟨[s.H.A],[]⟩) s:=(rfl)
def J3 (t:TypeId)(x:Operand):bI P G ⟨d,.load t x,ty,pos,aft,g⟩ K s=aX P G none QF ⟨d,.load t x,ty,pos,aft,g⟩ (K ⟨[],aR (ar G s.ρ x)⟩) s:=(rfl)
def J4 (t:TypeId)(x y:Operand):bI P G ⟨d,.store t x y,ty,pos,aft,g⟩ K s=aX P G none QF ⟨d,.store t x y,ty,pos,aft,g⟩ (K ⟨aR (ar G s.ρ x),aR (ar G s.ρ x)⟩) s:=(rfl)
def J5 (x:Operand):bI P G ⟨d,.nilCheck x,ty,pos,aft,g⟩ K s=aX P G none QF ⟨d,.nilCheck x,ty,pos,aft,g⟩ (K ⟨[],aR (ar G s.ρ x)⟩) s:=(rfl)
def J6 (op:BinOp)(t:TypeId)(x y:Operand)(u:TypeId):bI P G ⟨d,.binOp op t x y u,ty,pos,aft,g⟩ K s=bq (aU P op t x y (ar G s.ρ x) (ar G s.ρ y)) fun v=>K ⟨[],[]⟩ ⟨aI s.ρ d v,s.H⟩:=by
 simp only[bI,ak,iy];rfl
def J7 (op:UnOp)(t:TypeId)(x:Operand):bI P G ⟨d,.unOp op t x,ty,pos,aft,g⟩ K s=aX P G none QF ⟨d,.unOp op t x,ty,pos,aft,g⟩ (K ⟨[],[]⟩) s:=(rfl)
def J8 (t u:TypeId)(x:Operand):bI P G ⟨d,.convert t u x,ty,pos,aft,g⟩ K s=aX P G none QF ⟨d,.convert t u x,ty,pos,aft,g⟩ (K ⟨[],aR (ar G s.ρ x)⟩) s:=(rfl)
def J9 (t:TypeId)(x:Operand):bI P G ⟨d,.makeInterface t x,ty,pos,aft,g⟩ K s=aX P G none QF ⟨d,.makeInterface t x,ty,pos,aft,g⟩ (K ⟨[],[]⟩) s:=(rfl)
def Ka (f:Fn)(x y:Array Operand):bI P G ⟨d,.makeFunc f x y,ty,pos,aft,g⟩ K s=aX P G none QF ⟨d,.makeFunc f x y,ty,pos,aft,g⟩ (K ⟨[],[]⟩) s:=(rfl)
def Kc (t:TypeId)(x y:Operand):bI P G ⟨d,.makeSlice t x y,ty,pos,aft,g⟩ K s=aX P G none QF ⟨d,.makeSlice t x y,ty,pos,aft,g⟩ (K ⟨[s.H.A],[]⟩) s:=(rfl)
def Kd (t:TypeId)(x:Operand)(lo hi mx:Option Operand):bI P G ⟨d,.slice t x lo hi mx,ty,pos,aft,g⟩ K s=aX P G none QF ⟨d,.slice t x lo hi mx,ty,pos,aft,g⟩ (K ⟨[],aR (ar G s.ρ x)⟩) s:=(rfl)
def Ke (t:TypeId)(x:Operand)(f:Nat):bI P G ⟨d,.fieldAddr t x f,ty,pos,aft,g⟩ K s=aX P G none QF ⟨d,.fieldAddr t x f,ty,pos,aft,g⟩ (K ⟨[],aR (ar G s.ρ x)⟩) s:=(rfl)
def Kf (t:TypeId)(x:Operand)(f:Nat):bI P G ⟨d,.field t x f,ty,pos,aft,g⟩ K s=aX P G none QF ⟨d,.field t x f,ty,pos,aft,g⟩ (K ⟨[],[]⟩) s:=(rfl)
def Kg (t:TypeId)(x y:Operand):bI P G ⟨d,.indexAddr t x y,ty,pos,aft,g⟩ K s=aX P G none QF ⟨d,.indexAddr t x y,ty,pos,aft,g⟩ (K ⟨[],aR (ar G s.ρ x)⟩) s:=(rfl)
def Kh (t:TypeId)(x y:Operand):bI P G ⟨d,.index t x y,ty,pos,aft,g⟩ K s=aX P G none QF ⟨d,.index t x y,ty,pos,aft,g⟩ (K ⟨[],[]⟩) s:=(rfl)
def Ki (x:Operand)(f:Nat):bI P G ⟨d,.extract x f,ty,pos,aft,g⟩ K s=aX P G none QF ⟨d,.extract x f,ty,pos,aft,g⟩ (K ⟨[],[]⟩) s:=(rfl)
def Kj (f:Builtin)(args:Array Operand)(ats:Array TypeId):bI P G ⟨d,.call ⟨.builtin f,args,ats⟩,ty,pos,aft,g⟩ K s =
  aX P G none QF ⟨d,.call ⟨.builtin f,args,ats⟩,ty,pos,aft,g⟩ (K (kS P s.H.A f ats.toList (args.toList.map (ar G s.ρ)))) s:=rfl
end
def Kk (v:Value):aR (.lit v)=[]:=rfl
def Kl (n:Nat)(l:List Zo):aR (.Q n l)=[]:=rfl
def Km (l:List Zo)(o:Nat):aR (.ni l o)=[]:=rfl
def Ko (l:List Zo):aR (.agg l)=[]:=rfl
def Kp (id g o l z:Nat):aR (.U id g o l z)=[id]:=rfl
def Kq (id g o:Nat):aR (.O id g o)=[id]:=rfl
def Kr (id g o l z:Nat):lW (.U id g o l z)=true:=rfl
def Ks (v:Value):lW (.lit v)=false:=rfl
def Kt (n:Nat)(l:List Zo):lW (.Q n l)=false:=rfl
def Ku (id:Nat)(t:TypeId)(x:Zo):kS P id .len [t] [x]=⟨[],mH P t x⟩:=rfl
def Kv (id:Nat)(ts:List TypeId)(x y:Zo):kS P id .append ts [x,y]=if lW x=true then ⟨aR x,aR x++aR y⟩ else ⟨[id],aR y⟩:=by
 cases ts with
 |nil=>rfl
 |cons t ts=>cases ts<;>rfl
def Kw (id:Nat)(ts:List TypeId)(x y:Zo):kS P id .copy ts [x,y]=⟨aR x,aR x++aR y⟩:=by
 cases ts with
 |nil=>rfl
 |cons t ts=>cases ts<;>rfl
def Kx (t:TypeId)(x:Zo)(h:aR x=[]):mH P t x=[]:=by unfold mH;split<;>first|exact h|rfl
def Ky (t:TypeId)(n:Nat)(l:List Zo):mH P t (.Q n l)=[]:=Kx _ _ rfl
def nZ (f f':FP):Prop:=(∀r,r∈f.nD->r ∉ f'.rs)/\(∀r,r∈f'.nD->r ∉ f.rs)
def Kz (b:Nat)(f:FP):jt b f []=True:=by simp[jt]
def KA (b:Nat)(f:FP)(j:Nat)(f':FP)(acc:List (Nat × FP)):jt b f ((j,f') :: acc)=((b / 2 ^ j % 2=1\/nZ f f')/\jt b f acc):=by
 simp only[jt,List.forall_mem_cons,Nat.testBit_eq_decide_div_mod_eq,X9,eq_iff_iff];refine and_congr ⟨fun h=>?_,fun h hb=>?_⟩ Iff.rfl
 ·by_cases hb:b / 2 ^ j % 2=1
  ·exact .inl hb
  ·exact .inr (h hb)
 ·rcases h with h|h
  ·exact absurd h hb
  ·exact h
def KB (b:Nat)(acc:List (Nat × FP)):jt b ⟨[],[]⟩ acc=True:=by
 simp[jt]
def KC (e r e' r':List Nat):nZ ⟨e,r⟩ ⟨e',r'⟩=((∀x,x∈e->x ∉ r')/\∀x,x∈e'->x ∉ r):=rfl
def KD (i:Nat)(acc:List (Nat × FP)):fI i ⟨[],[]⟩ acc=acc:=rfl
def KE (i x:Nat)(e r:List Nat)(acc:List (Nat × FP)):fI i ⟨x :: e,r⟩ acc=(i,⟨x :: e,r⟩) :: acc:=rfl
def KF (i x:Nat)(e r:List Nat)(acc:List (Nat × FP)):fI i ⟨e,x :: r⟩ acc=(i,⟨e,x :: r⟩) :: acc:=by cases e<;>rfl
def bF.mk {f:FuncId}{first cap args:List Zo}{H:Zn}{v:Zo}{rs:List Nat}(hlt:∀r,r∈rs->r<H.A)
  (h:∀H2:Zn,(∀r,r∈rs->H2.get r=H.get r)->H.A<=H2.A->ae P G f (first++args++cap) H2 fun r H3=>r=.ret v/\H3=H2):bF P G (.Z f first cap) args H v rs :=
 ⟨hlt,fun H2 h1 h2=>ao.Z (h H2 h1 h2)⟩
def bF.pure {f:FuncId}{args:List Zo}{H:Zn}{v:Zo}(h:∀H2:Zn,ae P G f args H2 fun r H3=>r=.ret v/\H3=H2):bF P G (.Z f [] []) args H v [] :=
 bF.mk (fun _ h=>by cases h) fun H2 _ _=>by simpa using h H2
def ae.pure {f:FuncId}{args:List Zo}{H:Zn}{v:Zo}{K:Zt->Zn->Prop}(h:∀H2:Zn,ae P G f args H2 fun r H3=>r=.ret v/\H3=H2)(hk:K (.ret v) H):ae P G f args H K :=
 (h H).mono fun r H3 ⟨h1,h2⟩=>by rw[h1,h2];exact hk
def W.dr {n:Nat}{id:Nat}{all:Array Oper}{rd:Option Nat}{Q:AX -> St -> Prop}{s:St}(K:Nat)(bs:List Nat)(hm:P.follows .mixedOrders=true)(h:dR P G all (opsV P G rd Q all (all.toList.drop K)) bs 0 [] (all.toList.take K) s)(hfit:all.toList.all (eK n)=true := by kernel_rfl)(hst:sE all bs K=true := by kernel_rfl):W P G n rd (.region id all true) Q s := W.draw K bs hm hfit hst h
def ae.st {H : Zn} {f : FuncId} {fn : Func} {c : Code} {args : List Zo} {K : Zt → Zn → Prop} {rs : List ResultVar} {n : Nat} (hf : P.funcs[f]? = some fn) (h : vc P G n none c (qD P G rs H K) ⟨dC args, H⟩) (hb : fn.body = some c := by exact rfl) (hres : fn.results.toList = rs := by exact rfl) (hnt : fn.ntmps = n := by exact rfl) (hname : (fn.name == "runtime.NumGoroutine") = false := by decide) (hfit : fits n c = true := by kernel_rfl) (hargs : args.length ≤ n := by simp) : ae P G f args H K := .HG hf hb hres hnt hname hfit hargs h
def ae.sw {H : Zn} {f : FuncId} {fn : Func} {c : Code} {args : List Zo} {K : Zt → Zn → Prop} {rs : List ResultVar} {n : Nat} (hf : P.funcs[f]? = some fn) (h : W P G n none c (qD P G rs H K) ⟨dC args, H⟩) (hb : fn.body = some c := by exact rfl) (hres : fn.results.toList = rs := by exact rfl) (hnt : fn.ntmps = n := by exact rfl) (hname : (fn.name == "runtime.NumGoroutine") = false := by decide) (hargs : args.length ≤ n := by simp) : ae P G f args H K := .Bw hf hb hres hnt hname hargs h
end Go.Hx
namespace Go.Hx
variable {P:Program} {G:Nat->Option (List Zo)} {H:Zn}
def iI (H:Zn)(x:Zo):Option Zo :=
 match x with
  |.Q len _=>some (.lit (.int .i64 len))
  |.U id gen _ len _=>(H.na id gen).map fun _=>.lit (.int .i64 len)
  |.lit (.slice none 0 0)=>some (.lit (.int .i64 0))
  |_=>none
def yp (x:Zo):Option Zo :=
 match x with
  |.lit (.string s)=>some (.lit (.int .i64 s.size))
  |_=>none
def sM (d:Option TypeDesc)(H:Zn)(x:Zo):Option Zo :=
 match d with
 |some (.slice _)=>iI H x
 |some .string=>yp x
 |some (.array n _)=>some (.lit (.int .i64 n))
 |_=>none
def KS (t:TypeId)(x:Zo):nK P H t x=sM (P.underlying t) H x:=rfl
def qK (e:TypeId)(x:Zo):sM (some (.slice e)) H x=iI H x:=rfl
def KT (x:Zo):sM (some .string) H x=yp x:=rfl
def KU (n:Nat)(e:TypeId)(x:Zo):sM (some (.array n e)) H x=some (.lit (.int .i64 n)):=rfl
def KV (n:Nat)(l:List Zo):iI H (.Q n l)=some (.lit (.int .i64 n)):=rfl
def BV (id g o n z:Nat):iI H (.U id g o n z)=(H.na id g).map fun _=>.lit (.int .i64 n):=rfl
def KW:iI H (.lit (.slice none 0 0))=some (.lit (.int .i64 0)):=rfl
def KX (s:ByteArray):yp (.lit (.string s))=some (.lit (.int .i64 s.size)):=rfl
def mI (d:Option TypeDesc)(n:Nat)(cells:List Zo)(off:Nat):Option Zo :=
 match d with
 |none=>none
 |some d=>if qh d then (if off+n<=cells.length then some (.agg ((cells.drop off).take n)) else none) else cells[off]?
def KY (t:TypeId)(cells:List Zo)(off:Nat):iZ P t cells off=mI (P.underlying t) (P.cellsOf t) cells off:=rfl
def KZ (k:IntKind)(n:Nat)(cells:List Zo)(off:Nat):mI (some (.int k)) n cells off=cells[off]?:=rfl
def K0 (n:Nat)(cells:List Zo)(off:Nat):mI (some .bool) n cells off=cells[off]?:=rfl
def K2 (n:Nat)(cells:List Zo)(off:Nat):mI (some .string) n cells off=cells[off]?:=rfl
def K3 (e:TypeId)(n:Nat)(cells:List Zo)(off:Nat):mI (some (.slice e)) n cells off=cells[off]?:=rfl
def K4 (e:TypeId)(n:Nat)(cells:List Zo)(off:Nat):mI (some (.pointer e)) n cells off=cells[off]?:=rfl
def K5 (fs:Array Field)(n:Nat)(cells:List Zo)(off:Nat):mI (some (.struct fs)) n cells off=if off+n<=cells.length then some (.agg ((cells.drop off).take n)) else none:=rfl
def K6 (k:Nat)(e:TypeId)(n:Nat)(cells:List Zo)(off:Nat):mI (some (.array k e)) n cells off=if off+n<=cells.length then some (.agg ((cells.drop off).take n)) else none:=rfl
def K7 (cells vs:List Zo):setAt cells 0 vs=vs++cells.drop vs.length:=by simp[setAt]
def K8 (c:Zo)(cells vs:List Zo)(off:Nat):setAt (c :: cells) (off+1) vs=c :: setAt cells off vs:=by simp[setAt,Nat.succ_add]
def K9 (t:TypeId)(cells:List Zo)(off:Nat):im P H t (.ni cells off)=iZ P t cells off:=rfl
def La (t:TypeId)(id gen off:Nat):im P H t (.O id gen off)=(H.na id gen).bind fun ec=>iZ P t ec.2 off:=by
 simp only[Zn.na,im];generalize H.get id=x;cases x with
 |none=>rfl
 |some b =>
  cases b with
  |J g e cells =>
   simp only;by_cases hg:g=gen
   ·rw[UX hg,UX hg];rfl
   ·rw[UW hg,UW hg];rfl
  |_=>rfl
def Lb (t:TypeId)(id gen off:Nat)(v:Zo):j9 P H t (.O id gen off) v =
  (H.na id gen).bind fun ec=>if v.cells.length=P.cellsOf t/\v.cells.all Zo.one=true/\off+v.cells.length<=ec.2.length then some (H.upd id (.J gen ec.1 (setAt ec.2 off v.cells))) else none:=by
 simp only[Zn.na,j9];generalize H.get id=x;cases x with
 |none=>rfl
 |some b =>
  cases b with
  |J g e cells =>
   simp only;by_cases hg:g=gen
   ·subst hg;simp
   ·rw[UW hg,UW (fun h=>hg h.1)];rfl
  |_=>rfl
def uL (H:Zn)(c:Nat)(x:Zo)(i:Int):Option Zo :=
 match x with
 |.U id gen off len sz=>if 0<=i/\i<(len:Int)/\sz=c then (H.na id gen).map fun _=>.O id gen (off+i.toNat*c) else none
 |.Q len cells=>if 0<=i/\i<(len:Int)/\cells≠[] then some (.ni cells (i.toNat*c)) else none
 |_=>none
def sN (H:Zn)(c n:Nat)(x:Zo)(i:Int):Option Zo :=
 if 0<=i/\i<(n:Int) then
   match x with
   |.O id gen off=>(H.na id gen).map fun _=>.O id gen (off+i.toNat*c)
   |.ni cells off=>some (.ni cells (off+i.toNat*c))
   |_=>none
 else none
def uM (P:Program)(H:Zn)(d:Option TypeDesc)(x:Zo)(i:Int):Option Zo :=
 match d with
 |some (.array n e)=>if (P.underlying e).isSome then sN H (P.cellsOf e) n x i else none
 |some (.slice e)=>if (P.underlying e).isSome then uL H (P.cellsOf e) x i else none
 |_=>none
def Lc (t:TypeId)(x:Zo)(k:IntKind)(i:Int):uD P H t x (.lit (.int k i))=uM P H (P.underlying t) x i:=by
 simp only[uD,nI,uM];cases P.underlying t with
 |none=>rfl
 |some d =>
  cases d with
  |array n e =>
   simp only[sN];by_cases h:(P.underlying e).isSome=true
   ·simp only[h,and_true,if_true];rfl
   ·rw[UW h,UW (fun h'=>h h'.2.2)]
  |slice e=>rfl
  |_=>rfl
def Ld (e:TypeId)(x:Zo)(i:Int):uM P H (some (.slice e)) x i=if (P.underlying e).isSome=true then uL H (P.cellsOf e) x i else none:=rfl
def Le (n:Nat)(e:TypeId)(x:Zo)(i:Int):uM P H (some (.array n e)) x i=if (P.underlying e).isSome=true then sN H (P.cellsOf e) n x i else none:=rfl
def Lf (c n:Nat)(l:List Zo)(i:Int):uL H c (.Q n l) i=if 0<=i/\i<(n:Int)/\l≠[] then some (.ni l (i.toNat*c)) else none:=rfl
def Lg (c id g o n z:Nat)(i:Int):uL H c (.U id g o n z) i=if 0<=i/\i<(n:Int)/\z=c then (H.na id g).map fun _=>.O id g (o+i.toNat*c) else none:=rfl
def Lh (c n:Nat)(l:List Zo)(o:Nat)(i:Int):sN H c n (.ni l o) i=if 0<=i/\i<(n:Int) then some (.ni l (o+i.toNat*c)) else none:=rfl
def Li (c n id g o:Nat)(i:Int):sN H c n (.O id g o) i=if 0<=i/\i<(n:Int) then (H.na id g).map fun _=>.O id g (o+i.toNat*c) else none:=rfl
def sO (H:Zn)(c:Nat)(x:Zo)(lo hi:Option Zo):Option Zo :=
   match x with
   |.U id gen off len sz=>if sz=c then (H.na id gen).bind fun _=>(cB hi len len).bind fun h=>(cB lo 0 h).map fun l=>.U id gen (off+l*sz) (h-l) sz else none
   |.Q len cells=>if cells.length=len*c then (cB hi len len).bind fun h=>(cB lo 0 h).map fun l=>.Q (h-l) ((cells.drop (l*c)).take ((h-l)*c)) else none
   |.lit (.slice none 0 0)=>(cB hi 0 0).bind fun h=>(cB lo 0 h).map fun _=>.lit (.slice none 0 0)
   |_=>none
def yq (H:Zn)(c n:Nat)(x:Zo)(lo hi:Option Zo):Option Zo :=
   match x with
   |.O id gen off =>
    match H.na id gen with
    |some (_,cells) =>
     if off+n*c<=cells.length then
      (cB hi n n).bind fun h=>(cB lo 0 h).map fun l=>.U id gen (off+l*c) (h-l) c
     else none
    |none=>none
   | .ni cells off=>if off+n*c≤cells.length then
      (cB hi n n).bind fun h=>(cB lo 0 h).map fun l=>.Q (h-l) ((cells.drop (off+l*c)).take ((h-l)*c))
     else none
   |_=>none
def yr (x:Zo)(lo hi:Option Zo):Option Zo :=
  match x with
  |.lit (.string s)=>(cB hi s.size s.size).bind fun h=>(cB lo 0 h).map fun l=>.lit (.string (s.extract l h))
  |_=>none
def uN (P:Program)(H:Zn)(d:Option TypeDesc)(x:Zo)(lo hi:Option Zo):Option Zo :=
 match d with
 |some (.array n e)=>if (P.underlying e).isSome then yq H (P.cellsOf e) n x lo hi else none
 |some (.slice e)=>if (P.underlying e).isSome then sO H (P.cellsOf e) x lo hi else none
 |some .string=>yr x lo hi
 |_=>none
def Lj (t:TypeId)(x:Zo)(lo hi:Option Zo):nJ P H t x lo hi=uN P H (P.underlying t) x lo hi:=rfl
def Lk (e:TypeId)(x:Zo)(lo hi:Option Zo):uN P H (some (.slice e)) x lo hi=if (P.underlying e).isSome=true then sO H (P.cellsOf e) x lo hi else none:=rfl
def Ll (n:Nat)(e:TypeId)(x:Zo)(lo hi:Option Zo):uN P H (some (.array n e)) x lo hi=if (P.underlying e).isSome=true then yq H (P.cellsOf e) n x lo hi else none:=rfl
def Lm (x:Zo)(lo hi:Option Zo):uN P H (some .string) x lo hi=yr x lo hi:=rfl
def Ln (c id g o n z:Nat)(lo hi:Option Zo):sO H c (.U id g o n z) lo hi=if z=c then (H.na id g).bind fun _=>(cB hi n n).bind fun h=>(cB lo 0 h).map fun l=>.U id g (o+l*z) (h-l) z else none:=rfl
def Lo (c n:Nat)(cells:List Zo)(lo hi:Option Zo):sO H c (.Q n cells) lo hi=if cells.length=n*c then (cB hi n n).bind fun h=>(cB lo 0 h).map fun l=>.Q (h-l) ((cells.drop (l*c)).take ((h-l)*c)) else none:=rfl
def Lp (c:Nat)(lo hi:Option Zo):sO H c (.lit (.slice none 0 0)) lo hi=(cB hi 0 0).bind fun h=>(cB lo 0 h).map fun _=>.lit (.slice none 0 0):=rfl
def Lq (c n:Nat)(cells:List Zo)(off:Nat)(lo hi:Option Zo):yq H c n (.ni cells off) lo hi=if off+n*c<=cells.length then
      (cB hi n n).bind fun h=>(cB lo 0 h).map fun l=>.Q (h-l) ((cells.drop (off+l*c)).take ((h-l)*c)) else none:=rfl
def Lr (s:ByteArray)(lo hi:Option Zo):yr (.lit (.string s)) lo hi=(cB hi s.size s.size).bind fun h=>(cB lo 0 h).map fun l=>.lit (.string (s.extract l h)):=rfl
def Ls (d m:Nat):cB none d m=some d:=rfl
def Lt (k:IntKind)(i:Int)(d m:Nat):cB (some (.lit (.int k i))) d m=if 0<=i/\i<=(m:Int) then some i.toNat else none:=rfl
def Lu (sz n:Nat)(l:List Zo):dc H sz (.Q n l)=if l.length=n*sz then some (n,l) else none:=rfl
def sP (sz id g o n z:Nat):dc H sz (.U id g o n z)=if z=sz then (H.na id g).map fun x=>(n,(x.2.drop o).take (n*sz)) else none:=rfl
def yt (sz:Nat):dc H sz (.lit (.slice none 0 0))=some (0,[]):=rfl
def uO (P:Program)(H:Zn)(id:Nat)(d0 d1:Option TypeDesc)(s x:Zo):Option (Zo × Zn) :=
 match d0,d1 with
 | some (.slice e),some (.slice _)=>(bS P e).bind fun _=>(dc H (P.cellsOf e) x).bind fun nx =>
    match s with
    |.lit (.slice none 0 0) =>
     if nx.1=0 then some (s,H)
     else if nx.1*P.bytesOf e<=2 ^ 46/\nx.1<=2 ^ 46 then (H.lay id (.J 0 e nx.2)).map fun H'=>(.U id 0 0 nx.1 (P.cellsOf e),H')
     else none
    |.U id' gen off len sz =>
     (H.na id' gen).bind fun ec =>
      if ec.1=e/\sz=P.cellsOf e/\off+len*sz=ec.2.length/\(len+nx.1)*P.bytesOf e<=2 ^ 46/\len+nx.1<=2 ^ 46/\nx.2.all Zo.one=true then
       if nx.1=0 then some (s,H)
       else some (.U id' (gen+1) 0 (len+nx.1) sz,H.upd id' (.J (gen+1) e (ec.2.drop off++nx.2)))
      else none
    |_=>none
 |_,_=>none
def aA (id:Nat)(t u:TypeId)(s x:Zo):bU P H id t u s x=uO P H id (P.underlying t) (P.underlying u) s x:=by
 unfold bU uO;cases P.underlying t with
 |none=>rfl
 |some d =>
  cases d with
  |slice e =>
   cases P.underlying u with
   |none=>rfl
   |some d'=>cases d'<;>rfl
  |_=>rfl
def Lv (id:Nat)(e u:TypeId)(x:Zo):uO P H id (some (.slice e)) (some (.slice u)) (.lit (.slice none 0 0)) x=(bS P e).bind fun _=>(dc H (P.cellsOf e) x).bind fun nx =>
  if nx.1=0 then some (.lit (.slice none 0 0),H) else if nx.1*P.bytesOf e<=2 ^ 46/\nx.1<=2 ^ 46 then (H.lay id (.J 0 e nx.2)).map fun H'=>(.U id 0 0 nx.1 (P.cellsOf e),H') else none:=rfl
def Lw (id:Nat)(e u:TypeId)(x:Zo)(id' gen off len sz:Nat):uO P H id (some (.slice e)) (some (.slice u)) (.U id' gen off len sz) x=(bS P e).bind fun _=>(dc H (P.cellsOf e) x).bind fun nx =>
  (H.na id' gen).bind fun ec =>
      if ec.1=e/\sz=P.cellsOf e/\off+len*sz=ec.2.length/\(len+nx.1)*P.bytesOf e<=2 ^ 46/\len+nx.1<=2 ^ 46/\nx.2.all Zo.one=true then
       if nx.1=0 then some (.U id' gen off len sz,H)
       else some (.U id' (gen+1) 0 (len+nx.1) sz,H.upd id' (.J (gen+1) e (ec.2.drop off++nx.2)))
      else none:=rfl
def BW (P:Program)(H:Zn)(d0:Option TypeDesc)(d x:Zo):Option (Zo × Zn) :=
 match d0 with
 |some (.slice e) =>
  if (P.underlying e).isSome then
   (dc H (P.cellsOf e) x).bind fun nx =>
    match d with
    |.U id gen off len sz =>
     (H.na id gen).bind fun ec =>
      if sz=P.cellsOf e/\off+len*sz<=ec.2.length/\nx.2.all Zo.one=true then
       some (.lit (.int .i64 (min nx.1 len:Nat)),H.upd id (.J gen ec.1 (setAt ec.2 off (nx.2.take (min nx.1 len*sz)))))
      else none
    |_=>none
  else none
 |_=>none
def Lx (t:TypeId)(d x:Zo):lP P H t d x=BW P H (P.underlying t) d x:=rfl
def Ly (e:TypeId)(id gen off len sz:Nat)(x:Zo):BW P H (some (.slice e)) (.U id gen off len sz) x=if (P.underlying e).isSome=true then
   (dc H (P.cellsOf e) x).bind fun nx=>(H.na id gen).bind fun ec =>
      if sz=P.cellsOf e/\off+len*sz<=ec.2.length/\nx.2.all Zo.one=true then
       some (.lit (.int .i64 (min nx.1 len:Nat)),H.upd id (.J gen ec.1 (setAt ec.2 off (nx.2.take (min nx.1 len*sz)))))
      else none
   else none:=rfl
def yu (P:Program)(H:Zn)(id:Nat)(d:Option TypeDesc)(l c:Zo):Option (Zo × Zn) :=
 match d,l,c with
 |some (.slice e),.lit (.int _ l),.lit (.int _ c) =>
  if 0<=l/\l<=c/\c*P.bytesOf e<=2 ^ 46/\c<=2 ^ 46 then
   (kf P e l.toNat).bind fun cells=>(H.lay id (.J 0 e cells)).map fun H'=>(.U id 0 0 l.toNat (P.cellsOf e),H')
  else none
 |_,_,_=>none
def Lz (id:Nat)(t:TypeId)(l c:Zo):mA P H id t l c=yu P H id (P.underlying t) l c:=by
 unfold mA yu;cases P.underlying t with
 |none=>rfl
 |some d=>rfl
def LA (id:Nat)(e:TypeId)(k k':IntKind)(l c:Int):yu P H id (some (.slice e)) (.lit (.int k l)) (.lit (.int k' c))=if 0<=l/\l<=c/\c*P.bytesOf e<=2 ^ 46/\c<=2 ^ 46 then
   (kf P e l.toNat).bind fun cells=>(H.lay id (.J 0 e cells)).map fun H'=>(.U id 0 0 l.toNat (P.cellsOf e),H')
  else none:=rfl
def BX (e:TypeId)(n:Nat):kf P e n=(bS P e).map fun z=>(List.replicate n z).flatten:=rfl
def BY (n:Nat)(v:Zo):(List.replicate n [v]).flatten=List.replicate n v:=by
 induction n with
 |zero=>rfl
 |succ n ih=>rw[WD,List.flatten_cons,ih,WD];rfl
def BZ (P:Program)(H:Zn)(id:Nat)(d:Option TypeDesc)(len:Nat)(parts:List (Nat × Zo)):Option (Zo × Zn) :=
 match d with
 |some (.slice e) =>
  if len*P.cellsOf e<=2 ^ 24 then
   (kf P e len).bind fun z=>(fP (fun i=>some (i*P.cellsOf e,P.cellsOf e)) z parts).bind fun cells =>
    (H.lay id (.J 0 e cells)).map fun H'=>(.U id 0 0 len (P.cellsOf e),H')
  else none
 |_=>none
def LB (id:Nat)(t:TypeId)(len:Nat)(parts:List (Nat × Zo)):nL P H id t len parts=BZ P H id (P.underlying t) len parts:=rfl
def LC (id:Nat)(e:TypeId)(len:Nat)(parts:List (Nat × Zo)):BZ P H id (some (.slice e)) len parts=if len*P.cellsOf e<=2 ^ 24 then
   (kf P e len).bind fun z=>(fP (fun i=>some (i*P.cellsOf e,P.cellsOf e)) z parts).bind fun cells =>
    (H.lay id (.J 0 e cells)).map fun H'=>(.U id 0 0 len (P.cellsOf e),H')
  else none:=rfl
def yw (P:Program)(t:TypeId)(d:Option TypeDesc)(parts:List (Nat × Zo)):Option Zo :=
 (bS P t).bind fun z =>
  match d with
  |some (.struct _)=>(ja P t).bind fun pl=>(fP (fun i=>pl[i]?) z parts).map .agg
  |some (.array _ e)=>if (P.underlying e).isSome then (fP (fun i=>some (i*P.cellsOf e,P.cellsOf e)) z parts).map .agg else none
  |_=>none
def LD (t:TypeId)(parts:List (Nat × Zo)):r8 P t parts=yw P t (P.underlying t) parts:=rfl
def LF (t:TypeId)(fs:Array Field)(parts:List (Nat × Zo)):yw P t (some (.struct fs)) parts=(bS P t).bind fun z=>(ja P t).bind fun pl=>(fP (fun i=>pl[i]?) z parts).map .agg:=rfl
def LG (t:TypeId)(n:Nat)(e:TypeId)(parts:List (Nat × Zo)):yw P t (some (.array n e)) parts=(bS P t).bind fun z=>if (P.underlying e).isSome=true then (fP (fun i=>some (i*P.cellsOf e,P.cellsOf e)) z parts).map .agg else none:=rfl
def LH (pl:Nat->Option (Nat × Nat))(cells:List Zo):fP pl cells []=some cells:=rfl
def LI (pl:Nat->Option (Nat × Nat))(cells:List Zo)(i:Nat)(v:Zo)(rest:List (Nat × Zo)):fP pl cells ((i,v) :: rest)=(pl i).bind fun os =>
  if v.cells.length=os.2/\os.1+v.cells.length<=cells.length then fP pl (setAt cells os.1 v.cells) rest else none:=by
 simp only[fP];cases pl i<;>rfl
def LJ (k:IntKind)(n:Int):(Zo.lit (.int k n)).cells=[.lit (.int k n)]:=rfl
def LK (b:Bool):(Zo.lit (.bool b)).cells=[.lit (.bool b)]:=rfl
def LL (s:ByteArray):(Zo.lit (.string s)).cells=[.lit (.string s)]:=rfl
def LM (a:Option Addr)(n c:Nat):(Zo.lit (.slice a n c)).cells=[.lit (.slice a n c)]:=rfl
def LN (l:List Zo):(Zo.agg l).cells=l:=rfl
def LO (n:Nat)(l:List Zo):(Zo.Q n l).cells=[.Q n l]:=rfl
def LP (a b c d e:Nat):(Zo.U a b c d e).cells=[.U a b c d e]:=rfl
def LR (a b c:Nat):(Zo.O a b c).cells=[.O a b c]:=rfl
def LS (k:IntKind)(n:Int):(Zo.lit (.int k n)).one=true:=rfl
def LU (b:Bool):(Zo.lit (.bool b)).one=true:=rfl
def LV (s:ByteArray):(Zo.lit (.string s)).one=true:=rfl
def LW (a:Option Addr)(n c:Nat):(Zo.lit (.slice a n c)).one=true:=rfl
def LX (n:Nat)(l:List Zo):(Zo.Q n l).one=true:=rfl
def LY (a b c d e:Nat):(Zo.U a b c d e).one=true:=rfl
def LZ (a b c:Nat):(Zo.O a b c).one=true:=rfl
def aa (n:Int):Zo:=.lit (.int .i64 n)
def ints (l:List Int):List Zo:=l.map aa
def af (l:List Int):Zo:=.Q l.length (ints l)
def bG (l:List Int):(ints l).length=l.length:=Vh ..
def gX (l:List Int)(i:Nat):(ints l)[i]?=(l[i]?).map aa:=List.getElem?_map ..
def yj (l:List Int):ints l=[]↔l=[]:=List.map_eq_nil_iff
end Go.Hx
namespace Go.Hx
variable {P:Program} {G:Nat->Option (List Zo)} {Γ Γ':aC} {H H':Zn} {w w':World}
variable {f:FuncId}{args:List Zo}{id nx:Nat}{S:Nat->Prop}{v v':Zo}{K:Zt->Zn->Prop}
inductive Below (n:Nat):Zo->Prop
 |lit (v:Value):Below n (.lit v)
 |Q {len:Nat} {cells:List Zo} (h:∀i (h:i<cells.length),Below n cells[i]):Below n (.Q len cells)
 |ni {off:Nat} {cells:List Zo} (h:∀i (h:i<cells.length),Below n cells[i]):Below n (.ni cells off)
 |agg {cells:List Zo} (h:∀i (h:i<cells.length),Below n cells[i]):Below n (.agg cells)
 |nf {cells:List Zo} (h:∀i (h:i<cells.length),Below n cells[i]):Below n (.nf cells)
 |Z {f:FuncId} {a b:List Zo} (h1:∀i (h:i<a.length),Below n a[i]) (h2:∀i (h:i<b.length),Below n b[i]):Below n (.Z f a b)
 |U {id g o l z:Nat} (h:id<n):Below n (.U id g o l z)
 |O {id g o:Nat} (h:id<n):Below n (.O id g o)
 |np {id:Nat} (h:id<n):Below n (.np id)
def Zr.sJ {cv:Value}(h:Zr P Γ H w v cv):Below H.A v:=by
 induction h with
 |lit v=>exact .lit v
 |nz a cap=>exact .Q fun i h=>absurd h (Va _)
 |Q hb hlt hlen hcs hcell hrel ih=>exact .Q fun i h=>ih i h (V)
 |U h=>exact .U h.1
 |O h=>exact .O h.1
 |ni hb hlt hcs hcell hrel ih=>exact .ni fun i h=>ih i h (V)
 |agg hcs hrel ih=>exact .agg fun i h=>ih i h (V)
 |nf hcs hrel ih=>exact .nf fun i h=>ih i h (V)
 |Z hfs hcs hf hc ih1 ih2=>exact .Z (fun i h=>ih1 i h V) fun i h=>ih2 i h (V)
 |np h=>exact .np h.1
def sK (n:Nat):Zu->Prop
 |.J _ _ cells=>∀i (h:i<cells.length),Below n cells[i]
 |.loop _ _ m env _ _ _=>∀t,t<m->Below n (env t)
 |.mp _=>True
 |.nr=>True
structure Z6 (H:Zn):Prop where
 lt:∀id b,H.get id=some b->id<H.A
 below:∀id b,H.get id=some b->sK H.A b
theorem Zw.Z (R:Zw P G Γ H w):Z6 H:=by
 refine⟨fun id b h=>R.A id b h,fun id b h=>?_⟩;cases b with
 |nr=>trivial
 |mp=>trivial
 |J g e cells =>
  intro i hi;have h1:=R.J id g e cells h;split at h1
  ·obtain⟨c,_,_,_,h5⟩:=h1;obtain⟨cv,_,h6⟩:=h5 i hi;exact h6.sJ
  ·subst h1;exact absurd hi (Va _)
 |loop st pend n env ps asg body =>
  intro t ht;obtain⟨b,r,_,_,_,_,_,_,_,h8,h9⟩:=R.loop id st pend n env ps asg body h;exact(h9 t V).sJ
inductive Fz (S:Nat->Prop)(H:Zn)(nx:Nat):Zo->Zo->Prop
 |lit (v:Value):Fz S H nx (.lit v) (.lit v)
 |Q {len:Nat} {c c':List Zo} (hl:c'.length=c.length) (h:∀i (h:i<c.length) (h':i<c'.length),Fz S H nx c[i] c'[i]):Fz S H nx (.Q len c) (.Q len c')
 |ni {off:Nat} {c c':List Zo} (hl:c'.length=c.length) (h:∀i (h:i<c.length) (h':i<c'.length),Fz S H nx c[i] c'[i]):Fz S H nx (.ni c off) (.ni c' off)
 |agg {c c':List Zo} (hl:c'.length=c.length) (h:∀i (h:i<c.length) (h':i<c'.length),Fz S H nx c[i] c'[i]):Fz S H nx (.agg c) (.agg c')
 |nf {c c':List Zo} (hl:c'.length=c.length) (h:∀i (h:i<c.length) (h':i<c'.length),Fz S H nx c[i] c'[i]):Fz S H nx (.nf c) (.nf c')
 |Z {f:FuncId} {a a' b b':List Zo} (ha:a'.length=a.length) (hb:b'.length=b.length) (h1:∀i (h:i<a.length) (h':i<a'.length),Fz S H nx a[i] a'[i]) (h2:∀i (h:i<b.length) (h':i<b'.length),Fz S H nx b[i] b'[i]):Fz S H nx (.Z f a b) (.Z f a' b')
 |U {id g o l z:Nat} (h:id<nx) (hs:¬S id):Fz S H nx (.U id g o l z) (.U id g o l z)
 |O {id g o:Nat} (h:id<nx) (hs:¬S id):Fz S H nx (.O id g o) (.O id g o)
 |np {id:Nat} (h:id<nx) (hs:¬S id):Fz S H nx (.np id) (.np id)
 |deadOwn {id g o l z:Nat} (h:id<nx) (hs:S id):Fz S H nx (.U id g o l z) (.U id g o l z)
 |deadPtr {id g o:Nat} (h:id<nx) (hs:S id):Fz S H nx (.O id g o) (.O id g o)
 |deadYld {id:Nat} (h:id<nx) (hs:S id):Fz S H nx (.np id) (.np id)
 |nil:Fz S H nx (.lit (.slice none 0 0)) (.Q 0 [])
 |nA {id g o l z:Nat} {e:TypeId} {cells c':List Zo} (hs:S id) (hg:H.get id=some (.J g e cells)) (hl:c'.length=l*z)
   (h:∀i (h:i<l*z) (h2:o+i<cells.length) (h':i<c'.length),Fz S H nx cells[o+i] c'[i]):Fz S H nx (.U id g o l z) (.Q l c')
 |nN {id g o:Nat} {e:TypeId} {cells c':List Zo} (hs:S id) (hg:H.get id=some (.J g e cells)) (hne:cells≠[]) (hl:c'.length=cells.length)
   (h:∀i (h:i<cells.length) (h':i<c'.length),Fz S H nx cells[i] c'[i]):Fz S H nx (.O id g o) (.ni c' o)
def Fz.refl {H:Zn}(h:Below nx v)(hs:∀id,id<nx->¬S id):Fz S H nx v v:=by
 induction h with
 |lit v=>exact .lit v
 |Q _ ih=>exact .Q rfl fun i h _=>ih i h
 |ni _ ih=>exact .ni rfl fun i h _=>ih i h
 |agg _ ih=>exact .agg rfl fun i h _=>ih i h
 |nf _ ih=>exact .nf rfl fun i h _=>ih i h
 |Z _ _ ih1 ih2=>exact .Z rfl rfl (fun i h _=>ih1 i h) fun i h _=>ih2 i h
 |U h=>exact .U h (hs _ h)
 |O h=>exact .O h (hs _ h)
 |np h=>exact .np h (hs _ h)
def BS (S:Nat->Prop)(H:Zn)(nx:Nat):Zu->Zu->Prop
 |.J g e c,.J g' e' c'=>g'=g/\e'=e/\c'.length=c.length/\∀i (_:i<c.length) (_:i<c'.length),Fz S H nx c[i] c'[i]
 |.loop st pend n env ps asg body,.loop st' pend' n' env' ps' asg' body'=>st'=st/\pend'=pend/\n'=n/\env'=env/\ps'=ps/\asg'=asg/\body'=body/\∀t,t<n->Fz S H nx (env t) (env t)
 |.mp es,.mp es'=>es'=es
 |.nr,.nr=>True
 |_,_=>False
structure Z7 (S:Nat->Prop)(H H':Zn):Prop where
 gone:∀id,S id->H'.get id=none
 kept:∀id b,¬S id->H.get id=some b->id<H'.A/\∃b',H'.get id=some b'/\BS S H H'.A b b'
 none:∀id,¬S id->H.get id=none->H'.get id=none
open Classical in
noncomputable def gD (S:Nat->Prop)(Γ:aC):aC:=fun id=>if S id then none else Γ id
def jJ (h:¬S id):gD S Γ id=Γ id:=by simp[gD,h]
def kV {x:Nat × Nat × Nat}(h:gD S Γ id=some x):¬S id/\Γ id=some x:=by
 unfold gD at h;split at h
 ·cases h
 ·exact⟨by assumption,h⟩
def uJ {b:Nat}(h:(gD S Γ).fF b):Γ.fF b:=by
 obtain⟨id,base,n,h⟩:=h;exact⟨id,base,n,(kV h).2⟩
def Z7.back (F:Z7 S H H'){b':Zu}(h:H'.get id=some b'):¬S id/\∃b,H.get id=some b/\BS S H H'.A b b'/\id<H'.A:=by
 have hs:¬S id:=fun hs=>by rw[F.gone id hs]at h;cases h
 refine⟨hs,?_⟩;cases hg:H.get id with
 |none=>rw[F.none id hs hg]at h;cases h
 |some b =>
  obtain⟨h1,b1,h2,h3⟩:=F.kept id b hs hg;rw[h]at h2;cases h2;exact⟨b,rfl,h3,h1⟩
def Fz.sound (R:Zw P G Γ H w)(F:Z7 S H H')(hf:Fz S H H'.A v v'):∀ {cv:Value},Zr P Γ H w v cv->Zr P (gD S Γ) H' w v' cv:=by
 induction hf with
 |lit v=>intro cv h;cases h;exact .lit _
 |nil=>intro cv h;cases h;exact .nz none 0
 |deadOwn hlt hs =>
  intro cv h;cases h with
  |U h=>exact .U ⟨hlt,h.2.1,fun hr=>(by rw[F.gone _ hs]at hr;cases hr),fun _ _ _ hg=>(by rw[F.gone _ hs]at hg;cases hg)⟩
 |deadPtr hlt hs =>
  intro cv h;cases h with
  |O h=>exact .O ⟨hlt,h.2.1,fun hr=>(by rw[F.gone _ hs]at hr;cases hr),fun _ _ _ hg=>(by rw[F.gone _ hs]at hg;cases hg)⟩
 |deadYld hlt hs =>
  intro cv h;cases h with
  |np h=>exact .np ⟨hlt,h.2.1,fun hr=>(by rw[F.gone _ hs]at hr;cases hr),fun _ _ _ _ _ _ _ hg=>(by rw[F.gone _ hs]at hg;cases hg),fun _ hg=>(by rw[F.gone _ hs]at hg;cases hg)⟩
 |Q hl hc ih =>
  intro cv h;cases h with
  |nz a cap =>
   rename_i c';have:c'=[]:=U5 hl;subst this;exact .nz a cap
  |Q hb hlt hlen hcs hcell hrel=>exact .Q (fun h=>hb (uJ h)) hlt hlen V hcell fun i h1 h2=>ih i V h1 (hrel i V h2)
 |ni hl hc ih =>
  intro cv h;cases h with
  |ni hb hlt hcs hcell hrel=>exact .ni (fun h=>hb (uJ h)) hlt V hcell fun i h1 h2=>ih i V h1 (hrel i V h2)
 |agg hl hc ih =>
  intro cv h;cases h with
  |agg hcs hrel=>exact .agg V fun i h1 h2=>ih i V h1 (hrel i V h2)
 |nf hl hc ih =>
  intro cv h;cases h with
  |nf hcs hrel=>exact .nf V fun i h1 h2=>ih i V h1 (hrel i V h2)
 |Z ha hb h1 h2 ih1 ih2 =>
  intro cv h;cases h with
  |Z hfs hcs hf hc=>exact .Z V V (fun i a b=>ih1 i V a (hf i V b)) fun i a b=>ih2 i V a (hc i V b)
 |U hlt hs =>
  intro cv h;cases h with
  |U h =>
   obtain⟨h1,h2,h0,h3⟩:=h;refine .U ⟨hlt,h2,fun hr=>?_,fun g' e' cells' hg'=>?_⟩
   ·obtain⟨_,b,hb,hfb,_⟩:=F.back hr;cases b with
    |nr=>exact h0 hb
    |_=>exact hfb.elim
   ·obtain⟨_,b,hb,hfb,_⟩:=F.back hg';cases b with
    |J g e cells =>
     obtain⟨rfl,rfl,hlen,_⟩:=hfb;have:=h3 _ _ _ hb;rw[jJ hs,hlen];exact this
    |_=>exact hfb.elim
 |O hlt hs =>
  intro cv h;cases h with
  |O h =>
   obtain⟨h1,h2,h0,h3⟩:=h;refine .O ⟨hlt,h2,fun hr=>?_,fun g' e' cells' hg'=>?_⟩
   ·obtain⟨_,b,hb,hfb,_⟩:=F.back hr;cases b with
    |nr=>exact h0 hb
    |_=>exact hfb.elim
   ·obtain⟨_,b,hb,hfb,_⟩:=F.back hg';cases b with
    |J g e cells =>
     obtain⟨rfl,rfl,hlen,_⟩:=hfb;have:=h3 _ _ _ hb;rw[jJ hs];exact this
    |_=>exact hfb.elim
 |np hlt hs =>
  intro cv h;cases h with
  |np h =>
   obtain⟨h1,h2,h0,h3,h4⟩:=h;refine .np ⟨hlt,h2,fun hr=>?_,fun st pend n env ps asg body hg'=>?_,fun es hg'=>?_⟩
   ·obtain⟨_,b,hb,hfb,_⟩:=F.back hr;cases b with
    |nr=>exact h0 hb
    |_=>exact hfb.elim
   ·obtain⟨_,b,hb,hfb,_⟩:=F.back hg';cases b with
    |loop st0 pend0 n0 env0 ps0 asg0 body0 =>
     have:=h3 _ _ _ _ _ _ _ hb;rw[jJ hs];exact this
    |_=>exact hfb.elim
   ·obtain⟨_,b,hb,hfb,_⟩:=F.back hg';cases b with
    |mp es0 =>
     have:=h4 _ hb;rw[jJ hs];exact this
    |_=>exact hfb.elim
 | @nA id g o l z e cells c' hs hg hl hc ih =>
  intro cv h;cases h with
  |U h =>
   obtain⟨h1,h2,h0,h3⟩:=h;have h4:=(h3 _ _ _ hg).2 rfl;have harr:=R.J id g e cells hg;cases hΓ:Γ id with
   |none =>
    rw[hΓ]at h4;obtain⟨rfl,rfl,rfl⟩:=h4;have:c'=[]:=U5 (by simpa using hl);subst this;exact .nz _ _
   |some y =>
    obtain⟨b,base,n⟩:=y;rw[hΓ]at h4 harr;obtain⟨a,cap,rfl,hcap,hoff,hor⟩:=h4;obtain⟨c,a1,a2,a3,a4⟩:=harr;rcases hor with ⟨rfl,hn⟩|⟨rfl,rfl⟩
    ·have hcell:∀i,i<l*z->∃cv,c[base+(o+i)]?=some cv/\∀(h:o+i<cells.length),Zr P Γ H w cells[o+i] cv:=fun i hi=>by
      obtain⟨cv,b1,b2⟩:=a4 (o+i) V;exact⟨cv,b1,fun _=>b2⟩
     let cs:List Value:=(List.range (l*z)).map fun i=>(c[base+(o+i)]?).getD undef
     have hcs:cs.length=c'.length:=(by simp[cs,hl]);refine .Q (cs:=cs) (fun ho=>?_) (R.lt _ _ _ _ hΓ) hcap hcs (fun i hi=>?_) fun i hi hi'=>?_
     ·obtain⟨id',base',n',h'⟩:=ho;obtain⟨hns,h''⟩:=kV h';have:=R.inj _ _ _ _ _ _ _ h'' hΓ;subst this;exact hns hs
     ·have hi2:i<l*z:=(by rw[hcs,hl]at hi;exact hi);obtain⟨cv,b1,_⟩:=hcell i hi2;have:cs[i]=cv:=(by simp[cs,b1]);rw[this];have he:base+o+i=base+(o+i):=V;simp only[World.cell?,a1,he];exact b1
     ·have hi2:i<l*z:=(by rw[hl]at hi;exact hi);obtain⟨cv,b1,b2⟩:=hcell i hi2;have:cs[i]=cv:=(by simp[cs,b1]);rw[this];exact ih i hi2 V hi (b2 V)
    ·have:c'=[]:=U5 (by simpa using hl);subst this;exact .nz _ _
 | @nN id g o e cells c' hs hg hne hl hc ih =>
  intro cv h;cases h with
  |O h =>
   obtain⟨h1,h2,h0,h3⟩:=h;obtain⟨b,base,n,hΓ,rfl⟩:=(h3 _ _ _ hg).2 rfl;have harr:=R.J id g e cells hg;rw[hΓ]at harr;obtain⟨c,a1,a2,a3,a4⟩:=harr
   let cs:List Value:=(List.range cells.length).map fun i=>(c[base+i]?).getD undef
   have hcs:cs.length=c'.length:=(by simp[cs,hl]);have hcell:∀i (hi:i<cells.length) (hi':i<cs.length),c[base+i]?=some cs[i]/\Zr P Γ H w cells[i] cs[i]:=fun i hi hi'=>by
    obtain⟨cv,b1,b2⟩:=a4 i hi;have:cs[i]=cv:=(by simp[cs,b1]);rw[this];exact⟨b1,b2⟩
   refine .ni (cs:=cs) (fun ho=>?_) (R.lt _ _ _ _ hΓ) hcs (fun i hi=>?_) fun i hi hi'=>?_
   ·obtain⟨id',base',n',h'⟩:=ho;obtain⟨hns,h''⟩:=kV h';have:=R.inj _ _ _ _ _ _ _ h'' hΓ;subst this;exact hns hs
   ·simp only[World.cell?,a1];exact(hcell i V hi).1
   ·exact ih i V hi (hcell i V hi').2
def Fz.plain {H:Zn}(h:Below 0 v):Fz S H nx v v:=by
 induction h with
 |lit v=>exact .lit v
 |Q _ ih=>exact .Q rfl fun i h _=>ih i h
 |ni _ ih=>exact .ni rfl fun i h _=>ih i h
 |agg _ ih=>exact .agg rfl fun i h _=>ih i h
 |nf _ ih=>exact .nf rfl fun i h _=>ih i h
 |Z _ _ ih1 ih2=>exact .Z rfl rfl (fun i h _=>ih1 i h) fun i h _=>ih2 i h
 |U h=>exact absurd h (Va _)
 |O h=>exact absurd h (Va _)
 |np h=>exact absurd h (Va _)
theorem Fz.ints {H:Zn}{g o:Nat}{e:TypeId}{cells:List Zo}{x:List Int}{n:Nat}(hs:S id)(hg:H.get id=some (.J g e cells))(hn:n=x.length)(hx:∀i (h:i<x.length),cells[o+i]?=some (aa x[i])):
  Fz S H nx (.U id g o n 1) (af x):=by
 subst hn;refine .nA hs hg (by simp[Go.Hx.ints]) fun i hi h2 h'=>?_;have h1:=hx i V;rw[UV h2]at h1;rw[Option.some.inj h1];have:(Go.Hx.ints x)[i]=aa x[i]:=by simp[Go.Hx.ints]
 rw[this];exact .lit _
def Fz.yj {H:Zn}:Fz S H nx (.lit (.slice none 0 0)) (af []):=.nil
def Fz.dW {H:Zn}(x:List Int):Fz S H nx (af x) (af x) :=
 .plain (.Q fun i h=>by simp only[Go.Hx.ints,Ve];exact .lit _)
def kW (x:List Int):(Go.Hx.ints x).all Zo.one=true:=by simp[Go.Hx.ints,aa,Zo.one,Value.oneCell]
def fu (G:Nat->Option (List Zo)):Prop:=∀g cells,G g=some cells->Below 0 (.ni cells 0)
def Z7.aY (F:Z7 S H H'):Zy Γ H w (gD S Γ) H' w where
 os:=rfl
 tape:=rfl
 output:=rfl
 size:=Zm
 ng:=fun _ _ h=>⟨rfl,fun h'=>h (uJ h')⟩
 na:=fun id _ _ x' hx=>by
  obtain⟨hs,b,hb,hfb,_⟩:=F.back hx;refine⟨b,hb,?_⟩;cases b<;>cases x'<;>first|exact hfb.elim|skip
  ·obtain⟨rfl,rfl,hl,_⟩:=hfb;exact⟨Zm,fun _=>⟨jJ hs,rfl,hl⟩⟩
  ·obtain⟨rfl,rfl,rfl,rfl,rfl,rfl,rfl,_⟩:=hfb;exact⟨jJ hs,rfl,rfl,rfl,rfl,rfl⟩
  ·exact jJ hs
  ·trivial
 nA:=fun _ _=>rfl
 kind:=.refl _
 newb:=fun _ _ x y h _=>⟨x,y,(kV h).2⟩
def Z7.rel (hG:fu G)(R:Zw P G Γ H w)(F:Z7 S H H'):Zw P G (gD S Γ) H' w where
 J id g e cells hg:=by
  obtain⟨hs,b,hb,hfb,_⟩:=F.back hg;cases b with
  |J g0 e0 c0 =>
   obtain⟨rfl,rfl,hl,hc⟩:=hfb;have h1:=R.J _ _ _ _ hb;rw[jJ hs];cases hΓ:Γ id with
   |none =>
    rw[hΓ]at h1;simp only at h1 ⊢;subst h1;exact U5 hl
   |some y =>
    obtain⟨b,base,n⟩:=y;rw[hΓ]at h1;obtain⟨c,a1,a2,a3,a4⟩:=h1;refine⟨c,a1,a2,V,fun i hi=>?_⟩;obtain⟨cv,b1,b2⟩:=a4 i V;exact⟨cv,b1,(hc i V hi).sound R F b2⟩
  |_=>exact hfb.elim
 loop id st pend n env ps asg body hg:=by
  obtain⟨hs,b,hb,hfb,_⟩:=F.back hg;cases b with
  |loop =>
   obtain⟨rfl,rfl,rfl,rfl,rfl,rfl,rfl,hf⟩:=hfb;obtain⟨b,rr,a1,a2,a3,a4,a5,a6,a7,a8,a9⟩:=R.loop _ _ _ _ _ _ _ _ hb;exact⟨b,rr,by rw[jJ hs];exact a1,a2,a3,a4,a5,a6,a7,a8,fun t ht=>(hf t V).sound R F (a9 t ht)⟩
  |_=>exact hfb.elim
 mp id es hg:=by
  obtain⟨hs,b,hb,hfb,_⟩:=F.back hg;cases b with
  |mp es0 =>
   have hfb':es=es0:=hfb;subst hfb';obtain⟨b,a1,a2⟩:=R.mp _ _ hb;exact⟨b,by rw[jJ hs];exact a1,a2⟩
  |_=>exact hfb.elim
 nr id hg:=by
  obtain⟨hs,b,hb,hfb,_⟩:=F.back hg;cases b with
  |nr=>rw[jJ hs];exact R.nr id hb
  |_=>exact hfb.elim
 inj id id' b base n base' n' h h':=R.inj id id' b base n base' n' (kV h).2 (kV h').2
 nF id x h:=by
  obtain⟨hs,h⟩:=kV h;obtain⟨y,hy⟩:=R.nF id x h;obtain⟨_,b',hb',_⟩:=F.kept id y hs hy;exact⟨b',hb'⟩
 lt id b base n h:=R.lt id b base n (kV h).2
 A id y h:=by
  obtain⟨_,_,_,_,h⟩:=F.back h;exact h
 nE g cells h:=(Fz.plain (hG g cells h)).sound R F (R.nE g cells h)
 gsz:=R.gsz
def iw.freeze (hG:fu G)(F:Z7 S H H')(hv:Fz S H H'.A v v'):iw P G H v H' v' :=
 fun Γ _ R=>⟨gD S Γ,F.rel hG R,F.aY,fun _ h=>hv.sound R F h⟩
def eP.freeze (hG:fu G){s s':St}(F:Z7 S s.H s'.H)(hv:∀t,Fz S s.H s'.H.A (s.ρ t) (s'.ρ t)):eP P G s s':=by
 intro n wb Γ a w hs;have E:Zy Γ s.H w (gD S Γ) s'.H w:=F.aY;refine⟨gD S Γ,⟨hs.size,fun t=>(hv t).sound hs.heap F (hs.env t),F.rel hG hs.heap,hs.defers.aY E,hs.low⟩,E,fun rd rb hr hri=>?_⟩;cases rd with
 |none=>exact hr
 |some id =>
  obtain⟨b,st,pend,n,env,ps,asg,body,h1,h2,h3⟩:=hr;obtain⟨st',pend',n',env',ps',asg',body',h4⟩:=hri;obtain⟨hns,_⟩:=F.back h4;exact⟨b,_,_,_,_,_,_,_,h1,by rw[jJ hns];exact h2,h4⟩
def KG (hc:Z6 H)(L:List Zu):Z7 (fun id=>H.A<=id) (ext H L) H where
 gone id hs:=by
  cases h:H.get id with
  |none=>rfl
  |some b=>have:=hc.lt id b h;omega
 kept id b hs hb:=by
  have hlt:id<H.A:=V7 hs;rw[c9 H L id hlt]at hb;have hbb:=hc.below id b hb;refine⟨hlt,b,hb,?_⟩;have hno:∀i,i<H.A->¬H.A<=i:=fun i h=>Nat.not_le_of_lt h;cases b with
  |nr=>trivial
  |mp=>rfl
  |J g e cells=>exact⟨rfl,rfl,rfl,fun i h _=>.refl (hbb i h) hno⟩
  |loop st pend n env ps asg body=>exact⟨rfl,rfl,rfl,rfl,rfl,rfl,rfl,fun t ht=>.refl (hbb t ht) hno⟩
 none id hs hb:=by
  rw[c9 H L id (V7 hs)]at hb;exact hb
def aj.drop (hG:fu G)(hc:Z6 H){L:List Zu}(hv:Fz (fun id=>H.A<=id) (ext H L) H.A v v')(hk:K (.ret v') H):aj P G H K v (ext H L) :=
 ⟨v',H,.freeze hG (KG hc L) hv,Zm,hk⟩
def aj.KH (hG:fu G)(hc:Z6 H)(hv:Fz (fun id=>H.A<=id) (ext H []) H.A v v')(hk:K (.ret v') H):aj P G H K v H:=by
 have:=aj.drop (P:=P) hG hc hv hk;rw[ext_nil]at this;exact this
theorem ae.Z {f : FuncId} {args : List Zo} {K : Zt → Zn → Prop} (hf : ∃ fn, P.funcs[f]? = some fn ∧ fn.body.isNone = false ∧ (fn.name == "runtime.NumGoroutine") = false) (h : Z6 H → ae P G f args H K) : ae P G f args H K :=
 ⟨hf,fun Γ w cargs R hr=>(h R.Z).2 Γ w cargs R hr⟩
def ae.KI   {K : Zt → Zn → Prop} (hf : ∃ fn, P.funcs[f]? = some fn ∧ fn.body.isNone = false ∧ (fn.name == "runtime.NumGoroutine") = false) (h : Z6 H → (∀ v, v ∈ args → Below H.A v) → ae P G f args H K) : ae P G f args H K :=
 ⟨hf,fun Γ w cargs R hr=>(h R.Z (fun v hv=>by
  obtain⟨i,hi,rfl⟩:=Y6.1 hv;exact(hr.2 i hi (by have:=hr.1;omega)).sJ)).2 Γ w cargs R hr⟩
end Go.Hx
namespace Go.Hx
variable {P:Program} {G:Nat->Option (List Zo)} {Γ Γ':aC} {H H':Zn} {w w':World}
variable {r:Loop}{b:Nat}{pend:Option Code}{x:Option Zu}
def uK (R:Zw P G Γ H w){id:Nat}{st:LoopState}{n:Nat}{env:Env}{ps:Array Tmp}{asg body:Code}(hg:H.get id=some (.loop st pend n env ps asg body)):
    ∃b r,Γ id=some (b,0,0)/\w.heap[b]?=some (.loop r)/\r.state=st/\r.pending=pend/\r.params=ps/\r.assign=asg/\r.body=body/\r.tmps.size=n/\(∀t (h:t<r.tmps.size),Zr P Γ H w (env t) r.tmps[t]) /\
      ∀st' pend',Zw P G Γ (H.upd id (.loop st' pend' n env ps asg body)) (bJ w b (.loop { r with state:=st',pending:=pend' })) /\
        Zy Γ H w Γ (H.upd id (.loop st' pend' n env ps asg body)) (bJ w b (.loop { r with state:=st',pending:=pend' })):=by
  obtain⟨b,r,hΓ,hb,h1,h2,h3,h4,h5,h6,h7⟩:=R.loop id st pend n env ps asg body hg;refine⟨b,r,hΓ,hb,h1,h2,h3,h4,h5,h6,h7,fun st' pend'=>?_⟩;have hlt:=R.lt id b 0 0 hΓ;have E:Zy Γ H w Γ (H.upd id (.loop st' pend' n env ps asg body)) (bJ w b (.loop { r with state:=st',pending:=pend' })) :=
    { os:=rfl,tape:=rfl,output:=rfl
      size:=by rw[j8];exact Nat.le_refl _
      ng:=fun c hc ho=>⟨by
        rw[eJ,UW];rintro⟨rfl,_⟩;exact ho ⟨id,0,0,hΓ⟩,ho⟩
      na:=fun i hi _ x' hx=>by
        rw[ah]at hx;split at hx
        · rename_i hii;subst hii;simp only[Option.some.injEq]at hx;subst hx;exact⟨_,hg,rfl,rfl,rfl,rfl,rfl,rfl⟩
        · exact⟨x',hx,Zu.le_refl _ _ _⟩
      nA:=fun a _=>rW hb (fun _ _ _ h=>by cases h) (fun _ _ _ h=>by cases h) a
      kind:=xk hb fun _ _ _ h=>by cases h
      newb:=.refl _ _ }
  refine⟨?_,E⟩;have hne:∀i b' base n',Γ i=some (b',base,n')->i≠id->b'≠b:=fun i b' base n' hi hii hbb=>by
    subst hbb;exact hii (R.inj _ _ _ _ _ _ _ hi hΓ)
  exact
    { J:=fun i g e cells hgi=>by
        rw[ah]at hgi;split at hgi
        · simp at hgi
        · rename_i hii;have h:=R.J i g e cells hgi;cases hi:Γ i with
          |none=>rw[hi]at h;exact h
          |some y =>
            obtain⟨b',base,n'⟩:=y;rw[hi]at h;obtain⟨c,a1,a2,a3,a4⟩:=h;refine⟨c,?_,a2,a3,fun j hj=>let ⟨cv,b1,b2⟩:=a4 j hj;⟨cv,b1,b2.aY E Zm⟩⟩;rw[eJ,UW]
            · exact a1
            · rintro⟨h,_⟩;exact hne i b' base n' hi hii h
      loop:=fun i st2 pend2 n2 env2 ps2 asg2 body2 hgi=>by
        rw[ah]at hgi;split at hgi
        · rename_i hii;subst hii;simp only[Option.some.injEq,Zu.loop.injEq]at hgi;obtain⟨rfl,rfl,rfl,rfl,rfl,rfl,rfl⟩:=hgi;refine⟨b,{ r with state:=st',pending:=pend' },hΓ,by rw[eJ,UX ⟨rfl,hlt⟩],rfl,rfl,h3,h4,h5,h6,fun t ht=>(h7 t ht).aY E Zm⟩
        · rename_i hii;obtain⟨b2,r2,a1,a2,a3,a4,a5,a6,a7,a8,a9⟩:=R.loop i _ _ _ _ _ _ _ hgi;refine⟨b2,r2,a1,?_,a3,a4,a5,a6,a7,a8,fun t ht=>(a9 t ht).aY E Zm⟩;rw[eJ,UW]
          · exact a2
          · rintro⟨h,_⟩;exact hne i b2 0 0 a1 hii h
      mp:=fun i es hgi=>by
        rw[ah]at hgi;split at hgi
        · simp at hgi
        · rename_i hii;obtain⟨b2,a1,a2⟩:=R.mp i _ hgi;refine⟨b2,a1,?_⟩;rw[eJ,UW]
          · exact a2
          · rintro⟨h,_⟩;exact hne i b2 0 0 a1 hii h
      nr:=fun i hgi=>by
        rw[ah]at hgi;split at hgi
        · simp at hgi
        · exact R.nr i hgi
      inj:=R.inj
      nF:=fun i x hi=>by
        obtain⟨y,hy⟩:=R.nF i x hi;rw[ah];split
        · exact⟨_,rfl⟩
        · exact⟨y,hy⟩
      lt:=fun i b' base n' hi=>by rw[j8];exact R.lt i b' base n' hi
      A:=fun i y hy=>by
        rw[ah]at hy;split at hy
        · rename_i hii;subst hii;exact R.A _ _ hg
        · exact R.A i y hy
      nE:=fun g cells h=>(R.nE g cells h).aY E (Nat.le_refl _)
      gsz:=R.qf E }
def sL (h:w.heap[b]?=some (.loop r)):(Instr.getLoop b).run P w=.ok r w:=by
  have hg:(getObj b).run P w=.ok (.loop r) w:=by simp[getObj,Sem.run,h]
  unfold Instr.getLoop;rw[aq hg];rfl
def yk {o':Obj}(h:w.heap[b]?=some (.loop r)):(setObj b o').run P w=.ok () (bJ w b o'):=by
  simp[setObj,Sem.run,h,bJ]
def KJ (h:w.heap[b]?=some (.loop r))(hs:r.state=.ready):(Instr.beginRound b).run P w=.ok () (bJ w b (.loop { r with state:=.busy,pending:=r.pending })):=by
  unfold Instr.beginRound;rw[aq (sL h),aq (yk h)];simp only[hs];rfl
def KK (h:w.heap[b]?=some (.loop r))(j:Option Code):
    (Instr.endRound b j).run P w=.ok (.bool j.isNone) (bJ w b (.loop { r with state:=if j.isNone then .ready else .done,pending:=j })):=by
  unfold Instr.endRound;rw[aq (sL h),aq (yk h)];rfl
def KL (h:w.heap[b]?=some (.loop r))(hs:(r.state == .busy)=false):(Instr.endLoop b).run P w=.ok r.pending (bJ w b (.loop { r with state:=.exhausted,pending:=r.pending })):=by
  unfold Instr.endLoop;rw[aq (sL h)];simp only[hs,Bool.false_eq_true,if_false];rw[aq (yk h)];rfl
def jK (ρ:Env)(l:List (Tmp × Zo)):Env:=l.foldl (fun ρ p=>aI ρ (some p.1) p.2) ρ
def dq (env:Env)(n:Nat):Env:=fun t=>if t<n then env t else .lit undef
def po (st:LoopState)(pend:Option Code):Option Zu->Option Zu
  |some (.loop _ _ n env ps asg body)=>some (.loop st pend n env ps asg body)
  |_=>none
def BU:Option Zu->Option Zu
  |some (.loop .ready pend n env ps asg body)=>some (.loop .busy pend n env ps asg body)
  |_=>none
def KM (id:Nat)(K:Zt->Zn->Prop):AX->St->Prop
  |.normal,s=>bq (po .ready none (s.H.get id)) fun b=>K (.ret (.lit (.bool true))) (s.H.upd id b)
  |.ret,s=>bq (po .done (some .ret) (s.H.get id)) fun b=>K (.ret (.lit (.bool false))) (s.H.upd id b)
  |.exit i,s=>bq (po .done (some (.exit i)) (s.H.get id)) fun b=>K (.ret (.lit (.bool false))) (s.H.upd id b)
  |.goto i,s=>bq (po .done (some (.goto i)) (s.H.get id)) fun b=>K (.ret (.lit (.bool false))) (s.H.upd id b)
  |.panic,_=>False
def KN (P:Program)(G:Nat->Option (List Zo))(n id:Nat)(body:Code)(K:Zt->Zn->Prop):AX->St->Prop
  |.normal,s=>bq (BU (s.H.get id)) fun b=>W P G n (some id) body (KM id K) ⟨s.ρ,s.H.upd id b⟩
  |_,_=>False
def KO:∀(l:List (Tmp × Zo)) (cl:List (Tmp × Value)) (ρ:Env) (tmps:Array Value),l.length=cl.length->(∀i (h:i<l.length) (h':i<cl.length),l[i].1=cl[i].1/\l[i].1<tmps.size/\Zr P Γ H w l[i].2 cl[i].2) ->
    (∀t,Zr P Γ H w (ρ t) (tmps.getD t undef)) ->
    ((cl.foldl (fun tmps (p:Tmp × Value)=>tmps.setIfInBounds p.1 p.2) tmps).size=tmps.size)/\∀t,Zr P Γ H w (jK ρ l t) ((cl.foldl (fun tmps (p:Tmp × Value)=>tmps.setIfInBounds p.1 p.2) tmps).getD t undef):=by
  intro l
  induction l with
  |nil =>
    intro cl ρ tmps hl _ he;cases cl with
    |nil=>exact⟨rfl,he⟩
    |cons=>simp at hl
  |cons x l ih =>
    intro cl ρ tmps hl h he;cases cl with
    |nil=>simp at hl
    |cons y cl =>
      obtain⟨h1,h2,h3⟩:=h 0 Zj Zj;simp only[VR]at h1 h2 h3;have:=ih cl (aI ρ (some x.1) x.2) (tmps.setIfInBounds y.1 y.2) (by simpa using hl) (fun i a b=>by
        have:=h (i+1) (by simpa using a) (by simpa using b);simp only[WU]at this;simpa using this) (fun t=>by
          by_cases ht:t=x.1
          · subst ht;have e1:aI ρ (some x.1) x.2 x.1=x.2:=(by simp[aI]);have e2:(tmps.setIfInBounds y.1 y.2).getD x.1 undef=y.2:=(by rw[<- h1];simp[h2]);rw[e1,e2];exact h3
          · have e1 : aI ρ (some x.1) x.2 t=ρ t:=(by simp [aI,ht]);have e2 : (tmps.setIfInBounds y.1 y.2).getD t undef=tmps.getD t undef:=by
              simp only[VJ];rw[VW,UW (by rw[<- h1];exact fun h=>ht h.symm)]
            rw[e1,e2];exact he t)
      refine⟨?_,this.2⟩;have h4:=this.1;simp only[Array.size_setIfInBounds]at h4;exact h4
def KP {st:LoopState}{b:Zu}(h:po st pend x=some b):∃st0 p0 n env ps asg body,x=some (.loop st0 p0 n env ps asg body)/\b=.loop st pend n env ps asg body:=by
  unfold po at h;split at h
  · cases h;exact⟨_,_,_,_,_,_,_,rfl,rfl⟩
  · cases h
theorem ao.np {id:Nat}{args:List Zo}{K:Zt->Zn->Prop}{pend:Option Code}{n:Nat}{env:Env}{ps:Array Tmp}{asg body:Code}(hg:H.get id=some (.loop .ready pend n env ps asg body))(hl:args.length=ps.size)
    (hps:ps.toList.all (fun t=>decide (t<n))=true) (h:W P G n (some id) asg (KN P G n id body K) ⟨jK (dq env n) (ps.toList.zip args),H⟩):ao P G (.np id) args H K:=by
  intro Γ w cfv cargs R hv hr;cases hv with
  |np hy =>
    obtain⟨b,hΓ,rfl⟩:=hy.2.2.2.1 _ _ _ _ _ _ _ hg;obtain⟨b',r,hΓ',hb,h1,h2,h3,h4,h5,h6,h7,_⟩:=uK R hg;rw[hΓ]at hΓ';simp only[Option.some.injEq,Prod.mk.injEq]at hΓ';obtain⟨rfl,_⟩:=hΓ';have hsz:cargs.size=r.params.size:=(by rw[hr.1,hl,h3]);refine⟨{ target:=.fn (.yield b) #[],args:=#[]++cargs },rfl,.inr (.inl ⟨b,r.fn,(r.params.zip (#[]++cargs)).foldl (fun tmps (t,a)=>tmps.setIfInBounds t a) r.tmps,r.assign,r.body,?_,?_⟩)⟩
    · show (Instr.yield b (#[]++cargs)).run P w=_;unfold Instr.yield;rw[aq (sL hb)];have:¬((#[]++cargs).size≠r.params.size):=(by simp[hsz]);rw[UW this];rfl
    · refine roundIn_of_wpIn (F:=Fence.wide) trivial ?_;have hfold : (r.params.zip (#[]++cargs)).foldl (fun tmps (t,a)=>tmps.setIfInBounds t a) r.tmps=(r.params.toList.zip cargs.toList).foldl (fun tmps (p : Tmp × Value)=>tmps.setIfInBounds p.1 p.2) r.tmps:=by
        rw[<- Array.foldl_toList];simp
      rw [hfold,h4,h5];have hset:=KO (P:=P) (Γ:=Γ) (H:=H) (w:=w) (ps.toList.zip args) (r.params.toList.zip cargs.toList) (dq env n) r.tmps (by simp [hr.1,h3]) (fun i a c=>by
          simp only[List.length_zip,WT]at a c;simp only[List.getElem_zip,V4];refine⟨by simp only[h3],?_,hr.2 i V V⟩;rw[h6];have:=Vo.1 hps (ps[i]' V) Zj;simpa using this) (fun t=>by
          unfold dq;by_cases ht:t<n
          · rw[UX ht];have:r.tmps.getD t undef=r.tmps[t]' V:=(by simp[h6,ht]);rw[this];exact h7 t (V)
          · rw[UW ht];have:r.tmps.getD t undef=undef:=(by simp[h6,ht]);rw[this];exact .lit _)
      have hs:ZE P G n ⟨0,[]⟩ Γ ⟨jK (dq env n) (ps.toList.zip args),H⟩ { tmps:=(r.params.toList.zip cargs.toList).foldl (fun tmps (p:Tmp × Value)=>tmps.setIfInBounds p.1 p.2) r.tmps,defers:=[] } w :=
        ⟨by rw[hset.1,h6],hset.2,R,⟨[],rfl,Marks.nil⟩,Wo _⟩
      refine wpIn_mono (h ⟨0,[]⟩ Γ _ w (some b) hs ⟨b,_,_,_,_,_,_,_,rfl,hΓ,hg⟩) ?_;rintro e a₁ w₁ ⟨x,s₁,Γ₁,hx,hq,hs₁,E₁,hn₁,hr₁,_⟩;cases x with
      |normal =>
        cases e with
        |normal =>
          obtain⟨blk,hbg,hW⟩:=hq;obtain⟨b1,st1,p1,n1,env1,ps1,asg1,body1,hb1,hΓ₁,hg₁⟩:=hr₁;simp only[Option.some.injEq]at hb1;subst hb1;rw[hg₁]at hbg;have hst:st1=.ready/\blk=.loop .busy p1 n1 env1 ps1 asg1 body1:=by
            cases st1<;>simp[BU]at hbg
            exact⟨rfl,hbg.symm⟩
          obtain ⟨rfl,rfl⟩:=hst;obtain ⟨b2,r1,hΓ₂,hb2,k1,k2,k3,k4,k5,k6,k7,kset⟩:=uK hs₁.heap hg₁;rw [hΓ₁] at hΓ₂;simp only [Option.some.injEq,Prod.mk.injEq] at hΓ₂;obtain ⟨rfl,_⟩:=hΓ₂;obtain ⟨R2,E2⟩:=kset .busy r1.pending;rw [k2] at R2 E2;have hb3 : Γ₁ id=some (b,0,0):=hΓ₁;refine ⟨_,KJ hb2 k1,?_⟩;rw [k2];refine wpIn_mono (hW ⟨0,[]⟩ Γ₁ a₁ _ (some b) (hs₁.move E2 Zm R2) ⟨b,_,_,_,_,_,_,_,rfl,hΓ₁,by rw [ah,UX rfl]⟩) ?_;rintro e a₂ w₂ ⟨x,s₂,Γ₂,hx,hq,hs₂,E3,hn₂,hr₂,_⟩;obtain ⟨b4,st4,p4,n4,env4,ps4,asg4,body4,hb4,hΓ₄,hg₄⟩:=hr₂;simp only [Option.some.injEq] at hb4;subst hb4;obtain ⟨b5,r5,hΓ₅,hb5,l1,l2,l3,l4,l5,l6,l7,lset⟩:=uK hs₂.heap hg₄;rw [hΓ₄] at hΓ₅;simp only [Option.some.injEq,Prod.mk.injEq] at hΓ₅;obtain ⟨rfl,_⟩:=hΓ₅;have E4 : Zy Γ H w Γ₂ s₂.H w₂:=(E₁.trans hn₁ E2).trans hn₁ E3;have hn4 : H.A≤s₂.H.A:=VC hn₁ hn₂;have fin : ∀ (j : Option Code) (v : Bool),v=j.isNone→bq (po (if j.isNone then .ready else .done) j (s₂.H.get id)) (fun bl=>K (.ret (.lit (.bool v))) (s₂.H.upd id bl)) →
              ∃cv w',(Instr.endRound b j).run P w₂=.ok cv w'/\fH P G Γ H w K (.returned cv) w':=by
            rintro j v rfl ⟨bl,hbl,hk⟩;obtain⟨R6,E6⟩:=lset (if j.isNone then .ready else .done) j;rw[hg₄]at hbl;obtain⟨_,_,_,_,_,_,_,heq,rfl⟩:=KP hbl;simp only[Option.some.injEq,Zu.loop.injEq]at heq;obtain⟨rfl,rfl,rfl,rfl,rfl,rfl,rfl⟩:=heq;exact⟨_,_,KK hb5 j,.ret (.lit (.bool j.isNone)),_,Γ₂,Zr.lit _,hk,R6,E4.trans hn4 E6,hn4⟩
          cases e with
          |normal=>cases x with
            |normal=>exact fin none true rfl hq
            |_=>exact hx.elim
          |ret=>cases x with
            |ret=>exact fin (some .ret) false rfl hq
            |_=>exact hx.elim
          |exit i=>cases x with
            |exit i' =>
              obtain rfl:i=i':=hx;exact fin (some (.exit i)) false rfl hq
            |_=>exact hx.elim
          |goto i=>cases x with
            |goto i' =>
              obtain rfl:i=i':=hx;exact fin (some (.goto i)) false rfl hq
            |_=>exact hx.elim
          |panic c=>cases x with
            |panic=>exact hq.elim
            |_=>exact hx.elim
          |outgrown=>cases x<;>exact hx.elim
        |_=>exact hx.elim
      |_=>exact hq.elim
def ym (hos:w'.os=w.os)(ht:w'.tape=w.tape)(ho:w'.output=w.output)(hs:w.heap.size<=w'.heap.size)(hk:∀b,b<w.heap.size->w'.heap[b]?=w.heap[b]?)(hz:∀a,a.block<w.heap.size->w'.frozen? a=w.frozen? a)(R:Zw P G Γ H w):Zy Γ H w Γ H w'/\Zw P G Γ H w':=by
  have E:Zy Γ H w Γ H w':=⟨hos,ht,ho,hs,fun b hb h=>⟨hk b hb,h⟩,fun _ _ _ x' hx=>⟨x',hx,Zu.le_refl _ _ _⟩,hz,Gp hk,.refl _ _⟩
  refine⟨E,?_⟩;exact
    { J:=fun id g e cells hg=>by
        have h1:=R.J id g e cells hg;cases hΓ:Γ id with
        |none=>rw[hΓ]at h1;exact h1
        |some y =>
          obtain⟨b,base,n⟩:=y;rw[hΓ]at h1;obtain⟨c,a1,a2,a3,a4⟩:=h1;exact⟨c,by rw[hk b (R.lt _ _ _ _ hΓ)];exact a1,a2,a3,fun i hi=>let ⟨cv,b1,b2⟩:=a4 i hi;⟨cv,b1,b2.aY E Zm⟩⟩
      loop:=fun id st pend n env ps asg body hg=>by
        obtain⟨b,rr,a1,a2,a3,a4,a5,a6,a7,a8,a9⟩:=R.loop id st pend n env ps asg body hg;exact⟨b,rr,a1,by rw[hk b (R.lt _ _ _ _ a1)];exact a2,a3,a4,a5,a6,a7,a8,fun t ht=>(a9 t ht).aY E Zm⟩
      mp:=fun id es hg=>by
        obtain⟨b,a1,a2⟩:=R.mp id es hg;exact⟨b,a1,by rw[hk b (R.lt _ _ _ _ a1)];exact a2⟩
      nr:=R.nr
      inj:=R.inj
      nF:=R.nF
      lt:=fun id b base n h=>U4 (R.lt id b base n h) hs
      A:=R.A
      nE:=fun g cells h=>(R.nE g cells h).aY E (Nat.le_refl _)
      gsz:=R.qf E }
def yn:Option Zu->Option (Option Code × Zu)
  |some (.loop .busy ..)=>none
  |some (.loop _ pend n env ps asg body)=>some (pend,.loop .exhausted pend n env ps asg body)
  |_=>none
def KQ (Q:AX->St->Prop)(s:St):Option Code->Prop
  |none=>Q .normal s
  |some .ret=>Q .ret s
  |some (.exit i)=>Q (.exit i) s
  |some (.goto i)=>Q (.goto i) s
  |_=>False
def yo (rd:Option Nat)(Q:AX->St->Prop)(ρ:Env)(id:Nat):Zt->Zn->Prop
  |.ret _,H'=>fG H' rd/\bq (yn (H'.get id)) fun pb=>KQ Q ⟨ρ,H'.upd id pb.2⟩ pb.1
  |.panic,H'=>fG H' rd/\Q .panic ⟨ρ,H'⟩
def KR {pb:Option Code × Zu}(h:yn x=some pb):∃st pend n env ps asg body,x=some (.loop st pend n env ps asg body)/\(st == .busy)=false/\pb=(pend,.loop .exhausted pend n env ps asg body):=by
  unfold yn at h;split at h
  · cases h
  · rename_i st pend n env ps asg body hne;cases h;refine⟨_,_,_,_,_,_,_,rfl,?_,rfl⟩;cases st with
    |busy=>exact absurd rfl (by first|exact hne|exact fun h=>hne _ _ _ _ _ _ h)
    |_=>rfl
  · cases h
section
variable {n:Nat} {rd:Option Nat} {Q:AX->St->Prop}
theorem W.rangeFunc {g:Operand}{ps:Array Tmp}{asg body:Code}{s:St}{f:FuncId}{first cap:List Zo}(hg:ar G s.ρ g=.Z f first cap)
    (h:bq (s.H.lay s.H.A (.loop .ready none n s.ρ ps asg body)) fun H1=>ae P G f (first++[.np s.H.A]++cap) H1 (yo rd Q s.ρ s.H.A)):W P G n rd (.rangeFunc g ps asg body) Q s:=by
  intro wb Γ a w rb hs hr;obtain⟨H1,hlay,hcall⟩:=h;have hlay2:H1=⟨fun j=>if j=s.H.A then some (.loop .ready none n s.ρ ps asg body) else s.H.get j,s.H.A+1⟩:=by
    unfold Zn.lay at hlay;rw[UX rfl]at hlay;exact(Option.some.inj hlay).symm
  subst hlay2;refine wpIn_rangeFunc fun fn _=>?_;have he:=jr hs g;rw[hg]at he
  -- the world with the record
  have key : ∀ (w0 : World) (mark : List Deferred) (dblk : Nat),Zy Γ s.H w Γ s.H w0→Zw P G Γ s.H w0 →
      sy wb Γ w0 (mark++a.defers) ->
      ∀w1,w1={ w0 with heap:=w0.heap.push (.loop { state:=.ready,pending:=none,fn:=fn,tmps:=a.tmps,params:=ps,assign:=asg,body:=body,defers:=dblk }) } ->
      (Instr.enterLoop fn a.tmps ps asg body (dV rb).round).run P w=.ok (w0.heap.size,mark) w1 ->
      ∃(l:Nat) (mark:List Deferred) (w₁:World) (d:Deferred) (w₁':World) (f:FuncId) (args:Array Value) (w₂:World),
      (Instr.enterLoop fn a.tmps ps asg body (dV rb).round).run P w=.ok (l,mark) w₁ /\
      (resolve a.eval (rangeCall g l) 0).run P w₁=.ok d w₁' /\
      (∀f',Target.leads P w₁' d.target d.args=some f'->(dV rb).fn f') /\
      (invoke d.target d.args).run P w₁'=.ok (.enter f args) w₂ /\
      ((dV rb).depth.isSome=true->1<=0) /\
      CallsIn (dV rb) (0-1) P f args w₂ (rangePost (dV rb) 0 P l (ir P G n wb rd rb (wr (.rangeFunc g ps asg body)) Γ s.H a w Q) { a with defers:=mark++a.defers }):=by
    intro w0 mark dblk E0 R0 hdef w1 hw1 hent
    let rec':Loop:={ state:=.ready,pending:=none,fn:=fn,tmps:=a.tmps,params:=ps,assign:=asg,body:=body,defers:=dblk }
    have hheap:w1.heap=w0.heap.push (.loop rec'):=(by rw[hw1]);have hsz1:w1.heap.size=w0.heap.size+1:=(by rw[hheap];simp);have hk1:∀b,b<w0.heap.size->w1.heap[b]?=w0.heap[b]?:=fun b hb=>by
      rw[hheap,XA];rw[UW V]
    have hget1:w1.heap[w0.heap.size]?=some (.loop rec'):=(by rw[hheap];simp);obtain⟨E1,R1⟩:=ym (w':=w1) (by rw[hw1]) (by rw[hw1]) (by rw[hw1]) V hk1 (fun a _=>qj hheap (fun _ _ _ h=>by cases h) a) R0
    let Γ1:aC:=fun i=>if i=s.H.A then some (w0.heap.size,0,0) else Γ i
    let H1:Zn:=⟨fun j=>if j=s.H.A then some (.loop .ready none n s.ρ ps asg body) else s.H.get j,s.H.A+1⟩
    have hfresh:∀i y,s.H.get i=some y->i≠s.H.A:=fun i y hy h=>by have:=R0.A i y hy;omega
    have hΓfresh:∀i x,Γ i=some x->i≠s.H.A:=fun i x hx=>let ⟨y,hy⟩:=R0.nF i x hx;hfresh i y hy
    have hΓ1:∀i,i≠s.H.A->Γ1 i=Γ i:=fun i hi=>by simp only[Γ1];rw[UW hi]
    have hH1:∀i,i≠s.H.A->H1.get i=s.H.get i:=fun i hi=>by simp only[H1];rw[UW hi]
    have E2:Zy Γ s.H w0 Γ1 H1 w1 :=
      { os:=by rw[hw1],tape:=by rw[hw1],output:=by rw[hw1],size:=V
        ng:=fun b hb ho=>⟨hk1 b hb,by
          rintro⟨i,base,m,hi⟩;simp only[Γ1]at hi;split at hi
          · simp only[Option.some.injEq,Prod.mk.injEq]at hi;omega
          · exact ho ⟨i,base,m,hi⟩⟩
        na:=fun i hi _ x' hx=>by
          rw[hH1 i V]at hx;refine⟨x',hx,?_⟩;have hΓi:Γ1 i=Γ i:=hΓ1 i V;cases x' with
          |J=>exact⟨Zm,fun _=>⟨hΓi,rfl,rfl⟩⟩
          |loop=>exact⟨hΓi,rfl,rfl,rfl,rfl,rfl⟩
          |mp=>exact hΓi
          |nr=>trivial
        nA:=fun a _=>qj hheap (fun _ _ _ h=>by cases h) a
        kind:=ua hheap
        newb:=fun i b x y hi hlt=>by
          simp only[Γ1]at hi;split at hi
          · simp only[Option.some.injEq,Prod.mk.injEq]at hi;omega
          · exact⟨x,y,hi⟩ }
    have hn1:s.H.A<=H1.A:=Xf _;have tr:∀v cv,Zr P Γ s.H w0 v cv->Zr P Γ1 H1 w1 v cv:=fun v cv h=>h.aY E2 hn1;have R2:Zw P G Γ1 H1 w1 :=
      { J:=fun i g e cells hi=>by
          by_cases hii:i=s.H.A
          · simp only[H1]at hi;rw[UX hii]at hi;simp at hi
          · rw[hH1 i hii]at hi;have h:=R0.J i g e cells hi;rw[hΓ1 i hii];cases hΓ:Γ i with
            |none=>rw[hΓ]at h;exact h
            |some y =>
              obtain⟨b,base,m⟩:=y;rw[hΓ]at h;obtain⟨c,a1,a2,a3,a4⟩:=h;exact⟨c,by rw[hk1 b (R0.lt _ _ _ _ hΓ)];exact a1,a2,a3,fun j hj=>let ⟨cv,b1,b2⟩:=a4 j hj;⟨cv,b1,tr _ _ b2⟩⟩
        loop:=fun i st2 pend2 n2 env2 ps2 asg2 body2 hi=>by
          by_cases hii:i=s.H.A
          · simp only [H1] at hi;rw [UX hii] at hi;simp only [Option.some.injEq,Zu.loop.injEq] at hi;obtain ⟨rfl,rfl,rfl,rfl,rfl,rfl,rfl⟩:=hi;refine ⟨w0.heap.size,rec',by simp only [Γ1];rw [UX hii],hget1,rfl,rfl,rfl,rfl,rfl,hs.size,fun t ht=>?_⟩;have:=((hs.env t).aY E0 Zm).aY E2 hn1;have e1 : a.tmps.getD t undef=a.tmps[t]'ht:=by
              have:t<a.tmps.size:=ht;simp[this]
            rw[e1]at this;exact this
          · rw[hH1 i hii]at hi;obtain⟨b2,r2,a1,a2,a3,a4,a5,a6,a7,a8,a9⟩:=R0.loop i _ _ _ _ _ _ _ hi;exact⟨b2,r2,by rw[hΓ1 i hii];exact a1,by rw[hk1 b2 (R0.lt _ _ _ _ a1)];exact a2,a3,a4,a5,a6,a7,a8,fun t ht=>tr _ _ (a9 t ht)⟩
        mp:=fun i es hi=>by
          by_cases hii:i=s.H.A
          · simp only[H1]at hi;rw[UX hii]at hi;simp at hi
          · rw[hH1 i hii]at hi;obtain⟨b2,a1,a2⟩:=R0.mp i _ hi;exact⟨b2,by rw[hΓ1 i hii];exact a1,by rw[hk1 b2 (R0.lt _ _ _ _ a1)];exact a2⟩
        nr:=fun i hi=>by
          by_cases hii:i=s.H.A
          · simp only[H1]at hi;rw[UX hii]at hi;simp at hi
          · rw[hH1 i hii]at hi;rw[hΓ1 i hii];exact R0.nr i hi
        inj:=fun i i' b base m base' m' h h'=>by
          by_cases h1:i=s.H.A
          · by_cases h2:i'=s.H.A
            · rw[h1,h2]
            · rw[hΓ1 i' h2]at h';simp only[Γ1]at h;rw[UX h1]at h;simp only[Option.some.injEq,Prod.mk.injEq]at h;have:=R0.lt _ _ _ _ h';omega
          · by_cases h2:i'=s.H.A
            · rw[hΓ1 i h1]at h;simp only[Γ1]at h';rw[UX h2]at h';simp only[Option.some.injEq,Prod.mk.injEq]at h';have:=R0.lt _ _ _ _ h;omega
            · rw[hΓ1 i h1]at h;rw[hΓ1 i' h2]at h';exact R0.inj _ _ _ _ _ _ _ h h'
        nF:=fun i x hi=>by
          by_cases hii:i=s.H.A
          · simp only[H1];rw[UX hii];exact⟨_,rfl⟩
          · rw[hΓ1 i hii]at hi;rw[hH1 i hii];exact R0.nF i x hi
        lt:=fun i b base m hi=>by
          by_cases hii:i=s.H.A
          · simp only[Γ1]at hi;rw[UX hii]at hi;simp only[Option.some.injEq,Prod.mk.injEq]at hi;omega
          · rw[hΓ1 i hii]at hi;have:=R0.lt _ _ _ _ hi;omega
        A:=fun i y hi=>by
          by_cases hii:i=s.H.A
          · show i<s.H.A+1;omega
          · rw[hH1 i hii]at hi;have:=R0.A i y hi;show i<s.H.A+1;omega
        nE:=fun g cells h=>tr _ _ (R0.nE g cells h)
        gsz:=R0.qf E2 }
    have E3:Zy Γ s.H w Γ1 H1 w1:=E0.trans Zm E2;generalize hcg:a.eval g=cg at he;cases he with
    | @Z _ _ _ fs cs hfs hcs hf hc =>
      obtain⟨⟨fn',hfn',hb',hname'⟩,hcall⟩:=hcall;have hyld:Zr P Γ1 H1 w1 (.np s.H.A) (.func (.yield w0.heap.size) #[] #[]) :=
        .np ⟨VY _,rfl,by simp[H1],fun st pend n env ps asg body hgi=>⟨w0.heap.size,by simp[Γ1],rfl⟩,fun es hgi=>by simp[H1]at hgi⟩
      have hargs:dG P Γ1 H1 w1 (first++[.np s.H.A]++cap) (fs.toArray++#[.func (.yield w0.heap.size) #[] #[]]++cs.toArray):=by
        refine uq (uq ⟨by simpa using hfs,fun i h1 h2=>?_⟩ ⟨rfl,fun i h1 h2=>?_⟩) ⟨by simpa using hcs,fun i h1 h2=>?_⟩
        · exact(by simpa using hf i h1 (by simpa using h2):Zr P Γ s.H w first[i] (fs.toArray[i])).aY E3 hn1
        · have:i=0:=(by simp at h1;omega);subst this;exact hyld
        · exact(by simpa using hc i h1 (by simpa using h2):Zr P Γ s.H w cap[i] (cs.toArray[i])).aY E3 hn1
      refine⟨w0.heap.size,mark,w1,{ target:=.fn (.func f) cs.toArray,args:=fs.toArray++#[.func (.yield w0.heap.size) #[] #[]] },w1,f,fs.toArray++#[.func (.yield w0.heap.size) #[] #[]]++cs.toArray,w1,hent,?_,fun _ _=>trivial,?_,fun hc=>by simp[Fence.wide]at hc,?_⟩
      · have hm:Array.map a.eval #[Operand.const (.func (.yield w0.heap.size) #[] #[])]=#[.func (.yield w0.heap.size) #[] #[]]:=(by simp[Act.eval]);unfold resolve;simp only[hcg,hm];rfl
      · show (callFunc f (fs.toArray++#[.func (.yield w0.heap.size) #[] #[]]++cs.toArray)).run P w1=_;unfold callFunc;rw[aq (run_program P w1)];simp only[hfn'];rw[hname',hb'];rfl
      · have h4 : CallsIn (dV rb) 0 P f (fs.toArray++#[.func (.yield w0.heap.size) #[] #[]]++cs.toArray) w1 _:=hcall Γ1 w1 _ R2 hargs;refine h4.mono ?_;rintro e w3 ⟨r,H',Γ',hend,hk,R',E',hn'⟩;have E5 : Zy Γ s.H w Γ' H' w3:=E3.trans hn1 E';have hn5 : s.H.A≤H'.A:=VC hn1 hn';have mkS : ∀ (H'' : Zn) (w4 : World),Zw P G Γ' H'' w4→Zy Γ s.H w Γ' H'' w4→Zy Γ s.H w0 Γ' H'' w4→s.H.A≤H''.A→ZE P G n wb Γ' ⟨s.ρ,H''⟩ { a with defers:=mark++a.defers } w4 :=
          fun H'' w4 R'' E'' E0'' hn''=>⟨hs.size,fun t=>(hs.env t).aY E'' hn'',R'',hdef.aY E0'',VC hs.low E''.size⟩
        cases e with
        |returned cv =>
          cases r with
          |panic=>exact hend.elim
          |ret v =>
            obtain⟨hri,pb,hpb,hj⟩:=hk;obtain⟨st,pend,n2,env2,ps2,asg2,body2,hgl,hbusy,rfl⟩:=KR hpb;obtain⟨b,r2,hΓb,hb,l1,l2,l3,l4,l5,l6,l7,lset⟩:=uK R' hgl;obtain⟨R6,E6⟩:=lset .exhausted r2.pending;have hbl:b=w0.heap.size:=by
              obtain⟨x,hx,hle⟩:=E'.na s.H.A (VY _) (U4 (VY _) hn') _ hgl;have hx':H1.get s.H.A=some (.loop .ready none n s.ρ ps asg body):=(by simp[H1]);rw[hx']at hx;cases hx;have h1:=hle.1;rw[hΓb]at h1;simp only[Γ1,if_true,Option.some.injEq,Prod.mk.injEq]at h1;exact h1.1
            subst hbl;have hend':=KL (P:=P) hb (by rw[l1];exact hbusy);rw[l2]at R6 E6 hend';refine⟨pend,_,hend',?_⟩;have E7:=E5.trans hn5 E6;have hS:=mkS _ _ R6 E7 ((E2.trans hn1 E').trans hn5 E6) hn5;have hri':fG (H'.upd s.H.A (.loop .exhausted pend n2 env2 ps2 asg2 body2)) rd:=by
              cases rd with
              |none=>trivial
              |some i =>
                obtain⟨st3,pend3,n3,env3,ps3,asg3,body3,h3⟩:=hri;by_cases hii:i=s.H.A
                · exact⟨_,_,_,_,_,_,_,by rw[ah,UX hii]⟩
                · exact⟨_,_,_,_,_,_,_,by rw[ah,UW hii];exact h3⟩
            have hR:=hr.aY E7 hn5 hs.heap hri';have post:∀(e:Exit) (x:AX),xV e x->Q x ⟨s.ρ,H'.upd s.H.A (.loop .exhausted pend n2 env2 ps2 asg2 body2)⟩->ir P G n wb rd rb (wr (.rangeFunc g ps asg body)) Γ s.H a w Q e { a with defers:=mark++a.defers } _ :=
              fun e x hx hq=>⟨x,_,Γ',hx,hq,hS,E7,hn5,hR,fun t _=>rfl⟩
            simp only at hj;cases pend with
            |none=>exact post .normal .normal trivial hj
            |some c =>
              cases c with
              |ret=>exact wpIn_ret (post .ret .ret trivial hj)
              |exit i=>exact wpIn_exit (post (.exit i) (.exit i) rfl hj)
              |goto i=>exact wpIn_goto (post (.goto i) (.goto i) rfl hj)
              |_=>exact hj.elim
        |panicked chain =>
          cases r with
          |ret v=>exact hend.elim
          |panic =>
            exact⟨.panic,_,Γ',hend,hk.2,mkS _ _ R' E5 (E2.trans hn1 E') hn5,E5,hn5,hr.aY E5 hn5 hs.heap hk.1,fun t _=>rfl⟩
        |outgrown=>cases r<;>exact hend.elim
  cases rb with
  |none =>
    let w0:World:={ w with heap:=w.heap.push (.deferred (some [])) }
    have hk0:∀b,b<w.heap.size->w0.heap[b]?=w.heap[b]?:=fun b hb=>by
      show (w.heap.push _)[b]?=_;rw[XA,UW V]
    obtain⟨E0,R0⟩:=ym (w:=w) (w':=w0) rfl rfl rfl (by simp[w0]) hk0 (fun a _=>qj (o:=.deferred (some [])) rfl (fun _ _ _ h=>by cases h) a) hs.heap;refine key w0 [{ target:=.collected w.heap.size,args:=#[] }] w.heap.size E0 R0 ?_ _ rfl rfl;obtain⟨m,hm,hmk⟩:=hs.defers;refine⟨{ target:=.collected w.heap.size,args:=#[] } :: m,by rw[hm];rfl,fun d hd=>?_,?_⟩
    · simp only[List.mem_cons]at hd;rcases hd with rfl|hd
      · refine⟨w.heap.size,rfl,hs.low,?_,by simp[w0]⟩;rintro⟨i,base,m,hi⟩;have:=hs.heap.lt _ _ _ _ hi;omega
      · obtain⟨r,h1,h2,h3⟩:=hmk.1 d hd;exact⟨r,h1,h2,h3.aY E0⟩
    · refine Xn.2 ⟨fun d hd=>?_,hmk.2⟩;obtain⟨r,h1,h2,h3⟩:=hmk.1 d hd;rw[h1];intro he;simp only[Target.collected.injEq]at he;have h4:=h3.2;rw[<- he,Wt Zm]at h4;cases h4
  |some b0 =>
    have hlr:∃r,w.heap[b0]?=some (.loop r):=by
      cases rd with
      |none=>cases hr
      |some id =>
        obtain⟨b,st,pend,n',env,ps',asg',body',h1,h2,h3⟩:=hr;obtain⟨b',r,h4,h5,_⟩:=hs.heap.loop _ _ _ _ _ _ _ _ h3;rw[h2]at h4;simp only[Option.some.injEq,Prod.mk.injEq]at h4 h1;rw[h1,h4.1];exact⟨r,h5⟩
    obtain⟨r,hlr⟩:=hlr;refine key w [] r.defers (Zy.refl _ _ _) hs.heap (by simpa using hs.defers) _ rfl ?_;show (Instr.enterLoop fn a.tmps ps asg body (some b0)).run P w=_;unfold Instr.enterLoop;simp only[bind_assoc,pure_bind];rw[aq (sL hlr)];rfl
end
end Go.Hx
namespace Go.Hx
variable {P:Program} {G:Nat->Option (List Zo)} {Γ Γ':aC} {H H':Zn} {w w':World}
variable {f:FuncId}{args args':List Zo}{v':Zo}
def cW:Zn:=⟨fun _=>none,0⟩
inductive ZJ (H:Zn):Zo->Zo->Prop
 |lit (v:Value):ZJ H (.lit v) (.lit v)
 |nil:ZJ H (.lit (.slice none 0 0)) (.Q 0 [])
 |nz:ZJ H (.Q 0 []) (.Q 0 [])
 |agg {c c':List Zo} (hl:c'.length=c.length) (h:∀i (h:i<c.length) (h':i<c'.length),ZJ H c[i] c'[i]):ZJ H (.agg c) (.agg c')
 |nf {c c':List Zo} (hl:c'.length=c.length) (h:∀i (h:i<c.length) (h':i<c'.length),ZJ H c[i] c'[i]):ZJ H (.nf c) (.nf c')
 |U {id g o l z:Nat} {e:TypeId} {cells c':List Zo} (hg:H.get id=some (.J g e cells)) (hl:c'.length=l*z)
   (h:∀i (h:i<l*z) (h2:o+i<cells.length) (h':i<c'.length),ZJ H cells[o+i] c'[i]):ZJ H (.U id g o l z) (.Q l c')
def ZJ.sound (R:Zw P G Γ' H' w){N:Nat}(h1:∀b,Γ'.fF b->N<=b)(h2:∀b,Γ.fF b->b<N){v:Zo}(hf:ZJ H' v v'):∀ {cv:Value},Zr P Γ' H' w v cv->Zr P Γ H w v' cv:=by
 induction hf with
 |lit v=>intro cv h;cases h;exact .lit _
 |nil=>intro cv h;cases h;exact .nz none 0
 |nz =>
  intro cv h;cases h with
  |nz a cap=>exact .nz a cap
  |Q hb hlt hlen hcs hcell hrel=>exact .nz _ _
 |agg hl hc ih =>
  intro cv h;cases h with
  |agg hcs hrel=>exact .agg V fun i a b=>ih i V a (hrel i V b)
 |nf hl hc ih =>
  intro cv h;cases h with
  |nf hcs hrel=>exact .nf V fun i a b=>ih i V a (hrel i V b)
 | @U id g o l z e cells c' hg hl hc ih =>
  intro cv h;cases h with
  |U h =>
   obtain⟨_,_,h0,h3⟩:=h;have h4:=(h3 _ _ _ hg).2 rfl;have harr:=R.J id g e cells hg;cases hΓ:Γ' id with
   |none =>
    rw[hΓ]at h4;obtain⟨rfl,rfl,rfl⟩:=h4;have:c'=[]:=U5 (by simpa using hl);subst this;exact .nz _ _
   |some y =>
    obtain⟨b,base,n⟩:=y;rw[hΓ]at h4 harr;obtain⟨a,cap,rfl,hcap,hoff,hor⟩:=h4;obtain⟨c,a1,a2,a3,a4⟩:=harr;rcases hor with ⟨rfl,hn⟩|⟨rfl,rfl⟩
    ·have hcell:∀i,i<l*z->∃cv,c[base+(o+i)]?=some cv/\∀(h:o+i<cells.length),Zr P Γ' H' w cells[o+i] cv:=fun i hi=>by
      obtain⟨cv,b1,b2⟩:=a4 (o+i) V;exact⟨cv,b1,fun _=>b2⟩
     let cs:List Value:=(List.range (l*z)).map fun i=>(c[base+(o+i)]?).getD undef
     have hcs:cs.length=c'.length:=(by simp[cs,hl]);refine .Q (cs:=cs) (fun ho=>?_) (R.lt _ _ _ _ hΓ) hcap hcs (fun i hi=>?_) fun i hi hi'=>?_
     ·have:=h2 b ho;have:=h1 b ⟨id,base,n,hΓ⟩;omega
     ·have hi2:i<l*z:=(by rw[hcs,hl]at hi;exact hi);obtain⟨cv,b1,_⟩:=hcell i hi2;have:cs[i]=cv:=(by simp[cs,b1]);rw[this];have he:base+o+i=base+(o+i):=V;simp only[World.cell?,a1,he];exact b1
     ·have hi2:i<l*z:=(by rw[hl]at hi;exact hi);obtain⟨cv,b1,b2⟩:=hcell i hi2;have:cs[i]=cv:=(by simp[cs,b1]);rw[this];exact ih i hi2 V hi (b2 V)
    ·have:c'=[]:=U5 (by simpa using hl);subst this;exact .nz _ _
def GN (H:Zn):Z7 (fun _=>True) H cW:=⟨fun _ _=>rfl,fun _ _ h=>absurd trivial h,fun _ h=>absurd trivial h⟩
def AW (b:Nat):¬(gD (fun _=>True) Γ).fF b:=by
 rintro⟨id,base,n,h⟩;exact(kV h).1 trivial
def mD (o:Option Zo)(r:Zt)(H':Zn):Prop:=match o with
 |some v'=>∃v,r=.ret v/\ZJ H' v v'
 |none=>r=.panic
def AY:Option Zo->Zt
 |some v=>.ret v
 |none=>.panic
def ae.ss {o:Option Zo}(hG:fu G)(hl:args'.length=args.length)(hv:∀i (h:i<args.length) (h':i<args'.length),Fz (fun _=>True) H 0 args[i] args'[i])
  (h:ae P G f args' cW (mD o)):ae P G f args H fun r H'=>r=AY o/\H'=H:=by
 refine⟨h.1,fun Γ w cargs R hr=>?_⟩;have F:=GN H;have R0:Zw P G (gD (fun _=>True) Γ) cW w:=F.rel hG R;have hr0:dG P (gD (fun _=>True) Γ) cW w args' cargs:=⟨by have:=hr.1;omega,fun i h1 h2=>(hv i V h1).sound R F (hr.2 i V h2)⟩
 refine(h.2 _ w cargs R0 hr0).mono ?_;rintro e w' ⟨r,H',Γ',hend,hg,R',E,hn⟩;have hown:∀b,Γ'.fF b->w.heap.size<=b:=fun b hb=>Ya fun hlt=>(E.ng b hlt (AW b)).2 hb;have hown2:∀b,Γ.fF b->b<w.heap.size:=fun b ⟨id,base,n,hb⟩=>R.lt _ _ _ _ hb;obtain⟨E2,R2⟩:=ym E.os E.tape E.output E.size (fun b hb=>(E.ng b hb (AW b)).1) E.nA R;refine⟨AY o,H,Γ,?_,⟨rfl,rfl⟩,R2,E2,Zm⟩;cases o with
 |some v' =>
  obtain⟨v,rfl,hf⟩:=hg;cases e with
  |returned cv=>exact hf.sound R' hown hown2 hend
  |_=>exact hend.elim
 |none =>
  have hg':r=.panic:=hg;subst hg';cases e with
  |panicked chain=>exact hend
  |_=>exact hend.elim
def ae.frame (hG:fu G)(hl:args'.length=args.length)(hv:∀i (h:i<args.length) (h':i<args'.length),Fz (fun _=>True) H 0 args[i] args'[i])
  (h:ae P G f args' cW fun r H'=>∃v,r=.ret v/\ZJ H' v v'):ae P G f args H fun r H'=>r=.ret v'/\H'=H:=ae.ss (o:=some v') hG hl hv h
end Go.Hx
namespace Go.Hx.Ev
open Go.Hx
variable {P:Program} {G:Nat->Option (List Zo)} {Γ Γ':aC} {H H':Zn} {w w':World}
variable {r:Nat}{e g:Nat->Option Zu}
def cV (e g:Nat->Option Zu):Nat->Option Zu:=fun j=>match e j with
 |some b=>some b
 |none=>g j
def nO (e:Option (Nat × Zu)):Nat->Option Zu:=fun j=>match e with
 |some (k,b)=>if j=k then some b else none
 |none=>none
def AR (e:Option (Nat × Zu))(g:Nat->Option Zu):cV (nO e) g=fg e g:=by
 funext j
 cases e with
 |none=>rfl
 |some kb =>
  obtain⟨k,b⟩:=kb;simp only[cV,nO,fg];by_cases h:j=k
  ·rw[UX h,UX h]
  ·rw[UW h,UW h]
def nP (P:Program)(G:Nat->Option (List Zo))(fv:Zo)(args:List Zo)(H:Zn)(v:Zo)(e:Nat->Option Zu)(k:Nat)(f:FP):Prop :=
 (∀r,r∈f.rs->r<H.A)/\(∀r,(e r).isSome=true->r∈f.nD/\((r∈f.rs/\∃g t c,H.get r=some (.J g t c))\/(H.A<=r/\r<H.A+k)))/\(∀c,c<k->(e (H.A+c)).isSome=true) /\
 ∀H2:Zn,(∀r,r∈f.rs->H2.get r=H.get r)->(∀c,c<k->H2.get (H.A+c)=some .nr)->H.A+k<=H2.A->ao P G fv args H2 fun r H3=>r=.ret v/\H3=⟨cV e H2.get,H2.A⟩
def bI (P:Program)(G:Nat->Option (List Zo))(o:Oper)(K:FP->St->Prop)(s:St):Prop :=
 match o.op with
 |.call { callee:=.value fv,args,.. }=>∃v e k f,nP P G (ar G s.ρ fv) (args.toList.map (ar G s.ρ)) s.H v e k f/\K f ⟨aI s.ρ o.dst v,⟨cV e s.H.get,s.H.A+k⟩⟩
 |op=>bq (ak P G s.ρ s.H s.H.A op) fun vH=>K (cG P G s.ρ s.H.A op) ⟨aI s.ρ o.dst vH.1,vH.2⟩
def dR (P:Program)(G:Nat->Option (List Zo))(all:Array Oper)(tail:St->Prop):List Nat->Nat->List (Nat × FP)->List Oper->St->Prop
 |b :: bs,i,acc,o :: rest,s=>bq (gS all s.ρ o) fun t=>if t=true then bI P G o (fun f s'=>jt b f acc/\dR P G all tail bs (i+1) (fI i f acc) rest s') s
   else dR P G all tail bs (i+1) acc rest ⟨aI s.ρ o.dst (.lit undef),s.H⟩
 |_,_,_,[],s=>tail s
 | [],_,_,_ :: _,_=>False
structure Dt where
 v:Zo
 e:Nat->Option Zu
 al:Nat
 f:FP
def bz (all:Array Oper)(d:Nat->Dt)(ρ0:Env):Nat->(Nat->Bool)->Env
 |0,_=>ρ0
 |n+1,D=>if D n then aI (bz all d ρ0 n D) (gW all n) (d n).v else bz all d ρ0 n D
def aW (d:Nat->Dt)(g0:Nat->Option Zu):Nat->(Nat->Bool)->Nat->Option Zu
 |0,_=>g0
 |n+1,D=>if D n then cV (d n).e (aW d g0 n D) else aW d g0 n D
def aM (d:Nat->Dt):Nat->Nat
 |0=>0
 |n+1=>aM d n+(d n).al
def dS (x:Dt)(r:Nat):Prop:=(x.e r).isSome=true
def nS (h:¬(e r).isSome=true):cV e g r=g r:=by
 unfold cV;cases he:e r with
 |none=>rfl
 |some b=>rw[he]at h;exact absurd rfl h
def AS {g':Nat->Option Zu}(h:(e r).isSome=true):cV e g r=cV e g' r:=by
 unfold cV;cases he:e r with
 |none=>rw[he]at h;cases h
 |some b=>rfl
def xz {g':Nat->Option Zu}(h:g r=g' r):cV e g r=cV e g' r:=by
 unfold cV;rw[h]
def GH {e':Nat->Option Zu}(h:∀r,(e r).isSome=true->¬(e' r).isSome=true):cV e' (cV e g)=cV e (cV e' g):=by
 funext r
 by_cases hx:(e r).isSome=true
 ·rw[nS (h r hx)];exact AS hx
 ·rw[nS (g:=cV e' g) hx];exact xz (nS hx)
section
variable {all:Array Oper} {d d':Nat->Dt} {ρ0:Env} {g0 g0':Nat->Option Zu} {D D':Nat->Bool}
def oX {t:Tmp}:∀ {n:Nat},(∀j,j<n->gW all j=some t->D j=D' j)->bz all d ρ0 n D t=bz all d ρ0 n D' t:=by
 intro n
 induction n with
 |zero=>intro _;rfl
 |succ n ih =>
  intro h;have h0:=ih fun j hj=>h j V;simp only[bz];by_cases hd:gW all n=some t
  ·rw[h n V hd];split
   ·exact uy h0
   ·exact h0
  ·have:∀(b:Bool) (ρ:Env),(if b=true then aI ρ (gW all n) (d n).v else ρ) t=ρ t:=by
    intro b ρ;split
    ·exact qG hd
    ·rfl
   rw[this,this];exact h0
def xA {m:Nat}:∀ {n:Nat},m<=n->bz all d ρ0 n (fun j=>decide (j<m))=bz all d ρ0 m fun _=>true:=by
 have low:∀k,k<=m->bz all d ρ0 k (fun j=>decide (j<m))=bz all d ρ0 k fun _=>true:=by
  intro k
  induction k with
  |zero=>intro _;rfl
  |succ k ih =>
   intro hk;simp only[bz];rw[ih V,UX (by simp;omega)];simp
 intro n
 induction n with
 |zero =>
  intro hm;obtain rfl:m=0:=V
  exact low 0 (V)
 |succ n ih =>
  intro hm;by_cases h:m=n+1
  ·subst h;exact low (n+1) (V)
  ·simp only[bz];rw[UW (by simp;omega)];exact ih (V)
def oY {r:Nat}:∀ {n:Nat},(∀j,j<n->dS (d j) r->D j=D' j)->aW d g0 n D r=aW d g0 n D' r:=by
 intro n
 induction n with
 |zero=>intro _;rfl
 |succ n ih =>
  intro h;have h0:=ih fun j hj=>h j V;simp only[aW];by_cases hd:dS (d n) r
  ·rw[h n V hd];split
   ·exact xz h0
   ·exact h0
  ·have:∀(b:Bool) (g:Nat->Option Zu),(if b=true then cV (d n).e g else g) r=g r:=by
    intro b g;split
    ·exact nS hd
    ·rfl
   rw[this,this];exact h0
def xB {m:Nat}:∀ {n:Nat},m<=n->aW d g0 n (fun j=>decide (j<m))=aW d g0 m fun _=>true:=by
 have low:∀k,k<=m->aW d g0 k (fun j=>decide (j<m))=aW d g0 k fun _=>true:=by
  intro k
  induction k with
  |zero=>intro _;rfl
  |succ k ih =>
   intro hk;simp only[aW];rw[ih V,UX (by simp;omega)];simp
 intro n
 induction n with
 |zero =>
  intro hm;obtain rfl:m=0:=V
  exact low 0 (V)
 |succ n ih =>
  intro hm;by_cases h:m=n+1
  ·subst h;exact low (n+1) (V)
  ·simp only[aW];rw[UW (by simp;omega)];exact ih (V)
def se {r:Nat}:∀ {n:Nat},(g0 r=g0' r\/∃j,j<n/\D j=true/\dS (d j) r)->aW d g0 n D r=aW d g0' n D r:=by
 intro n
 induction n with
 |zero =>
  rintro(h|⟨j,hj,_⟩)
  ·exact h
  ·omega
 |succ n ih =>
  intro h;simp only[aW];by_cases hD:D n=true
  ·rw[UX hD,UX hD];by_cases ht:dS (d n) r
   ·exact AS ht
   ·refine xz (ih ?_);rcases h with h|⟨j,hj,h1,h2⟩
    ·exact .inl h
    ·by_cases hjn:j=n
     ·subst hjn;exact absurd h2 ht
     ·exact .inr ⟨j,V,h1,h2⟩
  ·rw[UW hD,UW hD];refine ih ?_;rcases h with h|⟨j,hj,h1,h2⟩
   ·exact .inl h
   ·by_cases hjn:j=n
    ·subst hjn;exact absurd h1 hD
    ·exact .inr ⟨j,V,h1,h2⟩
def xC {r:Nat}:∀ {n:Nat},(∀j,j<n->D j=true->¬dS (d j) r)->aW d g0 n D r=g0 r:=by
 intro n
 induction n with
 |zero=>intro _;rfl
 |succ n ih =>
  intro h;simp only[aW];split
  ·rename_i hD;rw[nS (h n V hD)];exact ih fun j hj=>h j (V)
  ·exact ih fun j hj=>h j (V)
def bZ (D:Nat->Bool)(i:Nat):Nat->Bool:=fun j=>if j=i then true else D j
def xD {i:Nat}(hD:D i=false):∀ {n:Nat},i<n->(∀j,i<j->j<n->D j=true->∀t,gW all i=some t->gW all j≠some t) ->
  bz all d ρ0 n (bZ D i)=aI (bz all d ρ0 n D) (gW all i) (d i).v:=by
 intro n
 induction n with
 |zero=>intro h;omega
 |succ n ih =>
  intro hi h;by_cases hin:i=n
  ·subst hin;have h0:bz all d ρ0 i (bZ D i)=bz all d ρ0 i D:=funext fun t=>oX fun j hj _=>by simp[bZ,X2 hj]
   simp only[bz];rw[UX (by simp[bZ]),UW (by simp[hD]),h0]
  ·have hw:bZ D i n=D n:=(by simp[bZ,Ne.symm hin]);have h0:=ih V fun j h1 h2=>h j h1 V;simp only[bz,hw];split
   ·rename_i hDn;rw[h0];exact BH (h n V V hDn)
   ·exact h0
def xE {i:Nat}(hD:D i=false):∀ {n:Nat},i<n->(∀j,i<j->j<n->D j=true->∀t,dS (d i) t->¬dS (d j) t) ->
  aW d g0 n (bZ D i)=cV (d i).e (aW d g0 n D):=by
 intro n
 induction n with
 |zero=>intro h;omega
 |succ n ih =>
  intro hi h;by_cases hin:i=n
  ·subst hin;have h0:aW d g0 i (bZ D i)=aW d g0 i D:=funext fun t=>oY fun j hj _=>by simp[bZ,X2 hj]
   simp only[aW];rw[UX (by simp[bZ]),UW (by simp[hD]),h0]
  ·have hw:bZ D i n=D n:=(by simp[bZ,Ne.symm hin]);have h0:=ih V fun j h1 h2=>h j h1 V;simp only[aW,hw];split
   ·rename_i hDn;rw[h0];exact GH (h n V V hDn)
   ·exact h0
def qy {m n:Nat}(h:m<=n):aM d m<=aM d n:=by
 induction n with
 |zero =>
  have:m=0:=V
  subst this;exact Nat.le_refl _
 |succ n ih =>
  by_cases hm:m=n+1
  ·subst hm;exact Nat.le_refl _
  ·exact VC (ih V) (by simp[aM])
def sf {n c:Nat}(h:c<aM d n):∃j,j<n/\aM d j<=c/\c<aM d j+(d j).al:=by
 induction n with
 |zero=>simp[aM]at h
 |succ n ih =>
  by_cases hc:c<aM d n
  ·obtain⟨j,h1,h2⟩:=ih hc;exact⟨j,V,h2⟩
  ·simp only[aM]at h;exact⟨n,V,V,V⟩
def lU {i n:Nat}(h:i<n):aM d i+(d i).al<=aM d n:=by
 have:=qy (d:=d) (m:=i+1) (n:=n) h;simpa only[aM] using this
def sh {n:Nat}(h:∀j,j<n->d j=d' j):bz all d ρ0 n D=bz all d' ρ0 n D:=by
 induction n with
 |zero=>rfl
 |succ n ih=>simp only[bz];rw[ih fun j hj=>h j V,h n V]
def sj {n:Nat}(h:∀j,j<n->d j=d' j):aW d g0 n D=aW d' g0 n D:=by
 induction n with
 |zero=>rfl
 |succ n ih=>simp only[aW];rw[ih fun j hj=>h j V,h n V]
def fQ {n:Nat}(h:∀j,j<n->d j=d' j):aM d n=aM d' n:=by
 induction n with
 |zero=>rfl
 |succ n ih=>simp only[aM];rw[ih fun j hj=>h j V,h n V]
end
def ExecOk (P:Program)(G:Nat->Option (List Zo))(all:Array Oper)(o:Oper)(id:Nat)(s s':St):Prop :=
 (gS all s.ρ o=some false/\s'=⟨aI s.ρ o.dst (.lit undef),s.H⟩) \/
 (gS all s.ρ o=some true/\∃v,s'.ρ=aI s.ρ o.dst v /\
  (ak P G s.ρ s.H id o.op=some (v,s'.H) \/
   ∃fv args ats,o.op=.call ⟨.value fv,args,ats⟩/\(∀id st pend m env ps asg body,s.H.get id=some (.loop st pend m env ps asg body)->s'.H.get id=s.H.get id)/\ao P G (ar G s.ρ fv) (args.toList.map (ar G s.ρ)) s.H fun r H3=>r=.ret v/\H3=s'.H))
def xF {n:Nat}{wb:ZR}{rd rb:Option Nat}{all:Array Oper}{o:Oper}{id i:Nat}{s s':St}{a:Act}{A:Act->World->Prop}{Q':Exit->Act->World->Prop}(ho:all[i]?=some o)(hd:eK n o=true)
  (hs:ZE P G n wb Γ s a w) (hr:dO Γ s.H rd rb) (h:ExecOk P G all o id s s')
  (hnext:∀ Γ' a' w',ZE P G n wb Γ' s' a' w'->Zy Γ s.H w Γ' s'.H w'->s.H.A<=s'.H.A->dO Γ' s'.H rd rb->(∃cv,a'=a.put o.dst cv)->A a' w'):
  wpOpIn (dV rb) 0 P all Q' i A a w:=by
 have hdst:∀d,o.dst=some d->d<n:=by
  intro d hd';unfold eK at hd;rw[hd']at hd;simpa using hd
 unfold wpOpIn;rw[ho];simp only;rcases h with ⟨hw,rfl⟩|⟨hw,v,hρ,h⟩
 ·rw[pf hs hw];simp only[Bool.false_eq_true,if_false];refine⟨fun _ _=>trivial,?_⟩;have hs':=jb (v:=.lit undef) (cv:=undef) hs hdst (Zy.refl Γ s.H w) Zm hs.heap (.lit _);exact hnext Γ _ w hs' (Zy.refl _ _ _) Zm hr ⟨_,rfl⟩
 ·rw[pf hs hw];simp only[if_true];obtain⟨ρ',H'⟩:=s';simp only at hρ;subst hρ;refine⟨fun _ _=>trivial,?_⟩;rcases h with hop|⟨fv,args,ats,hop,hH,hap⟩
  ·simp only at hop;rw[Oper.semAt_eq _ _ _ (fun c hc=>by rw[hc]at hop;simp[ak]at hop)];obtain⟨nx,cv,Γ',w',hrun,hnx,E,hn,R,hv⟩:=xT hs.heap (jr hs) hop;rw[hrun];have hri:=xW hr (xX hs.heap hop);have hs':=jb hs hdst E hn R hv;have hr':=hr.aY E hn hs.heap hri;rcases hnx with rfl|⟨rfl,rfl⟩
   ·exact hnext Γ' _ w' hs' E hn hr' ⟨_,rfl⟩
   ·exact hnext Γ' _ w' hs' E hn hr' ⟨_,rfl⟩
  ·rw[Oper.semAt_eq _ _ _ (fun c hc=>by rw[hc]at hop;cases hop)];obtain⟨d,h1,h2⟩:=hap Γ w (a.eval fv) (args.map a.eval) hs.heap (jr hs fv) ⟨Zj,fun i h1 h2=>by simp only[Ve,Xw,V4];exact jr hs _⟩;have hex:(execOp a.eval o).run P w=(invoke d.target d.args).run P w:=by
    unfold execOp;simp only[hop];unfold resolve;simp only;rw[aq h1]
   have hri:fG H' rd:=by
    cases rd with
    |none=>trivial
    |some id =>
     obtain⟨b,st,pend,n,env,ps,asg,body,_,_,h3⟩:=hr;exact⟨_,_,_,_,_,_,_,(hH _ _ _ _ _ _ _ _ h3).trans h3⟩
   have cont:∀e w',fH P G Γ s.H w (fun r H3=>r=.ret v/\H3=H') e w'->(match e with
     |.returned v=>A (a.put o.dst v) w'
     |.panicked chain=>Q' (.panic chain) a w'
     |.outgrown=>LetsOut Q'):=by
    rintro e w' ⟨r,H4,Γ',hend,⟨rfl,rfl⟩,R,E,hn⟩;have hr':=hr.aY E hn hs.heap hri;cases e with
    |returned cv=>exact hnext Γ' _ w' (jb hs hdst E hn R hend) E hn hr' ⟨_,rfl⟩
    |panicked chain=>exact hend.elim
    |outgrown=>exact hend.elim
   rw[hex];rcases h2 with ⟨f,as,h3,h4⟩|⟨l,f,tm,asg,body,h3,h4⟩|⟨cv,w',h3,h4⟩
   ·rw[h3];refine⟨fun hc=>by simp[Fence.wide]at hc,?_⟩;have h4':CallsIn (dV rb) 0 P f as w _:=h4;refine h4'.mono ?_;intro e w' hp;have:=cont e w' hp;cases e<;>exact this
   ·rw[h3];refine⟨fun hc=>by simp[Fence.wide]at hc,?_⟩;have h4':RoundIn (dV rb) 0 P l f tm asg body w _:=h4;refine h4'.mono ?_;intro e w' hp;have:=cont e w' hp;cases e<;>exact this
   ·rw[h3];exact cont (.returned cv) w' h4
def mB (d:Nat->Dt)(H0:Zn)(m:Nat):Zn:=⟨aW d H0.get m fun _=>true,H0.A+aM d m⟩
def canon (all:Array Oper)(d:Nat->Dt)(s0:St)(m:Nat):St:=⟨bz all d s0.ρ m fun _=>true,mB d s0.H m⟩
structure ZD (P:Program)(G:Nat->Option (List Zo))(all:Array Oper)(bs:List Nat)(s0:St)(d:Nat->Dt)(i:Nat):Prop where
 step:∀o,all[i]?=some o->∀ ρ2 H2,(∀t,t∈o.looksAt all->ρ2 t=(canon all d s0 i).ρ t)->(∀r,r∈(d i).f.rs->H2.get r=(canon all d s0 i).H.get r) ->
  (∀c,c<(d i).al->H2.get (s0.H.A+aM d i+c)=some .nr)->s0.H.A+aM d i+(d i).al<=H2.A ->
  ExecOk P G all o (s0.H.A+aM d i) ⟨ρ2,H2⟩ ⟨aI ρ2 o.dst (d i).v,⟨cV (d i).e H2.get,H2.A⟩⟩
 nD:∀r,dS (d i) r->r∈(d i).f.nD/\(r∈(d i).f.rs\/(s0.H.A+aM d i<=r/\r<s0.H.A+aM d i+(d i).al))
 al:∀c,c<(d i).al->dS (d i) (s0.H.A+aM d i+c)
 lt:∀r,r∈(d i).f.rs->r<s0.H.A+aM d i
 apart:∀j,j<i->(eC bs i).testBit j=false->(∀r,r∈(d i).f.nD->r ∉ (d j).f.rs)/\(∀r,r∈(d j).f.nD->r ∉ (d i).f.rs)
def cC (d:Nat->Dt)(m:Nat)(x:Dt):Nat->Dt:=fun j=>if j=m then x else d j
def iq {d:Nat->Dt}{m:Nat}{x:Dt}{i:Nat}(h:i<m):d i=cC d m x i:=by simp[cC,X2 h]
def de {d:Nat->Dt}{m:Nat}{x:Dt}:cC d m x m=x:=by simp[cC]
def mC {all:Array Oper}{d d':Nat->Dt}{s0:St}{m:Nat}(h:∀j,j<m->d j=d' j):canon all d s0 m=canon all d' s0 m:=by
 unfold canon mB;rw[sh h,sj h,fQ h]
def ZD.below {all:Array Oper}{bs:List Nat}{s0:St}{d d':Nat->Dt}{i:Nat}(g:ZD P G all bs s0 d i)(h:∀j,j<=i->d j=d' j):ZD P G all bs s0 d' i:=by
 have hi:=h i Zm;have hn:aM d i=aM d' i:=fQ fun j hj=>h j V;have hc:canon all d s0 i=canon all d' s0 i:=mC fun j hj=>h j V;obtain⟨a,b,c,e,f⟩:=g;refine⟨?_,?_,?_,?_,?_⟩
 ·rw[<- hi,<- hn,<- hc];exact a
 ·rw[<- hi,<- hn];exact b
 ·rw[<- hi,<- hn];exact c
 ·rw[<- hi,<- hn];exact e
 ·intro j hj hb;rw[<- hi,<- h j V];exact f j hj hb
def kP (d:Nat->Dt)(m:Nat)(acc:List (Nat × FP)):Prop:=∀j,j<m->(d j).f=⟨[],[]⟩\/(j,(d j).f)∈acc
def kP.add {d:Nat->Dt}{m:Nat}{acc:List (Nat × FP)}(h:kP d m acc)(x:Dt):kP (cC d m x) (m+1) (fI m x.f acc):=by
 intro j hj;have key:∀p,p∈acc->p∈fI m x.f acc:=by
  intro p hp;unfold fI;split
  ·exact hp
  ·exact W5 _ hp
 by_cases hjm:j=m
 ·subst hjm;rw[de];by_cases hf:x.f=⟨[],[]⟩
  ·exact .inl hf
  ·refine .inr ?_;unfold fI;split
   ·rename_i h0;exact absurd h0 hf
   ·exact List.mem_cons_self
 ·rw[<- iq (x:=x) V];exact(h j V).imp id (key _)
def sk {d:Nat->Dt}{m:Nat}{acc:List (Nat × FP)}{b:Nat}{f:FP}(hc:kP d m acc)(h:jt b f acc):∀j,j<m->b.testBit j=false->(∀r,r∈f.nD->r ∉ (d j).f.rs)/\(∀r,r∈(d j).f.nD->r ∉ f.rs):=by
 intro j hj hb;rcases hc j hj with h0|h1
 ·rw[h0];exact⟨fun r _ h=>(by cases h),fun r h=>(by cases h)⟩
 ·exact h _ h1 hb
def oZ {all:Array Oper}{d:Nat->Dt}{s0:St}{m:Nat}{x:Dt}{o:Oper}(ho:all[m]?=some o):
  canon all (cC d m x) s0 (m+1)=⟨aI (canon all d s0 m).ρ o.dst x.v,⟨cV x.e (canon all d s0 m).H.get,(canon all d s0 m).H.A+x.al⟩⟩:=by
 have hb:∀j,j<m->d j=cC d m x j:=fun j hj=>iq hj;unfold canon mB;simp only[bz,aW,aM,if_true,de];rw[<- sh hb,<- sj hb,<- fQ hb];simp only[gW,ho,Option.bind_some,WZ]
def o9 {all:Array Oper}{bs:List Nat}{s0:St}{d:Nat->Dt}{m:Nat}{x:Dt}(hg:∀i,i<m->ZD P G all bs s0 d i)(hx:ZD P G all bs s0 (cC d m x) m):
  ∀i,i<m+1->ZD P G all bs s0 (cC d m x) i:=by
 intro i hi;by_cases him:i=m
 ·subst him;exact hx
 ·exact(hg i V).below fun j hj=>iq (V)
def trace {all:Array Oper}{bs:List Nat}{s0:St}{tail:St->Prop}{K:Nat}(hbs:bs.length=K)(hK:K<=all.size):∀(k m:Nat) (d:Nat->Dt) (acc:List (Nat × FP)),k+m=K ->
  (∀i,i<m->ZD P G all bs s0 d i)->kP d m acc->gU (canon all d s0 m).H->dR P G all tail (bs.drop m) m acc ((all.toList.take K).drop m) (canon all d s0 m) ->
  ∃d',(∀i,i<K->ZD P G all bs s0 d' i)/\tail (canon all d' s0 K):=by
 intro k
 induction k with
 |zero =>
  intro m d acc hm hg hc wf h;obtain rfl:m=K:=V
  refine⟨d,hg,?_⟩;have:(all.toList.take m).drop m=[]:=by
   apply Yg;simp only[Vd];omega
  rw[this]at h;cases hb:bs.drop m with
  |nil=>rw[hb]at h;simpa only[dR] using h
  |cons b bs'=>rw[hb]at h;simpa only[dR] using h
 |succ k ih =>
  intro m d acc hm hg hc wf h;have hmK:m<K:=V
  have hms:m<all.size:=V
  have ho:all[m]?=some all[m]:=U6 hms;have hbm:bs.drop m=eC bs m :: bs.drop (m+1):=by
   rw[VT V];congr 1;simp[eC,UV (show m<bs.length by omega)]
  have hom:(all.toList.take K).drop m=all[m] :: (all.toList.take K).drop (m+1):=by
   rw[VT (by simp only[Vd,WT];omega)];congr 1;simp
  rw[hbm,hom]at h;simp only[dR]at h;obtain⟨t,ht,h⟩:=h;have hnext:(canon all d s0 m).H.A=s0.H.A+aM d m:=rfl;cases t with
  |false =>
   simp only[Bool.false_eq_true,if_false]at h
   let x:Dt:=⟨.lit undef,fun _=>none,0,⟨[],[]⟩⟩
   have hb:∀j,j<m->d j=cC d m x j:=fun j hj=>iq hj;have hcan:canon all (cC d m x) s0 (m+1)=⟨aI (canon all d s0 m).ρ all[m].dst (.lit undef),(canon all d s0 m).H⟩:=oZ ho;have hgx:ZD P G all bs s0 (cC d m x) m:=by
    refine⟨?_,?_,?_,?_,?_⟩
    ·rw[de,<- mC hb];intro o ho' ρ2 H2 h1 h2 h3 _;rw[ho]at ho';cases ho';refine .inl ⟨?_,rfl⟩;simp only;rw[qH h1,ht]
    ·rw[de];intro k he;cases he
    ·rw[de];intro c he;exact absurd he (Va _)
    ·rw[de];intro r hr;cases hr
    ·rw[de];intro j hj hbit;exact⟨fun r hr=>(by cases hr),fun r hr hr'=>(by cases hr')⟩
   refine ih (m+1) (cC d m x) acc V (o9 hg hgx) (hc.add x) ?_ ?_
   ·rw[hcan];exact wf
   ·rw[hcan];exact h
  |true =>
   simp only[if_true]at h;unfold bI at h;split at h
   ·rename_i fv args ats hop;obtain⟨v,e,k,f,⟨hlt,heff,hnew,hcall⟩,hap,h⟩:=h
    let x:Dt:=⟨v,e,k,f⟩
    have hb:∀j,j<m->d j=cC d m x j:=fun j hj=>iq hj;have hcan:canon all (cC d m x) s0 (m+1)=⟨aI (canon all d s0 m).ρ all[m].dst v,⟨cV e (canon all d s0 m).H.get,(canon all d s0 m).H.A+k⟩⟩:=oZ ho;have hgx:ZD P G all bs s0 (cC d m x) m:=by
     refine⟨?_,?_,?_,?_,?_⟩
     ·rw[de,<- mC hb,<- fQ hb];intro o ho' ρ2 H2 h1 h2 h3 h4;rw[ho]at ho';cases ho';refine .inr ⟨?_,v,rfl,.inr ⟨fv,args,ats,hop,?_,?_⟩⟩
      ·simp only;rw[qH h1,ht]
      ·intro id st pend q env ps asg body hid;refine nS fun hs=>?_;rcases(heff id hs).2 with ⟨hrs,g,t,c,hg⟩|⟨g1,g2⟩
       ·have e9:=h2 id hrs;simp only at hid;rw[hid,hg]at e9;cases e9
       ·obtain⟨c,rfl⟩:∃c,id=(canon all d s0 m).H.A+c:=⟨id-(canon all d s0 m).H.A,V⟩
        have e9:H2.get ((canon all d s0 m).H.A+c)=some .nr:=h3 c (show c<k by omega);simp only at hid;rw[hid]at e9;cases e9
      ·have hev:=uA (G:=G) h1;have e1:ar G ρ2 fv=ar G (canon all d s0 m).ρ fv:=hev fv (by simp[hop,Op.operands,Call.operands]);have e2:args.toList.map (ar G ρ2)=args.toList.map (ar G (canon all d s0 m).ρ) :=
        Vn fun y hy=>hev y (by simp only[hop,Op.operands,Call.operands];simp;exact .inr (by simpa using hy))
       simp only;rw[e1,e2];exact hcall H2 h2 h3 h4
     ·rw[de,<- fQ hb];intro r hr;exact⟨(heff r hr).1,(heff r hr).2.imp (fun h=>h.1) id⟩
     ·rw[de,<- fQ hb];exact hnew
     ·rw[de,<- fQ hb];exact hlt
     ·rw[de];intro j hj hbit;rw[<- iq hj];exact sk hc hap j hj hbit
    refine ih (m+1) (cC d m x) _ V (o9 hg hgx) (hc.add x) ?_ ?_
    ·rw[hcan];intro id b hid;show id<(canon all d s0 m).H.A+k;simp only at hid;by_cases hs:(e id).isSome=true
     ·rcases(heff id hs).2 with ⟨hrs,_⟩|⟨_,g2⟩
      ·have:=hlt id hrs;omega
      ·exact g2
     ·rw[nS hs]at hid;have:=wf id b hid;omega
    ·rw[hcan];exact h
   ·obtain⟨⟨v,H'⟩,hop,hap,h⟩:=h;obtain⟨e,al,hget,hnx,heff,hal,hlt,hloc⟩:=BE wf hop
    let x:Dt:=⟨v,nO e,(if al=true then 1 else 0),cG P G (canon all d s0 m).ρ (canon all d s0 m).H.A all[m].op⟩
    have hb:∀j,j<m->d j=cC d m x j:=fun j hj=>iq hj;have hcan:canon all (cC d m x) s0 (m+1)=⟨aI (canon all d s0 m).ρ all[m].dst v,H'⟩:=by
     rw[oZ ho];congr 1;cases H';simp only at hget hnx;simp only[Zn.mk.injEq];refine⟨(AR _ _).trans hget.symm,?_⟩;rw[hnx];simp only[x];cases al<;>simp
    have hgx:ZD P G all bs s0 (cC d m x) m:=by
     refine⟨?_,?_,?_,?_,?_⟩
     ·rw[de,<- mC hb,<- fQ hb];intro o ho' ρ2 H2 h1 h2 h3 h4;rw[ho]at ho';cases ho';refine .inr ⟨?_,v,rfl,.inl ?_⟩
      ·simp only;rw[qH h1,ht]
      ·simp only;rw[BG (ρ':=(canon all d s0 m).ρ) (uA h1),AR];refine hloc H2 h2 fun ha=>?_;subst ha;have h5:=h3 0 (by simp[x]);simp only[x,if_true]at h4;refine⟨h5,?_⟩;rw[hnext];omega
     ·rw[de,<- fQ hb];intro r hr;unfold dS at hr;simp only[x,nO]at hr;cases he:e with
      |none=>rw[he]at hr;cases hr
      |some kb =>
       obtain⟨k0,b0⟩:=kb;rw[he]at hr;simp only at hr;by_cases hrk:r=k0
       ·subst hrk;obtain⟨h1,h2⟩:=heff r b0 he;refine⟨h1,?_⟩;cases hal2:al with
        |false=>exact .inl (h2 hal2)
        |true =>
         obtain⟨b1,hb1⟩:=hal hal2;rw[he]at hb1;simp only[Option.some.injEq,Prod.mk.injEq]at hb1;refine .inr ?_;simp only[x,hal2,if_true];rw[hnext]at hb1;omega
       ·rw[UW hrk]at hr;cases hr
     ·rw[de,<- fQ hb];intro c hc2;cases hal2:al with
      |false=>simp[x,hal2]at hc2
      |true =>
       simp only[x,hal2,if_true]at hc2;obtain⟨b1,hb1⟩:=hal hal2;obtain rfl:c=0:=V;unfold dS;simp only[x,nO,hb1,Nat.add_zero];rw[hnext];simp
     ·rw[de,<- fQ hb];exact hlt
     ·rw[de];intro j hj hbit;rw[<- iq hj];exact sk hc hap j hj hbit
    have wf':gU H':=by
     intro id b hid;rw[hget]at hid;rw[hnx];cases e with
     |none =>
      have:=wf id b hid;split<;>omega
     |some kb =>
      obtain⟨k0,b0⟩:=kb;simp only[fg]at hid;split at hid
      ·rename_i hk;subst hk;cases al with
       |true =>
        obtain⟨b1,hb1⟩:=hal rfl;simp only[Option.some.injEq,Prod.mk.injEq]at hb1;simp only[if_true];omega
       |false =>
        have:=hlt _ ((heff id b0 rfl).2 rfl);simpa using this
      ·have:=wf id b hid;split<;>omega
    refine ih (m+1) (cC d m x) _ V (o9 hg hgx) (hc.add x) ?_ ?_
    ·rw[hcan];exact wf'
    ·rw[hcan];exact h
end Go.Hx.Ev
namespace Go.Hx.Ev
open Go.Hx
variable {P:Program} {G:Nat->Option (List Zo)} {Γ Γ':aC} {H H':Zn} {w w':World}
variable {D:Nat->Bool}{d:Nat->Dt}{s0:St}
def fa (all:Array Oper)(d:Nat->Dt)(s0:St)(K:Nat)(D:Nat->Bool):St :=
 ⟨bz all d s0.ρ K D,⟨aW d (bP s0.H (aM d K)).get K D,s0.H.A+aM d K⟩⟩
def xG {all:Array Oper}{bs:List Nat}{K:Nat}(S:ZY all bs K)(hg:∀i,i<K->ZD P G all bs s0 d i){i:Nat}{o:Oper}(hi:i<K)(ho:all[i]?=some o)(hDi:D i=false)
  (hdown:∀j,j<i->(eC bs i).testBit j=true->D j=true) (hup:∀j,i<j->j<K->D j=true->(eC bs j).testBit i=false):
  ExecOk P G all o (s0.H.A+aM d i) (fa all d s0 K D) (fa all d s0 K (bZ D i)):=by
 have hget:∀j,j<K->∃oj,all[j]?=some oj:=fun j hj=>⟨_,U6 (U4 hj S.le)⟩
 have hgi:=hg i hi;have tgtE:∀j r,j<K->dS (d j) r->r∈(d j).f.nD/\(r∈(d j).f.rs\/(s0.H.A+aM d j<=r/\r<s0.H.A+aM d j+(d j).al)):=fun j r hj ht=>(hg j hj).nD r ht;have rangeK:∀r,r<s0.H.A+aM d i->((bP s0.H (aM d K)).get r=s0.H.get r\/∃j,j<i/\(fun _:Nat=>true) j=true/\dS (d j) r):=by
  intro r hr;by_cases h:s0.H.A<=r
  ·obtain⟨j,h1,h2,h3⟩:=sf (d:=d) (n:=i) (c:=r-s0.H.A) V;have:=(hg j V).al (r-s0.H.A-aM d j) V;rw[show s0.H.A+aM d j+(r-s0.H.A-aM d j)=r by omega]at this;exact .inr ⟨j,h1,rfl,this⟩
  ·left;simp only[bP];rw[UW V]
 have henv:∀t,t∈o.looksAt all->bz all d s0.ρ K D t=(canon all d s0 i).ρ t:=by
  intro t ht;show _=bz all d s0.ρ i (fun _=>true) t;rw[<- xA (all:=all) (d:=d) (ρ0:=s0.ρ) (m:=i) (n:=K) V];refine oX fun j hj hdj=>?_;obtain⟨oj,hoj⟩:=hget j hj;rw[nY hoj]at hdj;rcases Wl j i with h|rfl|h
  ·cases hb:(eC bs i).testBit j with
   |true=>rw[hdown j h hb];simp[h]
   |false=>exact absurd ht ((qI (S.apart i j o oj hi h ho hoj hb)).1 t hdj)
  ·rw[hDi];simp
  ·cases hD:D j with
   |false=>symm;simp;omega
   |true=>exact absurd ht ((qI (S.apart j i oj o hj h hoj ho (hup j h hj hD))).2.1 t hdj)
 have hheap:∀r,r∈(d i).f.rs->aW d (bP s0.H (aM d K)).get K D r=(canon all d s0 i).H.get r:=by
  intro r hr;show _=aW d s0.H.get i (fun _=>true) r;rw[<- se (g0:=(bP s0.H (aM d K)).get) (rangeK r (hgi.lt r hr)),<- xB (m:=i) (n:=K) V];refine oY fun j hj ht=>?_;obtain⟨he,_⟩:=tgtE j r hj ht;rcases Wl j i with h|rfl|h
  ·cases hb:(eC bs i).testBit j with
   |true=>rw[hdown j h hb];simp[h]
   |false=>exact absurd hr ((hgi.apart j h hb).2 r he)
  ·rw[hDi];simp
  ·cases hD:D j with
   |false=>symm;simp;omega
   |true=>exact absurd hr (((hg j hj).apart i h (hup j h hj hD)).1 r he)
 have hal:∀c,c<(d i).al->aW d (bP s0.H (aM d K)).get K D (s0.H.A+aM d i+c)=some .nr:=by
  intro c hc;have hlt:=lU (d:=d) hi;have heff:=(hgi.nD _ (hgi.al c hc)).1;rw[xC]
  ·simp only[bP];rw[UX V]
  ·intro j hj hD ht;obtain⟨h1,h2⟩:=tgtE j _ hj ht;rcases Wl j i with h|rfl|h
   ·rcases h2 with h3|⟨h2,h3⟩
    ·have:=(hg j hj).lt _ h3;have:=qy (d:=d) (XK h);omega
    ·have:=lU (d:=d) h;omega
   ·rw[hDi]at hD;cases hD
   ·rcases h2 with h3|⟨h2,h3⟩
    ·exact absurd h3 (((hg j hj).apart i h (hup j h hj hD)).2 _ heff)
    ·have:=lU (d:=d) h;omega
 have:=hgi.step o ho (bz all d s0.ρ K D) ⟨aW d (bP s0.H (aM d K)).get K D,s0.H.A+aM d K⟩ henv hheap hal (by have:=lU (d:=d) hi;simp only;omega);have e1:bz all d s0.ρ K (bZ D i)=aI (bz all d s0.ρ K D) o.dst (d i).v:=by
  rw[xD hDi hi,nY ho];intro j h hj hD t hti;obtain⟨oj,hoj⟩:=hget j hj;rw[nY ho]at hti;rw[nY hoj];exact(qI (S.apart j i oj o hj h hoj ho (hup j h hj hD))).2.2 t hti
 have e2:aW d (bP s0.H (aM d K)).get K (bZ D i)=cV (d i).e (aW d (bP s0.H (aM d K)).get K D):=by
  refine xE hDi hi fun j h hj hD r hti htj=>?_;obtain⟨a1,a2⟩:=tgtE i r hi hti;obtain⟨b1,b2⟩:=tgtE j r hj htj;obtain⟨c1,c2⟩:=(hg j hj).apart i h (hup j h hj hD);rcases b2 with b3|⟨b2,b3⟩
  ·exact c2 r a1 b3
  ·rcases a2 with a3|⟨a2,a3⟩
   ·exact c1 r b1 a3
   ·have:=lU (d:=d) h;omega
 unfold fa;rw[e1,e2];exact this
def sr {all:Array Oper}{bs:List Nat}{K:Nat}(hg:∀i,i<K->ZD P G all bs s0 d i)(hD:∀j,j<K->D j=true):fa all d s0 K D=canon all d s0 K:=by
 unfold fa canon mB;have e1:bz all d s0.ρ K D=bz all d s0.ρ K fun _=>true:=funext fun t=>oX fun j hj _=>hD j hj;have e2:aW d (bP s0.H (aM d K)).get K D=aW d s0.H.get K fun _=>true:=by
  funext r
  rw[oY (D':=fun _=>true) fun j hj _=>hD j hj];refine se ?_;by_cases h:s0.H.A<=r/\r<s0.H.A+aM d K
  ·obtain⟨j,h1,h2,h3⟩:=sf (d:=d) (n:=K) (c:=r-s0.H.A) V;have:=(hg j h1).al (r-s0.H.A-aM d j) V;rw[show s0.H.A+aM d j+(r-s0.H.A-aM d j)=r by omega]at this;exact .inr ⟨j,h1,rfl,this⟩
  ·left;simp only[bP];rw[UW h]
 rw[e1,e2]
def xH {all:Array Oper}{K:Nat}(hD:∀j,j<K->D j=false):fa all d s0 K D=⟨s0.ρ,bP s0.H (aM d K)⟩:=by
 unfold fa;have e1:∀n,n<=K->bz all d s0.ρ n D=s0.ρ:=by
  intro n
  induction n with
  |zero=>intro _;rfl
  |succ n ih=>intro h;simp only[bz];rw[UW (by simp[hD n h])];exact ih (V)
 have e2:∀n,n<=K->aW d (bP s0.H (aM d K)).get n D=(bP s0.H (aM d K)).get:=by
  intro n
  induction n with
  |zero=>intro _;rfl
  |succ n ih=>intro h;simp only[aW];rw[UW (by simp[hD n h])];exact ih (V)
 rw[e1 K Zm,e2 K Zm];rfl
variable {n:Nat} {wb:ZR} {rd rb:Option Nat} {Q:AX->St->Prop} {all:Array Oper} {bs:List Nat} {K:Nat} {id:Nat} {dr:Bool}
def xI (S:ZY all bs K)(hfit:∀o,o∈all.toList->eK n o=true)(hg:∀i,i<K->ZD P G all bs s0 d i)(htail:opsV P G rd Q all (all.toList.drop K) (canon all d s0 K)):
  ∀(r:Nat) (listed:Array Bool) (D:Nat->Bool) (Γ:aC) (a:Act) (w:World),listed.size=all.size->fJ listed all.size=r->(∀j,j<all.size->listed.getD j true=D j)->(∀j,D j=true->j<K)->uF all D ->
  ZE P G n wb Γ (fa all d s0 K D) a w->dO Γ (fa all d s0 K D).H rd rb ->
  ∀(Q':Exit->Act->World->Prop),(∀e a' w',ir P G n wb rd rb (wr (.region id all dr)) Γ (fa all d s0 K D).H a w Q e a' w'->Q' e a' w')->wpAnyIn (dV rb) 0 P .any all Q' r listed a w:=by
 intro r
 induction r with
 |zero =>
  intro listed D Γ a w hsz hc hl hlow hL hs hr Q' hq;have hall:∀j,j<K->D j=true:=fun j hj=>by rw[<- hl j (U4 hj S.le)];exact uG hc j (U4 hj S.le)
  have hKs:K=all.size:=by
   rcases Vj K all.size with h|h
   ·have h1:=uG hc K h;rw[hl K h]at h1;have:=hlow K h1;omega
   ·have:=S.le;omega
  rw[sr hg hall]at hs hr hq;exact uI S hfit 0 K listed _ Γ a w V Zm hsz hc (fun j hj=>by rw[hl j hj];exact⟨hlow j,hall j⟩) htail hs hr Q' hq
 |succ r ih =>
  intro listed D Γ a w hsz hc hl hlow hL hs hr Q' hq;by_cases hall:∀j,j<K->D j=true
  ·rw[sr hg hall]at hs hr hq;have hcount:∀m,m<=all.size->fJ listed m=m-K:=by
    intro m
    induction m with
    |zero=>intro _;simp[fJ]
    |succ m ihm =>
     intro hm;simp only[fJ];rw[ihm V,hl m V];by_cases hmK:m<K
     ·rw[hall m hmK];simp;omega
     ·have:D m=false:=by
       cases hD:D m with
       |false=>rfl
       |true=>exact absurd (hlow m hD) hmK
      rw[this];simp;omega
   have h1:=hcount all.size Zm;exact uI S hfit (r+1) K listed _ Γ a w (by have:=S.le;omega) Zm hsz hc (fun j hj=>by rw[hl j hj];exact⟨hlow j,hall j⟩) htail hs hr Q' hq
  ·have hex:∃j,j<K/\D j=false:=by
    by_cases h:∃j,j<K/\D j=false
    ·exact h
    ·refine absurd (fun j hj=>?_) hall;cases hD:D j with
     |true=>rfl
     |false=>exact absurd ⟨j,hj,hD⟩ h
   have least:∀k,(∃j,j<k/\j<K/\D j=false)->∃j,j<K/\D j=false/\∀i,i<j->D i=true:=by
    intro k
    induction k with
    |zero=>rintro⟨j,hj,_⟩;omega
    |succ k ihk =>
     rintro⟨j,h1,h2,h3⟩;by_cases h:∃j,j<k/\j<K/\D j=false
     ·exact ihk h
     ·refine⟨j,h2,h3,fun i hi=>?_⟩;cases hD:D i with
      |true=>rfl
      |false=>exact absurd ⟨i,V,V,hD⟩ h
   obtain⟨j0,hj0K,hj0,hbelow⟩:=least K (let ⟨j,h1,h2⟩:=hex;⟨j,h1,h1,h2⟩);have hj0s:j0<all.size:=U4 hj0K S.le;have hr0:j0∈Region.ready .any all listed:=by
    refine mem_ready.2 ⟨by rw[hl j0 hj0s];exact hj0,_,U6 hj0s,fun e he hb=>?_⟩;have hlt:=S.down j0 _ (U6 hj0s) e he hb;rw[pj V false true,hl e.on V];exact hbelow _ hlt
   refine⟨fun h0=>(by rw[h0]at hr0;cases hr0),fun i hi=>?_⟩;obtain⟨hiun,oi,hoi,hdir⟩:=mem_ready.1 hi;have his:=(VV.1 hoi).1;have hdirD:∀e,e∈oi.after->Region.binds .any e=true->D e.on=true:=fun e he hb=>by
    have:=S.down i oi hoi e he hb;rw[<- hl e.on V,<- pj V false true];exact hdir e he hb
   have hahead:=S.ahead hL i oi;have hiK:i<K:=by
    rcases Vj i K with h|h
    ·exact h
    ·have:=hahead j0 hoi hdirD (by rw[UW V];omega);rw[hj0]at this;cases this
   have hDi:D i=false:=(by rw[<- hl i his];exact hiun);have hex:=xG (P:=P) (G:=G) S hg hiK hoi hDi (fun j hj hb=>hahead j hoi hdirD (by rw[UX hiK];exact hb)) (fun j h1 h2 hD=>by
    cases hb:(eC bs j).testBit i with
    |false=>rfl
    |true =>
     have hjs:j<all.size:=U4 h2 S.le;have:=S.ahead hL j _ i (U6 hjs) (fun e he hbe=>hL j _ hD (U6 hjs) e he hbe) (by rw[UX h2];exact hb);rw[hDi]at this;cases this)
   have hoi':oi=all[i]:=by
    rw[U6 his]at hoi;exact(Option.some.inj hoi).symm
   refine xF hoi (hfit oi (by rw[hoi'];simp)) hs hr hex ?_;rintro Γ' a' w' hs' E hn hr' ⟨cv,rfl⟩;have hc':fJ (listed.setIfInBounds i true) all.size=r:=by
    have:=yi hiun all.size;rw[UX his]at this;omega
   refine ih (listed.setIfInBounds i true) (bZ D i) Γ' _ w' (by simpa using hsz) hc' ?_ ?_ ?_ hs' hr' Q' fun e a'' w'' hp=>hq _ _ _ (hp.step E hn (by rw[hoi'];exact nV his cv) fun _ h=>h)
   ·intro j hj;by_cases hji:j=i
    ·subst hji;simp[bZ]
    ·rw[getD_set_ne true (Ne.symm hji),hl j hj];simp[bZ,hji]
   ·intro j hj;by_cases hji:j=i
    ·subst hji;exact hiK
    ·simp only[bZ,UW hji]at hj;exact hlow j hj
   ·intro k ok hk hok e he hb;by_cases hki:k=i
    ·subst hki;rw[hoi]at hok;cases hok;have:=hdirD e he hb;simp only[bZ];split
     ·rfl
     ·exact this
    ·simp only[bZ,UW hki]at hk;have:=hL k ok hk hok e he hb;simp only[bZ];split
     ·rfl
     ·exact this
def W.AT {s:St}(K:Nat)(bs:List Nat)(hm:P.follows .mixedOrders=true)(hfit:all.toList.all (eK n)=true)(hst:sE all bs K=true)
  (h:dR P G all (opsV P G rd Q all (all.toList.drop K)) bs 0 [] (all.toList.take K) s):W P G n rd (.region id all true) Q s:=by
 intro wb Γ a w rb hs hr;have S:=BN hst;have hfit':∀o,o∈all.toList->eK n o=true:=fun o ho=>Vo.1 hfit o ho;have wf:gU s.H:=fun id b hb=>hs.heap.A id b hb;have hcan0:canon all (fun _=>⟨.lit undef,fun _=>none,0,⟨[],[]⟩⟩) s 0=s:=rfl;obtain⟨d,hg,htail⟩:=trace (P:=P) (G:=G) (all:=all) (bs:=bs) (s0:=s) (tail:=opsV P G rd Q all (all.toList.drop K)) S.len S.le K 0 (fun _=>⟨.lit undef,fun _=>none,0,⟨[],[]⟩⟩) [] (V)
  (fun i hi=>V) (fun j hj=>V) (by rw[hcan0];exact wf) (by rw[hcan0];exact h)
 refine wpIn_region_any hm ?_
 let w1:World:={ w with drawn:=w.drawn+1 }
 have R1:Zw P G Γ s.H w1:=hs.heap.move rfl (qJ w) Zm (fun id b hb=>.inl hb) fun id b hb=>hb;have hs1:ZE P G n wb Γ s a w1:=hs.move (qJ w) Zm R1;have hs2:ZE P G n wb Γ ⟨s.ρ,bP s.H (aM d K)⟩ a w1:=hs1.move (sH _ _) (by simp[bP]) (BP R1 _);have hr2:dO Γ (bP s.H (aM d K)) rd rb:=hr.move fun id b hb=>by
  simp only[bP];rw[UW]
  ·exact hb
  ·have:=hs.heap.A id b hb;omega
 have e0:fa all d s K (fun _=>false)=⟨s.ρ,bP s.H (aM d K)⟩:=xH fun _ _=>rfl;refine xI (wb:=wb) (id:=id) (dr:=true) S hfit' hg htail all.size _ (fun _=>false) Γ a w1 Zj (uH _ Zm) ?_ ?_ ?_ ?_ ?_ _ ?_
 ·intro j hj;rw[VJ,Xa,UX hj];rfl
 ·intro j hj;cases hj
 ·intro i o hi;cases hi
 ·rw[e0];exact hs2
 ·rw[e0];exact hr2
 ·rw[e0];intro e a' w' hp;refine hp.step ?_ (by simp[bP]) (.refl _ _) fun _ h=>h;exact Zy.trans (qJ w) Zm (sH _ _)
end Go.Hx.Ev
namespace Go.Hx.Ev
open Go.Hx
variable {P:Program} {G:Nat->Option (List Zo)} {Γ Γ':aC} {H H':Zn} {w w':World}
variable {K:Nat->Prop}{v:Zo}
inductive ZX (K:Nat->Prop):Zo->Prop
 |lit (v:Value):ZX K (.lit v)
 |nil:ZX K (.Q 0 [])
 |agg {c:List Zo} (h:∀i (h:i<c.length),ZX K c[i]):ZX K (.agg c)
 |nf {c:List Zo} (h:∀i (h:i<c.length),ZX K c[i]):ZX K (.nf c)
 |Z {f:FuncId} {a b:List Zo} (h1:∀i (h:i<a.length),ZX K a[i]) (h2:∀i (h:i<b.length),ZX K b[i]):ZX K (.Z f a b)
 |U {id g o l z:Nat} (h:K id):ZX K (.U id g o l z)
 |O {id g o:Nat} (h:K id):ZX K (.O id g o)
def ZX.mono {K':Nat->Prop}(h:ZX K v)(hk:∀id,K id->K' id):ZX K' v:=by
 induction h with
 |lit v=>exact .lit v
 |nil=>exact .nil
 |agg _ ih=>exact .agg ih
 |nf _ ih=>exact .nf ih
 |Z _ _ ih1 ih2=>exact .Z ih1 ih2
 |U h=>exact .U (hk _ h)
 |O h=>exact .O (hk _ h)
def ZX.fz {S:Nat->Prop}{nx:Nat}(h:ZX (fun id=>¬S id/\id<nx) v):Fz S H nx v v:=by
 induction h with
 |lit v=>exact .lit v
 |nil=>exact .Q rfl fun i h=>absurd h (Va _)
 |agg _ ih=>exact .agg rfl fun i h _=>ih i h
 |nf _ ih=>exact .nf rfl fun i h _=>ih i h
 |Z _ _ ih1 ih2=>exact .Z rfl rfl (fun i h _=>ih1 i h) fun i h _=>ih2 i h
 |U h=>exact .U h.2 h.1
 |O h=>exact .O h.2 h.1
def ZX.sound {Γ₁ Γ₂:aC}{H₁ H₂:Zn}(hK:∀id,K id->H₂.get id=H₁.get id/\Γ₂ id=Γ₁ id)(hn:H₁.A<=H₂.A)(h:ZX K v):
  ∀ {cv:Value},Zr P Γ₁ H₁ w v cv->Zr P Γ₂ H₂ w v cv:=by
 induction h with
 |lit v=>intro cv h;cases h;exact .lit _
 |nil =>
  intro cv h;cases h with
  |nz a cap=>exact .nz a cap
  |Q hb hlt hlen hcs hcell hrel=>exact .nz _ _
 |agg _ ih=>intro cv h;cases h with|agg hcs hrel=>exact .agg hcs fun i h1 h2=>ih i h1 (hrel i h1 h2)
 |nf _ ih=>intro cv h;cases h with|nf hcs hrel=>exact .nf hcs fun i h1 h2=>ih i h1 (hrel i h1 h2)
 |Z _ _ ih1 ih2=>intro cv h;cases h with|Z hfs hcs hf hc=>exact .Z hfs hcs (fun i h1 h2=>ih1 i h1 (hf i h1 h2)) fun i h1 h2=>ih2 i h1 (hc i h1 h2)
 |U h =>
  intro cv hv;cases hv with
  |U hv =>
   obtain⟨a,b,c,d⟩:=hv;obtain⟨e1,e2⟩:=hK _ h;refine .U ⟨V,b,by rw[e1];exact c,fun g e cells hg=>?_⟩;rw[e1]at hg;rw[e2];exact d g e cells hg
 |O h =>
  intro cv hv;cases hv with
  |O hv =>
   obtain⟨a,b,c,d⟩:=hv;obtain⟨e1,e2⟩:=hK _ h;refine .O ⟨V,b,by rw[e1];exact c,fun g e cells hg=>?_⟩;rw[e1]at hg;rw[e2];exact d g e cells hg
def fR (lo hi:Nat)(lv:Nat->Bool)(g:Nat->Option Zu):Nat->Option Zu:=fun id=>if lo<=id/\id<hi then (if lv id=true then g id else some (.J 0 0 [])) else none
def nU (lo hi:Nat):List Nat:=(List.range (hi-lo)).map (·+lo)
def AU {lo hi r:Nat}(h1:lo<=r)(h2:r<hi):r∈nU lo hi:=by
 unfold nU;rw[Vb];exact⟨r-lo,by rw[U9];omega,V⟩
open Classical in
def nP.mk {f:FuncId}{first cap args args':List Zo}(Hs Hs':Zn)(kp:Nat->Prop)(lv:Nat->Bool)(rs:List Nat)(hG:fu G)
  (hrs:∀r,r∈rs->r<H.A) (hnx:Hs.A=H.A) (hle:Hs.A<=Hs'.A)
  (hkp:∀id,kp id->id∈rs/\Hs.get id=H.get id/\Hs'.get id=H.get id/\∃g e c,H.get id=some (.J g e c)/\∀i (h:i<c.length),ZX kp c[i])
  (hgone:∀id,¬kp id->Hs.get id=none)
  (hl:args'.length=(first++args++cap).length)
  (hargs:∀H2:Zn,(∀r,r∈rs->H2.get r=H.get r)->∀i (h:i<(first++args++cap).length) (h':i<args'.length),Fz (fun id=>¬kp id) H2 H.A (first++args++cap)[i] args'[i])
  (hcall:ae P G f args' Hs fun r H'=>r=.ret v/\H'=Hs')
  (hv:ZX (fun id=>kp id\/(H.A<=id/\id<Hs'.A/\lv id=true)) v)
  (hnew:∀id,H.A<=id->id<Hs'.A->lv id=true->∃g e c,Hs'.get id=some (.J g e c)/\∀i (h:i<c.length),ZX (fun id=>kp id\/(H.A<=id/\id<Hs'.A/\lv id=true)) c[i]):
  nP P G (.Z f first cap) args H v (fR H.A Hs'.A lv Hs'.get) (Hs'.A-H.A) ⟨nU H.A Hs'.A,rs⟩:=by
 have hsome:∀id,H.A<=id->id<Hs'.A->(fR H.A Hs'.A lv Hs'.get id).isSome=true:=by
  intro id h1 h2;unfold fR;rw[UX ⟨h1,h2⟩];split
  ·rename_i h3;obtain⟨g,e,c,h4,_⟩:=hnew id h1 h2 h3;rw[h4];rfl
  ·rfl
 have hout:∀id,(fR H.A Hs'.A lv Hs'.get id).isSome=true->H.A<=id/\id<Hs'.A:=by
  intro id h;unfold fR at h;split at h
  ·assumption
  ·cases h
 refine⟨hrs,fun r hr=>?_,fun c hc=>hsome _ V V,?_⟩
 ·obtain⟨h1,h2⟩:=hout r hr;exact⟨AU h1 h2,.inr ⟨h1,V⟩⟩
 intro H2 hag hres hn2;refine ao.Z ⟨hcall.1,fun Γ w cargs R hr=>?_⟩
 let S:Nat->Prop:=fun id=>¬kp id
 have kpO:∀id,¬S id->kp id:=fun id h=>VI h;have hkH2:∀id,kp id->H2.get id=H.get id:=fun id h=>hag id (hkp id h).1;have hlow:∀id,kp id->id<H.A:=fun id h=>hrs id (hkp id h).1;have F:Z7 S H2 Hs:=by
  refine⟨fun id hs=>hgone id hs,fun id b hs hb=>?_,fun id hs hb=>?_⟩
  ·have hk:=kpO id hs;obtain⟨h1,h2,h3,g,e,c,h4,h5⟩:=hkp id hk;rw[hkH2 id hk,h4]at hb;cases hb;refine⟨by rw[hnx];exact hlow id hk,.J g e c,by rw[h2,h4],rfl,rfl,rfl,fun i hi _=>?_⟩;exact((h5 i hi).mono fun id hk=>⟨fun hs=>hs hk,by rw[hnx];exact hlow id hk⟩).fz
  ·have hk:=kpO id hs;obtain⟨h1,h2,h3,g,e,c,h4,h5⟩:=hkp id hk;rw[hkH2 id hk,h4]at hb;cases hb
 have R0:Zw P G (gD S Γ) Hs w:=F.rel hG R;have hr0:dG P (gD S Γ) Hs w args' cargs:=⟨by have:=hr.1;omega,fun i h1 h2=>(by
  have:=hargs H2 hag i V h1;rw[<- hnx]at this;exact this.sound R F (hr.2 i V h2))⟩
 refine(hcall.2 _ w cargs R0 hr0).mono ?_;rintro e w' ⟨r,H',Γ',hend,⟨rfl,rfl⟩,R',E,hn⟩
 let nw:Nat->Prop:=fun id=>H.A<=id/\id<H'.A
 let lw:Nat->Prop:=fun id=>H.A<=id/\id<H'.A/\lv id=true
 let Γ3:aC:=fun id=>if lw id then Γ' id else Γ id
 let H3:Zn:=⟨cV (fR H.A H'.A lv H'.get) H2.get,H2.A⟩
 have hnle:H'.A<=H2.A:=V
 have g3l:∀id,lw id->Γ3 id=Γ' id:=fun id h=>UX h;have g3o:∀id,¬lw id->Γ3 id=Γ id:=fun id h=>UW h;have kold:∀id,kp id->¬nw id:=fun id h hn=>by have:=hlow id h;have:=hn.1;omega
 have koldl:∀id,kp id->¬lw id:=fun id h hn=>kold id h ⟨hn.1,hn.2.1⟩;have gk:∀id,kp id->Γ' id=Γ id:=by
  intro id hk;obtain⟨h1,h2,h3,g,e,c,h4,h5⟩:=hkp id hk;have hlo:=hlow id hk;obtain⟨x,hx,hle'⟩:=E.na id V V (.J g e c) (by rw[h3,h4]);rw[h2,h4]at hx;cases hx;rw[(hle'.2 rfl).1];exact jJ fun hs=>hs hk
 have h3new:∀id,nw id->H3.get id=fR H.A H'.A lv H'.get id:=by
  intro id h;show cV _ _ id=_;unfold cV;have:=hsome id h.1 h.2;split
  ·rename_i b hb;rw[hb]
  ·rename_i hb;rw[hb]at this;cases this
 have h3live:∀id,lw id->H3.get id=H'.get id:=by
  intro id h;rw[h3new id ⟨h.1,h.2.1⟩];unfold fR;rw[UX ⟨h.1,h.2.1⟩,UX h.2.2]
 have h3dead:∀id,nw id->¬lw id->H3.get id=some (.J 0 0 []):=by
  intro id h hl;rw[h3new id h];unfold fR;rw[UX h,UW fun h2=>hl ⟨h.1,h.2,h2⟩]
 have h3old:∀id,¬nw id->H3.get id=H2.get id:=by
  intro id h;show cV _ _ id=_;exact nS fun h'=>h (hout id h')
 have hrsv:∀id,nw id->H2.get id=some .nr:=by
  intro id h;have:=hres (id-H.A) (by have:=h.1;have:=h.2;omega)
  rwa [show H.A+(id-H.A)=id by have:=h.1;omega]at this
 have hΓnew:∀id,nw id->Γ id=none:=fun id h=>R.nr id (hrsv id h);have hfar:∀id b base n,lw id->Γ' id=some (b,base,n)->w.heap.size<=b:=by
  intro id b base n hid hb;refine Ya fun hlt=>?_;have hown:(gD S Γ).fF b:=VI fun hno=>(E.ng b hlt hno).2 ⟨id,base,n,hb⟩;obtain⟨id0,base0,n0,h0⟩:=hown;obtain⟨hs0,h0⟩:=kV h0;have hk0:=kpO id0 hs0;rw[<- gk id0 hk0]at h0;have:=R'.inj _ _ _ _ _ _ _ h0 hb;subst this;exact koldl _ hk0 hid
 have EE:Zy Γ H2 w Γ3 H3 w':=by
  refine⟨E.os,E.tape,E.output,E.size,fun b hb ho=>⟨(E.ng b hb fun h=>ho (uJ h)).1,?_⟩,fun id h1 h2 x' hx'=>?_,E.nA,E.kind,fun id b x y hb hlt=>?_⟩
  ·rintro⟨id,base,n,h⟩;by_cases hl:lw id
   ·rw[g3l id hl]at h;have:=hfar id b base n hl h;omega
   ·rw[g3o id hl]at h;exact ho ⟨id,base,n,h⟩
  ·by_cases hnw:nw id
   ·exact⟨.nr,hrsv id hnw,trivial⟩
   ·rw[h3old id hnw]at hx';refine⟨x',hx',?_⟩;have hg:Γ3 id=Γ id:=g3o id fun h=>hnw ⟨h.1,h.2.1⟩;cases x' with
    |J g e c=>exact⟨Zm,fun _=>⟨hg,rfl,rfl⟩⟩
    |loop=>exact⟨hg,rfl,rfl,rfl,rfl,rfl⟩
    |nr=>trivial
    |mp=>exact hg
  ·by_cases hl:lw id
   ·rw[g3l id hl]at hb;have:=hfar id b x y hl hb;omega
   ·rw[g3o id hl]at hb;exact⟨x,y,hb⟩
 have hn3:H2.A<=H3.A:=Nat.le_refl _;have hK:∀id,(kp id\/lw id)->H3.get id=H'.get id/\Γ3 id=Γ' id:=by
  rintro id (h|h)
  ·refine⟨?_,?_⟩
   ·rw[h3old id (kold id h),hkH2 id h,(hkp id h).2.2.1]
   ·rw[g3o id (koldl id h),gk id h]
  ·exact⟨h3live id h,g3l id h⟩
 have hle3:H'.A<=H3.A:=hnle;have hidden:∀id b base n,¬kp id->Γ id=some (b,base,n)->w'.heap[b]?=w.heap[b]?:=by
  intro id b base n hk h;refine(E.ng b (R.lt _ _ _ _ h) ?_).1;rintro⟨id0,base0,n0,h0⟩;obtain⟨hs0,h0⟩:=kV h0;have:=R.inj _ _ _ _ _ _ _ h h0;subst this;exact hs0 hk
 have R3:Zw P G Γ3 H3 w':=by
  refine⟨?_,?_,?_,?_,?_,?_,?_,?_,?_,?_⟩
  ·intro id g e cells hg;have main : (kp id∨lw id)→(∀ i (h : i<cells.length),ZX (fun id=>kp id∨lw id) cells[i])→H'.get id=some (.J g e cells)→_:=fun hid hc hg'=>R'.J id g e cells hg';have fin : (kp id∨lw id)→(∀ i (h : i<cells.length),ZX (fun id=>kp id∨lw id) cells[i])→H'.get id=some (.J g e cells)→(match Γ3 id with
     |some (b,base,n)=>∃c,w'.heap[b]?=some (.cells c e (0,0))/\c.size=n/\base+cells.length<=n /\
      ∀i (h:i<cells.length),∃cv,c[base+i]?=some cv/\Zr P Γ3 H3 w' cells[i] cv
     |none=>cells=[]):=by
    intro hid hc hg';have h1:=R'.J id g e cells hg';rw[(hK id hid).2];cases hΓ:Γ' id with
    |none=>rw[hΓ]at h1;exact h1
    |some y =>
     obtain⟨b,base,n⟩:=y;rw[hΓ]at h1;obtain⟨c,a1,a2,a3,a4⟩:=h1;refine⟨c,a1,a2,a3,fun i hi=>?_⟩;obtain⟨cv,b1,b2⟩:=a4 i hi;exact⟨cv,b1,(hc i hi).sound hK hle3 b2⟩
   by_cases hl:lw id
   ·have hg':=hg;rw[h3live id hl]at hg';obtain⟨g0,e0,c0,h4,h5⟩:=hnew id hl.1 hl.2.1 hl.2.2;rw[h4]at hg';cases hg';exact fin (.inr hl) h5 h4
   ·by_cases hnw:nw id
    ·rw[h3dead id hnw hl]at hg;cases hg;rw[g3o id hl,hΓnew id hnw]
    ·rw[h3old id hnw]at hg;by_cases hk:kp id
     ·obtain⟨h1,h2,h3,g0,e0,c0,h4,h5⟩:=hkp id hk;rw[hkH2 id hk,h4]at hg;cases hg;exact fin (.inl hk) (fun i hi=>(h5 i hi).mono fun _ h=>.inl h) (by rw[h3,h4])
     ·have h1:=R.J id g e cells hg;rw[g3o id hl];cases hΓ:Γ id with
      |none=>rw[hΓ]at h1;exact h1
      |some y =>
       obtain⟨b,base,n⟩:=y;rw[hΓ]at h1;obtain⟨c,a1,a2,a3,a4⟩:=h1;refine⟨c,by rw[hidden id b base n hk hΓ];exact a1,a2,a3,fun i hi=>?_⟩;obtain⟨cv,b1,b2⟩:=a4 i hi;exact⟨cv,b1,b2.aY EE hn3⟩
  ·intro id st pend n env ps asg body hg;by_cases hl:lw id
   ·rw[h3live id hl]at hg;obtain⟨g0,e0,c0,h4,h5⟩:=hnew id hl.1 hl.2.1 hl.2.2;rw[h4]at hg;cases hg
   ·by_cases hnw:nw id
    ·rw[h3dead id hnw hl]at hg;cases hg
    ·rw[h3old id hnw]at hg;have hk:¬kp id:=fun hk=>by
      obtain⟨h1,h2,h3,g0,e0,c0,h4,h5⟩:=hkp id hk;rw[hkH2 id hk,h4]at hg;cases hg
     obtain⟨b,r,a1,a2,a3,a4,a5,a6,a7,a8,a9⟩:=R.loop id st pend n env ps asg body hg;exact⟨b,r,by rw[g3o id hl];exact a1,by rw[hidden id b 0 0 hk a1];exact a2,a3,a4,a5,a6,a7,a8,fun t ht=>(a9 t ht).aY EE hn3⟩
  ·intro id es hg;by_cases hl:lw id
   ·rw[h3live id hl]at hg;obtain⟨g0,e0,c0,h4,h5⟩:=hnew id hl.1 hl.2.1 hl.2.2;rw[h4]at hg;cases hg
   ·by_cases hnw:nw id
    ·rw[h3dead id hnw hl]at hg;cases hg
    ·rw[h3old id hnw]at hg;have hk:¬kp id:=fun hk=>by
      obtain⟨h1,h2,h3,g0,e0,c0,h4,h5⟩:=hkp id hk;rw[hkH2 id hk,h4]at hg;cases hg
     obtain⟨b,a1,a2⟩:=R.mp id es hg;exact⟨b,by rw[g3o id hl];exact a1,by rw[hidden id b 0 0 hk a1];exact a2⟩
  ·intro id hg;have hnw:¬nw id:=fun hnw=>by
    by_cases hl:lw id
    ·rw[h3live id hl]at hg;obtain⟨g0,e0,c0,h4,h5⟩:=hnew id hl.1 hl.2.1 hl.2.2;rw[h4]at hg;cases hg
    ·rw[h3dead id hnw hl]at hg;cases hg
   rw[h3old id hnw]at hg;rw[g3o id fun h=>hnw ⟨h.1,h.2.1⟩];exact R.nr id hg
  ·intro id id' b base n base' n' h h';by_cases hl:lw id<;>by_cases hl':lw id'
   ·rw[g3l id hl]at h;rw[g3l id' hl']at h';exact R'.inj _ _ _ _ _ _ _ h h'
   ·rw[g3l id hl]at h;rw[g3o id' hl']at h';have:=hfar id b base n hl h;have:=R.lt _ _ _ _ h';omega
   ·rw[g3o id hl]at h;rw[g3l id' hl']at h';have:=hfar id' b base' n' hl' h';have:=R.lt _ _ _ _ h;omega
   ·rw[g3o id hl]at h;rw[g3o id' hl']at h';exact R.inj _ _ _ _ _ _ _ h h'
  ·intro id x h;by_cases hl:lw id
   ·obtain⟨g0,e0,c0,h4,h5⟩:=hnew id hl.1 hl.2.1 hl.2.2;exact⟨_,by rw[h3live id hl];exact h4⟩
   ·rw[g3o id hl]at h;by_cases hnw:nw id
    ·exact⟨_,h3dead id hnw hl⟩
    ·obtain⟨y,hy⟩:=R.nF id x h;exact⟨y,by rw[h3old id hnw];exact hy⟩
  ·intro id b base n h;by_cases hl:lw id
   ·rw[g3l id hl]at h;exact R'.lt _ _ _ _ h
   ·rw[g3o id hl]at h;exact U4 (R.lt _ _ _ _ h) E.size
  ·intro id y h;by_cases hnw:nw id
   ·have:=hnw.2;exact U4 this hnle
   ·rw[h3old id hnw]at h;exact R.A id y h
  ·intro g cells h;exact(R.nE g cells h).aY EE hn3
  ·exact R.qf EE
 refine⟨.ret v,H3,Γ3,?_,⟨rfl,rfl⟩,R3,EE,hn3⟩;cases e with
 |returned cv=>exact hv.sound hK hle3 hend
 |panicked chain=>exact hend.elim
 |outgrown=>exact hend.elim
end Go.Hx.Ev
namespace Go.Hx
inductive BT (α:Type) where
 |nil
 |node (v:Option α) (l r:BT α)
inductive EBlk where
 |J (gen:Nat) (elem:TypeId) (cells:List Zo)
 |loop (st:LoopState) (pend:Option Code) (n:Nat) (env:BT Zo) (ps:Array Tmp) (asg body:Code)
 |mp (es:List (Int × Int))
structure EH where
 hp:BT EBlk
 nx:Nat
inductive RR where
 |ev (x:AX) (env:BT Zo) (h:EH)
 |ret (v:Zo) (h:EH)
 |panic (h:EH)
inductive OR where
 |fail
 |val (v:Zo)
 |nD (v:Zo) (r g:Nat) (e:TypeId) (cells:List Zo) (fresh:Bool)
 |effM (v:Zo) (r:Nat) (es:List (Int × Int)) (fresh:Bool)
structure GD where
 z:Zo
 ok:Zo->Bool
structure EP where
 P:Program
 G:Nat->Option (List Zo)
 gd:FuncId->Option GD
  /-- What is known already of a function's calls. -/
 known:FuncId->Option (List (List Zo × Zo))
  /-- What a call of a function without a body comes to. -/
 ext:FuncId->Option (List Zo->Option Zo):=fun _=>none
section step
end step
section step
end step
end Go.Hx
namespace Go.Hx
variable {P:Program} {G:Nat->Option (List Zo)}
end Go.Hx
namespace Go.Hx
end Go.Hx
namespace Go.Hx
end Go.Hx
namespace Go.Hx
end Go.Hx
namespace Go.Hx
def sR (z:GD):Option Zo->Zo
 |some u=>.nf [u,.lit (.int .i64 0)]
 |none=>.nf [z.z,.lit (.int .i64 6)]
def yz (P:Program)(G:Nat->Option (List Zo))(f:FuncId)(z:GD):Prop:=∀g cap cap' (H:Zn) o,cap'.length=cap.length ->
 (∀H2:Zn,(∀id,id<H.A->H2.get id=H.get id)->∀i (h:i<cap.length) (h':i<cap'.length),Fz (fun _=>True) H2 0 cap[i] cap'[i]) ->
 (∀u,o=some u->z.ok u=true)->ae P G g cap' cW (mD o)->ae P G f [.Z g [] cap] H fun r H'=>r=.ret (sR z o)/\H'=H
def Ml (E:EP):Prop:=∀f e,E.ext f=some e->∀args r,e args=some r->∀(H:Zn) (K:Zt->Zn->Prop),K (.ret r) H->ao E.P E.G (.Z f [] []) args H K
structure EOk (E:EP):Prop where
 gok:fu E.G
 mixed:E.P.follows .mixedOrders=true
 known:∀f l,E.known f=some l->∀a v,(a,v)∈l->ae E.P E.G f a cW fun r H'=>∃u,r=.ret u/\ZJ H' u v
 gd:∀f z,E.gd f=some z->yz E.P E.G f z
 ext:Ml E
section
end
end Go.Hx
namespace Go.Hx
open Go.ChangeShapes Go.WideShapes Go.RowKit
variable {P:Program} {G:Nat->Option (List Zo)}
variable {sp:Nat->Bool}{H:Type}{enc:TypeId × Value->H}
def ka:aC:=fun _=>none
def xm (P:Program)(G:Nat->Option (List Zo))(W:World):Prop:=∀g cells,G g=some cells->Zr P ka cW W (.ni cells 0) (.pointer (some ⟨g,0,none⟩))/\∃c e f,W.heap[g]?=some (.cells c e f)/\c.size=cells.length
def Gs {W:World}(hg:xm P G W):Zw P G ka cW W where
 J _ _ _ _ h:=by cases h
 loop _ _ _ _ _ _ _ _ h:=by cases h
 mp _ _ h:=by cases h
 nr _ h:=by cases h
 inj _ _ _ _ _ _ _ h:=by cases h
 nF _ _ h:=by cases h
 lt _ _ _ _ h:=by cases h
 A _ _ h:=by cases h
 nE g cells h:=(hg g cells h).1
 gsz g cells h:=(hg g cells h).2
def AO (b:Nat):¬ka.fF b:=fun ⟨_,_,_,h⟩=>by cases h
def Gt {f:FuncId}{args:List Zo}{cargs:Array Value}{W:World}(hA:ae P G f args cW fun r H'=>∃u,r=.ret u/\ZJ H' u (.lit (.bool true)))(hg:xm P G W)(hr:dG P ka cW W args cargs):
  Calls P f cargs W fun e W'=>e=.returned (.bool true)/\RowKit.Below W.heap.size W W'/\∀a,a.block<W.heap.size->W'.frozen? a=W.frozen? a:=by
 refine callsIn_wide.1 ((hA.2 ka W cargs (Gs hg) hr).mono ?_);rintro e W' ⟨r,H',Γ',hend,⟨u,rfl,hf⟩,_,E,_⟩;cases e with
 |returned cv =>
  have hu:u=.lit (.bool true):=by cases hf;rfl
  subst hu;cases hend;exact⟨rfl,⟨E.os,E.tape,E.output,E.size,fun k hk=>(E.ng k hk (AO k)).1⟩,E.nA⟩
 |panicked=>exact hend.elim
 |outgrown=>exact hend.elim
def Gu {W W':World}(hb:RowKit.Below W.heap.size W W')(may:MemPlace->Prop):W.keptBut W' may:=by
 refine⟨hb.os,hb.output,fun i hi=>?_⟩;rw[hb.block i hi];cases h:W.heap[i]? with
 |none=>rfl
 |some o=>cases o<;>first|exact rfl|exact⟨rfl,rfl,rfl,fun _ _=>rfl⟩|exact .inr ⟨rfl,rfl⟩
def Gv (hl:laidOutB P=true){W W':World}(hb:RowKit.Below W.heap.size W W'):∀ {ts:List TypeId} {vs:List Value} {ds:List (DataW H)} {ps:List MemPlace},
  ts.all (fun t=>P.readableRec t && decide (t<P.types.size))=true->DataW.TrodAll enc P W 0 (fun _=>true) true ts vs ds ps->(∀x∈ps,x.block<W.heap.size)->(∀x∈ps,sp x.block=true)->DataW.TrodAll enc P W' 0 sp true ts vs ds ps:=by
 intro ts
 induction ts with
 |nil =>
  intro vs ds ps _ h _ _;cases vs<;>cases ds<;>first|exact h|exact h.elim
 |cons t ts ih =>
  intro vs ds ps hok h hlt hsp;simp only[List.all_cons,Vr,decide_eq_true_eq]at hok;cases vs with
  |nil=>cases ds<;>exact h.elim
  |cons v vs=>cases ds with
   |nil=>exact h.elim
   |cons d ds =>
    obtain⟨p,q,h1,h2,rfl⟩:=h;refine⟨p,q,?_,ih hok.2 h2 (fun x hx=>hlt x (by simp[hx])) (fun x hx=>hsp x (by simp[hx])),rfl⟩;exact WideElems.Trod_stays hl hok.1.1 hok.1.2 h1 (fun x hx=>hb.same (hlt x (by simp[hx]))) (fun x hx=>hsp x (by simp[hx]))
def Gw {W:World}{base:Nat}{held:Bool}:∀ {ts:List TypeId} {vs:List Value} {ds:List (DataW H)} {ps:List MemPlace},
  DataW.TrodAll enc P W base sp held ts vs ds ps->vs.length=ts.length/\ds.length=ts.length:=by
 intro ts
 induction ts with
 |nil =>
  intro vs ds ps h;cases vs<;>cases ds<;>first|exact⟨rfl,rfl⟩|exact h.elim
 |cons t ts ih =>
  intro vs ds ps h;cases vs with
  |nil=>cases ds<;>exact h.elim
  |cons v vs=>cases ds with
   |nil=>exact h.elim
   |cons d ds =>
    obtain⟨p,q,_,h2,_⟩:=h;obtain⟨h3,h4⟩:=ih h2;exact⟨by simp[h3],by simp[h4]⟩
def Gx {f:Func}{s:ChangeSpec}{apart fresh handsOn again:Bool}{W W':World}{args:Array Value}{ds gs:List (DataW H)}{before:List MemPlace}{t:TypeId}
  (hl:laidOutB P=true) (hok:f.params.toList.all (fun t=>P.readableRec t && decide (t<P.types.size))=true) (hvars:s.vars=[]) (hrt:f.resultTypes=#[t]) (ht:P.underlying t=some .bool)
  (hs:∀ds:List (DataW H),ds.length=f.params.toList.length->s.fn H (ds++[])={ results:=[.lit (.bool true)],args:=ds })
  (hW:DataW.Whole enc P f.params.toList s.vars apart W args.toList ds gs before) (hb:RowKit.Below W.heap.size W W') (hfz:∀a,a.block<W.heap.size->W'.frozen? a=W.frozen? a):s.post enc P f apart fresh handsOn again W args (.bool true) W':=by
 have hW':=hW;obtain⟨p,q,hA,hV,rfl,hz,hn⟩:=hW;have hgs:gs=[]/\q=[]:=by
  rw[hvars]at hV;cases gs with
  |nil=>exact⟨rfl,hV⟩
  |cons=>exact hV.elim
 obtain⟨rfl,rfl⟩:=hgs;have hfn:=hs ds (Gw hA).2;have hlt:∀x∈p,x.block<W.heap.size:=fun x hx=>by simpa using hW'.lt x (by simp[hx])
 have hres:∀(b:Nat) (sp:Nat->Bool) (hd:Bool),DataW.TrodAll enc P W' b sp hd f.resultTypes.toList ((Value.bool true).resultList f.resultTypes.size) (s.fn H (ds++[])).results []:=fun b sp hd=>by
  rw[hfn,hrt];exact trodAll_mk1 (shut_bool ht true)
 have hargs:∀sp:Nat->Bool,(∀x∈p,sp x.block=true)->DataW.TrodAll enc P W' 0 sp true f.params.toList args.toList (s.fn H (ds++[])).args p:=fun sp hsp=>by
  rw[hfn];exact Gv hl hb hok hA hlt hsp
 have hva:∀sp:Nat->Bool,DataW.TrodVars enc P W' sp s.vars (s.fn H (ds++[])).vars []:=fun sp=>by
  rw[hfn,hvars];exact rfl
 have hpp:p++[]=p:=List.append_nil p;have hold:∀x∈p,(fun b=>decide (b<W.heap.size)) x.block=true:=fun x hx=>by simpa using hlt x hx
 rw[hpp]at hW' hz hn;refine⟨ds,[],p,[],p,[],hW',hres _ _ _,hargs _ hold,hva _,World.keptBut_mono (fun x hx=>⟨hx,.inr (.inl hx)⟩) (Gu hb _),fun _=>⟨ok_one hrt rfl (okWide_bool_mk ht true),(s.fn H (ds++[])).results++(s.fn H (ds++[])).args,(s.fn H (ds++[])).vars,p,?_,fun x hx _=>hx⟩⟩;have hall:=trodAll_append (hargs (fun _=>true) fun _ _=>rfl) (hres 0 (fun _=>true) true);refine⟨p,[],by simpa using hall,hva _,Zj,fun b off hx=>?_,fun ha=>by simpa using hn ha⟩;rw[hfz _ (hlt _ hx)];exact hz b off hx
end Go.Hx
namespace Go.Hx
variable {P:Program} {G:Nat->Option (List Zo)}
def yA:Nat->Option (List Zo):=fun _=>none
def Mm:fu yA:=fun _ _ h=>by cases h
def Mn (W:World):xm P yA W:=fun _ _ h=>by cases h
end Go.Hx
