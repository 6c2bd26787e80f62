/-
  Regions that draw their order. Own work: no program stands in this text.
-/
import Derived.Test.YtebhdkihcdmmjaaGreatLibA
import Derived.OrdersIn
import Derived.KernelRfl
import Derived.ProofKit
import Derived.SevenTiedAt
set_option linter.all false
namespace Go.Hx
variable {P:Program} {G:Nat->Option (List ZL)} {Γ Γ':aD} {H H':ZK} {w w':World}
variable {c:Call}{ρ:Env}{id n:Nat}{o:Op}{t u:TypeId}{H2:ZK}{a v x:ZL}
def aR:ZL->List Nat
 |.U id _ _ _ _=>[id]
 |.O id _ _=>[id]
 |_=>[]
def fj:ZL->List Nat
 |.nk id=>[id]
 |_=>[]
structure FP where
 nC:List Nat
 rs:List Nat
def lZ:ZL->Bool
 |.U ..=>true
 |_=>false
def mP (P:Program)(t:TypeId)(x:ZL):List Nat:=match P.underlying t with
 |some (.slice _)=>aR x
 |_=>[]
def kS (P:Program)(id:Nat)(b:Builtin)(ats:List TypeId)(args:List ZL):FP :=
 match b,ats,args with
 |.append,_,[s,x]=>if lZ s then ⟨aR s,aR s++aR x⟩ else ⟨[id],aR x⟩
 |.copy,_,[d,x]=>⟨aR d,aR d++aR x⟩
 |.clear,_,[d]=>⟨aR d,aR d⟩
 |.len,[t],[x]=>⟨[],mP P t x⟩
 |_,_,_=>⟨[],[]⟩
def cC (P:Program)(G:Nat->Option (List ZL))(ρ:Env)(id:Nat):Op->FP
 |.load _ a=>⟨[],aR (ar G ρ a)⟩
 |.nilCheck a=>⟨[],aR (ar G ρ a)⟩
 |.slice _ a _ _ _=>⟨[],aR (ar G ρ a)⟩
 |.fieldAddr _ a _=>⟨[],aR (ar G ρ a)⟩
 |.indexAddr _ a _=>⟨[],aR (ar G ρ a)⟩
 |.convert _ _ a=>⟨[],aR (ar G ρ a)⟩
 |.store _ a _=>⟨aR (ar G ρ a),aR (ar G ρ a)⟩
 |.alloc _=>⟨[id],[]⟩
 |.box _ _=>⟨[id],[]⟩
 |.buildSlice _ _ _=>⟨[id],[]⟩
 |.makeSlice _ _ _=>⟨[id],[]⟩
 |.makeMap _ _=>⟨[id],[]⟩
 |.lookup _ x _ _=>⟨[],fj (ar G ρ x)⟩
 |.mapUpdate _ m _ _|.insert _ m _ _|.mapEntry _ m _|.entryStore _ m _ _=>⟨fj (ar G ρ m),fj (ar G ρ m)⟩
 |.call c=>match c.callee with
  |.builtin b=>kS P id b c.argTypes.toList (c.args.toList.map (ar G ρ))
  |_=>⟨[],[]⟩
 |_=>⟨[],[]⟩
def fk (e:Option (Nat × ZR))(g:Nat->Option ZR):Nat->Option ZR :=
 match e with
 |none=>g
 |some (k,b)=>fun j=>if j=k then some b else g j
def gW (H:ZK):Prop:=∀id b,H.get id=some b->id<H.A
def kT (wf:gW H){gen:Nat}{ec:TypeId × List ZL}(h:H.na id gen=some ec):id<H.A:=wf id _ (jJ (e:=ec.1) (cells:=ec.2) h)
def kU (h:H2.get id=H.get id)(gen:Nat):H2.na id gen=H.na id gen:=by unfold ZK.na;rw[h]
def Local (P:Program)(G:Nat->Option (List ZL))(ρ:Env)(H:ZK)(o:Op)(v:ZL)(H':ZK)(f:FP):Prop :=
 ∃(e:Option (Nat × ZR)) (al:Bool),H'.get=fk e H.get/\H'.A=(if al then H.A+1 else H.A) /\
  (∀k b,e=some (k,b)->k∈f.nC/\(al=false->k∈f.rs))/\(al=true->∃b,e=some (H.A,b))/\(∀r,r∈f.rs->r<H.A) /\
  ∀H2:ZK,(∀r,r∈f.rs->H2.get r=H.get r)->(al=true->H2.get H.A=some .nq/\H.A≠H2.A)->ao P G ρ H2 H.A o=some (v,⟨fk e H2.get,H2.A⟩)
variable {f:FP}
def dI (hrs:∀r,r∈f.rs->r<H.A)(h:∀H2:ZK,(∀r,r∈f.rs->H2.get r=H.get r)->ao P G ρ H2 H.A o=some (v,H2)):Local P G ρ H o v H f:=by
 refine⟨none,false,rfl,rfl,?_,?_,hrs,fun H2 ha _=>h H2 ha⟩
 ·intro k b h;cases h
 ·intro h;cases h
def qT {b:ZR}(hl:H.lay H.A b=some H')(hta:H.A∈f.nC)(hrs:∀r,r∈f.rs->r<H.A)
  (h:∀H2:ZK,(∀r,r∈f.rs->H2.get r=H.get r)->∀H2',H2.lay H.A b=some H2'->ao P G ρ H2 H.A o=some (v,H2')):Local P G ρ H o v H' f:=by
 obtain⟨h1,h2⟩:=ke hl;have h2':H'.A=H.A+1:=by
  unfold ZK.lay at hl;rw[Vh rfl]at hl;simp only[Option.some.injEq]at hl;rw[<- hl]
 refine⟨some (H.A,b),true,funext h1,by simp[h2'],?_,?_,hrs,fun H2 ha hr=>?_⟩
 ·intro k b' hk;simp only[Option.some.injEq,Prod.mk.injEq]at hk;exact⟨hk.1 ▸ hta,fun h=>by cases h⟩
 ·exact fun _=>⟨b,rfl⟩
 ·obtain⟨hr1,hr2⟩:=hr rfl;refine h H2 ha _ ?_;unfold ZK.lay;rw[Vg hr2,hr1];rfl
def oe {b:ZR}(hid:id∈f.nC)(hid':id∈f.rs)(hrs:∀r,r∈f.rs->r<H.A)
  (h:∀H2:ZK,(∀r,r∈f.rs->H2.get r=H.get r)->ao P G ρ H2 H.A o=some (v,H2.upd id b)):Local P G ρ H o v (H.upd id b) f:=by
 refine⟨some (id,b),false,rfl,rfl,?_,?_,hrs,fun H2 ha _=>h H2 ha⟩
 ·intro k b' hk;simp only[Option.some.injEq,Prod.mk.injEq]at hk;exact⟨hk.1 ▸ hid,fun _=>hk.1 ▸ hid'⟩
 ·intro h;cases h
def cZ :∀r,r∈([]:List Nat)->r<n:=fun _ h=>by cases h
def gX (h:id<n):∀r,r∈[id]->r<n:=fun r hr=>by
 simp only[List.mem_singleton]at hr;omega
def Ip (h:∀r,r∈aR a->H2.get r=H.get r):ir P H2 t a=ir P H t a:=by
 cases a with
 |O id gen off=>simp only[ir];rw[h id (by simp[aR])]
 |_=>rfl
def Iq (wf:gW H)(h:ir P H t a=some v):∀r,r∈aR a->r<H.A:=by
 cases a with
 |O id gen off =>
  refine gX ?_;simp only[ir]at h;split at h
  ·rename_i hg;exact wf _ _ hg
  ·cases h
 |U=>simp[ir]at h
 |_=>exact cZ
def Ir (h:j9 P H t a v=some H'):∃id gen off g e cells,a=.O id gen off/\H.get id=some (.J g e cells)/\∃cells',H'=H.upd id (.J g e cells') /\
  ∀H2:ZK,H2.get id=H.get id->j9 P H2 t a v=some (H2.upd id (.J g e cells')):=by
 cases a with
 |O id gen off =>
  simp only[j9]at h;split at h
  ·rename_i g e cells hg;split at h
   ·rename_i hc;simp only[Option.some.injEq]at h;refine⟨id,gen,off,g,e,cells,rfl,hg,_,h.symm,fun H2 h2=>?_⟩;simp only[j9];rw[h2,hg];simp only;rw[Vh hc]
   ·cases h
  ·cases h
 |_=>simp[j9]at h
def Is (wf:gW H){i:Int}(h:nO P H t x i=some v):(∀r,r∈aR x->r<H.A)/\∀H2:ZK,(∀r,r∈aR x->H2.get r=H.get r)->nO P H2 t x i=some v:=by
 unfold nO at h ⊢;split at h
 ·split at h
  ·rename_i hc;split at h
   ·rename_i id gen off;simp only[Ve]at h;obtain⟨ec,hl,hv⟩:=h;refine⟨gX (kT wf hl),fun H2 h2=>?_⟩;rw[Vh hc];simp only[kU (h2 id (by simp[aR])),hl,Option.map_some,hv]
   ·refine⟨cZ,fun H2 _=>?_⟩;rw[Vh hc];exact h
   ·cases h
  ·cases h
 ·split at h
  ·rename_i hc;split at h
   ·rename_i id gen off len sz;split at h
    ·rename_i hi;simp only[Ve]at h;obtain⟨ec,hl,hv⟩:=h;refine⟨gX (kT wf hl),fun H2 h2=>?_⟩;rw[Vh hc,Vh hi];simp only[kU (h2 id (by simp[aR])),hl,Option.map_some,hv]
    ·cases h
   ·refine⟨cZ,fun H2 _=>?_⟩;rw[Vh hc];exact h
   ·cases h
  ·cases h
 ·cases h
def It (wf:gW H){lo hi:Option ZL}(h:nP P H t x lo hi=some v):(∀r,r∈aR x->r<H.A)/\∀H2:ZK,(∀r,r∈aR x->H2.get r=H.get r)->nP P H2 t x lo hi=some v:=by
 unfold nP at h ⊢;split at h
 ·split at h
  ·rename_i hc;split at h
   ·rename_i id gen off;split at h
    ·rename_i e' cells hl;refine⟨gX (kT wf hl),fun H2 h2=>?_⟩;rw[Vh hc];simp only[kU (h2 id (by simp[aR])),hl];exact h
    ·cases h
   ·refine⟨cZ,fun H2 _=>?_⟩;rw[Vh hc];exact h
   ·cases h
  ·cases h
 ·split at h
  ·rename_i hc;split at h
   ·rename_i id gen off len sz;split at h
    ·rename_i hi;have h0:=h;simp only[Vk]at h;obtain⟨ec,hl,_⟩:=h;refine⟨gX (kT wf hl),fun H2 h2=>?_⟩;rw[Vh hc,Vh hi,kU (h2 id (by simp[aR]))];exact h0
    ·cases h
   ·refine⟨cZ,fun H2 _=>?_⟩;rw[Vh hc];exact h
   ·refine⟨cZ,fun H2 _=>?_⟩;rw[Vh hc];exact h
   ·cases h
  ·cases h
 ·split at h
  ·exact⟨cZ,fun H2 _=>h⟩
  ·cases h
 ·cases h
def Iu (wf:gW H)(h:nS P H t x=some v):(∀r,r∈mP P t x->r<H.A)/\∀H2:ZK,(∀r,r∈mP P t x->H2.get r=H.get r)->nS P H2 t x=some v:=by
 unfold nS mP at *
 cases hu:P.underlying t with
 |none=>rw[hu]at h;cases h
 |some d =>
  rw[hu]at h;cases d with
  |slice e =>
   simp only at h ⊢;split at h
   ·exact⟨cZ,fun _ _=>h⟩
   ·rename_i id gen off len sz;simp only[Ve]at h;obtain⟨ec,hl,hv⟩:=h;refine⟨gX (kT wf hl),fun H2 h2=>?_⟩;simp only[kU (h2 id (by simp[aR])),hl,Option.map_some,hv]
   ·exact⟨cZ,fun _ _=>h⟩
   ·cases h
  |string=>exact⟨cZ,fun _ _=>h⟩
  |array n e=>exact⟨cZ,fun _ _=>h⟩
  |_=>cases h
def yy (wf:gW H){sz:Nat}{r:Nat × List ZL}(h:dc H sz x=some r):(∀r,r∈aR x->r<H.A)/\∀H2:ZK,(∀r,r∈aR x->H2.get r=H.get r)->dc H2 sz x=some r:=by
 unfold dc at h ⊢;split at h
 ·exact⟨cZ,fun _ _=>h⟩
 ·rename_i id gen off len sz';split at h
  ·rename_i hsz;simp only[Ve]at h;obtain⟨ec,hl,hv⟩:=h;refine⟨gX (kT wf hl),fun H2 h2=>?_⟩;rw[Vh hsz];simp only[kU (h2 id (by simp[aR])),hl,Option.map_some,hv]
  ·cases h
 ·exact⟨cZ,fun _ _=>h⟩
 ·cases h
def B5 {a b:List Nat}{p:Nat->Prop}(h1:∀r,r∈a->p r)(h2:∀r,r∈b->p r):∀r,r∈a++b->p r:=fun r hr=>(VH.1 hr).elim (h1 r) (h2 r)
def Iv (wf:gW H){s:ZL}(hb:c.callee=.builtin .append)(hats:c.argTypes.toList=[t,u])(hargs:c.args.toList.map (ar G ρ)=[s,x])
  (h:bS P H H.A t u s x=some (v,H')):Local P G ρ H (.call c) v H' (cC P G ρ H.A (.call c)):=by
 have hfp:cC P G ρ H.A (.call c)=if lZ s then ⟨aR s,aR s++aR x⟩ else ⟨[H.A],aR x⟩:=by
  simp only[cC,hb,hats,hargs,kS]
 have hop:∀H2:ZK,ao P G ρ H2 H.A (.call c)=bS P H2 H.A t u s x:=fun H2=>by
  simp only[ao,hb,hats,hargs,gT]
 rw[hfp];unfold bS at h;split at h
 ·rename_i e he;split at h
  ·rename_i e' he';simp only[Vk]at h;obtain⟨z,hz,nx,hsrc,h⟩:=h;obtain⟨hxlt,hxl⟩:=yy wf hsrc;split at h
   ·simp only[lZ,Bool.false_eq_true,if_false];split at h
    ·rename_i hn0;simp only[Option.some.injEq,Prod.mk.injEq]at h;obtain⟨rfl,rfl⟩:=h;refine dI hxlt fun H2 h2=>?_;rw[hop];simp only[bS,he,he',hz,hxl H2 h2,Option.bind_some,Vh hn0]
    ·rename_i hn0;split at h
     ·rename_i hb;simp only[Ve,Prod.mk.injEq]at h;obtain⟨H3,hl,rfl,rfl⟩:=h;refine qT hl ZG hxlt fun H2 h2 H2' hl2=>?_;rw[hop];simp only[bS,he,he',hz,hxl H2 h2,Option.bind_some,Vg hn0,Vh hb,hl2,Option.map_some]
     ·cases h
   ·rename_i id' gen off len sz;simp only[lZ,if_true];simp only[Vk]at h;obtain⟨ec,hl,h⟩:=h;have hlt:∀r,r∈aR (.U id' gen off len sz)++aR x->r<H.A:=B5 (gX (kT wf hl)) hxlt;have hl2:∀H2:ZK,(∀r,r∈aR (.U id' gen off len sz)++aR x->H2.get r=H.get r)->H2.na id' gen=some ec:=fun H2 h2=>by
     rw[kU (h2 id' (by simp[aR]))];exact hl
    have hx2:∀H2:ZK,(∀r,r∈aR (.U id' gen off len sz)++aR x->H2.get r=H.get r)->dc H2 (P.cellsOf e) x=some nx:=fun H2 h2 =>
     hxl H2 fun r hr=>h2 r (YG _ hr)
    split at h
    ·rename_i hc;split at h
     ·rename_i hn0;simp only[Option.some.injEq,Prod.mk.injEq]at h;obtain⟨rfl,rfl⟩:=h;refine dI hlt fun H2 h2=>?_;rw[hop];simp only[bS,he,he',hz,hx2 H2 h2,hl2 H2 h2,Option.bind_some];rw[Vh hc,Vh hn0]
     ·rename_i hn0;simp only[Option.some.injEq,Prod.mk.injEq]at h;obtain⟨rfl,rfl⟩:=h;refine oe (by simp[aR]) (by simp[aR]) hlt fun H2 h2=>?_;rw[hop];simp only[bS,he,he',hz,hx2 H2 h2,hl2 H2 h2,Option.bind_some];rw[Vh hc,Vg hn0]
    ·cases h
   ·cases h
  ·cases h
 ·cases h
def Iw (wf:gW H){s:ZL}(hb:c.callee=.builtin .copy)(hats:c.argTypes.toList=[t,u])(hargs:c.args.toList.map (ar G ρ)=[s,x])
  (h:lS P H t s x=some (v,H')):Local P G ρ H (.call c) v H' (cC P G ρ H.A (.call c)):=by
 have hfp:cC P G ρ H.A (.call c)=⟨aR s,aR s++aR x⟩:=by
  simp only[cC,hb,hats,hargs,kS]
 have hop:∀H2:ZK,ao P G ρ H2 H.A (.call c)=lS P H2 t s x:=fun H2=>by
  simp only[ao,hb,hats,hargs,gT]
 rw[hfp];unfold lS at h;split at h
 ·rename_i e he;split at h
  ·rename_i hs;simp only[Vk]at h;obtain⟨nx,hsrc,h⟩:=h;obtain⟨hxlt,hxl⟩:=yy wf hsrc;split at h
   ·rename_i id' gen off len sz;simp only[Vk]at h;obtain⟨ec,hl,h⟩:=h;have hlt:∀r,r∈aR (.U id' gen off len sz)++aR x->r<H.A:=B5 (gX (kT wf hl)) hxlt;split at h
    ·rename_i hc;simp only[Option.some.injEq,Prod.mk.injEq]at h;obtain⟨rfl,rfl⟩:=h;refine oe (by simp[aR]) (by simp[aR]) hlt fun H2 h2=>?_;have hl2:H2.na id' gen=some ec:=by
      rw[kU (h2 id' (by simp[aR]))];exact hl
     rw[hop];simp only[lS,he,hs,if_true,hxl H2 fun r hr=>h2 r (YG _ hr),hl2,Option.bind_some];rw[Vh hc]
    ·cases h
   ·cases h
  ·cases h
 ·cases h
def Ix (wf:gW H){s:ZL}(hb:c.callee=.builtin .clear)(hats:c.argTypes.toList=[t])(hargs:c.args.toList.map (ar G ρ)=[s])
  (h:jq P H t s=some (v,H')):Local P G ρ H (.call c) v H' (cC P G ρ H.A (.call c)):=by
 have hfp:cC P G ρ H.A (.call c)=⟨aR s,aR s⟩:=by
  simp only[cC,hb,hats,hargs,kS]
 have hop:∀H2:ZK,ao P G ρ H2 H.A (.call c)=jq P H2 t s:=fun H2=>by
  simp only[ao,hb,hats,hargs,gT]
 rw[hfp];unfold jq at h;split at h
 ·rename_i e he;split at h
  ·simp only[Option.some.injEq,Prod.mk.injEq]at h;obtain⟨rfl,rfl⟩:=h;refine dI (fun r hr=>by cases hr) fun H2 h2=>?_;rw[hop];simp only[jq,he]
  ·rename_i id' gen off len sz;simp only[Vk]at h;obtain⟨ec,hl,h⟩:=h;have hlt:∀r,r∈aR (.U id' gen off len sz)->r<H.A:=gX (kT wf hl);have hl2:∀H2:ZK,(∀r,r∈aR (.U id' gen off len sz)->H2.get r=H.get r)->H2.na id' gen=some ec:=fun H2 h2=>by
    rw[kU (h2 id' (by simp[aR]))];exact hl
   split at h
   ·rename_i h0;simp only[Option.some.injEq,Prod.mk.injEq]at h;obtain⟨rfl,rfl⟩:=h;refine dI hlt fun H2 h2=>?_;rw[hop];simp only[jq,he,hl2 H2 h2,Option.bind_some];rw[Vh h0]
   ·rename_i h0;simp only[Vk]at h;obtain⟨z,hz,h⟩:=h;split at h
    ·rename_i hc;simp only[Option.some.injEq,Prod.mk.injEq]at h;obtain⟨rfl,rfl⟩:=h;refine oe (by simp[aR]) (by simp[aR]) hlt fun H2 h2=>?_;rw[hop];simp only[jq,he,hl2 H2 h2,hz,Option.bind_some];rw[Vg h0,Vh hc]
    ·cases h
  ·cases h
 ·cases h
def B6 (wf:gW H){m k x:Operand}(h:mG P H t (ar G ρ m) (ar G ρ k) (ar G ρ x)=some (v,H'))(hfp:cC P G ρ H.A o=⟨fj (ar G ρ m),fj (ar G ρ m)⟩)
  (hop:∀H2:ZK,ao P G ρ H2 H.A o=mG P H2 t (ar G ρ m) (ar G ρ k) (ar G ρ x)):Local P G ρ H o v H' (cC P G ρ H.A o):=by
 rw[hfp];unfold mG at h;split at h
 ·rename_i hm;split at h
  ·rename_i id k' u hx hk hu;split at h
   ·rename_i es hg;simp only[Option.some.injEq,Prod.mk.injEq]at h;obtain⟨rfl,rfl⟩:=h;refine oe (by rw[hx];simp[fj]) (by rw[hx];simp[fj]) (by rw[hx];exact gX (wf _ _ hg)) fun H2 h2=>?_;have hg2:H2.get id=some (.mp es):=(by rw[h2 id (by rw[hx];simp[fj])];exact hg);rw[hop];simp only[mG,hm,if_true,hx,hk,hu,hg2]
   ·cases h
  ·cases h
 ·cases h
def Iy (wf:gW H){s d:TypeId}(h:lV P H s d x=some v):(∀r,r∈aR x->r<H.A)/\∀H2:ZK,(∀r,r∈aR x->H2.get r=H.get r)->lV P H2 s d x=some v:=by
 have bytes:∀y:ZL,nV P H s d y=some v->(∀r,r∈aR y->r<H.A)/\∀H2:ZK,(∀r,r∈aR y->H2.get r=H.get r)->nV P H2 s d y=some v:=by
  intro y h;unfold nV at h;split at h
  ·rename_i hsb;simp only[Vk]at h;obtain⟨nl,hs,h⟩:=h;obtain⟨h1,h2⟩:=yy wf hs;refine⟨h1,fun H2 ha=>?_⟩;unfold nV;rw[Vh hsb,h2 H2 ha];exact h
  ·cases h
 unfold lV at h;split at h
 ·exact bytes _ h
 ·exact bytes _ h
 ·rename_i hne1 hne2;refine⟨fun r hr=>?_,fun H2 _=>?_⟩
  ·unfold lU at h;split at h
   ·rename_i a ha;cases x<;>simp_all[aR,ZL.cU]
   ·cases h
  ·unfold lV;split
   ·exact absurd rfl (hne1 _ _ _ _ _)
   ·exact absurd rfl (hne2 _ _)
   ·exact h
def B7 (wf:gW H)(h:ao P G ρ H H.A o=some (v,H')):Local P G ρ H o v H' (cC P G ρ H.A o):=by
 cases o with
 |makeMap t r =>
  simp only[ao]at h;split at h
  ·simp only[Ve,Prod.mk.injEq]at h;obtain⟨H3,hl,rfl,rfl⟩:=h;refine qT hl (by simp[cC]) cZ fun H2 _ H2' hl2=>?_;simp only[ao,hl2,Option.map_some]
  ·cases h
 |lookup t x i ok =>
  simp only[ao,Ve,Prod.mk.injEq]at h;obtain⟨v',hv,rfl,rfl⟩:=h;have hfp:cC P G ρ H.A (.lookup t x i ok)=⟨[],fj (ar G ρ x)⟩:=rfl;rw[hfp];unfold qH at hv;split at hv
  ·rename_i hm;split at hv
   ·rename_i hx hi;refine dI (by rw[hx];exact cZ) fun H2 _=>?_;simp only[ao,qH,hm,if_true,hx,hi];simp only[Option.some.injEq]at hv;simp[hv]
   ·rename_i id k hx hi;split at hv
    ·rename_i es hg;refine dI (by rw[hx];exact gX (wf _ _ hg)) fun H2 h2=>?_;have hg2:H2.get id=some (.mp es):=(by rw[h2 id (by rw[hx];simp[fj])];exact hg);simp only[ao,qH,hm,if_true,hx,hi,hg2];simp only[Option.some.injEq]at hv;simp[hv]
    ·cases hv
   ·cases hv
  ·cases hv
 |mapUpdate t m k x=>exact B6 wf (by simp only[ao]at h;exact h) (by rfl) fun H2=>rfl
 |insert t m k x=>exact B6 wf (by simp only[ao]at h;exact h) (by rfl) fun H2=>rfl
 |mapEntry t m k =>
  simp only[ao]at h;have hfp:cC P G ρ H.A (.mapEntry t m k)=⟨fj (ar G ρ m),fj (ar G ρ m)⟩:=rfl;rw[hfp];unfold pq at h;split at h
  ·rename_i hm;split at h
   ·rename_i id k' hx hk;split at h
    ·rename_i es hg;have hg2:∀H2:ZK,(∀r,r∈fj (ar G ρ m)->H2.get r=H.get r)->H2.get id=some (.mp es):=fun H2 h2=>by rw[h2 id (by rw[hx];simp[fj])];exact hg
     split at h
     ·rename_i n u hf;simp only[Option.some.injEq,Prod.mk.injEq]at h;obtain⟨rfl,rfl⟩:=h;refine oe (by rw[hx];simp[fj]) (by rw[hx];simp[fj]) (by rw[hx];exact gX (wf _ _ hg)) fun H2 h2=>?_;simp only[ao,pq,hm,if_true,hx,hk,hg2 H2 h2,hf]
     ·rename_i hf;simp only[Option.some.injEq,Prod.mk.injEq]at h;obtain⟨rfl,rfl⟩:=h;refine oe (by rw[hx];simp[fj]) (by rw[hx];simp[fj]) (by rw[hx];exact gX (wf _ _ hg)) fun H2 h2=>?_;simp only[ao,pq,hm,if_true,hx,hk,hg2 H2 h2,hf]
    ·cases h
   ·cases h
  ·cases h
 |entryStore t m s x =>
  simp only[ao]at h;have hfp:cC P G ρ H.A (.entryStore t m s x)=⟨fj (ar G ρ m),fj (ar G ρ m)⟩:=rfl;rw[hfp];unfold qI at h;split at h
  ·rename_i id s' u hx hs hu;split at h
   ·rename_i es hg;split at h
    ·rename_i hlt;simp only[Option.some.injEq,Prod.mk.injEq]at h;obtain⟨rfl,rfl⟩:=h;refine oe (by rw[hx];simp[fj]) (by rw[hx];simp[fj]) (by rw[hx];exact gX (wf _ _ hg)) fun H2 h2=>?_;have hg2:H2.get id=some (.mp es):=(by rw[h2 id (by rw[hx];simp[fj])];exact hg);simp only[ao,qI,hx,hs,hu,hg2];rw[Vh hlt]
    ·cases h
   ·cases h
  ·cases h
 |alloc e =>
  simp only[ao,Vk,Ve,Prod.mk.injEq]at h;obtain⟨z,hz,H3,hl,rfl,rfl⟩:=h;refine qT hl (by simp[cC]) cZ fun H2 _ H2' hl2=>?_;simp only[ao,hz,hl2,Option.bind_some,Option.map_some]
 |box e x =>
  simp only[ao,Ve,Prod.mk.injEq]at h;obtain⟨H3,hl,rfl,rfl⟩:=h;refine qT hl (by simp[cC]) cZ fun H2 _ H2' hl2=>?_;simp only[ao,hl2,Option.map_some]
 |buildSlice t len parts =>
  simp only[ao,nU]at h;split at h
  ·rename_i e he;split at h
   ·rename_i hc;simp only[Vk,Ve,Prod.mk.injEq]at h;obtain⟨z,hz,cells,hcl,H3,hl,rfl,rfl⟩:=h;refine qT hl (by simp[cC]) cZ fun H2 _ H2' hl2=>?_;simp only[ao,nU,he];rw[Vh hc];simp only[hz,hcl,hl2,Option.bind_some,Option.map_some]
   ·cases h
  ·cases h
 |makeSlice t l c =>
  simp only[ao,mH]at h;split at h
  ·rename_i e k l' k' c' he hl' hc';split at h
   ·rename_i hc;simp only[Vk,Ve,Prod.mk.injEq]at h;obtain⟨cells,hz,H3,hl,rfl,rfl⟩:=h;refine qT hl (by simp[cC]) cZ fun H2 _ H2' hl2=>?_;simp only[ao,mH,he,hl',hc'];rw[Vh hc];simp only[hz,hl2,Option.bind_some,Option.map_some]
   ·cases h
  ·cases h
 |store t a x =>
  simp only[ao]at h;split at h
  ·rename_i hu;simp only[Ve,Prod.mk.injEq]at h;obtain⟨H3,hst,rfl,rfl⟩:=h;obtain⟨id,gen,off,g,e,cells,ha,hg,cells',rfl,hall⟩:=Ir hst;have hfp:cC P G ρ H.A (.store t a x)=⟨[id],[id]⟩:=(by simp only[cC,ha,aR]);rw[hfp];refine oe ZG ZG (gX (wf _ _ hg)) fun H2 h2=>?_;simp only[ao,hu,if_true,hall H2 (h2 id ZG),Option.map_some]
  ·cases h
 |load t p =>
  simp only[ao,Ve,Prod.mk.injEq]at h;obtain⟨v',hv,rfl,rfl⟩:=h;refine dI (Iq wf hv) fun H2 h2=>?_;simp only[ao,Ip h2,hv,Option.map_some]
 |nilCheck p =>
  simp only[ao,Ve,Prod.mk.injEq]at h;obtain⟨v',hv,rfl,rfl⟩:=h;have hv0:=hv;unfold lW at hv;split at hv
  ·rename_i id gen off hp;simp only[Ve]at hv;obtain⟨ec,hl,hv⟩:=hv;have hfp:cC P G ρ H.A (.nilCheck p)=⟨[],[id]⟩:=(by simp only[cC,hp,aR]);rw[hfp];refine dI (gX (kT wf hl)) fun H2 h2=>?_;subst hv;simp only[ao,hp,lW,kU (h2 id ZG),hl,Option.map_some]
  ·rename_i hp;have hfp:cC P G ρ H.A (.nilCheck p)=⟨[],[]⟩:=(by simp only[cC,hp,aR]);rw[hfp];refine dI cZ fun H2 _=>?_;simp only[ao,hp,lW,Option.map_some,Option.some.injEq]at hv ⊢;rw[hv]
  ·rename_i hp;have hfp:cC P G ρ H.A (.nilCheck p)=⟨[],[]⟩:=(by simp only[cC,hp,aR]);rw[hfp];refine dI cZ fun H2 _=>?_;simp only[ao,hp,lW,Option.map_some,Option.some.injEq]at hv ⊢;rw[hv]
  ·cases hv
 |slice t x lo hi mx =>
  simp only[ao]at h;split at h
  ·simp only[Ve,Prod.mk.injEq]at h;obtain⟨v',hv,rfl,rfl⟩:=h;obtain⟨h1,h2⟩:=It wf hv;refine dI h1 fun H2 h3=>?_;simp only[ao,h2 H2 h3,Option.map_some]
  ·cases h
 |indexAddr t x i =>
  simp only[ao]at h;split at h
  ·rename_i k i' hi;simp only[Ve,Prod.mk.injEq]at h;obtain⟨v',hv,rfl,rfl⟩:=h;obtain⟨h1,h2⟩:=Is wf hv;refine dI h1 fun H2 h3=>?_;simp only[ao,hi,h2 H2 h3,Option.map_some]
  ·cases h
 |fieldAddr s x f =>
  simp only[ao,Vk]at h;obtain⟨of,hof,h⟩:=h;split at h
  ·rename_i id gen off hx;simp only[Ve,Prod.mk.injEq]at h;obtain⟨ec,hl,rfl,rfl⟩:=h;have hfp:cC P G ρ H.A (.fieldAddr s x f)=⟨[],[id]⟩:=(by simp only[cC,hx,aR]);rw[hfp];refine dI (gX (kT wf hl)) fun H2 h2=>?_;simp only[ao,hof,Option.bind_some,hx,kU (h2 id ZG),hl,Option.map_some]
  ·rename_i cells off hx;simp only[Option.some.injEq,Prod.mk.injEq]at h;obtain⟨rfl,rfl⟩:=h;have hfp:cC P G ρ H.A (.fieldAddr s x f)=⟨[],[]⟩:=(by simp only[cC,hx,aR]);rw[hfp];refine dI cZ fun H2 _=>?_;simp only[ao,hof,Option.bind_some,hx]
  ·cases h
 |call c =>
  have h0:=h;simp only[ao]at h;split at h
  ·rename_i b hb;unfold gT at h;split at h
   ·rename_i t x hats hargs;simp only[Ve,Prod.mk.injEq]at h;obtain⟨v',hv,rfl,rfl⟩:=h;obtain⟨h1,h2⟩:=Iu wf hv;have hfp:cC P G ρ H.A (.call c)=⟨[],mP P t x⟩:=(by simp only[cC,hb,hats,hargs,kS]);rw[hfp];refine dI h1 fun H2 h3=>?_;simp only[ao,hb,hats,hargs,gT,h2 H2 h3,Option.map_some]
   ·rename_i hats hargs;exact Iv wf hb hats hargs h
   ·rename_i hats hargs;exact Iw wf hb hats hargs h
   ·rename_i hats hargs;exact Ix wf hb hats hargs h
   ·rename_i hats;simp only[Vk,Ve,Prod.mk.injEq]at h;obtain⟨vs,h1,v',h2,rfl,rfl⟩:=h;have hfp:cC P G ρ H.A (.call c)=⟨[],[]⟩:=(by simp only[cC,hb,kS]);rw[hfp];refine dI cZ fun H2 _=>?_;simp only[ao,hb,gT,h1,h2,Option.bind_some,Option.map_some]
   ·rename_i hats;simp only[Vk,Ve,Prod.mk.injEq]at h;obtain⟨vs,h1,v',h2,rfl,rfl⟩:=h;have hfp:cC P G ρ H.A (.call c)=⟨[],[]⟩:=(by simp only[cC,hb,kS]);rw[hfp];refine dI cZ fun H2 _=>?_;simp only[ao,hb,gT,h1,h2,Option.bind_some,Option.map_some]
   ·cases h
  ·cases h
 |pick c a b =>
  simp only[ao]at h;split at h
  ·rename_i t ht;simp only[Option.some.injEq,Prod.mk.injEq]at h;obtain⟨rfl,rfl⟩:=h;refine dI cZ fun H2 _=>?_;simp only[ao,ht]
  ·cases h
 |makeFunc fn f c =>
  simp only[ao]at h;split at h
  ·simp only[Option.some.injEq,Prod.mk.injEq]at h;obtain⟨rfl,rfl⟩:=h;exact dI cZ fun H2 _=>by simp only[ao]
  ·cases h
 |makeInterface t x =>
  simp only[ao]at h;split at h
  ·rename_i y hy;simp only[Ve,Prod.mk.injEq]at h;obtain⟨v',hv,rfl,rfl⟩:=h;refine dI cZ fun H2 _=>?_;simp only[ao,hy,hv,Option.map_some]
  ·cases h
 |field s x f =>
  simp only[ao,Vk]at h;obtain⟨of,hof,h⟩:=h;split at h
  ·rename_i hx;simp only[Ve,Prod.mk.injEq]at h;obtain⟨v',hv,rfl,rfl⟩:=h;refine dI cZ fun H2 _=>?_;simp only[ao,hof,Option.bind_some,hx,hv,Option.map_some]
  ·rename_i hx;simp only[Ve,Prod.mk.injEq]at h;obtain⟨v',hv,rfl,rfl⟩:=h;refine dI cZ fun H2 _=>?_;simp only[ao,hof,Option.bind_some,hx,hv,Option.map_some]
  ·cases h
 |move x=>simp only[ao,Option.some.injEq,Prod.mk.injEq]at h;obtain⟨rfl,rfl⟩:=h;exact dI cZ fun H2 _=>by simp only[ao]
 |assign x=>simp only[ao,Option.some.injEq,Prod.mk.injEq]at h;obtain⟨rfl,rfl⟩:=h;exact dI cZ fun H2 _=>by simp only[ao]
 |build t p=>simp only[ao,Ve,Prod.mk.injEq]at h;obtain⟨v',hv,rfl,rfl⟩:=h;exact dI cZ fun H2 _=>by simp only[ao,hv,Option.map_some]
 |binOp a b c d e=>simp only[ao,Ve,Prod.mk.injEq]at h;obtain⟨v',hv,rfl,rfl⟩:=h;exact dI cZ fun H2 _=>by simp only[ao,hv,Option.map_some]
 |unOp a b c=>simp only[ao,Ve,Prod.mk.injEq]at h;obtain⟨v',hv,rfl,rfl⟩:=h;exact dI cZ fun H2 _=>by simp only[ao,hv,Option.map_some]
 |convert a b c =>
  simp only[ao,Ve,Prod.mk.injEq]at h;obtain⟨v',hv,rfl,rfl⟩:=h;obtain⟨h1,h2⟩:=Iy wf hv;refine dI h1 fun H2 ha=>?_;simp only[ao,h2 H2 ha,Option.map_some]
 |index a b c=>simp only[ao,Ve,Prod.mk.injEq]at h;obtain⟨v',hv,rfl,rfl⟩:=h;exact dI cZ fun H2 _=>by simp only[ao,hv,Option.map_some]
 |extract a b=>simp only[ao,Ve,Prod.mk.injEq]at h;obtain⟨v',hv,rfl,rfl⟩:=h;exact dI cZ fun H2 _=>by simp only[ao,hv,Option.map_some]
 |_=>simp[ao]at h
def B8 {ρ':Env}(h:∀x,x∈o.operands->ar G ρ x=ar G ρ' x):ao P G ρ H id o=ao P G ρ' H id o:=by
 have hparts:∀(ps:Array (Nat × Operand)),(∀x,x∈(ps.toList.map (·.2)).toArray->ar G ρ x=ar G ρ' x)->ps.toList.map (fun p=>(p.1,ar G ρ p.2))=ps.toList.map (fun p=>(p.1,ar G ρ' p.2)):=by
  intro ps hp;refine VI fun p hpm=>?_;rw[hp p.2 (by simpa using ⟨p.1,by simpa using hpm⟩)]
 have hlist:∀(ps:Array Operand),(∀x,x∈ps->ar G ρ x=ar G ρ' x)->ps.toList.map (ar G ρ)=ps.toList.map (ar G ρ'):=by
  intro ps hp;exact VI fun p hpm=>hp p (by simpa using hpm)
 cases o with
 |build t ps=>simp only[ao];rw[hparts ps h]
 |buildSlice t len ps=>simp only[ao];rw[hparts ps h]
 |makeFunc fn f c =>
  simp only[ao];rw[hlist f fun x hx=>h x (by simp[Op.operands,hx]),hlist c fun x hx=>h x (by simp[Op.operands,hx])]
 |slice t x lo hi mx =>
  have hx:=h x (by simp[Op.operands]);have hlo:lo.map (ar G ρ)=lo.map (ar G ρ'):=by
   cases lo with
   |none=>rfl
   |some l=>simp only[Option.map_some];rw[h l (by simp[Op.operands])]
  have hhi:hi.map (ar G ρ)=hi.map (ar G ρ'):=by
   cases hi with
   |none=>rfl
   |some l=>simp only[Option.map_some];rw[h l (by simp[Op.operands])]
  simp only[ao,hx,hlo,hhi]
 |call c =>
  simp only[ao];rw[hlist c.args fun x hx=>h x (by
   simp only[Op.operands,Call.operands];split<;>simp[hx])]
 |pick c a b=>simp only[ao,h c (by simp[Op.operands]),h a (by simp[Op.operands]),h b (by simp[Op.operands])]
 |store t a x=>simp only[ao,h a (by simp[Op.operands]),h x (by simp[Op.operands])]
 |binOp op t x y u=>simp only[ao,h x (by simp[Op.operands]),h y (by simp[Op.operands])]
 |makeSlice t l c=>simp only[ao,h l (by simp[Op.operands]),h c (by simp[Op.operands])]
 |indexAddr t x i=>simp only[ao,h x (by simp[Op.operands]),h i (by simp[Op.operands])]
 |index t x i=>simp only[ao,h x (by simp[Op.operands]),h i (by simp[Op.operands])]
 |move x=>simp only[ao,h x (by simp[Op.operands])]
 |assign x=>simp only[ao,h x (by simp[Op.operands])]
 |box e x=>simp only[ao,h x (by simp[Op.operands])]
 |load e x=>simp only[ao,h x (by simp[Op.operands])]
 |nilCheck x=>simp only[ao,h x (by simp[Op.operands])]
 |unOp a b x=>simp only[ao,h x (by simp[Op.operands])]
 |convert a b x=>simp only[ao,h x (by simp[Op.operands])]
 |makeInterface t x=>simp only[ao,h x (by simp[Op.operands])]
 |fieldAddr s x f=>simp only[ao,h x (by simp[Op.operands])]
 |field s x f=>simp only[ao,h x (by simp[Op.operands])]
 |extract x i=>simp only[ao,h x (by simp[Op.operands])]
 |lookup t x i ok=>simp only[ao,h x (by simp[Op.operands]),h i (by simp[Op.operands])]
 |mapUpdate t m k x=>simp only[ao,h m (by simp[Op.operands]),h k (by simp[Op.operands]),h x (by simp[Op.operands])]
 |insert t m k x=>simp only[ao,h m (by simp[Op.operands]),h k (by simp[Op.operands]),h x (by simp[Op.operands])]
 |mapEntry t m k=>simp only[ao,h m (by simp[Op.operands]),h k (by simp[Op.operands])]
 |entryStore t m s x=>simp only[ao,h m (by simp[Op.operands]),h s (by simp[Op.operands]),h x (by simp[Op.operands])]
 |_=>rfl
end Go.Hx
namespace Go.Hx
variable {P:Program} {G:Nat->Option (List ZL)} {Γ Γ':aD} {H H':ZK} {w w':World}
variable {ρ:Env}{r:Nat}{g:Nat->Option ZR}{e:Option (Nat × ZR)}{x:Option Tmp}{t:Tmp}{v:ZL}
def aY (P:Program)(G:Nat->Option (List ZL))(fv:ZL)(args:List ZL)(H:ZK)(v:ZL)(rs:List Nat):Prop :=
 (∀r,r∈rs->r<H.A)/\∀H2:ZK,(∀r,r∈rs->H2.get r=H.get r)->H.A<=H2.A->ak P G fv args H2 fun r H3=>r=.ret v/\H3=H2
def bE (P:Program)(G:Nat->Option (List ZL))(o:Oper)(K:FP->St->Prop)(s:St):Prop :=
 match o.op with
 |.call { callee:=.value fv,args,.. }=>∃v rs,aY P G (ar G s.ρ fv) (args.toList.map (ar G s.ρ)) s.H v rs/\K ⟨[],rs⟩ ⟨aH s.ρ o.dst v,s.H⟩
 |op=>bj (ao P G s.ρ s.H s.H.A op) fun vH=>K (cC P G s.ρ s.H.A op) ⟨aH s.ρ o.dst vH.1,vH.2⟩
def fK (i:Nat)(f:FP)(acc:List (Nat × FP)):List (Nat × FP) :=
 match f with
 |⟨[],[]⟩=>acc
 |f=>(i,f) :: acc
def jt (b:Nat)(f:FP)(acc:List (Nat × FP)):Prop :=
 ∀p,p∈acc->b.testBit p.1=false->(∀r,r∈f.nC->r ∉ p.2.rs)/\(∀r,r∈p.2.nC->r ∉ f.rs)
def dW (P:Program)(G:Nat->Option (List ZL))(all:Array Oper)(tail:St->Prop):List Nat->Nat->List (Nat × FP)->List Oper->St->Prop
 |b :: bs,i,acc,o :: rest,s=>bj (gU all s.ρ o) fun t=>if t=true then bE P G o (fun f s'=>jt b f acc/\dW P G all tail bs (i+1) (fK i f acc) rest s') s
   else dW P G all tail bs (i+1) acc rest ⟨aH s.ρ o.dst (.lit undef),s.H⟩
 |_,_,_,[],s=>tail s
 | [],_,_,_ :: _,_=>False
def yz (o:Oper):List Nat:=(o.after.toList.filter fun e=>Region.binds .any e).map (·.on)
def uL (x:Option Tmp)(l:List Tmp):Bool:=match x with|some d=>!l.contains d|none=>true
def uM (all:Array Oper)(x y:Oper):Bool :=
 uL x.dst (y.looksAt all) && uL y.dst (x.looksAt all) && (match x.dst with|some d=>y.dst != some d|none=>true)
def eJ (bs:List Nat)(i:Nat):Nat:=(bs[i]?).getD 0
def yA (bs:List Nat)(i:Nat)(o:Oper):Bool :=
 let es:=yz o
 let b:=eJ bs i
 es.all (fun e=>decide (e<i)) && decide (b<2 ^ i) &&
 (List.range i).all (fun j=>!b.testBit j ||es.any fun e=>e == j ||(eJ bs e).testBit j)
def sV (all:Array Oper)(bs:List Nat)(K:Nat):Bool :=
 decide (bs.length=K) && decide (K<=all.size) &&
 (List.range all.size).all (fun i=>match all[i]? with|some o=>yA (bs++(List.range' K (all.size-K)).map fun m=>2 ^ m-1) i o|none=>false) &&
 (List.range K).all fun i=>match all[i]? with
  |some o=>(List.range i).all fun j=>(eJ bs i).testBit j ||(match all[j]? with|some o'=>uM all o' o|none=>false)
  |none=>false
structure Dt where
 v:ZL
 e:Option (Nat × ZR)
 al:Bool
 f:FP
def gY (all:Array Oper)(i:Nat):Option Tmp:=(all[i]?).bind (·.dst)
def bq (all:Array Oper)(d:Nat->Dt)(ρ0:Env):Nat->(Nat->Bool)->Env
 |0,_=>ρ0
 |n+1,D=>if D n then aH (bq all d ρ0 n D) (gY all n) (d n).v else bq all d ρ0 n D
def aV (d:Nat->Dt)(g0:Nat->Option ZR):Nat->(Nat->Bool)->Nat->Option ZR
 |0,_=>g0
 |n+1,D=>if D n then fk (d n).e (aV d g0 n D) else aV d g0 n D
def aM (d:Nat->Dt):Nat->Nat
 |0=>0
 |n+1=>aM d n+(if (d n).al then 1 else 0)
def dY (x:Dt):Option Nat:=x.e.map (·.1)
def qU (h:e.map (·.1)≠some r):fk e g r=g r:=by
 cases e with
 |none=>rfl
 |some kb =>
  simp only[fk];rw[Vg];rintro rfl;exact h rfl
def qW (h:x≠some t):aH ρ x v t=ρ t:=by
 cases x with
 |none=>rfl
 |some d =>
  simp only[aH];rw[Vg];rintro rfl;exact h rfl
def uN {ρ':Env}(h:ρ t=ρ' t):aH ρ x v t=aH ρ' x v t:=by
 cases x with
 |none=>exact h
 |some d=>simp only[aH,h]
def uO {g':Nat->Option ZR}(h:g r=g' r):fk e g r=fk e g' r:=by
 cases e with
 |none=>exact h
 |some kb=>simp only[fk,h]
def B9 {y:Option Tmp}{u:ZL}(h:∀d,x=some d->y≠some d):aH (aH ρ x v) y u=aH (aH ρ y u) x v:=by
 funext t
 by_cases hx:x=some t
 ·rw[qW (h t hx)];exact uN (qW (h t hx)).symm
 ·rw[qW (ρ:=aH ρ y u) hx];exact uN (qW hx)
def Iz {e':Option (Nat × ZR)}(h:∀r,e.map (·.1)=some r->e'.map (·.1)≠some r):fk e' (fk e g)=fk e (fk e' g):=by
 funext r
 by_cases hx:e.map (·.1)=some r
 ·rw[qU (h r hx)];exact uO (qU (h r hx)).symm
 ·rw[qU (g:=fk e' g) hx];exact uO (qU hx)
section
variable {all:Array Oper} {d d':Nat->Dt} {ρ0:Env} {g0 g0':Nat->Option ZR} {D D':Nat->Bool}
def pt {t:Tmp}:∀ {n:Nat},(∀j,j<n->gY all j=some t->D j=D' j)->bq all d ρ0 n D t=bq all d ρ0 n D' t:=by
 intro n
 induction n with
 |zero=>intro _;rfl
 |succ n ih =>
  intro h;have h0:=ih fun j hj=>h j V;simp only[bq];by_cases hd:gY all n=some t
  ·rw[h n V hd];split
   ·exact uN h0
   ·exact h0
  ·have:∀(b:Bool) (ρ:Env),(if b=true then aH ρ (gY all n) (d n).v else ρ) t=ρ t:=by
    intro b ρ;split
    ·exact qW hd
    ·rfl
   rw[this,this];exact h0
def xT {m:Nat}:∀ {n:Nat},m<=n->bq all d ρ0 n (fun j=>decide (j<m))=bq all d ρ0 m fun _=>true:=by
 have low:∀k,k<=m->bq all d ρ0 k (fun j=>decide (j<m))=bq all d ρ0 k fun _=>true:=by
  intro k
  induction k with
  |zero=>intro _;rfl
  |succ k ih =>
   intro hk;simp only[bq];rw[ih V,Vh (by simp;omega)];simp
 intro n
 induction n with
 |zero =>
  intro hm;obtain rfl:m=0:=V
  exact low 0 (V)
 |succ n ih =>
  intro hm;by_cases h:m=n+1
  ·subst h;exact low (n+1) (V)
  ·simp only[bq];rw[Vg (by simp;omega)];exact ih (V)
def px {r:Nat}:∀ {n:Nat},(∀j,j<n->dY (d j)=some r->D j=D' j)->aV d g0 n D r=aV d g0 n D' r:=by
 intro n
 induction n with
 |zero=>intro _;rfl
 |succ n ih =>
  intro h;have h0:=ih fun j hj=>h j V;simp only[aV];by_cases hd:dY (d n)=some r
  ·rw[h n V hd];split
   ·exact uO h0
   ·exact h0
  ·have:∀(b:Bool) (g:Nat->Option ZR),(if b=true then fk (d n).e g else g) r=g r:=by
    intro b g;split
    ·exact qU hd
    ·rfl
   rw[this,this];exact h0
def xU {m:Nat}:∀ {n:Nat},m<=n->aV d g0 n (fun j=>decide (j<m))=aV d g0 m fun _=>true:=by
 have low:∀k,k<=m->aV d g0 k (fun j=>decide (j<m))=aV d g0 k fun _=>true:=by
  intro k
  induction k with
  |zero=>intro _;rfl
  |succ k ih =>
   intro hk;simp only[aV];rw[ih V,Vh (by simp;omega)];simp
 intro n
 induction n with
 |zero =>
  intro hm;obtain rfl:m=0:=V
  exact low 0 (V)
 |succ n ih =>
  intro hm;by_cases h:m=n+1
  ·subst h;exact low (n+1) (V)
  ·simp only[aV];rw[Vg (by simp;omega)];exact ih (V)
def sH {r:Nat}:∀ {n:Nat},(g0 r=g0' r\/∃j,j<n/\D j=true/\dY (d j)=some r)->aV d g0 n D r=aV d g0' n D r:=by
 intro n
 induction n with
 |zero =>
  rintro(h|⟨j,hj,_⟩)
  ·exact h
  ·omega
 |succ n ih =>
  intro h;simp only[aV];by_cases hD:D n=true
  ·rw[Vh hD,Vh hD];by_cases ht:dY (d n)=some r
   ·cases he:(d n).e with
    |none=>simp[dY,he]at ht
    |some kb =>
     simp only[dY,he,Option.map_some,Option.some.injEq]at ht;simp only[fk];rw[Vh ht.symm,Vh ht.symm]
   ·refine uO (ih ?_);rcases h with h|⟨j,hj,h1,h2⟩
    ·exact .inl h
    ·by_cases hjn:j=n
     ·subst hjn;exact absurd h2 ht
     ·exact .inr ⟨j,V,h1,h2⟩
  ·rw[Vg hD,Vg hD];refine ih ?_;rcases h with h|⟨j,hj,h1,h2⟩
   ·exact .inl h
   ·by_cases hjn:j=n
    ·subst hjn;exact absurd h1 hD
    ·exact .inr ⟨j,V,h1,h2⟩
def xV {r:Nat}:∀ {n:Nat},(∀j,j<n->D j=true->dY (d j)≠some r)->aV d g0 n D r=g0 r:=by
 intro n
 induction n with
 |zero=>intro _;rfl
 |succ n ih =>
  intro h;simp only[aV];split
  ·rename_i hD;rw[qU (h n V hD)];exact ih fun j hj=>h j (V)
  ·exact ih fun j hj=>h j (V)
def bV (D:Nat->Bool)(i:Nat):Nat->Bool:=fun j=>if j=i then true else D j
def xW {i:Nat}(hD:D i=false):∀ {n:Nat},i<n->(∀j,i<j->j<n->D j=true->∀t,gY all i=some t->gY all j≠some t) ->
  bq all d ρ0 n (bV D i)=aH (bq all d ρ0 n D) (gY all i) (d i).v:=by
 intro n
 induction n with
 |zero=>intro h;omega
 |succ n ih =>
  intro hi h;by_cases hin:i=n
  ·subst hin;have h0:bq all d ρ0 i (bV D i)=bq all d ρ0 i D:=funext fun t=>pt fun j hj _=>by simp[bV,Yn hj]
   simp only[bq];rw[Vh (by simp[bV]),Vg (by simp[hD]),h0]
  ·have hw:bV D i n=D n:=(by simp[bV,Ne.symm hin]);have h0:=ih V fun j h1 h2=>h j h1 V;simp only[bq,hw];split
   ·rename_i hDn;rw[h0];exact B9 (h n V V hDn)
   ·exact h0
def xX {i:Nat}(hD:D i=false):∀ {n:Nat},i<n->(∀j,i<j->j<n->D j=true->∀t,dY (d i)=some t->dY (d j)≠some t) ->
  aV d g0 n (bV D i)=fk (d i).e (aV d g0 n D):=by
 intro n
 induction n with
 |zero=>intro h;omega
 |succ n ih =>
  intro hi h;by_cases hin:i=n
  ·subst hin;have h0:aV d g0 i (bV D i)=aV d g0 i D:=funext fun t=>px fun j hj _=>by simp[bV,Yn hj]
   simp only[aV];rw[Vh (by simp[bV]),Vg (by simp[hD]),h0]
  ·have hw:bV D i n=D n:=(by simp[bV,Ne.symm hin]);have h0:=ih V fun j h1 h2=>h j h1 V;simp only[aV,hw];split
   ·rename_i hDn;rw[h0];exact Iz (h n V V hDn)
   ·exact h0
def qO {m n:Nat}(h:m<=n):aM d m<=aM d n:=by
 induction n with
 |zero =>
  have:m=0:=V
  subst this;exact Nat.le_refl _
 |succ n ih =>
  by_cases hm:m=n+1
  ·subst hm;exact Nat.le_refl _
  ·exact VM (ih V) (by simp[aM])
def sI {n c:Nat}(h:c<aM d n):∃j,j<n/\(d j).al=true/\aM d j=c:=by
 induction n with
 |zero=>simp[aM]at h
 |succ n ih =>
  by_cases hc:c<aM d n
  ·obtain⟨j,h1,h2⟩:=ih hc;exact⟨j,V,h2⟩
  ·simp only[aM]at h;cases hal:(d n).al with
   |false=>simp[hal]at h;omega
   |true =>
    simp only[hal,if_true]at h;exact⟨n,V,hal,V⟩
def lX {i n:Nat}(h:i<n)(hal:(d i).al=true):aM d i<aM d n:=by
 have:=qO (d:=d) (m:=i+1) (n:=n) h;simp only[aM,hal,if_true]at this;omega
def sJ {n:Nat}(h:∀j,j<n->d j=d' j):bq all d ρ0 n D=bq all d' ρ0 n D:=by
 induction n with
 |zero=>rfl
 |succ n ih=>simp only[bq];rw[ih fun j hj=>h j V,h n V]
def sK {n:Nat}(h:∀j,j<n->d j=d' j):aV d g0 n D=aV d' g0 n D:=by
 induction n with
 |zero=>rfl
 |succ n ih=>simp only[aV];rw[ih fun j hj=>h j V,h n V]
def fS {n:Nat}(h:∀j,j<n->d j=d' j):aM d n=aM d' n:=by
 induction n with
 |zero=>rfl
 |succ n ih=>simp only[aM];rw[ih fun j hj=>h j V,h n V]
end
def ExecOk (P:Program)(G:Nat->Option (List ZL))(all:Array Oper)(o:Oper)(id:Nat)(s s':St):Prop :=
 (gU all s.ρ o=some false/\s'=⟨aH s.ρ o.dst (.lit undef),s.H⟩) \/
 (gU all s.ρ o=some true/\∃v,s'.ρ=aH s.ρ o.dst v /\
  (ao P G s.ρ s.H id o.op=some (v,s'.H) \/
   ∃fv args ats,o.op=.call ⟨.value fv,args,ats⟩/\s'.H=s.H/\ak P G (ar G s.ρ fv) (args.toList.map (ar G s.ρ)) s.H fun r H3=>r=.ret v/\H3=s.H))
def xY {n:Nat}{wb:nnc}{rd rb:Option Nat}{all:Array Oper}{o:Oper}{id i:Nat}{s s':St}{a:Act}{A:Act->World->Prop}{Q':Exit->Act->World->Prop}(ho:all[i]?=some o)(hd:eP n o=true)
  (hs:Z1 P G n wb Γ s a w) (hr:dN Γ s.H rd rb) (h:ExecOk P G all o id s s')
  (hnext:∀ Γ' a' w',Z1 P G n wb Γ' s' a' w'->ZV Γ s.H w Γ' s'.H w'->s.H.A<=s'.H.A->dN Γ' s'.H rd rb->(∃cv,a'=a.put o.dst cv)->A a' w'):
  wpOpIn (dZ rb) 0 P all Q' i A a w:=by
 have hdst:∀d,o.dst=some d->d<n:=by
  intro d hd';unfold eP at hd;rw[hd']at hd;simpa using hd
 unfold wpOpIn;rw[ho];simp only;rcases h with ⟨hw,rfl⟩|⟨hw,v,hρ,h⟩
 ·rw[pC hs hw];simp only[Bool.false_eq_true,if_false];refine⟨fun _ _=>trivial,?_⟩;have hs':=ja (v:=.lit undef) (cv:=undef) hs hdst (ZV.refl Γ s.H w) ZJ hs.heap (.lit _);exact hnext Γ _ w hs' (ZV.refl _ _ _) ZJ hr ⟨_,rfl⟩
 ·rw[pC hs hw];simp only[if_true];obtain⟨ρ',H'⟩:=s';simp only at hρ;subst hρ;refine⟨fun _ _=>trivial,?_⟩;rcases h with hop|⟨fv,args,ats,hop,hH,hap⟩
  ·simp only at hop;rw[Oper.semAt_eq _ _ _ (fun c hc=>by rw[hc]at hop;simp[ao]at hop)];obtain⟨nx,cv,Γ',w',hrun,hnx,E,hn,R,hv⟩:=yo hs.heap (jr hs) hop;rw[hrun];have hri:=yr hr (yt hs.heap hop);have hs':=ja hs hdst E hn R hv;have hr':=hr.ba E hn hs.heap hri;rcases hnx with rfl|⟨rfl,rfl⟩
   ·exact hnext Γ' _ w' hs' E hn hr' ⟨_,rfl⟩
   ·exact hnext Γ' _ w' hs' E hn hr' ⟨_,rfl⟩
  ·simp only at hH;subst hH;rw[Oper.semAt_eq _ _ _ (fun c hc=>by rw[hc]at hop;cases hop)];obtain⟨d,h1,h2⟩:=hap Γ w (a.eval fv) (args.map a.eval) hs.heap (jr hs fv) ⟨ZG,fun i h1 h2=>by simp only[Vw,XO,Wm];exact jr hs _⟩;have hex:(execOp a.eval o).run P w=(invoke d.target d.args).run P w:=by
    unfold execOp;simp only[hop];unfold resolve;simp only;rw[aq h1]
   have hri:fI s.H rd:=by
    cases rd with
    |none=>trivial
    |some id =>
     obtain⟨b,st,pend,n,env,ps,asg,body,_,_,h3⟩:=hr;exact⟨_,_,_,_,_,_,_,h3⟩
   have cont:∀e w',fJ P G Γ s.H w (fun r H3=>r=.ret v/\H3=s.H) e w'->(match e with
     |.returned v=>A (a.put o.dst v) w'
     |.panicked chain=>Q' (.panic chain) a w'
     |.outgrown=>LetsOut Q'):=by
    rintro e w' ⟨r,H',Γ',hend,⟨rfl,rfl⟩,R,E,hn⟩;have hr':=hr.ba E hn hs.heap hri;cases e with
    |returned cv=>exact hnext Γ' _ w' (ja hs hdst E hn R hend) E hn hr' ⟨_,rfl⟩
    |panicked chain=>exact hend.elim
    |outgrown=>exact hend.elim
   rw[hex];rcases h2 with ⟨f,as,h3,h4⟩|⟨l,f,tm,asg,body,h3,h4⟩|⟨cv,w',h3,h4⟩
   ·rw[h3];refine⟨fun hc=>by simp[Fence.wide]at hc,?_⟩;have h4':CallsIn (dZ rb) 0 P f as w _:=h4;refine h4'.mono ?_;intro e w' hp;have:=cont e w' hp;cases e<;>exact this
   ·rw[h3];refine⟨fun hc=>by simp[Fence.wide]at hc,?_⟩;have h4':RoundIn (dZ rb) 0 P l f tm asg body w _:=h4;refine h4'.mono ?_;intro e w' hp;have:=cont e w' hp;cases e<;>exact this
   ·rw[h3];exact cont (.returned cv) w' h4
def mI (d:Nat->Dt)(H0:ZK)(m:Nat):ZK:=⟨aV d H0.get m fun _=>true,H0.A+aM d m⟩
def canon (all:Array Oper)(d:Nat->Dt)(s0:St)(m:Nat):St:=⟨bq all d s0.ρ m fun _=>true,mI d s0.H m⟩
structure ZZ (P:Program)(G:Nat->Option (List ZL))(all:Array Oper)(bs:List Nat)(s0:St)(d:Nat->Dt)(i:Nat):Prop where
 step:∀o,all[i]?=some o->∀ ρ2 H2,(∀t,t∈o.looksAt all->ρ2 t=(canon all d s0 i).ρ t)->(∀r,r∈(d i).f.rs->H2.get r=(canon all d s0 i).H.get r) ->
  ((d i).al=true->H2.get (s0.H.A+aM d i)=some .nq/\s0.H.A+aM d i≠H2.A)->s0.H.A+aM d i<=H2.A ->
  ExecOk P G all o (s0.H.A+aM d i) ⟨ρ2,H2⟩ ⟨aH ρ2 o.dst (d i).v,⟨fk (d i).e H2.get,H2.A⟩⟩
 nC:∀k b,(d i).e=some (k,b)->k∈(d i).f.nC/\((d i).al=false->k∈(d i).f.rs)
 al:(d i).al=true->∃b,(d i).e=some (s0.H.A+aM d i,b)
 lt:∀r,r∈(d i).f.rs->r<s0.H.A+aM d i
 apart:∀j,j<i->(eJ bs i).testBit j=false->(∀r,r∈(d i).f.nC->r ∉ (d j).f.rs)/\(∀r,r∈(d j).f.nC->r ∉ (d i).f.rs)
def qX {all:Array Oper}{o:Oper}{ρ ρ':Env}(h:∀t,t∈o.looksAt all->ρ' t=ρ t):gU all ρ' o=gU all ρ o:=by
 unfold gU;cases hg:o.guard with
 |none=>rfl
 |some gw =>
  obtain⟨j,want⟩:=gw;simp only;cases hd:(all[j]?).bind (·.dst) with
  |none=>rfl
  |some d =>
   simp only;rw[h d (by simp[Oper.looksAt,hg,hd])]
def uP {all:Array Oper}{o:Oper}{ρ ρ':Env}(h:∀t,t∈o.looksAt all->ρ' t=ρ t):∀x,x∈o.op.operands->ar G ρ' x=ar G ρ x:=by
 intro x hx;cases x with
 |tmp t=>exact h t (Yc _ (List.mem_filterMap.2 ⟨.tmp t,by simpa using hx,rfl⟩))
 |_=>rfl
def cB (d:Nat->Dt)(m:Nat)(x:Dt):Nat->Dt:=fun j=>if j=m then x else d j
def iw {d:Nat->Dt}{m:Nat}{x:Dt}{i:Nat}(h:i<m):d i=cB d m x i:=by simp[cB,Yn h]
def de {d:Nat->Dt}{m:Nat}{x:Dt}:cB d m x m=x:=by simp[cB]
def mJ {all:Array Oper}{d d':Nat->Dt}{s0:St}{m:Nat}(h:∀j,j<m->d j=d' j):canon all d s0 m=canon all d' s0 m:=by
 unfold canon mI;rw[sJ h,sK h,fS h]
def ZZ.below {all:Array Oper}{bs:List Nat}{s0:St}{d d':Nat->Dt}{i:Nat}(g:ZZ P G all bs s0 d i)(h:∀j,j<=i->d j=d' j):ZZ P G all bs s0 d' i:=by
 have hi:=h i ZJ;have hn:aM d i=aM d' i:=fS fun j hj=>h j V;have hc:canon all d s0 i=canon all d' s0 i:=mJ fun j hj=>h j V;obtain⟨a,b,c,e,f⟩:=g;refine⟨?_,?_,?_,?_,?_⟩
 ·rw[<- hi,<- hn,<- hc];exact a
 ·rw[<- hi];exact b
 ·rw[<- hi,<- hn];exact c
 ·rw[<- hi,<- hn];exact e
 ·intro j hj hb;rw[<- hi,<- h j V];exact f j hj hb
def kP (d:Nat->Dt)(m:Nat)(acc:List (Nat × FP)):Prop:=∀j,j<m->(d j).f=⟨[],[]⟩\/(j,(d j).f)∈acc
def kP.add {d:Nat->Dt}{m:Nat}{acc:List (Nat × FP)}(h:kP d m acc)(x:Dt):kP (cB d m x) (m+1) (fK m x.f acc):=by
 intro j hj;have key:∀p,p∈acc->p∈fK m x.f acc:=by
  intro p hp;unfold fK;split
  ·exact hp
  ·exact Xl _ hp
 by_cases hjm:j=m
 ·subst hjm;rw[de];by_cases hf:x.f=⟨[],[]⟩
  ·exact .inl hf
  ·refine .inr ?_;unfold fK;split
   ·rename_i h0;exact absurd h0 hf
   ·exact List.mem_cons_self
 ·rw[<- iw (x:=x) V];exact(h j V).imp id (key _)
def sL {d:Nat->Dt}{m:Nat}{acc:List (Nat × FP)}{b:Nat}{f:FP}(hc:kP d m acc)(h:jt b f acc):∀j,j<m->b.testBit j=false->(∀r,r∈f.nC->r ∉ (d j).f.rs)/\(∀r,r∈(d j).f.nC->r ∉ f.rs):=by
 intro j hj hb;rcases hc j hj with h0|h1
 ·rw[h0];exact⟨fun r _ h=>(by cases h),fun r h=>(by cases h)⟩
 ·exact h _ h1 hb
def pz {all:Array Oper}{d:Nat->Dt}{s0:St}{m:Nat}{x:Dt}{o:Oper}(ho:all[m]?=some o):
  canon all (cB d m x) s0 (m+1)=⟨aH (canon all d s0 m).ρ o.dst x.v,⟨fk x.e (canon all d s0 m).H.get,(canon all d s0 m).H.A+(if x.al then 1 else 0)⟩⟩:=by
 have hb:∀j,j<m->d j=cB d m x j:=fun j hj=>iw hj;unfold canon mI;simp only[bq,aV,aM,if_true,de];rw[<- sJ hb,<- sK hb,<- fS hb];simp only[gY,ho,Option.bind_some,Xg]
def pA {all:Array Oper}{bs:List Nat}{s0:St}{d:Nat->Dt}{m:Nat}{x:Dt}(hg:∀i,i<m->ZZ P G all bs s0 d i)(hx:ZZ P G all bs s0 (cB d m x) m):
  ∀i,i<m+1->ZZ P G all bs s0 (cB d m x) i:=by
 intro i hi;by_cases him:i=m
 ·subst him;exact hx
 ·exact(hg i V).below fun j hj=>iw (V)
def trace {all:Array Oper}{bs:List Nat}{s0:St}{tail:St->Prop}{K:Nat}(hbs:bs.length=K)(hK:K<=all.size):∀(k m:Nat) (d:Nat->Dt) (acc:List (Nat × FP)),k+m=K ->
  (∀i,i<m->ZZ P G all bs s0 d i)->kP d m acc->gW (canon all d s0 m).H->dW P G all tail (bs.drop m) m acc ((all.toList.take K).drop m) (canon all d s0 m) ->
  ∃d',(∀i,i<K->ZZ P G all bs s0 d' i)/\tail (canon all d' s0 K):=by
 intro k
 induction k with
 |zero =>
  intro m d acc hm hg hc wf h;obtain rfl:m=K:=V
  refine⟨d,hg,?_⟩;have:(all.toList.take m).drop m=[]:=by
   apply YB;simp only[Vv];omega
  rw[this]at h;cases hb:bs.drop m with
  |nil=>rw[hb]at h;simpa only[dW] using h
  |cons b bs'=>rw[hb]at h;simpa only[dW] using h
 |succ k ih =>
  intro m d acc hm hg hc wf h;have hmK:m<K:=V
  have hms:m<all.size:=V
  have ho:all[m]?=some all[m]:=Vq hms;have hbm:bs.drop m=eJ bs m :: bs.drop (m+1):=by
   rw[Wb V];congr 1;simp[eJ,Vf (show m<bs.length by omega)]
  have hom:(all.toList.take K).drop m=all[m] :: (all.toList.take K).drop (m+1):=by
   rw[Wb (by simp only[Vv,Xb];omega)];congr 1;simp
  rw[hbm,hom]at h;simp only[dW]at h;obtain⟨t,ht,h⟩:=h;have hnext:(canon all d s0 m).H.A=s0.H.A+aM d m:=rfl;cases t with
  |false =>
   simp only[Bool.false_eq_true,if_false]at h
   let x:Dt:=⟨.lit undef,none,false,⟨[],[]⟩⟩
   have hb:∀j,j<m->d j=cB d m x j:=fun j hj=>iw hj;have hcan:canon all (cB d m x) s0 (m+1)=⟨aH (canon all d s0 m).ρ all[m].dst (.lit undef),(canon all d s0 m).H⟩:=pz ho;have hgx:ZZ P G all bs s0 (cB d m x) m:=by
    refine⟨?_,?_,?_,?_,?_⟩
    ·rw[de,<- mJ hb];intro o ho' ρ2 H2 h1 h2 h3 _;rw[ho]at ho';cases ho';refine .inl ⟨?_,rfl⟩;simp only;rw[qX h1,ht]
    ·rw[de];intro k b he;cases he
    ·rw[de];intro he;cases he
    ·rw[de];intro r hr;cases hr
    ·rw[de];intro j hj hbit;exact⟨fun r hr=>(by cases hr),fun r hr hr'=>(by cases hr')⟩
   refine ih (m+1) (cB d m x) acc V (pA hg hgx) (hc.add x) ?_ ?_
   ·rw[hcan];exact wf
   ·rw[hcan];exact h
  |true =>
   simp only[if_true]at h;unfold bE at h;split at h
   ·rename_i fv args ats hop;obtain⟨v,rs,⟨hlt,hcall⟩,hap,h⟩:=h
    let x:Dt:=⟨v,none,false,⟨[],rs⟩⟩
    have hb:∀j,j<m->d j=cB d m x j:=fun j hj=>iw hj;have hcan:canon all (cB d m x) s0 (m+1)=⟨aH (canon all d s0 m).ρ all[m].dst v,(canon all d s0 m).H⟩:=pz ho;have hgx:ZZ P G all bs s0 (cB d m x) m:=by
     refine⟨?_,?_,?_,?_,?_⟩
     ·rw[de,<- mJ hb];intro o ho' ρ2 H2 h1 h2 h3 h4;rw[ho]at ho';cases ho';refine .inr ⟨?_,v,rfl,.inr ⟨fv,args,ats,hop,rfl,?_⟩⟩
      ·simp only;rw[qX h1,ht]
      ·have hev:=uP (G:=G) h1;have e1:ar G ρ2 fv=ar G (canon all d s0 m).ρ fv:=hev fv (by simp[hop,Op.operands,Call.operands]);have e2:args.toList.map (ar G ρ2)=args.toList.map (ar G (canon all d s0 m).ρ) :=
        VI fun y hy=>hev y (by simp only[hop,Op.operands,Call.operands];simp;exact .inr (by simpa using hy))
       simp only;rw[e1,e2];exact hcall H2 h2 (by rw[hnext,fS hb];exact h4)
     ·rw[de];intro k b he;cases he
     ·rw[de];intro he;cases he
     ·rw[de,<- fS hb];exact hlt
     ·rw[de];intro j hj hbit;rw[<- iw hj];exact sL hc hap j hj hbit
    refine ih (m+1) (cB d m x) _ V (pA hg hgx) (hc.add x) ?_ ?_
    ·rw[hcan];exact wf
    ·rw[hcan];exact h
   ·obtain⟨⟨v,H'⟩,hop,hap,h⟩:=h;obtain⟨e,al,hget,hnx,heff,hal,hlt,hloc⟩:=B7 wf hop
    let x:Dt:=⟨v,e,al,cC P G (canon all d s0 m).ρ (canon all d s0 m).H.A all[m].op⟩
    have hb:∀j,j<m->d j=cB d m x j:=fun j hj=>iw hj;have hcan:canon all (cB d m x) s0 (m+1)=⟨aH (canon all d s0 m).ρ all[m].dst v,H'⟩:=by
     rw[pz ho];congr 1;cases H';simp only at hget hnx;simp only[ZK.mk.injEq];refine⟨hget.symm,?_⟩;rw[hnx];simp only[x];cases al<;>simp
    have hgx:ZZ P G all bs s0 (cB d m x) m:=by
     refine⟨?_,?_,?_,?_,?_⟩
     ·rw[de,<- mJ hb,<- fS hb];intro o ho' ρ2 H2 h1 h2 h3 h4;rw[ho]at ho';cases ho';refine .inr ⟨?_,v,rfl,.inl ?_⟩
      ·simp only;rw[qX h1,ht]
      ·simp only;rw[B8 (ρ':=(canon all d s0 m).ρ) (uP h1)];exact hloc H2 h2 h3
     ·rw[de];exact heff
     ·rw[de,<- fS hb];exact hal
     ·rw[de,<- fS hb];exact hlt
     ·rw[de];intro j hj hbit;rw[<- iw hj];exact sL hc hap j hj hbit
    have wf':gW H':=by
     intro id b hid;rw[hget]at hid;rw[hnx];cases e with
     |none =>
      have:=wf id b hid;split<;>omega
     |some kb =>
      obtain⟨k0,b0⟩:=kb;simp only[fk]at hid;split at hid
      ·rename_i hk;subst hk;cases al with
       |true =>
        obtain⟨b1,hb1⟩:=hal rfl;simp only[Option.some.injEq,Prod.mk.injEq]at hb1;simp only[if_true];omega
       |false =>
        have:=hlt _ ((heff id b0 rfl).2 rfl);simpa using this
      ·have:=wf id b hid;split<;>omega
    refine ih (m+1) (cB d m x) _ V (pA hg hgx) (hc.add x) ?_ ?_
    ·rw[hcan];exact wf'
    ·rw[hcan];exact h
end Go.Hx
namespace Go.Hx
variable {P:Program} {G:Nat->Option (List ZL)} {Γ Γ':aD} {H H':ZK} {w w':World}
variable {bs:List Nat}{K i j:Nat}{D:Nat->Bool}{d:Nat->Dt}{o:Oper}{s0:St}
structure nng (all:Array Oper)(bs:List Nat)(K:Nat):Prop where
 len:bs.length=K
 le:K<=all.size
 down:∀i o,all[i]?=some o->∀e,e∈o.after->Region.binds .any e=true->e.on<i
 just:∀i o j,all[i]?=some o->(if i<K then (eJ bs i).testBit j=true else j<i)->∃e,e∈o.after/\Region.binds .any e=true/\(e.on=j\/(if e.on<K then (eJ bs e.on).testBit j=true else j<e.on))
 apart:∀i j oi oj,i<K->j<i->all[i]?=some oi->all[j]?=some oj->(eJ bs i).testBit j=false->uM all oj oi=true
def Cd {k:Nat}:k∈yz o↔∃e,e∈o.after/\Region.binds .any e=true/\e.on=k:=by
 simp[yz,and_assoc]
def Ce {N:Nat}(hl:bs.length=K)(hi:i<N)(hK:K<=N):
  (eJ (bs++(List.range' K (N-K)).map fun m=>2 ^ m-1) i).testBit j=true↔(if i<K then (eJ bs i).testBit j=true else j<i):=by
 unfold eJ;by_cases h:i<K
 ·rw[Vh h,Vx V]
 ·rw[Vg h,VS V,List.getElem?_map,List.getElem?_range' V];simp only[Option.map_some,Option.getD_some,WW,decide_eq_true_eq];have:K+1*(i-bs.length)=i:=V
  rw[this]
def Cf {all:Array Oper}(h:sV all bs K=true):nng all bs K:=by
 unfold sV at h;simp only[VL,decide_eq_true_eq,VG,Vs]at h;obtain⟨⟨⟨hlen,hle⟩,hone⟩,hap⟩:=h;have hlt:∀i o,all[i]?=some o->i<all.size:=fun i o ho=>(Wf.1 ho).1;have hdown:∀i o,all[i]?=some o->∀e,e∈o.after->Region.binds .any e=true->e.on<i:=by
  intro i o ho e he hb;have h1:=hone i (hlt i o ho);rw[ho]at h1;simp only[yA,VL,VG,decide_eq_true_eq]at h1;exact h1.1.1 e.on (Cd.2 ⟨e,he,hb,rfl⟩)
 refine⟨hlen,hle,hdown,?_,?_⟩
 ·intro i o j ho hj;have hi:=hlt i o ho;have h1:=hone i hi;rw[ho]at h1;simp only[yA,VL,VG,decide_eq_true_eq,Vs]at h1;obtain⟨⟨_,hb⟩,h2⟩:=h1;have hbit:=(Ce (j:=j) hlen hi hle).2 hj;have hji:j<i:=by
   rcases VC j i with h|h
   ·exact h
   ·have:=Wy (Vn hb (Vr V h));rw[hbit]at this;cases this
  have h3:=h2 j hji;rw[hbit]at h3;simp only[Bool.not_true,Bool.false_or,Ya,VN,beq_iff_eq]at h3;obtain⟨k,hk,h4⟩:=h3;obtain⟨e,he,hbe,rfl⟩:=Cd.1 hk;refine⟨e,he,hbe,h4.imp id fun h5=>?_⟩;exact(Ce (j:=j) hlen (Nat.lt_trans (hdown i o ho e he hbe) hi) hle).1 h5
 ·intro i j oi oj hi hj hoi hoj hbit;have h1:=hap i hi;rw[hoi]at h1;simp only[VG,Vs]at h1;have h2:=h1 j hj;rw[hbit,hoj]at h2;simpa using h2
def Cg {x:Option Tmp}{l:List Tmp}{t:Tmp}(h:uL x l=true)(hx:x=some t):t ∉ l:=by
 subst hx;simpa[uL] using h
def qY {all:Array Oper}{x y:Oper}(h:uM all x y=true):(∀t,x.dst=some t->t ∉ y.looksAt all)/\(∀t,y.dst=some t->t ∉ x.looksAt all)/\(∀t,x.dst=some t->y.dst≠some t):=by
 simp only[uM,VL]at h;obtain⟨⟨h1,h2⟩,h3⟩:=h;refine⟨fun t ht=>Cg h1 ht,fun t ht=>Cg h2 ht,fun t ht=>?_⟩;rw[ht]at h3;simpa using h3
def uU (all:Array Oper)(L:Nat->Bool):Prop:=∀i o,L i=true->all[i]?=some o->∀e,e∈o.after->Region.binds .any e=true->L e.on=true
def nng.ahead {all:Array Oper}(S:nng all bs K){L:Nat->Bool}(hL:uU all L):∀i o j,all[i]?=some o->(∀e,e∈o.after->Region.binds .any e=true->L e.on=true) ->
  (if i<K then (eJ bs i).testBit j=true else j<i)->L j=true:=by
 intro i
 induction i using Nat.strongRecOn with
 |_ i ih =>
  intro o j ho hdir hj;obtain⟨e,he,hb,h⟩:=S.just i o j ho hj;have hon:=hdir e he hb;rcases h with rfl|h
  ·exact hon
  ·have hlt:=S.down i o ho e he hb;have hi:=(Wf.1 ho).1;exact ih e.on hlt all[e.on] j (Vq V) (hL e.on _ hon (Vq V)) h
def bO (H:ZK)(k:Nat):ZK:=⟨fun j=>if H.A<=j/\j<H.A+k then some .nq else H.get j,H.A+k⟩
def sY (H:ZK)(k:Nat):ZV Γ H w Γ (bO H k) w where
 os:=rfl
 tape:=rfl
 output:=rfl
 size:=ZJ
 ng:=fun _ _ h=>⟨rfl,h⟩
 na:=fun id h1 _ x' hx=>by
  refine⟨x',?_,ZR.le_refl _ _ _⟩;simp only[bO]at hx;rw[Vg V]at hx;exact hx
 ny:=fun _ _=>rfl
 kind:=.refl _
 newb:=.refl _ _
def qZ (w:World):ZV Γ H w Γ H { w with drawn:=w.drawn+1 } where
 os:=rfl
 tape:=rfl
 output:=rfl
 size:=ZJ
 ng:=fun _ _ h=>⟨rfl,h⟩
 na:=fun _ _ _ x' hx=>⟨x',hx,ZR.le_refl _ _ _⟩
 ny:=fun _ _=>rfl
 kind:=.refl _
 newb:=.refl _ _
def ZT.move (R:ZT P G Γ H w)(hheap:w'.heap=w.heap)(E:ZV Γ H w Γ H' w')(hn:H.A<=H'.A)(hget:∀id b,H'.get id=some b->H.get id=some b\/(b=.nq/\H.get id=none/\id<H'.A))(hsame:∀id b,H.get id=some b->H'.get id=some b):ZT P G Γ H' w' where
 J id g e cells hg:=by
  rcases hget _ _ hg with h|h
  ·have h1:=R.J id g e cells h;cases hΓ:Γ id with
   |none=>rw[hΓ]at h1;exact h1
   |some y =>
    obtain⟨b,base,n⟩:=y;rw[hΓ]at h1;obtain⟨c,a1,a2,a3,a4⟩:=h1;exact⟨c,by rw[hheap];exact a1,a2,a3,fun i hi=>let ⟨cv,b1,b2⟩:=a4 i hi;⟨cv,b1,b2.ba E hn⟩⟩
  ·cases h.1
 loop id st pend n env ps asg body hg:=by
  rcases hget _ _ hg with h|h
  ·obtain⟨b,rr,a1,a2,a3,a4,a5,a6,a7,a8,a9⟩:=R.loop id st pend n env ps asg body h;exact⟨b,rr,a1,by rw[hheap];exact a2,a3,a4,a5,a6,a7,a8,fun t ht=>(a9 t ht).ba E hn⟩
  ·cases h.1
 mp id es hg:=by
  rcases hget _ _ hg with h|h
  ·obtain⟨b,a1,a2⟩:=R.mp id es h;exact⟨b,a1,by rw[hheap];exact a2⟩
  ·cases h.1
 nq id hg:=by
  rcases hget _ _ hg with h|h
  ·exact R.nq id h
  ·cases hΓ:Γ id with
   |none=>rfl
   |some x =>
    obtain⟨y,hy⟩:=R.nE id x hΓ;rw[h.2.1]at hy;cases hy
 inj:=R.inj
 nE id x h:=let ⟨y,hy⟩:=R.nE id x h;⟨y,hsame _ _ hy⟩
 lt id b base n h:=by rw[hheap];exact R.lt id b base n h
 A id y h:=by
  rcases hget _ _ h with h|h
  ·exact Vn (R.A id y h) hn
  ·exact h.2.2
 nD g cells h:=(R.nD g cells h).ba E hn
 gsz:=R.qA E
def Ci (R:ZT P G Γ H w)(k:Nat):ZT P G Γ (bO H k) w:=by
 have hnone:∀id,H.A<=id->H.get id=none:=by
  intro id h;cases hg:H.get id with
  |none=>rfl
  |some y=>have:=R.A id y hg;omega
 refine R.move rfl (sY H k) (by simp[bO]) (fun id b hb=>?_) (fun id b hb=>?_)
 ·simp only[bO]at hb;split at hb
  ·rename_i hc;simp only[Option.some.injEq]at hb;exact .inr ⟨hb.symm,hnone id hc.1,hc.2⟩
  ·exact .inl hb
 ·simp only[bO];rw[Vg]
  ·exact hb
  ·have:=R.A id b hb;omega
def Z1.move {n:Nat}{wb:nnc}{s:St}{a:Act}(hs:Z1 P G n wb Γ s a w){H':ZK}(E:ZV Γ s.H w Γ H' w')(hn:s.H.A<=H'.A)(R:ZT P G Γ H' w'):Z1 P G n wb Γ ⟨s.ρ,H'⟩ a w' :=
 ⟨hs.size,fun t=>(hs.env t).ba E hn,R,hs.defers.ba E,VM hs.low E.size⟩
def dN.move {rd rb:Option Nat}(h:dN Γ H rd rb)(hk:∀id b,H.get id=some b->H'.get id=some b):dN Γ H' rd rb:=by
 cases rd with
 |none=>exact h
 |some id =>
  obtain⟨b,st,pend,n,env,ps,asg,body,h1,h2,h3⟩:=h;exact⟨b,_,_,_,_,_,_,_,h1,h2,hk _ _ h3⟩
def fh (all:Array Oper)(d:Nat->Dt)(s0:St)(K:Nat)(D:Nat->Bool):St :=
 ⟨bq all d s0.ρ K D,⟨aV d (bO s0.H (aM d K)).get K D,s0.H.A+aM d K⟩⟩
def om {all:Array Oper}(h:all[j]?=some o):gY all j=o.dst:=by simp[gY,h]
def xZ {all:Array Oper}(S:nng all bs K)(hg:∀i,i<K->ZZ P G all bs s0 d i)(hi:i<K)(ho:all[i]?=some o)(hDi:D i=false)
  (hdown:∀j,j<i->(eJ bs i).testBit j=true->D j=true) (hup:∀j,i<j->j<K->D j=true->(eJ bs j).testBit i=false):
  ExecOk P G all o (s0.H.A+aM d i) (fh all d s0 K D) (fh all d s0 K (bV D i)):=by
 have hget:∀j,j<K->∃oj,all[j]?=some oj:=fun j hj=>⟨_,Vq (Vn hj S.le)⟩
 have hgi:=hg i hi;have tgtE:∀j r,j<K->dY (d j)=some r->r∈(d j).f.nC/\(((d j).al=true/\r=s0.H.A+aM d j)\/((d j).al=false/\r∈(d j).f.rs)):=by
  intro j r hj ht;unfold dY at ht;cases he:(d j).e with
  |none=>rw[he]at ht;cases ht
  |some kb =>
   obtain⟨k,b⟩:=kb;rw[he]at ht;simp only[Option.map_some,Option.some.injEq]at ht;subst ht;obtain⟨h1,h2⟩:=(hg j hj).nC k b he;refine⟨h1,?_⟩;cases hal:(d j).al with
   |true =>
    obtain⟨b',hb'⟩:=(hg j hj).al hal;rw[he]at hb';simp only[Option.some.injEq,Prod.mk.injEq]at hb';exact .inl ⟨rfl,hb'.1⟩
   |false=>exact .inr ⟨rfl,h2 hal⟩
 have rangeK:∀r,r<s0.H.A+aM d i->((bO s0.H (aM d K)).get r=s0.H.get r\/∃j,j<i/\(fun _:Nat=>true) j=true/\dY (d j)=some r):=by
  intro r hr;by_cases h:s0.H.A<=r
  ·obtain⟨j,h1,h2,h3⟩:=sI (d:=d) (n:=i) (c:=r-s0.H.A) V;obtain⟨b,hb⟩:=(hg j V).al h2;refine .inr ⟨j,h1,rfl,?_⟩;unfold dY;rw[hb,h3];simp only[Option.map_some,Option.some.injEq];omega
  ·left;simp only[bO];rw[Vg V]
 have henv:∀t,t∈o.looksAt all->bq all d s0.ρ K D t=(canon all d s0 i).ρ t:=by
  intro t ht;show _=bq all d s0.ρ i (fun _=>true) t;rw[<- xT (all:=all) (d:=d) (ρ0:=s0.ρ) (m:=i) (n:=K) V];refine pt fun j hj hdj=>?_;obtain⟨oj,hoj⟩:=hget j hj;rw[om hoj]at hdj;rcases WH j i with h|rfl|h
  ·cases hb:(eJ bs i).testBit j with
   |true=>rw[hdown j h hb];simp[h]
   |false=>exact absurd ht ((qY (S.apart i j o oj hi h ho hoj hb)).1 t hdj)
  ·rw[hDi];simp
  ·cases hD:D j with
   |false=>symm;simp;omega
   |true=>exact absurd ht ((qY (S.apart j i oj o hj h hoj ho (hup j h hj hD))).2.1 t hdj)
 have hheap:∀r,r∈(d i).f.rs->aV d (bO s0.H (aM d K)).get K D r=(canon all d s0 i).H.get r:=by
  intro r hr;show _=aV d s0.H.get i (fun _=>true) r;rw[<- sH (g0:=(bO s0.H (aM d K)).get) (rangeK r (hgi.lt r hr)),<- xU (m:=i) (n:=K) V];refine px fun j hj ht=>?_;obtain⟨he,_⟩:=tgtE j r hj ht;rcases WH j i with h|rfl|h
  ·cases hb:(eJ bs i).testBit j with
   |true=>rw[hdown j h hb];simp[h]
   |false=>exact absurd hr ((hgi.apart j h hb).2 r he)
  ·rw[hDi];simp
  ·cases hD:D j with
   |false=>symm;simp;omega
   |true=>exact absurd hr (((hg j hj).apart i h (hup j h hj hD)).1 r he)
 have hal:(d i).al=true->aV d (bO s0.H (aM d K)).get K D (s0.H.A+aM d i)=some .nq/\s0.H.A+aM d i≠s0.H.A+aM d K:=by
  intro hal;have hlt:=lX hi hal;refine⟨?_,V⟩;obtain⟨b,hb⟩:=hgi.al hal;have heff:=(hgi.nC _ _ hb).1;rw[xV]
  ·simp only[bO];rw[Vh V]
  ·intro j hj hD ht;obtain⟨h1,h2⟩:=tgtE j _ hj ht;rcases WH j i with h|rfl|h
   ·rcases h2 with ⟨h2,h3⟩|⟨h2,h3⟩
    ·have:=lX h h2;omega
    ·have:=(hg j hj).lt _ h3;have:=qO (d:=d) (X4 h);omega
   ·rw[hDi]at hD;cases hD
   ·rcases h2 with ⟨h2,h3⟩|⟨h2,h3⟩
    ·have:=lX h hal;omega
    ·exact absurd h3 (((hg j hj).apart i h (hup j h hj hD)).2 _ heff)
 have:=hgi.step o ho (bq all d s0.ρ K D) ⟨aV d (bO s0.H (aM d K)).get K D,s0.H.A+aM d K⟩ henv hheap hal (by have:=qO (d:=d) (X4 hi);simp only;omega);have e1:bq all d s0.ρ K (bV D i)=aH (bq all d s0.ρ K D) o.dst (d i).v:=by
  rw[xW hDi hi,om ho];intro j h hj hD t hti;obtain⟨oj,hoj⟩:=hget j hj;rw[om ho]at hti;rw[om hoj];exact(qY (S.apart j i oj o hj h hoj ho (hup j h hj hD))).2.2 t hti
 have e2:aV d (bO s0.H (aM d K)).get K (bV D i)=fk (d i).e (aV d (bO s0.H (aM d K)).get K D):=by
  refine xX hDi hi fun j h hj hD r hti htj=>?_;obtain⟨a1,a2⟩:=tgtE i r hi hti;obtain⟨b1,b2⟩:=tgtE j r hj htj;obtain⟨c1,c2⟩:=(hg j hj).apart i h (hup j h hj hD);rcases b2 with ⟨b2,b3⟩|⟨b2,b3⟩
  ·rcases a2 with ⟨a2,a3⟩|⟨a2,a3⟩
   ·have:=lX h a2;omega
   ·exact c1 r b1 a3
  ·exact c2 r a1 b3
 unfold fh;rw[e1,e2];exact this
def sM {all:Array Oper}(hg:∀i,i<K->ZZ P G all bs s0 d i)(hD:∀j,j<K->D j=true):fh all d s0 K D=canon all d s0 K:=by
 unfold fh canon mI;have e1:bq all d s0.ρ K D=bq all d s0.ρ K fun _=>true:=funext fun t=>pt fun j hj _=>hD j hj;have e2:aV d (bO s0.H (aM d K)).get K D=aV d s0.H.get K fun _=>true:=by
  funext r
  rw[px (D':=fun _=>true) fun j hj _=>hD j hj];refine sH ?_;by_cases h:s0.H.A<=r/\r<s0.H.A+aM d K
  ·obtain⟨j,h1,h2,h3⟩:=sI (d:=d) (n:=K) (c:=r-s0.H.A) V;obtain⟨b,hb⟩:=(hg j h1).al h2;refine .inr ⟨j,h1,rfl,?_⟩;unfold dY;rw[hb,h3];simp only[Option.map_some,Option.some.injEq];omega
  ·left;simp only[bO];rw[Vg h]
 rw[e1,e2]
def x7 {all:Array Oper}(hD:∀j,j<K->D j=false):fh all d s0 K D=⟨s0.ρ,bO s0.H (aM d K)⟩:=by
 unfold fh;have e1:∀n,n<=K->bq all d s0.ρ n D=s0.ρ:=by
  intro n
  induction n with
  |zero=>intro _;rfl
  |succ n ih=>intro h;simp only[bq];rw[Vg (by simp[hD n h])];exact ih (V)
 have e2:∀n,n<=K->aV d (bO s0.H (aM d K)).get n D=(bO s0.H (aM d K)).get:=by
  intro n
  induction n with
  |zero=>intro _;rfl
  |succ n ih=>intro h;simp only[aV];rw[Vg (by simp[hD n h])];exact ih (V)
 rw[e1 K ZJ,e2 K ZJ];rfl
end Go.Hx
namespace Go.Hx
variable {P:Program} {G:Nat->Option (List ZL)} {Γ Γ':aD} {H H':ZK} {w w':World}
variable {listed:Array Bool}{i n:Nat}
def fL (listed:Array Bool):Nat->Nat
 |0=>0
 |n+1=>fL listed n+(if listed.getD n true=false then 1 else 0)
def yG (hi:listed.getD i true=false):∀n,fL (listed.setIfInBounds i true) n+(if i<n then 1 else 0)=fL listed n:=by
 have hsz:i<listed.size:=by
  rcases VC i listed.size with h|h
  ·exact h
  ·rw[V0,WN h]at hi;cases hi
 intro n
 induction n with
 |zero=>simp[fL]
 |succ n ih =>
  simp only[fL];by_cases hin:n=i
  ·subst hin;have:(listed.setIfInBounds n true).getD n true=true:=(by simp[hsz]);have h2:(if n<n then 1 else 0)=0:=Vg (Yd n);have h3:(if n<n+1 then 1 else 0)=1:=Vh (Wi n);rw[h2]at ih;rw[this,h3,hi];simp;omega
  ·rw[getD_set_ne true (Ne.symm hin)];have h4:(if i<n+1 then 1 else 0)=(if i<n then 1 else 0):=by
    by_cases h:i<n
    ·rw[Vh h,Vh (show i<n+1 by omega)]
    ·rw[Vg h,Vg (show ¬i<n+1 by omega)]
   rw[h4];generalize (if i<n then 1 else 0)=x at ih ⊢;omega
def uV (h:fL listed n=0):∀j,j<n->listed.getD j true=true:=by
 induction n with
 |zero=>intro j hj;omega
 |succ n ih =>
  simp only[fL]at h;intro j hj;by_cases hjn:j=n
  ·subst hjn;cases hl:listed.getD j true with
   |true=>rfl
   |false=>rw[hl]at h;simp at h
  ·exact ih V j (V)
def uW :∀m,m<=n->fL (Array.replicate n false) m=m:=by
 intro m
 induction m with
 |zero=>intro _;rfl
 |succ m ih =>
  intro h;simp only[fL];rw[ih V,Vh];rw[V0,Xr,Vh V];rfl
def pE (h:i<listed.size)(x y:Bool):listed.getD i x=listed.getD i y:=by
 simp[V0,Vq h]
section
variable {n:Nat} {wb:nnc} {rd rb:Option Nat} {Q:AX->St->Prop} {all:Array Oper} {bs:List Nat} {K:Nat} {id:Nat} {dr:Bool}
def uX (S:nng all bs K)(hfit:∀o,o∈all.toList->eP n o=true):∀(r m:Nat) (listed:Array Bool) (s:St) (Γ:aD) (a:Act) (w:World),r+m=all.size->K<=m->listed.size=all.size->fL listed all.size=r ->
  (∀j,j<all.size->(listed.getD j true=true↔j<m))->opsV P G rd Q all (all.toList.drop m) s->Z1 P G n wb Γ s a w->dN Γ s.H rd rb ->
  ∀(Q':Exit->Act->World->Prop),(∀e a' w',iy P G n wb rd rb (wr (.region id all dr)) Γ s.H a w Q e a' w'->Q' e a' w')->wpAnyIn (dZ rb) 0 P .any all Q' r listed a w:=by
 intro r
 induction r with
 |zero =>
  intro m listed s Γ a w hm hKm hsz hc hl h hs hr Q' hq;have:all.toList.drop m=[]:=YB (by simp;omega);rw[this]at h;refine⟨?_,hq _ _ _ (.here (x:=.normal) trivial h hs hr)⟩;rw[List.eq_nil_iff_forall_not_mem];intro j hj;obtain⟨h1,o,ho,_⟩:=mem_ready.1 hj;have hjs:=(Wf.1 ho).1;rw[(hl j hjs).2 V]at h1;cases h1
 |succ r ih =>
  intro m listed s Γ a w hm hKm hsz hc hl h hs hr Q' hq;have hms:m<all.size:=V
  have ho:all[m]?=some all[m]:=Vq hms;have hmun:listed.getD m true=false:=by
   cases hx:listed.getD m true with
   |false=>rfl
   |true=>have:=(hl m hms).1 hx;omega
  have hready:m∈Region.ready .any all listed:=by
   refine mem_ready.2 ⟨hmun,_,ho,fun e he hb=>?_⟩;have:=S.down m _ ho e he hb;rw[pE V false true];exact(hl e.on V).2 this
  refine⟨fun h0=>(by rw[h0]at hready;cases hready),fun i hi=>?_⟩;obtain⟨hiun,oi,hoi,hall⟩:=mem_ready.1 hi;have his:=(Wf.1 hoi).1;have him:m<=i:=by
   rcases VC i m with h|h
   ·rw[(hl i his).2 h]at hiun;cases hiun
   ·exact h
  have hL:uU all fun j=>listed.getD j false:=by
   intro k ok hk hok e he hb;have hks:=(Wf.1 hok).1;have h1:=S.down k ok hok e he hb;simp only at hk ⊢;rw[pE V false true]at hk ⊢;have:=(hl k hks).1 hk;exact(hl _ V).2 (V)
  have hieq:i=m:=by
   rcases VC m i with h|h
   ·have h1:=S.ahead hL i oi m hoi hall (by rw[Vg V];exact h);rw[pE V false true,hmun]at h1;cases h1
   ·omega
  subst hieq;have hlist:all.toList.drop i=all[i] :: all.toList.drop (i+1):=by
   rw[Wb (by simpa using hms)];simp
  rw[hlist]at h;simp only[opsV]at h;have hl':∀j,j<all.size->((listed.setIfInBounds i true).getD j true=true↔j<i+1):=by
   intro j hj;by_cases hji:j=i
   ·subst hji;simp
   ·rw[getD_set_ne true (Ne.symm hji),hl j hj];omega
  have hc':fL (listed.setIfInBounds i true) all.size=r:=by
   have:=yG hmun all.size;rw[Vh hms]at this;omega
  have hd:=hfit all[i] ZG;obtain⟨t,ht,h⟩:=h;unfold wpOpIn;rw[ho];simp only;rw[pC hs ht];cases t with
  |true =>
   simp only[if_true]at h ⊢;refine yu hd hs hr h ?_ ?_
   ·rintro Γ' s' a' w' hk hs' E hn hr' ⟨cv,rfl⟩;exact ih (i+1) _ s' Γ' _ w' V V (by simpa using hsz) hc' hl' hk hs' hr' Q' fun e a'' w'' hp=>hq _ _ _ (hp.step E hn (od hms cv) fun _ h=>h)
   ·rintro Γ' s' a' w' chain hp hc hs' E hn hr' rfl;exact hq _ _ _ ⟨.panic,s',Γ',hc,hp,hs',E,hn,hr',.refl _ _⟩
  |false =>
   simp only[Bool.false_eq_true,if_false]at h ⊢;refine⟨fun _ _=>trivial,?_⟩;have hdst:∀d,all[i].dst=some d->d<n:=by
    intro d hd';unfold eP at hd;rw[hd']at hd;simpa using hd
   have hs':=ja (v:=.lit undef) (cv:=undef) hs hdst (ZV.refl Γ s.H w) ZJ hs.heap (.lit _);exact ih (i+1) _ ⟨aH s.ρ all[i].dst (.lit undef),s.H⟩ Γ _ w V V (by simpa using hsz) hc' hl' h hs' hr Q' fun e a'' w'' hp=>hq _ _ _ (hp.step (ZV.refl _ _ _) ZJ (od hms _) fun _ h=>h)
def x8 (S:nng all bs K)(hfit:∀o,o∈all.toList->eP n o=true){d:Nat->Dt}{s0:St}(hg:∀i,i<K->ZZ P G all bs s0 d i)(htail:opsV P G rd Q all (all.toList.drop K) (canon all d s0 K)):
  ∀(r:Nat) (listed:Array Bool) (D:Nat->Bool) (Γ:aD) (a:Act) (w:World),listed.size=all.size->fL listed all.size=r->(∀j,j<all.size->listed.getD j true=D j)->(∀j,D j=true->j<K)->uU all D ->
  Z1 P G n wb Γ (fh all d s0 K D) a w->dN Γ (fh all d s0 K D).H rd rb ->
  ∀(Q':Exit->Act->World->Prop),(∀e a' w',iy P G n wb rd rb (wr (.region id all dr)) Γ (fh all d s0 K D).H a w Q e a' w'->Q' e a' w')->wpAnyIn (dZ rb) 0 P .any all Q' r listed a w:=by
 intro r
 induction r with
 |zero =>
  intro listed D Γ a w hsz hc hl hlow hL hs hr Q' hq;have hall:∀j,j<K->D j=true:=fun j hj=>by rw[<- hl j (Vn hj S.le)];exact uV hc j (Vn hj S.le)
  have hKs:K=all.size:=by
   rcases VC K all.size with h|h
   ·have h1:=uV hc K h;rw[hl K h]at h1;have:=hlow K h1;omega
   ·have:=S.le;omega
  rw[sM hg hall]at hs hr hq;exact uX S hfit 0 K listed _ Γ a w V ZJ hsz hc (fun j hj=>by rw[hl j hj];exact⟨hlow j,hall j⟩) htail hs hr Q' hq
 |succ r ih =>
  intro listed D Γ a w hsz hc hl hlow hL hs hr Q' hq;by_cases hall:∀j,j<K->D j=true
  ·rw[sM hg hall]at hs hr hq;have hcount:∀m,m<=all.size->fL listed m=m-K:=by
    intro m
    induction m with
    |zero=>intro _;simp[fL]
    |succ m ihm =>
     intro hm;simp only[fL];rw[ihm V,hl m V];by_cases hmK:m<K
     ·rw[hall m hmK];simp;omega
     ·have:D m=false:=by
       cases hD:D m with
       |false=>rfl
       |true=>exact absurd (hlow m hD) hmK
      rw[this];simp;omega
   have h1:=hcount all.size ZJ;exact uX S hfit (r+1) K listed _ Γ a w (by have:=S.le;omega) ZJ hsz hc (fun j hj=>by rw[hl j hj];exact⟨hlow j,hall j⟩) htail hs hr Q' hq
  ·have hex:∃j,j<K/\D j=false:=by
    by_cases h:∃j,j<K/\D j=false
    ·exact h
    ·refine absurd (fun j hj=>?_) hall;cases hD:D j with
     |true=>rfl
     |false=>exact absurd ⟨j,hj,hD⟩ h
   have least:∀k,(∃j,j<k/\j<K/\D j=false)->∃j,j<K/\D j=false/\∀i,i<j->D i=true:=by
    intro k
    induction k with
    |zero=>rintro⟨j,hj,_⟩;omega
    |succ k ihk =>
     rintro⟨j,h1,h2,h3⟩;by_cases h:∃j,j<k/\j<K/\D j=false
     ·exact ihk h
     ·refine⟨j,h2,h3,fun i hi=>?_⟩;cases hD:D i with
      |true=>rfl
      |false=>exact absurd ⟨i,V,V,hD⟩ h
   obtain⟨j0,hj0K,hj0,hbelow⟩:=least K (let ⟨j,h1,h2⟩:=hex;⟨j,h1,h1,h2⟩);have hj0s:j0<all.size:=Vn hj0K S.le;have hr0:j0∈Region.ready .any all listed:=by
    refine mem_ready.2 ⟨by rw[hl j0 hj0s];exact hj0,_,Vq hj0s,fun e he hb=>?_⟩;have hlt:=S.down j0 _ (Vq hj0s) e he hb;rw[pE V false true,hl e.on V];exact hbelow _ hlt
   refine⟨fun h0=>(by rw[h0]at hr0;cases hr0),fun i hi=>?_⟩;obtain⟨hiun,oi,hoi,hdir⟩:=mem_ready.1 hi;have his:=(Wf.1 hoi).1;have hdirD:∀e,e∈oi.after->Region.binds .any e=true->D e.on=true:=fun e he hb=>by
    have:=S.down i oi hoi e he hb;rw[<- hl e.on V,<- pE V false true];exact hdir e he hb
   have hahead:=S.ahead hL i oi;have hiK:i<K:=by
    rcases VC i K with h|h
    ·exact h
    ·have:=hahead j0 hoi hdirD (by rw[Vg V];omega);rw[hj0]at this;cases this
   have hDi:D i=false:=(by rw[<- hl i his];exact hiun);have hex:=xZ (P:=P) (G:=G) S hg hiK hoi hDi (fun j hj hb=>hahead j hoi hdirD (by rw[Vh hiK];exact hb)) (fun j h1 h2 hD=>by
    cases hb:(eJ bs j).testBit i with
    |false=>rfl
    |true =>
     have hjs:j<all.size:=Vn h2 S.le;have:=S.ahead hL j _ i (Vq hjs) (fun e he hbe=>hL j _ hD (Vq hjs) e he hbe) (by rw[Vh h2];exact hb);rw[hDi]at this;cases this)
   have hoi':oi=all[i]:=by
    rw[Vq his]at hoi;exact(Option.some.inj hoi).symm
   refine xY hoi (hfit oi (by rw[hoi'];simp)) hs hr hex ?_;rintro Γ' a' w' hs' E hn hr' ⟨cv,rfl⟩;have hc':fL (listed.setIfInBounds i true) all.size=r:=by
    have:=yG hiun all.size;rw[Vh his]at this;omega
   refine ih (listed.setIfInBounds i true) (bV D i) Γ' _ w' (by simpa using hsz) hc' ?_ ?_ ?_ hs' hr' Q' fun e a'' w'' hp=>hq _ _ _ (hp.step E hn (by rw[hoi'];exact od his cv) fun _ h=>h)
   ·intro j hj;by_cases hji:j=i
    ·subst hji;simp[bV]
    ·rw[getD_set_ne true (Ne.symm hji),hl j hj];simp[bV,hji]
   ·intro j hj;by_cases hji:j=i
    ·subst hji;exact hiK
    ·simp only[bV,Vg hji]at hj;exact hlow j hj
   ·intro k ok hk hok e he hb;by_cases hki:k=i
    ·subst hki;rw[hoi]at hok;cases hok;have:=hdirD e he hb;simp only[bV];split
     ·rfl
     ·exact this
    ·simp only[bV,Vg hki]at hk;have:=hL k ok hk hok e he hb;simp only[bV];split
     ·rfl
     ·exact this
def W.draw {s:St}(K:Nat)(bs:List Nat)(hm:P.follows .mixedOrders=true)(hfit:all.toList.all (eP n)=true)(hst:sV all bs K=true)
  (h:dW P G all (opsV P G rd Q all (all.toList.drop K)) bs 0 [] (all.toList.take K) s):W P G n rd (.region id all true) Q s:=by
 intro wb Γ a w rb hs hr;have S:=Cf hst;have hfit':∀o,o∈all.toList->eP n o=true:=fun o ho=>VG.1 hfit o ho;have wf:gW s.H:=fun id b hb=>hs.heap.A id b hb;have hcan0:canon all (fun _=>⟨.lit undef,none,false,⟨[],[]⟩⟩) s 0=s:=rfl;obtain⟨d,hg,htail⟩:=trace (P:=P) (G:=G) (all:=all) (bs:=bs) (s0:=s) (tail:=opsV P G rd Q all (all.toList.drop K)) S.len S.le K 0 (fun _=>⟨.lit undef,none,false,⟨[],[]⟩⟩) [] (V)
  (fun i hi=>V) (fun j hj=>V) (by rw[hcan0];exact wf) (by rw[hcan0];exact h)
 refine wpIn_region_any hm ?_
 let w1:World:={ w with drawn:=w.drawn+1 }
 have R1:ZT P G Γ s.H w1:=hs.heap.move rfl (qZ w) ZJ (fun id b hb=>.inl hb) fun id b hb=>hb;have hs1:Z1 P G n wb Γ s a w1:=hs.move (qZ w) ZJ R1;have hs2:Z1 P G n wb Γ ⟨s.ρ,bO s.H (aM d K)⟩ a w1:=hs1.move (sY _ _) (by simp[bO]) (Ci R1 _);have hr2:dN Γ (bO s.H (aM d K)) rd rb:=hr.move fun id b hb=>by
  simp only[bO];rw[Vg]
  ·exact hb
  ·have:=hs.heap.A id b hb;omega
 have e0:fh all d s K (fun _=>false)=⟨s.ρ,bO s.H (aM d K)⟩:=x7 fun _ _=>rfl;refine x8 (wb:=wb) (id:=id) (dr:=true) S hfit' hg htail all.size _ (fun _=>false) Γ a w1 ZG (uW _ ZJ) ?_ ?_ ?_ ?_ ?_ _ ?_
 ·intro j hj;rw[V0,Xr,Vh hj];rfl
 ·intro j hj;cases hj
 ·intro i o hi;cases hi
 ·rw[e0];exact hs2
 ·rw[e0];exact hr2
 ·rw[e0];intro e a' w' hp;refine hp.step ?_ (by simp[bO]) (.refl _ _) fun _ h=>h;exact ZV.trans (qZ w) ZJ (sY _ _)
end
end Go.Hx
namespace Go.Hx
variable {P:Program} {G:Nat->Option (List ZL)}
variable {α β:Type}
def oh (a:α)(K:α->Prop):bj (some a) K=K a:=by simp[bj]
def sW (K:α->Prop):bj none K=False:=by simp[bj]
def yB (o:Option α)(f:α->Option β)(K:β->Prop):bj (o.bind f) K=bj o fun a=>bj (f a) K:=by
 cases o<;>simp[bj]
def iA (o:Option α)(f:α->β)(K:β->Prop):bj (o.map f) K=bj o fun a=>K (f a):=by
 cases o<;>simp[bj]
def Ca (c:Prop)[Decidable c](a:Option α)(K:α->Prop):bj (if c then a else none) K=(c/\bj a K):=by
 by_cases h:c<;>simp[h,bj]
def uQ {o:Option α}{K K':α->Prop}(h:∀a,K a=K' a):bj o K=bj o K':=by
 have:K=K':=funext h;subst this;rfl
def IA (p q:Prop):jb true p q=p:=by simp[jb]
def IB (p q:Prop):jb false p q=q:=by simp[jb]
def jb.mk {t:Bool}{p q:Prop}(h1:t=true->p)(h2:t=false->q):jb t p q:=⟨h1,h2⟩
def IC {f:FuncId}{args args':List ZL}{H H':ZK}{K:ZQ->ZK->Prop}(h2:args=args')(h3:H=H'):ae P G f args H K=ae P G f args' H' K:=by
 rw[h2,h3]
theorem ID {n:Nat}{rd:Option Nat}{c:Code}{Q:AX->St->Prop}{s s':St}(h:s=s'):W P G n rd c Q s=W P G n rd c Q s':=by rw[h]
attribute [congr] IC ID
def IE (K:St->Prop)(Q:AX->St->Prop)(s:St):kQ K Q .normal s=K s:=(rfl)
def IF (K:St->Prop)(Q:AX->St->Prop)(i:Nat)(s:St):kQ K Q (.exit i) s=Q (.exit i) s:=(rfl)
def IG (K:St->Prop)(Q:AX->St->Prop)(i:Nat)(s:St):kQ K Q (.goto i) s=Q (.goto i) s:=(rfl)
def IH (K:St->Prop)(Q:AX->St->Prop)(s:St):kQ K Q .ret s=Q .ret s:=(rfl)
def II (K:St->Prop)(Q:AX->St->Prop)(s:St):kQ K Q .panic s=Q .panic s:=(rfl)
def IJ (i:Nat)(Q:AX->St->Prop)(s:St):mM i Q .normal s=Q .normal s:=(rfl)
def IK (i j:Nat)(Q:AX->St->Prop)(s:St):mM i Q (.exit j) s=if j=i then Q .normal s else Q (.exit j) s:=(rfl)
def IL (i j:Nat)(Q:AX->St->Prop)(s:St):mM i Q (.goto j) s=Q (.goto j) s:=(rfl)
def IM (i:Nat)(Q:AX->St->Prop)(s:St):mM i Q .ret s=Q .ret s:=(rfl)
def IN (i:Nat)(Q:AX->St->Prop)(s:St):mM i Q .panic s=Q .panic s:=(rfl)
def noGoto_normal (Q:AX->St->Prop)(s:St):noGoto Q .normal s=Q .normal s:=(rfl)
def noGoto_exit (i:Nat)(Q:AX->St->Prop)(s:St):noGoto Q (.exit i) s=Q (.exit i) s:=(rfl)
def noGoto_ret (Q:AX->St->Prop)(s:St):noGoto Q .ret s=Q .ret s:=(rfl)
def noGoto_panic (Q:AX->St->Prop)(s:St):noGoto Q .panic s=Q .panic s:=(rfl)
section code
variable {n:Nat} {rd:Option Nat} {Q:AX->St->Prop} {s:St}
def IP:vc P G n rd .skip Q s=Q .normal s:=(rfl)
def IQ (l:Nat):vc P G n rd (.label l) Q s=Q .normal s:=(rfl)
def IR (id:Nat)(ops:Array Oper):vc P G n rd (.region id ops false) Q s=opsV P G rd Q ops ops.toList s:=(rfl)
def IS (id:Nat)(ops:Array Oper):vc P G n rd (.region id ops true) Q s=W P G n rd (.region id ops true) Q s:=(rfl)
def IT (a b:Code):vc P G n rd (.seq a b) Q s=vc P G n rd a (kQ (vc P G n rd b Q) Q) s:=(rfl)
def IU (id:Nat)(c:Code):vc P G n rd (.block id c) Q s=vc P G n rd c (mM id Q) s:=(rfl)
def IV (c:Code):vc P G n rd (.loop c) Q s=W P G n rd (.loop c) Q s:=(rfl)
def IW (f:Operand)(ps:Array Tmp)(asg c:Code):vc P G n rd (.rangeFunc f ps asg c) Q s=W P G n rd (.rangeFunc f ps asg c) Q s:=(rfl)
def IX (i:Nat):vc P G n rd (.exit i) Q s=Q (.exit i) s:=(rfl)
def IY (c:Code):vc P G n rd (.scope c) Q s=vc P G n rd c (noGoto Q) s:=(rfl)
def IZ (i:Nat):vc P G n rd (.goto i) Q s=Q (.goto i) s:=(rfl)
def I0:vc P G n rd .ret Q s=Q .ret s:=(rfl)
def Cb:ZL->Option Bool
 |.lit (.bool t)=>some t
 |_=>none
def I1 (t:Bool):Cb (.lit (.bool t))=some t:=rfl
def I3 (c:Operand)(a b:Code):vc P G n rd (.cond c a b) Q s=bj (Cb (ar G s.ρ c)) fun t=>jb t (vc P G n rd a Q s) (vc P G n rd b Q s):=by
 simp only[vc];congr 1
end code
def I4 (ρ:Env)(t:Tmp):ar G ρ (.tmp t)=ρ t:=rfl
def I5 (ρ:Env)(v:Value):ar G ρ (.const v)=.lit v:=rfl
def I6 (ρ:Env)(f:FuncId):ar G ρ (.func f)=.X f [] []:=rfl
def I7 (ρ:Env)(d:Tmp)(v:ZL)(t:Tmp):aH ρ (some d) v t=if t=d then v else ρ t:=rfl
def I9 (ρ:Env)(v:ZL):aH ρ none v=ρ:=rfl
def Ja (ws:Nat)(ρ ρ₀:Env)(t:Nat):mask ws ρ ρ₀ t=if ws / 2 ^ t % 2=1 then ρ t else ρ₀ t:=rfl
def iv:ZL->Int
 |.lit (.int _ n)=>n
 |_=>0
def bf (k:IntKind)(n:Int):iv (.lit (.int k n))=n:=rfl
def yC (l:List ZL)(t:Nat):dD l t=(l[t]?).getD (.lit undef):=rfl
def Jb (rs:List ResultVar)(H:ZK)(K:ZQ->ZK->Prop)(s:St):qS P G rs H K .ret s=bj (fU P s.H s.ρ rs) fun vs=>aj P G H K (kR vs) s.H:=(rfl)
def Jc (rs:List ResultVar)(H:ZK)(K:ZQ->ZK->Prop)(s:St):qS P G rs H K .normal s=bj (fU P s.H s.ρ rs) fun vs=>aj P G H K (kR vs) s.H:=(rfl)
def Jd (H:ZK)(ρ:Env):fU P H ρ []=some []:=rfl
def Je (H:ZK)(ρ:Env)(t:Tmp)(r:List ResultVar):fU P H ρ (.tmp t :: r)=(fU P H ρ r).map (ρ t :: ·):=rfl
def Jf (H:ZK)(ρ:Env)(a:Tmp)(t:TypeId)(r:List ResultVar):fU P H ρ (.cell a t :: r)=(ir P H t (ρ a)).bind fun v=>(fU P H ρ r).map (v :: ·):=rfl
def Jg (v:ZL):kR [v]=v:=rfl
def Jh (v u:ZL)(r:List ZL):kR (v :: u :: r)=.nc (v :: u :: r):=rfl
def Ji:kR []=.nc []:=rfl
section ops
variable {rd:Option Nat} {Q:AX->St->Prop} {K:St->Prop} {s:St} {d:Option Tmp} {ty:TypeId} {pos:String} {aft:Array Edge} {g:Option (Nat × Bool)}
def Jj (all:Array Oper):opsV P G rd Q all [] s=Q .normal s:=(rfl)
def Jk (all:Array Oper)(op:Op)(rest:List Oper):opsV P G rd Q all (⟨d,op,ty,pos,aft,none⟩ :: rest) s=aX P G rd Q ⟨d,op,ty,pos,aft,none⟩ (opsV P G rd Q all rest) s:=by
 simp[opsV,gU,oh]
def Jl (all:Array Oper)(op:Op)(rest:List Oper)(j:Nat)(want:Bool):opsV P G rd Q all (⟨d,op,ty,pos,aft,some (j,want)⟩ :: rest) s =
  bj (gU all s.ρ ⟨d,op,ty,pos,aft,some (j,want)⟩) fun t=>if t=true then aX P G rd Q ⟨d,op,ty,pos,aft,some (j,want)⟩ (opsV P G rd Q all rest) s else opsV P G rd Q all rest ⟨aH s.ρ d (.lit undef),s.H⟩:=(rfl)
def Jm (P:Program)(G:Nat->Option (List ZL))(fv:ZL)(args:List ZL)(H:ZK)(K:ZQ->ZK->Prop)(_d:TagR K:=.mk):Prop:=ak P G fv args H K
def Jn (fv:Operand)(args:Array Operand)(ats:Array TypeId):aX P G rd Q ⟨d,.call ⟨.value fv,args,ats⟩,ty,pos,aft,g⟩ K s =
  Jm P G (ar G s.ρ fv) (args.toList.map (ar G s.ρ)) s.H fun r H'=>fI H' rd/\match r with
   |.ret v=>K ⟨aH s.ρ d v,H'⟩
   |.panic=>Q .panic ⟨s.ρ,H'⟩:=(rfl)
def Jo (x:Operand):aX P G rd Q ⟨d,.panic x,ty,pos,aft,g⟩ K s=((∃t v,(ar G s.ρ x)=.lit (.iface t v))/\Q .panic s):=(rfl)
def Jp (x:Operand):aX P G rd Q ⟨d,.move x,ty,pos,aft,g⟩ K s=K ⟨aH s.ρ d (ar G s.ρ x),s.H⟩:=by simp[aX,ao,oh]
def Jq (x:Operand):aX P G rd Q ⟨d,.assign x,ty,pos,aft,g⟩ K s=K ⟨aH s.ρ d (ar G s.ρ x),s.H⟩:=by simp[aX,ao,oh]
def Jr (c a b:Operand):aX P G rd Q ⟨d,.pick c a b,ty,pos,aft,g⟩ K s=bj (match ar G s.ρ c with|.lit (.bool t)=>some t|_=>none) fun t=>K ⟨aH s.ρ d (if t then ar G s.ρ a else ar G s.ρ b),s.H⟩:=by
 simp only[aX,ao];split<;>simp_all[oh,sW]
def Js (e:TypeId):aX P G rd Q ⟨d,.alloc e,ty,pos,aft,g⟩ K s=bj (bQ P e) fun z=>bj (s.H.lay s.H.A (.J 0 e z)) fun H'=>K ⟨aH s.ρ d (.O s.H.A 0 0),H'⟩:=by
 simp only[aX,ao,yB];exact uQ fun _=>iA ..
def Jt (e:TypeId)(x:Operand):aX P G rd Q ⟨d,.box e x,ty,pos,aft,g⟩ K s=bj (s.H.lay s.H.A (.J 0 e (ar G s.ρ x).cells)) fun H'=>K ⟨aH s.ρ d (.O s.H.A 0 0),H'⟩:=by
 simp[aX,ao,iA]
def Ju (t:TypeId)(parts:Array (Nat × Operand)):aX P G rd Q ⟨d,.build t parts,ty,pos,aft,g⟩ K s=bj (sF P t (parts.toList.map fun p=>(p.1,ar G s.ρ p.2))) fun v=>K ⟨aH s.ρ d v,s.H⟩:=by
 simp[aX,ao,iA]
def Jv (t:TypeId)(len:Nat)(parts:Array (Nat × Operand)):aX P G rd Q ⟨d,.buildSlice t len parts,ty,pos,aft,g⟩ K s =
  bj (nU P s.H s.H.A t len (parts.toList.map fun p=>(p.1,ar G s.ρ p.2))) fun vH=>K ⟨aH s.ρ d vH.1,vH.2⟩:=by
 simp[aX,ao]
def Jw (t:TypeId)(a:Operand):aX P G rd Q ⟨d,.load t a,ty,pos,aft,g⟩ K s=bj (ir P s.H t (ar G s.ρ a)) fun v=>K ⟨aH s.ρ d v,s.H⟩:=by
 simp[aX,ao,iA]
def Jx (t:TypeId)(a x:Operand):aX P G rd Q ⟨d,.store t a x,ty,pos,aft,g⟩ K s=((P.underlying t).isSome=true/\bj (j9 P s.H t (ar G s.ρ a) (ar G s.ρ x)) fun H'=>K ⟨aH s.ρ d (.lit undef),H'⟩):=by
 simp[aX,ao,Ca,iA]
def Jy (x:Operand):aX P G rd Q ⟨d,.nilCheck x,ty,pos,aft,g⟩ K s=bj (lW s.H (ar G s.ρ x)) fun v=>K ⟨aH s.ρ d v,s.H⟩:=by
 simp[aX,ao,iA]
def Jz (op:BinOp)(t:TypeId)(x y:Operand)(u:TypeId):aX P G rd Q ⟨d,.binOp op t x y u,ty,pos,aft,g⟩ K s =
  sS P op t (lY s.H op (ar G s.ρ x) (ar G s.ρ y)) (fun v=>K ⟨aH s.ρ d v,s.H⟩) (bj (aU P op t x y (ar G s.ρ x) (ar G s.ρ y)) fun v=>K ⟨aH s.ρ d v,s.H⟩):=by
 simp[aX,ao,iA]
def JA (op:BinOp)(t:TypeId)(Kb:ZL->Prop)(p:Prop):sS P op t none Kb p=p:=rfl
def JB (op:BinOp)(t:TypeId)(k:Bool)(Kb:ZL->Prop)(p:Prop):sS P op t (some k) Kb p=(sR (P.underlying t)=true/\∀b:Bool,(k=true->b=false)->Kb (.lit (.bool (if op == .neq then !b else b)))):=rfl
def JC (e:TypeId):sR (some (.slice e))=true:=rfl
def JD (H:ZK)(op:BinOp)(v:Value)(y:ZL):lY H op (.lit v) y=none:=by
 unfold lY;split<;>rfl
def JE (H:ZK)(n:Nat)(cells:List ZL):lY H .eql (.Q n cells) (.lit (.slice none 0 0))=some (decide (0<n)):=rfl
def JF (H:ZK)(n:Nat)(cells:List ZL):lY H .neq (.Q n cells) (.lit (.slice none 0 0))=some (decide (0<n)):=rfl
def JG:(BinOp.eql == BinOp.neq)=false:=rfl
def JH:(BinOp.neq == BinOp.neq)=true:=rfl
def JI (op:UnOp)(t:TypeId)(x:Operand):aX P G rd Q ⟨d,.unOp op t x,ty,pos,aft,g⟩ K s=bj (qK P op (ar G s.ρ x)) fun v=>K ⟨aH s.ρ d v,s.H⟩:=by
 simp[aX,ao,iA]
def JJ (a b:TypeId)(x:Operand):aX P G rd Q ⟨d,.convert a b x,ty,pos,aft,g⟩ K s=bj (lV P s.H a b (ar G s.ρ x)) fun v=>K ⟨aH s.ρ d v,s.H⟩:=by
 simp[aX,ao,iA]
def JK (t:TypeId)(x:Operand):aX P G rd Q ⟨d,.makeInterface t x,ty,pos,aft,g⟩ K s =
  bj (match (ar G s.ρ x).cU with|some v=>(aP P (Instr.makeInterface t v)).map ZL.lit|none=>none) fun v=>K ⟨aH s.ρ d v,s.H⟩:=by
 simp only[aX,ao];split<;>simp_all[sW,iA]
def JL (f:FuncId)(first cap:Array Operand):aX P G rd Q ⟨d,.makeFunc (.func f) first cap,ty,pos,aft,g⟩ K s=K ⟨aH s.ρ d (.X f (first.toList.map (ar G s.ρ)) (cap.toList.map (ar G s.ρ))),s.H⟩:=by
 simp[aX,ao,oh]
def JM (t:TypeId)(l c:Operand):aX P G rd Q ⟨d,.makeSlice t l c,ty,pos,aft,g⟩ K s=bj (mH P s.H s.H.A t (ar G s.ρ l) (ar G s.ρ c)) fun vH=>K ⟨aH s.ρ d vH.1,vH.2⟩:=by
 simp[aX,ao]
def JN (t:TypeId)(x:Operand)(lo hi:Option Operand):aX P G rd Q ⟨d,.slice t x lo hi none,ty,pos,aft,g⟩ K s =
  bj (nP P s.H t (ar G s.ρ x) (lo.map (ar G s.ρ)) (hi.map (ar G s.ρ))) fun v=>K ⟨aH s.ρ d v,s.H⟩:=by
 simp[aX,ao,iA]
def uR (P:Program)(H:ZK)(s:TypeId)(f:Nat)(x:ZL):Option ZL :=
 (bJ P s f).bind fun of=>match x with
  |.O id gen off=>(H.na id gen).map fun _=>.O id gen (off+of.1)
  |.ni cells off=>some (.ni cells (off+of.1))
  |_=>none
def JO (t:TypeId)(x:Operand)(f:Nat):aX P G rd Q ⟨d,.fieldAddr t x f,ty,pos,aft,g⟩ K s=bj (uR P s.H t f (ar G s.ρ x)) fun v=>K ⟨aH s.ρ d v,s.H⟩:=by
 simp only[aX,ao,uR,yB];refine uQ fun of=>?_;split<;>simp_all[sW,iA,oh]
def uS (P:Program)(H:ZK)(t:TypeId)(x i:ZL):Option ZL:=match i with
 |.lit (.int _ i)=>nO P H t x i
 |_=>none
def JP (t:TypeId)(x i:Operand):aX P G rd Q ⟨d,.indexAddr t x i,ty,pos,aft,g⟩ K s=bj (uS P s.H t (ar G s.ρ x) (ar G s.ρ i)) fun v=>K ⟨aH s.ρ d v,s.H⟩:=by
 simp only[aX,ao,uS];split<;>simp_all[sW,iA]
def JQ (t:TypeId)(x i:Operand):aX P G rd Q ⟨d,.index t x i,ty,pos,aft,g⟩ K s=bj (pr P t (ar G s.ρ x) (ar G s.ρ i)) fun v=>K ⟨aH s.ρ d v,s.H⟩:=by
 simp[aX,ao,iA]
def JR (t:Operand)(i:Nat):aX P G rd Q ⟨d,.extract t i,ty,pos,aft,g⟩ K s=bj (nW (ar G s.ρ t) i) fun v=>K ⟨aH s.ρ d v,s.H⟩:=by
 simp[aX,ao,iA]
def JS (b:Builtin)(args:Array Operand)(ats:Array TypeId):aX P G rd Q ⟨d,.call ⟨.builtin b,args,ats⟩,ty,pos,aft,g⟩ K s =
  bj (gT P s.H s.H.A b ats.toList (args.toList.map (ar G s.ρ))) fun vH=>K ⟨aH s.ρ d vH.1,vH.2⟩:=by
 simp[aX,ao]
end ops
def builtin_len (H:ZK)(id:Nat)(t:TypeId)(x:ZL):gT P H id .len [t] [x]=(nS P H t x).map fun v=>(v,H):=rfl
def builtin_append (H:ZK)(id:Nat)(t u:TypeId)(s x:ZL):gT P H id .append [t,u] [s,x]=bS P H id t u s x:=rfl
def builtin_copy (H:ZK)(id:Nat)(t u:TypeId)(s x:ZL):gT P H id .copy [t,u] [s,x]=lS P H t s x:=rfl
def builtin_min (H:ZK)(id:Nat)(ts:List TypeId)(k:IntKind)(a b:Int):gT P H id .min ts [.lit (.int k a),.lit (.int k b)]=some (.lit (.int k (if b<a then b else a)),H):=by
 cases ts with
 |nil=>rfl
 |cons t ts=>rfl
def builtin_max (H:ZK)(id:Nat)(ts:List TypeId)(k:IntKind)(a b:Int):gT P H id .max ts [.lit (.int k a),.lit (.int k b)]=some (.lit (.int k (if b > a then b else a)),H):=by
 cases ts with
 |nil=>rfl
 |cons t ts=>rfl
section nums
variable {t:TypeId} {x y:Operand} {k:IntKind} {a b:Int}
def JT:aU P .add t x y (.lit (.int k a)) (.lit (.int k b))=some (.lit (.int k (k.wrap (a+b)))):=by
 simp[aU,ZL.cU,eqGuard,binOp,Op.intArith,aP,bind,Sem.bind,pure]
def JU:aU P .sub t x y (.lit (.int k a)) (.lit (.int k b))=some (.lit (.int k (k.wrap (a-b)))):=by
 simp[aU,ZL.cU,eqGuard,binOp,Op.intArith,aP,bind,Sem.bind,pure]
def JV:aU P .mul t x y (.lit (.int k a)) (.lit (.int k b))=some (.lit (.int k (k.wrap (a*b)))):=by
 simp[aU,ZL.cU,eqGuard,binOp,Op.intArith,aP,bind,Sem.bind,pure]
def JW:aU P .quo t x y (.lit (.int k a)) (.lit (.int k b))=if b≠0 then some (.lit (.int k (k.wrap (a.tdiv b)))) else none:=by
 by_cases h:b=0<;>simp[h,aU,ZL.cU,eqGuard,binOp,Op.intDiv,runtimePanic,program,goPanic,aP,bind,Sem.bind,pure]
def JX:aU P .rem t x y (.lit (.int k a)) (.lit (.int k b))=if b≠0 then some (.lit (.int k (a.tmod b))) else none:=by
 by_cases h:b=0<;>simp[h,aU,ZL.cU,eqGuard,binOp,Op.intDiv,runtimePanic,program,goPanic,aP,bind,Sem.bind,pure]
def JY:aU P .lss t x y (.lit (.int k a)) (.lit (.int k b))=some (.lit (.bool (decide (a<b)))):=by
 simp[aU,ZL.cU,eqGuard,binOp,Op.intCmp,aP,bind,Sem.bind,pure]
def JZ:aU P .leq t x y (.lit (.int k a)) (.lit (.int k b))=some (.lit (.bool (decide (a<=b)))):=by
 simp[aU,ZL.cU,eqGuard,binOp,Op.intCmp,aP,bind,Sem.bind,pure]
def J0:aU P .gtr t x y (.lit (.int k a)) (.lit (.int k b))=some (.lit (.bool (decide (b<a)))):=by
 simp[aU,ZL.cU,eqGuard,binOp,Op.intCmp,aP,bind,Sem.bind,pure]
def J1:aU P .geq t x y (.lit (.int k a)) (.lit (.int k b))=some (.lit (.bool (decide (b<=a)))):=by
 simp[aU,ZL.cU,eqGuard,binOp,Op.intCmp,aP,bind,Sem.bind,pure]
def J2:aU P .eql t x y (.lit (.int k a)) (.lit (.int k b))=some (.lit (.bool (decide (a=b)))):=by
 simp[aU,ZL.cU,eqGuard,binOp,Op.intCmp,aP,bind,Sem.bind,pure];rfl
def J3:aU P .neq t x y (.lit (.int k a)) (.lit (.int k b))=some (.lit (.bool (!decide (a=b)))):=by
 simp[aU,ZL.cU,eqGuard,binOp,Op.intCmp,aP,bind,Sem.bind,pure];rfl
def J4 {op:UnOp}(h:op=.neg):qK P op (.lit (.int k a))=some (.lit (.int k (k.wrap (0-a)))):=by
 subst h;rfl
def J5 (v:Bool):qK P .not (.lit (.bool v))=some (.lit (.bool (!v))):=rfl
def J6 (H:ZK)(s d:TypeId)(v:Value):lV P H s d (.lit v)=lU P s d (.lit v):=rfl
def J7 (H:ZK)(s d:TypeId)(c:List ZL):lV P H s d (.agg c)=lU P s d (.agg c):=rfl
def J8 {s d:TypeId}{k':IntKind}(hs:(P.underlying s).isSome=true)(hd:P.underlying d=some (.int k')):lU P s d (.lit (.int k a))=some (.lit (.int k' (k'.wrap a))):=by
 obtain⟨ds,hs⟩:=VQ.1 hs;simp only[lU,ZL.cU];have:aP P (convert s d (.int k a))=some (.int k' (k'.wrap a)):=by
  simp[convert,underlying,program,hs,hd,aP,bind,Sem.bind,pure,Conv.intToInt]
 rw[this];rfl
end nums
def ext (H:ZK)(L:List ZR):ZK :=
 { get:=fun j=>if H.A<=j/\j<H.A+L.length then L[j-H.A]? else H.get j,A:=H.A+L.length }
def ext_nil (H:ZK):ext H []=H:=by
 unfold ext;have:(fun j=>if H.A<=j/\j<H.A+([]:List ZR).length then ([]:List ZR)[j-H.A]? else H.get j)=H.get:=by
  funext j
  rw[Vg];simp only[List.length_nil];omega
 rw[this];rfl
def aW (H:ZK)(L:List ZR):(ext H L).A=H.A+L.length:=rfl
def uT (H:ZK)(b:ZR):H.lay H.A b=some (ext H [b]):=by
 unfold ZK.lay ext;rw[Vh rfl];congr 2
 funext j
 by_cases h:j=H.A
 ·subst h;simp
 ·rw[Vg h,Vg];simp only[List.length_cons,List.length_nil];omega
def yD (H:ZK)(L:List ZR)(b:ZR):(ext H L).lay (H.A+L.length) b=some (ext H (L++[b])):=by
 unfold ZK.lay;rw[Vh (aW H L).symm];unfold ext;congr 2
 ·funext j
  simp only[List.length_append,List.length_cons,List.length_nil];by_cases h:j=H.A+L.length
  ·subst h;rw[Vh rfl,Vh V,XX];simp
  ·rw[Vg h];by_cases h2:H.A<=j/\j<H.A+L.length
   ·rw[Vh h2,Vh V,Vx V]
   ·rw[Vg h2,Vg V]
 ·simp only[List.length_append,List.length_cons,List.length_nil];omega
def Cc (H:ZK)(L:List ZR)(i:Nat)(b:ZR)(h:L.length=i):(ext H L).lay (H.A+i) b=some (ext H (L++[b])):=by subst h;exact yD H L b
def bM (H:ZK)(L:List ZR)(i:Nat)(h:i<L.length):(ext H L).get (H.A+i)=L[i]?:=by
 unfold ext;simp only;rw[Vh V,XX]
def c9 (H:ZK)(L:List ZR)(i:Nat)(h:i<H.A):(ext H L).get i=H.get i:=by
 unfold ext;simp only;rw[Vg V]
def yE (H:ZK)(L:List ZR)(i:Nat)(b:ZR)(h:i<L.length):(ext H L).upd (H.A+i) b=ext H (L.set i b):=by
 unfold ext ZK.upd;simp only[VF];congr 1
 funext j
 by_cases hj:j=H.A+i
 ·subst hj;rw[Vh rfl,Vh V,XX,VB h]
 ·rw[Vg hj];by_cases h2:H.A<=j/\j<H.A+L.length
  ·rw[Vh h2,Vh h2,VP V]
  ·rw[Vg h2,Vg h2]
def sX (b:Option ZR)(gen:Nat):Option (TypeId × List ZL) :=
 match b with
 |some (.J g e cells)=>if g=gen then some (e,cells) else none
 |_=>none
def J9 (g gen:Nat)(e:TypeId)(cells:List ZL):sX (some (.J g e cells)) gen=if g=gen then some (e,cells) else none:=rfl
def yF (H:ZK)(L:List ZR)(i gen:Nat)(h:i<L.length):(ext H L).na (H.A+i) gen=sX L[i]? gen:=by
 unfold ZK.na sX;rw[bM H L i h];rfl
def Ka (H:ZK)(b:ZR)(L:List ZR)(gen:Nat):(ext H (b :: L)).na H.A gen=sX (some b) gen:=yF H (b :: L) 0 gen (ZG)
def Kc (H:ZK)(c:ZR)(L:List ZR)(b:ZR):(ext H (c :: L)).upd H.A b=ext H (b :: L):=yE H (c :: L) 0 b (ZG)
def gE {H R:ZK}{L:List ZR}(h:R=ext H L)(i:Nat){b:ZR}(hb:L[i]? = some b):R.get (H.A + i)=some b := by
  rw[h,bM H L i (by
    rcases VC i L.length with g |g
    · exact g
    · rw[Vo g] at hb;cases hb)]
  exact hb
def dh {H R:ZK}{b:ZR}{L:List ZR}(h:R=ext H (b :: L)):R.get H.A=some b := gE h 0 rfl
end Go.Hx
namespace Go.Hx
variable {P:Program} {G:Nat->Option (List ZL)}
def sZ (want:Bool):Option ZL->Option Bool
 |some (.lit (.bool b))=>some (b == want)
 |some (.lit _)=>some false
 |none=>some false
 |_=>none
def Kd (want b:Bool):sZ want (some (.lit (.bool b)))=some (b == want):=rfl
def Ke (b:Bool):(b == true)=b:=by cases b<;>rfl
def Kf (b:Bool):(b == false)=!b:=by cases b<;>rfl
def Kg (b:Bool)(p q:Prop):jb (!b) p q=jb b q p:=by cases b<;>simp[jb]
def Cj (t:Bool)(p q:Prop):(if t=true then p else q)=jb t p q:=by cases t<;>simp[jb]
def Ck (all:Array Oper)(ρ:Env)(d:Option Tmp)(op:Op)(ty:TypeId)(pos:String)(aft:Array Edge)(j:Nat)(want:Bool):
  gU all ρ ⟨d,op,ty,pos,aft,some (j,want)⟩=sZ want (((all[j]?).bind (·.dst)).map ρ):=by
 unfold gU;simp only;cases (all[j]?).bind (·.dst) with
 |none=>rfl
 |some d =>
  simp only[Option.map_some];cases ρ d with
  |lit v=>cases v<;>rfl
  |_=>rfl
section
variable {rd:Option Nat} {Q:AX->St->Prop} {s:St} {d:Option Tmp} {ty:TypeId} {pos:String} {aft:Array Edge} {g:Option (Nat × Bool)}
def Kh (all:Array Oper)(op:Op)(rest:List Oper)(j:Nat)(want:Bool):opsV P G rd Q all (⟨d,op,ty,pos,aft,some (j,want)⟩ :: rest) s =
  bj (sZ want (((all[j]?).bind (·.dst)).map s.ρ)) fun t=>jb t (aX P G rd Q ⟨d,op,ty,pos,aft,some (j,want)⟩ (opsV P G rd Q all rest) s) (opsV P G rd Q all rest ⟨aH s.ρ d (.lit undef),s.H⟩):=by
 rw[Jl,Ck];exact uQ fun _=>Cj ..
variable {all:Array Oper} {tail:St->Prop} {b i:Nat} {bs:List Nat} {acc:List (Nat × FP)} {K:FP->St->Prop}
def Ki (bs:List Nat):dW P G all tail bs i acc [] s=tail s:=by cases bs<;>rfl
def Kj (op:Op)(rest:List Oper):dW P G all tail (b :: bs) i acc (⟨d,op,ty,pos,aft,none⟩ :: rest) s =
  bE P G ⟨d,op,ty,pos,aft,none⟩ (fun f s'=>jt b f acc/\dW P G all tail bs (i+1) (fK i f acc) rest s') s:=by
 simp[dW,gU,bj]
def Kk (op:Op)(rest:List Oper)(j:Nat)(want:Bool):dW P G all tail (b :: bs) i acc (⟨d,op,ty,pos,aft,some (j,want)⟩ :: rest) s =
  bj (sZ want (((all[j]?).bind (·.dst)).map s.ρ)) fun t =>
   jb t (bE P G ⟨d,op,ty,pos,aft,some (j,want)⟩ (fun f s'=>jt b f acc/\dW P G all tail bs (i+1) (fK i f acc) rest s') s)
    (dW P G all tail bs (i+1) acc rest ⟨aH s.ρ d (.lit undef),s.H⟩):=by
 simp only[dW,Ck];exact uQ fun _=>Cj ..
def Kl (fv:Operand)(args:Array Operand)(ats:Array TypeId):bE P G ⟨d,.call ⟨.value fv,args,ats⟩,ty,pos,aft,g⟩ K s =
  ∃v rs,aY P G (ar G s.ρ fv) (args.toList.map (ar G s.ρ)) s.H v rs/\K ⟨[],rs⟩ ⟨aH s.ρ d v,s.H⟩:=(rfl)
abbrev QF:AX->St->Prop:=fun _ _=>False
def Km (x:Operand):bE P G ⟨d,.move x,ty,pos,aft,g⟩ K s=aX P G none QF ⟨d,.move x,ty,pos,aft,g⟩ (K ⟨[],[]⟩) s:=(rfl)
def Kn (x:Operand):bE P G ⟨d,.assign x,ty,pos,aft,g⟩ K s=aX P G none QF ⟨d,.assign x,ty,pos,aft,g⟩ (K ⟨[],[]⟩) s:=(rfl)
def Ko (c x y:Operand):bE P G ⟨d,.pick c x y,ty,pos,aft,g⟩ K s=aX P G none QF ⟨d,.pick c x y,ty,pos,aft,g⟩ (K ⟨[],[]⟩) s:=(rfl)
def Kp (e:TypeId):bE P G ⟨d,.alloc e,ty,pos,aft,g⟩ K s=aX P G none QF ⟨d,.alloc e,ty,pos,aft,g⟩ (K ⟨[s.H.A],[]⟩) s:=(rfl)
def Kq (e:TypeId)(x:Operand):bE P G ⟨d,.box e x,ty,pos,aft,g⟩ K s=aX P G none QF ⟨d,.box e x,ty,pos,aft,g⟩ (K ⟨[s.H.A],[]⟩) s:=(rfl)
def Kr (t:TypeId)(p:Array (Nat × Operand)):bE P G ⟨d,.build t p,ty,pos,aft,g⟩ K s=aX P G none QF ⟨d,.build t p,ty,pos,aft,g⟩ (K ⟨[],[]⟩) s:=(rfl)
def Ks (t:TypeId)(l:Nat)(p:Array (Nat × Operand)):bE P G ⟨d,.buildSlice t l p,ty,pos,aft,g⟩ K s=aX P G none QF ⟨d,.buildSlice t l p,ty,pos,aft,g⟩ (K ⟨[s.H.A],[]⟩) s:=(rfl)
def Kt (t:TypeId)(x:Operand):bE P G ⟨d,.load t x,ty,pos,aft,g⟩ K s=aX P G none QF ⟨d,.load t x,ty,pos,aft,g⟩ (K ⟨[],aR (ar G s.ρ x)⟩) s:=(rfl)
def Ku (t:TypeId)(x y:Operand):bE P G ⟨d,.store t x y,ty,pos,aft,g⟩ K s=aX P G none QF ⟨d,.store t x y,ty,pos,aft,g⟩ (K ⟨aR (ar G s.ρ x),aR (ar G s.ρ x)⟩) s:=(rfl)
def Kv (x:Operand):bE P G ⟨d,.nilCheck x,ty,pos,aft,g⟩ K s=aX P G none QF ⟨d,.nilCheck x,ty,pos,aft,g⟩ (K ⟨[],aR (ar G s.ρ x)⟩) s:=(rfl)
def Kw (op:BinOp)(t:TypeId)(x y:Operand)(u:TypeId):bE P G ⟨d,.binOp op t x y u,ty,pos,aft,g⟩ K s=bj (aU P op t x y (ar G s.ρ x) (ar G s.ρ y)) fun v=>K ⟨[],[]⟩ ⟨aH s.ρ d v,s.H⟩:=by
 simp only[bE,ao,iA];rfl
def Kx (op:UnOp)(t:TypeId)(x:Operand):bE P G ⟨d,.unOp op t x,ty,pos,aft,g⟩ K s=aX P G none QF ⟨d,.unOp op t x,ty,pos,aft,g⟩ (K ⟨[],[]⟩) s:=(rfl)
def Ky (t u:TypeId)(x:Operand):bE P G ⟨d,.convert t u x,ty,pos,aft,g⟩ K s=aX P G none QF ⟨d,.convert t u x,ty,pos,aft,g⟩ (K ⟨[],aR (ar G s.ρ x)⟩) s:=(rfl)
def Kz (t:TypeId)(x:Operand):bE P G ⟨d,.makeInterface t x,ty,pos,aft,g⟩ K s=aX P G none QF ⟨d,.makeInterface t x,ty,pos,aft,g⟩ (K ⟨[],[]⟩) s:=(rfl)
def KA (f:Fn)(x y:Array Operand):bE P G ⟨d,.makeFunc f x y,ty,pos,aft,g⟩ K s=aX P G none QF ⟨d,.makeFunc f x y,ty,pos,aft,g⟩ (K ⟨[],[]⟩) s:=(rfl)
def KB (t:TypeId)(x y:Operand):bE P G ⟨d,.makeSlice t x y,ty,pos,aft,g⟩ K s=aX P G none QF ⟨d,.makeSlice t x y,ty,pos,aft,g⟩ (K ⟨[s.H.A],[]⟩) s:=(rfl)
def KC (t:TypeId)(x:Operand)(lo hi mx:Option Operand):bE P G ⟨d,.slice t x lo hi mx,ty,pos,aft,g⟩ K s=aX P G none QF ⟨d,.slice t x lo hi mx,ty,pos,aft,g⟩ (K ⟨[],aR (ar G s.ρ x)⟩) s:=(rfl)
def KD (t:TypeId)(x:Operand)(f:Nat):bE P G ⟨d,.fieldAddr t x f,ty,pos,aft,g⟩ K s=aX P G none QF ⟨d,.fieldAddr t x f,ty,pos,aft,g⟩ (K ⟨[],aR (ar G s.ρ x)⟩) s:=(rfl)
def KE (t:TypeId)(x:Operand)(f:Nat):bE P G ⟨d,.field t x f,ty,pos,aft,g⟩ K s=aX P G none QF ⟨d,.field t x f,ty,pos,aft,g⟩ (K ⟨[],[]⟩) s:=(rfl)
def KF (t:TypeId)(x y:Operand):bE P G ⟨d,.indexAddr t x y,ty,pos,aft,g⟩ K s=aX P G none QF ⟨d,.indexAddr t x y,ty,pos,aft,g⟩ (K ⟨[],aR (ar G s.ρ x)⟩) s:=(rfl)
def KG (t:TypeId)(x y:Operand):bE P G ⟨d,.index t x y,ty,pos,aft,g⟩ K s=aX P G none QF ⟨d,.index t x y,ty,pos,aft,g⟩ (K ⟨[],[]⟩) s:=(rfl)
def KH (x:Operand)(f:Nat):bE P G ⟨d,.extract x f,ty,pos,aft,g⟩ K s=aX P G none QF ⟨d,.extract x f,ty,pos,aft,g⟩ (K ⟨[],[]⟩) s:=(rfl)
def KI (f:Builtin)(args:Array Operand)(ats:Array TypeId):bE P G ⟨d,.call ⟨.builtin f,args,ats⟩,ty,pos,aft,g⟩ K s =
  aX P G none QF ⟨d,.call ⟨.builtin f,args,ats⟩,ty,pos,aft,g⟩ (K (kS P s.H.A f ats.toList (args.toList.map (ar G s.ρ)))) s:=rfl
end
def KJ (v:Value):aR (.lit v)=[]:=rfl
def KK (n:Nat)(l:List ZL):aR (.Q n l)=[]:=rfl
def KL (l:List ZL)(o:Nat):aR (.ni l o)=[]:=rfl
def KM (l:List ZL):aR (.agg l)=[]:=rfl
def KN (id g o l z:Nat):aR (.U id g o l z)=[id]:=rfl
def KO (id g o:Nat):aR (.O id g o)=[id]:=rfl
def KP (id g o l z:Nat):lZ (.U id g o l z)=true:=rfl
def KQ (v:Value):lZ (.lit v)=false:=rfl
def KR (n:Nat)(l:List ZL):lZ (.Q n l)=false:=rfl
def KS (id:Nat)(t:TypeId)(x:ZL):kS P id .len [t] [x]=⟨[],mP P t x⟩:=rfl
def KT (id:Nat)(ts:List TypeId)(x y:ZL):kS P id .append ts [x,y]=if lZ x=true then ⟨aR x,aR x++aR y⟩ else ⟨[id],aR y⟩:=by
 cases ts with
 |nil=>rfl
 |cons t ts=>cases ts<;>rfl
def KU (id:Nat)(ts:List TypeId)(x y:ZL):kS P id .copy ts [x,y]=⟨aR x,aR x++aR y⟩:=by
 cases ts with
 |nil=>rfl
 |cons t ts=>cases ts<;>rfl
def KV (t:TypeId)(x:ZL)(h:aR x=[]):mP P t x=[]:=by unfold mP;split<;>first|exact h|rfl
def KW (t:TypeId)(n:Nat)(l:List ZL):mP P t (.Q n l)=[]:=KV _ _ rfl
def oo (f f':FP):Prop:=(∀r,r∈f.nC->r ∉ f'.rs)/\(∀r,r∈f'.nC->r ∉ f.rs)
def KX (b:Nat)(f:FP):jt b f []=True:=by simp[jt]
def KY (b:Nat)(f:FP)(j:Nat)(f':FP)(acc:List (Nat × FP)):jt b f ((j,f') :: acc)=((b / 2 ^ j % 2=1\/oo f f')/\jt b f acc):=by
 simp only[jt,List.forall_mem_cons,Nat.testBit_eq_decide_div_mod_eq,Yu,eq_iff_iff];refine and_congr ⟨fun h=>?_,fun h hb=>?_⟩ Iff.rfl
 ·by_cases hb:b / 2 ^ j % 2=1
  ·exact .inl hb
  ·exact .inr (h hb)
 ·rcases h with h|h
  ·exact absurd h hb
  ·exact h
def KZ (b:Nat)(acc:List (Nat × FP)):jt b ⟨[],[]⟩ acc=True:=by
 simp[jt]
def K0 (e r e' r':List Nat):oo ⟨e,r⟩ ⟨e',r'⟩=((∀x,x∈e->x ∉ r')/\∀x,x∈e'->x ∉ r):=rfl
def K2 (i:Nat)(acc:List (Nat × FP)):fK i ⟨[],[]⟩ acc=acc:=rfl
def K3 (i x:Nat)(e r:List Nat)(acc:List (Nat × FP)):fK i ⟨x :: e,r⟩ acc=(i,⟨x :: e,r⟩) :: acc:=rfl
def K4 (i x:Nat)(e r:List Nat)(acc:List (Nat × FP)):fK i ⟨e,x :: r⟩ acc=(i,⟨e,x :: r⟩) :: acc:=by cases e<;>rfl
def aY.mk {f:FuncId}{first cap args:List ZL}{H:ZK}{v:ZL}{rs:List Nat}(hlt:∀r,r∈rs->r<H.A)
  (h:∀H2:ZK,(∀r,r∈rs->H2.get r=H.get r)->H.A<=H2.A->ae P G f (first++args++cap) H2 fun r H3=>r=.ret v/\H3=H2):aY P G (.X f first cap) args H v rs :=
 ⟨hlt,fun H2 h1 h2=>ak.X (h H2 h1 h2)⟩
def aY.pure {f:FuncId}{args:List ZL}{H:ZK}{v:ZL}(h:∀H2:ZK,ae P G f args H2 fun r H3=>r=.ret v/\H3=H2):aY P G (.X f [] []) args H v [] :=
 aY.mk (fun _ h=>by cases h) fun H2 _ _=>by simpa using h H2
def ae.pure {f:FuncId}{args:List ZL}{H:ZK}{v:ZL}{K:ZQ->ZK->Prop}(h:∀H2:ZK,ae P G f args H2 fun r H3=>r=.ret v/\H3=H2)(hk:K (.ret v) H):ae P G f args H K :=
 (h H).mono fun r H3 ⟨h1,h2⟩=>by rw[h1,h2];exact hk
def W.dr {n:Nat}{id:Nat}{all:Array Oper}{rd:Option Nat}{Q:AX -> St -> Prop}{s:St}(K:Nat)(bs:List Nat)(hm:P.follows .mixedOrders=true)(h:dW P G all (opsV P G rd Q all (all.toList.drop K)) bs 0 [] (all.toList.take K) s)(hfit:all.toList.all (eP n)=true := by kernel_rfl)(hst:sV all bs K=true := by kernel_rfl):W P G n rd (.region id all true) Q s := W.draw K bs hm hfit hst h
def ae.st {H : ZK} {f : FuncId} {fn : Func} {c : Code} {args : List ZL} {K : ZQ → ZK → Prop} {rs : List ResultVar} {n : Nat} (hf : P.funcs[f]? = some fn) (h : vc P G n none c (qS P G rs H K) ⟨dD args, H⟩) (hb : fn.body = some c := by exact rfl) (hres : fn.results.toList = rs := by exact rfl) (hnt : fn.ntmps = n := by exact rfl) (hname : (fn.name == "runtime.NumGoroutine") = false := by decide) (hfit : fits n c = true := by kernel_rfl) (hargs : args.length ≤ n := by simp) : ae P G f args H K := .Ig hf hb hres hnt hname hfit hargs h
def ae.sw {H : ZK} {f : FuncId} {fn : Func} {c : Code} {args : List ZL} {K : ZQ → ZK → Prop} {rs : List ResultVar} {n : Nat} (hf : P.funcs[f]? = some fn) (h : W P G n none c (qS P G rs H K) ⟨dD args, H⟩) (hb : fn.body = some c := by exact rfl) (hres : fn.results.toList = rs := by exact rfl) (hnt : fn.ntmps = n := by exact rfl) (hname : (fn.name == "runtime.NumGoroutine") = false := by decide) (hargs : args.length ≤ n := by simp) : ae P G f args H K := .BX hf hb hres hnt hname hargs h
end Go.Hx
namespace Go.Hx
variable {P:Program} {G:Nat->Option (List ZL)} {H:ZK}
def iK (H:ZK)(x:ZL):Option ZL :=
 match x with
  |.Q len _=>some (.lit (.int .i64 len))
  |.U id gen _ len _=>(H.na id gen).map fun _=>.lit (.int .i64 len)
  |.lit (.slice none 0 0)=>some (.lit (.int .i64 0))
  |_=>none
def yM (x:ZL):Option ZL :=
 match x with
  |.lit (.string s)=>some (.lit (.int .i64 s.size))
  |_=>none
def tg (d:Option TypeDesc)(H:ZK)(x:ZL):Option ZL :=
 match d with
 |some (.slice _)=>iK H x
 |some .string=>yM x
 |some (.array n _)=>some (.lit (.int .i64 n))
 |_=>none
def Lh (t:TypeId)(x:ZL):nS P H t x=tg (P.underlying t) H x:=rfl
def rf (e:TypeId)(x:ZL):tg (some (.slice e)) H x=iK H x:=rfl
def Li (x:ZL):tg (some .string) H x=yM x:=rfl
def Lj (n:Nat)(e:TypeId)(x:ZL):tg (some (.array n e)) H x=some (.lit (.int .i64 n)):=rfl
def Lk (n:Nat)(l:List ZL):iK H (.Q n l)=some (.lit (.int .i64 n)):=rfl
def Cn (id g o n z:Nat):iK H (.U id g o n z)=(H.na id g).map fun _=>.lit (.int .i64 n):=rfl
def Ll:iK H (.lit (.slice none 0 0))=some (.lit (.int .i64 0)):=rfl
def Lm (s:ByteArray):yM (.lit (.string s))=some (.lit (.int .i64 s.size)):=rfl
def mQ (d:Option TypeDesc)(n:Nat)(cells:List ZL)(off:Nat):Option ZL :=
 match d with
 |none=>none
 |some d=>if qC d then (if off+n<=cells.length then some (.agg ((cells.drop off).take n)) else none) else cells[off]?
def Ln (t:TypeId)(cells:List ZL)(off:Nat):iY P t cells off=mQ (P.underlying t) (P.cellsOf t) cells off:=rfl
def Lo (k:IntKind)(n:Nat)(cells:List ZL)(off:Nat):mQ (some (.int k)) n cells off=cells[off]?:=rfl
def Lp (n:Nat)(cells:List ZL)(off:Nat):mQ (some .bool) n cells off=cells[off]?:=rfl
def Lq (n:Nat)(cells:List ZL)(off:Nat):mQ (some .string) n cells off=cells[off]?:=rfl
def Lr (e:TypeId)(n:Nat)(cells:List ZL)(off:Nat):mQ (some (.slice e)) n cells off=cells[off]?:=rfl
def Ls (e:TypeId)(n:Nat)(cells:List ZL)(off:Nat):mQ (some (.pointer e)) n cells off=cells[off]?:=rfl
def Lt (fs:Array Field)(n:Nat)(cells:List ZL)(off:Nat):mQ (some (.struct fs)) n cells off=if off+n<=cells.length then some (.agg ((cells.drop off).take n)) else none:=rfl
def Lu (k:Nat)(e:TypeId)(n:Nat)(cells:List ZL)(off:Nat):mQ (some (.array k e)) n cells off=if off+n<=cells.length then some (.agg ((cells.drop off).take n)) else none:=rfl
def Lv (cells vs:List ZL):setAt cells 0 vs=vs++cells.drop vs.length:=by simp[setAt]
def Lw (c:ZL)(cells vs:List ZL)(off:Nat):setAt (c :: cells) (off+1) vs=c :: setAt cells off vs:=by simp[setAt,Nat.succ_add]
def Lx (t:TypeId)(cells:List ZL)(off:Nat):ir P H t (.ni cells off)=iY P t cells off:=rfl
def Ly (t:TypeId)(id gen off:Nat):ir P H t (.O id gen off)=(H.na id gen).bind fun ec=>iY P t ec.2 off:=by
 simp only[ZK.na,ir];generalize H.get id=x;cases x with
 |none=>rfl
 |some b =>
  cases b with
  |J g e cells =>
   simp only;by_cases hg:g=gen
   ·rw[Vh hg,Vh hg];rfl
   ·rw[Vg hg,Vg hg];rfl
  |_=>rfl
def Lz (t:TypeId)(id gen off:Nat)(v:ZL):j9 P H t (.O id gen off) v =
  (H.na id gen).bind fun ec=>if v.cells.length=P.cellsOf t/\v.cells.all ZL.one=true/\off+v.cells.length<=ec.2.length then some (H.upd id (.J gen ec.1 (setAt ec.2 off v.cells))) else none:=by
 simp only[ZK.na,j9];generalize H.get id=x;cases x with
 |none=>rfl
 |some b =>
  cases b with
  |J g e cells =>
   simp only;by_cases hg:g=gen
   ·subst hg;simp
   ·rw[Vg hg,Vg (fun h=>hg h.1)];rfl
  |_=>rfl
def u5 (H:ZK)(c:Nat)(x:ZL)(i:Int):Option ZL :=
 match x with
 |.U id gen off len sz=>if 0<=i/\i<(len:Int)/\sz=c then (H.na id gen).map fun _=>.O id gen (off+i.toNat*c) else none
 |.Q len cells=>if 0<=i/\i<(len:Int)/\cells≠[] then some (.ni cells (i.toNat*c)) else none
 |_=>none
def ti (H:ZK)(c n:Nat)(x:ZL)(i:Int):Option ZL :=
 if 0<=i/\i<(n:Int) then
   match x with
   |.O id gen off=>(H.na id gen).map fun _=>.O id gen (off+i.toNat*c)
   |.ni cells off=>some (.ni cells (off+i.toNat*c))
   |_=>none
 else none
def u9 (P:Program)(H:ZK)(d:Option TypeDesc)(x:ZL)(i:Int):Option ZL :=
 match d with
 |some (.array n e)=>if (P.underlying e).isSome then ti H (P.cellsOf e) n x i else none
 |some (.slice e)=>if (P.underlying e).isSome then u5 H (P.cellsOf e) x i else none
 |_=>none
def LA (t:TypeId)(x:ZL)(k:IntKind)(i:Int):uS P H t x (.lit (.int k i))=u9 P H (P.underlying t) x i:=by
 simp only[uS,nO,u9];cases P.underlying t with
 |none=>rfl
 |some d =>
  cases d with
  |array n e =>
   simp only[ti];by_cases h:(P.underlying e).isSome=true
   ·simp only[h,and_true,if_true];rfl
   ·rw[Vg h,Vg (fun h'=>h h'.2.2)]
  |slice e=>rfl
  |_=>rfl
def LB (e:TypeId)(x:ZL)(i:Int):u9 P H (some (.slice e)) x i=if (P.underlying e).isSome=true then u5 H (P.cellsOf e) x i else none:=rfl
def LC (n:Nat)(e:TypeId)(x:ZL)(i:Int):u9 P H (some (.array n e)) x i=if (P.underlying e).isSome=true then ti H (P.cellsOf e) n x i else none:=rfl
def LD (c n:Nat)(l:List ZL)(i:Int):u5 H c (.Q n l) i=if 0<=i/\i<(n:Int)/\l≠[] then some (.ni l (i.toNat*c)) else none:=rfl
def LF (c id g o n z:Nat)(i:Int):u5 H c (.U id g o n z) i=if 0<=i/\i<(n:Int)/\z=c then (H.na id g).map fun _=>.O id g (o+i.toNat*c) else none:=rfl
def LG (c n:Nat)(l:List ZL)(o:Nat)(i:Int):ti H c n (.ni l o) i=if 0<=i/\i<(n:Int) then some (.ni l (o+i.toNat*c)) else none:=rfl
def LH (c n id g o:Nat)(i:Int):ti H c n (.O id g o) i=if 0<=i/\i<(n:Int) then (H.na id g).map fun _=>.O id g (o+i.toNat*c) else none:=rfl
def tj (H:ZK)(c:Nat)(x:ZL)(lo hi:Option ZL):Option ZL :=
   match x with
   |.U id gen off len sz=>if sz=c then (H.na id gen).bind fun _=>(cz hi len len).bind fun h=>(cz lo 0 h).map fun l=>.U id gen (off+l*sz) (h-l) sz else none
   |.Q len cells=>if cells.length=len*c then (cz hi len len).bind fun h=>(cz lo 0 h).map fun l=>.Q (h-l) ((cells.drop (l*c)).take ((h-l)*c)) else none
   |.lit (.slice none 0 0)=>(cz hi 0 0).bind fun h=>(cz lo 0 h).map fun _=>.lit (.slice none 0 0)
   |_=>none
def yO (H:ZK)(c n:Nat)(x:ZL)(lo hi:Option ZL):Option ZL :=
   match x with
   |.O id gen off =>
    match H.na id gen with
    |some (_,cells) =>
     if off+n*c<=cells.length then
      (cz hi n n).bind fun h=>(cz lo 0 h).map fun l=>.U id gen (off+l*c) (h-l) c
     else none
    |none=>none
   | .ni cells off=>if off+n*c≤cells.length then
      (cz hi n n).bind fun h=>(cz lo 0 h).map fun l=>.Q (h-l) ((cells.drop (off+l*c)).take ((h-l)*c))
     else none
   |_=>none
def yQ (x:ZL)(lo hi:Option ZL):Option ZL :=
  match x with
  |.lit (.string s)=>(cz hi s.size s.size).bind fun h=>(cz lo 0 h).map fun l=>.lit (.string (s.extract l h))
  |_=>none
def va (P:Program)(H:ZK)(d:Option TypeDesc)(x:ZL)(lo hi:Option ZL):Option ZL :=
 match d with
 |some (.array n e)=>if (P.underlying e).isSome then yO H (P.cellsOf e) n x lo hi else none
 |some (.slice e)=>if (P.underlying e).isSome then tj H (P.cellsOf e) x lo hi else none
 |some .string=>yQ x lo hi
 |_=>none
def LI (t:TypeId)(x:ZL)(lo hi:Option ZL):nP P H t x lo hi=va P H (P.underlying t) x lo hi:=rfl
def LJ (e:TypeId)(x:ZL)(lo hi:Option ZL):va P H (some (.slice e)) x lo hi=if (P.underlying e).isSome=true then tj H (P.cellsOf e) x lo hi else none:=rfl
def LK (n:Nat)(e:TypeId)(x:ZL)(lo hi:Option ZL):va P H (some (.array n e)) x lo hi=if (P.underlying e).isSome=true then yO H (P.cellsOf e) n x lo hi else none:=rfl
def LL (x:ZL)(lo hi:Option ZL):va P H (some .string) x lo hi=yQ x lo hi:=rfl
def LM (c id g o n z:Nat)(lo hi:Option ZL):tj H c (.U id g o n z) lo hi=if z=c then (H.na id g).bind fun _=>(cz hi n n).bind fun h=>(cz lo 0 h).map fun l=>.U id g (o+l*z) (h-l) z else none:=rfl
def LN (c n:Nat)(cells:List ZL)(lo hi:Option ZL):tj H c (.Q n cells) lo hi=if cells.length=n*c then (cz hi n n).bind fun h=>(cz lo 0 h).map fun l=>.Q (h-l) ((cells.drop (l*c)).take ((h-l)*c)) else none:=rfl
def LO (c:Nat)(lo hi:Option ZL):tj H c (.lit (.slice none 0 0)) lo hi=(cz hi 0 0).bind fun h=>(cz lo 0 h).map fun _=>.lit (.slice none 0 0):=rfl
def LP (c n:Nat)(cells:List ZL)(off:Nat)(lo hi:Option ZL):yO H c n (.ni cells off) lo hi=if off+n*c<=cells.length then
      (cz hi n n).bind fun h=>(cz lo 0 h).map fun l=>.Q (h-l) ((cells.drop (off+l*c)).take ((h-l)*c)) else none:=rfl
def LR (s:ByteArray)(lo hi:Option ZL):yQ (.lit (.string s)) lo hi=(cz hi s.size s.size).bind fun h=>(cz lo 0 h).map fun l=>.lit (.string (s.extract l h)):=rfl
def LS (d m:Nat):cz none d m=some d:=rfl
def LU (k:IntKind)(i:Int)(d m:Nat):cz (some (.lit (.int k i))) d m=if 0<=i/\i<=(m:Int) then some i.toNat else none:=rfl
def LV (sz n:Nat)(l:List ZL):dc H sz (.Q n l)=if l.length=n*sz then some (n,l) else none:=rfl
def tn (sz id g o n z:Nat):dc H sz (.U id g o n z)=if z=sz then (H.na id g).map fun x=>(n,(x.2.drop o).take (n*sz)) else none:=rfl
def yR (sz:Nat):dc H sz (.lit (.slice none 0 0))=some (0,[]):=rfl
def vb (P:Program)(H:ZK)(id:Nat)(d0 d1:Option TypeDesc)(s x:ZL):Option (ZL × ZK) :=
 match d0,d1 with
 | some (.slice e),some (.slice _)=>(bQ P e).bind fun _=>(dc H (P.cellsOf e) x).bind fun nx =>
    match s with
    |.lit (.slice none 0 0) =>
     if nx.1=0 then some (s,H)
     else if nx.1*P.bytesOf e<=2 ^ 47/\nx.1<=2 ^ 47 then (H.lay id (.J 0 e nx.2)).map fun H'=>(.U id 0 0 nx.1 (P.cellsOf e),H')
     else none
    |.U id' gen off len sz =>
     (H.na id' gen).bind fun ec =>
      if ec.1=e/\sz=P.cellsOf e/\off+len*sz=ec.2.length/\(len+nx.1)*P.bytesOf e<=2 ^ 47/\len+nx.1<=2 ^ 47/\nx.2.all ZL.one=true then
       if nx.1=0 then some (s,H)
       else some (.U id' (gen+1) 0 (len+nx.1) sz,H.upd id' (.J (gen+1) e (ec.2.drop off++nx.2)))
      else none
    |_=>none
 |_,_=>none
def az (id:Nat)(t u:TypeId)(s x:ZL):bS P H id t u s x=vb P H id (P.underlying t) (P.underlying u) s x:=by
 unfold bS vb;cases P.underlying t with
 |none=>rfl
 |some d =>
  cases d with
  |slice e =>
   cases P.underlying u with
   |none=>rfl
   |some d'=>cases d'<;>rfl
  |_=>rfl
def LW (id:Nat)(e u:TypeId)(x:ZL):vb P H id (some (.slice e)) (some (.slice u)) (.lit (.slice none 0 0)) x=(bQ P e).bind fun _=>(dc H (P.cellsOf e) x).bind fun nx =>
  if nx.1=0 then some (.lit (.slice none 0 0),H) else if nx.1*P.bytesOf e<=2 ^ 47/\nx.1<=2 ^ 47 then (H.lay id (.J 0 e nx.2)).map fun H'=>(.U id 0 0 nx.1 (P.cellsOf e),H') else none:=rfl
def LX (id:Nat)(e u:TypeId)(x:ZL)(id' gen off len sz:Nat):vb P H id (some (.slice e)) (some (.slice u)) (.U id' gen off len sz) x=(bQ P e).bind fun _=>(dc H (P.cellsOf e) x).bind fun nx =>
  (H.na id' gen).bind fun ec =>
      if ec.1=e/\sz=P.cellsOf e/\off+len*sz=ec.2.length/\(len+nx.1)*P.bytesOf e<=2 ^ 47/\len+nx.1<=2 ^ 47/\nx.2.all ZL.one=true then
       if nx.1=0 then some (.U id' gen off len sz,H)
       else some (.U id' (gen+1) 0 (len+nx.1) sz,H.upd id' (.J (gen+1) e (ec.2.drop off++nx.2)))
      else none:=rfl
def Co (P:Program)(H:ZK)(d0:Option TypeDesc)(d x:ZL):Option (ZL × ZK) :=
 match d0 with
 |some (.slice e) =>
  if (P.underlying e).isSome then
   (dc H (P.cellsOf e) x).bind fun nx =>
    match d with
    |.U id gen off len sz =>
     (H.na id gen).bind fun ec =>
      if sz=P.cellsOf e/\off+len*sz<=ec.2.length/\nx.2.all ZL.one=true then
       some (.lit (.int .i64 (min nx.1 len:Nat)),H.upd id (.J gen ec.1 (setAt ec.2 off (nx.2.take (min nx.1 len*sz)))))
      else none
    |_=>none
  else none
 |_=>none
def LY (t:TypeId)(d x:ZL):lS P H t d x=Co P H (P.underlying t) d x:=rfl
def LZ (e:TypeId)(id gen off len sz:Nat)(x:ZL):Co P H (some (.slice e)) (.U id gen off len sz) x=if (P.underlying e).isSome=true then
   (dc H (P.cellsOf e) x).bind fun nx=>(H.na id gen).bind fun ec =>
      if sz=P.cellsOf e/\off+len*sz<=ec.2.length/\nx.2.all ZL.one=true then
       some (.lit (.int .i64 (min nx.1 len:Nat)),H.upd id (.J gen ec.1 (setAt ec.2 off (nx.2.take (min nx.1 len*sz)))))
      else none
   else none:=rfl
def yS (P:Program)(H:ZK)(id:Nat)(d:Option TypeDesc)(l c:ZL):Option (ZL × ZK) :=
 match d,l,c with
 |some (.slice e),.lit (.int _ l),.lit (.int _ c) =>
  if 0<=l/\l<=c/\c*P.bytesOf e<=2 ^ 46/\c<=2 ^ 46 then
   (kf P e l.toNat).bind fun cells=>(H.lay id (.J 0 e cells)).map fun H'=>(.U id 0 0 l.toNat (P.cellsOf e),H')
  else none
 |_,_,_=>none
def L1 (id:Nat)(t:TypeId)(l c:ZL):mH P H id t l c=yS P H id (P.underlying t) l c:=by
 unfold mH yS;cases P.underlying t with
 |none=>rfl
 |some d=>rfl
def L3 (id:Nat)(e:TypeId)(k k':IntKind)(l c:Int):yS P H id (some (.slice e)) (.lit (.int k l)) (.lit (.int k' c))=if 0<=l/\l<=c/\c*P.bytesOf e<=2 ^ 46/\c<=2 ^ 46 then
   (kf P e l.toNat).bind fun cells=>(H.lay id (.J 0 e cells)).map fun H'=>(.U id 0 0 l.toNat (P.cellsOf e),H')
  else none:=rfl
def Cp (e:TypeId)(n:Nat):kf P e n=(bQ P e).map fun z=>(List.replicate n z).flatten:=rfl
def Cq (n:Nat)(v:ZL):(List.replicate n [v]).flatten=List.replicate n v:=by
 induction n with
 |zero=>rfl
 |succ n ih=>rw[W0,List.flatten_cons,ih,W0];rfl
def Cr (P:Program)(H:ZK)(id:Nat)(d:Option TypeDesc)(len:Nat)(parts:List (Nat × ZL)):Option (ZL × ZK) :=
 match d with
 |some (.slice e) =>
  if len*P.cellsOf e<=2 ^ 24 then
   (kf P e len).bind fun z=>(fR (fun i=>some (i*P.cellsOf e,P.cellsOf e)) z parts).bind fun cells =>
    (H.lay id (.J 0 e cells)).map fun H'=>(.U id 0 0 len (P.cellsOf e),H')
  else none
 |_=>none
def L4 (id:Nat)(t:TypeId)(len:Nat)(parts:List (Nat × ZL)):nU P H id t len parts=Cr P H id (P.underlying t) len parts:=rfl
def L5 (id:Nat)(e:TypeId)(len:Nat)(parts:List (Nat × ZL)):Cr P H id (some (.slice e)) len parts=if len*P.cellsOf e<=2 ^ 24 then
   (kf P e len).bind fun z=>(fR (fun i=>some (i*P.cellsOf e,P.cellsOf e)) z parts).bind fun cells =>
    (H.lay id (.J 0 e cells)).map fun H'=>(.U id 0 0 len (P.cellsOf e),H')
  else none:=rfl
def yT (P:Program)(t:TypeId)(d:Option TypeDesc)(parts:List (Nat × ZL)):Option ZL :=
 (bQ P t).bind fun z =>
  match d with
  |some (.struct _)=>(iZ P t).bind fun pl=>(fR (fun i=>pl[i]?) z parts).map .agg
  |some (.array _ e)=>if (P.underlying e).isSome then (fR (fun i=>some (i*P.cellsOf e,P.cellsOf e)) z parts).map .agg else none
  |_=>none
def L6 (t:TypeId)(parts:List (Nat × ZL)):sF P t parts=yT P t (P.underlying t) parts:=rfl
def L7 (t:TypeId)(fs:Array Field)(parts:List (Nat × ZL)):yT P t (some (.struct fs)) parts=(bQ P t).bind fun z=>(iZ P t).bind fun pl=>(fR (fun i=>pl[i]?) z parts).map .agg:=rfl
def L8 (t:TypeId)(n:Nat)(e:TypeId)(parts:List (Nat × ZL)):yT P t (some (.array n e)) parts=(bQ P t).bind fun z=>if (P.underlying e).isSome=true then (fR (fun i=>some (i*P.cellsOf e,P.cellsOf e)) z parts).map .agg else none:=rfl
def L9 (pl:Nat->Option (Nat × Nat))(cells:List ZL):fR pl cells []=some cells:=rfl
def Ma (pl:Nat->Option (Nat × Nat))(cells:List ZL)(i:Nat)(v:ZL)(rest:List (Nat × ZL)):fR pl cells ((i,v) :: rest)=(pl i).bind fun os =>
  if v.cells.length=os.2/\os.1+v.cells.length<=cells.length then fR pl (setAt cells os.1 v.cells) rest else none:=by
 simp only[fR];cases pl i<;>rfl
def Mb (k:IntKind)(n:Int):(ZL.lit (.int k n)).cells=[.lit (.int k n)]:=rfl
def Mc (b:Bool):(ZL.lit (.bool b)).cells=[.lit (.bool b)]:=rfl
def Md (s:ByteArray):(ZL.lit (.string s)).cells=[.lit (.string s)]:=rfl
def Me (a:Option Addr)(n c:Nat):(ZL.lit (.slice a n c)).cells=[.lit (.slice a n c)]:=rfl
def Mf (l:List ZL):(ZL.agg l).cells=l:=rfl
def Mg (n:Nat)(l:List ZL):(ZL.Q n l).cells=[.Q n l]:=rfl
def Mh (a b c d e:Nat):(ZL.U a b c d e).cells=[.U a b c d e]:=rfl
def Mi (a b c:Nat):(ZL.O a b c).cells=[.O a b c]:=rfl
def Mj (k:IntKind)(n:Int):(ZL.lit (.int k n)).one=true:=rfl
def Mk (b:Bool):(ZL.lit (.bool b)).one=true:=rfl
def Ml (s:ByteArray):(ZL.lit (.string s)).one=true:=rfl
def Mm (a:Option Addr)(n c:Nat):(ZL.lit (.slice a n c)).one=true:=rfl
def Mn (n:Nat)(l:List ZL):(ZL.Q n l).one=true:=rfl
def Mo (a b c d e:Nat):(ZL.U a b c d e).one=true:=rfl
def Mp (a b c:Nat):(ZL.O a b c).one=true:=rfl
def aa (n:Int):ZL:=.lit (.int .i64 n)
def ints (l:List Int):List ZL:=l.map aa
def af (l:List Int):ZL:=.Q l.length (ints l)
def bD (l:List Int):(ints l).length=l.length:=VA ..
def gZ (l:List Int)(i:Nat):(ints l)[i]?=(l[i]?).map aa:=List.getElem?_map ..
def yH (l:List Int):ints l=[]↔l=[]:=List.map_eq_nil_iff
end Go.Hx
namespace Go.Hx
variable {P:Program} {G:Nat->Option (List ZL)} {Γ Γ':aD} {H H':ZK} {w w':World}
variable {f:FuncId}{args:List ZL}{id nx:Nat}{S:Nat->Prop}{v v':ZL}{K:ZQ->ZK->Prop}
inductive Below (n:Nat):ZL->Prop
 |lit (v:Value):Below n (.lit v)
 |Q {len:Nat} {cells:List ZL} (h:∀i (h:i<cells.length),Below n cells[i]):Below n (.Q len cells)
 |ni {off:Nat} {cells:List ZL} (h:∀i (h:i<cells.length),Below n cells[i]):Below n (.ni cells off)
 |agg {cells:List ZL} (h:∀i (h:i<cells.length),Below n cells[i]):Below n (.agg cells)
 |nc {cells:List ZL} (h:∀i (h:i<cells.length),Below n cells[i]):Below n (.nc cells)
 |X {f:FuncId} {a b:List ZL} (h1:∀i (h:i<a.length),Below n a[i]) (h2:∀i (h:i<b.length),Below n b[i]):Below n (.X f a b)
 |U {id g o l z:Nat} (h:id<n):Below n (.U id g o l z)
 |O {id g o:Nat} (h:id<n):Below n (.O id g o)
 |nk {id:Nat} (h:id<n):Below n (.nk id)
def ZO.ta {cv:Value}(h:ZO P Γ H w v cv):Below H.A v:=by
 induction h with
 |lit v=>exact .lit v
 |nu a cap=>exact .Q fun i h=>absurd h (Vt _)
 |Q hb hlt hlen hcs hcell hrel ih=>exact .Q fun i h=>ih i h (V)
 |U h=>exact .U h.1
 |O h=>exact .O h.1
 |ni hb hlt hcs hcell hrel ih=>exact .ni fun i h=>ih i h (V)
 |agg hcs hrel ih=>exact .agg fun i h=>ih i h (V)
 |nc hcs hrel ih=>exact .nc fun i h=>ih i h (V)
 |X hfs hcs hf hc ih1 ih2=>exact .X (fun i h=>ih1 i h V) fun i h=>ih2 i h (V)
 |nk h=>exact .nk h.1
def te (n:Nat):ZR->Prop
 |.J _ _ cells=>∀i (h:i<cells.length),Below n cells[i]
 |.loop _ _ m env _ _ _=>∀t,t<m->Below n (env t)
 |.mp _=>True
 |.nq=>True
structure Clo (H:ZK):Prop where
 lt:∀id b,H.get id=some b->id<H.A
 below:∀id b,H.get id=some b->te H.A b
theorem ZT.X (R:ZT P G Γ H w):Clo H:=by
 refine⟨fun id b h=>R.A id b h,fun id b h=>?_⟩;cases b with
 |nq=>trivial
 |mp=>trivial
 |J g e cells =>
  intro i hi;have h1:=R.J id g e cells h;split at h1
  ·obtain⟨c,_,_,_,h5⟩:=h1;obtain⟨cv,_,h6⟩:=h5 i hi;exact h6.ta
  ·subst h1;exact absurd hi (Vt _)
 |loop st pend n env ps asg body =>
  intro t ht;obtain⟨b,r,_,_,_,_,_,_,_,h8,h9⟩:=R.loop id st pend n env ps asg body h;exact(h9 t V).ta
inductive Fz (S:Nat->Prop)(H:ZK)(nx:Nat):ZL->ZL->Prop
 |lit (v:Value):Fz S H nx (.lit v) (.lit v)
 |Q {len:Nat} {c c':List ZL} (hl:c'.length=c.length) (h:∀i (h:i<c.length) (h':i<c'.length),Fz S H nx c[i] c'[i]):Fz S H nx (.Q len c) (.Q len c')
 |ni {off:Nat} {c c':List ZL} (hl:c'.length=c.length) (h:∀i (h:i<c.length) (h':i<c'.length),Fz S H nx c[i] c'[i]):Fz S H nx (.ni c off) (.ni c' off)
 |agg {c c':List ZL} (hl:c'.length=c.length) (h:∀i (h:i<c.length) (h':i<c'.length),Fz S H nx c[i] c'[i]):Fz S H nx (.agg c) (.agg c')
 |nc {c c':List ZL} (hl:c'.length=c.length) (h:∀i (h:i<c.length) (h':i<c'.length),Fz S H nx c[i] c'[i]):Fz S H nx (.nc c) (.nc c')
 |X {f:FuncId} {a a' b b':List ZL} (ha:a'.length=a.length) (hb:b'.length=b.length) (h1:∀i (h:i<a.length) (h':i<a'.length),Fz S H nx a[i] a'[i]) (h2:∀i (h:i<b.length) (h':i<b'.length),Fz S H nx b[i] b'[i]):Fz S H nx (.X f a b) (.X f a' b')
 |U {id g o l z:Nat} (h:id<nx) (hs:¬S id):Fz S H nx (.U id g o l z) (.U id g o l z)
 |O {id g o:Nat} (h:id<nx) (hs:¬S id):Fz S H nx (.O id g o) (.O id g o)
 |nk {id:Nat} (h:id<nx) (hs:¬S id):Fz S H nx (.nk id) (.nk id)
 |deadOwn {id g o l z:Nat} (h:id<nx) (hs:S id):Fz S H nx (.U id g o l z) (.U id g o l z)
 |deadPtr {id g o:Nat} (h:id<nx) (hs:S id):Fz S H nx (.O id g o) (.O id g o)
 |deadYld {id:Nat} (h:id<nx) (hs:S id):Fz S H nx (.nk id) (.nk id)
 |nil:Fz S H nx (.lit (.slice none 0 0)) (.Q 0 [])
 |ny {id g o l z:Nat} {e:TypeId} {cells c':List ZL} (hs:S id) (hg:H.get id=some (.J g e cells)) (hl:c'.length=l*z)
   (h:∀i (h:i<l*z) (h2:o+i<cells.length) (h':i<c'.length),Fz S H nx cells[o+i] c'[i]):Fz S H nx (.U id g o l z) (.Q l c')
 |nN {id g o:Nat} {e:TypeId} {cells c':List ZL} (hs:S id) (hg:H.get id=some (.J g e cells)) (hne:cells≠[]) (hl:c'.length=cells.length)
   (h:∀i (h:i<cells.length) (h':i<c'.length),Fz S H nx cells[i] c'[i]):Fz S H nx (.O id g o) (.ni c' o)
def Fz.refl {H:ZK}(h:Below nx v)(hs:∀id,id<nx->¬S id):Fz S H nx v v:=by
 induction h with
 |lit v=>exact .lit v
 |Q _ ih=>exact .Q rfl fun i h _=>ih i h
 |ni _ ih=>exact .ni rfl fun i h _=>ih i h
 |agg _ ih=>exact .agg rfl fun i h _=>ih i h
 |nc _ ih=>exact .nc rfl fun i h _=>ih i h
 |X _ _ ih1 ih2=>exact .X rfl rfl (fun i h _=>ih1 i h) fun i h _=>ih2 i h
 |U h=>exact .U h (hs _ h)
 |O h=>exact .O h (hs _ h)
 |nk h=>exact .nk h (hs _ h)
def Cl (S:Nat->Prop)(H:ZK)(nx:Nat):ZR->ZR->Prop
 |.J g e c,.J g' e' c'=>g'=g/\e'=e/\c'.length=c.length/\∀i (_:i<c.length) (_:i<c'.length),Fz S H nx c[i] c'[i]
 |.loop st pend n env ps asg body,.loop st' pend' n' env' ps' asg' body'=>st'=st/\pend'=pend/\n'=n/\env'=env/\ps'=ps/\asg'=asg/\body'=body/\∀t,t<n->Fz S H nx (env t) (env t)
 |.mp es,.mp es'=>es'=es
 |.nq,.nq=>True
 |_,_=>False
structure FzH (S:Nat->Prop)(H H':ZK):Prop where
 gone:∀id,S id->H'.get id=none
 kept:∀id b,¬S id->H.get id=some b->id<H'.A/\∃b',H'.get id=some b'/\Cl S H H'.A b b'
 none:∀id,¬S id->H.get id=none->H'.get id=none
open Classical in
noncomputable def gH (S:Nat->Prop)(Γ:aD):aD:=fun id=>if S id then none else Γ id
def jK (h:¬S id):gH S Γ id=Γ id:=by simp[gH,h]
def kV {x:Nat × Nat × Nat}(h:gH S Γ id=some x):¬S id/\Γ id=some x:=by
 unfold gH at h;split at h
 ·cases h
 ·exact⟨by assumption,h⟩
def uY {b:Nat}(h:(gH S Γ).fH b):Γ.fH b:=by
 obtain⟨id,base,n,h⟩:=h;exact⟨id,base,n,(kV h).2⟩
def FzH.back (F:FzH S H H'){b':ZR}(h:H'.get id=some b'):¬S id/\∃b,H.get id=some b/\Cl S H H'.A b b'/\id<H'.A:=by
 have hs:¬S id:=fun hs=>by rw[F.gone id hs]at h;cases h
 refine⟨hs,?_⟩;cases hg:H.get id with
 |none=>rw[F.none id hs hg]at h;cases h
 |some b =>
  obtain⟨h1,b1,h2,h3⟩:=F.kept id b hs hg;rw[h]at h2;cases h2;exact⟨b,rfl,h3,h1⟩
def Fz.sound (R:ZT P G Γ H w)(F:FzH S H H')(hf:Fz S H H'.A v v'):∀ {cv:Value},ZO P Γ H w v cv->ZO P (gH S Γ) H' w v' cv:=by
 induction hf with
 |lit v=>intro cv h;cases h;exact .lit _
 |nil=>intro cv h;cases h;exact .nu none 0
 |deadOwn hlt hs =>
  intro cv h;cases h with
  |U h=>exact .U ⟨hlt,h.2.1,fun hr=>(by rw[F.gone _ hs]at hr;cases hr),fun _ _ _ hg=>(by rw[F.gone _ hs]at hg;cases hg)⟩
 |deadPtr hlt hs =>
  intro cv h;cases h with
  |O h=>exact .O ⟨hlt,h.2.1,fun hr=>(by rw[F.gone _ hs]at hr;cases hr),fun _ _ _ hg=>(by rw[F.gone _ hs]at hg;cases hg)⟩
 |deadYld hlt hs =>
  intro cv h;cases h with
  |nk h=>exact .nk ⟨hlt,h.2.1,fun hr=>(by rw[F.gone _ hs]at hr;cases hr),fun _ _ _ _ _ _ _ hg=>(by rw[F.gone _ hs]at hg;cases hg),fun _ hg=>(by rw[F.gone _ hs]at hg;cases hg)⟩
 |Q hl hc ih =>
  intro cv h;cases h with
  |nu a cap =>
   rename_i c';have:c'=[]:=Vp hl;subst this;exact .nu a cap
  |Q hb hlt hlen hcs hcell hrel=>exact .Q (fun h=>hb (uY h)) hlt hlen V hcell fun i h1 h2=>ih i V h1 (hrel i V h2)
 |ni hl hc ih =>
  intro cv h;cases h with
  |ni hb hlt hcs hcell hrel=>exact .ni (fun h=>hb (uY h)) hlt V hcell fun i h1 h2=>ih i V h1 (hrel i V h2)
 |agg hl hc ih =>
  intro cv h;cases h with
  |agg hcs hrel=>exact .agg V fun i h1 h2=>ih i V h1 (hrel i V h2)
 |nc hl hc ih =>
  intro cv h;cases h with
  |nc hcs hrel=>exact .nc V fun i h1 h2=>ih i V h1 (hrel i V h2)
 |X ha hb h1 h2 ih1 ih2 =>
  intro cv h;cases h with
  |X hfs hcs hf hc=>exact .X V V (fun i a b=>ih1 i V a (hf i V b)) fun i a b=>ih2 i V a (hc i V b)
 |U hlt hs =>
  intro cv h;cases h with
  |U h =>
   obtain⟨h1,h2,h0,h3⟩:=h;refine .U ⟨hlt,h2,fun hr=>?_,fun g' e' cells' hg'=>?_⟩
   ·obtain⟨_,b,hb,hfb,_⟩:=F.back hr;cases b with
    |nq=>exact h0 hb
    |_=>exact hfb.elim
   ·obtain⟨_,b,hb,hfb,_⟩:=F.back hg';cases b with
    |J g e cells =>
     obtain⟨rfl,rfl,hlen,_⟩:=hfb;have:=h3 _ _ _ hb;rw[jK hs,hlen];exact this
    |_=>exact hfb.elim
 |O hlt hs =>
  intro cv h;cases h with
  |O h =>
   obtain⟨h1,h2,h0,h3⟩:=h;refine .O ⟨hlt,h2,fun hr=>?_,fun g' e' cells' hg'=>?_⟩
   ·obtain⟨_,b,hb,hfb,_⟩:=F.back hr;cases b with
    |nq=>exact h0 hb
    |_=>exact hfb.elim
   ·obtain⟨_,b,hb,hfb,_⟩:=F.back hg';cases b with
    |J g e cells =>
     obtain⟨rfl,rfl,hlen,_⟩:=hfb;have:=h3 _ _ _ hb;rw[jK hs];exact this
    |_=>exact hfb.elim
 |nk hlt hs =>
  intro cv h;cases h with
  |nk h =>
   obtain⟨h1,h2,h0,h3,h4⟩:=h;refine .nk ⟨hlt,h2,fun hr=>?_,fun st pend n env ps asg body hg'=>?_,fun es hg'=>?_⟩
   ·obtain⟨_,b,hb,hfb,_⟩:=F.back hr;cases b with
    |nq=>exact h0 hb
    |_=>exact hfb.elim
   ·obtain⟨_,b,hb,hfb,_⟩:=F.back hg';cases b with
    |loop st0 pend0 n0 env0 ps0 asg0 body0 =>
     have:=h3 _ _ _ _ _ _ _ hb;rw[jK hs];exact this
    |_=>exact hfb.elim
   ·obtain⟨_,b,hb,hfb,_⟩:=F.back hg';cases b with
    |mp es0 =>
     have:=h4 _ hb;rw[jK hs];exact this
    |_=>exact hfb.elim
 | @ny id g o l z e cells c' hs hg hl hc ih =>
  intro cv h;cases h with
  |U h =>
   obtain⟨h1,h2,h0,h3⟩:=h;have h4:=(h3 _ _ _ hg).2 rfl;have harr:=R.J id g e cells hg;cases hΓ:Γ id with
   |none =>
    rw[hΓ]at h4;obtain⟨rfl,rfl,rfl⟩:=h4;have:c'=[]:=Vp (by simpa using hl);subst this;exact .nu _ _
   |some y =>
    obtain⟨b,base,n⟩:=y;rw[hΓ]at h4 harr;obtain⟨a,cap,rfl,hcap,hoff,hor⟩:=h4;obtain⟨c,a1,a2,a3,a4⟩:=harr;rcases hor with ⟨rfl,hn⟩|⟨rfl,rfl⟩
    ·have hcell:∀i,i<l*z->∃cv,c[base+(o+i)]?=some cv/\∀(h:o+i<cells.length),ZO P Γ H w cells[o+i] cv:=fun i hi=>by
      obtain⟨cv,b1,b2⟩:=a4 (o+i) V;exact⟨cv,b1,fun _=>b2⟩
     let cs:List Value:=(List.range (l*z)).map fun i=>(c[base+(o+i)]?).getD undef
     have hcs:cs.length=c'.length:=(by simp[cs,hl]);refine .Q (cs:=cs) (fun ho=>?_) (R.lt _ _ _ _ hΓ) hcap hcs (fun i hi=>?_) fun i hi hi'=>?_
     ·obtain⟨id',base',n',h'⟩:=ho;obtain⟨hns,h''⟩:=kV h';have:=R.inj _ _ _ _ _ _ _ h'' hΓ;subst this;exact hns hs
     ·have hi2:i<l*z:=(by rw[hcs,hl]at hi;exact hi);obtain⟨cv,b1,_⟩:=hcell i hi2;have:cs[i]=cv:=(by simp[cs,b1]);rw[this];have he:base+o+i=base+(o+i):=V;simp only[World.cell?,a1,he];exact b1
     ·have hi2:i<l*z:=(by rw[hl]at hi;exact hi);obtain⟨cv,b1,b2⟩:=hcell i hi2;have:cs[i]=cv:=(by simp[cs,b1]);rw[this];exact ih i hi2 V hi (b2 V)
    ·have:c'=[]:=Vp (by simpa using hl);subst this;exact .nu _ _
 | @nN id g o e cells c' hs hg hne hl hc ih =>
  intro cv h;cases h with
  |O h =>
   obtain⟨h1,h2,h0,h3⟩:=h;obtain⟨b,base,n,hΓ,rfl⟩:=(h3 _ _ _ hg).2 rfl;have harr:=R.J id g e cells hg;rw[hΓ]at harr;obtain⟨c,a1,a2,a3,a4⟩:=harr
   let cs:List Value:=(List.range cells.length).map fun i=>(c[base+i]?).getD undef
   have hcs:cs.length=c'.length:=(by simp[cs,hl]);have hcell:∀i (hi:i<cells.length) (hi':i<cs.length),c[base+i]?=some cs[i]/\ZO P Γ H w cells[i] cs[i]:=fun i hi hi'=>by
    obtain⟨cv,b1,b2⟩:=a4 i hi;have:cs[i]=cv:=(by simp[cs,b1]);rw[this];exact⟨b1,b2⟩
   refine .ni (cs:=cs) (fun ho=>?_) (R.lt _ _ _ _ hΓ) hcs (fun i hi=>?_) fun i hi hi'=>?_
   ·obtain⟨id',base',n',h'⟩:=ho;obtain⟨hns,h''⟩:=kV h';have:=R.inj _ _ _ _ _ _ _ h'' hΓ;subst this;exact hns hs
   ·simp only[World.cell?,a1];exact(hcell i V hi).1
   ·exact ih i V hi (hcell i V hi').2
def Fz.plain {H:ZK}(h:Below 0 v):Fz S H nx v v:=by
 induction h with
 |lit v=>exact .lit v
 |Q _ ih=>exact .Q rfl fun i h _=>ih i h
 |ni _ ih=>exact .ni rfl fun i h _=>ih i h
 |agg _ ih=>exact .agg rfl fun i h _=>ih i h
 |nc _ ih=>exact .nc rfl fun i h _=>ih i h
 |X _ _ ih1 ih2=>exact .X rfl rfl (fun i h _=>ih1 i h) fun i h _=>ih2 i h
 |U h=>exact absurd h (Vt _)
 |O h=>exact absurd h (Vt _)
 |nk h=>exact absurd h (Vt _)
theorem Fz.ints {H:ZK}{g o:Nat}{e:TypeId}{cells:List ZL}{x:List Int}{n:Nat}(hs:S id)(hg:H.get id=some (.J g e cells))(hn:n=x.length)(hx:∀i (h:i<x.length),cells[o+i]?=some (aa x[i])):
  Fz S H nx (.U id g o n 1) (af x):=by
 subst hn;refine .ny hs hg (by simp[Go.Hx.ints]) fun i hi h2 h'=>?_;have h1:=hx i V;rw[Vf h2]at h1;rw[Option.some.inj h1];have:(Go.Hx.ints x)[i]=aa x[i]:=by simp[Go.Hx.ints]
 rw[this];exact .lit _
def Fz.yH {H:ZK}:Fz S H nx (.lit (.slice none 0 0)) (af []):=.nil
def Fz.ea {H:ZK}(x:List Int):Fz S H nx (af x) (af x) :=
 .plain (.Q fun i h=>by simp only[Go.Hx.ints,Vw];exact .lit _)
def kW (x:List Int):(Go.Hx.ints x).all ZL.one=true:=by simp[Go.Hx.ints,aa,ZL.one,Value.oneCell]
def fB (G:Nat->Option (List ZL)):Prop:=∀g cells,G g=some cells->Below 0 (.ni cells 0)
def FzH.ba (F:FzH S H H'):ZV Γ H w (gH S Γ) H' w where
 os:=rfl
 tape:=rfl
 output:=rfl
 size:=ZJ
 ng:=fun _ _ h=>⟨rfl,fun h'=>h (uY h')⟩
 na:=fun id _ _ x' hx=>by
  obtain⟨hs,b,hb,hfb,_⟩:=F.back hx;refine⟨b,hb,?_⟩;cases b<;>cases x'<;>first|exact hfb.elim|skip
  ·obtain⟨rfl,rfl,hl,_⟩:=hfb;exact⟨ZJ,fun _=>⟨jK hs,rfl,hl⟩⟩
  ·obtain⟨rfl,rfl,rfl,rfl,rfl,rfl,rfl,_⟩:=hfb;exact⟨jK hs,rfl,rfl,rfl,rfl,rfl⟩
  ·exact jK hs
  ·trivial
 ny:=fun _ _=>rfl
 kind:=.refl _
 newb:=fun _ _ x y h _=>⟨x,y,(kV h).2⟩
def FzH.rel (hG:fB G)(R:ZT P G Γ H w)(F:FzH S H H'):ZT P G (gH S Γ) H' w where
 J id g e cells hg:=by
  obtain⟨hs,b,hb,hfb,_⟩:=F.back hg;cases b with
  |J g0 e0 c0 =>
   obtain⟨rfl,rfl,hl,hc⟩:=hfb;have h1:=R.J _ _ _ _ hb;rw[jK hs];cases hΓ:Γ id with
   |none =>
    rw[hΓ]at h1;simp only at h1 ⊢;subst h1;exact Vp hl
   |some y =>
    obtain⟨b,base,n⟩:=y;rw[hΓ]at h1;obtain⟨c,a1,a2,a3,a4⟩:=h1;refine⟨c,a1,a2,V,fun i hi=>?_⟩;obtain⟨cv,b1,b2⟩:=a4 i V;exact⟨cv,b1,(hc i V hi).sound R F b2⟩
  |_=>exact hfb.elim
 loop id st pend n env ps asg body hg:=by
  obtain⟨hs,b,hb,hfb,_⟩:=F.back hg;cases b with
  |loop =>
   obtain⟨rfl,rfl,rfl,rfl,rfl,rfl,rfl,hf⟩:=hfb;obtain⟨b,rr,a1,a2,a3,a4,a5,a6,a7,a8,a9⟩:=R.loop _ _ _ _ _ _ _ _ hb;exact⟨b,rr,by rw[jK hs];exact a1,a2,a3,a4,a5,a6,a7,a8,fun t ht=>(hf t V).sound R F (a9 t ht)⟩
  |_=>exact hfb.elim
 mp id es hg:=by
  obtain⟨hs,b,hb,hfb,_⟩:=F.back hg;cases b with
  |mp es0 =>
   have hfb':es=es0:=hfb;subst hfb';obtain⟨b,a1,a2⟩:=R.mp _ _ hb;exact⟨b,by rw[jK hs];exact a1,a2⟩
  |_=>exact hfb.elim
 nq id hg:=by
  obtain⟨hs,b,hb,hfb,_⟩:=F.back hg;cases b with
  |nq=>rw[jK hs];exact R.nq id hb
  |_=>exact hfb.elim
 inj id id' b base n base' n' h h':=R.inj id id' b base n base' n' (kV h).2 (kV h').2
 nE id x h:=by
  obtain⟨hs,h⟩:=kV h;obtain⟨y,hy⟩:=R.nE id x h;obtain⟨_,b',hb',_⟩:=F.kept id y hs hy;exact⟨b',hb'⟩
 lt id b base n h:=R.lt id b base n (kV h).2
 A id y h:=by
  obtain⟨_,_,_,_,h⟩:=F.back h;exact h
 nD g cells h:=(Fz.plain (hG g cells h)).sound R F (R.nD g cells h)
 gsz:=R.gsz
def iz.freeze (hG:fB G)(F:FzH S H H')(hv:Fz S H H'.A v v'):iz P G H v H' v' :=
 fun Γ _ R=>⟨gH S Γ,F.rel hG R,F.ba,fun _ h=>hv.sound R F h⟩
def eV.freeze (hG:fB G){s s':St}(F:FzH S s.H s'.H)(hv:∀t,Fz S s.H s'.H.A (s.ρ t) (s'.ρ t)):eV P G s s':=by
 intro n wb Γ a w hs;have E:ZV Γ s.H w (gH S Γ) s'.H w:=F.ba;refine⟨gH S Γ,⟨hs.size,fun t=>(hv t).sound hs.heap F (hs.env t),F.rel hG hs.heap,hs.defers.ba E,hs.low⟩,E,fun rd rb hr hri=>?_⟩;cases rd with
 |none=>exact hr
 |some id =>
  obtain⟨b,st,pend,n,env,ps,asg,body,h1,h2,h3⟩:=hr;obtain⟨st',pend',n',env',ps',asg',body',h4⟩:=hri;obtain⟨hns,_⟩:=F.back h4;exact⟨b,_,_,_,_,_,_,_,h1,by rw[jK hns];exact h2,h4⟩
def K5 (hc:Clo H)(L:List ZR):FzH (fun id=>H.A<=id) (ext H L) H where
 gone id hs:=by
  cases h:H.get id with
  |none=>rfl
  |some b=>have:=hc.lt id b h;omega
 kept id b hs hb:=by
  have hlt:id<H.A:=Wr hs;rw[c9 H L id hlt]at hb;have hbb:=hc.below id b hb;refine⟨hlt,b,hb,?_⟩;have hno:∀i,i<H.A->¬H.A<=i:=fun i h=>Nat.not_le_of_lt h;cases b with
  |nq=>trivial
  |mp=>rfl
  |J g e cells=>exact⟨rfl,rfl,rfl,fun i h _=>.refl (hbb i h) hno⟩
  |loop st pend n env ps asg body=>exact⟨rfl,rfl,rfl,rfl,rfl,rfl,rfl,fun t ht=>.refl (hbb t ht) hno⟩
 none id hs hb:=by
  rw[c9 H L id (Wr hs)]at hb;exact hb
def aj.drop (hG:fB G)(hc:Clo H){L:List ZR}(hv:Fz (fun id=>H.A<=id) (ext H L) H.A v v')(hk:K (.ret v') H):aj P G H K v (ext H L) :=
 ⟨v',H,.freeze hG (K5 hc L) hv,ZJ,hk⟩
def aj.K6 (hG:fB G)(hc:Clo H)(hv:Fz (fun id=>H.A<=id) (ext H []) H.A v v')(hk:K (.ret v') H):aj P G H K v H:=by
 have:=aj.drop (P:=P) hG hc hv hk;rw[ext_nil]at this;exact this
theorem ae.X {f : FuncId} {args : List ZL} {K : ZQ → ZK → Prop} (hf : ∃ fn, P.funcs[f]? = some fn ∧ fn.body.isNone = false ∧ (fn.name == "runtime.NumGoroutine") = false) (h : Clo H → ae P G f args H K) : ae P G f args H K :=
 ⟨hf,fun Γ w cargs R hr=>(h R.X).2 Γ w cargs R hr⟩
def ae.K7   {K : ZQ → ZK → Prop} (hf : ∃ fn, P.funcs[f]? = some fn ∧ fn.body.isNone = false ∧ (fn.name == "runtime.NumGoroutine") = false) (h : Clo H → (∀ v, v ∈ args → Below H.A v) → ae P G f args H K) : ae P G f args H K :=
 ⟨hf,fun Γ w cargs R hr=>(h R.X (fun v hv=>by
  obtain⟨i,hi,rfl⟩:=Zq.1 hv;exact(hr.2 i hi (by have:=hr.1;omega)).ta)).2 Γ w cargs R hr⟩
end Go.Hx
namespace Go.Hx
variable {P:Program} {G:Nat->Option (List ZL)} {Γ Γ':aD} {H H':ZK} {w w':World}
variable {r:Loop}{b:Nat}{pend:Option Code}{x:Option ZR}
def uZ (R:ZT P G Γ H w){id:Nat}{st:LoopState}{n:Nat}{env:Env}{ps:Array Tmp}{asg body:Code}(hg:H.get id=some (.loop st pend n env ps asg body)):
    ∃b r,Γ id=some (b,0,0)/\w.heap[b]?=some (.loop r)/\r.state=st/\r.pending=pend/\r.params=ps/\r.assign=asg/\r.body=body/\r.tmps.size=n/\(∀t (h:t<r.tmps.size),ZO P Γ H w (env t) r.tmps[t]) /\
      ∀st' pend',ZT P G Γ (H.upd id (.loop st' pend' n env ps asg body)) (bH w b (.loop { r with state:=st',pending:=pend' })) /\
        ZV Γ H w Γ (H.upd id (.loop st' pend' n env ps asg body)) (bH w b (.loop { r with state:=st',pending:=pend' })):=by
  obtain⟨b,r,hΓ,hb,h1,h2,h3,h4,h5,h6,h7⟩:=R.loop id st pend n env ps asg body hg;refine⟨b,r,hΓ,hb,h1,h2,h3,h4,h5,h6,h7,fun st' pend'=>?_⟩;have hlt:=R.lt id b 0 0 hΓ;have E:ZV Γ H w Γ (H.upd id (.loop st' pend' n env ps asg body)) (bH w b (.loop { r with state:=st',pending:=pend' })) :=
    { os:=rfl,tape:=rfl,output:=rfl
      size:=by rw[j8];exact Nat.le_refl _
      ng:=fun c hc ho=>⟨by
        rw[eO,Vg];rintro⟨rfl,_⟩;exact ho ⟨id,0,0,hΓ⟩,ho⟩
      na:=fun i hi _ x' hx=>by
        rw[ah]at hx;split at hx
        · rename_i hii;subst hii;simp only[Option.some.injEq]at hx;subst hx;exact⟨_,hg,rfl,rfl,rfl,rfl,rfl,rfl⟩
        · exact⟨x',hx,ZR.le_refl _ _ _⟩
      ny:=fun a _=>sB hb (fun _ _ _ h=>by cases h) (fun _ _ _ h=>by cases h) a
      kind:=xL hb fun _ _ _ h=>by cases h
      newb:=.refl _ _ }
  refine⟨?_,E⟩;have hne:∀i b' base n',Γ i=some (b',base,n')->i≠id->b'≠b:=fun i b' base n' hi hii hbb=>by
    subst hbb;exact hii (R.inj _ _ _ _ _ _ _ hi hΓ)
  exact
    { J:=fun i g e cells hgi=>by
        rw[ah]at hgi;split at hgi
        · simp at hgi
        · rename_i hii;have h:=R.J i g e cells hgi;cases hi:Γ i with
          |none=>rw[hi]at h;exact h
          |some y =>
            obtain⟨b',base,n'⟩:=y;rw[hi]at h;obtain⟨c,a1,a2,a3,a4⟩:=h;refine⟨c,?_,a2,a3,fun j hj=>let ⟨cv,b1,b2⟩:=a4 j hj;⟨cv,b1,b2.ba E ZJ⟩⟩;rw[eO,Vg]
            · exact a1
            · rintro⟨h,_⟩;exact hne i b' base n' hi hii h
      loop:=fun i st2 pend2 n2 env2 ps2 asg2 body2 hgi=>by
        rw[ah]at hgi;split at hgi
        · rename_i hii;subst hii;simp only[Option.some.injEq,ZR.loop.injEq]at hgi;obtain⟨rfl,rfl,rfl,rfl,rfl,rfl,rfl⟩:=hgi;refine⟨b,{ r with state:=st',pending:=pend' },hΓ,by rw[eO,Vh ⟨rfl,hlt⟩],rfl,rfl,h3,h4,h5,h6,fun t ht=>(h7 t ht).ba E ZJ⟩
        · rename_i hii;obtain⟨b2,r2,a1,a2,a3,a4,a5,a6,a7,a8,a9⟩:=R.loop i _ _ _ _ _ _ _ hgi;refine⟨b2,r2,a1,?_,a3,a4,a5,a6,a7,a8,fun t ht=>(a9 t ht).ba E ZJ⟩;rw[eO,Vg]
          · exact a2
          · rintro⟨h,_⟩;exact hne i b2 0 0 a1 hii h
      mp:=fun i es hgi=>by
        rw[ah]at hgi;split at hgi
        · simp at hgi
        · rename_i hii;obtain⟨b2,a1,a2⟩:=R.mp i _ hgi;refine⟨b2,a1,?_⟩;rw[eO,Vg]
          · exact a2
          · rintro⟨h,_⟩;exact hne i b2 0 0 a1 hii h
      nq:=fun i hgi=>by
        rw[ah]at hgi;split at hgi
        · simp at hgi
        · exact R.nq i hgi
      inj:=R.inj
      nE:=fun i x hi=>by
        obtain⟨y,hy⟩:=R.nE i x hi;rw[ah];split
        · exact⟨_,rfl⟩
        · exact⟨y,hy⟩
      lt:=fun i b' base n' hi=>by rw[j8];exact R.lt i b' base n' hi
      A:=fun i y hy=>by
        rw[ah]at hy;split at hy
        · rename_i hii;subst hii;exact R.A _ _ hg
        · exact R.A i y hy
      nD:=fun g cells h=>(R.nD g cells h).ba E (Nat.le_refl _)
      gsz:=R.qA E }
def tf (h:w.heap[b]?=some (.loop r)):(Instr.getLoop b).run P w=.ok r w:=by
  have hg:(getObj b).run P w=.ok (.loop r) w:=by simp[getObj,Sem.run,h]
  unfold Instr.getLoop;rw[aq hg];rfl
def yI {o':Obj}(h:w.heap[b]?=some (.loop r)):(setObj b o').run P w=.ok () (bH w b o'):=by
  simp[setObj,Sem.run,h,bH]
def K8 (h:w.heap[b]?=some (.loop r))(hs:r.state=.ready):(Instr.beginRound b).run P w=.ok () (bH w b (.loop { r with state:=.busy,pending:=r.pending })):=by
  unfold Instr.beginRound;rw[aq (tf h),aq (yI h)];simp only[hs];rfl
def K9 (h:w.heap[b]?=some (.loop r))(j:Option Code):
    (Instr.endRound b j).run P w=.ok (.bool j.isNone) (bH w b (.loop { r with state:=if j.isNone then .ready else .done,pending:=j })):=by
  unfold Instr.endRound;rw[aq (tf h),aq (yI h)];rfl
def La (h:w.heap[b]?=some (.loop r))(hs:(r.state == .busy)=false):(Instr.endLoop b).run P w=.ok r.pending (bH w b (.loop { r with state:=.exhausted,pending:=r.pending })):=by
  unfold Instr.endLoop;rw[aq (tf h)];simp only[hs,Bool.false_eq_true,if_false];rw[aq (yI h)];rfl
def jL (ρ:Env)(l:List (Tmp × ZL)):Env:=l.foldl (fun ρ p=>aH ρ (some p.1) p.2) ρ
def dq (env:Env)(n:Nat):Env:=fun t=>if t<n then env t else .lit undef
def pF (st:LoopState)(pend:Option Code):Option ZR->Option ZR
  |some (.loop _ _ n env ps asg body)=>some (.loop st pend n env ps asg body)
  |_=>none
def Cm:Option ZR->Option ZR
  |some (.loop .ready pend n env ps asg body)=>some (.loop .busy pend n env ps asg body)
  |_=>none
def Lb (id:Nat)(K:ZQ->ZK->Prop):AX->St->Prop
  |.normal,s=>bj (pF .ready none (s.H.get id)) fun b=>K (.ret (.lit (.bool true))) (s.H.upd id b)
  |.ret,s=>bj (pF .done (some .ret) (s.H.get id)) fun b=>K (.ret (.lit (.bool false))) (s.H.upd id b)
  |.exit i,s=>bj (pF .done (some (.exit i)) (s.H.get id)) fun b=>K (.ret (.lit (.bool false))) (s.H.upd id b)
  |.goto i,s=>bj (pF .done (some (.goto i)) (s.H.get id)) fun b=>K (.ret (.lit (.bool false))) (s.H.upd id b)
  |.panic,_=>False
def Lc (P:Program)(G:Nat->Option (List ZL))(n id:Nat)(body:Code)(K:ZQ->ZK->Prop):AX->St->Prop
  |.normal,s=>bj (Cm (s.H.get id)) fun b=>W P G n (some id) body (Lb id K) ⟨s.ρ,s.H.upd id b⟩
  |_,_=>False
def Ld:∀(l:List (Tmp × ZL)) (cl:List (Tmp × Value)) (ρ:Env) (tmps:Array Value),l.length=cl.length->(∀i (h:i<l.length) (h':i<cl.length),l[i].1=cl[i].1/\l[i].1<tmps.size/\ZO P Γ H w l[i].2 cl[i].2) ->
    (∀t,ZO P Γ H w (ρ t) (tmps.getD t undef)) ->
    ((cl.foldl (fun tmps (p:Tmp × Value)=>tmps.setIfInBounds p.1 p.2) tmps).size=tmps.size)/\∀t,ZO P Γ H w (jL ρ l t) ((cl.foldl (fun tmps (p:Tmp × Value)=>tmps.setIfInBounds p.1 p.2) tmps).getD t undef):=by
  intro l
  induction l with
  |nil =>
    intro cl ρ tmps hl _ he;cases cl with
    |nil=>exact⟨rfl,he⟩
    |cons=>simp at hl
  |cons x l ih =>
    intro cl ρ tmps hl h he;cases cl with
    |nil=>simp at hl
    |cons y cl =>
      obtain⟨h1,h2,h3⟩:=h 0 ZG ZG;simp only[V9]at h1 h2 h3;have:=ih cl (aH ρ (some x.1) x.2) (tmps.setIfInBounds y.1 y.2) (by simpa using hl) (fun i a b=>by
        have:=h (i+1) (by simpa using a) (by simpa using b);simp only[Xc]at this;simpa using this) (fun t=>by
          by_cases ht:t=x.1
          · subst ht;have e1:aH ρ (some x.1) x.2 x.1=x.2:=(by simp[aH]);have e2:(tmps.setIfInBounds y.1 y.2).getD x.1 undef=y.2:=(by rw[<- h1];simp[h2]);rw[e1,e2];exact h3
          · have e1 : aH ρ (some x.1) x.2 t=ρ t:=(by simp [aH,ht]);have e2 : (tmps.setIfInBounds y.1 y.2).getD t undef=tmps.getD t undef:=by
              simp only[V0];rw[Wg,Vg (by rw[<- h1];exact fun h=>ht h.symm)]
            rw[e1,e2];exact he t)
      refine⟨?_,this.2⟩;have h4:=this.1;simp only[Array.size_setIfInBounds]at h4;exact h4
def Le {st:LoopState}{b:ZR}(h:pF st pend x=some b):∃st0 p0 n env ps asg body,x=some (.loop st0 p0 n env ps asg body)/\b=.loop st pend n env ps asg body:=by
  unfold pF at h;split at h
  · cases h;exact⟨_,_,_,_,_,_,_,rfl,rfl⟩
  · cases h
theorem ak.nk {id:Nat}{args:List ZL}{K:ZQ->ZK->Prop}{pend:Option Code}{n:Nat}{env:Env}{ps:Array Tmp}{asg body:Code}(hg:H.get id=some (.loop .ready pend n env ps asg body))(hl:args.length=ps.size)
    (hps:ps.toList.all (fun t=>decide (t<n))=true) (h:W P G n (some id) asg (Lc P G n id body K) ⟨jL (dq env n) (ps.toList.zip args),H⟩):ak P G (.nk id) args H K:=by
  intro Γ w cfv cargs R hv hr;cases hv with
  |nk hy =>
    obtain⟨b,hΓ,rfl⟩:=hy.2.2.2.1 _ _ _ _ _ _ _ hg;obtain⟨b',r,hΓ',hb,h1,h2,h3,h4,h5,h6,h7,_⟩:=uZ R hg;rw[hΓ]at hΓ';simp only[Option.some.injEq,Prod.mk.injEq]at hΓ';obtain⟨rfl,_⟩:=hΓ';have hsz:cargs.size=r.params.size:=(by rw[hr.1,hl,h3]);refine⟨{ target:=.fn (.yield b) #[],args:=#[]++cargs },rfl,.inr (.inl ⟨b,r.fn,(r.params.zip (#[]++cargs)).foldl (fun tmps (t,a)=>tmps.setIfInBounds t a) r.tmps,r.assign,r.body,?_,?_⟩)⟩
    · show (Instr.yield b (#[]++cargs)).run P w=_;unfold Instr.yield;rw[aq (tf hb)];have:¬((#[]++cargs).size≠r.params.size):=(by simp[hsz]);rw[Vg this];rfl
    · refine roundIn_of_wpIn (F:=Fence.wide) trivial ?_;have hfold : (r.params.zip (#[]++cargs)).foldl (fun tmps (t,a)=>tmps.setIfInBounds t a) r.tmps=(r.params.toList.zip cargs.toList).foldl (fun tmps (p : Tmp × Value)=>tmps.setIfInBounds p.1 p.2) r.tmps:=by
        rw[<- Array.foldl_toList];simp
      rw [hfold,h4,h5];have hset:=Ld (P:=P) (Γ:=Γ) (H:=H) (w:=w) (ps.toList.zip args) (r.params.toList.zip cargs.toList) (dq env n) r.tmps (by simp [hr.1,h3]) (fun i a c=>by
          simp only[List.length_zip,Xb]at a c;simp only[List.getElem_zip,Wm];refine⟨by simp only[h3],?_,hr.2 i V V⟩;rw[h6];have:=VG.1 hps (ps[i]' V) ZG;simpa using this) (fun t=>by
          unfold dq;by_cases ht:t<n
          · rw[Vh ht];have:r.tmps.getD t undef=r.tmps[t]' V:=(by simp[h6,ht]);rw[this];exact h7 t (V)
          · rw[Vg ht];have:r.tmps.getD t undef=undef:=(by simp[h6,ht]);rw[this];exact .lit _)
      have hs:Z1 P G n ⟨0,[]⟩ Γ ⟨jL (dq env n) (ps.toList.zip args),H⟩ { tmps:=(r.params.toList.zip cargs.toList).foldl (fun tmps (p:Tmp × Value)=>tmps.setIfInBounds p.1 p.2) r.tmps,defers:=[] } w :=
        ⟨by rw[hset.1,h6],hset.2,R,⟨[],rfl,Marks.nil⟩,WK _⟩
      refine wpIn_mono (h ⟨0,[]⟩ Γ _ w (some b) hs ⟨b,_,_,_,_,_,_,_,rfl,hΓ,hg⟩) ?_;rintro e a₁ w₁ ⟨x,s₁,Γ₁,hx,hq,hs₁,E₁,hn₁,hr₁,_⟩;cases x with
      |normal =>
        cases e with
        |normal =>
          obtain⟨blk,hbg,hW⟩:=hq;obtain⟨b1,st1,p1,n1,env1,ps1,asg1,body1,hb1,hΓ₁,hg₁⟩:=hr₁;simp only[Option.some.injEq]at hb1;subst hb1;rw[hg₁]at hbg;have hst:st1=.ready/\blk=.loop .busy p1 n1 env1 ps1 asg1 body1:=by
            cases st1<;>simp[Cm]at hbg
            exact⟨rfl,hbg.symm⟩
          obtain ⟨rfl,rfl⟩:=hst;obtain ⟨b2,r1,hΓ₂,hb2,k1,k2,k3,k4,k5,k6,k7,kset⟩:=uZ hs₁.heap hg₁;rw [hΓ₁] at hΓ₂;simp only [Option.some.injEq,Prod.mk.injEq] at hΓ₂;obtain ⟨rfl,_⟩:=hΓ₂;obtain ⟨R2,E2⟩:=kset .busy r1.pending;rw [k2] at R2 E2;have hb3 : Γ₁ id=some (b,0,0):=hΓ₁;refine ⟨_,K8 hb2 k1,?_⟩;rw [k2];refine wpIn_mono (hW ⟨0,[]⟩ Γ₁ a₁ _ (some b) (hs₁.move E2 ZJ R2) ⟨b,_,_,_,_,_,_,_,rfl,hΓ₁,by rw [ah,Vh rfl]⟩) ?_;rintro e a₂ w₂ ⟨x,s₂,Γ₂,hx,hq,hs₂,E3,hn₂,hr₂,_⟩;obtain ⟨b4,st4,p4,n4,env4,ps4,asg4,body4,hb4,hΓ₄,hg₄⟩:=hr₂;simp only [Option.some.injEq] at hb4;subst hb4;obtain ⟨b5,r5,hΓ₅,hb5,l1,l2,l3,l4,l5,l6,l7,lset⟩:=uZ hs₂.heap hg₄;rw [hΓ₄] at hΓ₅;simp only [Option.some.injEq,Prod.mk.injEq] at hΓ₅;obtain ⟨rfl,_⟩:=hΓ₅;have E4 : ZV Γ H w Γ₂ s₂.H w₂:=(E₁.trans hn₁ E2).trans hn₁ E3;have hn4 : H.A≤s₂.H.A:=VM hn₁ hn₂;have fin : ∀ (j : Option Code) (v : Bool),v=j.isNone→bj (pF (if j.isNone then .ready else .done) j (s₂.H.get id)) (fun bl=>K (.ret (.lit (.bool v))) (s₂.H.upd id bl)) →
              ∃cv w',(Instr.endRound b j).run P w₂=.ok cv w'/\fJ P G Γ H w K (.returned cv) w':=by
            rintro j v rfl ⟨bl,hbl,hk⟩;obtain⟨R6,E6⟩:=lset (if j.isNone then .ready else .done) j;rw[hg₄]at hbl;obtain⟨_,_,_,_,_,_,_,heq,rfl⟩:=Le hbl;simp only[Option.some.injEq,ZR.loop.injEq]at heq;obtain⟨rfl,rfl,rfl,rfl,rfl,rfl,rfl⟩:=heq;exact⟨_,_,K9 hb5 j,.ret (.lit (.bool j.isNone)),_,Γ₂,ZO.lit _,hk,R6,E4.trans hn4 E6,hn4⟩
          cases e with
          |normal=>cases x with
            |normal=>exact fin none true rfl hq
            |_=>exact hx.elim
          |ret=>cases x with
            |ret=>exact fin (some .ret) false rfl hq
            |_=>exact hx.elim
          |exit i=>cases x with
            |exit i' =>
              obtain rfl:i=i':=hx;exact fin (some (.exit i)) false rfl hq
            |_=>exact hx.elim
          |goto i=>cases x with
            |goto i' =>
              obtain rfl:i=i':=hx;exact fin (some (.goto i)) false rfl hq
            |_=>exact hx.elim
          |panic c=>cases x with
            |panic=>exact hq.elim
            |_=>exact hx.elim
          |outgrown=>cases x<;>exact hx.elim
        |_=>exact hx.elim
      |_=>exact hq.elim
def yJ (hos:w'.os=w.os)(ht:w'.tape=w.tape)(ho:w'.output=w.output)(hs:w.heap.size<=w'.heap.size)(hk:∀b,b<w.heap.size->w'.heap[b]?=w.heap[b]?)(hz:∀a,a.block<w.heap.size->w'.frozen? a=w.frozen? a)(R:ZT P G Γ H w):ZV Γ H w Γ H w'/\ZT P G Γ H w':=by
  have E:ZV Γ H w Γ H w':=⟨hos,ht,ho,hs,fun b hb h=>⟨hk b hb,h⟩,fun _ _ _ x' hx=>⟨x',hx,ZR.le_refl _ _ _⟩,hz,GP hk,.refl _ _⟩
  refine⟨E,?_⟩;exact
    { J:=fun id g e cells hg=>by
        have h1:=R.J id g e cells hg;cases hΓ:Γ id with
        |none=>rw[hΓ]at h1;exact h1
        |some y =>
          obtain⟨b,base,n⟩:=y;rw[hΓ]at h1;obtain⟨c,a1,a2,a3,a4⟩:=h1;exact⟨c,by rw[hk b (R.lt _ _ _ _ hΓ)];exact a1,a2,a3,fun i hi=>let ⟨cv,b1,b2⟩:=a4 i hi;⟨cv,b1,b2.ba E ZJ⟩⟩
      loop:=fun id st pend n env ps asg body hg=>by
        obtain⟨b,rr,a1,a2,a3,a4,a5,a6,a7,a8,a9⟩:=R.loop id st pend n env ps asg body hg;exact⟨b,rr,a1,by rw[hk b (R.lt _ _ _ _ a1)];exact a2,a3,a4,a5,a6,a7,a8,fun t ht=>(a9 t ht).ba E ZJ⟩
      mp:=fun id es hg=>by
        obtain⟨b,a1,a2⟩:=R.mp id es hg;exact⟨b,a1,by rw[hk b (R.lt _ _ _ _ a1)];exact a2⟩
      nq:=R.nq
      inj:=R.inj
      nE:=R.nE
      lt:=fun id b base n h=>Vn (R.lt id b base n h) hs
      A:=R.A
      nD:=fun g cells h=>(R.nD g cells h).ba E (Nat.le_refl _)
      gsz:=R.qA E }
def yK:Option ZR->Option (Option Code × ZR)
  |some (.loop .busy ..)=>none
  |some (.loop _ pend n env ps asg body)=>some (pend,.loop .exhausted pend n env ps asg body)
  |_=>none
def Lf (Q:AX->St->Prop)(s:St):Option Code->Prop
  |none=>Q .normal s
  |some .ret=>Q .ret s
  |some (.exit i)=>Q (.exit i) s
  |some (.goto i)=>Q (.goto i) s
  |_=>False
def yL (rd:Option Nat)(Q:AX->St->Prop)(ρ:Env)(id:Nat):ZQ->ZK->Prop
  |.ret _,H'=>fI H' rd/\bj (yK (H'.get id)) fun pb=>Lf Q ⟨ρ,H'.upd id pb.2⟩ pb.1
  |.panic,H'=>fI H' rd/\Q .panic ⟨ρ,H'⟩
def Lg {pb:Option Code × ZR}(h:yK x=some pb):∃st pend n env ps asg body,x=some (.loop st pend n env ps asg body)/\(st == .busy)=false/\pb=(pend,.loop .exhausted pend n env ps asg body):=by
  unfold yK at h;split at h
  · cases h
  · rename_i st pend n env ps asg body hne;cases h;refine⟨_,_,_,_,_,_,_,rfl,?_,rfl⟩;cases st with
    |busy=>exact absurd rfl (by first|exact hne|exact fun h=>hne _ _ _ _ _ _ h)
    |_=>rfl
  · cases h
section
variable {n:Nat} {rd:Option Nat} {Q:AX->St->Prop}
theorem W.rangeFunc {g:Operand}{ps:Array Tmp}{asg body:Code}{s:St}{f:FuncId}{first cap:List ZL}(hg:ar G s.ρ g=.X f first cap)
    (h:bj (s.H.lay s.H.A (.loop .ready none n s.ρ ps asg body)) fun H1=>ae P G f (first++[.nk s.H.A]++cap) H1 (yL rd Q s.ρ s.H.A)):W P G n rd (.rangeFunc g ps asg body) Q s:=by
  intro wb Γ a w rb hs hr;obtain⟨H1,hlay,hcall⟩:=h;have hlay2:H1=⟨fun j=>if j=s.H.A then some (.loop .ready none n s.ρ ps asg body) else s.H.get j,s.H.A+1⟩:=by
    unfold ZK.lay at hlay;rw[Vh rfl]at hlay;exact(Option.some.inj hlay).symm
  subst hlay2;refine wpIn_rangeFunc fun fn _=>?_;have he:=jr hs g;rw[hg]at he
  -- the world with the record
  have key : ∀ (w0 : World) (mark : List Deferred) (dblk : Nat),ZV Γ s.H w Γ s.H w0→ZT P G Γ s.H w0 →
      sQ wb Γ w0 (mark++a.defers) ->
      ∀w1,w1={ w0 with heap:=w0.heap.push (.loop { state:=.ready,pending:=none,fn:=fn,tmps:=a.tmps,params:=ps,assign:=asg,body:=body,defers:=dblk }) } ->
      (Instr.enterLoop fn a.tmps ps asg body (dZ rb).round).run P w=.ok (w0.heap.size,mark) w1 ->
      ∃(l:Nat) (mark:List Deferred) (w₁:World) (d:Deferred) (w₁':World) (f:FuncId) (args:Array Value) (w₂:World),
      (Instr.enterLoop fn a.tmps ps asg body (dZ rb).round).run P w=.ok (l,mark) w₁ /\
      (resolve a.eval (rangeCall g l) 0).run P w₁=.ok d w₁' /\
      (∀f',Target.leads P w₁' d.target d.args=some f'->(dZ rb).fn f') /\
      (invoke d.target d.args).run P w₁'=.ok (.enter f args) w₂ /\
      ((dZ rb).depth.isSome=true->1<=0) /\
      CallsIn (dZ rb) (0-1) P f args w₂ (rangePost (dZ rb) 0 P l (iy P G n wb rd rb (wr (.rangeFunc g ps asg body)) Γ s.H a w Q) { a with defers:=mark++a.defers }):=by
    intro w0 mark dblk E0 R0 hdef w1 hw1 hent
    let rec':Loop:={ state:=.ready,pending:=none,fn:=fn,tmps:=a.tmps,params:=ps,assign:=asg,body:=body,defers:=dblk }
    have hheap:w1.heap=w0.heap.push (.loop rec'):=(by rw[hw1]);have hsz1:w1.heap.size=w0.heap.size+1:=(by rw[hheap];simp);have hk1:∀b,b<w0.heap.size->w1.heap[b]?=w0.heap[b]?:=fun b hb=>by
      rw[hheap,XT];rw[Vg V]
    have hget1:w1.heap[w0.heap.size]?=some (.loop rec'):=(by rw[hheap];simp);obtain⟨E1,R1⟩:=yJ (w':=w1) (by rw[hw1]) (by rw[hw1]) (by rw[hw1]) V hk1 (fun a _=>qE hheap (fun _ _ _ h=>by cases h) a) R0
    let Γ1:aD:=fun i=>if i=s.H.A then some (w0.heap.size,0,0) else Γ i
    let H1:ZK:=⟨fun j=>if j=s.H.A then some (.loop .ready none n s.ρ ps asg body) else s.H.get j,s.H.A+1⟩
    have hfresh:∀i y,s.H.get i=some y->i≠s.H.A:=fun i y hy h=>by have:=R0.A i y hy;omega
    have hΓfresh:∀i x,Γ i=some x->i≠s.H.A:=fun i x hx=>let ⟨y,hy⟩:=R0.nE i x hx;hfresh i y hy
    have hΓ1:∀i,i≠s.H.A->Γ1 i=Γ i:=fun i hi=>by simp only[Γ1];rw[Vg hi]
    have hH1:∀i,i≠s.H.A->H1.get i=s.H.get i:=fun i hi=>by simp only[H1];rw[Vg hi]
    have E2:ZV Γ s.H w0 Γ1 H1 w1 :=
      { os:=by rw[hw1],tape:=by rw[hw1],output:=by rw[hw1],size:=V
        ng:=fun b hb ho=>⟨hk1 b hb,by
          rintro⟨i,base,m,hi⟩;simp only[Γ1]at hi;split at hi
          · simp only[Option.some.injEq,Prod.mk.injEq]at hi;omega
          · exact ho ⟨i,base,m,hi⟩⟩
        na:=fun i hi _ x' hx=>by
          rw[hH1 i V]at hx;refine⟨x',hx,?_⟩;have hΓi:Γ1 i=Γ i:=hΓ1 i V;cases x' with
          |J=>exact⟨ZJ,fun _=>⟨hΓi,rfl,rfl⟩⟩
          |loop=>exact⟨hΓi,rfl,rfl,rfl,rfl,rfl⟩
          |mp=>exact hΓi
          |nq=>trivial
        ny:=fun a _=>qE hheap (fun _ _ _ h=>by cases h) a
        kind:=uw hheap
        newb:=fun i b x y hi hlt=>by
          simp only[Γ1]at hi;split at hi
          · simp only[Option.some.injEq,Prod.mk.injEq]at hi;omega
          · exact⟨x,y,hi⟩ }
    have hn1:s.H.A<=H1.A:=Xw _;have tr:∀v cv,ZO P Γ s.H w0 v cv->ZO P Γ1 H1 w1 v cv:=fun v cv h=>h.ba E2 hn1;have R2:ZT P G Γ1 H1 w1 :=
      { J:=fun i g e cells hi=>by
          by_cases hii:i=s.H.A
          · simp only[H1]at hi;rw[Vh hii]at hi;simp at hi
          · rw[hH1 i hii]at hi;have h:=R0.J i g e cells hi;rw[hΓ1 i hii];cases hΓ:Γ i with
            |none=>rw[hΓ]at h;exact h
            |some y =>
              obtain⟨b,base,m⟩:=y;rw[hΓ]at h;obtain⟨c,a1,a2,a3,a4⟩:=h;exact⟨c,by rw[hk1 b (R0.lt _ _ _ _ hΓ)];exact a1,a2,a3,fun j hj=>let ⟨cv,b1,b2⟩:=a4 j hj;⟨cv,b1,tr _ _ b2⟩⟩
        loop:=fun i st2 pend2 n2 env2 ps2 asg2 body2 hi=>by
          by_cases hii:i=s.H.A
          · simp only [H1] at hi;rw [Vh hii] at hi;simp only [Option.some.injEq,ZR.loop.injEq] at hi;obtain ⟨rfl,rfl,rfl,rfl,rfl,rfl,rfl⟩:=hi;refine ⟨w0.heap.size,rec',by simp only [Γ1];rw [Vh hii],hget1,rfl,rfl,rfl,rfl,rfl,hs.size,fun t ht=>?_⟩;have:=((hs.env t).ba E0 ZJ).ba E2 hn1;have e1 : a.tmps.getD t undef=a.tmps[t]'ht:=by
              have:t<a.tmps.size:=ht;simp[this]
            rw[e1]at this;exact this
          · rw[hH1 i hii]at hi;obtain⟨b2,r2,a1,a2,a3,a4,a5,a6,a7,a8,a9⟩:=R0.loop i _ _ _ _ _ _ _ hi;exact⟨b2,r2,by rw[hΓ1 i hii];exact a1,by rw[hk1 b2 (R0.lt _ _ _ _ a1)];exact a2,a3,a4,a5,a6,a7,a8,fun t ht=>tr _ _ (a9 t ht)⟩
        mp:=fun i es hi=>by
          by_cases hii:i=s.H.A
          · simp only[H1]at hi;rw[Vh hii]at hi;simp at hi
          · rw[hH1 i hii]at hi;obtain⟨b2,a1,a2⟩:=R0.mp i _ hi;exact⟨b2,by rw[hΓ1 i hii];exact a1,by rw[hk1 b2 (R0.lt _ _ _ _ a1)];exact a2⟩
        nq:=fun i hi=>by
          by_cases hii:i=s.H.A
          · simp only[H1]at hi;rw[Vh hii]at hi;simp at hi
          · rw[hH1 i hii]at hi;rw[hΓ1 i hii];exact R0.nq i hi
        inj:=fun i i' b base m base' m' h h'=>by
          by_cases h1:i=s.H.A
          · by_cases h2:i'=s.H.A
            · rw[h1,h2]
            · rw[hΓ1 i' h2]at h';simp only[Γ1]at h;rw[Vh h1]at h;simp only[Option.some.injEq,Prod.mk.injEq]at h;have:=R0.lt _ _ _ _ h';omega
          · by_cases h2:i'=s.H.A
            · rw[hΓ1 i h1]at h;simp only[Γ1]at h';rw[Vh h2]at h';simp only[Option.some.injEq,Prod.mk.injEq]at h';have:=R0.lt _ _ _ _ h;omega
            · rw[hΓ1 i h1]at h;rw[hΓ1 i' h2]at h';exact R0.inj _ _ _ _ _ _ _ h h'
        nE:=fun i x hi=>by
          by_cases hii:i=s.H.A
          · simp only[H1];rw[Vh hii];exact⟨_,rfl⟩
          · rw[hΓ1 i hii]at hi;rw[hH1 i hii];exact R0.nE i x hi
        lt:=fun i b base m hi=>by
          by_cases hii:i=s.H.A
          · simp only[Γ1]at hi;rw[Vh hii]at hi;simp only[Option.some.injEq,Prod.mk.injEq]at hi;omega
          · rw[hΓ1 i hii]at hi;have:=R0.lt _ _ _ _ hi;omega
        A:=fun i y hi=>by
          by_cases hii:i=s.H.A
          · show i<s.H.A+1;omega
          · rw[hH1 i hii]at hi;have:=R0.A i y hi;show i<s.H.A+1;omega
        nD:=fun g cells h=>tr _ _ (R0.nD g cells h)
        gsz:=R0.qA E2 }
    have E3:ZV Γ s.H w Γ1 H1 w1:=E0.trans ZJ E2;generalize hcg:a.eval g=cg at he;cases he with
    | @X _ _ _ fs cs hfs hcs hf hc =>
      obtain⟨⟨fn',hfn',hb',hname'⟩,hcall⟩:=hcall;have hyld:ZO P Γ1 H1 w1 (.nk s.H.A) (.func (.yield w0.heap.size) #[] #[]) :=
        .nk ⟨Wi _,rfl,by simp[H1],fun st pend n env ps asg body hgi=>⟨w0.heap.size,by simp[Γ1],rfl⟩,fun es hgi=>by simp[H1]at hgi⟩
      have hargs:dH P Γ1 H1 w1 (first++[.nk s.H.A]++cap) (fs.toArray++#[.func (.yield w0.heap.size) #[] #[]]++cs.toArray):=by
        refine uI (uI ⟨by simpa using hfs,fun i h1 h2=>?_⟩ ⟨rfl,fun i h1 h2=>?_⟩) ⟨by simpa using hcs,fun i h1 h2=>?_⟩
        · exact(by simpa using hf i h1 (by simpa using h2):ZO P Γ s.H w first[i] (fs.toArray[i])).ba E3 hn1
        · have:i=0:=(by simp at h1;omega);subst this;exact hyld
        · exact(by simpa using hc i h1 (by simpa using h2):ZO P Γ s.H w cap[i] (cs.toArray[i])).ba E3 hn1
      refine⟨w0.heap.size,mark,w1,{ target:=.fn (.func f) cs.toArray,args:=fs.toArray++#[.func (.yield w0.heap.size) #[] #[]] },w1,f,fs.toArray++#[.func (.yield w0.heap.size) #[] #[]]++cs.toArray,w1,hent,?_,fun _ _=>trivial,?_,fun hc=>by simp[Fence.wide]at hc,?_⟩
      · have hm:Array.map a.eval #[Operand.const (.func (.yield w0.heap.size) #[] #[])]=#[.func (.yield w0.heap.size) #[] #[]]:=(by simp[Act.eval]);unfold resolve;simp only[hcg,hm];rfl
      · show (callFunc f (fs.toArray++#[.func (.yield w0.heap.size) #[] #[]]++cs.toArray)).run P w1=_;unfold callFunc;rw[aq (run_program P w1)];simp only[hfn'];rw[hname',hb'];rfl
      · have h4 : CallsIn (dZ rb) 0 P f (fs.toArray++#[.func (.yield w0.heap.size) #[] #[]]++cs.toArray) w1 _:=hcall Γ1 w1 _ R2 hargs;refine h4.mono ?_;rintro e w3 ⟨r,H',Γ',hend,hk,R',E',hn'⟩;have E5 : ZV Γ s.H w Γ' H' w3:=E3.trans hn1 E';have hn5 : s.H.A≤H'.A:=VM hn1 hn';have mkS : ∀ (H'' : ZK) (w4 : World),ZT P G Γ' H'' w4→ZV Γ s.H w Γ' H'' w4→ZV Γ s.H w0 Γ' H'' w4→s.H.A≤H''.A→Z1 P G n wb Γ' ⟨s.ρ,H''⟩ { a with defers:=mark++a.defers } w4 :=
          fun H'' w4 R'' E'' E0'' hn''=>⟨hs.size,fun t=>(hs.env t).ba E'' hn'',R'',hdef.ba E0'',VM hs.low E''.size⟩
        cases e with
        |returned cv =>
          cases r with
          |panic=>exact hend.elim
          |ret v =>
            obtain⟨hri,pb,hpb,hj⟩:=hk;obtain⟨st,pend,n2,env2,ps2,asg2,body2,hgl,hbusy,rfl⟩:=Lg hpb;obtain⟨b,r2,hΓb,hb,l1,l2,l3,l4,l5,l6,l7,lset⟩:=uZ R' hgl;obtain⟨R6,E6⟩:=lset .exhausted r2.pending;have hbl:b=w0.heap.size:=by
              obtain⟨x,hx,hle⟩:=E'.na s.H.A (Wi _) (Vn (Wi _) hn') _ hgl;have hx':H1.get s.H.A=some (.loop .ready none n s.ρ ps asg body):=(by simp[H1]);rw[hx']at hx;cases hx;have h1:=hle.1;rw[hΓb]at h1;simp only[Γ1,if_true,Option.some.injEq,Prod.mk.injEq]at h1;exact h1.1
            subst hbl;have hend':=La (P:=P) hb (by rw[l1];exact hbusy);rw[l2]at R6 E6 hend';refine⟨pend,_,hend',?_⟩;have E7:=E5.trans hn5 E6;have hS:=mkS _ _ R6 E7 ((E2.trans hn1 E').trans hn5 E6) hn5;have hri':fI (H'.upd s.H.A (.loop .exhausted pend n2 env2 ps2 asg2 body2)) rd:=by
              cases rd with
              |none=>trivial
              |some i =>
                obtain⟨st3,pend3,n3,env3,ps3,asg3,body3,h3⟩:=hri;by_cases hii:i=s.H.A
                · exact⟨_,_,_,_,_,_,_,by rw[ah,Vh hii]⟩
                · exact⟨_,_,_,_,_,_,_,by rw[ah,Vg hii];exact h3⟩
            have hR:=hr.ba E7 hn5 hs.heap hri';have post:∀(e:Exit) (x:AX),yq e x->Q x ⟨s.ρ,H'.upd s.H.A (.loop .exhausted pend n2 env2 ps2 asg2 body2)⟩->iy P G n wb rd rb (wr (.rangeFunc g ps asg body)) Γ s.H a w Q e { a with defers:=mark++a.defers } _ :=
              fun e x hx hq=>⟨x,_,Γ',hx,hq,hS,E7,hn5,hR,fun t _=>rfl⟩
            simp only at hj;cases pend with
            |none=>exact post .normal .normal trivial hj
            |some c =>
              cases c with
              |ret=>exact wpIn_ret (post .ret .ret trivial hj)
              |exit i=>exact wpIn_exit (post (.exit i) (.exit i) rfl hj)
              |goto i=>exact wpIn_goto (post (.goto i) (.goto i) rfl hj)
              |_=>exact hj.elim
        |panicked chain =>
          cases r with
          |ret v=>exact hend.elim
          |panic =>
            exact⟨.panic,_,Γ',hend,hk.2,mkS _ _ R' E5 (E2.trans hn1 E') hn5,E5,hn5,hr.ba E5 hn5 hs.heap hk.1,fun t _=>rfl⟩
        |outgrown=>cases r<;>exact hend.elim
  cases rb with
  |none =>
    let w0:World:={ w with heap:=w.heap.push (.deferred (some [])) }
    have hk0:∀b,b<w.heap.size->w0.heap[b]?=w.heap[b]?:=fun b hb=>by
      show (w.heap.push _)[b]?=_;rw[XT,Vg V]
    obtain⟨E0,R0⟩:=yJ (w:=w) (w':=w0) rfl rfl rfl (by simp[w0]) hk0 (fun a _=>qE (o:=.deferred (some [])) rfl (fun _ _ _ h=>by cases h) a) hs.heap;refine key w0 [{ target:=.collected w.heap.size,args:=#[] }] w.heap.size E0 R0 ?_ _ rfl rfl;obtain⟨m,hm,hmk⟩:=hs.defers;refine⟨{ target:=.collected w.heap.size,args:=#[] } :: m,by rw[hm];rfl,fun d hd=>?_,?_⟩
    · simp only[List.mem_cons]at hd;rcases hd with rfl|hd
      · refine⟨w.heap.size,rfl,hs.low,?_,by simp[w0]⟩;rintro⟨i,base,m,hi⟩;have:=hs.heap.lt _ _ _ _ hi;omega
      · obtain⟨r,h1,h2,h3⟩:=hmk.1 d hd;exact⟨r,h1,h2,h3.ba E0⟩
    · refine XG.2 ⟨fun d hd=>?_,hmk.2⟩;obtain⟨r,h1,h2,h3⟩:=hmk.1 d hd;rw[h1];intro he;simp only[Target.collected.injEq]at he;have h4:=h3.2;rw[<- he,WN ZJ]at h4;cases h4
  |some b0 =>
    have hlr:∃r,w.heap[b0]?=some (.loop r):=by
      cases rd with
      |none=>cases hr
      |some id =>
        obtain⟨b,st,pend,n',env,ps',asg',body',h1,h2,h3⟩:=hr;obtain⟨b',r,h4,h5,_⟩:=hs.heap.loop _ _ _ _ _ _ _ _ h3;rw[h2]at h4;simp only[Option.some.injEq,Prod.mk.injEq]at h4 h1;rw[h1,h4.1];exact⟨r,h5⟩
    obtain⟨r,hlr⟩:=hlr;refine key w [] r.defers (ZV.refl _ _ _) hs.heap (by simpa using hs.defers) _ rfl ?_;show (Instr.enterLoop fn a.tmps ps asg body (some b0)).run P w=_;unfold Instr.enterLoop;simp only[bind_assoc,pure_bind];rw[aq (tf hlr)];rfl
end
end Go.Hx
namespace Go.Hx
variable {P:Program} {G:Nat->Option (List ZL)} {Γ Γ':aD} {H H':ZK} {w w':World}
variable {f:FuncId}{args args':List ZL}{v':ZL}
def cW:ZK:=⟨fun _=>none,0⟩
inductive Z6 (H:ZK):ZL->ZL->Prop
 |lit (v:Value):Z6 H (.lit v) (.lit v)
 |nil:Z6 H (.lit (.slice none 0 0)) (.Q 0 [])
 |nu:Z6 H (.Q 0 []) (.Q 0 [])
 |agg {c c':List ZL} (hl:c'.length=c.length) (h:∀i (h:i<c.length) (h':i<c'.length),Z6 H c[i] c'[i]):Z6 H (.agg c) (.agg c')
 |nc {c c':List ZL} (hl:c'.length=c.length) (h:∀i (h:i<c.length) (h':i<c'.length),Z6 H c[i] c'[i]):Z6 H (.nc c) (.nc c')
 |U {id g o l z:Nat} {e:TypeId} {cells c':List ZL} (hg:H.get id=some (.J g e cells)) (hl:c'.length=l*z)
   (h:∀i (h:i<l*z) (h2:o+i<cells.length) (h':i<c'.length),Z6 H cells[o+i] c'[i]):Z6 H (.U id g o l z) (.Q l c')
def Z6.sound (R:ZT P G Γ' H' w){N:Nat}(h1:∀b,Γ'.fH b->N<=b)(h2:∀b,Γ.fH b->b<N){v:ZL}(hf:Z6 H' v v'):∀ {cv:Value},ZO P Γ' H' w v cv->ZO P Γ H w v' cv:=by
 induction hf with
 |lit v=>intro cv h;cases h;exact .lit _
 |nil=>intro cv h;cases h;exact .nu none 0
 |nu =>
  intro cv h;cases h with
  |nu a cap=>exact .nu a cap
  |Q hb hlt hlen hcs hcell hrel=>exact .nu _ _
 |agg hl hc ih =>
  intro cv h;cases h with
  |agg hcs hrel=>exact .agg V fun i a b=>ih i V a (hrel i V b)
 |nc hl hc ih =>
  intro cv h;cases h with
  |nc hcs hrel=>exact .nc V fun i a b=>ih i V a (hrel i V b)
 | @U id g o l z e cells c' hg hl hc ih =>
  intro cv h;cases h with
  |U h =>
   obtain⟨_,_,h0,h3⟩:=h;have h4:=(h3 _ _ _ hg).2 rfl;have harr:=R.J id g e cells hg;cases hΓ:Γ' id with
   |none =>
    rw[hΓ]at h4;obtain⟨rfl,rfl,rfl⟩:=h4;have:c'=[]:=Vp (by simpa using hl);subst this;exact .nu _ _
   |some y =>
    obtain⟨b,base,n⟩:=y;rw[hΓ]at h4 harr;obtain⟨a,cap,rfl,hcap,hoff,hor⟩:=h4;obtain⟨c,a1,a2,a3,a4⟩:=harr;rcases hor with ⟨rfl,hn⟩|⟨rfl,rfl⟩
    ·have hcell:∀i,i<l*z->∃cv,c[base+(o+i)]?=some cv/\∀(h:o+i<cells.length),ZO P Γ' H' w cells[o+i] cv:=fun i hi=>by
      obtain⟨cv,b1,b2⟩:=a4 (o+i) V;exact⟨cv,b1,fun _=>b2⟩
     let cs:List Value:=(List.range (l*z)).map fun i=>(c[base+(o+i)]?).getD undef
     have hcs:cs.length=c'.length:=(by simp[cs,hl]);refine .Q (cs:=cs) (fun ho=>?_) (R.lt _ _ _ _ hΓ) hcap hcs (fun i hi=>?_) fun i hi hi'=>?_
     ·have:=h2 b ho;have:=h1 b ⟨id,base,n,hΓ⟩;omega
     ·have hi2:i<l*z:=(by rw[hcs,hl]at hi;exact hi);obtain⟨cv,b1,_⟩:=hcell i hi2;have:cs[i]=cv:=(by simp[cs,b1]);rw[this];have he:base+o+i=base+(o+i):=V;simp only[World.cell?,a1,he];exact b1
     ·have hi2:i<l*z:=(by rw[hl]at hi;exact hi);obtain⟨cv,b1,b2⟩:=hcell i hi2;have:cs[i]=cv:=(by simp[cs,b1]);rw[this];exact ih i hi2 V hi (b2 V)
    ·have:c'=[]:=Vp (by simpa using hl);subst this;exact .nu _ _
def Hi (H:ZK):FzH (fun _=>True) H cW:=⟨fun _ _=>rfl,fun _ _ h=>absurd trivial h,fun _ h=>absurd trivial h⟩
def Bn (b:Nat):¬(gH (fun _=>True) Γ).fH b:=by
 rintro⟨id,base,n,h⟩;exact(kV h).1 trivial
def mK (o:Option ZL)(r:ZQ)(H':ZK):Prop:=match o with
 |some v'=>∃v,r=.ret v/\Z6 H' v v'
 |none=>r=.panic
def Bo:Option ZL->ZQ
 |some v=>.ret v
 |none=>.panic
def ae.sN {o:Option ZL}(hG:fB G)(hl:args'.length=args.length)(hv:∀i (h:i<args.length) (h':i<args'.length),Fz (fun _=>True) H 0 args[i] args'[i])
  (h:ae P G f args' cW (mK o)):ae P G f args H fun r H'=>r=Bo o/\H'=H:=by
 refine⟨h.1,fun Γ w cargs R hr=>?_⟩;have F:=Hi H;have R0:ZT P G (gH (fun _=>True) Γ) cW w:=F.rel hG R;have hr0:dH P (gH (fun _=>True) Γ) cW w args' cargs:=⟨by have:=hr.1;omega,fun i h1 h2=>(hv i V h1).sound R F (hr.2 i V h2)⟩
 refine(h.2 _ w cargs R0 hr0).mono ?_;rintro e w' ⟨r,H',Γ',hend,hg,R',E,hn⟩;have hown:∀b,Γ'.fH b->w.heap.size<=b:=fun b hb=>Yw fun hlt=>(E.ng b hlt (Bn b)).2 hb;have hown2:∀b,Γ.fH b->b<w.heap.size:=fun b ⟨id,base,n,hb⟩=>R.lt _ _ _ _ hb;obtain⟨E2,R2⟩:=yJ E.os E.tape E.output E.size (fun b hb=>(E.ng b hb (Bn b)).1) E.ny R;refine⟨Bo o,H,Γ,?_,⟨rfl,rfl⟩,R2,E2,ZJ⟩;cases o with
 |some v' =>
  obtain⟨v,rfl,hf⟩:=hg;cases e with
  |returned cv=>exact hf.sound R' hown hown2 hend
  |_=>exact hend.elim
 |none =>
  have hg':r=.panic:=hg;subst hg';cases e with
  |panicked chain=>exact hend
  |_=>exact hend.elim
def ae.frame (hG:fB G)(hl:args'.length=args.length)(hv:∀i (h:i<args.length) (h':i<args'.length),Fz (fun _=>True) H 0 args[i] args'[i])
  (h:ae P G f args' cW fun r H'=>∃v,r=.ret v/\Z6 H' v v'):ae P G f args H fun r H'=>r=.ret v'/\H'=H:=ae.sN (o:=some v') hG hl hv h
end Go.Hx
namespace Go.Hx.Ev
open Go.Hx
variable {P:Program} {G:Nat->Option (List ZL)} {Γ Γ':aD} {H H':ZK} {w w':World}
variable {r:Nat}{e g:Nat->Option ZR}
def cV (e g:Nat->Option ZR):Nat->Option ZR:=fun j=>match e j with
 |some b=>some b
 |none=>g j
def nX (e:Option (Nat × ZR)):Nat->Option ZR:=fun j=>match e with
 |some (k,b)=>if j=k then some b else none
 |none=>none
def Bi (e:Option (Nat × ZR))(g:Nat->Option ZR):cV (nX e) g=fk e g:=by
 funext j
 cases e with
 |none=>rfl
 |some kb =>
  obtain⟨k,b⟩:=kb;simp only[cV,nX,fk];by_cases h:j=k
  ·rw[Vh h,Vh h]
  ·rw[Vg h,Vg h]
def nY (P:Program)(G:Nat->Option (List ZL))(fv:ZL)(args:List ZL)(H:ZK)(v:ZL)(e:Nat->Option ZR)(k:Nat)(f:FP):Prop :=
 (∀r,r∈f.rs->r<H.A)/\(∀r,(e r).isSome=true->r∈f.nC/\((r∈f.rs/\∃g t c,H.get r=some (.J g t c))\/(H.A<=r/\r<H.A+k)))/\(∀c,c<k->(e (H.A+c)).isSome=true) /\
 ∀H2:ZK,(∀r,r∈f.rs->H2.get r=H.get r)->(∀c,c<k->H2.get (H.A+c)=some .nq)->H.A+k<=H2.A->ak P G fv args H2 fun r H3=>r=.ret v/\H3=⟨cV e H2.get,H2.A⟩
def bE (P:Program)(G:Nat->Option (List ZL))(o:Oper)(K:FP->St->Prop)(s:St):Prop :=
 match o.op with
 |.call { callee:=.value fv,args,.. }=>∃v e k f,nY P G (ar G s.ρ fv) (args.toList.map (ar G s.ρ)) s.H v e k f/\K f ⟨aH s.ρ o.dst v,⟨cV e s.H.get,s.H.A+k⟩⟩
 |op=>bj (ao P G s.ρ s.H s.H.A op) fun vH=>K (cC P G s.ρ s.H.A op) ⟨aH s.ρ o.dst vH.1,vH.2⟩
def dW (P:Program)(G:Nat->Option (List ZL))(all:Array Oper)(tail:St->Prop):List Nat->Nat->List (Nat × FP)->List Oper->St->Prop
 |b :: bs,i,acc,o :: rest,s=>bj (gU all s.ρ o) fun t=>if t=true then bE P G o (fun f s'=>jt b f acc/\dW P G all tail bs (i+1) (fK i f acc) rest s') s
   else dW P G all tail bs (i+1) acc rest ⟨aH s.ρ o.dst (.lit undef),s.H⟩
 |_,_,_,[],s=>tail s
 | [],_,_,_ :: _,_=>False
structure Dt where
 v:ZL
 e:Nat->Option ZR
 al:Nat
 f:FP
def bq (all:Array Oper)(d:Nat->Dt)(ρ0:Env):Nat->(Nat->Bool)->Env
 |0,_=>ρ0
 |n+1,D=>if D n then aH (bq all d ρ0 n D) (gY all n) (d n).v else bq all d ρ0 n D
def aV (d:Nat->Dt)(g0:Nat->Option ZR):Nat->(Nat->Bool)->Nat->Option ZR
 |0,_=>g0
 |n+1,D=>if D n then cV (d n).e (aV d g0 n D) else aV d g0 n D
def aM (d:Nat->Dt):Nat->Nat
 |0=>0
 |n+1=>aM d n+(d n).al
def dY (x:Dt)(r:Nat):Prop:=(x.e r).isSome=true
def nZ (h:¬(e r).isSome=true):cV e g r=g r:=by
 unfold cV;cases he:e r with
 |none=>rfl
 |some b=>rw[he]at h;exact absurd rfl h
def Bj {g':Nat->Option ZR}(h:(e r).isSome=true):cV e g r=cV e g' r:=by
 unfold cV;cases he:e r with
 |none=>rw[he]at h;cases h
 |some b=>rfl
def xS {g':Nat->Option ZR}(h:g r=g' r):cV e g r=cV e g' r:=by
 unfold cV;rw[h]
def G7 {e':Nat->Option ZR}(h:∀r,(e r).isSome=true->¬(e' r).isSome=true):cV e' (cV e g)=cV e (cV e' g):=by
 funext r
 by_cases hx:(e r).isSome=true
 ·rw[nZ (h r hx)];exact Bj hx
 ·rw[nZ (g:=cV e' g) hx];exact xS (nZ hx)
section
variable {all:Array Oper} {d d':Nat->Dt} {ρ0:Env} {g0 g0':Nat->Option ZR} {D D':Nat->Bool}
def pt {t:Tmp}:∀ {n:Nat},(∀j,j<n->gY all j=some t->D j=D' j)->bq all d ρ0 n D t=bq all d ρ0 n D' t:=by
 intro n
 induction n with
 |zero=>intro _;rfl
 |succ n ih =>
  intro h;have h0:=ih fun j hj=>h j V;simp only[bq];by_cases hd:gY all n=some t
  ·rw[h n V hd];split
   ·exact uN h0
   ·exact h0
  ·have:∀(b:Bool) (ρ:Env),(if b=true then aH ρ (gY all n) (d n).v else ρ) t=ρ t:=by
    intro b ρ;split
    ·exact qW hd
    ·rfl
   rw[this,this];exact h0
def xT {m:Nat}:∀ {n:Nat},m<=n->bq all d ρ0 n (fun j=>decide (j<m))=bq all d ρ0 m fun _=>true:=by
 have low:∀k,k<=m->bq all d ρ0 k (fun j=>decide (j<m))=bq all d ρ0 k fun _=>true:=by
  intro k
  induction k with
  |zero=>intro _;rfl
  |succ k ih =>
   intro hk;simp only[bq];rw[ih V,Vh (by simp;omega)];simp
 intro n
 induction n with
 |zero =>
  intro hm;obtain rfl:m=0:=V
  exact low 0 (V)
 |succ n ih =>
  intro hm;by_cases h:m=n+1
  ·subst h;exact low (n+1) (V)
  ·simp only[bq];rw[Vg (by simp;omega)];exact ih (V)
def px {r:Nat}:∀ {n:Nat},(∀j,j<n->dY (d j) r->D j=D' j)->aV d g0 n D r=aV d g0 n D' r:=by
 intro n
 induction n with
 |zero=>intro _;rfl
 |succ n ih =>
  intro h;have h0:=ih fun j hj=>h j V;simp only[aV];by_cases hd:dY (d n) r
  ·rw[h n V hd];split
   ·exact xS h0
   ·exact h0
  ·have:∀(b:Bool) (g:Nat->Option ZR),(if b=true then cV (d n).e g else g) r=g r:=by
    intro b g;split
    ·exact nZ hd
    ·rfl
   rw[this,this];exact h0
def xU {m:Nat}:∀ {n:Nat},m<=n->aV d g0 n (fun j=>decide (j<m))=aV d g0 m fun _=>true:=by
 have low:∀k,k<=m->aV d g0 k (fun j=>decide (j<m))=aV d g0 k fun _=>true:=by
  intro k
  induction k with
  |zero=>intro _;rfl
  |succ k ih =>
   intro hk;simp only[aV];rw[ih V,Vh (by simp;omega)];simp
 intro n
 induction n with
 |zero =>
  intro hm;obtain rfl:m=0:=V
  exact low 0 (V)
 |succ n ih =>
  intro hm;by_cases h:m=n+1
  ·subst h;exact low (n+1) (V)
  ·simp only[aV];rw[Vg (by simp;omega)];exact ih (V)
def sH {r:Nat}:∀ {n:Nat},(g0 r=g0' r\/∃j,j<n/\D j=true/\dY (d j) r)->aV d g0 n D r=aV d g0' n D r:=by
 intro n
 induction n with
 |zero =>
  rintro(h|⟨j,hj,_⟩)
  ·exact h
  ·omega
 |succ n ih =>
  intro h;simp only[aV];by_cases hD:D n=true
  ·rw[Vh hD,Vh hD];by_cases ht:dY (d n) r
   ·exact Bj ht
   ·refine xS (ih ?_);rcases h with h|⟨j,hj,h1,h2⟩
    ·exact .inl h
    ·by_cases hjn:j=n
     ·subst hjn;exact absurd h2 ht
     ·exact .inr ⟨j,V,h1,h2⟩
  ·rw[Vg hD,Vg hD];refine ih ?_;rcases h with h|⟨j,hj,h1,h2⟩
   ·exact .inl h
   ·by_cases hjn:j=n
    ·subst hjn;exact absurd h1 hD
    ·exact .inr ⟨j,V,h1,h2⟩
def xV {r:Nat}:∀ {n:Nat},(∀j,j<n->D j=true->¬dY (d j) r)->aV d g0 n D r=g0 r:=by
 intro n
 induction n with
 |zero=>intro _;rfl
 |succ n ih =>
  intro h;simp only[aV];split
  ·rename_i hD;rw[nZ (h n V hD)];exact ih fun j hj=>h j (V)
  ·exact ih fun j hj=>h j (V)
def bV (D:Nat->Bool)(i:Nat):Nat->Bool:=fun j=>if j=i then true else D j
def xW {i:Nat}(hD:D i=false):∀ {n:Nat},i<n->(∀j,i<j->j<n->D j=true->∀t,gY all i=some t->gY all j≠some t) ->
  bq all d ρ0 n (bV D i)=aH (bq all d ρ0 n D) (gY all i) (d i).v:=by
 intro n
 induction n with
 |zero=>intro h;omega
 |succ n ih =>
  intro hi h;by_cases hin:i=n
  ·subst hin;have h0:bq all d ρ0 i (bV D i)=bq all d ρ0 i D:=funext fun t=>pt fun j hj _=>by simp[bV,Yn hj]
   simp only[bq];rw[Vh (by simp[bV]),Vg (by simp[hD]),h0]
  ·have hw:bV D i n=D n:=(by simp[bV,Ne.symm hin]);have h0:=ih V fun j h1 h2=>h j h1 V;simp only[bq,hw];split
   ·rename_i hDn;rw[h0];exact B9 (h n V V hDn)
   ·exact h0
def xX {i:Nat}(hD:D i=false):∀ {n:Nat},i<n->(∀j,i<j->j<n->D j=true->∀t,dY (d i) t->¬dY (d j) t) ->
  aV d g0 n (bV D i)=cV (d i).e (aV d g0 n D):=by
 intro n
 induction n with
 |zero=>intro h;omega
 |succ n ih =>
  intro hi h;by_cases hin:i=n
  ·subst hin;have h0:aV d g0 i (bV D i)=aV d g0 i D:=funext fun t=>px fun j hj _=>by simp[bV,Yn hj]
   simp only[aV];rw[Vh (by simp[bV]),Vg (by simp[hD]),h0]
  ·have hw:bV D i n=D n:=(by simp[bV,Ne.symm hin]);have h0:=ih V fun j h1 h2=>h j h1 V;simp only[aV,hw];split
   ·rename_i hDn;rw[h0];exact G7 (h n V V hDn)
   ·exact h0
def qO {m n:Nat}(h:m<=n):aM d m<=aM d n:=by
 induction n with
 |zero =>
  have:m=0:=V
  subst this;exact Nat.le_refl _
 |succ n ih =>
  by_cases hm:m=n+1
  ·subst hm;exact Nat.le_refl _
  ·exact VM (ih V) (by simp[aM])
def sI {n c:Nat}(h:c<aM d n):∃j,j<n/\aM d j<=c/\c<aM d j+(d j).al:=by
 induction n with
 |zero=>simp[aM]at h
 |succ n ih =>
  by_cases hc:c<aM d n
  ·obtain⟨j,h1,h2⟩:=ih hc;exact⟨j,V,h2⟩
  ·simp only[aM]at h;exact⟨n,V,V,V⟩
def lX {i n:Nat}(h:i<n):aM d i+(d i).al<=aM d n:=by
 have:=qO (d:=d) (m:=i+1) (n:=n) h;simpa only[aM] using this
def sJ {n:Nat}(h:∀j,j<n->d j=d' j):bq all d ρ0 n D=bq all d' ρ0 n D:=by
 induction n with
 |zero=>rfl
 |succ n ih=>simp only[bq];rw[ih fun j hj=>h j V,h n V]
def sK {n:Nat}(h:∀j,j<n->d j=d' j):aV d g0 n D=aV d' g0 n D:=by
 induction n with
 |zero=>rfl
 |succ n ih=>simp only[aV];rw[ih fun j hj=>h j V,h n V]
def fS {n:Nat}(h:∀j,j<n->d j=d' j):aM d n=aM d' n:=by
 induction n with
 |zero=>rfl
 |succ n ih=>simp only[aM];rw[ih fun j hj=>h j V,h n V]
end
def ExecOk (P:Program)(G:Nat->Option (List ZL))(all:Array Oper)(o:Oper)(id:Nat)(s s':St):Prop :=
 (gU all s.ρ o=some false/\s'=⟨aH s.ρ o.dst (.lit undef),s.H⟩) \/
 (gU all s.ρ o=some true/\∃v,s'.ρ=aH s.ρ o.dst v /\
  (ao P G s.ρ s.H id o.op=some (v,s'.H) \/
   ∃fv args ats,o.op=.call ⟨.value fv,args,ats⟩/\(∀id st pend m env ps asg body,s.H.get id=some (.loop st pend m env ps asg body)->s'.H.get id=s.H.get id)/\ak P G (ar G s.ρ fv) (args.toList.map (ar G s.ρ)) s.H fun r H3=>r=.ret v/\H3=s'.H))
def xY {n:Nat}{wb:nnc}{rd rb:Option Nat}{all:Array Oper}{o:Oper}{id i:Nat}{s s':St}{a:Act}{A:Act->World->Prop}{Q':Exit->Act->World->Prop}(ho:all[i]?=some o)(hd:eP n o=true)
  (hs:Z1 P G n wb Γ s a w) (hr:dN Γ s.H rd rb) (h:ExecOk P G all o id s s')
  (hnext:∀ Γ' a' w',Z1 P G n wb Γ' s' a' w'->ZV Γ s.H w Γ' s'.H w'->s.H.A<=s'.H.A->dN Γ' s'.H rd rb->(∃cv,a'=a.put o.dst cv)->A a' w'):
  wpOpIn (dZ rb) 0 P all Q' i A a w:=by
 have hdst:∀d,o.dst=some d->d<n:=by
  intro d hd';unfold eP at hd;rw[hd']at hd;simpa using hd
 unfold wpOpIn;rw[ho];simp only;rcases h with ⟨hw,rfl⟩|⟨hw,v,hρ,h⟩
 ·rw[pC hs hw];simp only[Bool.false_eq_true,if_false];refine⟨fun _ _=>trivial,?_⟩;have hs':=ja (v:=.lit undef) (cv:=undef) hs hdst (ZV.refl Γ s.H w) ZJ hs.heap (.lit _);exact hnext Γ _ w hs' (ZV.refl _ _ _) ZJ hr ⟨_,rfl⟩
 ·rw[pC hs hw];simp only[if_true];obtain⟨ρ',H'⟩:=s';simp only at hρ;subst hρ;refine⟨fun _ _=>trivial,?_⟩;rcases h with hop|⟨fv,args,ats,hop,hH,hap⟩
  ·simp only at hop;rw[Oper.semAt_eq _ _ _ (fun c hc=>by rw[hc]at hop;simp[ao]at hop)];obtain⟨nx,cv,Γ',w',hrun,hnx,E,hn,R,hv⟩:=yo hs.heap (jr hs) hop;rw[hrun];have hri:=yr hr (yt hs.heap hop);have hs':=ja hs hdst E hn R hv;have hr':=hr.ba E hn hs.heap hri;rcases hnx with rfl|⟨rfl,rfl⟩
   ·exact hnext Γ' _ w' hs' E hn hr' ⟨_,rfl⟩
   ·exact hnext Γ' _ w' hs' E hn hr' ⟨_,rfl⟩
  ·rw[Oper.semAt_eq _ _ _ (fun c hc=>by rw[hc]at hop;cases hop)];obtain⟨d,h1,h2⟩:=hap Γ w (a.eval fv) (args.map a.eval) hs.heap (jr hs fv) ⟨ZG,fun i h1 h2=>by simp only[Vw,XO,Wm];exact jr hs _⟩;have hex:(execOp a.eval o).run P w=(invoke d.target d.args).run P w:=by
    unfold execOp;simp only[hop];unfold resolve;simp only;rw[aq h1]
   have hri:fI H' rd:=by
    cases rd with
    |none=>trivial
    |some id =>
     obtain⟨b,st,pend,n,env,ps,asg,body,_,_,h3⟩:=hr;exact⟨_,_,_,_,_,_,_,(hH _ _ _ _ _ _ _ _ h3).trans h3⟩
   have cont:∀e w',fJ P G Γ s.H w (fun r H3=>r=.ret v/\H3=H') e w'->(match e with
     |.returned v=>A (a.put o.dst v) w'
     |.panicked chain=>Q' (.panic chain) a w'
     |.outgrown=>LetsOut Q'):=by
    rintro e w' ⟨r,H4,Γ',hend,⟨rfl,rfl⟩,R,E,hn⟩;have hr':=hr.ba E hn hs.heap hri;cases e with
    |returned cv=>exact hnext Γ' _ w' (ja hs hdst E hn R hend) E hn hr' ⟨_,rfl⟩
    |panicked chain=>exact hend.elim
    |outgrown=>exact hend.elim
   rw[hex];rcases h2 with ⟨f,as,h3,h4⟩|⟨l,f,tm,asg,body,h3,h4⟩|⟨cv,w',h3,h4⟩
   ·rw[h3];refine⟨fun hc=>by simp[Fence.wide]at hc,?_⟩;have h4':CallsIn (dZ rb) 0 P f as w _:=h4;refine h4'.mono ?_;intro e w' hp;have:=cont e w' hp;cases e<;>exact this
   ·rw[h3];refine⟨fun hc=>by simp[Fence.wide]at hc,?_⟩;have h4':RoundIn (dZ rb) 0 P l f tm asg body w _:=h4;refine h4'.mono ?_;intro e w' hp;have:=cont e w' hp;cases e<;>exact this
   ·rw[h3];exact cont (.returned cv) w' h4
def mI (d:Nat->Dt)(H0:ZK)(m:Nat):ZK:=⟨aV d H0.get m fun _=>true,H0.A+aM d m⟩
def canon (all:Array Oper)(d:Nat->Dt)(s0:St)(m:Nat):St:=⟨bq all d s0.ρ m fun _=>true,mI d s0.H m⟩
structure ZZ (P:Program)(G:Nat->Option (List ZL))(all:Array Oper)(bs:List Nat)(s0:St)(d:Nat->Dt)(i:Nat):Prop where
 step:∀o,all[i]?=some o->∀ ρ2 H2,(∀t,t∈o.looksAt all->ρ2 t=(canon all d s0 i).ρ t)->(∀r,r∈(d i).f.rs->H2.get r=(canon all d s0 i).H.get r) ->
  (∀c,c<(d i).al->H2.get (s0.H.A+aM d i+c)=some .nq)->s0.H.A+aM d i+(d i).al<=H2.A ->
  ExecOk P G all o (s0.H.A+aM d i) ⟨ρ2,H2⟩ ⟨aH ρ2 o.dst (d i).v,⟨cV (d i).e H2.get,H2.A⟩⟩
 nC:∀r,dY (d i) r->r∈(d i).f.nC/\(r∈(d i).f.rs\/(s0.H.A+aM d i<=r/\r<s0.H.A+aM d i+(d i).al))
 al:∀c,c<(d i).al->dY (d i) (s0.H.A+aM d i+c)
 lt:∀r,r∈(d i).f.rs->r<s0.H.A+aM d i
 apart:∀j,j<i->(eJ bs i).testBit j=false->(∀r,r∈(d i).f.nC->r ∉ (d j).f.rs)/\(∀r,r∈(d j).f.nC->r ∉ (d i).f.rs)
def cB (d:Nat->Dt)(m:Nat)(x:Dt):Nat->Dt:=fun j=>if j=m then x else d j
def iw {d:Nat->Dt}{m:Nat}{x:Dt}{i:Nat}(h:i<m):d i=cB d m x i:=by simp[cB,Yn h]
def de {d:Nat->Dt}{m:Nat}{x:Dt}:cB d m x m=x:=by simp[cB]
def mJ {all:Array Oper}{d d':Nat->Dt}{s0:St}{m:Nat}(h:∀j,j<m->d j=d' j):canon all d s0 m=canon all d' s0 m:=by
 unfold canon mI;rw[sJ h,sK h,fS h]
def ZZ.below {all:Array Oper}{bs:List Nat}{s0:St}{d d':Nat->Dt}{i:Nat}(g:ZZ P G all bs s0 d i)(h:∀j,j<=i->d j=d' j):ZZ P G all bs s0 d' i:=by
 have hi:=h i ZJ;have hn:aM d i=aM d' i:=fS fun j hj=>h j V;have hc:canon all d s0 i=canon all d' s0 i:=mJ fun j hj=>h j V;obtain⟨a,b,c,e,f⟩:=g;refine⟨?_,?_,?_,?_,?_⟩
 ·rw[<- hi,<- hn,<- hc];exact a
 ·rw[<- hi,<- hn];exact b
 ·rw[<- hi,<- hn];exact c
 ·rw[<- hi,<- hn];exact e
 ·intro j hj hb;rw[<- hi,<- h j V];exact f j hj hb
def kP (d:Nat->Dt)(m:Nat)(acc:List (Nat × FP)):Prop:=∀j,j<m->(d j).f=⟨[],[]⟩\/(j,(d j).f)∈acc
def kP.add {d:Nat->Dt}{m:Nat}{acc:List (Nat × FP)}(h:kP d m acc)(x:Dt):kP (cB d m x) (m+1) (fK m x.f acc):=by
 intro j hj;have key:∀p,p∈acc->p∈fK m x.f acc:=by
  intro p hp;unfold fK;split
  ·exact hp
  ·exact Xl _ hp
 by_cases hjm:j=m
 ·subst hjm;rw[de];by_cases hf:x.f=⟨[],[]⟩
  ·exact .inl hf
  ·refine .inr ?_;unfold fK;split
   ·rename_i h0;exact absurd h0 hf
   ·exact List.mem_cons_self
 ·rw[<- iw (x:=x) V];exact(h j V).imp id (key _)
def sL {d:Nat->Dt}{m:Nat}{acc:List (Nat × FP)}{b:Nat}{f:FP}(hc:kP d m acc)(h:jt b f acc):∀j,j<m->b.testBit j=false->(∀r,r∈f.nC->r ∉ (d j).f.rs)/\(∀r,r∈(d j).f.nC->r ∉ f.rs):=by
 intro j hj hb;rcases hc j hj with h0|h1
 ·rw[h0];exact⟨fun r _ h=>(by cases h),fun r h=>(by cases h)⟩
 ·exact h _ h1 hb
def pz {all:Array Oper}{d:Nat->Dt}{s0:St}{m:Nat}{x:Dt}{o:Oper}(ho:all[m]?=some o):
  canon all (cB d m x) s0 (m+1)=⟨aH (canon all d s0 m).ρ o.dst x.v,⟨cV x.e (canon all d s0 m).H.get,(canon all d s0 m).H.A+x.al⟩⟩:=by
 have hb:∀j,j<m->d j=cB d m x j:=fun j hj=>iw hj;unfold canon mI;simp only[bq,aV,aM,if_true,de];rw[<- sJ hb,<- sK hb,<- fS hb];simp only[gY,ho,Option.bind_some,Xg]
def pA {all:Array Oper}{bs:List Nat}{s0:St}{d:Nat->Dt}{m:Nat}{x:Dt}(hg:∀i,i<m->ZZ P G all bs s0 d i)(hx:ZZ P G all bs s0 (cB d m x) m):
  ∀i,i<m+1->ZZ P G all bs s0 (cB d m x) i:=by
 intro i hi;by_cases him:i=m
 ·subst him;exact hx
 ·exact(hg i V).below fun j hj=>iw (V)
def trace {all:Array Oper}{bs:List Nat}{s0:St}{tail:St->Prop}{K:Nat}(hbs:bs.length=K)(hK:K<=all.size):∀(k m:Nat) (d:Nat->Dt) (acc:List (Nat × FP)),k+m=K ->
  (∀i,i<m->ZZ P G all bs s0 d i)->kP d m acc->gW (canon all d s0 m).H->dW P G all tail (bs.drop m) m acc ((all.toList.take K).drop m) (canon all d s0 m) ->
  ∃d',(∀i,i<K->ZZ P G all bs s0 d' i)/\tail (canon all d' s0 K):=by
 intro k
 induction k with
 |zero =>
  intro m d acc hm hg hc wf h;obtain rfl:m=K:=V
  refine⟨d,hg,?_⟩;have:(all.toList.take m).drop m=[]:=by
   apply YB;simp only[Vv];omega
  rw[this]at h;cases hb:bs.drop m with
  |nil=>rw[hb]at h;simpa only[dW] using h
  |cons b bs'=>rw[hb]at h;simpa only[dW] using h
 |succ k ih =>
  intro m d acc hm hg hc wf h;have hmK:m<K:=V
  have hms:m<all.size:=V
  have ho:all[m]?=some all[m]:=Vq hms;have hbm:bs.drop m=eJ bs m :: bs.drop (m+1):=by
   rw[Wb V];congr 1;simp[eJ,Vf (show m<bs.length by omega)]
  have hom:(all.toList.take K).drop m=all[m] :: (all.toList.take K).drop (m+1):=by
   rw[Wb (by simp only[Vv,Xb];omega)];congr 1;simp
  rw[hbm,hom]at h;simp only[dW]at h;obtain⟨t,ht,h⟩:=h;have hnext:(canon all d s0 m).H.A=s0.H.A+aM d m:=rfl;cases t with
  |false =>
   simp only[Bool.false_eq_true,if_false]at h
   let x:Dt:=⟨.lit undef,fun _=>none,0,⟨[],[]⟩⟩
   have hb:∀j,j<m->d j=cB d m x j:=fun j hj=>iw hj;have hcan:canon all (cB d m x) s0 (m+1)=⟨aH (canon all d s0 m).ρ all[m].dst (.lit undef),(canon all d s0 m).H⟩:=pz ho;have hgx:ZZ P G all bs s0 (cB d m x) m:=by
    refine⟨?_,?_,?_,?_,?_⟩
    ·rw[de,<- mJ hb];intro o ho' ρ2 H2 h1 h2 h3 _;rw[ho]at ho';cases ho';refine .inl ⟨?_,rfl⟩;simp only;rw[qX h1,ht]
    ·rw[de];intro k he;cases he
    ·rw[de];intro c he;exact absurd he (Vt _)
    ·rw[de];intro r hr;cases hr
    ·rw[de];intro j hj hbit;exact⟨fun r hr=>(by cases hr),fun r hr hr'=>(by cases hr')⟩
   refine ih (m+1) (cB d m x) acc V (pA hg hgx) (hc.add x) ?_ ?_
   ·rw[hcan];exact wf
   ·rw[hcan];exact h
  |true =>
   simp only[if_true]at h;unfold bE at h;split at h
   ·rename_i fv args ats hop;obtain⟨v,e,k,f,⟨hlt,heff,hnew,hcall⟩,hap,h⟩:=h
    let x:Dt:=⟨v,e,k,f⟩
    have hb:∀j,j<m->d j=cB d m x j:=fun j hj=>iw hj;have hcan:canon all (cB d m x) s0 (m+1)=⟨aH (canon all d s0 m).ρ all[m].dst v,⟨cV e (canon all d s0 m).H.get,(canon all d s0 m).H.A+k⟩⟩:=pz ho;have hgx:ZZ P G all bs s0 (cB d m x) m:=by
     refine⟨?_,?_,?_,?_,?_⟩
     ·rw[de,<- mJ hb,<- fS hb];intro o ho' ρ2 H2 h1 h2 h3 h4;rw[ho]at ho';cases ho';refine .inr ⟨?_,v,rfl,.inr ⟨fv,args,ats,hop,?_,?_⟩⟩
      ·simp only;rw[qX h1,ht]
      ·intro id st pend q env ps asg body hid;refine nZ fun hs=>?_;rcases(heff id hs).2 with ⟨hrs,g,t,c,hg⟩|⟨g1,g2⟩
       ·have e9:=h2 id hrs;simp only at hid;rw[hid,hg]at e9;cases e9
       ·obtain⟨c,rfl⟩:∃c,id=(canon all d s0 m).H.A+c:=⟨id-(canon all d s0 m).H.A,V⟩
        have e9:H2.get ((canon all d s0 m).H.A+c)=some .nq:=h3 c (show c<k by omega);simp only at hid;rw[hid]at e9;cases e9
      ·have hev:=uP (G:=G) h1;have e1:ar G ρ2 fv=ar G (canon all d s0 m).ρ fv:=hev fv (by simp[hop,Op.operands,Call.operands]);have e2:args.toList.map (ar G ρ2)=args.toList.map (ar G (canon all d s0 m).ρ) :=
        VI fun y hy=>hev y (by simp only[hop,Op.operands,Call.operands];simp;exact .inr (by simpa using hy))
       simp only;rw[e1,e2];exact hcall H2 h2 h3 h4
     ·rw[de,<- fS hb];intro r hr;exact⟨(heff r hr).1,(heff r hr).2.imp (fun h=>h.1) id⟩
     ·rw[de,<- fS hb];exact hnew
     ·rw[de,<- fS hb];exact hlt
     ·rw[de];intro j hj hbit;rw[<- iw hj];exact sL hc hap j hj hbit
    refine ih (m+1) (cB d m x) _ V (pA hg hgx) (hc.add x) ?_ ?_
    ·rw[hcan];intro id b hid;show id<(canon all d s0 m).H.A+k;simp only at hid;by_cases hs:(e id).isSome=true
     ·rcases(heff id hs).2 with ⟨hrs,_⟩|⟨_,g2⟩
      ·have:=hlt id hrs;omega
      ·exact g2
     ·rw[nZ hs]at hid;have:=wf id b hid;omega
    ·rw[hcan];exact h
   ·obtain⟨⟨v,H'⟩,hop,hap,h⟩:=h;obtain⟨e,al,hget,hnx,heff,hal,hlt,hloc⟩:=B7 wf hop
    let x:Dt:=⟨v,nX e,(if al=true then 1 else 0),cC P G (canon all d s0 m).ρ (canon all d s0 m).H.A all[m].op⟩
    have hb:∀j,j<m->d j=cB d m x j:=fun j hj=>iw hj;have hcan:canon all (cB d m x) s0 (m+1)=⟨aH (canon all d s0 m).ρ all[m].dst v,H'⟩:=by
     rw[pz ho];congr 1;cases H';simp only at hget hnx;simp only[ZK.mk.injEq];refine⟨(Bi _ _).trans hget.symm,?_⟩;rw[hnx];simp only[x];cases al<;>simp
    have hgx:ZZ P G all bs s0 (cB d m x) m:=by
     refine⟨?_,?_,?_,?_,?_⟩
     ·rw[de,<- mJ hb,<- fS hb];intro o ho' ρ2 H2 h1 h2 h3 h4;rw[ho]at ho';cases ho';refine .inr ⟨?_,v,rfl,.inl ?_⟩
      ·simp only;rw[qX h1,ht]
      ·simp only;rw[B8 (ρ':=(canon all d s0 m).ρ) (uP h1),Bi];refine hloc H2 h2 fun ha=>?_;subst ha;have h5:=h3 0 (by simp[x]);simp only[x,if_true]at h4;refine⟨h5,?_⟩;rw[hnext];omega
     ·rw[de,<- fS hb];intro r hr;unfold dY at hr;simp only[x,nX]at hr;cases he:e with
      |none=>rw[he]at hr;cases hr
      |some kb =>
       obtain⟨k0,b0⟩:=kb;rw[he]at hr;simp only at hr;by_cases hrk:r=k0
       ·subst hrk;obtain⟨h1,h2⟩:=heff r b0 he;refine⟨h1,?_⟩;cases hal2:al with
        |false=>exact .inl (h2 hal2)
        |true =>
         obtain⟨b1,hb1⟩:=hal hal2;rw[he]at hb1;simp only[Option.some.injEq,Prod.mk.injEq]at hb1;refine .inr ?_;simp only[x,hal2,if_true];rw[hnext]at hb1;omega
       ·rw[Vg hrk]at hr;cases hr
     ·rw[de,<- fS hb];intro c hc2;cases hal2:al with
      |false=>simp[x,hal2]at hc2
      |true =>
       simp only[x,hal2,if_true]at hc2;obtain⟨b1,hb1⟩:=hal hal2;obtain rfl:c=0:=V;unfold dY;simp only[x,nX,hb1,Nat.add_zero];rw[hnext];simp
     ·rw[de,<- fS hb];exact hlt
     ·rw[de];intro j hj hbit;rw[<- iw hj];exact sL hc hap j hj hbit
    have wf':gW H':=by
     intro id b hid;rw[hget]at hid;rw[hnx];cases e with
     |none =>
      have:=wf id b hid;split<;>omega
     |some kb =>
      obtain⟨k0,b0⟩:=kb;simp only[fk]at hid;split at hid
      ·rename_i hk;subst hk;cases al with
       |true =>
        obtain⟨b1,hb1⟩:=hal rfl;simp only[Option.some.injEq,Prod.mk.injEq]at hb1;simp only[if_true];omega
       |false =>
        have:=hlt _ ((heff id b0 rfl).2 rfl);simpa using this
      ·have:=wf id b hid;split<;>omega
    refine ih (m+1) (cB d m x) _ V (pA hg hgx) (hc.add x) ?_ ?_
    ·rw[hcan];exact wf'
    ·rw[hcan];exact h
end Go.Hx.Ev
namespace Go.Hx.Ev
open Go.Hx
variable {P:Program} {G:Nat->Option (List ZL)} {Γ Γ':aD} {H H':ZK} {w w':World}
variable {D:Nat->Bool}{d:Nat->Dt}{s0:St}
def fh (all:Array Oper)(d:Nat->Dt)(s0:St)(K:Nat)(D:Nat->Bool):St :=
 ⟨bq all d s0.ρ K D,⟨aV d (bO s0.H (aM d K)).get K D,s0.H.A+aM d K⟩⟩
def xZ {all:Array Oper}{bs:List Nat}{K:Nat}(S:nng all bs K)(hg:∀i,i<K->ZZ P G all bs s0 d i){i:Nat}{o:Oper}(hi:i<K)(ho:all[i]?=some o)(hDi:D i=false)
  (hdown:∀j,j<i->(eJ bs i).testBit j=true->D j=true) (hup:∀j,i<j->j<K->D j=true->(eJ bs j).testBit i=false):
  ExecOk P G all o (s0.H.A+aM d i) (fh all d s0 K D) (fh all d s0 K (bV D i)):=by
 have hget:∀j,j<K->∃oj,all[j]?=some oj:=fun j hj=>⟨_,Vq (Vn hj S.le)⟩
 have hgi:=hg i hi;have tgtE:∀j r,j<K->dY (d j) r->r∈(d j).f.nC/\(r∈(d j).f.rs\/(s0.H.A+aM d j<=r/\r<s0.H.A+aM d j+(d j).al)):=fun j r hj ht=>(hg j hj).nC r ht;have rangeK:∀r,r<s0.H.A+aM d i->((bO s0.H (aM d K)).get r=s0.H.get r\/∃j,j<i/\(fun _:Nat=>true) j=true/\dY (d j) r):=by
  intro r hr;by_cases h:s0.H.A<=r
  ·obtain⟨j,h1,h2,h3⟩:=sI (d:=d) (n:=i) (c:=r-s0.H.A) V;have:=(hg j V).al (r-s0.H.A-aM d j) V;rw[show s0.H.A+aM d j+(r-s0.H.A-aM d j)=r by omega]at this;exact .inr ⟨j,h1,rfl,this⟩
  ·left;simp only[bO];rw[Vg V]
 have henv:∀t,t∈o.looksAt all->bq all d s0.ρ K D t=(canon all d s0 i).ρ t:=by
  intro t ht;show _=bq all d s0.ρ i (fun _=>true) t;rw[<- xT (all:=all) (d:=d) (ρ0:=s0.ρ) (m:=i) (n:=K) V];refine pt fun j hj hdj=>?_;obtain⟨oj,hoj⟩:=hget j hj;rw[om hoj]at hdj;rcases WH j i with h|rfl|h
  ·cases hb:(eJ bs i).testBit j with
   |true=>rw[hdown j h hb];simp[h]
   |false=>exact absurd ht ((qY (S.apart i j o oj hi h ho hoj hb)).1 t hdj)
  ·rw[hDi];simp
  ·cases hD:D j with
   |false=>symm;simp;omega
   |true=>exact absurd ht ((qY (S.apart j i oj o hj h hoj ho (hup j h hj hD))).2.1 t hdj)
 have hheap:∀r,r∈(d i).f.rs->aV d (bO s0.H (aM d K)).get K D r=(canon all d s0 i).H.get r:=by
  intro r hr;show _=aV d s0.H.get i (fun _=>true) r;rw[<- sH (g0:=(bO s0.H (aM d K)).get) (rangeK r (hgi.lt r hr)),<- xU (m:=i) (n:=K) V];refine px fun j hj ht=>?_;obtain⟨he,_⟩:=tgtE j r hj ht;rcases WH j i with h|rfl|h
  ·cases hb:(eJ bs i).testBit j with
   |true=>rw[hdown j h hb];simp[h]
   |false=>exact absurd hr ((hgi.apart j h hb).2 r he)
  ·rw[hDi];simp
  ·cases hD:D j with
   |false=>symm;simp;omega
   |true=>exact absurd hr (((hg j hj).apart i h (hup j h hj hD)).1 r he)
 have hal:∀c,c<(d i).al->aV d (bO s0.H (aM d K)).get K D (s0.H.A+aM d i+c)=some .nq:=by
  intro c hc;have hlt:=lX (d:=d) hi;have heff:=(hgi.nC _ (hgi.al c hc)).1;rw[xV]
  ·simp only[bO];rw[Vh V]
  ·intro j hj hD ht;obtain⟨h1,h2⟩:=tgtE j _ hj ht;rcases WH j i with h|rfl|h
   ·rcases h2 with h3|⟨h2,h3⟩
    ·have:=(hg j hj).lt _ h3;have:=qO (d:=d) (X4 h);omega
    ·have:=lX (d:=d) h;omega
   ·rw[hDi]at hD;cases hD
   ·rcases h2 with h3|⟨h2,h3⟩
    ·exact absurd h3 (((hg j hj).apart i h (hup j h hj hD)).2 _ heff)
    ·have:=lX (d:=d) h;omega
 have:=hgi.step o ho (bq all d s0.ρ K D) ⟨aV d (bO s0.H (aM d K)).get K D,s0.H.A+aM d K⟩ henv hheap hal (by have:=lX (d:=d) hi;simp only;omega);have e1:bq all d s0.ρ K (bV D i)=aH (bq all d s0.ρ K D) o.dst (d i).v:=by
  rw[xW hDi hi,om ho];intro j h hj hD t hti;obtain⟨oj,hoj⟩:=hget j hj;rw[om ho]at hti;rw[om hoj];exact(qY (S.apart j i oj o hj h hoj ho (hup j h hj hD))).2.2 t hti
 have e2:aV d (bO s0.H (aM d K)).get K (bV D i)=cV (d i).e (aV d (bO s0.H (aM d K)).get K D):=by
  refine xX hDi hi fun j h hj hD r hti htj=>?_;obtain⟨a1,a2⟩:=tgtE i r hi hti;obtain⟨b1,b2⟩:=tgtE j r hj htj;obtain⟨c1,c2⟩:=(hg j hj).apart i h (hup j h hj hD);rcases b2 with b3|⟨b2,b3⟩
  ·exact c2 r a1 b3
  ·rcases a2 with a3|⟨a2,a3⟩
   ·exact c1 r b1 a3
   ·have:=lX (d:=d) h;omega
 unfold fh;rw[e1,e2];exact this
def sM {all:Array Oper}{bs:List Nat}{K:Nat}(hg:∀i,i<K->ZZ P G all bs s0 d i)(hD:∀j,j<K->D j=true):fh all d s0 K D=canon all d s0 K:=by
 unfold fh canon mI;have e1:bq all d s0.ρ K D=bq all d s0.ρ K fun _=>true:=funext fun t=>pt fun j hj _=>hD j hj;have e2:aV d (bO s0.H (aM d K)).get K D=aV d s0.H.get K fun _=>true:=by
  funext r
  rw[px (D':=fun _=>true) fun j hj _=>hD j hj];refine sH ?_;by_cases h:s0.H.A<=r/\r<s0.H.A+aM d K
  ·obtain⟨j,h1,h2,h3⟩:=sI (d:=d) (n:=K) (c:=r-s0.H.A) V;have:=(hg j h1).al (r-s0.H.A-aM d j) V;rw[show s0.H.A+aM d j+(r-s0.H.A-aM d j)=r by omega]at this;exact .inr ⟨j,h1,rfl,this⟩
  ·left;simp only[bO];rw[Vg h]
 rw[e1,e2]
def x7 {all:Array Oper}{K:Nat}(hD:∀j,j<K->D j=false):fh all d s0 K D=⟨s0.ρ,bO s0.H (aM d K)⟩:=by
 unfold fh;have e1:∀n,n<=K->bq all d s0.ρ n D=s0.ρ:=by
  intro n
  induction n with
  |zero=>intro _;rfl
  |succ n ih=>intro h;simp only[bq];rw[Vg (by simp[hD n h])];exact ih (V)
 have e2:∀n,n<=K->aV d (bO s0.H (aM d K)).get n D=(bO s0.H (aM d K)).get:=by
  intro n
  induction n with
  |zero=>intro _;rfl
  |succ n ih=>intro h;simp only[aV];rw[Vg (by simp[hD n h])];exact ih (V)
 rw[e1 K ZJ,e2 K ZJ];rfl
variable {n:Nat} {wb:nnc} {rd rb:Option Nat} {Q:AX->St->Prop} {all:Array Oper} {bs:List Nat} {K:Nat} {id:Nat} {dr:Bool}
def x8 (S:nng all bs K)(hfit:∀o,o∈all.toList->eP n o=true)(hg:∀i,i<K->ZZ P G all bs s0 d i)(htail:opsV P G rd Q all (all.toList.drop K) (canon all d s0 K)):
  ∀(r:Nat) (listed:Array Bool) (D:Nat->Bool) (Γ:aD) (a:Act) (w:World),listed.size=all.size->fL listed all.size=r->(∀j,j<all.size->listed.getD j true=D j)->(∀j,D j=true->j<K)->uU all D ->
  Z1 P G n wb Γ (fh all d s0 K D) a w->dN Γ (fh all d s0 K D).H rd rb ->
  ∀(Q':Exit->Act->World->Prop),(∀e a' w',iy P G n wb rd rb (wr (.region id all dr)) Γ (fh all d s0 K D).H a w Q e a' w'->Q' e a' w')->wpAnyIn (dZ rb) 0 P .any all Q' r listed a w:=by
 intro r
 induction r with
 |zero =>
  intro listed D Γ a w hsz hc hl hlow hL hs hr Q' hq;have hall:∀j,j<K->D j=true:=fun j hj=>by rw[<- hl j (Vn hj S.le)];exact uV hc j (Vn hj S.le)
  have hKs:K=all.size:=by
   rcases VC K all.size with h|h
   ·have h1:=uV hc K h;rw[hl K h]at h1;have:=hlow K h1;omega
   ·have:=S.le;omega
  rw[sM hg hall]at hs hr hq;exact uX S hfit 0 K listed _ Γ a w V ZJ hsz hc (fun j hj=>by rw[hl j hj];exact⟨hlow j,hall j⟩) htail hs hr Q' hq
 |succ r ih =>
  intro listed D Γ a w hsz hc hl hlow hL hs hr Q' hq;by_cases hall:∀j,j<K->D j=true
  ·rw[sM hg hall]at hs hr hq;have hcount:∀m,m<=all.size->fL listed m=m-K:=by
    intro m
    induction m with
    |zero=>intro _;simp[fL]
    |succ m ihm =>
     intro hm;simp only[fL];rw[ihm V,hl m V];by_cases hmK:m<K
     ·rw[hall m hmK];simp;omega
     ·have:D m=false:=by
       cases hD:D m with
       |false=>rfl
       |true=>exact absurd (hlow m hD) hmK
      rw[this];simp;omega
   have h1:=hcount all.size ZJ;exact uX S hfit (r+1) K listed _ Γ a w (by have:=S.le;omega) ZJ hsz hc (fun j hj=>by rw[hl j hj];exact⟨hlow j,hall j⟩) htail hs hr Q' hq
  ·have hex:∃j,j<K/\D j=false:=by
    by_cases h:∃j,j<K/\D j=false
    ·exact h
    ·refine absurd (fun j hj=>?_) hall;cases hD:D j with
     |true=>rfl
     |false=>exact absurd ⟨j,hj,hD⟩ h
   have least:∀k,(∃j,j<k/\j<K/\D j=false)->∃j,j<K/\D j=false/\∀i,i<j->D i=true:=by
    intro k
    induction k with
    |zero=>rintro⟨j,hj,_⟩;omega
    |succ k ihk =>
     rintro⟨j,h1,h2,h3⟩;by_cases h:∃j,j<k/\j<K/\D j=false
     ·exact ihk h
     ·refine⟨j,h2,h3,fun i hi=>?_⟩;cases hD:D i with
      |true=>rfl
      |false=>exact absurd ⟨i,V,V,hD⟩ h
   obtain⟨j0,hj0K,hj0,hbelow⟩:=least K (let ⟨j,h1,h2⟩:=hex;⟨j,h1,h1,h2⟩);have hj0s:j0<all.size:=Vn hj0K S.le;have hr0:j0∈Region.ready .any all listed:=by
    refine mem_ready.2 ⟨by rw[hl j0 hj0s];exact hj0,_,Vq hj0s,fun e he hb=>?_⟩;have hlt:=S.down j0 _ (Vq hj0s) e he hb;rw[pE V false true,hl e.on V];exact hbelow _ hlt
   refine⟨fun h0=>(by rw[h0]at hr0;cases hr0),fun i hi=>?_⟩;obtain⟨hiun,oi,hoi,hdir⟩:=mem_ready.1 hi;have his:=(Wf.1 hoi).1;have hdirD:∀e,e∈oi.after->Region.binds .any e=true->D e.on=true:=fun e he hb=>by
    have:=S.down i oi hoi e he hb;rw[<- hl e.on V,<- pE V false true];exact hdir e he hb
   have hahead:=S.ahead hL i oi;have hiK:i<K:=by
    rcases VC i K with h|h
    ·exact h
    ·have:=hahead j0 hoi hdirD (by rw[Vg V];omega);rw[hj0]at this;cases this
   have hDi:D i=false:=(by rw[<- hl i his];exact hiun);have hex:=xZ (P:=P) (G:=G) S hg hiK hoi hDi (fun j hj hb=>hahead j hoi hdirD (by rw[Vh hiK];exact hb)) (fun j h1 h2 hD=>by
    cases hb:(eJ bs j).testBit i with
    |false=>rfl
    |true =>
     have hjs:j<all.size:=Vn h2 S.le;have:=S.ahead hL j _ i (Vq hjs) (fun e he hbe=>hL j _ hD (Vq hjs) e he hbe) (by rw[Vh h2];exact hb);rw[hDi]at this;cases this)
   have hoi':oi=all[i]:=by
    rw[Vq his]at hoi;exact(Option.some.inj hoi).symm
   refine xY hoi (hfit oi (by rw[hoi'];simp)) hs hr hex ?_;rintro Γ' a' w' hs' E hn hr' ⟨cv,rfl⟩;have hc':fL (listed.setIfInBounds i true) all.size=r:=by
    have:=yG hiun all.size;rw[Vh his]at this;omega
   refine ih (listed.setIfInBounds i true) (bV D i) Γ' _ w' (by simpa using hsz) hc' ?_ ?_ ?_ hs' hr' Q' fun e a'' w'' hp=>hq _ _ _ (hp.step E hn (by rw[hoi'];exact od his cv) fun _ h=>h)
   ·intro j hj;by_cases hji:j=i
    ·subst hji;simp[bV]
    ·rw[getD_set_ne true (Ne.symm hji),hl j hj];simp[bV,hji]
   ·intro j hj;by_cases hji:j=i
    ·subst hji;exact hiK
    ·simp only[bV,Vg hji]at hj;exact hlow j hj
   ·intro k ok hk hok e he hb;by_cases hki:k=i
    ·subst hki;rw[hoi]at hok;cases hok;have:=hdirD e he hb;simp only[bV];split
     ·rfl
     ·exact this
    ·simp only[bV,Vg hki]at hk;have:=hL k ok hk hok e he hb;simp only[bV];split
     ·rfl
     ·exact this
def W.Bk {s:St}(K:Nat)(bs:List Nat)(hm:P.follows .mixedOrders=true)(hfit:all.toList.all (eP n)=true)(hst:sV all bs K=true)
  (h:dW P G all (opsV P G rd Q all (all.toList.drop K)) bs 0 [] (all.toList.take K) s):W P G n rd (.region id all true) Q s:=by
 intro wb Γ a w rb hs hr;have S:=Cf hst;have hfit':∀o,o∈all.toList->eP n o=true:=fun o ho=>VG.1 hfit o ho;have wf:gW s.H:=fun id b hb=>hs.heap.A id b hb;have hcan0:canon all (fun _=>⟨.lit undef,fun _=>none,0,⟨[],[]⟩⟩) s 0=s:=rfl;obtain⟨d,hg,htail⟩:=trace (P:=P) (G:=G) (all:=all) (bs:=bs) (s0:=s) (tail:=opsV P G rd Q all (all.toList.drop K)) S.len S.le K 0 (fun _=>⟨.lit undef,fun _=>none,0,⟨[],[]⟩⟩) [] (V)
  (fun i hi=>V) (fun j hj=>V) (by rw[hcan0];exact wf) (by rw[hcan0];exact h)
 refine wpIn_region_any hm ?_
 let w1:World:={ w with drawn:=w.drawn+1 }
 have R1:ZT P G Γ s.H w1:=hs.heap.move rfl (qZ w) ZJ (fun id b hb=>.inl hb) fun id b hb=>hb;have hs1:Z1 P G n wb Γ s a w1:=hs.move (qZ w) ZJ R1;have hs2:Z1 P G n wb Γ ⟨s.ρ,bO s.H (aM d K)⟩ a w1:=hs1.move (sY _ _) (by simp[bO]) (Ci R1 _);have hr2:dN Γ (bO s.H (aM d K)) rd rb:=hr.move fun id b hb=>by
  simp only[bO];rw[Vg]
  ·exact hb
  ·have:=hs.heap.A id b hb;omega
 have e0:fh all d s K (fun _=>false)=⟨s.ρ,bO s.H (aM d K)⟩:=x7 fun _ _=>rfl;refine x8 (wb:=wb) (id:=id) (dr:=true) S hfit' hg htail all.size _ (fun _=>false) Γ a w1 ZG (uW _ ZJ) ?_ ?_ ?_ ?_ ?_ _ ?_
 ·intro j hj;rw[V0,Xr,Vh hj];rfl
 ·intro j hj;cases hj
 ·intro i o hi;cases hi
 ·rw[e0];exact hs2
 ·rw[e0];exact hr2
 ·rw[e0];intro e a' w' hp;refine hp.step ?_ (by simp[bO]) (.refl _ _) fun _ h=>h;exact ZV.trans (qZ w) ZJ (sY _ _)
end Go.Hx.Ev
namespace Go.Hx.Ev
open Go.Hx
variable {P:Program} {G:Nat->Option (List ZL)} {Γ Γ':aD} {H H':ZK} {w w':World}
variable {K:Nat->Prop}{v:ZL}
inductive Cln (K:Nat->Prop):ZL->Prop
 |lit (v:Value):Cln K (.lit v)
 |nil:Cln K (.Q 0 [])
 |agg {c:List ZL} (h:∀i (h:i<c.length),Cln K c[i]):Cln K (.agg c)
 |nc {c:List ZL} (h:∀i (h:i<c.length),Cln K c[i]):Cln K (.nc c)
 |X {f:FuncId} {a b:List ZL} (h1:∀i (h:i<a.length),Cln K a[i]) (h2:∀i (h:i<b.length),Cln K b[i]):Cln K (.X f a b)
 |U {id g o l z:Nat} (h:K id):Cln K (.U id g o l z)
 |O {id g o:Nat} (h:K id):Cln K (.O id g o)
def Cln.mono {K':Nat->Prop}(h:Cln K v)(hk:∀id,K id->K' id):Cln K' v:=by
 induction h with
 |lit v=>exact .lit v
 |nil=>exact .nil
 |agg _ ih=>exact .agg ih
 |nc _ ih=>exact .nc ih
 |X _ _ ih1 ih2=>exact .X ih1 ih2
 |U h=>exact .U (hk _ h)
 |O h=>exact .O (hk _ h)
def Cln.fz {S:Nat->Prop}{nx:Nat}(h:Cln (fun id=>¬S id/\id<nx) v):Fz S H nx v v:=by
 induction h with
 |lit v=>exact .lit v
 |nil=>exact .Q rfl fun i h=>absurd h (Vt _)
 |agg _ ih=>exact .agg rfl fun i h _=>ih i h
 |nc _ ih=>exact .nc rfl fun i h _=>ih i h
 |X _ _ ih1 ih2=>exact .X rfl rfl (fun i h _=>ih1 i h) fun i h _=>ih2 i h
 |U h=>exact .U h.2 h.1
 |O h=>exact .O h.2 h.1
def Cln.sound {Γ₁ Γ₂:aD}{H₁ H₂:ZK}(hK:∀id,K id->H₂.get id=H₁.get id/\Γ₂ id=Γ₁ id)(hn:H₁.A<=H₂.A)(h:Cln K v):
  ∀ {cv:Value},ZO P Γ₁ H₁ w v cv->ZO P Γ₂ H₂ w v cv:=by
 induction h with
 |lit v=>intro cv h;cases h;exact .lit _
 |nil =>
  intro cv h;cases h with
  |nu a cap=>exact .nu a cap
  |Q hb hlt hlen hcs hcell hrel=>exact .nu _ _
 |agg _ ih=>intro cv h;cases h with|agg hcs hrel=>exact .agg hcs fun i h1 h2=>ih i h1 (hrel i h1 h2)
 |nc _ ih=>intro cv h;cases h with|nc hcs hrel=>exact .nc hcs fun i h1 h2=>ih i h1 (hrel i h1 h2)
 |X _ _ ih1 ih2=>intro cv h;cases h with|X hfs hcs hf hc=>exact .X hfs hcs (fun i h1 h2=>ih1 i h1 (hf i h1 h2)) fun i h1 h2=>ih2 i h1 (hc i h1 h2)
 |U h =>
  intro cv hv;cases hv with
  |U hv =>
   obtain⟨a,b,c,d⟩:=hv;obtain⟨e1,e2⟩:=hK _ h;refine .U ⟨V,b,by rw[e1];exact c,fun g e cells hg=>?_⟩;rw[e1]at hg;rw[e2];exact d g e cells hg
 |O h =>
  intro cv hv;cases hv with
  |O hv =>
   obtain⟨a,b,c,d⟩:=hv;obtain⟨e1,e2⟩:=hK _ h;refine .O ⟨V,b,by rw[e1];exact c,fun g e cells hg=>?_⟩;rw[e1]at hg;rw[e2];exact d g e cells hg
def fT (lo hi:Nat)(lv:Nat->Bool)(g:Nat->Option ZR):Nat->Option ZR:=fun id=>if lo<=id/\id<hi then (if lv id=true then g id else some (.J 0 0 [])) else none
def oa (lo hi:Nat):List Nat:=(List.range (hi-lo)).map (·+lo)
def Bl {lo hi r:Nat}(h1:lo<=r)(h2:r<hi):r∈oa lo hi:=by
 unfold oa;rw[Vu];exact⟨r-lo,by rw[Vs];omega,V⟩
open Classical in
def nY.mk {f:FuncId}{first cap args args':List ZL}(Hs Hs':ZK)(kp:Nat->Prop)(lv:Nat->Bool)(rs:List Nat)(hG:fB G)
  (hrs:∀r,r∈rs->r<H.A) (hnx:Hs.A=H.A) (hle:Hs.A<=Hs'.A)
  (hkp:∀id,kp id->id∈rs/\Hs.get id=H.get id/\Hs'.get id=H.get id/\∃g e c,H.get id=some (.J g e c)/\∀i (h:i<c.length),Cln kp c[i])
  (hgone:∀id,¬kp id->Hs.get id=none)
  (hl:args'.length=(first++args++cap).length)
  (hargs:∀H2:ZK,(∀r,r∈rs->H2.get r=H.get r)->∀i (h:i<(first++args++cap).length) (h':i<args'.length),Fz (fun id=>¬kp id) H2 H.A (first++args++cap)[i] args'[i])
  (hcall:ae P G f args' Hs fun r H'=>r=.ret v/\H'=Hs')
  (hv:Cln (fun id=>kp id\/(H.A<=id/\id<Hs'.A/\lv id=true)) v)
  (hnew:∀id,H.A<=id->id<Hs'.A->lv id=true->∃g e c,Hs'.get id=some (.J g e c)/\∀i (h:i<c.length),Cln (fun id=>kp id\/(H.A<=id/\id<Hs'.A/\lv id=true)) c[i]):
  nY P G (.X f first cap) args H v (fT H.A Hs'.A lv Hs'.get) (Hs'.A-H.A) ⟨oa H.A Hs'.A,rs⟩:=by
 have hsome:∀id,H.A<=id->id<Hs'.A->(fT H.A Hs'.A lv Hs'.get id).isSome=true:=by
  intro id h1 h2;unfold fT;rw[Vh ⟨h1,h2⟩];split
  ·rename_i h3;obtain⟨g,e,c,h4,_⟩:=hnew id h1 h2 h3;rw[h4];rfl
  ·rfl
 have hout:∀id,(fT H.A Hs'.A lv Hs'.get id).isSome=true->H.A<=id/\id<Hs'.A:=by
  intro id h;unfold fT at h;split at h
  ·assumption
  ·cases h
 refine⟨hrs,fun r hr=>?_,fun c hc=>hsome _ V V,?_⟩
 ·obtain⟨h1,h2⟩:=hout r hr;exact⟨Bl h1 h2,.inr ⟨h1,V⟩⟩
 intro H2 hag hres hn2;refine ak.X ⟨hcall.1,fun Γ w cargs R hr=>?_⟩
 let S:Nat->Prop:=fun id=>¬kp id
 have kpO:∀id,¬S id->kp id:=fun id h=>VZ h;have hkH2:∀id,kp id->H2.get id=H.get id:=fun id h=>hag id (hkp id h).1;have hlow:∀id,kp id->id<H.A:=fun id h=>hrs id (hkp id h).1;have F:FzH S H2 Hs:=by
  refine⟨fun id hs=>hgone id hs,fun id b hs hb=>?_,fun id hs hb=>?_⟩
  ·have hk:=kpO id hs;obtain⟨h1,h2,h3,g,e,c,h4,h5⟩:=hkp id hk;rw[hkH2 id hk,h4]at hb;cases hb;refine⟨by rw[hnx];exact hlow id hk,.J g e c,by rw[h2,h4],rfl,rfl,rfl,fun i hi _=>?_⟩;exact((h5 i hi).mono fun id hk=>⟨fun hs=>hs hk,by rw[hnx];exact hlow id hk⟩).fz
  ·have hk:=kpO id hs;obtain⟨h1,h2,h3,g,e,c,h4,h5⟩:=hkp id hk;rw[hkH2 id hk,h4]at hb;cases hb
 have R0:ZT P G (gH S Γ) Hs w:=F.rel hG R;have hr0:dH P (gH S Γ) Hs w args' cargs:=⟨by have:=hr.1;omega,fun i h1 h2=>(by
  have:=hargs H2 hag i V h1;rw[<- hnx]at this;exact this.sound R F (hr.2 i V h2))⟩
 refine(hcall.2 _ w cargs R0 hr0).mono ?_;rintro e w' ⟨r,H',Γ',hend,⟨rfl,rfl⟩,R',E,hn⟩
 let nw:Nat->Prop:=fun id=>H.A<=id/\id<H'.A
 let lw:Nat->Prop:=fun id=>H.A<=id/\id<H'.A/\lv id=true
 let Γ3:aD:=fun id=>if lw id then Γ' id else Γ id
 let H3:ZK:=⟨cV (fT H.A H'.A lv H'.get) H2.get,H2.A⟩
 have hnle:H'.A<=H2.A:=V
 have g3l:∀id,lw id->Γ3 id=Γ' id:=fun id h=>Vh h;have g3o:∀id,¬lw id->Γ3 id=Γ id:=fun id h=>Vg h;have kold:∀id,kp id->¬nw id:=fun id h hn=>by have:=hlow id h;have:=hn.1;omega
 have koldl:∀id,kp id->¬lw id:=fun id h hn=>kold id h ⟨hn.1,hn.2.1⟩;have gk:∀id,kp id->Γ' id=Γ id:=by
  intro id hk;obtain⟨h1,h2,h3,g,e,c,h4,h5⟩:=hkp id hk;have hlo:=hlow id hk;obtain⟨x,hx,hle'⟩:=E.na id V V (.J g e c) (by rw[h3,h4]);rw[h2,h4]at hx;cases hx;rw[(hle'.2 rfl).1];exact jK fun hs=>hs hk
 have h3new:∀id,nw id->H3.get id=fT H.A H'.A lv H'.get id:=by
  intro id h;show cV _ _ id=_;unfold cV;have:=hsome id h.1 h.2;split
  ·rename_i b hb;rw[hb]
  ·rename_i hb;rw[hb]at this;cases this
 have h3live:∀id,lw id->H3.get id=H'.get id:=by
  intro id h;rw[h3new id ⟨h.1,h.2.1⟩];unfold fT;rw[Vh ⟨h.1,h.2.1⟩,Vh h.2.2]
 have h3dead:∀id,nw id->¬lw id->H3.get id=some (.J 0 0 []):=by
  intro id h hl;rw[h3new id h];unfold fT;rw[Vh h,Vg fun h2=>hl ⟨h.1,h.2,h2⟩]
 have h3old:∀id,¬nw id->H3.get id=H2.get id:=by
  intro id h;show cV _ _ id=_;exact nZ fun h'=>h (hout id h')
 have hrsv:∀id,nw id->H2.get id=some .nq:=by
  intro id h;have:=hres (id-H.A) (by have:=h.1;have:=h.2;omega)
  rwa [show H.A+(id-H.A)=id by have:=h.1;omega]at this
 have hΓnew:∀id,nw id->Γ id=none:=fun id h=>R.nq id (hrsv id h);have hfar:∀id b base n,lw id->Γ' id=some (b,base,n)->w.heap.size<=b:=by
  intro id b base n hid hb;refine Yw fun hlt=>?_;have hown:(gH S Γ).fH b:=VZ fun hno=>(E.ng b hlt hno).2 ⟨id,base,n,hb⟩;obtain⟨id0,base0,n0,h0⟩:=hown;obtain⟨hs0,h0⟩:=kV h0;have hk0:=kpO id0 hs0;rw[<- gk id0 hk0]at h0;have:=R'.inj _ _ _ _ _ _ _ h0 hb;subst this;exact koldl _ hk0 hid
 have EE:ZV Γ H2 w Γ3 H3 w':=by
  refine⟨E.os,E.tape,E.output,E.size,fun b hb ho=>⟨(E.ng b hb fun h=>ho (uY h)).1,?_⟩,fun id h1 h2 x' hx'=>?_,E.ny,E.kind,fun id b x y hb hlt=>?_⟩
  ·rintro⟨id,base,n,h⟩;by_cases hl:lw id
   ·rw[g3l id hl]at h;have:=hfar id b base n hl h;omega
   ·rw[g3o id hl]at h;exact ho ⟨id,base,n,h⟩
  ·by_cases hnw:nw id
   ·exact⟨.nq,hrsv id hnw,trivial⟩
   ·rw[h3old id hnw]at hx';refine⟨x',hx',?_⟩;have hg:Γ3 id=Γ id:=g3o id fun h=>hnw ⟨h.1,h.2.1⟩;cases x' with
    |J g e c=>exact⟨ZJ,fun _=>⟨hg,rfl,rfl⟩⟩
    |loop=>exact⟨hg,rfl,rfl,rfl,rfl,rfl⟩
    |nq=>trivial
    |mp=>exact hg
  ·by_cases hl:lw id
   ·rw[g3l id hl]at hb;have:=hfar id b x y hl hb;omega
   ·rw[g3o id hl]at hb;exact⟨x,y,hb⟩
 have hn3:H2.A<=H3.A:=Nat.le_refl _;have hK:∀id,(kp id\/lw id)->H3.get id=H'.get id/\Γ3 id=Γ' id:=by
  rintro id (h|h)
  ·refine⟨?_,?_⟩
   ·rw[h3old id (kold id h),hkH2 id h,(hkp id h).2.2.1]
   ·rw[g3o id (koldl id h),gk id h]
  ·exact⟨h3live id h,g3l id h⟩
 have hle3:H'.A<=H3.A:=hnle;have hidden:∀id b base n,¬kp id->Γ id=some (b,base,n)->w'.heap[b]?=w.heap[b]?:=by
  intro id b base n hk h;refine(E.ng b (R.lt _ _ _ _ h) ?_).1;rintro⟨id0,base0,n0,h0⟩;obtain⟨hs0,h0⟩:=kV h0;have:=R.inj _ _ _ _ _ _ _ h h0;subst this;exact hs0 hk
 have R3:ZT P G Γ3 H3 w':=by
  refine⟨?_,?_,?_,?_,?_,?_,?_,?_,?_,?_⟩
  ·intro id g e cells hg;have main : (kp id∨lw id)→(∀ i (h : i<cells.length),Cln (fun id=>kp id∨lw id) cells[i])→H'.get id=some (.J g e cells)→_:=fun hid hc hg'=>R'.J id g e cells hg';have fin : (kp id∨lw id)→(∀ i (h : i<cells.length),Cln (fun id=>kp id∨lw id) cells[i])→H'.get id=some (.J g e cells)→(match Γ3 id with
     |some (b,base,n)=>∃c,w'.heap[b]?=some (.cells c e (0,0))/\c.size=n/\base+cells.length<=n /\
      ∀i (h:i<cells.length),∃cv,c[base+i]?=some cv/\ZO P Γ3 H3 w' cells[i] cv
     |none=>cells=[]):=by
    intro hid hc hg';have h1:=R'.J id g e cells hg';rw[(hK id hid).2];cases hΓ:Γ' id with
    |none=>rw[hΓ]at h1;exact h1
    |some y =>
     obtain⟨b,base,n⟩:=y;rw[hΓ]at h1;obtain⟨c,a1,a2,a3,a4⟩:=h1;refine⟨c,a1,a2,a3,fun i hi=>?_⟩;obtain⟨cv,b1,b2⟩:=a4 i hi;exact⟨cv,b1,(hc i hi).sound hK hle3 b2⟩
   by_cases hl:lw id
   ·have hg':=hg;rw[h3live id hl]at hg';obtain⟨g0,e0,c0,h4,h5⟩:=hnew id hl.1 hl.2.1 hl.2.2;rw[h4]at hg';cases hg';exact fin (.inr hl) h5 h4
   ·by_cases hnw:nw id
    ·rw[h3dead id hnw hl]at hg;cases hg;rw[g3o id hl,hΓnew id hnw]
    ·rw[h3old id hnw]at hg;by_cases hk:kp id
     ·obtain⟨h1,h2,h3,g0,e0,c0,h4,h5⟩:=hkp id hk;rw[hkH2 id hk,h4]at hg;cases hg;exact fin (.inl hk) (fun i hi=>(h5 i hi).mono fun _ h=>.inl h) (by rw[h3,h4])
     ·have h1:=R.J id g e cells hg;rw[g3o id hl];cases hΓ:Γ id with
      |none=>rw[hΓ]at h1;exact h1
      |some y =>
       obtain⟨b,base,n⟩:=y;rw[hΓ]at h1;obtain⟨c,a1,a2,a3,a4⟩:=h1;refine⟨c,by rw[hidden id b base n hk hΓ];exact a1,a2,a3,fun i hi=>?_⟩;obtain⟨cv,b1,b2⟩:=a4 i hi;exact⟨cv,b1,b2.ba EE hn3⟩
  ·intro id st pend n env ps asg body hg;by_cases hl:lw id
   ·rw[h3live id hl]at hg;obtain⟨g0,e0,c0,h4,h5⟩:=hnew id hl.1 hl.2.1 hl.2.2;rw[h4]at hg;cases hg
   ·by_cases hnw:nw id
    ·rw[h3dead id hnw hl]at hg;cases hg
    ·rw[h3old id hnw]at hg;have hk:¬kp id:=fun hk=>by
      obtain⟨h1,h2,h3,g0,e0,c0,h4,h5⟩:=hkp id hk;rw[hkH2 id hk,h4]at hg;cases hg
     obtain⟨b,r,a1,a2,a3,a4,a5,a6,a7,a8,a9⟩:=R.loop id st pend n env ps asg body hg;exact⟨b,r,by rw[g3o id hl];exact a1,by rw[hidden id b 0 0 hk a1];exact a2,a3,a4,a5,a6,a7,a8,fun t ht=>(a9 t ht).ba EE hn3⟩
  ·intro id es hg;by_cases hl:lw id
   ·rw[h3live id hl]at hg;obtain⟨g0,e0,c0,h4,h5⟩:=hnew id hl.1 hl.2.1 hl.2.2;rw[h4]at hg;cases hg
   ·by_cases hnw:nw id
    ·rw[h3dead id hnw hl]at hg;cases hg
    ·rw[h3old id hnw]at hg;have hk:¬kp id:=fun hk=>by
      obtain⟨h1,h2,h3,g0,e0,c0,h4,h5⟩:=hkp id hk;rw[hkH2 id hk,h4]at hg;cases hg
     obtain⟨b,a1,a2⟩:=R.mp id es hg;exact⟨b,by rw[g3o id hl];exact a1,by rw[hidden id b 0 0 hk a1];exact a2⟩
  ·intro id hg;have hnw:¬nw id:=fun hnw=>by
    by_cases hl:lw id
    ·rw[h3live id hl]at hg;obtain⟨g0,e0,c0,h4,h5⟩:=hnew id hl.1 hl.2.1 hl.2.2;rw[h4]at hg;cases hg
    ·rw[h3dead id hnw hl]at hg;cases hg
   rw[h3old id hnw]at hg;rw[g3o id fun h=>hnw ⟨h.1,h.2.1⟩];exact R.nq id hg
  ·intro id id' b base n base' n' h h';by_cases hl:lw id<;>by_cases hl':lw id'
   ·rw[g3l id hl]at h;rw[g3l id' hl']at h';exact R'.inj _ _ _ _ _ _ _ h h'
   ·rw[g3l id hl]at h;rw[g3o id' hl']at h';have:=hfar id b base n hl h;have:=R.lt _ _ _ _ h';omega
   ·rw[g3o id hl]at h;rw[g3l id' hl']at h';have:=hfar id' b base' n' hl' h';have:=R.lt _ _ _ _ h;omega
   ·rw[g3o id hl]at h;rw[g3o id' hl']at h';exact R.inj _ _ _ _ _ _ _ h h'
  ·intro id x h;by_cases hl:lw id
   ·obtain⟨g0,e0,c0,h4,h5⟩:=hnew id hl.1 hl.2.1 hl.2.2;exact⟨_,by rw[h3live id hl];exact h4⟩
   ·rw[g3o id hl]at h;by_cases hnw:nw id
    ·exact⟨_,h3dead id hnw hl⟩
    ·obtain⟨y,hy⟩:=R.nE id x h;exact⟨y,by rw[h3old id hnw];exact hy⟩
  ·intro id b base n h;by_cases hl:lw id
   ·rw[g3l id hl]at h;exact R'.lt _ _ _ _ h
   ·rw[g3o id hl]at h;exact Vn (R.lt _ _ _ _ h) E.size
  ·intro id y h;by_cases hnw:nw id
   ·have:=hnw.2;exact Vn this hnle
   ·rw[h3old id hnw]at h;exact R.A id y h
  ·intro g cells h;exact(R.nD g cells h).ba EE hn3
  ·exact R.qA EE
 refine⟨.ret v,H3,Γ3,?_,⟨rfl,rfl⟩,R3,EE,hn3⟩;cases e with
 |returned cv=>exact hv.sound hK hle3 hend
 |panicked chain=>exact hend.elim
 |outgrown=>exact hend.elim
end Go.Hx.Ev
namespace Go.Hx
inductive BT (α:Type) where
 |nil
 |node (v:Option α) (l r:BT α)
inductive EBlk where
 |J (gen:Nat) (elem:TypeId) (cells:List ZL)
 |loop (st:LoopState) (pend:Option Code) (n:Nat) (env:BT ZL) (ps:Array Tmp) (asg body:Code)
 |mp (es:List (Int × Int))
structure EH where
 hp:BT EBlk
 nx:Nat
inductive RR where
 |ev (x:AX) (env:BT ZL) (h:EH)
 |ret (v:ZL) (h:EH)
 |panic (h:EH)
inductive OR where
 |fail
 |val (v:ZL)
 |nC (v:ZL) (r g:Nat) (e:TypeId) (cells:List ZL) (fresh:Bool)
 |effM (v:ZL) (r:Nat) (es:List (Int × Int)) (fresh:Bool)
structure GD where
 z:ZL
 ok:ZL->Bool
structure EP where
 P:Program
 G:Nat->Option (List ZL)
 gd:FuncId->Option GD
  /-- What is known already of a function's calls. -/
 known:FuncId->Option (List (List ZL × ZL))
  /-- What a call of a function without a body comes to. -/
 ext:FuncId->Option (List ZL->Option ZL):=fun _=>none
section step
end step
section step
end step
end Go.Hx
namespace Go.Hx
variable {P:Program} {G:Nat->Option (List ZL)}
end Go.Hx
namespace Go.Hx
end Go.Hx
namespace Go.Hx
end Go.Hx
namespace Go.Hx
end Go.Hx
namespace Go.Hx
def tq (z:GD):Option ZL->ZL
 |some u=>.nc [u,.lit (.int .i64 0)]
 |none=>.nc [z.z,.lit (.int .i64 6)]
def yW (P:Program)(G:Nat->Option (List ZL))(f:FuncId)(z:GD):Prop:=∀g cap cap' (H:ZK) o,cap'.length=cap.length ->
 (∀H2:ZK,(∀id,id<H.A->H2.get id=H.get id)->∀i (h:i<cap.length) (h':i<cap'.length),Fz (fun _=>True) H2 0 cap[i] cap'[i]) ->
 (∀u,o=some u->z.ok u=true)->ae P G g cap' cW (mK o)->ae P G f [.X g [] cap] H fun r H'=>r=.ret (tq z o)/\H'=H
def MJ (E:EP):Prop:=∀f e,E.ext f=some e->∀args r,e args=some r->∀(H:ZK) (K:ZQ->ZK->Prop),K (.ret r) H->ak E.P E.G (.X f [] []) args H K
structure EOk (E:EP):Prop where
 gok:fB E.G
 mixed:E.P.follows .mixedOrders=true
 known:∀f l,E.known f=some l->∀a v,(a,v)∈l->ae E.P E.G f a cW fun r H'=>∃u,r=.ret u/\Z6 H' u v
 gd:∀f z,E.gd f=some z->yW E.P E.G f z
 ext:MJ E
section
end
end Go.Hx
namespace Go.Hx
open Go.ChangeShapes Go.WideShapes Go.RowKit
variable {P:Program} {G:Nat->Option (List ZL)}
variable {sp:Nat->Bool}{H:Type}{enc:TypeId × Value->H}
def ka:aD:=fun _=>none
def xM (P:Program)(G:Nat->Option (List ZL))(W:World):Prop:=∀g cells,G g=some cells->ZO P ka cW W (.ni cells 0) (.pointer (some ⟨g,0,none⟩))/\∃c e f,W.heap[g]?=some (.cells c e f)/\c.size=cells.length
def GS {W:World}(hg:xM P G W):ZT P G ka cW W where
 J _ _ _ _ h:=by cases h
 loop _ _ _ _ _ _ _ _ h:=by cases h
 mp _ _ h:=by cases h
 nq _ h:=by cases h
 inj _ _ _ _ _ _ _ h:=by cases h
 nE _ _ h:=by cases h
 lt _ _ _ _ h:=by cases h
 A _ _ h:=by cases h
 nD g cells h:=(hg g cells h).1
 gsz g cells h:=(hg g cells h).2
def Bf (b:Nat):¬ka.fH b:=fun ⟨_,_,_,h⟩=>by cases h
def GT {f:FuncId}{args:List ZL}{cargs:Array Value}{W:World}(hA:ae P G f args cW fun r H'=>∃u,r=.ret u/\Z6 H' u (.lit (.bool true)))(hg:xM P G W)(hr:dH P ka cW W args cargs):
  Calls P f cargs W fun e W'=>e=.returned (.bool true)/\RowKit.Below W.heap.size W W'/\∀a,a.block<W.heap.size->W'.frozen? a=W.frozen? a:=by
 refine callsIn_wide.1 ((hA.2 ka W cargs (GS hg) hr).mono ?_);rintro e W' ⟨r,H',Γ',hend,⟨u,rfl,hf⟩,_,E,_⟩;cases e with
 |returned cv =>
  have hu:u=.lit (.bool true):=by cases hf;rfl
  subst hu;cases hend;exact⟨rfl,⟨E.os,E.tape,E.output,E.size,fun k hk=>(E.ng k hk (Bf k)).1⟩,E.ny⟩
 |panicked=>exact hend.elim
 |outgrown=>exact hend.elim
def GU {W W':World}(hb:RowKit.Below W.heap.size W W')(may:MemPlace->Prop):W.keptBut W' may:=by
 refine⟨hb.os,hb.output,fun i hi=>?_⟩;rw[hb.block i hi];cases h:W.heap[i]? with
 |none=>rfl
 |some o=>cases o<;>first|exact rfl|exact⟨rfl,rfl,rfl,fun _ _=>rfl⟩|exact .inr ⟨rfl,rfl⟩
def GV (hl:laidOutB P=true){W W':World}(hb:RowKit.Below W.heap.size W W'):∀ {ts:List TypeId} {vs:List Value} {ds:List (DataW H)} {ps:List MemPlace},
  ts.all (fun t=>P.readableRec t && decide (t<P.types.size))=true->DataW.TrodAll enc P W 0 (fun _=>true) true ts vs ds ps->(∀x∈ps,x.block<W.heap.size)->(∀x∈ps,sp x.block=true)->DataW.TrodAll enc P W' 0 sp true ts vs ds ps:=by
 intro ts
 induction ts with
 |nil =>
  intro vs ds ps _ h _ _;cases vs<;>cases ds<;>first|exact h|exact h.elim
 |cons t ts ih =>
  intro vs ds ps hok h hlt hsp;simp only[List.all_cons,VL,decide_eq_true_eq]at hok;cases vs with
  |nil=>cases ds<;>exact h.elim
  |cons v vs=>cases ds with
   |nil=>exact h.elim
   |cons d ds =>
    obtain⟨p,q,h1,h2,rfl⟩:=h;refine⟨p,q,?_,ih hok.2 h2 (fun x hx=>hlt x (by simp[hx])) (fun x hx=>hsp x (by simp[hx])),rfl⟩;exact WideElems.Trod_stays hl hok.1.1 hok.1.2 h1 (fun x hx=>hb.same (hlt x (by simp[hx]))) (fun x hx=>hsp x (by simp[hx]))
def GW {W:World}{base:Nat}{held:Bool}:∀ {ts:List TypeId} {vs:List Value} {ds:List (DataW H)} {ps:List MemPlace},
  DataW.TrodAll enc P W base sp held ts vs ds ps->vs.length=ts.length/\ds.length=ts.length:=by
 intro ts
 induction ts with
 |nil =>
  intro vs ds ps h;cases vs<;>cases ds<;>first|exact⟨rfl,rfl⟩|exact h.elim
 |cons t ts ih =>
  intro vs ds ps h;cases vs with
  |nil=>cases ds<;>exact h.elim
  |cons v vs=>cases ds with
   |nil=>exact h.elim
   |cons d ds =>
    obtain⟨p,q,_,h2,_⟩:=h;obtain⟨h3,h4⟩:=ih h2;exact⟨by simp[h3],by simp[h4]⟩
def GX {f:Func}{s:ChangeSpec}{apart fresh handsOn again:Bool}{W W':World}{args:Array Value}{ds gs:List (DataW H)}{before:List MemPlace}{t:TypeId}
  (hl:laidOutB P=true) (hok:f.params.toList.all (fun t=>P.readableRec t && decide (t<P.types.size))=true) (hvars:s.vars=[]) (hrt:f.resultTypes=#[t]) (ht:P.underlying t=some .bool)
  (hs:∀ds:List (DataW H),ds.length=f.params.toList.length->s.fn H (ds++[])={ results:=[.lit (.bool true)],args:=ds })
  (hW:DataW.Whole enc P f.params.toList s.vars apart W args.toList ds gs before) (hb:RowKit.Below W.heap.size W W') (hfz:∀a,a.block<W.heap.size->W'.frozen? a=W.frozen? a):s.post enc P f apart fresh handsOn again W args (.bool true) W':=by
 have hW':=hW;obtain⟨p,q,hA,hV,rfl,hz,hn⟩:=hW;have hgs:gs=[]/\q=[]:=by
  rw[hvars]at hV;cases gs with
  |nil=>exact⟨rfl,hV⟩
  |cons=>exact hV.elim
 obtain⟨rfl,rfl⟩:=hgs;have hfn:=hs ds (GW hA).2;have hlt:∀x∈p,x.block<W.heap.size:=fun x hx=>by simpa using hW'.lt x (by simp[hx])
 have hres:∀(b:Nat) (sp:Nat->Bool) (hd:Bool),DataW.TrodAll enc P W' b sp hd f.resultTypes.toList ((Value.bool true).resultList f.resultTypes.size) (s.fn H (ds++[])).results []:=fun b sp hd=>by
  rw[hfn,hrt];exact trodAll_mk1 (shut_bool ht true)
 have hargs:∀sp:Nat->Bool,(∀x∈p,sp x.block=true)->DataW.TrodAll enc P W' 0 sp true f.params.toList args.toList (s.fn H (ds++[])).args p:=fun sp hsp=>by
  rw[hfn];exact GV hl hb hok hA hlt hsp
 have hva:∀sp:Nat->Bool,DataW.TrodVars enc P W' sp s.vars (s.fn H (ds++[])).vars []:=fun sp=>by
  rw[hfn,hvars];exact rfl
 have hpp:p++[]=p:=List.append_nil p;have hold:∀x∈p,(fun b=>decide (b<W.heap.size)) x.block=true:=fun x hx=>by simpa using hlt x hx
 rw[hpp]at hW' hz hn;refine⟨ds,[],p,[],p,[],hW',hres _ _ _,hargs _ hold,hva _,World.keptBut_mono (fun x hx=>⟨hx,.inr (.inl hx)⟩) (GU hb _),fun _=>⟨ok_one hrt rfl (okWide_bool_mk ht true),(s.fn H (ds++[])).results++(s.fn H (ds++[])).args,(s.fn H (ds++[])).vars,p,?_,fun x hx _=>hx⟩⟩;have hall:=trodAll_append (hargs (fun _=>true) fun _ _=>rfl) (hres 0 (fun _=>true) true);refine⟨p,[],by simpa using hall,hva _,ZG,fun b off hx=>?_,fun ha=>by simpa using hn ha⟩;rw[hfz _ (hlt _ hx)];exact hz b off hx
end Go.Hx
namespace Go.Hx
variable {P:Program} {G:Nat->Option (List ZL)}
def yX:Nat->Option (List ZL):=fun _=>none
def MK:fB yX:=fun _ _ h=>by cases h
def ML (W:World):xM P yX W:=fun _ _ h=>by cases h
end Go.Hx
