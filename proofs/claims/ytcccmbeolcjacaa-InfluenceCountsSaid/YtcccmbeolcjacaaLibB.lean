/-
  Regions that draw their order. Own work: no program stands in this text.
-/
import Derived.Test.YtcccmbeolcjacaaLibA
import Derived.OrdersIn
import Derived.KernelRfl
set_option linter.all false
namespace Go.Hx
variable {P:Program} {G:Nat->Option (List Ty)} {Γ Γ':ar} {H H':Tz} {w w':World}
variable {c:Call}{ρ:Env}{id n:Nat}{o:Op}{a v x:Ty}{t u:TypeId}{H2:Tz}
def aF:Ty->List Nat
 |.V id _ _ _ _=>[id]
 |.Y id _ _=>[id]
 |_=>[]
def cY:Ty->List Nat
 |.ng id=>[id]
 |_=>[]
structure FP where
 nk:List Nat
 rs:List Nat
def iY:Ty->Bool
 |.V ..=>true
 |_=>false
def iC (P:Program)(t:TypeId)(x:Ty):List Nat:=match P.underlying t with
 |some (.slice _)=>aF x
 |_=>[]
def gC (P:Program)(id:Nat)(b:Builtin)(ats:List TypeId)(args:List Ty):FP :=
 match b,ats,args with
 |.append,_,[s,x]=>if iY s then ⟨aF s,aF s++aF x⟩ else ⟨[id],aF x⟩
 |.copy,_,[d,x]=>⟨aF d,aF d++aF x⟩
 |.clear,_,[d]=>⟨aF d,aF d⟩
 |.len,[t],[x]=>⟨[],iC P t x⟩
 |_,_,_=>⟨[],[]⟩
def bn (P:Program)(G:Nat->Option (List Ty))(ρ:Env)(id:Nat):Op->FP
 |.load _ a=>⟨[],aF (aj G ρ a)⟩
 |.nilCheck a=>⟨[],aF (aj G ρ a)⟩
 |.slice _ a _ _ _=>⟨[],aF (aj G ρ a)⟩
 |.fieldAddr _ a _=>⟨[],aF (aj G ρ a)⟩
 |.indexAddr _ a _=>⟨[],aF (aj G ρ a)⟩
 |.convert _ _ a=>⟨[],aF (aj G ρ a)⟩
 |.store _ a _=>⟨aF (aj G ρ a),aF (aj G ρ a)⟩
 |.alloc _=>⟨[id],[]⟩
 |.box _ _=>⟨[id],[]⟩
 |.buildSlice _ _ _=>⟨[id],[]⟩
 |.makeSlice _ _ _=>⟨[id],[]⟩
 |.makeMap _ _=>⟨[id],[]⟩
 |.lookup _ x _ _=>⟨[],cY (aj G ρ x)⟩
 |.mapUpdate _ m _ _|.insert _ m _ _|.mapEntry _ m _|.entryStore _ m _ _=>⟨cY (aj G ρ m),cY (aj G ρ m)⟩
 |.call c=>match c.callee with
  |.builtin b=>gC P id b c.argTypes.toList (c.args.toList.map (aj G ρ))
  |_=>⟨[],[]⟩
 |_=>⟨[],[]⟩
def cZ (e:Option (Nat × TE))(g:Nat->Option TE):Nat->Option TE :=
 match e with
 |none=>g
 |some (k,b)=>fun j=>if j=k then some b else g j
def ew (H:Tz):Prop:=∀id b,H.get id=some b->id<H.C
def g9 (wf:ew H){gen:Nat}{ec:TypeId × List Ty}(h:H.Z id gen=some ec):id<H.C:=wf id _ (gq (e:=ec.1) (cells:=ec.2) h)
def iD (h:H2.get id=H.get id)(gen:Nat):H2.Z id gen=H.Z id gen:=by unfold Tz.Z;rw[h]
def Local (P:Program)(G:Nat->Option (List Ty))(ρ:Env)(H:Tz)(o:Op)(v:Ty)(H':Tz)(f:FP):Prop :=
 ∃(e:Option (Nat × TE)) (al:Bool),H'.get=cZ e H.get/\H'.C=(if al then H.C+1 else H.C) /\
  (∀k b,e=some (k,b)->k∈f.nk/\(al=false->k∈f.rs))/\(al=true->∃b,e=some (H.C,b))/\(∀r,r∈f.rs->r<H.C) /\
  ∀H2:Tz,(∀r,r∈f.rs->H2.get r=H.get r)->(al=true->H2.get H.C=some .ni/\H.C≠H2.C)->ah P G ρ H2 H.C o=some (v,⟨cZ e H2.get,H2.C⟩)
variable {f:FP}
def cE (hrs:∀r,r∈f.rs->r<H.C)(h:∀H2:Tz,(∀r,r∈f.rs->H2.get r=H.get r)->ah P G ρ H2 H.C o=some (v,H2)):Local P G ρ H o v H f:=by
 refine⟨none,false,rfl,rfl,?_,?_,hrs,fun H2 ha _=>h H2 ha⟩
 ·intro k b h;cases h
 ·intro h;cases h
def mJ {b:TE}(hl:H.lay H.C b=some H')(hta:H.C∈f.nk)(hrs:∀r,r∈f.rs->r<H.C)
  (h:∀H2:Tz,(∀r,r∈f.rs->H2.get r=H.get r)->∀H2',H2.lay H.C b=some H2'->ah P G ρ H2 H.C o=some (v,H2')):Local P G ρ H o v H' f:=by
 obtain⟨h1,h2⟩:=gX hl;have h2':H'.C=H.C+1:=by
  unfold Tz.lay at hl;rw[PZ rfl]at hl;simp only[Option.some.injEq]at hl;rw[<- hl]
 refine⟨some (H.C,b),true,funext h1,by simp[h2'],?_,?_,hrs,fun H2 ha hr=>?_⟩
 ·intro k b' hk;simp only[Option.some.injEq,Prod.mk.injEq]at hk;exact⟨hk.1 ▸ hta,fun h=>by cases h⟩
 ·exact fun _=>⟨b,rfl⟩
 ·obtain⟨hr1,hr2⟩:=hr rfl;refine h H2 ha _ ?_;unfold Tz.lay;rw[PX hr2,hr1];rfl
def kB {b:TE}(hid:id∈f.nk)(hid':id∈f.rs)(hrs:∀r,r∈f.rs->r<H.C)
  (h:∀H2:Tz,(∀r,r∈f.rs->H2.get r=H.get r)->ah P G ρ H2 H.C o=some (v,H2.upd id b)):Local P G ρ H o v (H.upd id b) f:=by
 refine⟨some (id,b),false,rfl,rfl,?_,?_,hrs,fun H2 ha _=>h H2 ha⟩
 ·intro k b' hk;simp only[Option.some.injEq,Prod.mk.injEq]at hk;exact⟨hk.1 ▸ hid,fun _=>hk.1 ▸ hid'⟩
 ·intro h;cases h
def bZ :∀r,r∈([]:List Nat)->r<n:=fun _ h=>by cases h
def eI (h:id<n):∀r,r∈[id]->r<n:=fun r hr=>by
 simp only[List.mem_singleton]at hr;omega
def Ek (h:∀r,r∈aF a->H2.get r=H.get r):ei P H2 t a=ei P H t a:=by
 cases a with
 |Y id gen off=>simp only[ei];rw[h id (by simp[aF])]
 |_=>rfl
def El (wf:ew H)(h:ei P H t a=some v):∀r,r∈aF a->r<H.C:=by
 cases a with
 |Y id gen off =>
  refine eI ?_;simp only[ei]at h;split at h
  ·rename_i hg;exact wf _ _ hg
  ·cases h
 |V=>simp[ei]at h
 |_=>exact bZ
def Em (h:fU P H t a v=some H'):∃id gen off g e cells,a=.Y id gen off/\H.get id=some (.L g e cells)/\∃cells',H'=H.upd id (.L g e cells') /\
  ∀H2:Tz,H2.get id=H.get id->fU P H2 t a v=some (H2.upd id (.L g e cells')):=by
 cases a with
 |Y id gen off =>
  simp only[fU]at h;split at h
  ·rename_i g e cells hg;split at h
   ·rename_i hc;simp only[Option.some.injEq]at h;refine⟨id,gen,off,g,e,cells,rfl,hg,_,h.symm,fun H2 h2=>?_⟩;simp only[fU];rw[h2,hg];simp only;rw[PZ hc]
   ·cases h
  ·cases h
 |_=>simp[fU]at h
def En (wf:ew H){i:Int}(h:kq P H t x i=some v):(∀r,r∈aF x->r<H.C)/\∀H2:Tz,(∀r,r∈aF x->H2.get r=H.get r)->kq P H2 t x i=some v:=by
 unfold kq at h ⊢;split at h
 ·split at h
  ·rename_i hc;split at h
   ·rename_i id gen off;simp only[PU]at h;obtain⟨ec,hl,hv⟩:=h;refine⟨eI (g9 wf hl),fun H2 h2=>?_⟩;rw[PZ hc];simp only[iD (h2 id (by simp[aF])),hl,Option.map_some,hv]
   ·refine⟨bZ,fun H2 _=>?_⟩;rw[PZ hc];exact h
   ·cases h
  ·cases h
 ·split at h
  ·rename_i hc;split at h
   ·rename_i id gen off len sz;split at h
    ·rename_i hi;simp only[PU]at h;obtain⟨ec,hl,hv⟩:=h;refine⟨eI (g9 wf hl),fun H2 h2=>?_⟩;rw[PZ hc,PZ hi];simp only[iD (h2 id (by simp[aF])),hl,Option.map_some,hv]
    ·cases h
   ·refine⟨bZ,fun H2 _=>?_⟩;rw[PZ hc];exact h
   ·cases h
  ·cases h
 ·cases h
def Eo (wf:ew H){lo hi:Option Ty}(h:jy P H t x lo hi=some v):(∀r,r∈aF x->r<H.C)/\∀H2:Tz,(∀r,r∈aF x->H2.get r=H.get r)->jy P H2 t x lo hi=some v:=by
 unfold jy at h ⊢;split at h
 ·split at h
  ·rename_i hc;split at h
   ·rename_i id gen off;split at h
    ·rename_i e' cells hl;refine⟨eI (g9 wf hl),fun H2 h2=>?_⟩;rw[PZ hc];simp only[iD (h2 id (by simp[aF])),hl];exact h
    ·cases h
   ·refine⟨bZ,fun H2 _=>?_⟩;rw[PZ hc];exact h
   ·cases h
  ·cases h
 ·split at h
  ·rename_i hc;split at h
   ·rename_i id gen off len sz;split at h
    ·rename_i hi;have h0:=h;simp only[P0]at h;obtain⟨ec,hl,_⟩:=h;refine⟨eI (g9 wf hl),fun H2 h2=>?_⟩;rw[PZ hc,PZ hi,iD (h2 id (by simp[aF]))];exact h0
    ·cases h
   ·refine⟨bZ,fun H2 _=>?_⟩;rw[PZ hc];exact h
   ·refine⟨bZ,fun H2 _=>?_⟩;rw[PZ hc];exact h
   ·cases h
  ·cases h
 ·split at h
  ·exact⟨bZ,fun H2 _=>h⟩
  ·cases h
 ·cases h
def Ep (wf:ew H)(h:jz P H t x=some v):(∀r,r∈iC P t x->r<H.C)/\∀H2:Tz,(∀r,r∈iC P t x->H2.get r=H.get r)->jz P H2 t x=some v:=by
 unfold jz iC at *
 cases hu:P.underlying t with
 |none=>rw[hu]at h;cases h
 |some d =>
  rw[hu]at h;cases d with
  |slice e =>
   simp only at h ⊢;split at h
   ·exact⟨bZ,fun _ _=>h⟩
   ·rename_i id gen off len sz;simp only[PU]at h;obtain⟨ec,hl,hv⟩:=h;refine⟨eI (g9 wf hl),fun H2 h2=>?_⟩;simp only[iD (h2 id (by simp[aF])),hl,Option.map_some,hv]
   ·exact⟨bZ,fun _ _=>h⟩
   ·cases h
  |string=>exact⟨bZ,fun _ _=>h⟩
  |array n e=>exact⟨bZ,fun _ _=>h⟩
  |_=>cases h
def uK (wf:ew H){sz:Nat}{r:Nat × List Ty}(h:bW H sz x=some r):(∀r,r∈aF x->r<H.C)/\∀H2:Tz,(∀r,r∈aF x->H2.get r=H.get r)->bW H2 sz x=some r:=by
 unfold bW at h ⊢;split at h
 ·exact⟨bZ,fun _ _=>h⟩
 ·rename_i id gen off len sz';split at h
  ·rename_i hsz;simp only[PU]at h;obtain⟨ec,hl,hv⟩:=h;refine⟨eI (g9 wf hl),fun H2 h2=>?_⟩;rw[PZ hsz];simp only[iD (h2 id (by simp[aF])),hl,Option.map_some,hv]
  ·cases h
 ·exact⟨bZ,fun _ _=>h⟩
 ·cases h
def yG {a b:List Nat}{p:Nat->Prop}(h1:∀r,r∈a->p r)(h2:∀r,r∈b->p r):∀r,r∈a++b->p r:=fun r hr=>(Qe.1 hr).elim (h1 r) (h2 r)
def Er (wf:ew H){s:Ty}(hb:c.callee=.builtin .append)(hats:c.argTypes.toList=[t,u])(hargs:c.args.toList.map (aj G ρ)=[s,x])
  (h:bd P H H.C t u s x=some (v,H')):Local P G ρ H (.call c) v H' (bn P G ρ H.C (.call c)):=by
 have hfp:bn P G ρ H.C (.call c)=if iY s then ⟨aF s,aF s++aF x⟩ else ⟨[H.C],aF x⟩:=by
  simp only[bn,hb,hats,hargs,gC]
 have hop:∀H2:Tz,ah P G ρ H2 H.C (.call c)=bd P H2 H.C t u s x:=fun H2=>by
  simp only[ah,hb,hats,hargs,eV]
 rw[hfp];unfold bd at h;split at h
 ·rename_i e he;split at h
  ·rename_i e' he';simp only[P0]at h;obtain⟨z,hz,nx,hsrc,h⟩:=h;obtain⟨hxlt,hxl⟩:=uK wf hsrc;split at h
   ·simp only[iY,Bool.false_eq_true,if_false];split at h
    ·rename_i hn0;simp only[Option.some.injEq,Prod.mk.injEq]at h;obtain⟨rfl,rfl⟩:=h;refine cE hxlt fun H2 h2=>?_;rw[hop];simp only[bd,he,he',hz,hxl H2 h2,Option.bind_some,PZ hn0]
    ·rename_i hn0;split at h
     ·rename_i hb;simp only[PU,Prod.mk.injEq]at h;obtain⟨H3,hl,rfl,rfl⟩:=h;refine mJ hl Tu hxlt fun H2 h2 H2' hl2=>?_;rw[hop];simp only[bd,he,he',hz,hxl H2 h2,Option.bind_some,PX hn0,PZ hb,hl2,Option.map_some]
     ·cases h
   ·rename_i id' gen off len sz;simp only[iY,if_true];simp only[P0]at h;obtain⟨ec,hl,h⟩:=h;have hlt:∀r,r∈aF (.V id' gen off len sz)++aF x->r<H.C:=yG (eI (g9 wf hl)) hxlt;have hl2:∀H2:Tz,(∀r,r∈aF (.V id' gen off len sz)++aF x->H2.get r=H.get r)->H2.Z id' gen=some ec:=fun H2 h2=>by
     rw[iD (h2 id' (by simp[aF]))];exact hl
    have hx2:∀H2:Tz,(∀r,r∈aF (.V id' gen off len sz)++aF x->H2.get r=H.get r)->bW H2 (P.cellsOf e) x=some nx:=fun H2 h2 =>
     hxl H2 fun r hr=>h2 r (Rh _ hr)
    split at h
    ·rename_i hc;split at h
     ·rename_i hn0;simp only[Option.some.injEq,Prod.mk.injEq]at h;obtain⟨rfl,rfl⟩:=h;refine cE hlt fun H2 h2=>?_;rw[hop];simp only[bd,he,he',hz,hx2 H2 h2,hl2 H2 h2,Option.bind_some];rw[PZ hc,PZ hn0]
     ·rename_i hn0;simp only[Option.some.injEq,Prod.mk.injEq]at h;obtain⟨rfl,rfl⟩:=h;refine kB (by simp[aF]) (by simp[aF]) hlt fun H2 h2=>?_;rw[hop];simp only[bd,he,he',hz,hx2 H2 h2,hl2 H2 h2,Option.bind_some];rw[PZ hc,PX hn0]
    ·cases h
   ·cases h
  ·cases h
 ·cases h
def Es (wf:ew H){s:Ty}(hb:c.callee=.builtin .copy)(hats:c.argTypes.toList=[t,u])(hargs:c.args.toList.map (aj G ρ)=[s,x])
  (h:iT P H t s x=some (v,H')):Local P G ρ H (.call c) v H' (bn P G ρ H.C (.call c)):=by
 have hfp:bn P G ρ H.C (.call c)=⟨aF s,aF s++aF x⟩:=by
  simp only[bn,hb,hats,hargs,gC]
 have hop:∀H2:Tz,ah P G ρ H2 H.C (.call c)=iT P H2 t s x:=fun H2=>by
  simp only[ah,hb,hats,hargs,eV]
 rw[hfp];unfold iT at h;split at h
 ·rename_i e he;split at h
  ·rename_i hs;simp only[P0]at h;obtain⟨nx,hsrc,h⟩:=h;obtain⟨hxlt,hxl⟩:=uK wf hsrc;split at h
   ·rename_i id' gen off len sz;simp only[P0]at h;obtain⟨ec,hl,h⟩:=h;have hlt:∀r,r∈aF (.V id' gen off len sz)++aF x->r<H.C:=yG (eI (g9 wf hl)) hxlt;split at h
    ·rename_i hc;simp only[Option.some.injEq,Prod.mk.injEq]at h;obtain⟨rfl,rfl⟩:=h;refine kB (by simp[aF]) (by simp[aF]) hlt fun H2 h2=>?_;have hl2:H2.Z id' gen=some ec:=by
      rw[iD (h2 id' (by simp[aF]))];exact hl
     rw[hop];simp only[iT,he,hs,if_true,hxl H2 fun r hr=>h2 r (Rh _ hr),hl2,Option.bind_some];rw[PZ hc]
    ·cases h
   ·cases h
  ·cases h
 ·cases h
def Et (wf:ew H){s:Ty}(hb:c.callee=.builtin .clear)(hats:c.argTypes.toList=[t])(hargs:c.args.toList.map (aj G ρ)=[s])
  (h:iU P H t s=some (v,H')):Local P G ρ H (.call c) v H' (bn P G ρ H.C (.call c)):=by
 have hfp:bn P G ρ H.C (.call c)=⟨aF s,aF s⟩:=by
  simp only[bn,hb,hats,hargs,gC]
 have hop:∀H2:Tz,ah P G ρ H2 H.C (.call c)=iU P H2 t s:=fun H2=>by
  simp only[ah,hb,hats,hargs,eV]
 rw[hfp];unfold iU at h;split at h
 ·rename_i e he;split at h
  ·simp only[Option.some.injEq,Prod.mk.injEq]at h;obtain⟨rfl,rfl⟩:=h;refine cE (fun r hr=>by cases hr) fun H2 h2=>?_;rw[hop];simp only[iU,he]
  ·rename_i id' gen off len sz;simp only[P0]at h;obtain⟨ec,hl,h⟩:=h;have hlt:∀r,r∈aF (.V id' gen off len sz)->r<H.C:=eI (g9 wf hl);have hl2:∀H2:Tz,(∀r,r∈aF (.V id' gen off len sz)->H2.get r=H.get r)->H2.Z id' gen=some ec:=fun H2 h2=>by
    rw[iD (h2 id' (by simp[aF]))];exact hl
   split at h
   ·rename_i h0;simp only[Option.some.injEq,Prod.mk.injEq]at h;obtain⟨rfl,rfl⟩:=h;refine cE hlt fun H2 h2=>?_;rw[hop];simp only[iU,he,hl2 H2 h2,Option.bind_some];rw[PZ h0]
   ·rename_i h0;simp only[P0]at h;obtain⟨z,hz,h⟩:=h;split at h
    ·rename_i hc;simp only[Option.some.injEq,Prod.mk.injEq]at h;obtain⟨rfl,rfl⟩:=h;refine kB (by simp[aF]) (by simp[aF]) hlt fun H2 h2=>?_;rw[hop];simp only[iU,he,hl2 H2 h2,hz,Option.bind_some];rw[PX h0,PZ hc]
    ·cases h
  ·cases h
 ·cases h
def yH (wf:ew H){m k x:Operand}(h:jA P H t (aj G ρ m) (aj G ρ k) (aj G ρ x)=some (v,H'))(hfp:bn P G ρ H.C o=⟨cY (aj G ρ m),cY (aj G ρ m)⟩)
  (hop:∀H2:Tz,ah P G ρ H2 H.C o=jA P H2 t (aj G ρ m) (aj G ρ k) (aj G ρ x)):Local P G ρ H o v H' (bn P G ρ H.C o):=by
 rw[hfp];unfold jA at h;split at h
 ·rename_i hm;split at h
  ·rename_i id k' u hx hk hu;split at h
   ·rename_i es hg;simp only[Option.some.injEq,Prod.mk.injEq]at h;obtain⟨rfl,rfl⟩:=h;refine kB (by rw[hx];simp[cY]) (by rw[hx];simp[cY]) (by rw[hx];exact eI (wf _ _ hg)) fun H2 h2=>?_;have hg2:H2.get id=some (.mp es):=(by rw[h2 id (by rw[hx];simp[cY])];exact hg);rw[hop];simp only[jA,hm,if_true,hx,hk,hu,hg2]
   ·cases h
  ·cases h
 ·cases h
def Eu (wf:ew H){s d:TypeId}(h:iy P H s d x=some v):(∀r,r∈aF x->r<H.C)/\∀H2:Tz,(∀r,r∈aF x->H2.get r=H.get r)->iy P H2 s d x=some v:=by
 have bytes:∀y:Ty,kv P H s d y=some v->(∀r,r∈aF y->r<H.C)/\∀H2:Tz,(∀r,r∈aF y->H2.get r=H.get r)->kv P H2 s d y=some v:=by
  intro y h;unfold kv at h;split at h
  ·rename_i hsb;simp only[P0]at h;obtain⟨nl,hs,h⟩:=h;obtain⟨h1,h2⟩:=uK wf hs;refine⟨h1,fun H2 ha=>?_⟩;unfold kv;rw[PZ hsb,h2 H2 ha];exact h
  ·cases h
 unfold iy at h;split at h
 ·exact bytes _ h
 ·exact bytes _ h
 ·rename_i hne1 hne2;refine⟨fun r hr=>?_,fun H2 _=>?_⟩
  ·unfold iV at h;split at h
   ·rename_i a ha;cases x<;>simp_all[aF,Ty.bS]
   ·cases h
  ·unfold iy;split
   ·exact absurd rfl (hne1 _ _ _ _ _)
   ·exact absurd rfl (hne2 _ _)
   ·exact h
def uL (wf:ew H)(h:ah P G ρ H H.C o=some (v,H')):Local P G ρ H o v H' (bn P G ρ H.C o):=by
 cases o with
 |makeMap t r =>
  simp only[ah]at h;split at h
  ·simp only[PU,Prod.mk.injEq]at h;obtain⟨H3,hl,rfl,rfl⟩:=h;refine mJ hl (by simp[bn]) bZ fun H2 _ H2' hl2=>?_;simp only[ah,hl2,Option.map_some]
  ·cases h
 |lookup t x i ok =>
  simp only[ah,PU,Prod.mk.injEq]at h;obtain⟨v',hv,rfl,rfl⟩:=h;have hfp:bn P G ρ H.C (.lookup t x i ok)=⟨[],cY (aj G ρ x)⟩:=rfl;rw[hfp];unfold mu at hv;split at hv
  ·rename_i hm;split at hv
   ·rename_i hx hi;refine cE (by rw[hx];exact bZ) fun H2 _=>?_;simp only[ah,mu,hm,if_true,hx,hi];simp only[Option.some.injEq]at hv;simp[hv]
   ·rename_i id k hx hi;split at hv
    ·rename_i es hg;refine cE (by rw[hx];exact eI (wf _ _ hg)) fun H2 h2=>?_;have hg2:H2.get id=some (.mp es):=(by rw[h2 id (by rw[hx];simp[cY])];exact hg);simp only[ah,mu,hm,if_true,hx,hi,hg2];simp only[Option.some.injEq]at hv;simp[hv]
    ·cases hv
   ·cases hv
  ·cases hv
 |mapUpdate t m k x=>exact yH wf (by simp only[ah]at h;exact h) (by rfl) fun H2=>rfl
 |insert t m k x=>exact yH wf (by simp only[ah]at h;exact h) (by rfl) fun H2=>rfl
 |mapEntry t m k =>
  simp only[ah]at h;have hfp:bn P G ρ H.C (.mapEntry t m k)=⟨cY (aj G ρ m),cY (aj G ρ m)⟩:=rfl;rw[hfp];unfold lj at h;split at h
  ·rename_i hm;split at h
   ·rename_i id k' hx hk;split at h
    ·rename_i es hg;have hg2:∀H2:Tz,(∀r,r∈cY (aj G ρ m)->H2.get r=H.get r)->H2.get id=some (.mp es):=fun H2 h2=>by rw[h2 id (by rw[hx];simp[cY])];exact hg
     split at h
     ·rename_i n u hf;simp only[Option.some.injEq,Prod.mk.injEq]at h;obtain⟨rfl,rfl⟩:=h;refine kB (by rw[hx];simp[cY]) (by rw[hx];simp[cY]) (by rw[hx];exact eI (wf _ _ hg)) fun H2 h2=>?_;simp only[ah,lj,hm,if_true,hx,hk,hg2 H2 h2,hf]
     ·rename_i hf;simp only[Option.some.injEq,Prod.mk.injEq]at h;obtain⟨rfl,rfl⟩:=h;refine kB (by rw[hx];simp[cY]) (by rw[hx];simp[cY]) (by rw[hx];exact eI (wf _ _ hg)) fun H2 h2=>?_;simp only[ah,lj,hm,if_true,hx,hk,hg2 H2 h2,hf]
    ·cases h
   ·cases h
  ·cases h
 |entryStore t m s x =>
  simp only[ah]at h;have hfp:bn P G ρ H.C (.entryStore t m s x)=⟨cY (aj G ρ m),cY (aj G ρ m)⟩:=rfl;rw[hfp];unfold mv at h;split at h
  ·rename_i id s' u hx hs hu;split at h
   ·rename_i es hg;split at h
    ·rename_i hlt;simp only[Option.some.injEq,Prod.mk.injEq]at h;obtain⟨rfl,rfl⟩:=h;refine kB (by rw[hx];simp[cY]) (by rw[hx];simp[cY]) (by rw[hx];exact eI (wf _ _ hg)) fun H2 h2=>?_;have hg2:H2.get id=some (.mp es):=(by rw[h2 id (by rw[hx];simp[cY])];exact hg);simp only[ah,mv,hx,hs,hu,hg2];rw[PZ hlt]
    ·cases h
   ·cases h
  ·cases h
 |alloc e =>
  simp only[ah,P0,PU,Prod.mk.injEq]at h;obtain⟨z,hz,H3,hl,rfl,rfl⟩:=h;refine mJ hl (by simp[bn]) bZ fun H2 _ H2' hl2=>?_;simp only[ah,hz,hl2,Option.bind_some,Option.map_some]
 |box e x =>
  simp only[ah,PU,Prod.mk.injEq]at h;obtain⟨H3,hl,rfl,rfl⟩:=h;refine mJ hl (by simp[bn]) bZ fun H2 _ H2' hl2=>?_;simp only[ah,hl2,Option.map_some]
 |buildSlice t len parts =>
  simp only[ah,ix]at h;split at h
  ·rename_i e he;split at h
   ·rename_i hc;simp only[P0,PU,Prod.mk.injEq]at h;obtain⟨z,hz,cells,hcl,H3,hl,rfl,rfl⟩:=h;refine mJ hl (by simp[bn]) bZ fun H2 _ H2' hl2=>?_;simp only[ah,ix,he];rw[PZ hc];simp only[hz,hcl,hl2,Option.bind_some,Option.map_some]
   ·cases h
  ·cases h
 |makeSlice t l c =>
  simp only[ah,gY]at h;split at h
  ·rename_i e k l' k' c' he hl' hc';split at h
   ·rename_i hc;simp only[P0,PU,Prod.mk.injEq]at h;obtain⟨cells,hz,H3,hl,rfl,rfl⟩:=h;refine mJ hl (by simp[bn]) bZ fun H2 _ H2' hl2=>?_;simp only[ah,gY,he,hl',hc'];rw[PZ hc];simp only[hz,hl2,Option.bind_some,Option.map_some]
   ·cases h
  ·cases h
 |store t a x =>
  simp only[ah]at h;split at h
  ·rename_i hu;simp only[PU,Prod.mk.injEq]at h;obtain⟨H3,hst,rfl,rfl⟩:=h;obtain⟨id,gen,off,g,e,cells,ha,hg,cells',rfl,hall⟩:=Em hst;have hfp:bn P G ρ H.C (.store t a x)=⟨[id],[id]⟩:=(by simp only[bn,ha,aF]);rw[hfp];refine kB Tu Tu (eI (wf _ _ hg)) fun H2 h2=>?_;simp only[ah,hu,if_true,hall H2 (h2 id Tu),Option.map_some]
  ·cases h
 |load t p =>
  simp only[ah,PU,Prod.mk.injEq]at h;obtain⟨v',hv,rfl,rfl⟩:=h;refine cE (El wf hv) fun H2 h2=>?_;simp only[ah,Ek h2,hv,Option.map_some]
 |nilCheck p =>
  simp only[ah,PU,Prod.mk.injEq]at h;obtain⟨v',hv,rfl,rfl⟩:=h;have hv0:=hv;unfold iz at hv;split at hv
  ·rename_i id gen off hp;simp only[PU]at hv;obtain⟨ec,hl,hv⟩:=hv;have hfp:bn P G ρ H.C (.nilCheck p)=⟨[],[id]⟩:=(by simp only[bn,hp,aF]);rw[hfp];refine cE (eI (g9 wf hl)) fun H2 h2=>?_;subst hv;simp only[ah,hp,iz,iD (h2 id Tu),hl,Option.map_some]
  ·rename_i hp;have hfp:bn P G ρ H.C (.nilCheck p)=⟨[],[]⟩:=(by simp only[bn,hp,aF]);rw[hfp];refine cE bZ fun H2 _=>?_;simp only[ah,hp,iz,Option.map_some,Option.some.injEq]at hv ⊢;rw[hv]
  ·rename_i hp;have hfp:bn P G ρ H.C (.nilCheck p)=⟨[],[]⟩:=(by simp only[bn,hp,aF]);rw[hfp];refine cE bZ fun H2 _=>?_;simp only[ah,hp,iz,Option.map_some,Option.some.injEq]at hv ⊢;rw[hv]
  ·cases hv
 |slice t x lo hi mx =>
  simp only[ah]at h;split at h
  ·simp only[PU,Prod.mk.injEq]at h;obtain⟨v',hv,rfl,rfl⟩:=h;obtain⟨h1,h2⟩:=Eo wf hv;refine cE h1 fun H2 h3=>?_;simp only[ah,h2 H2 h3,Option.map_some]
  ·cases h
 |indexAddr t x i =>
  simp only[ah]at h;split at h
  ·rename_i k i' hi;simp only[PU,Prod.mk.injEq]at h;obtain⟨v',hv,rfl,rfl⟩:=h;obtain⟨h1,h2⟩:=En wf hv;refine cE h1 fun H2 h3=>?_;simp only[ah,hi,h2 H2 h3,Option.map_some]
  ·cases h
 |fieldAddr s x f =>
  simp only[ah,P0]at h;obtain⟨of,hof,h⟩:=h;split at h
  ·rename_i id gen off hx;simp only[PU,Prod.mk.injEq]at h;obtain⟨ec,hl,rfl,rfl⟩:=h;have hfp:bn P G ρ H.C (.fieldAddr s x f)=⟨[],[id]⟩:=(by simp only[bn,hx,aF]);rw[hfp];refine cE (eI (g9 wf hl)) fun H2 h2=>?_;simp only[ah,hof,Option.bind_some,hx,iD (h2 id Tu),hl,Option.map_some]
  ·rename_i cells off hx;simp only[Option.some.injEq,Prod.mk.injEq]at h;obtain⟨rfl,rfl⟩:=h;have hfp:bn P G ρ H.C (.fieldAddr s x f)=⟨[],[]⟩:=(by simp only[bn,hx,aF]);rw[hfp];refine cE bZ fun H2 _=>?_;simp only[ah,hof,Option.bind_some,hx]
  ·cases h
 |call c =>
  have h0:=h;simp only[ah]at h;split at h
  ·rename_i b hb;unfold eV at h;split at h
   ·rename_i t x hats hargs;simp only[PU,Prod.mk.injEq]at h;obtain⟨v',hv,rfl,rfl⟩:=h;obtain⟨h1,h2⟩:=Ep wf hv;have hfp:bn P G ρ H.C (.call c)=⟨[],iC P t x⟩:=(by simp only[bn,hb,hats,hargs,gC]);rw[hfp];refine cE h1 fun H2 h3=>?_;simp only[ah,hb,hats,hargs,eV,h2 H2 h3,Option.map_some]
   ·rename_i hats hargs;exact Er wf hb hats hargs h
   ·rename_i hats hargs;exact Es wf hb hats hargs h
   ·rename_i hats hargs;exact Et wf hb hats hargs h
   ·rename_i hats;simp only[P0,PU,Prod.mk.injEq]at h;obtain⟨vs,h1,v',h2,rfl,rfl⟩:=h;have hfp:bn P G ρ H.C (.call c)=⟨[],[]⟩:=(by simp only[bn,hb,gC]);rw[hfp];refine cE bZ fun H2 _=>?_;simp only[ah,hb,eV,h1,h2,Option.bind_some,Option.map_some]
   ·rename_i hats;simp only[P0,PU,Prod.mk.injEq]at h;obtain⟨vs,h1,v',h2,rfl,rfl⟩:=h;have hfp:bn P G ρ H.C (.call c)=⟨[],[]⟩:=(by simp only[bn,hb,gC]);rw[hfp];refine cE bZ fun H2 _=>?_;simp only[ah,hb,eV,h1,h2,Option.bind_some,Option.map_some]
   ·cases h
  ·cases h
 |pick c a b =>
  simp only[ah]at h;split at h
  ·rename_i t ht;simp only[Option.some.injEq,Prod.mk.injEq]at h;obtain⟨rfl,rfl⟩:=h;refine cE bZ fun H2 _=>?_;simp only[ah,ht]
  ·cases h
 |makeFunc fn f c =>
  simp only[ah]at h;split at h
  ·simp only[Option.some.injEq,Prod.mk.injEq]at h;obtain⟨rfl,rfl⟩:=h;exact cE bZ fun H2 _=>by simp only[ah]
  ·cases h
 |makeInterface t x =>
  simp only[ah]at h;split at h
  ·rename_i y hy;simp only[PU,Prod.mk.injEq]at h;obtain⟨v',hv,rfl,rfl⟩:=h;refine cE bZ fun H2 _=>?_;simp only[ah,hy,hv,Option.map_some]
  ·cases h
 |field s x f =>
  simp only[ah,P0]at h;obtain⟨of,hof,h⟩:=h;split at h
  ·rename_i hx;simp only[PU,Prod.mk.injEq]at h;obtain⟨v',hv,rfl,rfl⟩:=h;refine cE bZ fun H2 _=>?_;simp only[ah,hof,Option.bind_some,hx,hv,Option.map_some]
  ·rename_i hx;simp only[PU,Prod.mk.injEq]at h;obtain⟨v',hv,rfl,rfl⟩:=h;refine cE bZ fun H2 _=>?_;simp only[ah,hof,Option.bind_some,hx,hv,Option.map_some]
  ·cases h
 |move x=>simp only[ah,Option.some.injEq,Prod.mk.injEq]at h;obtain⟨rfl,rfl⟩:=h;exact cE bZ fun H2 _=>by simp only[ah]
 |assign x=>simp only[ah,Option.some.injEq,Prod.mk.injEq]at h;obtain⟨rfl,rfl⟩:=h;exact cE bZ fun H2 _=>by simp only[ah]
 |build t p=>simp only[ah,PU,Prod.mk.injEq]at h;obtain⟨v',hv,rfl,rfl⟩:=h;exact cE bZ fun H2 _=>by simp only[ah,hv,Option.map_some]
 |binOp a b c d e=>simp only[ah,PU,Prod.mk.injEq]at h;obtain⟨v',hv,rfl,rfl⟩:=h;exact cE bZ fun H2 _=>by simp only[ah,hv,Option.map_some]
 |unOp a b c=>simp only[ah,PU,Prod.mk.injEq]at h;obtain⟨v',hv,rfl,rfl⟩:=h;exact cE bZ fun H2 _=>by simp only[ah,hv,Option.map_some]
 |convert a b c =>
  simp only[ah,PU,Prod.mk.injEq]at h;obtain⟨v',hv,rfl,rfl⟩:=h;obtain⟨h1,h2⟩:=Eu wf hv;refine cE h1 fun H2 ha=>?_;simp only[ah,h2 H2 ha,Option.map_some]
 |index a b c=>simp only[ah,PU,Prod.mk.injEq]at h;obtain⟨v',hv,rfl,rfl⟩:=h;exact cE bZ fun H2 _=>by simp only[ah,hv,Option.map_some]
 |extract a b=>simp only[ah,PU,Prod.mk.injEq]at h;obtain⟨v',hv,rfl,rfl⟩:=h;exact cE bZ fun H2 _=>by simp only[ah,hv,Option.map_some]
 |_=>simp[ah]at h
def yI {ρ':Env}(h:∀x,x∈o.operands->aj G ρ x=aj G ρ' x):ah P G ρ H id o=ah P G ρ' H id o:=by
 have hparts:∀(ps:Array (Nat × Operand)),(∀x,x∈(ps.toList.map (·.2)).toArray->aj G ρ x=aj G ρ' x)->ps.toList.map (fun p=>(p.1,aj G ρ p.2))=ps.toList.map (fun p=>(p.1,aj G ρ' p.2)):=by
  intro ps hp;refine Rd fun p hpm=>?_;rw[hp p.2 (by simpa using ⟨p.1,by simpa using hpm⟩)]
 have hlist:∀(ps:Array Operand),(∀x,x∈ps->aj G ρ x=aj G ρ' x)->ps.toList.map (aj G ρ)=ps.toList.map (aj G ρ'):=by
  intro ps hp;exact Rd fun p hpm=>hp p (by simpa using hpm)
 cases o with
 |build t ps=>simp only[ah];rw[hparts ps h]
 |buildSlice t len ps=>simp only[ah];rw[hparts ps h]
 |makeFunc fn f c =>
  simp only[ah];rw[hlist f fun x hx=>h x (by simp[Op.operands,hx]),hlist c fun x hx=>h x (by simp[Op.operands,hx])]
 |slice t x lo hi mx =>
  have hx:=h x (by simp[Op.operands]);have hlo:lo.map (aj G ρ)=lo.map (aj G ρ'):=by
   cases lo with
   |none=>rfl
   |some l=>simp only[Option.map_some];rw[h l (by simp[Op.operands])]
  have hhi:hi.map (aj G ρ)=hi.map (aj G ρ'):=by
   cases hi with
   |none=>rfl
   |some l=>simp only[Option.map_some];rw[h l (by simp[Op.operands])]
  simp only[ah,hx,hlo,hhi]
 |call c =>
  simp only[ah];rw[hlist c.args fun x hx=>h x (by
   simp only[Op.operands,Call.operands];split<;>simp[hx])]
 |pick c a b=>simp only[ah,h c (by simp[Op.operands]),h a (by simp[Op.operands]),h b (by simp[Op.operands])]
 |store t a x=>simp only[ah,h a (by simp[Op.operands]),h x (by simp[Op.operands])]
 |binOp op t x y u=>simp only[ah,h x (by simp[Op.operands]),h y (by simp[Op.operands])]
 |makeSlice t l c=>simp only[ah,h l (by simp[Op.operands]),h c (by simp[Op.operands])]
 |indexAddr t x i=>simp only[ah,h x (by simp[Op.operands]),h i (by simp[Op.operands])]
 |index t x i=>simp only[ah,h x (by simp[Op.operands]),h i (by simp[Op.operands])]
 |move x=>simp only[ah,h x (by simp[Op.operands])]
 |assign x=>simp only[ah,h x (by simp[Op.operands])]
 |box e x=>simp only[ah,h x (by simp[Op.operands])]
 |load e x=>simp only[ah,h x (by simp[Op.operands])]
 |nilCheck x=>simp only[ah,h x (by simp[Op.operands])]
 |unOp a b x=>simp only[ah,h x (by simp[Op.operands])]
 |convert a b x=>simp only[ah,h x (by simp[Op.operands])]
 |makeInterface t x=>simp only[ah,h x (by simp[Op.operands])]
 |fieldAddr s x f=>simp only[ah,h x (by simp[Op.operands])]
 |field s x f=>simp only[ah,h x (by simp[Op.operands])]
 |extract x i=>simp only[ah,h x (by simp[Op.operands])]
 |lookup t x i ok=>simp only[ah,h x (by simp[Op.operands]),h i (by simp[Op.operands])]
 |mapUpdate t m k x=>simp only[ah,h m (by simp[Op.operands]),h k (by simp[Op.operands]),h x (by simp[Op.operands])]
 |insert t m k x=>simp only[ah,h m (by simp[Op.operands]),h k (by simp[Op.operands]),h x (by simp[Op.operands])]
 |mapEntry t m k=>simp only[ah,h m (by simp[Op.operands]),h k (by simp[Op.operands])]
 |entryStore t m s x=>simp only[ah,h m (by simp[Op.operands]),h s (by simp[Op.operands]),h x (by simp[Op.operands])]
 |_=>rfl
end Go.Hx
namespace Go.Hx
variable {P:Program} {G:Nat->Option (List Ty)} {Γ Γ':ar} {H H':Tz} {w w':World}
variable {ρ:Env}{r:Nat}{g:Nat->Option TE}{e:Option (Nat × TE)}{x:Option Tmp}{t:Tmp}{v:Ty}
def cF (P:Program)(G:Nat->Option (List Ty))(fv:Ty)(args:List Ty)(H:Tz)(v:Ty)(rs:List Nat):Prop :=
 (∀r,r∈rs->r<H.C)/\∀H2:Tz,(∀r,r∈rs->H2.get r=H.get r)->H.C<=H2.C->aE P G fv args H2 fun r H3=>r=.ret v/\H3=H2
def bA (P:Program)(G:Nat->Option (List Ty))(o:Oper)(K:FP->St->Prop)(s:St):Prop :=
 match o.op with
 |.call { callee:=.value fv,args,.. }=>∃v rs,cF P G (aj G s.ρ fv) (args.toList.map (aj G s.ρ)) s.H v rs/\K ⟨[],rs⟩ ⟨aD s.ρ o.dst v,s.H⟩
 |op=>ba (ah P G s.ρ s.H s.H.C op) fun vH=>K (bn P G s.ρ s.H.C op) ⟨aD s.ρ o.dst vH.1,vH.2⟩
def dU (i:Nat)(f:FP)(acc:List (Nat × FP)):List (Nat × FP) :=
 match f with
 |⟨[],[]⟩=>acc
 |f=>(i,f) :: acc
def eY (b:Nat)(f:FP)(acc:List (Nat × FP)):Prop :=
 ∀p,p∈acc->b.testBit p.1=false->(∀r,r∈f.nk->r ∉ p.2.rs)/\(∀r,r∈p.2.nk->r ∉ f.rs)
def cD (P:Program)(G:Nat->Option (List Ty))(all:Array Oper)(tail:St->Prop):List Nat->Nat->List (Nat × FP)->List Oper->St->Prop
 |b :: bs,i,acc,o :: rest,s=>ba (dG all s.ρ o) fun t=>if t=true then bA P G o (fun f s'=>eY b f acc/\cD P G all tail bs (i+1) (dU i f acc) rest s') s
   else cD P G all tail bs (i+1) acc rest ⟨aD s.ρ o.dst (.lit undef),s.H⟩
 |_,_,_,[],s=>tail s
 | [],_,_,_ :: _,_=>False
def qS (o:Oper):List Nat:=(o.after.toList.filter fun e=>Region.binds .any e).map (·.on)
def qT (x:Option Tmp)(l:List Tmp):Bool:=match x with|some d=>!l.contains d|none=>true
def qU (all:Array Oper)(x y:Oper):Bool :=
 qT x.dst (y.looksAt all) && qT y.dst (x.looksAt all) && (match x.dst with|some d=>y.dst != some d|none=>true)
def cJ (bs:List Nat)(i:Nat):Nat:=(bs[i]?).getD 0
def uM (bs:List Nat)(i:Nat)(o:Oper):Bool :=
 let es:=qS o
 let b:=cJ bs i
 es.all (fun e=>decide (e<i)) && decide (b<2 ^ i) &&
 (List.range i).all (fun j=>!b.testBit j ||es.any fun e=>e == j ||(cJ bs e).testBit j)
def mK (all:Array Oper)(bs:List Nat)(K:Nat):Bool :=
 decide (bs.length=K) && decide (K<=all.size) &&
 (List.range all.size).all (fun i=>match all[i]? with|some o=>uM (bs++(List.range' K (all.size-K)).map fun m=>2 ^ m-1) i o|none=>false) &&
 (List.range K).all fun i=>match all[i]? with
  |some o=>(List.range i).all fun j=>(cJ bs i).testBit j ||(match all[j]? with|some o'=>qU all o' o|none=>false)
  |none=>false
structure Dt where
 v:Ty
 e:Option (Nat × TE)
 al:Bool
 f:FP
def eJ (all:Array Oper)(i:Nat):Option Tmp:=(all[i]?).bind (·.dst)
def aZ (all:Array Oper)(d:Nat->Dt)(ρ0:Env):Nat->(Nat->Bool)->Env
 |0,_=>ρ0
 |n+1,D=>if D n then aD (aZ all d ρ0 n D) (eJ all n) (d n).v else aZ all d ρ0 n D
def aP (d:Nat->Dt)(g0:Nat->Option TE):Nat->(Nat->Bool)->Nat->Option TE
 |0,_=>g0
 |n+1,D=>if D n then cZ (d n).e (aP d g0 n D) else aP d g0 n D
def aB (d:Nat->Dt):Nat->Nat
 |0=>0
 |n+1=>aB d n+(if (d n).al then 1 else 0)
def cI (x:Dt):Option Nat:=x.e.map (·.1)
def mL (h:e.map (·.1)≠some r):cZ e g r=g r:=by
 cases e with
 |none=>rfl
 |some kb =>
  simp only[cZ];rw[PX];rintro rfl;exact h rfl
def mM (h:x≠some t):aD ρ x v t=ρ t:=by
 cases x with
 |none=>rfl
 |some d =>
  simp only[aD];rw[PX];rintro rfl;exact h rfl
def qV {ρ':Env}(h:ρ t=ρ' t):aD ρ x v t=aD ρ' x v t:=by
 cases x with
 |none=>exact h
 |some d=>simp only[aD,h]
def qX {g':Nat->Option TE}(h:g r=g' r):cZ e g r=cZ e g' r:=by
 cases e with
 |none=>exact h
 |some kb=>simp only[cZ,h]
def yJ {y:Option Tmp}{u:Ty}(h:∀d,x=some d->y≠some d):aD (aD ρ x v) y u=aD (aD ρ y u) x v:=by
 funext t
 by_cases hx:x=some t
 ·rw[mM (h t hx)];exact qV (mM (h t hx)).symm
 ·rw[mM (ρ:=aD ρ y u) hx];exact qV (mM hx)
def Ew {e':Option (Nat × TE)}(h:∀r,e.map (·.1)=some r->e'.map (·.1)≠some r):cZ e' (cZ e g)=cZ e (cZ e' g):=by
 funext r
 by_cases hx:e.map (·.1)=some r
 ·rw[mL (h r hx)];exact qX (mL (h r hx)).symm
 ·rw[mL (g:=cZ e' g) hx];exact qX (mL hx)
section
variable {all:Array Oper} {d d':Nat->Dt} {ρ0:Env} {g0 g0':Nat->Option TE} {D D':Nat->Bool}
def lk {t:Tmp}:∀ {n:Nat},(∀j,j<n->eJ all j=some t->D j=D' j)->aZ all d ρ0 n D t=aZ all d ρ0 n D' t:=by
 intro n
 induction n with
 |zero=>intro _;rfl
 |succ n ih =>
  intro h;have h0:=ih fun j hj=>h j U;simp only[aZ];by_cases hd:eJ all n=some t
  ·rw[h n U hd];split
   ·exact qV h0
   ·exact h0
  ·have:∀(b:Bool) (ρ:Env),(if b=true then aD ρ (eJ all n) (d n).v else ρ) t=ρ t:=by
    intro b ρ;split
    ·exact mM hd
    ·rfl
   rw[this,this];exact h0
def uc {m:Nat}:∀ {n:Nat},m<=n->aZ all d ρ0 n (fun j=>decide (j<m))=aZ all d ρ0 m fun _=>true:=by
 have low:∀k,k<=m->aZ all d ρ0 k (fun j=>decide (j<m))=aZ all d ρ0 k fun _=>true:=by
  intro k
  induction k with
  |zero=>intro _;rfl
  |succ k ih =>
   intro hk;simp only[aZ];rw[ih U,PZ (by simp;omega)];simp
 intro n
 induction n with
 |zero =>
  intro hm;obtain rfl:m=0:=U
  exact low 0 (U)
 |succ n ih =>
  intro hm;by_cases h:m=n+1
  ·subst h;exact low (n+1) (U)
  ·simp only[aZ];rw[PX (by simp;omega)];exact ih (U)
def ll {r:Nat}:∀ {n:Nat},(∀j,j<n->cI (d j)=some r->D j=D' j)->aP d g0 n D r=aP d g0 n D' r:=by
 intro n
 induction n with
 |zero=>intro _;rfl
 |succ n ih =>
  intro h;have h0:=ih fun j hj=>h j U;simp only[aP];by_cases hd:cI (d n)=some r
  ·rw[h n U hd];split
   ·exact qX h0
   ·exact h0
  ·have:∀(b:Bool) (g:Nat->Option TE),(if b=true then cZ (d n).e g else g) r=g r:=by
    intro b g;split
    ·exact mL hd
    ·rfl
   rw[this,this];exact h0
def ud {m:Nat}:∀ {n:Nat},m<=n->aP d g0 n (fun j=>decide (j<m))=aP d g0 m fun _=>true:=by
 have low:∀k,k<=m->aP d g0 k (fun j=>decide (j<m))=aP d g0 k fun _=>true:=by
  intro k
  induction k with
  |zero=>intro _;rfl
  |succ k ih =>
   intro hk;simp only[aP];rw[ih U,PZ (by simp;omega)];simp
 intro n
 induction n with
 |zero =>
  intro hm;obtain rfl:m=0:=U
  exact low 0 (U)
 |succ n ih =>
  intro hm;by_cases h:m=n+1
  ·subst h;exact low (n+1) (U)
  ·simp only[aP];rw[PX (by simp;omega)];exact ih (U)
def oC {r:Nat}:∀ {n:Nat},(g0 r=g0' r\/∃j,j<n/\D j=true/\cI (d j)=some r)->aP d g0 n D r=aP d g0' n D r:=by
 intro n
 induction n with
 |zero =>
  rintro(h|⟨j,hj,_⟩)
  ·exact h
  ·omega
 |succ n ih =>
  intro h;simp only[aP];by_cases hD:D n=true
  ·rw[PZ hD,PZ hD];by_cases ht:cI (d n)=some r
   ·cases he:(d n).e with
    |none=>simp[cI,he]at ht
    |some kb =>
     simp only[cI,he,Option.map_some,Option.some.injEq]at ht;simp only[cZ];rw[PZ ht.symm,PZ ht.symm]
   ·refine qX (ih ?_);rcases h with h|⟨j,hj,h1,h2⟩
    ·exact .inl h
    ·by_cases hjn:j=n
     ·subst hjn;exact absurd h2 ht
     ·exact .inr ⟨j,U,h1,h2⟩
  ·rw[PX hD,PX hD];refine ih ?_;rcases h with h|⟨j,hj,h1,h2⟩
   ·exact .inl h
   ·by_cases hjn:j=n
    ·subst hjn;exact absurd h1 hD
    ·exact .inr ⟨j,U,h1,h2⟩
def ue {r:Nat}:∀ {n:Nat},(∀j,j<n->D j=true->cI (d j)≠some r)->aP d g0 n D r=g0 r:=by
 intro n
 induction n with
 |zero=>intro _;rfl
 |succ n ih =>
  intro h;simp only[aP];split
  ·rename_i hD;rw[mL (h n U hD)];exact ih fun j hj=>h j (U)
  ·exact ih fun j hj=>h j (U)
def bD (D:Nat->Bool)(i:Nat):Nat->Bool:=fun j=>if j=i then true else D j
def uf {i:Nat}(hD:D i=false):∀ {n:Nat},i<n->(∀j,i<j->j<n->D j=true->∀t,eJ all i=some t->eJ all j≠some t) ->
  aZ all d ρ0 n (bD D i)=aD (aZ all d ρ0 n D) (eJ all i) (d i).v:=by
 intro n
 induction n with
 |zero=>intro h;omega
 |succ n ih =>
  intro hi h;by_cases hin:i=n
  ·subst hin;have h0:aZ all d ρ0 i (bD D i)=aZ all d ρ0 i D:=funext fun t=>lk fun j hj _=>by simp[bD,So hj]
   simp only[aZ];rw[PZ (by simp[bD]),PX (by simp[hD]),h0]
  ·have hw:bD D i n=D n:=(by simp[bD,Ne.symm hin]);have h0:=ih U fun j h1 h2=>h j h1 U;simp only[aZ,hw];split
   ·rename_i hDn;rw[h0];exact yJ (h n U U hDn)
   ·exact h0
def ug {i:Nat}(hD:D i=false):∀ {n:Nat},i<n->(∀j,i<j->j<n->D j=true->∀t,cI (d i)=some t->cI (d j)≠some t) ->
  aP d g0 n (bD D i)=cZ (d i).e (aP d g0 n D):=by
 intro n
 induction n with
 |zero=>intro h;omega
 |succ n ih =>
  intro hi h;by_cases hin:i=n
  ·subst hin;have h0:aP d g0 i (bD D i)=aP d g0 i D:=funext fun t=>ll fun j hj _=>by simp[bD,So hj]
   simp only[aP];rw[PZ (by simp[bD]),PX (by simp[hD]),h0]
  ·have hw:bD D i n=D n:=(by simp[bD,Ne.symm hin]);have h0:=ih U fun j h1 h2=>h j h1 U;simp only[aP,hw];split
   ·rename_i hDn;rw[h0];exact Ew (h n U U hDn)
   ·exact h0
def mC {m n:Nat}(h:m<=n):aB d m<=aB d n:=by
 induction n with
 |zero =>
  have:m=0:=U
  subst this;exact Nat.le_refl _
 |succ n ih =>
  by_cases hm:m=n+1
  ·subst hm;exact Nat.le_refl _
  ·exact QH (ih U) (by simp[aB])
def oD {n c:Nat}(h:c<aB d n):∃j,j<n/\(d j).al=true/\aB d j=c:=by
 induction n with
 |zero=>simp[aB]at h
 |succ n ih =>
  by_cases hc:c<aB d n
  ·obtain⟨j,h1,h2⟩:=ih hc;exact⟨j,U,h2⟩
  ·simp only[aB]at h;cases hal:(d n).al with
   |false=>simp[hal]at h;omega
   |true =>
    simp only[hal,if_true]at h;exact⟨n,U,hal,U⟩
def iX {i n:Nat}(h:i<n)(hal:(d i).al=true):aB d i<aB d n:=by
 have:=mC (d:=d) (m:=i+1) (n:=n) h;simp only[aB,hal,if_true]at this;omega
def oE {n:Nat}(h:∀j,j<n->d j=d' j):aZ all d ρ0 n D=aZ all d' ρ0 n D:=by
 induction n with
 |zero=>rfl
 |succ n ih=>simp only[aZ];rw[ih fun j hj=>h j U,h n U]
def oF {n:Nat}(h:∀j,j<n->d j=d' j):aP d g0 n D=aP d' g0 n D:=by
 induction n with
 |zero=>rfl
 |succ n ih=>simp only[aP];rw[ih fun j hj=>h j U,h n U]
def dS {n:Nat}(h:∀j,j<n->d j=d' j):aB d n=aB d' n:=by
 induction n with
 |zero=>rfl
 |succ n ih=>simp only[aB];rw[ih fun j hj=>h j U,h n U]
end
def ExecOk (P:Program)(G:Nat->Option (List Ty))(all:Array Oper)(o:Oper)(id:Nat)(s s':St):Prop :=
 (dG all s.ρ o=some false/\s'=⟨aD s.ρ o.dst (.lit undef),s.H⟩) \/
 (dG all s.ρ o=some true/\∃v,s'.ρ=aD s.ρ o.dst v /\
  (ah P G s.ρ s.H id o.op=some (v,s'.H) \/
   ∃fv args ats,o.op=.call ⟨.value fv,args,ats⟩/\s'.H=s.H/\aE P G (aj G s.ρ fv) (args.toList.map (aj G s.ρ)) s.H fun r H3=>r=.ret v/\H3=s.H))
def ui {n:Nat}{wb:T2}{rd rb:Option Nat}{all:Array Oper}{o:Oper}{id i:Nat}{s s':St}{a:Act}{C:Act->World->Prop}{Q':Exit->Act->World->Prop}(ho:all[i]?=some o)(hd:ep n o=true)
  (hs:TS P G n wb Γ s a w) (hr:cU Γ s.H rd rb) (h:ExecOk P G all o id s s')
  (hnext:∀ Γ' a' w',TS P G n wb Γ' s' a' w'->TJ Γ s.H w Γ' s'.H w'->s.H.C<=s'.H.C->cU Γ' s'.H rd rb->(∃cv,a'=a.put o.dst cv)->C a' w'):
  wpOpIn (cX rb) 0 P all Q' i C a w:=by
 have hdst:∀d,o.dst=some d->d<n:=by
  intro d hd';unfold ep at hd;rw[hd']at hd;simpa using hd
 unfold wpOpIn;rw[ho];simp only;rcases h with ⟨hw,rfl⟩|⟨hw,v,hρ,h⟩
 ·rw[mF hs hw];simp only[Bool.false_eq_true,if_false];refine⟨fun _ _=>trivial,?_⟩;have hs':=iB (v:=.lit undef) (cv:=undef) hs hdst (TJ.refl Γ s.H w) Tx hs.heap (.lit _);exact hnext Γ _ w hs' (TJ.refl _ _ _) Tx hr ⟨_,rfl⟩
 ·rw[mF hs hw];simp only[if_true];obtain⟨ρ',H'⟩:=s';simp only at hρ;subst hρ;refine⟨fun _ _=>trivial,?_⟩;rcases h with hop|⟨fv,args,ats,hop,hH,hap⟩
  ·simp only at hop;rw[Oper.semAt_eq _ _ _ (fun c hc=>by rw[hc]at hop;simp[ah]at hop)];obtain⟨nx,cv,Γ',w',hrun,hnx,E,hn,R,hv⟩:=uA hs.heap (fW hs) hop;rw[hrun];have hri:=uD hr (uE hs.heap hop);have hs':=iB hs hdst E hn R hv;have hr':=hr.aU E hn hs.heap hri;rcases hnx with rfl|⟨rfl,rfl⟩
   ·exact hnext Γ' _ w' hs' E hn hr' ⟨_,rfl⟩
   ·exact hnext Γ' _ w' hs' E hn hr' ⟨_,rfl⟩
  ·simp only at hH;subst hH;rw[Oper.semAt_eq _ _ _ (fun c hc=>by rw[hc]at hop;cases hop)];obtain⟨d,h1,h2⟩:=hap Γ w (a.eval fv) (args.map a.eval) hs.heap (fW hs fv) ⟨Tu,fun i h1 h2=>by simp only[P4,RW,QQ];exact fW hs _⟩;have hex:(execOp a.eval o).run P w=(invoke d.target d.args).run P w:=by
    unfold execOp;simp only[hop];unfold resolve;simp only;rw[ak h1]
   have hri:dT s.H rd:=by
    cases rd with
    |none=>trivial
    |some id =>
     obtain⟨b,st,pend,n,env,ps,asg,body,_,_,h3⟩:=hr;exact⟨_,_,_,_,_,_,_,h3⟩
   have cont:∀e w',fX P G Γ s.H w (fun r H3=>r=.ret v/\H3=s.H) e w'->(match e with
     |.returned v=>C (a.put o.dst v) w'
     |.panicked chain=>Q' (.panic chain) a w'
     |.outgrown=>LetsOut Q'):=by
    rintro e w' ⟨r,H',Γ',hend,⟨rfl,rfl⟩,R,E,hn⟩;have hr':=hr.aU E hn hs.heap hri;cases e with
    |returned cv=>exact hnext Γ' _ w' (iB hs hdst E hn R hend) E hn hr' ⟨_,rfl⟩
    |panicked chain=>exact hend.elim
    |outgrown=>exact hend.elim
   rw[hex];rcases h2 with ⟨f,as,h3,h4⟩|⟨l,f,tm,asg,body,h3,h4⟩|⟨cv,w',h3,h4⟩
   ·rw[h3];refine⟨fun hc=>by simp[Fence.wide]at hc,?_⟩;have h4':CallsIn (cX rb) 0 P f as w _:=h4;refine h4'.mono ?_;intro e w' hp;have:=cont e w' hp;cases e<;>exact this
   ·rw[h3];refine⟨fun hc=>by simp[Fence.wide]at hc,?_⟩;have h4':RoundIn (cX rb) 0 P l f tm asg body w _:=h4;refine h4'.mono ?_;intro e w' hp;have:=cont e w' hp;cases e<;>exact this
   ·rw[h3];exact cont (.returned cv) w' h4
def jD (d:Nat->Dt)(H0:Tz)(m:Nat):Tz:=⟨aP d H0.get m fun _=>true,H0.C+aB d m⟩
def canon (all:Array Oper)(d:Nat->Dt)(s0:St)(m:Nat):St:=⟨aZ all d s0.ρ m fun _=>true,jD d s0.H m⟩
structure TL (P:Program)(G:Nat->Option (List Ty))(all:Array Oper)(bs:List Nat)(s0:St)(d:Nat->Dt)(i:Nat):Prop where
 step:∀o,all[i]?=some o->∀ ρ2 H2,(∀t,t∈o.looksAt all->ρ2 t=(canon all d s0 i).ρ t)->(∀r,r∈(d i).f.rs->H2.get r=(canon all d s0 i).H.get r) ->
  ((d i).al=true->H2.get (s0.H.C+aB d i)=some .ni/\s0.H.C+aB d i≠H2.C)->s0.H.C+aB d i<=H2.C ->
  ExecOk P G all o (s0.H.C+aB d i) ⟨ρ2,H2⟩ ⟨aD ρ2 o.dst (d i).v,⟨cZ (d i).e H2.get,H2.C⟩⟩
 nk:∀k b,(d i).e=some (k,b)->k∈(d i).f.nk/\((d i).al=false->k∈(d i).f.rs)
 al:(d i).al=true->∃b,(d i).e=some (s0.H.C+aB d i,b)
 lt:∀r,r∈(d i).f.rs->r<s0.H.C+aB d i
 apart:∀j,j<i->(cJ bs i).testBit j=false->(∀r,r∈(d i).f.nk->r ∉ (d j).f.rs)/\(∀r,r∈(d j).f.nk->r ∉ (d i).f.rs)
def mO {all:Array Oper}{o:Oper}{ρ ρ':Env}(h:∀t,t∈o.looksAt all->ρ' t=ρ t):dG all ρ' o=dG all ρ o:=by
 unfold dG;cases hg:o.guard with
 |none=>rfl
 |some gw =>
  obtain⟨j,want⟩:=gw;simp only;cases hd:(all[j]?).bind (·.dst) with
  |none=>rfl
  |some d =>
   simp only;rw[h d (by simp[Oper.looksAt,hg,hd])]
def qY {all:Array Oper}{o:Oper}{ρ ρ':Env}(h:∀t,t∈o.looksAt all->ρ' t=ρ t):∀x,x∈o.op.operands->aj G ρ' x=aj G ρ x:=by
 intro x hx;cases x with
 |tmp t=>exact h t (RA _ (List.mem_filterMap.2 ⟨.tmp t,by simpa using hx,rfl⟩))
 |_=>rfl
def bG (d:Nat->Dt)(m:Nat)(x:Dt):Nat->Dt:=fun j=>if j=m then x else d j
def eW {d:Nat->Dt}{m:Nat}{x:Dt}{i:Nat}(h:i<m):d i=bG d m x i:=by simp[bG,So h]
def cf {d:Nat->Dt}{m:Nat}{x:Dt}:bG d m x m=x:=by simp[bG]
def jE {all:Array Oper}{d d':Nat->Dt}{s0:St}{m:Nat}(h:∀j,j<m->d j=d' j):canon all d s0 m=canon all d' s0 m:=by
 unfold canon jD;rw[oE h,oF h,dS h]
def TL.below {all:Array Oper}{bs:List Nat}{s0:St}{d d':Nat->Dt}{i:Nat}(g:TL P G all bs s0 d i)(h:∀j,j<=i->d j=d' j):TL P G all bs s0 d' i:=by
 have hi:=h i Tx;have hn:aB d i=aB d' i:=dS fun j hj=>h j U;have hc:canon all d s0 i=canon all d' s0 i:=jE fun j hj=>h j U;obtain⟨a,b,c,e,f⟩:=g;refine⟨?_,?_,?_,?_,?_⟩
 ·rw[<- hi,<- hn,<- hc];exact a
 ·rw[<- hi];exact b
 ·rw[<- hi,<- hn];exact c
 ·rw[<- hi,<- hn];exact e
 ·intro j hj hb;rw[<- hi,<- h j U];exact f j hj hb
def iA (d:Nat->Dt)(m:Nat)(acc:List (Nat × FP)):Prop:=∀j,j<m->(d j).f=⟨[],[]⟩\/(j,(d j).f)∈acc
def iA.add {d:Nat->Dt}{m:Nat}{acc:List (Nat × FP)}(h:iA d m acc)(x:Dt):iA (bG d m x) (m+1) (dU m x.f acc):=by
 intro j hj;have key:∀p,p∈acc->p∈dU m x.f acc:=by
  intro p hp;unfold dU;split
  ·exact hp
  ·exact QP _ hp
 by_cases hjm:j=m
 ·subst hjm;rw[cf];by_cases hf:x.f=⟨[],[]⟩
  ·exact .inl hf
  ·refine .inr ?_;unfold dU;split
   ·rename_i h0;exact absurd h0 hf
   ·exact Q8
 ·rw[<- eW (x:=x) U];exact(h j U).imp id (key _)
def oG {d:Nat->Dt}{m:Nat}{acc:List (Nat × FP)}{b:Nat}{f:FP}(hc:iA d m acc)(h:eY b f acc):∀j,j<m->b.testBit j=false->(∀r,r∈f.nk->r ∉ (d j).f.rs)/\(∀r,r∈(d j).f.nk->r ∉ f.rs):=by
 intro j hj hb;rcases hc j hj with h0|h1
 ·rw[h0];exact⟨fun r _ h=>(by cases h),fun r h=>(by cases h)⟩
 ·exact h _ h1 hb
def lp {all:Array Oper}{d:Nat->Dt}{s0:St}{m:Nat}{x:Dt}{o:Oper}(ho:all[m]?=some o):
  canon all (bG d m x) s0 (m+1)=⟨aD (canon all d s0 m).ρ o.dst x.v,⟨cZ x.e (canon all d s0 m).H.get,(canon all d s0 m).H.C+(if x.al then 1 else 0)⟩⟩:=by
 have hb:∀j,j<m->d j=bG d m x j:=fun j hj=>eW hj;unfold canon jD;simp only[aZ,aP,aB,if_true,cf];rw[<- oE hb,<- oF hb,<- dS hb];simp only[eJ,ho,Option.bind_some,Rv]
def lq {all:Array Oper}{bs:List Nat}{s0:St}{d:Nat->Dt}{m:Nat}{x:Dt}(hg:∀i,i<m->TL P G all bs s0 d i)(hx:TL P G all bs s0 (bG d m x) m):
  ∀i,i<m+1->TL P G all bs s0 (bG d m x) i:=by
 intro i hi;by_cases him:i=m
 ·subst him;exact hx
 ·exact(hg i U).below fun j hj=>eW (U)
def trace {all:Array Oper}{bs:List Nat}{s0:St}{tail:St->Prop}{K:Nat}(hbs:bs.length=K)(hK:K<=all.size):∀(k m:Nat) (d:Nat->Dt) (acc:List (Nat × FP)),k+m=K ->
  (∀i,i<m->TL P G all bs s0 d i)->iA d m acc->ew (canon all d s0 m).H->cD P G all tail (bs.drop m) m acc ((all.toList.take K).drop m) (canon all d s0 m) ->
  ∃d',(∀i,i<K->TL P G all bs s0 d' i)/\tail (canon all d' s0 K):=by
 intro k
 induction k with
 |zero =>
  intro m d acc hm hg hc wf h;obtain rfl:m=K:=U
  refine⟨d,hg,?_⟩;have:(all.toList.take m).drop m=[]:=by
   apply SB;simp only[P9];omega
  rw[this]at h;cases hb:bs.drop m with
  |nil=>rw[hb]at h;simpa only[cD] using h
  |cons b bs'=>rw[hb]at h;simpa only[cD] using h
 |succ k ih =>
  intro m d acc hm hg hc wf h;have hmK:m<K:=U
  have hms:m<all.size:=U
  have ho:all[m]?=some all[m]:=P6 hms;have hbm:bs.drop m=cJ bs m :: bs.drop (m+1):=by
   rw[Qw U];congr 1;simp[cJ,PV (show m<bs.length by omega)]
  have hom:(all.toList.take K).drop m=all[m] :: (all.toList.take K).drop (m+1):=by
   rw[Qw (by simp only[P9,Rp];omega)];congr 1;simp
  rw[hbm,hom]at h;simp only[cD]at h;obtain⟨t,ht,h⟩:=h;have hnext:(canon all d s0 m).H.C=s0.H.C+aB d m:=rfl;cases t with
  |false =>
   simp only[Bool.false_eq_true,if_false]at h
   let x:Dt:=⟨.lit undef,none,false,⟨[],[]⟩⟩
   have hb:∀j,j<m->d j=bG d m x j:=fun j hj=>eW hj;have hcan:canon all (bG d m x) s0 (m+1)=⟨aD (canon all d s0 m).ρ all[m].dst (.lit undef),(canon all d s0 m).H⟩:=lp ho;have hgx:TL P G all bs s0 (bG d m x) m:=by
    refine⟨?_,?_,?_,?_,?_⟩
    ·rw[cf,<- jE hb];intro o ho' ρ2 H2 h1 h2 h3 _;rw[ho]at ho';cases ho';refine .inl ⟨?_,rfl⟩;simp only;rw[mO h1,ht]
    ·rw[cf];intro k b he;cases he
    ·rw[cf];intro he;cases he
    ·rw[cf];intro r hr;cases hr
    ·rw[cf];intro j hj hbit;exact⟨fun r hr=>(by cases hr),fun r hr hr'=>(by cases hr')⟩
   refine ih (m+1) (bG d m x) acc U (lq hg hgx) (hc.add x) ?_ ?_
   ·rw[hcan];exact wf
   ·rw[hcan];exact h
  |true =>
   simp only[if_true]at h;unfold bA at h;split at h
   ·rename_i fv args ats hop;obtain⟨v,rs,⟨hlt,hcall⟩,hap,h⟩:=h
    let x:Dt:=⟨v,none,false,⟨[],rs⟩⟩
    have hb:∀j,j<m->d j=bG d m x j:=fun j hj=>eW hj;have hcan:canon all (bG d m x) s0 (m+1)=⟨aD (canon all d s0 m).ρ all[m].dst v,(canon all d s0 m).H⟩:=lp ho;have hgx:TL P G all bs s0 (bG d m x) m:=by
     refine⟨?_,?_,?_,?_,?_⟩
     ·rw[cf,<- jE hb];intro o ho' ρ2 H2 h1 h2 h3 h4;rw[ho]at ho';cases ho';refine .inr ⟨?_,v,rfl,.inr ⟨fv,args,ats,hop,rfl,?_⟩⟩
      ·simp only;rw[mO h1,ht]
      ·have hev:=qY (G:=G) h1;have e1:aj G ρ2 fv=aj G (canon all d s0 m).ρ fv:=hev fv (by simp[hop,Op.operands,Call.operands]);have e2:args.toList.map (aj G ρ2)=args.toList.map (aj G (canon all d s0 m).ρ) :=
        Rd fun y hy=>hev y (by simp only[hop,Op.operands,Call.operands];simp;exact .inr (by simpa using hy))
       simp only;rw[e1,e2];exact hcall H2 h2 (by rw[hnext,dS hb];exact h4)
     ·rw[cf];intro k b he;cases he
     ·rw[cf];intro he;cases he
     ·rw[cf,<- dS hb];exact hlt
     ·rw[cf];intro j hj hbit;rw[<- eW hj];exact oG hc hap j hj hbit
    refine ih (m+1) (bG d m x) _ U (lq hg hgx) (hc.add x) ?_ ?_
    ·rw[hcan];exact wf
    ·rw[hcan];exact h
   ·obtain⟨⟨v,H'⟩,hop,hap,h⟩:=h;obtain⟨e,al,hget,hnx,heff,hal,hlt,hloc⟩:=uL wf hop
    let x:Dt:=⟨v,e,al,bn P G (canon all d s0 m).ρ (canon all d s0 m).H.C all[m].op⟩
    have hb:∀j,j<m->d j=bG d m x j:=fun j hj=>eW hj;have hcan:canon all (bG d m x) s0 (m+1)=⟨aD (canon all d s0 m).ρ all[m].dst v,H'⟩:=by
     rw[lp ho];congr 1;cases H';simp only at hget hnx;simp only[Tz.mk.injEq];refine⟨hget.symm,?_⟩;rw[hnx];simp only[x];cases al<;>simp
    have hgx:TL P G all bs s0 (bG d m x) m:=by
     refine⟨?_,?_,?_,?_,?_⟩
     ·rw[cf,<- jE hb,<- dS hb];intro o ho' ρ2 H2 h1 h2 h3 h4;rw[ho]at ho';cases ho';refine .inr ⟨?_,v,rfl,.inl ?_⟩
      ·simp only;rw[mO h1,ht]
      ·simp only;rw[yI (ρ':=(canon all d s0 m).ρ) (qY h1)];exact hloc H2 h2 h3
     ·rw[cf];exact heff
     ·rw[cf,<- dS hb];exact hal
     ·rw[cf,<- dS hb];exact hlt
     ·rw[cf];intro j hj hbit;rw[<- eW hj];exact oG hc hap j hj hbit
    have wf':ew H':=by
     intro id b hid;rw[hget]at hid;rw[hnx];cases e with
     |none =>
      have:=wf id b hid;split<;>omega
     |some kb =>
      obtain⟨k0,b0⟩:=kb;simp only[cZ]at hid;split at hid
      ·rename_i hk;subst hk;cases al with
       |true =>
        obtain⟨b1,hb1⟩:=hal rfl;simp only[Option.some.injEq,Prod.mk.injEq]at hb1;simp only[if_true];omega
       |false =>
        have:=hlt _ ((heff id b0 rfl).2 rfl);simpa using this
      ·have:=wf id b hid;split<;>omega
    refine ih (m+1) (bG d m x) _ U (lq hg hgx) (hc.add x) ?_ ?_
    ·rw[hcan];exact wf'
    ·rw[hcan];exact h
end Go.Hx
namespace Go.Hx
variable {P:Program} {G:Nat->Option (List Ty)} {Γ Γ':ar} {H H':Tz} {w w':World}
variable {bs:List Nat}{K i j:Nat}{D:Nat->Bool}{d:Nat->Dt}{o:Oper}{s0:St}
structure T7 (all:Array Oper)(bs:List Nat)(K:Nat):Prop where
 len:bs.length=K
 le:K<=all.size
 down:∀i o,all[i]?=some o->∀e,e∈o.after->Region.binds .any e=true->e.on<i
 just:∀i o j,all[i]?=some o->(if i<K then (cJ bs i).testBit j=true else j<i)->∃e,e∈o.after/\Region.binds .any e=true/\(e.on=j\/(if e.on<K then (cJ bs e.on).testBit j=true else j<e.on))
 apart:∀i j oi oj,i<K->j<i->all[i]?=some oi->all[j]?=some oj->(cJ bs i).testBit j=false->qU all oj oi=true
def y9 {k:Nat}:k∈qS o↔∃e,e∈o.after/\Region.binds .any e=true/\e.on=k:=by
 simp[qS,and_assoc]
def za {N:Nat}(hl:bs.length=K)(hi:i<N)(hK:K<=N):
  (cJ (bs++(List.range' K (N-K)).map fun m=>2 ^ m-1) i).testBit j=true↔(if i<K then (cJ bs i).testBit j=true else j<i):=by
 unfold cJ;by_cases h:i<K
 ·rw[PZ h,P3 U]
 ·rw[PX h,Qc U,List.getElem?_map,List.getElem?_range' U];simp only[Option.map_some,Option.getD_some,Ro,decide_eq_true_eq];have:K+1*(i-bs.length)=i:=U
  rw[this]
def zb {all:Array Oper}(h:mK all bs K=true):T7 all bs K:=by
 unfold mK at h;simp only[Qj,decide_eq_true_eq,Qt,QN]at h;obtain⟨⟨⟨hlen,hle⟩,hone⟩,hap⟩:=h;have hlt:∀i o,all[i]?=some o->i<all.size:=fun i o ho=>(QE.1 ho).1;have hdown:∀i o,all[i]?=some o->∀e,e∈o.after->Region.binds .any e=true->e.on<i:=by
  intro i o ho e he hb;have h1:=hone i (hlt i o ho);rw[ho]at h1;simp only[uM,Qj,Qt,decide_eq_true_eq]at h1;exact h1.1.1 e.on (y9.2 ⟨e,he,hb,rfl⟩)
 refine⟨hlen,hle,hdown,?_,?_⟩
 ·intro i o j ho hj;have hi:=hlt i o ho;have h1:=hone i hi;rw[ho]at h1;simp only[uM,Qj,Qt,decide_eq_true_eq,QN]at h1;obtain⟨⟨_,hb⟩,h2⟩:=h1;have hbit:=(za (j:=j) hlen hi hle).2 hj;have hji:j<i:=by
   rcases Ql j i with h|h
   ·exact h
   ·have:=Sz (P5 hb (Qu U h));rw[hbit]at this;cases this
  have h3:=h2 j hji;rw[hbit]at h3;simp only[Bool.not_true,Te,List.any_eq_true,Q4,beq_iff_eq]at h3;obtain⟨k,hk,h4⟩:=h3;obtain⟨e,he,hbe,rfl⟩:=y9.1 hk;refine⟨e,he,hbe,h4.imp id fun h5=>?_⟩;exact(za (j:=j) hlen (Nat.lt_trans (hdown i o ho e he hbe) hi) hle).1 h5
 ·intro i j oi oj hi hj hoi hoj hbit;have h1:=hap i hi;rw[hoi]at h1;simp only[Qt,QN]at h1;have h2:=h1 j hj;rw[hbit,hoj]at h2;simpa using h2
def zc {x:Option Tmp}{l:List Tmp}{t:Tmp}(h:qT x l=true)(hx:x=some t):t ∉ l:=by
 subst hx;simpa[qT] using h
def mS {all:Array Oper}{x y:Oper}(h:qU all x y=true):(∀t,x.dst=some t->t ∉ y.looksAt all)/\(∀t,y.dst=some t->t ∉ x.looksAt all)/\(∀t,x.dst=some t->y.dst≠some t):=by
 simp only[qU,Qj]at h;obtain⟨⟨h1,h2⟩,h3⟩:=h;refine⟨fun t ht=>zc h1 ht,fun t ht=>zc h2 ht,fun t ht=>?_⟩;rw[ht]at h3;simpa using h3
def q7 (all:Array Oper)(L:Nat->Bool):Prop:=∀i o,L i=true->all[i]?=some o->∀e,e∈o.after->Region.binds .any e=true->L e.on=true
def T7.ahead {all:Array Oper}(S:T7 all bs K){L:Nat->Bool}(hL:q7 all L):∀i o j,all[i]?=some o->(∀e,e∈o.after->Region.binds .any e=true->L e.on=true) ->
  (if i<K then (cJ bs i).testBit j=true else j<i)->L j=true:=by
 intro i
 induction i using Nat.strongRecOn with
 |_ i ih =>
  intro o j ho hdir hj;obtain⟨e,he,hb,h⟩:=S.just i o j ho hj;have hon:=hdir e he hb;rcases h with rfl|h
  ·exact hon
  ·have hlt:=S.down i o ho e he hb;have hi:=(QE.1 ho).1;exact ih e.on hlt all[e.on] j (P6 U) (hL e.on _ hon (P6 U)) h
def bu (H:Tz)(k:Nat):Tz:=⟨fun j=>if H.C<=j/\j<H.C+k then some .ni else H.get j,H.C+k⟩
def oU (H:Tz)(k:Nat):TJ Γ H w Γ (bu H k) w where
 os:=rfl
 tape:=rfl
 output:=rfl
 size:=Tx
 na:=fun _ _ h=>⟨rfl,h⟩
 Z:=fun id h1 _ x' hx=>by
  refine⟨x',?_,TE.le_refl _ _ _⟩;simp only[bu]at hx;rw[PX U]at hx;exact hx
 np:=fun _ _=>rfl
 kind:=.refl _
 newb:=.refl _ _
def mT (w:World):TJ Γ H w Γ H { w with drawn:=w.drawn+1 } where
 os:=rfl
 tape:=rfl
 output:=rfl
 size:=Tx
 na:=fun _ _ h=>⟨rfl,h⟩
 Z:=fun _ _ _ x' hx=>⟨x',hx,TE.le_refl _ _ _⟩
 np:=fun _ _=>rfl
 kind:=.refl _
 newb:=.refl _ _
def TG.move (R:TG P G Γ H w)(hheap:w'.heap=w.heap)(E:TJ Γ H w Γ H' w')(hn:H.C<=H'.C)(hget:∀id b,H'.get id=some b->H.get id=some b\/(b=.ni/\H.get id=none/\id<H'.C))(hsame:∀id b,H.get id=some b->H'.get id=some b):TG P G Γ H' w' where
 L id g e cells hg:=by
  rcases hget _ _ hg with h|h
  ·have h1:=R.L id g e cells h;cases hΓ:Γ id with
   |none=>rw[hΓ]at h1;exact h1
   |some y =>
    obtain⟨b,base,n⟩:=y;rw[hΓ]at h1;obtain⟨c,a1,a2,a3,a4⟩:=h1;exact⟨c,by rw[hheap];exact a1,a2,a3,fun i hi=>let ⟨cv,b1,b2⟩:=a4 i hi;⟨cv,b1,b2.aU E hn⟩⟩
  ·cases h.1
 loop id st pend n env ps asg body hg:=by
  rcases hget _ _ hg with h|h
  ·obtain⟨b,rr,a1,a2,a3,a4,a5,a6,a7,a8,a9⟩:=R.loop id st pend n env ps asg body h;exact⟨b,rr,a1,by rw[hheap];exact a2,a3,a4,a5,a6,a7,a8,fun t ht=>(a9 t ht).aU E hn⟩
  ·cases h.1
 mp id es hg:=by
  rcases hget _ _ hg with h|h
  ·obtain⟨b,a1,a2⟩:=R.mp id es h;exact⟨b,a1,by rw[hheap];exact a2⟩
  ·cases h.1
 ni id hg:=by
  rcases hget _ _ hg with h|h
  ·exact R.ni id h
  ·cases hΓ:Γ id with
   |none=>rfl
   |some x =>
    obtain⟨y,hy⟩:=R.nt id x hΓ;rw[h.2.1]at hy;cases hy
 inj:=R.inj
 nt id x h:=let ⟨y,hy⟩:=R.nt id x h;⟨y,hsame _ _ hy⟩
 lt id b base n h:=by rw[hheap];exact R.lt id b base n h
 C id y h:=by
  rcases hget _ _ h with h|h
  ·exact P5 (R.C id y h) hn
  ·exact h.2.2
 nr g cells h:=(R.nr g cells h).aU E hn
 gsz:=R.lf E
def zd (R:TG P G Γ H w)(k:Nat):TG P G Γ (bu H k) w:=by
 have hnone:∀id,H.C<=id->H.get id=none:=by
  intro id h;cases hg:H.get id with
  |none=>rfl
  |some y=>have:=R.C id y hg;omega
 refine R.move rfl (oU H k) (by simp[bu]) (fun id b hb=>?_) (fun id b hb=>?_)
 ·simp only[bu]at hb;split at hb
  ·rename_i hc;simp only[Option.some.injEq]at hb;exact .inr ⟨hb.symm,hnone id hc.1,hc.2⟩
  ·exact .inl hb
 ·simp only[bu];rw[PX]
  ·exact hb
  ·have:=R.C id b hb;omega
def TS.move {n:Nat}{wb:T2}{s:St}{a:Act}(hs:TS P G n wb Γ s a w){H':Tz}(E:TJ Γ s.H w Γ H' w')(hn:s.H.C<=H'.C)(R:TG P G Γ H' w'):TS P G n wb Γ ⟨s.ρ,H'⟩ a w' :=
 ⟨hs.size,fun t=>(hs.env t).aU E hn,R,hs.defers.aU E,QH hs.low E.size⟩
def cU.move {rd rb:Option Nat}(h:cU Γ H rd rb)(hk:∀id b,H.get id=some b->H'.get id=some b):cU Γ H' rd rb:=by
 cases rd with
 |none=>exact h
 |some id =>
  obtain⟨b,st,pend,n,env,ps,asg,body,h1,h2,h3⟩:=h;exact⟨b,_,_,_,_,_,_,_,h1,h2,hk _ _ h3⟩
def dp (all:Array Oper)(d:Nat->Dt)(s0:St)(K:Nat)(D:Nat->Bool):St :=
 ⟨aZ all d s0.ρ K D,⟨aP d (bu s0.H (aB d K)).get K D,s0.H.C+aB d K⟩⟩
def kC {all:Array Oper}(h:all[j]?=some o):eJ all j=o.dst:=by simp[eJ,h]
def uj {all:Array Oper}(S:T7 all bs K)(hg:∀i,i<K->TL P G all bs s0 d i)(hi:i<K)(ho:all[i]?=some o)(hDi:D i=false)
  (hdown:∀j,j<i->(cJ bs i).testBit j=true->D j=true) (hup:∀j,i<j->j<K->D j=true->(cJ bs j).testBit i=false):
  ExecOk P G all o (s0.H.C+aB d i) (dp all d s0 K D) (dp all d s0 K (bD D i)):=by
 have hget:∀j,j<K->∃oj,all[j]?=some oj:=fun j hj=>⟨_,P6 (P5 hj S.le)⟩
 have hgi:=hg i hi;have tgtE:∀j r,j<K->cI (d j)=some r->r∈(d j).f.nk/\(((d j).al=true/\r=s0.H.C+aB d j)\/((d j).al=false/\r∈(d j).f.rs)):=by
  intro j r hj ht;unfold cI at ht;cases he:(d j).e with
  |none=>rw[he]at ht;cases ht
  |some kb =>
   obtain⟨k,b⟩:=kb;rw[he]at ht;simp only[Option.map_some,Option.some.injEq]at ht;subst ht;obtain⟨h1,h2⟩:=(hg j hj).nk k b he;refine⟨h1,?_⟩;cases hal:(d j).al with
   |true =>
    obtain⟨b',hb'⟩:=(hg j hj).al hal;rw[he]at hb';simp only[Option.some.injEq,Prod.mk.injEq]at hb';exact .inl ⟨rfl,hb'.1⟩
   |false=>exact .inr ⟨rfl,h2 hal⟩
 have rangeK:∀r,r<s0.H.C+aB d i->((bu s0.H (aB d K)).get r=s0.H.get r\/∃j,j<i/\(fun _:Nat=>true) j=true/\cI (d j)=some r):=by
  intro r hr;by_cases h:s0.H.C<=r
  ·obtain⟨j,h1,h2,h3⟩:=oD (d:=d) (n:=i) (c:=r-s0.H.C) U;obtain⟨b,hb⟩:=(hg j U).al h2;refine .inr ⟨j,h1,rfl,?_⟩;unfold cI;rw[hb,h3];simp only[Option.map_some,Option.some.injEq];omega
  ·left;simp only[bu];rw[PX U]
 have henv:∀t,t∈o.looksAt all->aZ all d s0.ρ K D t=(canon all d s0 i).ρ t:=by
  intro t ht;show _=aZ all d s0.ρ i (fun _=>true) t;rw[<- uc (all:=all) (d:=d) (ρ0:=s0.ρ) (m:=i) (n:=K) U];refine lk fun j hj hdj=>?_;obtain⟨oj,hoj⟩:=hget j hj;rw[kC hoj]at hdj;rcases RS j i with h|rfl|h
  ·cases hb:(cJ bs i).testBit j with
   |true=>rw[hdown j h hb];simp[h]
   |false=>exact absurd ht ((mS (S.apart i j o oj hi h ho hoj hb)).1 t hdj)
  ·rw[hDi];simp
  ·cases hD:D j with
   |false=>symm;simp;omega
   |true=>exact absurd ht ((mS (S.apart j i oj o hj h hoj ho (hup j h hj hD))).2.1 t hdj)
 have hheap:∀r,r∈(d i).f.rs->aP d (bu s0.H (aB d K)).get K D r=(canon all d s0 i).H.get r:=by
  intro r hr;show _=aP d s0.H.get i (fun _=>true) r;rw[<- oC (g0:=(bu s0.H (aB d K)).get) (rangeK r (hgi.lt r hr)),<- ud (m:=i) (n:=K) U];refine ll fun j hj ht=>?_;obtain⟨he,_⟩:=tgtE j r hj ht;rcases RS j i with h|rfl|h
  ·cases hb:(cJ bs i).testBit j with
   |true=>rw[hdown j h hb];simp[h]
   |false=>exact absurd hr ((hgi.apart j h hb).2 r he)
  ·rw[hDi];simp
  ·cases hD:D j with
   |false=>symm;simp;omega
   |true=>exact absurd hr (((hg j hj).apart i h (hup j h hj hD)).1 r he)
 have hal:(d i).al=true->aP d (bu s0.H (aB d K)).get K D (s0.H.C+aB d i)=some .ni/\s0.H.C+aB d i≠s0.H.C+aB d K:=by
  intro hal;have hlt:=iX hi hal;refine⟨?_,U⟩;obtain⟨b,hb⟩:=hgi.al hal;have heff:=(hgi.nk _ _ hb).1;rw[ue]
  ·simp only[bu];rw[PZ U]
  ·intro j hj hD ht;obtain⟨h1,h2⟩:=tgtE j _ hj ht;rcases RS j i with h|rfl|h
   ·rcases h2 with ⟨h2,h3⟩|⟨h2,h3⟩
    ·have:=iX h h2;omega
    ·have:=(hg j hj).lt _ h3;have:=mC (d:=d) (SV h);omega
   ·rw[hDi]at hD;cases hD
   ·rcases h2 with ⟨h2,h3⟩|⟨h2,h3⟩
    ·have:=iX h hal;omega
    ·exact absurd h3 (((hg j hj).apart i h (hup j h hj hD)).2 _ heff)
 have:=hgi.step o ho (aZ all d s0.ρ K D) ⟨aP d (bu s0.H (aB d K)).get K D,s0.H.C+aB d K⟩ henv hheap hal (by have:=mC (d:=d) (SV hi);simp only;omega);have e1:aZ all d s0.ρ K (bD D i)=aD (aZ all d s0.ρ K D) o.dst (d i).v:=by
  rw[uf hDi hi,kC ho];intro j h hj hD t hti;obtain⟨oj,hoj⟩:=hget j hj;rw[kC ho]at hti;rw[kC hoj];exact(mS (S.apart j i oj o hj h hoj ho (hup j h hj hD))).2.2 t hti
 have e2:aP d (bu s0.H (aB d K)).get K (bD D i)=cZ (d i).e (aP d (bu s0.H (aB d K)).get K D):=by
  refine ug hDi hi fun j h hj hD r hti htj=>?_;obtain⟨a1,a2⟩:=tgtE i r hi hti;obtain⟨b1,b2⟩:=tgtE j r hj htj;obtain⟨c1,c2⟩:=(hg j hj).apart i h (hup j h hj hD);rcases b2 with ⟨b2,b3⟩|⟨b2,b3⟩
  ·rcases a2 with ⟨a2,a3⟩|⟨a2,a3⟩
   ·have:=iX h a2;omega
   ·exact c1 r b1 a3
  ·exact c2 r a1 b3
 unfold dp;rw[e1,e2];exact this
def oH {all:Array Oper}(hg:∀i,i<K->TL P G all bs s0 d i)(hD:∀j,j<K->D j=true):dp all d s0 K D=canon all d s0 K:=by
 unfold dp canon jD;have e1:aZ all d s0.ρ K D=aZ all d s0.ρ K fun _=>true:=funext fun t=>lk fun j hj _=>hD j hj;have e2:aP d (bu s0.H (aB d K)).get K D=aP d s0.H.get K fun _=>true:=by
  funext r
  rw[ll (D':=fun _=>true) fun j hj _=>hD j hj];refine oC ?_;by_cases h:s0.H.C<=r/\r<s0.H.C+aB d K
  ·obtain⟨j,h1,h2,h3⟩:=oD (d:=d) (n:=K) (c:=r-s0.H.C) U;obtain⟨b,hb⟩:=(hg j h1).al h2;refine .inr ⟨j,h1,rfl,?_⟩;unfold cI;rw[hb,h3];simp only[Option.map_some,Option.some.injEq];omega
  ·left;simp only[bu];rw[PX h]
 rw[e1,e2]
def uk {all:Array Oper}(hD:∀j,j<K->D j=false):dp all d s0 K D=⟨s0.ρ,bu s0.H (aB d K)⟩:=by
 unfold dp;have e1:∀n,n<=K->aZ all d s0.ρ n D=s0.ρ:=by
  intro n
  induction n with
  |zero=>intro _;rfl
  |succ n ih=>intro h;simp only[aZ];rw[PX (by simp[hD n h])];exact ih (U)
 have e2:∀n,n<=K->aP d (bu s0.H (aB d K)).get n D=(bu s0.H (aB d K)).get:=by
  intro n
  induction n with
  |zero=>intro _;rfl
  |succ n ih=>intro h;simp only[aP];rw[PX (by simp[hD n h])];exact ih (U)
 rw[e1 K Tx,e2 K Tx];rfl
end Go.Hx
namespace Go.Hx
variable {P:Program} {G:Nat->Option (List Ty)} {Γ Γ':ar} {H H':Tz} {w w':World}
variable {listed:Array Bool}{i n:Nat}
def dI (listed:Array Bool):Nat->Nat
 |0=>0
 |n+1=>dI listed n+(if listed.getD n true=false then 1 else 0)
def uS (hi:listed.getD i true=false):∀n,dI (listed.setIfInBounds i true) n+(if i<n then 1 else 0)=dI listed n:=by
 have hsz:i<listed.size:=by
  rcases Ql i listed.size with h|h
  ·exact h
  ·rw[QB,Q1 h]at hi;cases hi
 intro n
 induction n with
 |zero=>simp[dI]
 |succ n ih =>
  simp only[dI];by_cases hin:n=i
  ·subst hin;have:(listed.setIfInBounds n true).getD n true=true:=(by simp[hsz]);have h2:(if n<n then 1 else 0)=0:=PX (Se n);have h3:(if n<n+1 then 1 else 0)=1:=PZ (Rq n);rw[h2]at ih;rw[this,h3,hi];simp;omega
  ·rw[getD_set_ne true (Ne.symm hin)];have h4:(if i<n+1 then 1 else 0)=(if i<n then 1 else 0):=by
    by_cases h:i<n
    ·rw[PZ h,PZ (show i<n+1 by omega)]
    ·rw[PX h,PX (show ¬i<n+1 by omega)]
   rw[h4];generalize (if i<n then 1 else 0)=x at ih ⊢;omega
def q8 (h:dI listed n=0):∀j,j<n->listed.getD j true=true:=by
 induction n with
 |zero=>intro j hj;omega
 |succ n ih =>
  simp only[dI]at h;intro j hj;by_cases hjn:j=n
  ·subst hjn;cases hl:listed.getD j true with
   |true=>rfl
   |false=>rw[hl]at h;simp at h
  ·exact ih U j (U)
def ze :∀m,m<=n->dI (Array.replicate n false) m=m:=by
 intro m
 induction m with
 |zero=>intro _;rfl
 |succ m ih =>
  intro h;simp only[dI];rw[ih U,PZ];rw[QB,Sb,PZ U];rfl
def lD (h:i<listed.size)(x y:Bool):listed.getD i x=listed.getD i y:=by
 simp[QB,P6 h]
section
variable {n:Nat} {wb:T2} {rd rb:Option Nat} {Q:AX->St->Prop} {all:Array Oper} {bs:List Nat} {K:Nat} {id:Nat} {dr:Bool}
def q9 (S:T7 all bs K)(hfit:∀o,o∈all.toList->ep n o=true):∀(r m:Nat) (listed:Array Bool) (s:St) (Γ:ar) (a:Act) (w:World),r+m=all.size->K<=m->listed.size=all.size->dI listed all.size=r ->
  (∀j,j<all.size->(listed.getD j true=true↔j<m))->opsV P G rd Q all (all.toList.drop m) s->TS P G n wb Γ s a w->cU Γ s.H rd rb ->
  ∀(Q':Exit->Act->World->Prop),(∀e a' w',fo P G n wb rd rb (wr (.region id all dr)) Γ s.H a w Q e a' w'->Q' e a' w')->wpAnyIn (cX rb) 0 P .any all Q' r listed a w:=by
 intro r
 induction r with
 |zero =>
  intro m listed s Γ a w hm hKm hsz hc hl h hs hr Q' hq;have:all.toList.drop m=[]:=SB (by simp;omega);rw[this]at h;refine⟨?_,hq _ _ _ (.here (x:=.normal) trivial h hs hr)⟩;rw[List.eq_nil_iff_forall_not_mem];intro j hj;obtain⟨h1,o,ho,_⟩:=mem_ready.1 hj;have hjs:=(QE.1 ho).1;rw[(hl j hjs).2 U]at h1;cases h1
 |succ r ih =>
  intro m listed s Γ a w hm hKm hsz hc hl h hs hr Q' hq;have hms:m<all.size:=U
  have ho:all[m]?=some all[m]:=P6 hms;have hmun:listed.getD m true=false:=by
   cases hx:listed.getD m true with
   |false=>rfl
   |true=>have:=(hl m hms).1 hx;omega
  have hready:m∈Region.ready .any all listed:=by
   refine mem_ready.2 ⟨hmun,_,ho,fun e he hb=>?_⟩;have:=S.down m _ ho e he hb;rw[lD U false true];exact(hl e.on U).2 this
  refine⟨fun h0=>(by rw[h0]at hready;cases hready),fun i hi=>?_⟩;obtain⟨hiun,oi,hoi,hall⟩:=mem_ready.1 hi;have his:=(QE.1 hoi).1;have him:m<=i:=by
   rcases Ql i m with h|h
   ·rw[(hl i his).2 h]at hiun;cases hiun
   ·exact h
  have hL:q7 all fun j=>listed.getD j false:=by
   intro k ok hk hok e he hb;have hks:=(QE.1 hok).1;have h1:=S.down k ok hok e he hb;simp only at hk ⊢;rw[lD U false true]at hk ⊢;have:=(hl k hks).1 hk;exact(hl _ U).2 (U)
  have hieq:i=m:=by
   rcases Ql m i with h|h
   ·have h1:=S.ahead hL i oi m hoi hall (by rw[PX U];exact h);rw[lD U false true,hmun]at h1;cases h1
   ·omega
  subst hieq;have hlist:all.toList.drop i=all[i] :: all.toList.drop (i+1):=by
   rw[Qw (by simpa using hms)];simp
  rw[hlist]at h;simp only[opsV]at h;have hl':∀j,j<all.size->((listed.setIfInBounds i true).getD j true=true↔j<i+1):=by
   intro j hj;by_cases hji:j=i
   ·subst hji;simp
   ·rw[getD_set_ne true (Ne.symm hji),hl j hj];omega
  have hc':dI (listed.setIfInBounds i true) all.size=r:=by
   have:=uS hmun all.size;rw[PZ hms]at this;omega
  have hd:=hfit all[i] Tu;obtain⟨t,ht,h⟩:=h;unfold wpOpIn;rw[ho];simp only;rw[mF hs ht];cases t with
  |true =>
   simp only[if_true]at h ⊢;refine yA hd hs hr h ?_ ?_
   ·rintro Γ' s' a' w' hk hs' E hn hr' ⟨cv,rfl⟩;exact ih (i+1) _ s' Γ' _ w' U U (by simpa using hsz) hc' hl' hk hs' hr' Q' fun e a'' w'' hp=>hq _ _ _ (hp.step E hn (mG hms cv) fun _ h=>h)
   ·rintro Γ' s' a' w' chain hp hc hs' E hn hr' rfl;exact hq _ _ _ ⟨.panic,s',Γ',hc,hp,hs',E,hn,hr',.refl _ _⟩
  |false =>
   simp only[Bool.false_eq_true,if_false]at h ⊢;refine⟨fun _ _=>trivial,?_⟩;have hdst:∀d,all[i].dst=some d->d<n:=by
    intro d hd';unfold ep at hd;rw[hd']at hd;simpa using hd
   have hs':=iB (v:=.lit undef) (cv:=undef) hs hdst (TJ.refl Γ s.H w) Tx hs.heap (.lit _);exact ih (i+1) _ ⟨aD s.ρ all[i].dst (.lit undef),s.H⟩ Γ _ w U U (by simpa using hsz) hc' hl' h hs' hr Q' fun e a'' w'' hp=>hq _ _ _ (hp.step (TJ.refl _ _ _) Tx (mG hms _) fun _ h=>h)
def um (S:T7 all bs K)(hfit:∀o,o∈all.toList->ep n o=true){d:Nat->Dt}{s0:St}(hg:∀i,i<K->TL P G all bs s0 d i)(htail:opsV P G rd Q all (all.toList.drop K) (canon all d s0 K)):
  ∀(r:Nat) (listed:Array Bool) (D:Nat->Bool) (Γ:ar) (a:Act) (w:World),listed.size=all.size->dI listed all.size=r->(∀j,j<all.size->listed.getD j true=D j)->(∀j,D j=true->j<K)->q7 all D ->
  TS P G n wb Γ (dp all d s0 K D) a w->cU Γ (dp all d s0 K D).H rd rb ->
  ∀(Q':Exit->Act->World->Prop),(∀e a' w',fo P G n wb rd rb (wr (.region id all dr)) Γ (dp all d s0 K D).H a w Q e a' w'->Q' e a' w')->wpAnyIn (cX rb) 0 P .any all Q' r listed a w:=by
 intro r
 induction r with
 |zero =>
  intro listed D Γ a w hsz hc hl hlow hL hs hr Q' hq;have hall:∀j,j<K->D j=true:=fun j hj=>by rw[<- hl j (P5 hj S.le)];exact q8 hc j (P5 hj S.le)
  have hKs:K=all.size:=by
   rcases Ql K all.size with h|h
   ·have h1:=q8 hc K h;rw[hl K h]at h1;have:=hlow K h1;omega
   ·have:=S.le;omega
  rw[oH hg hall]at hs hr hq;exact q9 S hfit 0 K listed _ Γ a w U Tx hsz hc (fun j hj=>by rw[hl j hj];exact⟨hlow j,hall j⟩) htail hs hr Q' hq
 |succ r ih =>
  intro listed D Γ a w hsz hc hl hlow hL hs hr Q' hq;by_cases hall:∀j,j<K->D j=true
  ·rw[oH hg hall]at hs hr hq;have hcount:∀m,m<=all.size->dI listed m=m-K:=by
    intro m
    induction m with
    |zero=>intro _;simp[dI]
    |succ m ihm =>
     intro hm;simp only[dI];rw[ihm U,hl m U];by_cases hmK:m<K
     ·rw[hall m hmK];simp;omega
     ·have:D m=false:=by
       cases hD:D m with
       |false=>rfl
       |true=>exact absurd (hlow m hD) hmK
      rw[this];simp;omega
   have h1:=hcount all.size Tx;exact q9 S hfit (r+1) K listed _ Γ a w (by have:=S.le;omega) Tx hsz hc (fun j hj=>by rw[hl j hj];exact⟨hlow j,hall j⟩) htail hs hr Q' hq
  ·have hex:∃j,j<K/\D j=false:=by
    by_cases h:∃j,j<K/\D j=false
    ·exact h
    ·refine absurd (fun j hj=>?_) hall;cases hD:D j with
     |true=>rfl
     |false=>exact absurd ⟨j,hj,hD⟩ h
   have least:∀k,(∃j,j<k/\j<K/\D j=false)->∃j,j<K/\D j=false/\∀i,i<j->D i=true:=by
    intro k
    induction k with
    |zero=>rintro⟨j,hj,_⟩;omega
    |succ k ihk =>
     rintro⟨j,h1,h2,h3⟩;by_cases h:∃j,j<k/\j<K/\D j=false
     ·exact ihk h
     ·refine⟨j,h2,h3,fun i hi=>?_⟩;cases hD:D i with
      |true=>rfl
      |false=>exact absurd ⟨i,U,U,hD⟩ h
   obtain⟨j0,hj0K,hj0,hbelow⟩:=least K (let ⟨j,h1,h2⟩:=hex;⟨j,h1,h1,h2⟩);have hj0s:j0<all.size:=P5 hj0K S.le;have hr0:j0∈Region.ready .any all listed:=by
    refine mem_ready.2 ⟨by rw[hl j0 hj0s];exact hj0,_,P6 hj0s,fun e he hb=>?_⟩;have hlt:=S.down j0 _ (P6 hj0s) e he hb;rw[lD U false true,hl e.on U];exact hbelow _ hlt
   refine⟨fun h0=>(by rw[h0]at hr0;cases hr0),fun i hi=>?_⟩;obtain⟨hiun,oi,hoi,hdir⟩:=mem_ready.1 hi;have his:=(QE.1 hoi).1;have hdirD:∀e,e∈oi.after->Region.binds .any e=true->D e.on=true:=fun e he hb=>by
    have:=S.down i oi hoi e he hb;rw[<- hl e.on U,<- lD U false true];exact hdir e he hb
   have hahead:=S.ahead hL i oi;have hiK:i<K:=by
    rcases Ql i K with h|h
    ·exact h
    ·have:=hahead j0 hoi hdirD (by rw[PX U];omega);rw[hj0]at this;cases this
   have hDi:D i=false:=(by rw[<- hl i his];exact hiun);have hex:=uj (P:=P) (G:=G) S hg hiK hoi hDi (fun j hj hb=>hahead j hoi hdirD (by rw[PZ hiK];exact hb)) (fun j h1 h2 hD=>by
    cases hb:(cJ bs j).testBit i with
    |false=>rfl
    |true =>
     have hjs:j<all.size:=P5 h2 S.le;have:=S.ahead hL j _ i (P6 hjs) (fun e he hbe=>hL j _ hD (P6 hjs) e he hbe) (by rw[PZ h2];exact hb);rw[hDi]at this;cases this)
   have hoi':oi=all[i]:=by
    rw[P6 his]at hoi;exact(Option.some.inj hoi).symm
   refine ui hoi (hfit oi (by rw[hoi'];simp)) hs hr hex ?_;rintro Γ' a' w' hs' E hn hr' ⟨cv,rfl⟩;have hc':dI (listed.setIfInBounds i true) all.size=r:=by
    have:=uS hiun all.size;rw[PZ his]at this;omega
   refine ih (listed.setIfInBounds i true) (bD D i) Γ' _ w' (by simpa using hsz) hc' ?_ ?_ ?_ hs' hr' Q' fun e a'' w'' hp=>hq _ _ _ (hp.step E hn (by rw[hoi'];exact mG his cv) fun _ h=>h)
   ·intro j hj;by_cases hji:j=i
    ·subst hji;simp[bD]
    ·rw[getD_set_ne true (Ne.symm hji),hl j hj];simp[bD,hji]
   ·intro j hj;by_cases hji:j=i
    ·subst hji;exact hiK
    ·simp only[bD,PX hji]at hj;exact hlow j hj
   ·intro k ok hk hok e he hb;by_cases hki:k=i
    ·subst hki;rw[hoi]at hok;cases hok;have:=hdirD e he hb;simp only[bD];split
     ·rfl
     ·exact this
    ·simp only[bD,PX hki]at hk;have:=hL k ok hk hok e he hb;simp only[bD];split
     ·rfl
     ·exact this
def W.draw {s:St}(K:Nat)(bs:List Nat)(hm:P.follows .mixedOrders=true)(hfit:all.toList.all (ep n)=true)(hst:mK all bs K=true)
  (h:cD P G all (opsV P G rd Q all (all.toList.drop K)) bs 0 [] (all.toList.take K) s):W P G n rd (.region id all true) Q s:=by
 intro wb Γ a w rb hs hr;have S:=zb hst;have hfit':∀o,o∈all.toList->ep n o=true:=fun o ho=>Qt.1 hfit o ho;have wf:ew s.H:=fun id b hb=>hs.heap.C id b hb;have hcan0:canon all (fun _=>⟨.lit undef,none,false,⟨[],[]⟩⟩) s 0=s:=rfl;obtain⟨d,hg,htail⟩:=trace (P:=P) (G:=G) (all:=all) (bs:=bs) (s0:=s) (tail:=opsV P G rd Q all (all.toList.drop K)) S.len S.le K 0 (fun _=>⟨.lit undef,none,false,⟨[],[]⟩⟩) [] (U)
  (fun i hi=>U) (fun j hj=>U) (by rw[hcan0];exact wf) (by rw[hcan0];exact h)
 refine wpIn_region_any hm ?_
 let w1:World:={ w with drawn:=w.drawn+1 }
 have R1:TG P G Γ s.H w1:=hs.heap.move rfl (mT w) Tx (fun id b hb=>.inl hb) fun id b hb=>hb;have hs1:TS P G n wb Γ s a w1:=hs.move (mT w) Tx R1;have hs2:TS P G n wb Γ ⟨s.ρ,bu s.H (aB d K)⟩ a w1:=hs1.move (oU _ _) (by simp[bu]) (zd R1 _);have hr2:cU Γ (bu s.H (aB d K)) rd rb:=hr.move fun id b hb=>by
  simp only[bu];rw[PX]
  ·exact hb
  ·have:=hs.heap.C id b hb;omega
 have e0:dp all d s K (fun _=>false)=⟨s.ρ,bu s.H (aB d K)⟩:=uk fun _ _=>rfl;refine um (wb:=wb) (id:=id) (dr:=true) S hfit' hg htail all.size _ (fun _=>false) Γ a w1 Tu (ze _ Tx) ?_ ?_ ?_ ?_ ?_ _ ?_
 ·intro j hj;rw[QB,Sb,PZ hj];rfl
 ·intro j hj;cases hj
 ·intro i o hi;cases hi
 ·rw[e0];exact hs2
 ·rw[e0];exact hr2
 ·rw[e0];intro e a' w' hp;refine hp.step ?_ (by simp[bu]) (.refl _ _) fun _ h=>h;exact TJ.trans (mT w) Tx (oU _ _)
end
end Go.Hx
namespace Go.Hx
variable {P:Program} {G:Nat->Option (List Ty)}
variable {α β:Type}
def lC (a:α)(K:α->Prop):ba (some a) K=K a:=by simp[ba]
def qZ (K:α->Prop):ba none K=False:=by simp[ba]
def uN (o:Option α)(f:α->Option β)(K:β->Prop):ba (o.bind f) K=ba o fun a=>ba (f a) K:=by
 cases o<;>simp[ba]
def fq (o:Option α)(f:α->β)(K:β->Prop):ba (o.map f) K=ba o fun a=>K (f a):=by
 cases o<;>simp[ba]
def yK (c:Prop)[Decidable c](a:Option α)(K:α->Prop):ba (if c then a else none) K=(c/\ba a K):=by
 by_cases h:c<;>simp[h,ba]
def q6 {o:Option α}{K K':α->Prop}(h:∀a,K a=K' a):ba o K=ba o K':=by
 have:K=K':=funext h;subst this;rfl
def Ex (p q:Prop):fI true p q=p:=by simp[fI]
def Ey (p q:Prop):fI false p q=q:=by simp[fI]
def fI.mk {t:Bool}{p q:Prop}(h1:t=true->p)(h2:t=false->q):fI t p q:=⟨h1,h2⟩
def Ez {f:FuncId}{args args':List Ty}{H H':Tz}{K:TF->Tz->Prop}(h2:args=args')(h3:H=H'):af P G f args H K=af P G f args' H' K:=by
 rw[h2,h3]
theorem EA {n:Nat}{rd:Option Nat}{c:Code}{Q:AX->St->Prop}{s s':St}(h:s=s'):W P G n rd c Q s=W P G n rd c Q s':=by rw[h]
attribute [congr] Ez EA
def EB (K:St->Prop)(Q:AX->St->Prop)(s:St):gv K Q .normal s=K s:=(rfl)
def EC (K:St->Prop)(Q:AX->St->Prop)(i:Nat)(s:St):gv K Q (.exit i) s=Q (.exit i) s:=(rfl)
def ED (K:St->Prop)(Q:AX->St->Prop)(i:Nat)(s:St):gv K Q (.goto i) s=Q (.goto i) s:=(rfl)
def EF (K:St->Prop)(Q:AX->St->Prop)(s:St):gv K Q .ret s=Q .ret s:=(rfl)
def EG (K:St->Prop)(Q:AX->St->Prop)(s:St):gv K Q .panic s=Q .panic s:=(rfl)
def EI (i:Nat)(Q:AX->St->Prop)(s:St):jG i Q .normal s=Q .normal s:=(rfl)
def EJ (i j:Nat)(Q:AX->St->Prop)(s:St):jG i Q (.exit j) s=if j=i then Q .normal s else Q (.exit j) s:=(rfl)
def EK (i j:Nat)(Q:AX->St->Prop)(s:St):jG i Q (.goto j) s=Q (.goto j) s:=(rfl)
def EL (i:Nat)(Q:AX->St->Prop)(s:St):jG i Q .ret s=Q .ret s:=(rfl)
def EM (i:Nat)(Q:AX->St->Prop)(s:St):jG i Q .panic s=Q .panic s:=(rfl)
def noGoto_normal (Q:AX->St->Prop)(s:St):noGoto Q .normal s=Q .normal s:=(rfl)
def noGoto_exit (i:Nat)(Q:AX->St->Prop)(s:St):noGoto Q (.exit i) s=Q (.exit i) s:=(rfl)
def noGoto_ret (Q:AX->St->Prop)(s:St):noGoto Q .ret s=Q .ret s:=(rfl)
def noGoto_panic (Q:AX->St->Prop)(s:St):noGoto Q .panic s=Q .panic s:=(rfl)
section code
variable {n:Nat} {rd:Option Nat} {Q:AX->St->Prop} {s:St}
def EN:vc P G n rd .skip Q s=Q .normal s:=(rfl)
def EO (l:Nat):vc P G n rd (.label l) Q s=Q .normal s:=(rfl)
def ER (id:Nat)(ops:Array Oper):vc P G n rd (.region id ops false) Q s=opsV P G rd Q ops ops.toList s:=(rfl)
def ES (id:Nat)(ops:Array Oper):vc P G n rd (.region id ops true) Q s=W P G n rd (.region id ops true) Q s:=(rfl)
def ET (a b:Code):vc P G n rd (.seq a b) Q s=vc P G n rd a (gv (vc P G n rd b Q) Q) s:=(rfl)
def EU (id:Nat)(c:Code):vc P G n rd (.block id c) Q s=vc P G n rd c (jG id Q) s:=(rfl)
def EV (c:Code):vc P G n rd (.loop c) Q s=W P G n rd (.loop c) Q s:=(rfl)
def EW (f:Operand)(ps:Array Tmp)(asg c:Code):vc P G n rd (.rangeFunc f ps asg c) Q s=W P G n rd (.rangeFunc f ps asg c) Q s:=(rfl)
def EX (i:Nat):vc P G n rd (.exit i) Q s=Q (.exit i) s:=(rfl)
def EY (c:Code):vc P G n rd (.scope c) Q s=vc P G n rd c (noGoto Q) s:=(rfl)
def EZ (i:Nat):vc P G n rd (.goto i) Q s=Q (.goto i) s:=(rfl)
def Fa:vc P G n rd .ret Q s=Q .ret s:=(rfl)
def yL:Ty->Option Bool
 |.lit (.bool t)=>some t
 |_=>none
def Fb (t:Bool):yL (.lit (.bool t))=some t:=rfl
def Fc (c:Operand)(a b:Code):vc P G n rd (.cond c a b) Q s=ba (yL (aj G s.ρ c)) fun t=>fI t (vc P G n rd a Q s) (vc P G n rd b Q s):=by
 simp only[vc];congr 1
end code
def Fe (ρ:Env)(t:Tmp):aj G ρ (.tmp t)=ρ t:=rfl
def Ff (ρ:Env)(v:Value):aj G ρ (.const v)=.lit v:=rfl
def Fg (ρ:Env)(f:FuncId):aj G ρ (.func f)=.nl f [] []:=rfl
def Fh (ρ:Env)(d:Tmp)(v:Ty)(t:Tmp):aD ρ (some d) v t=if t=d then v else ρ t:=rfl
def Fi (ρ:Env)(v:Ty):aD ρ none v=ρ:=rfl
def Fj (ws:Nat)(ρ ρ₀:Env)(t:Nat):mask ws ρ ρ₀ t=if ws / 2 ^ t % 2=1 then ρ t else ρ₀ t:=rfl
def iv:Ty->Int
 |.lit (.int _ n)=>n
 |_=>0
def aK (k:IntKind)(n:Int):iv (.lit (.int k n))=n:=rfl
def uO (l:List Ty)(t:Nat):eX l t=(l[t]?).getD (.lit undef):=rfl
def Fk (rs:List ResultVar)(H:Tz)(K:TF->Tz->Prop)(s:St):lz P G rs H K .ret s=ba (dH P s.H s.ρ rs) fun vs=>aw P G H K (fY vs) s.H:=(rfl)
def Fl (rs:List ResultVar)(H:Tz)(K:TF->Tz->Prop)(s:St):lz P G rs H K .normal s=ba (dH P s.H s.ρ rs) fun vs=>aw P G H K (fY vs) s.H:=(rfl)
def Fm (H:Tz)(ρ:Env):dH P H ρ []=some []:=rfl
def Fo (H:Tz)(ρ:Env)(t:Tmp)(r:List ResultVar):dH P H ρ (.tmp t :: r)=(dH P H ρ r).map (ρ t :: ·):=rfl
def Fp (H:Tz)(ρ:Env)(a:Tmp)(t:TypeId)(r:List ResultVar):dH P H ρ (.cell a t :: r)=(ei P H t (ρ a)).bind fun v=>(dH P H ρ r).map (v :: ·):=rfl
def Fq (v:Ty):fY [v]=v:=rfl
def Fs (v u:Ty)(r:List Ty):fY (v :: u :: r)=.nf (v :: u :: r):=rfl
def Ft:fY []=.nf []:=rfl
section ops
variable {rd:Option Nat} {Q:AX->St->Prop} {K:St->Prop} {s:St} {d:Option Tmp} {ty:TypeId} {pos:String} {aft:Array Edge} {g:Option (Nat × Bool)}
def Fu (all:Array Oper):opsV P G rd Q all [] s=Q .normal s:=(rfl)
def Fv (all:Array Oper)(op:Op)(rest:List Oper):opsV P G rd Q all (⟨d,op,ty,pos,aft,none⟩ :: rest) s=aN P G rd Q ⟨d,op,ty,pos,aft,none⟩ (opsV P G rd Q all rest) s:=by
 simp[opsV,dG,lC]
def Fw (all:Array Oper)(op:Op)(rest:List Oper)(j:Nat)(want:Bool):opsV P G rd Q all (⟨d,op,ty,pos,aft,some (j,want)⟩ :: rest) s =
  ba (dG all s.ρ ⟨d,op,ty,pos,aft,some (j,want)⟩) fun t=>if t=true then aN P G rd Q ⟨d,op,ty,pos,aft,some (j,want)⟩ (opsV P G rd Q all rest) s else opsV P G rd Q all rest ⟨aD s.ρ d (.lit undef),s.H⟩:=(rfl)
def Fx (P:Program)(G:Nat->Option (List Ty))(fv:Ty)(args:List Ty)(H:Tz)(K:TF->Tz->Prop)(_d:TagR K:=.mk):Prop:=aE P G fv args H K
def Fy (fv:Operand)(args:Array Operand)(ats:Array TypeId):aN P G rd Q ⟨d,.call ⟨.value fv,args,ats⟩,ty,pos,aft,g⟩ K s =
  Fx P G (aj G s.ρ fv) (args.toList.map (aj G s.ρ)) s.H fun r H'=>dT H' rd/\match r with
   |.ret v=>K ⟨aD s.ρ d v,H'⟩
   |.panic=>Q .panic ⟨s.ρ,H'⟩:=(rfl)
def FA (x:Operand):aN P G rd Q ⟨d,.panic x,ty,pos,aft,g⟩ K s=((∃t v,(aj G s.ρ x)=.lit (.iface t v))/\Q .panic s):=(rfl)
def FB (x:Operand):aN P G rd Q ⟨d,.move x,ty,pos,aft,g⟩ K s=K ⟨aD s.ρ d (aj G s.ρ x),s.H⟩:=by simp[aN,ah,lC]
def FC (x:Operand):aN P G rd Q ⟨d,.assign x,ty,pos,aft,g⟩ K s=K ⟨aD s.ρ d (aj G s.ρ x),s.H⟩:=by simp[aN,ah,lC]
def FD (c a b:Operand):aN P G rd Q ⟨d,.pick c a b,ty,pos,aft,g⟩ K s=ba (match aj G s.ρ c with|.lit (.bool t)=>some t|_=>none) fun t=>K ⟨aD s.ρ d (if t then aj G s.ρ a else aj G s.ρ b),s.H⟩:=by
 simp only[aN,ah];split<;>simp_all[lC,qZ]
def FE (e:TypeId):aN P G rd Q ⟨d,.alloc e,ty,pos,aft,g⟩ K s=ba (bC P e) fun z=>ba (s.H.lay s.H.C (.L 0 e z)) fun H'=>K ⟨aD s.ρ d (.Y s.H.C 0 0),H'⟩:=by
 simp only[aN,ah,uN];exact q6 fun _=>fq ..
def FF (e:TypeId)(x:Operand):aN P G rd Q ⟨d,.box e x,ty,pos,aft,g⟩ K s=ba (s.H.lay s.H.C (.L 0 e (aj G s.ρ x).cells)) fun H'=>K ⟨aD s.ρ d (.Y s.H.C 0 0),H'⟩:=by
 simp[aN,ah,fq]
def FG (t:TypeId)(parts:Array (Nat × Operand)):aN P G rd Q ⟨d,.build t parts,ty,pos,aft,g⟩ K s=ba (my P t (parts.toList.map fun p=>(p.1,aj G s.ρ p.2))) fun v=>K ⟨aD s.ρ d v,s.H⟩:=by
 simp[aN,ah,fq]
def FH (t:TypeId)(len:Nat)(parts:Array (Nat × Operand)):aN P G rd Q ⟨d,.buildSlice t len parts,ty,pos,aft,g⟩ K s =
  ba (ix P s.H s.H.C t len (parts.toList.map fun p=>(p.1,aj G s.ρ p.2))) fun vH=>K ⟨aD s.ρ d vH.1,vH.2⟩:=by
 simp[aN,ah]
def FI (t:TypeId)(a:Operand):aN P G rd Q ⟨d,.load t a,ty,pos,aft,g⟩ K s=ba (ei P s.H t (aj G s.ρ a)) fun v=>K ⟨aD s.ρ d v,s.H⟩:=by
 simp[aN,ah,fq]
def FJ (t:TypeId)(a x:Operand):aN P G rd Q ⟨d,.store t a x,ty,pos,aft,g⟩ K s=((P.underlying t).isSome=true/\ba (fU P s.H t (aj G s.ρ a) (aj G s.ρ x)) fun H'=>K ⟨aD s.ρ d (.lit undef),H'⟩):=by
 simp[aN,ah,yK,fq]
def FK (x:Operand):aN P G rd Q ⟨d,.nilCheck x,ty,pos,aft,g⟩ K s=ba (iz s.H (aj G s.ρ x)) fun v=>K ⟨aD s.ρ d v,s.H⟩:=by
 simp[aN,ah,fq]
def FL (op:BinOp)(t:TypeId)(x y:Operand)(u:TypeId):aN P G rd Q ⟨d,.binOp op t x y u,ty,pos,aft,g⟩ K s =
  oO P op t (gy s.H op (aj G s.ρ x) (aj G s.ρ y)) (fun v=>K ⟨aD s.ρ d v,s.H⟩) (ba (bg P op t x y (aj G s.ρ x) (aj G s.ρ y)) fun v=>K ⟨aD s.ρ d v,s.H⟩):=by
 simp[aN,ah,fq]
def FM (op:BinOp)(t:TypeId)(Kb:Ty->Prop)(p:Prop):oO P op t none Kb p=p:=rfl
def FN (op:BinOp)(t:TypeId)(k:Bool)(Kb:Ty->Prop)(p:Prop):oO P op t (some k) Kb p=(jI (P.underlying t)=true/\∀b:Bool,(k=true->b=false)->Kb (.lit (.bool (if op == .neq then !b else b)))):=rfl
def FO (e:TypeId):jI (some (.slice e))=true:=rfl
def FQ (H:Tz)(op:BinOp)(v:Value)(y:Ty):gy H op (.lit v) y=none:=by
 unfold gy;split<;>rfl
def FR (H:Tz)(n:Nat)(cells:List Ty):gy H .eql (.M n cells) (.lit (.slice none 0 0))=some (decide (0<n)):=rfl
def FS (H:Tz)(n:Nat)(cells:List Ty):gy H .neq (.M n cells) (.lit (.slice none 0 0))=some (decide (0<n)):=rfl
def FT:(BinOp.eql == BinOp.neq)=false:=rfl
def FU:(BinOp.neq == BinOp.neq)=true:=rfl
def FV (op:UnOp)(t:TypeId)(x:Operand):aN P G rd Q ⟨d,.unOp op t x,ty,pos,aft,g⟩ K s=ba (oz P op (aj G s.ρ x)) fun v=>K ⟨aD s.ρ d v,s.H⟩:=by
 simp[aN,ah,fq]
def FW (a b:TypeId)(x:Operand):aN P G rd Q ⟨d,.convert a b x,ty,pos,aft,g⟩ K s=ba (iy P s.H a b (aj G s.ρ x)) fun v=>K ⟨aD s.ρ d v,s.H⟩:=by
 simp[aN,ah,fq]
def FX (f:FuncId)(first cap:Array Operand):aN P G rd Q ⟨d,.makeFunc (.func f) first cap,ty,pos,aft,g⟩ K s=K ⟨aD s.ρ d (.nl f (first.toList.map (aj G s.ρ)) (cap.toList.map (aj G s.ρ))),s.H⟩:=by
 simp[aN,ah,lC]
def FY (t:TypeId)(l c:Operand):aN P G rd Q ⟨d,.makeSlice t l c,ty,pos,aft,g⟩ K s=ba (gY P s.H s.H.C t (aj G s.ρ l) (aj G s.ρ c)) fun vH=>K ⟨aD s.ρ d vH.1,vH.2⟩:=by
 simp[aN,ah]
def FZ (t:TypeId)(x:Operand)(lo hi:Option Operand):aN P G rd Q ⟨d,.slice t x lo hi none,ty,pos,aft,g⟩ K s =
  ba (jy P s.H t (aj G s.ρ x) (lo.map (aj G s.ρ)) (hi.map (aj G s.ρ))) fun v=>K ⟨aD s.ρ d v,s.H⟩:=by
 simp[aN,ah,fq]
def mQ (P:Program)(H:Tz)(s:TypeId)(f:Nat)(x:Ty):Option Ty :=
 (bz P s f).bind fun of=>match x with
  |.Y id gen off=>(H.Z id gen).map fun _=>.Y id gen (off+of.1)
  |.nc cells off=>some (.nc cells (off+of.1))
  |_=>none
def F1 (t:TypeId)(x:Operand)(f:Nat):aN P G rd Q ⟨d,.fieldAddr t x f,ty,pos,aft,g⟩ K s=ba (mQ P s.H t f (aj G s.ρ x)) fun v=>K ⟨aD s.ρ d v,s.H⟩:=by
 simp only[aN,ah,mQ,uN];refine q6 fun of=>?_;split<;>simp_all[qZ,fq,lC]
def yM (P:Program)(t:TypeId)(f:Nat)(x:Ty):Option Ty :=
 (bz P t f).bind fun of=>match x with
  |.agg cells=>dQ P of.2 cells of.1
  |.lit (.agg cs)=>dQ P of.2 (cs.toList.map .lit) of.1
  |_=>none
def mR (P:Program)(H:Tz)(t:TypeId)(x i:Ty):Option Ty:=match i with
 |.lit (.int _ i)=>kq P H t x i
 |_=>none
def F2 (t:TypeId)(x i:Operand):aN P G rd Q ⟨d,.indexAddr t x i,ty,pos,aft,g⟩ K s=ba (mR P s.H t (aj G s.ρ x) (aj G s.ρ i)) fun v=>K ⟨aD s.ρ d v,s.H⟩:=by
 simp only[aN,ah,mR];split<;>simp_all[qZ,fq]
def F3 (t:TypeId)(x i:Operand):aN P G rd Q ⟨d,.index t x i,ty,pos,aft,g⟩ K s=ba (oA P t (aj G s.ρ x) (aj G s.ρ i)) fun v=>K ⟨aD s.ρ d v,s.H⟩:=by
 simp[aN,ah,fq]
def F4 (t:Operand)(i:Nat):aN P G rd Q ⟨d,.extract t i,ty,pos,aft,g⟩ K s=ba (jC (aj G s.ρ t) i) fun v=>K ⟨aD s.ρ d v,s.H⟩:=by
 simp[aN,ah,fq]
def F5 (b:Builtin)(args:Array Operand)(ats:Array TypeId):aN P G rd Q ⟨d,.call ⟨.builtin b,args,ats⟩,ty,pos,aft,g⟩ K s =
  ba (eV P s.H s.H.C b ats.toList (args.toList.map (aj G s.ρ))) fun vH=>K ⟨aD s.ρ d vH.1,vH.2⟩:=by
 simp[aN,ah]
end ops
def builtin_len (H:Tz)(id:Nat)(t:TypeId)(x:Ty):eV P H id .len [t] [x]=(jz P H t x).map fun v=>(v,H):=rfl
def builtin_append (H:Tz)(id:Nat)(t u:TypeId)(s x:Ty):eV P H id .append [t,u] [s,x]=bd P H id t u s x:=rfl
def builtin_copy (H:Tz)(id:Nat)(t u:TypeId)(s x:Ty):eV P H id .copy [t,u] [s,x]=iT P H t s x:=rfl
def builtin_min (H:Tz)(id:Nat)(ts:List TypeId)(k:IntKind)(a b:Int):eV P H id .min ts [.lit (.int k a),.lit (.int k b)]=some (.lit (.int k (if b<a then b else a)),H):=by
 cases ts with
 |nil=>rfl
 |cons t ts=>rfl
def builtin_max (H:Tz)(id:Nat)(ts:List TypeId)(k:IntKind)(a b:Int):eV P H id .max ts [.lit (.int k a),.lit (.int k b)]=some (.lit (.int k (if b > a then b else a)),H):=by
 cases ts with
 |nil=>rfl
 |cons t ts=>rfl
section nums
variable {t:TypeId} {x y:Operand} {k:IntKind} {a b:Int}
def yQ:bg P .add t x y (.lit (.int k a)) (.lit (.int k b))=some (.lit (.int k (k.wrap (a+b)))):=by
 simp[bg,Ty.bS,eqGuard,binOp,Op.intArith,b9,bind,Sem.bind,pure]
def yR:bg P .sub t x y (.lit (.int k a)) (.lit (.int k b))=some (.lit (.int k (k.wrap (a-b)))):=by
 simp[bg,Ty.bS,eqGuard,binOp,Op.intArith,b9,bind,Sem.bind,pure]
def yS:bg P .mul t x y (.lit (.int k a)) (.lit (.int k b))=some (.lit (.int k (k.wrap (a*b)))):=by
 simp[bg,Ty.bS,eqGuard,binOp,Op.intArith,b9,bind,Sem.bind,pure]
def F6:bg P .quo t x y (.lit (.int k a)) (.lit (.int k b))=if b≠0 then some (.lit (.int k (k.wrap (a.tdiv b)))) else none:=by
 by_cases h:b=0<;>simp[h,bg,Ty.bS,eqGuard,binOp,Op.intDiv,runtimePanic,program,goPanic,b9,bind,Sem.bind,pure]
def F7:bg P .rem t x y (.lit (.int k a)) (.lit (.int k b))=if b≠0 then some (.lit (.int k (a.tmod b))) else none:=by
 by_cases h:b=0<;>simp[h,bg,Ty.bS,eqGuard,binOp,Op.intDiv,runtimePanic,program,goPanic,b9,bind,Sem.bind,pure]
def yT:bg P .lss t x y (.lit (.int k a)) (.lit (.int k b))=some (.lit (.bool (decide (a<b)))):=by
 simp[bg,Ty.bS,eqGuard,binOp,Op.intCmp,b9,bind,Sem.bind,pure]
def yU:bg P .leq t x y (.lit (.int k a)) (.lit (.int k b))=some (.lit (.bool (decide (a<=b)))):=by
 simp[bg,Ty.bS,eqGuard,binOp,Op.intCmp,b9,bind,Sem.bind,pure]
def yV:bg P .gtr t x y (.lit (.int k a)) (.lit (.int k b))=some (.lit (.bool (decide (b<a)))):=by
 simp[bg,Ty.bS,eqGuard,binOp,Op.intCmp,b9,bind,Sem.bind,pure]
def yW:bg P .geq t x y (.lit (.int k a)) (.lit (.int k b))=some (.lit (.bool (decide (b<=a)))):=by
 simp[bg,Ty.bS,eqGuard,binOp,Op.intCmp,b9,bind,Sem.bind,pure]
def yX:bg P .eql t x y (.lit (.int k a)) (.lit (.int k b))=some (.lit (.bool (decide (a=b)))):=by
 simp[bg,Ty.bS,eqGuard,binOp,Op.intCmp,b9,bind,Sem.bind,pure];rfl
def yY:bg P .neq t x y (.lit (.int k a)) (.lit (.int k b))=some (.lit (.bool (!decide (a=b)))):=by
 simp[bg,Ty.bS,eqGuard,binOp,Op.intCmp,b9,bind,Sem.bind,pure];rfl
def F8 (v:Bool):oz P .not (.lit (.bool v))=some (.lit (.bool (!v))):=rfl
def F9 (H:Tz)(s d:TypeId)(v:Value):iy P H s d (.lit v)=iV P s d (.lit v):=rfl
def Ga (H:Tz)(s d:TypeId)(c:List Ty):iy P H s d (.agg c)=iV P s d (.agg c):=rfl
def Gb {s d:TypeId}{k':IntKind}(hs:(P.underlying s).isSome=true)(hd:P.underlying d=some (.int k')):iV P s d (.lit (.int k a))=some (.lit (.int k' (k'.wrap a))):=by
 obtain⟨ds,hs⟩:=Qy.1 hs;simp only[iV,Ty.bS];have:b9 P (convert s d (.int k a))=some (.int k' (k'.wrap a)):=by
  simp[convert,underlying,program,hs,hd,b9,bind,Sem.bind,pure,Conv.intToInt]
 rw[this];rfl
end nums
def ext (H:Tz)(L:List TE):Tz :=
 { get:=fun j=>if H.C<=j/\j<H.C+L.length then L[j-H.C]? else H.get j,C:=H.C+L.length }
def ext_nil (H:Tz):ext H []=H:=by
 unfold ext;have:(fun j=>if H.C<=j/\j<H.C+([]:List TE).length then ([]:List TE)[j-H.C]? else H.get j)=H.get:=by
  funext j
  rw[PX];simp only[List.length_nil];omega
 rw[this];rfl
def bh (H:Tz)(L:List TE):(ext H L).C=H.C+L.length:=rfl
def uP (H:Tz)(b:TE):H.lay H.C b=some (ext H [b]):=by
 unfold Tz.lay ext;rw[PZ rfl];congr 2
 funext j
 by_cases h:j=H.C
 ·subst h;simp
 ·rw[PX h,PX];simp only[List.length_cons,List.length_nil];omega
def yZ (H:Tz)(L:List TE)(b:TE):(ext H L).lay (H.C+L.length) b=some (ext H (L++[b])):=by
 unfold Tz.lay;rw[PZ (bh H L).symm];unfold ext;congr 2
 ·funext j
  simp only[List.length_append,List.length_cons,List.length_nil];by_cases h:j=H.C+L.length
  ·subst h;rw[PZ rfl,PZ U,Sf];simp
  ·rw[PX h];by_cases h2:H.C<=j/\j<H.C+L.length
   ·rw[PZ h2,PZ U,P3 U]
   ·rw[PX h2,PX U]
 ·simp only[List.length_append,List.length_cons,List.length_nil];omega
def y7 (H:Tz)(L:List TE)(i:Nat)(b:TE)(h:L.length=i):(ext H L).lay (H.C+i) b=some (ext H (L++[b])):=by subst h;exact yZ H L b
def dV (H:Tz)(L:List TE)(i:Nat)(h:i<L.length):(ext H L).get (H.C+i)=L[i]?:=by
 unfold ext;simp only;rw[PZ U,Sf]
def eC (H:Tz)(L:List TE)(i:Nat)(h:i<H.C):(ext H L).get i=H.get i:=by
 unfold ext;simp only;rw[PX U]
def uQ (H:Tz)(L:List TE)(i:Nat)(b:TE)(h:i<L.length):(ext H L).upd (H.C+i) b=ext H (L.set i b):=by
 unfold ext Tz.upd;simp only[P2];congr 1
 funext j
 by_cases hj:j=H.C+i
 ·subst hj;rw[PZ rfl,PZ U,Sf,Qa h]
 ·rw[PX hj];by_cases h2:H.C<=j/\j<H.C+L.length
  ·rw[PZ h2,PZ h2,Qh U]
  ·rw[PX h2,PX h2]
def oT (b:Option TE)(gen:Nat):Option (TypeId × List Ty) :=
 match b with
 |some (.L g e cells)=>if g=gen then some (e,cells) else none
 |_=>none
def Gc (g gen:Nat)(e:TypeId)(cells:List Ty):oT (some (.L g e cells)) gen=if g=gen then some (e,cells) else none:=rfl
def uR (H:Tz)(L:List TE)(i gen:Nat)(h:i<L.length):(ext H L).Z (H.C+i) gen=oT L[i]? gen:=by
 unfold Tz.Z oT;rw[dV H L i h];rfl
def Gd (H:Tz)(b:TE)(L:List TE)(gen:Nat):(ext H (b :: L)).Z H.C gen=oT (some b) gen:=uR H (b :: L) 0 gen (Tu)
def Ge (H:Tz)(c:TE)(L:List TE)(b:TE):(ext H (c :: L)).upd H.C b=ext H (b :: L):=uQ H (c :: L) 0 b (Tu)
def gE {H R:Tz}{L:List TE}(h:R=ext H L)(i:Nat){b:TE}(hb:L[i]? = some b):R.get (H.C + i)=some b := by
  rw[h,dV H L i (by
    rcases Ql i L.length with g |g
    · exact g
    · rw[P7 g] at hb;cases hb)]
  exact hb
def dA {H R:Tz}{b:TE}{L:List TE}(h:R=ext H (b :: L)):R.get H.C=some b := gE h 0 rfl
end Go.Hx
namespace Go.Hx
variable {P:Program} {G:Nat->Option (List Ty)}
def oV (want:Bool):Option Ty->Option Bool
 |some (.lit (.bool b))=>some (b == want)
 |some (.lit _)=>some false
 |none=>some false
 |_=>none
def Gf (want b:Bool):oV want (some (.lit (.bool b)))=some (b == want):=rfl
def Gg (b:Bool):(b == true)=b:=by cases b<;>rfl
def Gh (b:Bool):(b == false)=!b:=by cases b<;>rfl
def Gi (b:Bool)(p q:Prop):fI (!b) p q=fI b q p:=by cases b<;>simp[fI]
def zf (t:Bool)(p q:Prop):(if t=true then p else q)=fI t p q:=by cases t<;>simp[fI]
def zg (all:Array Oper)(ρ:Env)(d:Option Tmp)(op:Op)(ty:TypeId)(pos:String)(aft:Array Edge)(j:Nat)(want:Bool):
  dG all ρ ⟨d,op,ty,pos,aft,some (j,want)⟩=oV want (((all[j]?).bind (·.dst)).map ρ):=by
 unfold dG;simp only;cases (all[j]?).bind (·.dst) with
 |none=>rfl
 |some d =>
  simp only[Option.map_some];cases ρ d with
  |lit v=>cases v<;>rfl
  |_=>rfl
section
variable {rd:Option Nat} {Q:AX->St->Prop} {s:St} {d:Option Tmp} {ty:TypeId} {pos:String} {aft:Array Edge} {g:Option (Nat × Bool)}
def Gj (all:Array Oper)(op:Op)(rest:List Oper)(j:Nat)(want:Bool):opsV P G rd Q all (⟨d,op,ty,pos,aft,some (j,want)⟩ :: rest) s =
  ba (oV want (((all[j]?).bind (·.dst)).map s.ρ)) fun t=>fI t (aN P G rd Q ⟨d,op,ty,pos,aft,some (j,want)⟩ (opsV P G rd Q all rest) s) (opsV P G rd Q all rest ⟨aD s.ρ d (.lit undef),s.H⟩):=by
 rw[Fw,zg];exact q6 fun _=>zf ..
variable {all:Array Oper} {tail:St->Prop} {b i:Nat} {bs:List Nat} {acc:List (Nat × FP)} {K:FP->St->Prop}
def Gk (bs:List Nat):cD P G all tail bs i acc [] s=tail s:=by cases bs<;>rfl
def Gl (op:Op)(rest:List Oper):cD P G all tail (b :: bs) i acc (⟨d,op,ty,pos,aft,none⟩ :: rest) s =
  bA P G ⟨d,op,ty,pos,aft,none⟩ (fun f s'=>eY b f acc/\cD P G all tail bs (i+1) (dU i f acc) rest s') s:=by
 simp[cD,dG,ba]
def Gm (op:Op)(rest:List Oper)(j:Nat)(want:Bool):cD P G all tail (b :: bs) i acc (⟨d,op,ty,pos,aft,some (j,want)⟩ :: rest) s =
  ba (oV want (((all[j]?).bind (·.dst)).map s.ρ)) fun t =>
   fI t (bA P G ⟨d,op,ty,pos,aft,some (j,want)⟩ (fun f s'=>eY b f acc/\cD P G all tail bs (i+1) (dU i f acc) rest s') s)
    (cD P G all tail bs (i+1) acc rest ⟨aD s.ρ d (.lit undef),s.H⟩):=by
 simp only[cD,zg];exact q6 fun _=>zf ..
def Gn (fv:Operand)(args:Array Operand)(ats:Array TypeId):bA P G ⟨d,.call ⟨.value fv,args,ats⟩,ty,pos,aft,g⟩ K s =
  ∃v rs,cF P G (aj G s.ρ fv) (args.toList.map (aj G s.ρ)) s.H v rs/\K ⟨[],rs⟩ ⟨aD s.ρ d v,s.H⟩:=(rfl)
abbrev QF:AX->St->Prop:=fun _ _=>False
def Gp (x:Operand):bA P G ⟨d,.move x,ty,pos,aft,g⟩ K s=aN P G none QF ⟨d,.move x,ty,pos,aft,g⟩ (K ⟨[],[]⟩) s:=(rfl)
def Gq (x:Operand):bA P G ⟨d,.assign x,ty,pos,aft,g⟩ K s=aN P G none QF ⟨d,.assign x,ty,pos,aft,g⟩ (K ⟨[],[]⟩) s:=(rfl)
def Gr (c x y:Operand):bA P G ⟨d,.pick c x y,ty,pos,aft,g⟩ K s=aN P G none QF ⟨d,.pick c x y,ty,pos,aft,g⟩ (K ⟨[],[]⟩) s:=(rfl)
def Gs (e:TypeId):bA P G ⟨d,.alloc e,ty,pos,aft,g⟩ K s=aN P G none QF ⟨d,.alloc e,ty,pos,aft,g⟩ (K ⟨[s.H.C],[]⟩) s:=(rfl)
def Gt (e:TypeId)(x:Operand):bA P G ⟨d,.box e x,ty,pos,aft,g⟩ K s=aN P G none QF ⟨d,.box e x,ty,pos,aft,g⟩ (K ⟨[s.H.C],[]⟩) s:=(rfl)
def Gu (t:TypeId)(p:Array (Nat × Operand)):bA P G ⟨d,.build t p,ty,pos,aft,g⟩ K s=aN P G none QF ⟨d,.build t p,ty,pos,aft,g⟩ (K ⟨[],[]⟩) s:=(rfl)
def Gv (t:TypeId)(l:Nat)(p:Array (Nat × Operand)):bA P G ⟨d,.buildSlice t l p,ty,pos,aft,g⟩ K s=aN P G none QF ⟨d,.buildSlice t l p,ty,pos,aft,g⟩ (K ⟨[s.H.C],[]⟩) s:=(rfl)
def Gw (t:TypeId)(x:Operand):bA P G ⟨d,.load t x,ty,pos,aft,g⟩ K s=aN P G none QF ⟨d,.load t x,ty,pos,aft,g⟩ (K ⟨[],aF (aj G s.ρ x)⟩) s:=(rfl)
def Gx (t:TypeId)(x y:Operand):bA P G ⟨d,.store t x y,ty,pos,aft,g⟩ K s=aN P G none QF ⟨d,.store t x y,ty,pos,aft,g⟩ (K ⟨aF (aj G s.ρ x),aF (aj G s.ρ x)⟩) s:=(rfl)
def Gy (x:Operand):bA P G ⟨d,.nilCheck x,ty,pos,aft,g⟩ K s=aN P G none QF ⟨d,.nilCheck x,ty,pos,aft,g⟩ (K ⟨[],aF (aj G s.ρ x)⟩) s:=(rfl)
def Gz (op:BinOp)(t:TypeId)(x y:Operand)(u:TypeId):bA P G ⟨d,.binOp op t x y u,ty,pos,aft,g⟩ K s=ba (bg P op t x y (aj G s.ρ x) (aj G s.ρ y)) fun v=>K ⟨[],[]⟩ ⟨aD s.ρ d v,s.H⟩:=by
 simp only[bA,ah,fq];rfl
def GA (op:UnOp)(t:TypeId)(x:Operand):bA P G ⟨d,.unOp op t x,ty,pos,aft,g⟩ K s=aN P G none QF ⟨d,.unOp op t x,ty,pos,aft,g⟩ (K ⟨[],[]⟩) s:=(rfl)
def GB (t u:TypeId)(x:Operand):bA P G ⟨d,.convert t u x,ty,pos,aft,g⟩ K s=aN P G none QF ⟨d,.convert t u x,ty,pos,aft,g⟩ (K ⟨[],aF (aj G s.ρ x)⟩) s:=(rfl)
def GC (t:TypeId)(x:Operand):bA P G ⟨d,.makeInterface t x,ty,pos,aft,g⟩ K s=aN P G none QF ⟨d,.makeInterface t x,ty,pos,aft,g⟩ (K ⟨[],[]⟩) s:=(rfl)
def GE (f:Fn)(x y:Array Operand):bA P G ⟨d,.makeFunc f x y,ty,pos,aft,g⟩ K s=aN P G none QF ⟨d,.makeFunc f x y,ty,pos,aft,g⟩ (K ⟨[],[]⟩) s:=(rfl)
def GF (t:TypeId)(x y:Operand):bA P G ⟨d,.makeSlice t x y,ty,pos,aft,g⟩ K s=aN P G none QF ⟨d,.makeSlice t x y,ty,pos,aft,g⟩ (K ⟨[s.H.C],[]⟩) s:=(rfl)
def GG (t:TypeId)(x:Operand)(lo hi mx:Option Operand):bA P G ⟨d,.slice t x lo hi mx,ty,pos,aft,g⟩ K s=aN P G none QF ⟨d,.slice t x lo hi mx,ty,pos,aft,g⟩ (K ⟨[],aF (aj G s.ρ x)⟩) s:=(rfl)
def GH (t:TypeId)(x:Operand)(f:Nat):bA P G ⟨d,.fieldAddr t x f,ty,pos,aft,g⟩ K s=aN P G none QF ⟨d,.fieldAddr t x f,ty,pos,aft,g⟩ (K ⟨[],aF (aj G s.ρ x)⟩) s:=(rfl)
def GI (t:TypeId)(x:Operand)(f:Nat):bA P G ⟨d,.field t x f,ty,pos,aft,g⟩ K s=aN P G none QF ⟨d,.field t x f,ty,pos,aft,g⟩ (K ⟨[],[]⟩) s:=(rfl)
def GJ (t:TypeId)(x y:Operand):bA P G ⟨d,.indexAddr t x y,ty,pos,aft,g⟩ K s=aN P G none QF ⟨d,.indexAddr t x y,ty,pos,aft,g⟩ (K ⟨[],aF (aj G s.ρ x)⟩) s:=(rfl)
def GK (t:TypeId)(x y:Operand):bA P G ⟨d,.index t x y,ty,pos,aft,g⟩ K s=aN P G none QF ⟨d,.index t x y,ty,pos,aft,g⟩ (K ⟨[],[]⟩) s:=(rfl)
def GL (x:Operand)(f:Nat):bA P G ⟨d,.extract x f,ty,pos,aft,g⟩ K s=aN P G none QF ⟨d,.extract x f,ty,pos,aft,g⟩ (K ⟨[],[]⟩) s:=(rfl)
def GM (f:Builtin)(args:Array Operand)(ats:Array TypeId):bA P G ⟨d,.call ⟨.builtin f,args,ats⟩,ty,pos,aft,g⟩ K s =
  aN P G none QF ⟨d,.call ⟨.builtin f,args,ats⟩,ty,pos,aft,g⟩ (K (gC P s.H.C f ats.toList (args.toList.map (aj G s.ρ)))) s:=rfl
end
def GN (v:Value):aF (.lit v)=[]:=rfl
def GO (n:Nat)(l:List Ty):aF (.M n l)=[]:=rfl
def GP (l:List Ty)(o:Nat):aF (.nc l o)=[]:=rfl
def GQ (l:List Ty):aF (.agg l)=[]:=rfl
def GR (id g o l z:Nat):aF (.V id g o l z)=[id]:=rfl
def GS (id g o:Nat):aF (.Y id g o)=[id]:=rfl
def GT (id g o l z:Nat):iY (.V id g o l z)=true:=rfl
def GU (v:Value):iY (.lit v)=false:=rfl
def GV (n:Nat)(l:List Ty):iY (.M n l)=false:=rfl
def GW (id:Nat)(t:TypeId)(x:Ty):gC P id .len [t] [x]=⟨[],iC P t x⟩:=rfl
def GX (id:Nat)(ts:List TypeId)(x y:Ty):gC P id .append ts [x,y]=if iY x=true then ⟨aF x,aF x++aF y⟩ else ⟨[id],aF y⟩:=by
 cases ts with
 |nil=>rfl
 |cons t ts=>cases ts<;>rfl
def GY (t:TypeId)(x:Ty)(h:aF x=[]):iC P t x=[]:=by unfold iC;split<;>first|exact h|rfl
def GZ (t:TypeId)(n:Nat)(l:List Ty):iC P t (.M n l)=[]:=GY _ _ rfl
def kD (f f':FP):Prop:=(∀r,r∈f.nk->r ∉ f'.rs)/\(∀r,r∈f'.nk->r ∉ f.rs)
def G1 (b:Nat)(f:FP):eY b f []=True:=by simp[eY]
def G2 (b:Nat)(f:FP)(j:Nat)(f':FP)(acc:List (Nat × FP)):eY b f ((j,f') :: acc)=((b / 2 ^ j % 2=1\/kD f f')/\eY b f acc):=by
 simp only[eY,List.forall_mem_cons,Nat.testBit_eq_decide_div_mod_eq,RG,eq_iff_iff];refine and_congr ⟨fun h=>?_,fun h hb=>?_⟩ Iff.rfl
 ·by_cases hb:b / 2 ^ j % 2=1
  ·exact .inl hb
  ·exact .inr (h hb)
 ·rcases h with h|h
  ·exact absurd h hb
  ·exact h
def G3 (b:Nat)(acc:List (Nat × FP)):eY b ⟨[],[]⟩ acc=True:=by
 simp[eY]
def G4 (e r e' r':List Nat):kD ⟨e,r⟩ ⟨e',r'⟩=((∀x,x∈e->x ∉ r')/\∀x,x∈e'->x ∉ r):=rfl
def G5 (i:Nat)(acc:List (Nat × FP)):dU i ⟨[],[]⟩ acc=acc:=rfl
def G6 (i x:Nat)(e r:List Nat)(acc:List (Nat × FP)):dU i ⟨x :: e,r⟩ acc=(i,⟨x :: e,r⟩) :: acc:=rfl
def G7 (i x:Nat)(e r:List Nat)(acc:List (Nat × FP)):dU i ⟨e,x :: r⟩ acc=(i,⟨e,x :: r⟩) :: acc:=by cases e<;>rfl
def cF.mk {f:FuncId}{first cap args:List Ty}{H:Tz}{v:Ty}{rs:List Nat}(hlt:∀r,r∈rs->r<H.C)
  (h:∀H2:Tz,(∀r,r∈rs->H2.get r=H.get r)->H.C<=H2.C->af P G f (first++args++cap) H2 fun r H3=>r=.ret v/\H3=H2):cF P G (.nl f first cap) args H v rs :=
 ⟨hlt,fun H2 h1 h2=>aE.nl (h H2 h1 h2)⟩
def cF.pure {f:FuncId}{args:List Ty}{H:Tz}{v:Ty}(h:∀H2:Tz,af P G f args H2 fun r H3=>r=.ret v/\H3=H2):cF P G (.nl f [] []) args H v [] :=
 cF.mk (fun _ h=>by cases h) fun H2 _ _=>by simpa using h H2
def af.pure {f:FuncId}{args:List Ty}{H:Tz}{v:Ty}{K:TF->Tz->Prop}(h:∀H2:Tz,af P G f args H2 fun r H3=>r=.ret v/\H3=H2)(hk:K (.ret v) H):af P G f args H K :=
 (h H).mono fun r H3 ⟨h1,h2⟩=>by rw[h1,h2];exact hk
def W.dr {n:Nat}{id:Nat}{all:Array Oper}{rd:Option Nat}{Q:AX -> St -> Prop}{s:St}(K:Nat)(bs:List Nat)(hm:P.follows .mixedOrders=true)(h:cD P G all (opsV P G rd Q all (all.toList.drop K)) bs 0 [] (all.toList.take K) s)(hfit:all.toList.all (ep n)=true := by kernel_rfl)(hst:mK all bs K=true := by kernel_rfl):W P G n rd (.region id all true) Q s := W.draw K bs hm hfit hst h
def af.st {H : Tz} {f : FuncId} {fn : Func} {c : Code} {args : List Ty} {K : TF → Tz → Prop} {rs : List ResultVar} {n : Nat} (hf : P.funcs[f]? = some fn) (h : vc P G n none c (lz P G rs H K) ⟨eX args, H⟩) (hb : fn.body = some c := by exact rfl) (hres : fn.results.toList = rs := by exact rfl) (hnt : fn.ntmps = n := by exact rfl) (hname : (fn.name == "runtime.NumGoroutine") = false := by decide) (hfit : fits n c = true := by kernel_rfl) (hargs : args.length ≤ n := by simp) : af P G f args H K := .Eb hf hb hres hnt hname hfit hargs h
def af.sw {H : Tz} {f : FuncId} {fn : Func} {c : Code} {args : List Ty} {K : TF → Tz → Prop} {rs : List ResultVar} {n : Nat} (hf : P.funcs[f]? = some fn) (h : W P G n none c (lz P G rs H K) ⟨eX args, H⟩) (hb : fn.body = some c := by exact rfl) (hres : fn.results.toList = rs := by exact rfl) (hnt : fn.ntmps = n := by exact rfl) (hname : (fn.name == "runtime.NumGoroutine") = false := by decide) (hargs : args.length ≤ n := by simp) : af P G f args H K := .uF hf hb hres hnt hname hargs h
end Go.Hx
namespace Go.Hx
variable {P:Program} {G:Nat->Option (List Ty)} {H:Tz}
def dK (H:Tz)(x:Ty):Option Ty :=
 match x with
  |.M len _=>some (.lit (.int .i64 len))
  |.V id gen _ len _=>(H.Z id gen).map fun _=>.lit (.int .i64 len)
  |.lit (.slice none 0 0)=>some (.lit (.int .i64 0))
  |_=>none
def uY (x:Ty):Option Ty :=
 match x with
  |.lit (.string s)=>some (.lit (.int .i64 s.size))
  |_=>none
def o9 (d:Option TypeDesc)(H:Tz)(x:Ty):Option Ty :=
 match d with
 |some (.slice _)=>dK H x
 |some .string=>uY x
 |some (.array n _)=>some (.lit (.int .i64 n))
 |_=>none
def Hv (t:TypeId)(x:Ty):jz P H t x=o9 (P.underlying t) H x:=rfl
def mV (e:TypeId)(x:Ty):o9 (some (.slice e)) H x=dK H x:=rfl
def HA (x:Ty):o9 (some .string) H x=uY x:=rfl
def HB (n:Nat)(e:TypeId)(x:Ty):o9 (some (.array n e)) H x=some (.lit (.int .i64 n)):=rfl
def HC (n:Nat)(l:List Ty):dK H (.M n l)=some (.lit (.int .i64 n)):=rfl
def zl (id g o n z:Nat):dK H (.V id g o n z)=(H.Z id g).map fun _=>.lit (.int .i64 n):=rfl
def HD:dK H (.lit (.slice none 0 0))=some (.lit (.int .i64 0)):=rfl
def HE (s:ByteArray):uY (.lit (.string s))=some (.lit (.int .i64 s.size)):=rfl
def jK (d:Option TypeDesc)(n:Nat)(cells:List Ty)(off:Nat):Option Ty :=
 match d with
 |none=>none
 |some d=>if mm d then (if off+n<=cells.length then some (.agg ((cells.drop off).take n)) else none) else cells[off]?
def HF (t:TypeId)(cells:List Ty)(off:Nat):dQ P t cells off=jK (P.underlying t) (P.cellsOf t) cells off:=rfl
def HG (k:IntKind)(n:Nat)(cells:List Ty)(off:Nat):jK (some (.int k)) n cells off=cells[off]?:=rfl
def HH (n:Nat)(cells:List Ty)(off:Nat):jK (some .bool) n cells off=cells[off]?:=rfl
def HI (n:Nat)(cells:List Ty)(off:Nat):jK (some .string) n cells off=cells[off]?:=rfl
def HJ (e:TypeId)(n:Nat)(cells:List Ty)(off:Nat):jK (some (.slice e)) n cells off=cells[off]?:=rfl
def HK (e:TypeId)(n:Nat)(cells:List Ty)(off:Nat):jK (some (.pointer e)) n cells off=cells[off]?:=rfl
def HL (fs:Array Field)(n:Nat)(cells:List Ty)(off:Nat):jK (some (.struct fs)) n cells off=if off+n<=cells.length then some (.agg ((cells.drop off).take n)) else none:=rfl
def HM (k:Nat)(e:TypeId)(n:Nat)(cells:List Ty)(off:Nat):jK (some (.array k e)) n cells off=if off+n<=cells.length then some (.agg ((cells.drop off).take n)) else none:=rfl
def HN (cells vs:List Ty):setAt cells 0 vs=vs++cells.drop vs.length:=by simp[setAt]
def HO (c:Ty)(cells vs:List Ty)(off:Nat):setAt (c :: cells) (off+1) vs=c :: setAt cells off vs:=by simp[setAt,Nat.succ_add]
def HP (t:TypeId)(cells:List Ty)(off:Nat):ei P H t (.nc cells off)=dQ P t cells off:=rfl
def HQ (t:TypeId)(id gen off:Nat):ei P H t (.Y id gen off)=(H.Z id gen).bind fun ec=>dQ P t ec.2 off:=by
 simp only[Tz.Z,ei];generalize H.get id=x;cases x with
 |none=>rfl
 |some b =>
  cases b with
  |L g e cells =>
   simp only;by_cases hg:g=gen
   ·rw[PZ hg,PZ hg];rfl
   ·rw[PX hg,PX hg];rfl
  |_=>rfl
def HR (t:TypeId)(id gen off:Nat)(v:Ty):fU P H t (.Y id gen off) v =
  (H.Z id gen).bind fun ec=>if v.cells.length=P.cellsOf t/\v.cells.all Ty.one=true/\off+v.cells.length<=ec.2.length then some (H.upd id (.L gen ec.1 (setAt ec.2 off v.cells))) else none:=by
 simp only[Tz.Z,fU];generalize H.get id=x;cases x with
 |none=>rfl
 |some b =>
  cases b with
  |L g e cells =>
   simp only;by_cases hg:g=gen
   ·subst hg;simp
   ·rw[PX hg,PX (fun h=>hg h.1)];rfl
  |_=>rfl
def rf (H:Tz)(c:Nat)(x:Ty)(i:Int):Option Ty :=
 match x with
 |.V id gen off len sz=>if 0<=i/\i<(len:Int)/\sz=c then (H.Z id gen).map fun _=>.Y id gen (off+i.toNat*c) else none
 |.M len cells=>if 0<=i/\i<(len:Int)/\cells≠[] then some (.nc cells (i.toNat*c)) else none
 |_=>none
def pa (H:Tz)(c n:Nat)(x:Ty)(i:Int):Option Ty :=
 if 0<=i/\i<(n:Int) then
   match x with
   |.Y id gen off=>(H.Z id gen).map fun _=>.Y id gen (off+i.toNat*c)
   |.nc cells off=>some (.nc cells (off+i.toNat*c))
   |_=>none
 else none
def rj (P:Program)(H:Tz)(d:Option TypeDesc)(x:Ty)(i:Int):Option Ty :=
 match d with
 |some (.array n e)=>if (P.underlying e).isSome then pa H (P.cellsOf e) n x i else none
 |some (.slice e)=>if (P.underlying e).isSome then rf H (P.cellsOf e) x i else none
 |_=>none
def HS (t:TypeId)(x:Ty)(k:IntKind)(i:Int):mR P H t x (.lit (.int k i))=rj P H (P.underlying t) x i:=by
 simp only[mR,kq,rj];cases P.underlying t with
 |none=>rfl
 |some d =>
  cases d with
  |array n e =>
   simp only[pa];by_cases h:(P.underlying e).isSome=true
   ·simp only[h,and_true,if_true];rfl
   ·rw[PX h,PX (fun h'=>h h'.2.2)]
  |slice e=>rfl
  |_=>rfl
def HT (e:TypeId)(x:Ty)(i:Int):rj P H (some (.slice e)) x i=if (P.underlying e).isSome=true then rf H (P.cellsOf e) x i else none:=rfl
def HU (n:Nat)(e:TypeId)(x:Ty)(i:Int):rj P H (some (.array n e)) x i=if (P.underlying e).isSome=true then pa H (P.cellsOf e) n x i else none:=rfl
def HV (c n:Nat)(l:List Ty)(i:Int):rf H c (.M n l) i=if 0<=i/\i<(n:Int)/\l≠[] then some (.nc l (i.toNat*c)) else none:=rfl
def HW (c id g o n z:Nat)(i:Int):rf H c (.V id g o n z) i=if 0<=i/\i<(n:Int)/\z=c then (H.Z id g).map fun _=>.Y id g (o+i.toNat*c) else none:=rfl
def HX (c n:Nat)(l:List Ty)(o:Nat)(i:Int):pa H c n (.nc l o) i=if 0<=i/\i<(n:Int) then some (.nc l (o+i.toNat*c)) else none:=rfl
def HY (c n id g o:Nat)(i:Int):pa H c n (.Y id g o) i=if 0<=i/\i<(n:Int) then (H.Z id g).map fun _=>.Y id g (o+i.toNat*c) else none:=rfl
def pe (H:Tz)(c:Nat)(x:Ty)(lo hi:Option Ty):Option Ty :=
   match x with
   |.V id gen off len sz=>if sz=c then (H.Z id gen).bind fun _=>(bF hi len len).bind fun h=>(bF lo 0 h).map fun l=>.V id gen (off+l*sz) (h-l) sz else none
   |.M len cells=>if cells.length=len*c then (bF hi len len).bind fun h=>(bF lo 0 h).map fun l=>.M (h-l) ((cells.drop (l*c)).take ((h-l)*c)) else none
   |.lit (.slice none 0 0)=>(bF hi 0 0).bind fun h=>(bF lo 0 h).map fun _=>.lit (.slice none 0 0)
   |_=>none
def uZ (H:Tz)(c n:Nat)(x:Ty)(lo hi:Option Ty):Option Ty :=
   match x with
   |.Y id gen off =>
    match H.Z id gen with
    |some (_,cells) =>
     if off+n*c<=cells.length then
      (bF hi n n).bind fun h=>(bF lo 0 h).map fun l=>.V id gen (off+l*c) (h-l) c
     else none
    |none=>none
   | .nc cells off=>if off+n*c≤cells.length then
      (bF hi n n).bind fun h=>(bF lo 0 h).map fun l=>.M (h-l) ((cells.drop (off+l*c)).take ((h-l)*c))
     else none
   |_=>none
def u6 (x:Ty)(lo hi:Option Ty):Option Ty :=
  match x with
  |.lit (.string s)=>(bF hi s.size s.size).bind fun h=>(bF lo 0 h).map fun l=>.lit (.string (s.extract l h))
  |_=>none
def rm (P:Program)(H:Tz)(d:Option TypeDesc)(x:Ty)(lo hi:Option Ty):Option Ty :=
 match d with
 |some (.array n e)=>if (P.underlying e).isSome then uZ H (P.cellsOf e) n x lo hi else none
 |some (.slice e)=>if (P.underlying e).isSome then pe H (P.cellsOf e) x lo hi else none
 |some .string=>u6 x lo hi
 |_=>none
def HZ (t:TypeId)(x:Ty)(lo hi:Option Ty):jy P H t x lo hi=rm P H (P.underlying t) x lo hi:=rfl
def H8 (e:TypeId)(x:Ty)(lo hi:Option Ty):rm P H (some (.slice e)) x lo hi=if (P.underlying e).isSome=true then pe H (P.cellsOf e) x lo hi else none:=rfl
def Ia (n:Nat)(e:TypeId)(x:Ty)(lo hi:Option Ty):rm P H (some (.array n e)) x lo hi=if (P.underlying e).isSome=true then uZ H (P.cellsOf e) n x lo hi else none:=rfl
def Ib (x:Ty)(lo hi:Option Ty):rm P H (some .string) x lo hi=u6 x lo hi:=rfl
def Ic (c id g o n z:Nat)(lo hi:Option Ty):pe H c (.V id g o n z) lo hi=if z=c then (H.Z id g).bind fun _=>(bF hi n n).bind fun h=>(bF lo 0 h).map fun l=>.V id g (o+l*z) (h-l) z else none:=rfl
def Ie (c n:Nat)(cells:List Ty)(lo hi:Option Ty):pe H c (.M n cells) lo hi=if cells.length=n*c then (bF hi n n).bind fun h=>(bF lo 0 h).map fun l=>.M (h-l) ((cells.drop (l*c)).take ((h-l)*c)) else none:=rfl
def If (c:Nat)(lo hi:Option Ty):pe H c (.lit (.slice none 0 0)) lo hi=(bF hi 0 0).bind fun h=>(bF lo 0 h).map fun _=>.lit (.slice none 0 0):=rfl
def Ig (c n:Nat)(cells:List Ty)(off:Nat)(lo hi:Option Ty):uZ H c n (.nc cells off) lo hi=if off+n*c<=cells.length then
      (bF hi n n).bind fun h=>(bF lo 0 h).map fun l=>.M (h-l) ((cells.drop (off+l*c)).take ((h-l)*c)) else none:=rfl
def Ih (s:ByteArray)(lo hi:Option Ty):u6 (.lit (.string s)) lo hi=(bF hi s.size s.size).bind fun h=>(bF lo 0 h).map fun l=>.lit (.string (s.extract l h)):=rfl
def Ii (d m:Nat):bF none d m=some d:=rfl
def Ij (k:IntKind)(i:Int)(d m:Nat):bF (some (.lit (.int k i))) d m=if 0<=i/\i<=(m:Int) then some i.toNat else none:=rfl
def Ik (sz n:Nat)(l:List Ty):bW H sz (.M n l)=if l.length=n*sz then some (n,l) else none:=rfl
def pf (sz id g o n z:Nat):bW H sz (.V id g o n z)=if z=sz then (H.Z id g).map fun x=>(n,(x.2.drop o).take (n*sz)) else none:=rfl
def u7 (sz:Nat):bW H sz (.lit (.slice none 0 0))=some (0,[]):=rfl
def rp (P:Program)(H:Tz)(id:Nat)(d0 d1:Option TypeDesc)(s x:Ty):Option (Ty × Tz) :=
 match d0,d1 with
 | some (.slice e),some (.slice _)=>(bC P e).bind fun _=>(bW H (P.cellsOf e) x).bind fun nx =>
    match s with
    |.lit (.slice none 0 0) =>
     if nx.1=0 then some (s,H)
     else if nx.1*P.bytesOf e<=2 ^ 47/\nx.1<=2 ^ 47 then (H.lay id (.L 0 e nx.2)).map fun H'=>(.V id 0 0 nx.1 (P.cellsOf e),H')
     else none
    |.V id' gen off len sz =>
     (H.Z id' gen).bind fun ec =>
      if ec.1=e/\sz=P.cellsOf e/\off+len*sz=ec.2.length/\(len+nx.1)*P.bytesOf e<=2 ^ 47/\len+nx.1<=2 ^ 47/\nx.2.all Ty.one=true then
       if nx.1=0 then some (s,H)
       else some (.V id' (gen+1) 0 (len+nx.1) sz,H.upd id' (.L (gen+1) e (ec.2.drop off++nx.2)))
      else none
    |_=>none
 |_,_=>none
def db (id:Nat)(t u:TypeId)(s x:Ty):bd P H id t u s x=rp P H id (P.underlying t) (P.underlying u) s x:=by
 unfold bd rp;cases P.underlying t with
 |none=>rfl
 |some d =>
  cases d with
  |slice e =>
   cases P.underlying u with
   |none=>rfl
   |some d'=>cases d'<;>rfl
  |_=>rfl
def Il (id:Nat)(e u:TypeId)(x:Ty):rp P H id (some (.slice e)) (some (.slice u)) (.lit (.slice none 0 0)) x=(bC P e).bind fun _=>(bW H (P.cellsOf e) x).bind fun nx =>
  if nx.1=0 then some (.lit (.slice none 0 0),H) else if nx.1*P.bytesOf e<=2 ^ 47/\nx.1<=2 ^ 47 then (H.lay id (.L 0 e nx.2)).map fun H'=>(.V id 0 0 nx.1 (P.cellsOf e),H') else none:=rfl
def Im (id:Nat)(e u:TypeId)(x:Ty)(id' gen off len sz:Nat):rp P H id (some (.slice e)) (some (.slice u)) (.V id' gen off len sz) x=(bC P e).bind fun _=>(bW H (P.cellsOf e) x).bind fun nx =>
  (H.Z id' gen).bind fun ec =>
      if ec.1=e/\sz=P.cellsOf e/\off+len*sz=ec.2.length/\(len+nx.1)*P.bytesOf e<=2 ^ 47/\len+nx.1<=2 ^ 47/\nx.2.all Ty.one=true then
       if nx.1=0 then some (.V id' gen off len sz,H)
       else some (.V id' (gen+1) 0 (len+nx.1) sz,H.upd id' (.L (gen+1) e (ec.2.drop off++nx.2)))
      else none:=rfl
def zm (P:Program)(H:Tz)(d0:Option TypeDesc)(d x:Ty):Option (Ty × Tz) :=
 match d0 with
 |some (.slice e) =>
  if (P.underlying e).isSome then
   (bW H (P.cellsOf e) x).bind fun nx =>
    match d with
    |.V id gen off len sz =>
     (H.Z id gen).bind fun ec =>
      if sz=P.cellsOf e/\off+len*sz<=ec.2.length/\nx.2.all Ty.one=true then
       some (.lit (.int .i64 (min nx.1 len:Nat)),H.upd id (.L gen ec.1 (setAt ec.2 off (nx.2.take (min nx.1 len*sz)))))
      else none
    |_=>none
  else none
 |_=>none
def Io (t:TypeId)(d x:Ty):iT P H t d x=zm P H (P.underlying t) d x:=rfl
def Ip (e:TypeId)(id gen off len sz:Nat)(x:Ty):zm P H (some (.slice e)) (.V id gen off len sz) x=if (P.underlying e).isSome=true then
   (bW H (P.cellsOf e) x).bind fun nx=>(H.Z id gen).bind fun ec =>
      if sz=P.cellsOf e/\off+len*sz<=ec.2.length/\nx.2.all Ty.one=true then
       some (.lit (.int .i64 (min nx.1 len:Nat)),H.upd id (.L gen ec.1 (setAt ec.2 off (nx.2.take (min nx.1 len*sz)))))
      else none
   else none:=rfl
def u9 (P:Program)(H:Tz)(id:Nat)(d:Option TypeDesc)(l c:Ty):Option (Ty × Tz) :=
 match d,l,c with
 |some (.slice e),.lit (.int _ l),.lit (.int _ c) =>
  if 0<=l/\l<=c/\c*P.bytesOf e<=2 ^ 46/\c<=2 ^ 46 then
   (iq P e l.toNat).bind fun cells=>(H.lay id (.L 0 e cells)).map fun H'=>(.V id 0 0 l.toNat (P.cellsOf e),H')
  else none
 |_,_,_=>none
def Iq (id:Nat)(t:TypeId)(l c:Ty):gY P H id t l c=u9 P H id (P.underlying t) l c:=by
 unfold gY u9;cases P.underlying t with
 |none=>rfl
 |some d=>rfl
def Ir (id:Nat)(e:TypeId)(k k':IntKind)(l c:Int):u9 P H id (some (.slice e)) (.lit (.int k l)) (.lit (.int k' c))=if 0<=l/\l<=c/\c*P.bytesOf e<=2 ^ 46/\c<=2 ^ 46 then
   (iq P e l.toNat).bind fun cells=>(H.lay id (.L 0 e cells)).map fun H'=>(.V id 0 0 l.toNat (P.cellsOf e),H')
  else none:=rfl
def Is (e:TypeId)(n:Nat):iq P e n=(bC P e).map fun z=>(List.replicate n z).flatten:=rfl
def It (n:Nat)(v:Ty):(List.replicate n [v]).flatten=List.replicate n v:=by
 induction n with
 |zero=>rfl
 |succ n ih=>rw[QM,List.flatten_cons,ih,QM];rfl
def zn (P:Program)(H:Tz)(id:Nat)(d:Option TypeDesc)(len:Nat)(parts:List (Nat × Ty)):Option (Ty × Tz) :=
 match d with
 |some (.slice e) =>
  if len*P.cellsOf e<=2 ^ 24 then
   (iq P e len).bind fun z=>(dR (fun i=>some (i*P.cellsOf e,P.cellsOf e)) z parts).bind fun cells =>
    (H.lay id (.L 0 e cells)).map fun H'=>(.V id 0 0 len (P.cellsOf e),H')
  else none
 |_=>none
def Iu (id:Nat)(t:TypeId)(len:Nat)(parts:List (Nat × Ty)):ix P H id t len parts=zn P H id (P.underlying t) len parts:=rfl
def Iv (id:Nat)(e:TypeId)(len:Nat)(parts:List (Nat × Ty)):zn P H id (some (.slice e)) len parts=if len*P.cellsOf e<=2 ^ 24 then
   (iq P e len).bind fun z=>(dR (fun i=>some (i*P.cellsOf e,P.cellsOf e)) z parts).bind fun cells =>
    (H.lay id (.L 0 e cells)).map fun H'=>(.V id 0 0 len (P.cellsOf e),H')
  else none:=rfl
def va (P:Program)(t:TypeId)(d:Option TypeDesc)(parts:List (Nat × Ty)):Option Ty :=
 (bC P t).bind fun z =>
  match d with
  |some (.struct _)=>(ir P t).bind fun pl=>(dR (fun i=>pl[i]?) z parts).map .agg
  |some (.array _ e)=>if (P.underlying e).isSome then (dR (fun i=>some (i*P.cellsOf e,P.cellsOf e)) z parts).map .agg else none
  |_=>none
def Iw (t:TypeId)(parts:List (Nat × Ty)):my P t parts=va P t (P.underlying t) parts:=rfl
def Ix (t:TypeId)(fs:Array Field)(parts:List (Nat × Ty)):va P t (some (.struct fs)) parts=(bC P t).bind fun z=>(ir P t).bind fun pl=>(dR (fun i=>pl[i]?) z parts).map .agg:=rfl
def Iy (t:TypeId)(n:Nat)(e:TypeId)(parts:List (Nat × Ty)):va P t (some (.array n e)) parts=(bC P t).bind fun z=>if (P.underlying e).isSome=true then (dR (fun i=>some (i*P.cellsOf e,P.cellsOf e)) z parts).map .agg else none:=rfl
def Iz (pl:Nat->Option (Nat × Nat))(cells:List Ty):dR pl cells []=some cells:=rfl
def IA (pl:Nat->Option (Nat × Nat))(cells:List Ty)(i:Nat)(v:Ty)(rest:List (Nat × Ty)):dR pl cells ((i,v) :: rest)=(pl i).bind fun os =>
  if v.cells.length=os.2/\os.1+v.cells.length<=cells.length then dR pl (setAt cells os.1 v.cells) rest else none:=by
 simp only[dR];cases pl i<;>rfl
def IB (k:IntKind)(n:Int):(Ty.lit (.int k n)).cells=[.lit (.int k n)]:=rfl
def IC (b:Bool):(Ty.lit (.bool b)).cells=[.lit (.bool b)]:=rfl
def ID (s:ByteArray):(Ty.lit (.string s)).cells=[.lit (.string s)]:=rfl
def IE (a:Option Addr)(n c:Nat):(Ty.lit (.slice a n c)).cells=[.lit (.slice a n c)]:=rfl
def IF (l:List Ty):(Ty.agg l).cells=l:=rfl
def IG (n:Nat)(l:List Ty):(Ty.M n l).cells=[.M n l]:=rfl
def IH (a b c d e:Nat):(Ty.V a b c d e).cells=[.V a b c d e]:=rfl
def II (a b c:Nat):(Ty.Y a b c).cells=[.Y a b c]:=rfl
def IJ (k:IntKind)(n:Int):(Ty.lit (.int k n)).one=true:=rfl
def IK (b:Bool):(Ty.lit (.bool b)).one=true:=rfl
def IL (s:ByteArray):(Ty.lit (.string s)).one=true:=rfl
def IM (a:Option Addr)(n c:Nat):(Ty.lit (.slice a n c)).one=true:=rfl
def IN (n:Nat)(l:List Ty):(Ty.M n l).one=true:=rfl
def IP (a b c d e:Nat):(Ty.V a b c d e).one=true:=rfl
def IQ (a b c:Nat):(Ty.Y a b c).one=true:=rfl
def aa (n:Int):Ty:=.lit (.int .i64 n)
def ints (l:List Int):List Ty:=l.map aa
def ag (l:List Int):Ty:=.M l.length (ints l)
def aR (l:List Int):(ints l).length=l.length:=P8 ..
def gF (l:List Int)(i:Nat):(ints l)[i]?=(l[i]?).map aa:=List.getElem?_map ..
def uT (l:List Int):ints l=[]↔l=[]:=List.map_eq_nil_iff
end Go.Hx
namespace Go.Hx
variable {P:Program} {G:Nat->Option (List Ty)} {Γ Γ':ar} {H H':Tz} {w w':World}
variable {id nx:Nat}{S:Nat->Prop}{K:TF->Tz->Prop}{v v':Ty}
inductive Below (n:Nat):Ty->Prop
 |lit (v:Value):Below n (.lit v)
 |M {len:Nat} {cells:List Ty} (h:∀i (h:i<cells.length),Below n cells[i]):Below n (.M len cells)
 |nc {off:Nat} {cells:List Ty} (h:∀i (h:i<cells.length),Below n cells[i]):Below n (.nc cells off)
 |agg {cells:List Ty} (h:∀i (h:i<cells.length),Below n cells[i]):Below n (.agg cells)
 |nf {cells:List Ty} (h:∀i (h:i<cells.length),Below n cells[i]):Below n (.nf cells)
 |nl {f:FuncId} {a b:List Ty} (h1:∀i (h:i<a.length),Below n a[i]) (h2:∀i (h:i<b.length),Below n b[i]):Below n (.nl f a b)
 |V {id g o l z:Nat} (h:id<n):Below n (.V id g o l z)
 |Y {id g o:Nat} (h:id<n):Below n (.Y id g o)
 |ng {id:Nat} (h:id<n):Below n (.ng id)
def TB.mU {cv:Value}(h:TB P Γ H w v cv):Below H.C v:=by
 induction h with
 |lit v=>exact .lit v
 |nj a cap=>exact .M fun i h=>absurd h (Qf _)
 |M hb hlt hlen hcs hcell hrel ih=>exact .M fun i h=>ih i h (U)
 |V h=>exact .V h.1
 |Y h=>exact .Y h.1
 |nc hb hlt hcs hcell hrel ih=>exact .nc fun i h=>ih i h (U)
 |agg hcs hrel ih=>exact .agg fun i h=>ih i h (U)
 |nf hcs hrel ih=>exact .nf fun i h=>ih i h (U)
 |nl hfs hcs hf hc ih1 ih2=>exact .nl (fun i h=>ih1 i h U) fun i h=>ih2 i h (U)
 |ng h=>exact .ng h.1
def G8 (n:Nat):TE->Prop
 |.L _ _ cells=>∀i (h:i<cells.length),Below n cells[i]
 |.loop _ _ m env _ _ _=>∀t,t<m->Below n (env t)
 |.mp _=>True
 |.ni=>True
structure Ue (H:Tz):Prop where
 lt:∀id b,H.get id=some b->id<H.C
 below:∀id b,H.get id=some b->G8 H.C b
theorem TG.nl (R:TG P G Γ H w):Ue H:=by
 refine⟨fun id b h=>R.C id b h,fun id b h=>?_⟩;cases b with
 |ni=>trivial
 |mp=>trivial
 |L g e cells =>
  intro i hi;have h1:=R.L id g e cells h;split at h1
  ·obtain⟨c,_,_,_,h5⟩:=h1;obtain⟨cv,_,h6⟩:=h5 i hi;exact h6.mU
  ·subst h1;exact absurd hi (Qf _)
 |loop st pend n env ps asg body =>
  intro t ht;obtain⟨b,r,_,_,_,_,_,_,_,h8,h9⟩:=R.loop id st pend n env ps asg body h;exact(h9 t U).mU
inductive Fz (S:Nat->Prop)(H:Tz)(nx:Nat):Ty->Ty->Prop
 |lit (v:Value):Fz S H nx (.lit v) (.lit v)
 |M {len:Nat} {c c':List Ty} (hl:c'.length=c.length) (h:∀i (h:i<c.length) (h':i<c'.length),Fz S H nx c[i] c'[i]):Fz S H nx (.M len c) (.M len c')
 |nc {off:Nat} {c c':List Ty} (hl:c'.length=c.length) (h:∀i (h:i<c.length) (h':i<c'.length),Fz S H nx c[i] c'[i]):Fz S H nx (.nc c off) (.nc c' off)
 |agg {c c':List Ty} (hl:c'.length=c.length) (h:∀i (h:i<c.length) (h':i<c'.length),Fz S H nx c[i] c'[i]):Fz S H nx (.agg c) (.agg c')
 |nf {c c':List Ty} (hl:c'.length=c.length) (h:∀i (h:i<c.length) (h':i<c'.length),Fz S H nx c[i] c'[i]):Fz S H nx (.nf c) (.nf c')
 |nl {f:FuncId} {a a' b b':List Ty} (ha:a'.length=a.length) (hb:b'.length=b.length) (h1:∀i (h:i<a.length) (h':i<a'.length),Fz S H nx a[i] a'[i]) (h2:∀i (h:i<b.length) (h':i<b'.length),Fz S H nx b[i] b'[i]):Fz S H nx (.nl f a b) (.nl f a' b')
 |V {id g o l z:Nat} (h:id<nx) (hs:¬S id):Fz S H nx (.V id g o l z) (.V id g o l z)
 |Y {id g o:Nat} (h:id<nx) (hs:¬S id):Fz S H nx (.Y id g o) (.Y id g o)
 |ng {id:Nat} (h:id<nx) (hs:¬S id):Fz S H nx (.ng id) (.ng id)
 |deadOwn {id g o l z:Nat} (h:id<nx) (hs:S id):Fz S H nx (.V id g o l z) (.V id g o l z)
 |deadPtr {id g o:Nat} (h:id<nx) (hs:S id):Fz S H nx (.Y id g o) (.Y id g o)
 |deadYld {id:Nat} (h:id<nx) (hs:S id):Fz S H nx (.ng id) (.ng id)
 |nil:Fz S H nx (.lit (.slice none 0 0)) (.M 0 [])
 |np {id g o l z:Nat} {e:TypeId} {cells c':List Ty} (hs:S id) (hg:H.get id=some (.L g e cells)) (hl:c'.length=l*z)
   (h:∀i (h:i<l*z) (h2:o+i<cells.length) (h':i<c'.length),Fz S H nx cells[o+i] c'[i]):Fz S H nx (.V id g o l z) (.M l c')
 |pfrz {id g o:Nat} {e:TypeId} {cells c':List Ty} (hs:S id) (hg:H.get id=some (.L g e cells)) (hne:cells≠[]) (hl:c'.length=cells.length)
   (h:∀i (h:i<cells.length) (h':i<c'.length),Fz S H nx cells[i] c'[i]):Fz S H nx (.Y id g o) (.nc c' o)
def Fz.refl {H:Tz}(h:Below nx v)(hs:∀id,id<nx->¬S id):Fz S H nx v v:=by
 induction h with
 |lit v=>exact .lit v
 |M _ ih=>exact .M rfl fun i h _=>ih i h
 |nc _ ih=>exact .nc rfl fun i h _=>ih i h
 |agg _ ih=>exact .agg rfl fun i h _=>ih i h
 |nf _ ih=>exact .nf rfl fun i h _=>ih i h
 |nl _ _ ih1 ih2=>exact .nl rfl rfl (fun i h _=>ih1 i h) fun i h _=>ih2 i h
 |V h=>exact .V h (hs _ h)
 |Y h=>exact .Y h (hs _ h)
 |ng h=>exact .ng h (hs _ h)
def zh (S:Nat->Prop)(H:Tz)(nx:Nat):TE->TE->Prop
 |.L g e c,.L g' e' c'=>g'=g/\e'=e/\c'.length=c.length/\∀i (_:i<c.length) (_:i<c'.length),Fz S H nx c[i] c'[i]
 |.loop st pend n env ps asg body,.loop st' pend' n' env' ps' asg' body'=>st'=st/\pend'=pend/\n'=n/\env'=env/\ps'=ps/\asg'=asg/\body'=body/\∀t,t<n->Fz S H nx (env t) (env t)
 |.mp es,.mp es'=>es'=es
 |.ni,.ni=>True
 |_,_=>False
structure T8 (S:Nat->Prop)(H H':Tz):Prop where
 gone:∀id,S id->H'.get id=none
 kept:∀id b,¬S id->H.get id=some b->id<H'.C/\∃b',H'.get id=some b'/\zh S H H'.C b b'
 none:∀id,¬S id->H.get id=none->H'.get id=none
open Classical in
noncomputable def c7 (S:Nat->Prop)(Γ:ar):ar:=fun id=>if S id then none else Γ id
def gD (h:¬S id):c7 S Γ id=Γ id:=by simp[c7,h]
def hJ {x:Nat × Nat × Nat}(h:c7 S Γ id=some x):¬S id/\Γ id=some x:=by
 unfold c7 at h;split at h
 ·cases h
 ·exact⟨by assumption,h⟩
def ra {b:Nat}(h:(c7 S Γ).c9 b):Γ.c9 b:=by
 obtain⟨id,base,n,h⟩:=h;exact⟨id,base,n,(hJ h).2⟩
def T8.back (F:T8 S H H'){b':TE}(h:H'.get id=some b'):¬S id/\∃b,H.get id=some b/\zh S H H'.C b b'/\id<H'.C:=by
 have hs:¬S id:=fun hs=>by rw[F.gone id hs]at h;cases h
 refine⟨hs,?_⟩;cases hg:H.get id with
 |none=>rw[F.none id hs hg]at h;cases h
 |some b =>
  obtain⟨h1,b1,h2,h3⟩:=F.kept id b hs hg;rw[h]at h2;cases h2;exact⟨b,rfl,h3,h1⟩
def Fz.sound (R:TG P G Γ H w)(F:T8 S H H')(hf:Fz S H H'.C v v'):∀ {cv:Value},TB P Γ H w v cv->TB P (c7 S Γ) H' w v' cv:=by
 induction hf with
 |lit v=>intro cv h;cases h;exact .lit _
 |nil=>intro cv h;cases h;exact .nj none 0
 |deadOwn hlt hs =>
  intro cv h;cases h with
  |V h=>exact .V ⟨hlt,h.2.1,fun hr=>(by rw[F.gone _ hs]at hr;cases hr),fun _ _ _ hg=>(by rw[F.gone _ hs]at hg;cases hg)⟩
 |deadPtr hlt hs =>
  intro cv h;cases h with
  |Y h=>exact .Y ⟨hlt,h.2.1,fun hr=>(by rw[F.gone _ hs]at hr;cases hr),fun _ _ _ hg=>(by rw[F.gone _ hs]at hg;cases hg)⟩
 |deadYld hlt hs =>
  intro cv h;cases h with
  |ng h=>exact .ng ⟨hlt,h.2.1,fun hr=>(by rw[F.gone _ hs]at hr;cases hr),fun _ _ _ _ _ _ _ hg=>(by rw[F.gone _ hs]at hg;cases hg),fun _ hg=>(by rw[F.gone _ hs]at hg;cases hg)⟩
 |M hl hc ih =>
  intro cv h;cases h with
  |nj a cap =>
   rename_i c';have:c'=[]:=P1 hl;subst this;exact .nj a cap
  |M hb hlt hlen hcs hcell hrel=>exact .M (fun h=>hb (ra h)) hlt hlen U hcell fun i h1 h2=>ih i U h1 (hrel i U h2)
 |nc hl hc ih =>
  intro cv h;cases h with
  |nc hb hlt hcs hcell hrel=>exact .nc (fun h=>hb (ra h)) hlt U hcell fun i h1 h2=>ih i U h1 (hrel i U h2)
 |agg hl hc ih =>
  intro cv h;cases h with
  |agg hcs hrel=>exact .agg U fun i h1 h2=>ih i U h1 (hrel i U h2)
 |nf hl hc ih =>
  intro cv h;cases h with
  |nf hcs hrel=>exact .nf U fun i h1 h2=>ih i U h1 (hrel i U h2)
 |nl ha hb h1 h2 ih1 ih2 =>
  intro cv h;cases h with
  |nl hfs hcs hf hc=>exact .nl U U (fun i a b=>ih1 i U a (hf i U b)) fun i a b=>ih2 i U a (hc i U b)
 |V hlt hs =>
  intro cv h;cases h with
  |V h =>
   obtain⟨h1,h2,h0,h3⟩:=h;refine .V ⟨hlt,h2,fun hr=>?_,fun g' e' cells' hg'=>?_⟩
   ·obtain⟨_,b,hb,hfb,_⟩:=F.back hr;cases b with
    |ni=>exact h0 hb
    |_=>exact hfb.elim
   ·obtain⟨_,b,hb,hfb,_⟩:=F.back hg';cases b with
    |L g e cells =>
     obtain⟨rfl,rfl,hlen,_⟩:=hfb;have:=h3 _ _ _ hb;rw[gD hs,hlen];exact this
    |_=>exact hfb.elim
 |Y hlt hs =>
  intro cv h;cases h with
  |Y h =>
   obtain⟨h1,h2,h0,h3⟩:=h;refine .Y ⟨hlt,h2,fun hr=>?_,fun g' e' cells' hg'=>?_⟩
   ·obtain⟨_,b,hb,hfb,_⟩:=F.back hr;cases b with
    |ni=>exact h0 hb
    |_=>exact hfb.elim
   ·obtain⟨_,b,hb,hfb,_⟩:=F.back hg';cases b with
    |L g e cells =>
     obtain⟨rfl,rfl,hlen,_⟩:=hfb;have:=h3 _ _ _ hb;rw[gD hs];exact this
    |_=>exact hfb.elim
 |ng hlt hs =>
  intro cv h;cases h with
  |ng h =>
   obtain⟨h1,h2,h0,h3,h4⟩:=h;refine .ng ⟨hlt,h2,fun hr=>?_,fun st pend n env ps asg body hg'=>?_,fun es hg'=>?_⟩
   ·obtain⟨_,b,hb,hfb,_⟩:=F.back hr;cases b with
    |ni=>exact h0 hb
    |_=>exact hfb.elim
   ·obtain⟨_,b,hb,hfb,_⟩:=F.back hg';cases b with
    |loop st0 pend0 n0 env0 ps0 asg0 body0 =>
     have:=h3 _ _ _ _ _ _ _ hb;rw[gD hs];exact this
    |_=>exact hfb.elim
   ·obtain⟨_,b,hb,hfb,_⟩:=F.back hg';cases b with
    |mp es0 =>
     have:=h4 _ hb;rw[gD hs];exact this
    |_=>exact hfb.elim
 | @np id g o l z e cells c' hs hg hl hc ih =>
  intro cv h;cases h with
  |V h =>
   obtain⟨h1,h2,h0,h3⟩:=h;have h4:=(h3 _ _ _ hg).2 rfl;have harr:=R.L id g e cells hg;cases hΓ:Γ id with
   |none =>
    rw[hΓ]at h4;obtain⟨rfl,rfl,rfl⟩:=h4;have:c'=[]:=P1 (by simpa using hl);subst this;exact .nj _ _
   |some y =>
    obtain⟨b,base,n⟩:=y;rw[hΓ]at h4 harr;obtain⟨a,cap,rfl,hcap,hoff,hor⟩:=h4;obtain⟨c,a1,a2,a3,a4⟩:=harr;rcases hor with ⟨rfl,hn⟩|⟨rfl,rfl⟩
    ·have hcell:∀i,i<l*z->∃cv,c[base+(o+i)]?=some cv/\∀(h:o+i<cells.length),TB P Γ H w cells[o+i] cv:=fun i hi=>by
      obtain⟨cv,b1,b2⟩:=a4 (o+i) U;exact⟨cv,b1,fun _=>b2⟩
     let cs:List Value:=(List.range (l*z)).map fun i=>(c[base+(o+i)]?).getD undef
     have hcs:cs.length=c'.length:=(by simp[cs,hl]);refine .M (cs:=cs) (fun ho=>?_) (R.lt _ _ _ _ hΓ) hcap hcs (fun i hi=>?_) fun i hi hi'=>?_
     ·obtain⟨id',base',n',h'⟩:=ho;obtain⟨hns,h''⟩:=hJ h';have:=R.inj _ _ _ _ _ _ _ h'' hΓ;subst this;exact hns hs
     ·have hi2:i<l*z:=(by rw[hcs,hl]at hi;exact hi);obtain⟨cv,b1,_⟩:=hcell i hi2;have:cs[i]=cv:=(by simp[cs,b1]);rw[this];have he:base+o+i=base+(o+i):=U;simp only[World.cell?,a1,he];exact b1
     ·have hi2:i<l*z:=(by rw[hl]at hi;exact hi);obtain⟨cv,b1,b2⟩:=hcell i hi2;have:cs[i]=cv:=(by simp[cs,b1]);rw[this];exact ih i hi2 U hi (b2 U)
    ·have:c'=[]:=P1 (by simpa using hl);subst this;exact .nj _ _
 | @pfrz id g o e cells c' hs hg hne hl hc ih =>
  intro cv h;cases h with
  |Y h =>
   obtain⟨h1,h2,h0,h3⟩:=h;obtain⟨b,base,n,hΓ,rfl⟩:=(h3 _ _ _ hg).2 rfl;have harr:=R.L id g e cells hg;rw[hΓ]at harr;obtain⟨c,a1,a2,a3,a4⟩:=harr
   let cs:List Value:=(List.range cells.length).map fun i=>(c[base+i]?).getD undef
   have hcs:cs.length=c'.length:=(by simp[cs,hl]);have hcell:∀i (hi:i<cells.length) (hi':i<cs.length),c[base+i]?=some cs[i]/\TB P Γ H w cells[i] cs[i]:=fun i hi hi'=>by
    obtain⟨cv,b1,b2⟩:=a4 i hi;have:cs[i]=cv:=(by simp[cs,b1]);rw[this];exact⟨b1,b2⟩
   refine .nc (cs:=cs) (fun ho=>?_) (R.lt _ _ _ _ hΓ) hcs (fun i hi=>?_) fun i hi hi'=>?_
   ·obtain⟨id',base',n',h'⟩:=ho;obtain⟨hns,h''⟩:=hJ h';have:=R.inj _ _ _ _ _ _ _ h'' hΓ;subst this;exact hns hs
   ·simp only[World.cell?,a1];exact(hcell i U hi).1
   ·exact ih i U hi (hcell i U hi').2
def Fz.plain {H:Tz}(h:Below 0 v):Fz S H nx v v:=by
 induction h with
 |lit v=>exact .lit v
 |M _ ih=>exact .M rfl fun i h _=>ih i h
 |nc _ ih=>exact .nc rfl fun i h _=>ih i h
 |agg _ ih=>exact .agg rfl fun i h _=>ih i h
 |nf _ ih=>exact .nf rfl fun i h _=>ih i h
 |nl _ _ ih1 ih2=>exact .nl rfl rfl (fun i h _=>ih1 i h) fun i h _=>ih2 i h
 |V h=>exact absurd h (Qf _)
 |Y h=>exact absurd h (Qf _)
 |ng h=>exact absurd h (Qf _)
theorem Fz.ints {H:Tz}{g o:Nat}{e:TypeId}{cells:List Ty}{x:List Int}{n:Nat}(hs:S id)(hg:H.get id=some (.L g e cells))(hn:n=x.length)(hx:∀i (h:i<x.length),cells[o+i]?=some (aa x[i])):
  Fz S H nx (.V id g o n 1) (ag x):=by
 subst hn;refine .np hs hg (by simp[Go.Hx.ints]) fun i hi h2 h'=>?_;have h1:=hx i U;rw[PV h2]at h1;rw[Option.some.inj h1];have:(Go.Hx.ints x)[i]=aa x[i]:=by simp[Go.Hx.ints]
 rw[this];exact .lit _
def Fz.uT {H:Tz}:Fz S H nx (.lit (.slice none 0 0)) (ag []):=.nil
def Fz.cK {H:Tz}(x:List Int):Fz S H nx (ag x) (ag x) :=
 .plain (.M fun i h=>by simp only[Go.Hx.ints,P4];exact .lit _)
def jJ (x:List Int):(Go.Hx.ints x).all Ty.one=true:=by simp[Go.Hx.ints,aa,Ty.one,Value.oneCell]
def dJ (G:Nat->Option (List Ty)):Prop:=∀g cells,G g=some cells->Below 0 (.nc cells 0)
def T8.aU (F:T8 S H H'):TJ Γ H w (c7 S Γ) H' w where
 os:=rfl
 tape:=rfl
 output:=rfl
 size:=Tx
 na:=fun _ _ h=>⟨rfl,fun h'=>h (ra h')⟩
 Z:=fun id _ _ x' hx=>by
  obtain⟨hs,b,hb,hfb,_⟩:=F.back hx;refine⟨b,hb,?_⟩;cases b<;>cases x'<;>first|exact hfb.elim|skip
  ·obtain⟨rfl,rfl,hl,_⟩:=hfb;exact⟨Tx,fun _=>⟨gD hs,rfl,hl⟩⟩
  ·obtain⟨rfl,rfl,rfl,rfl,rfl,rfl,rfl,_⟩:=hfb;exact⟨gD hs,rfl,rfl,rfl,rfl,rfl⟩
  ·exact gD hs
  ·trivial
 np:=fun _ _=>rfl
 kind:=.refl _
 newb:=fun _ _ x y h _=>⟨x,y,(hJ h).2⟩
def T8.rel (hG:dJ G)(R:TG P G Γ H w)(F:T8 S H H'):TG P G (c7 S Γ) H' w where
 L id g e cells hg:=by
  obtain⟨hs,b,hb,hfb,_⟩:=F.back hg;cases b with
  |L g0 e0 c0 =>
   obtain⟨rfl,rfl,hl,hc⟩:=hfb;have h1:=R.L _ _ _ _ hb;rw[gD hs];cases hΓ:Γ id with
   |none =>
    rw[hΓ]at h1;simp only at h1 ⊢;subst h1;exact P1 hl
   |some y =>
    obtain⟨b,base,n⟩:=y;rw[hΓ]at h1;obtain⟨c,a1,a2,a3,a4⟩:=h1;refine⟨c,a1,a2,U,fun i hi=>?_⟩;obtain⟨cv,b1,b2⟩:=a4 i U;exact⟨cv,b1,(hc i U hi).sound R F b2⟩
  |_=>exact hfb.elim
 loop id st pend n env ps asg body hg:=by
  obtain⟨hs,b,hb,hfb,_⟩:=F.back hg;cases b with
  |loop =>
   obtain⟨rfl,rfl,rfl,rfl,rfl,rfl,rfl,hf⟩:=hfb;obtain⟨b,rr,a1,a2,a3,a4,a5,a6,a7,a8,a9⟩:=R.loop _ _ _ _ _ _ _ _ hb;exact⟨b,rr,by rw[gD hs];exact a1,a2,a3,a4,a5,a6,a7,a8,fun t ht=>(hf t U).sound R F (a9 t ht)⟩
  |_=>exact hfb.elim
 mp id es hg:=by
  obtain⟨hs,b,hb,hfb,_⟩:=F.back hg;cases b with
  |mp es0 =>
   have hfb':es=es0:=hfb;subst hfb';obtain⟨b,a1,a2⟩:=R.mp _ _ hb;exact⟨b,by rw[gD hs];exact a1,a2⟩
  |_=>exact hfb.elim
 ni id hg:=by
  obtain⟨hs,b,hb,hfb,_⟩:=F.back hg;cases b with
  |ni=>rw[gD hs];exact R.ni id hb
  |_=>exact hfb.elim
 inj id id' b base n base' n' h h':=R.inj id id' b base n base' n' (hJ h).2 (hJ h').2
 nt id x h:=by
  obtain⟨hs,h⟩:=hJ h;obtain⟨y,hy⟩:=R.nt id x h;obtain⟨_,b',hb',_⟩:=F.kept id y hs hy;exact⟨b',hb'⟩
 lt id b base n h:=R.lt id b base n (hJ h).2
 C id y h:=by
  obtain⟨_,_,_,_,h⟩:=F.back h;exact h
 nr g cells h:=(Fz.plain (hG g cells h)).sound R F (R.nr g cells h)
 gsz:=R.gsz
def kA.freeze (hG:dJ G)(F:T8 S H H')(hv:Fz S H H'.C v v'):kA P G H v H' v' :=
 fun Γ _ R=>⟨c7 S Γ,F.rel hG R,F.aU,fun _ h=>hv.sound R F h⟩
def cq.freeze (hG:dJ G){s s':St}(F:T8 S s.H s'.H)(hv:∀t,Fz S s.H s'.H.C (s.ρ t) (s'.ρ t)):cq P G s s':=by
 intro n wb Γ a w hs;have E:TJ Γ s.H w (c7 S Γ) s'.H w:=F.aU;refine⟨c7 S Γ,⟨hs.size,fun t=>(hv t).sound hs.heap F (hs.env t),F.rel hG hs.heap,hs.defers.aU E,hs.low⟩,E,fun rd rb hr hri=>?_⟩;cases rd with
 |none=>exact hr
 |some id =>
  obtain⟨b,st,pend,n,env,ps,asg,body,h1,h2,h3⟩:=hr;obtain⟨st',pend',n',env',ps',asg',body',h4⟩:=hri;obtain⟨hns,_⟩:=F.back h4;exact⟨b,_,_,_,_,_,_,_,h1,by rw[gD hns];exact h2,h4⟩
def G9 (hc:Ue H)(L:List TE):T8 (fun id=>H.C<=id) (ext H L) H where
 gone id hs:=by
  cases h:H.get id with
  |none=>rfl
  |some b=>have:=hc.lt id b h;omega
 kept id b hs hb:=by
  have hlt:id<H.C:=RZ hs;rw[eC H L id hlt]at hb;have hbb:=hc.below id b hb;refine⟨hlt,b,hb,?_⟩;have hno:∀i,i<H.C->¬H.C<=i:=fun i h=>Nat.not_le_of_lt h;cases b with
  |ni=>trivial
  |mp=>rfl
  |L g e cells=>exact⟨rfl,rfl,rfl,fun i h _=>.refl (hbb i h) hno⟩
  |loop st pend n env ps asg body=>exact⟨rfl,rfl,rfl,rfl,rfl,rfl,rfl,fun t ht=>.refl (hbb t ht) hno⟩
 none id hs hb:=by
  rw[eC H L id (RZ hs)]at hb;exact hb
def aw.drop (hG:dJ G)(hc:Ue H){L:List TE}(hv:Fz (fun id=>H.C<=id) (ext H L) H.C v v')(hk:K (.ret v') H):aw P G H K v (ext H L) :=
 ⟨v',H,.freeze hG (G9 hc L) hv,Tx,hk⟩
def aw.Hf (hG:dJ G)(hc:Ue H)(hv:Fz (fun id=>H.C<=id) (ext H []) H.C v v')(hk:K (.ret v') H):aw P G H K v H:=by
 have:=aw.drop (P:=P) hG hc hv hk;rw[ext_nil]at this;exact this
theorem af.nl {f : FuncId} {args : List Ty} {K : TF → Tz → Prop} (hf : ∃ fn, P.funcs[f]? = some fn ∧ fn.body.isNone = false ∧ (fn.name == "runtime.NumGoroutine") = false) (h : Ue H → af P G f args H K) : af P G f args H K :=
 ⟨hf,fun Γ w cargs R hr=>(h R.nl).2 Γ w cargs R hr⟩
end Go.Hx
namespace Go.Hx
variable {P:Program} {G:Nat->Option (List Ty)} {Γ Γ':ar} {H H':Tz} {w w':World}
variable {r:Loop}{b:Nat}{pend:Option Code}{x:Option TE}
def re (R:TG P G Γ H w){id:Nat}{st:LoopState}{n:Nat}{env:Env}{ps:Array Tmp}{asg body:Code}(hg:H.get id=some (.loop st pend n env ps asg body)):
    ∃b r,Γ id=some (b,0,0)/\w.heap[b]?=some (.loop r)/\r.state=st/\r.pending=pend/\r.params=ps/\r.assign=asg/\r.body=body/\r.tmps.size=n/\(∀t (h:t<r.tmps.size),TB P Γ H w (env t) r.tmps[t]) /\
      ∀st' pend',TG P G Γ (H.upd id (.loop st' pend' n env ps asg body)) (bp w b (.loop { r with state:=st',pending:=pend' })) /\
        TJ Γ H w Γ (H.upd id (.loop st' pend' n env ps asg body)) (bp w b (.loop { r with state:=st',pending:=pend' })):=by
  obtain⟨b,r,hΓ,hb,h1,h2,h3,h4,h5,h6,h7⟩:=R.loop id st pend n env ps asg body hg;refine⟨b,r,hΓ,hb,h1,h2,h3,h4,h5,h6,h7,fun st' pend'=>?_⟩;have hlt:=R.lt id b 0 0 hΓ;have E:TJ Γ H w Γ (H.upd id (.loop st' pend' n env ps asg body)) (bp w b (.loop { r with state:=st',pending:=pend' })) :=
    { os:=rfl,tape:=rfl,output:=rfl
      size:=by rw[gW];exact Nat.le_refl _
      na:=fun c hc ho=>⟨by
        rw[da,PX];rintro⟨rfl,_⟩;exact ho ⟨id,0,0,hΓ⟩,ho⟩
      Z:=fun i hi _ x' hx=>by
        rw[ab]at hx;split at hx
        · rename_i hii;subst hii;simp only[Option.some.injEq]at hx;subst hx;exact⟨_,hg,rfl,rfl,rfl,rfl,rfl,rfl⟩
        · exact⟨x',hx,TE.le_refl _ _ _⟩
      np:=fun a _=>ot hb (fun _ _ _ h=>by cases h) (fun _ _ _ h=>by cases h) a
      kind:=tU hb fun _ _ _ h=>by cases h
      newb:=.refl _ _ }
  refine⟨?_,E⟩;have hne:∀i b' base n',Γ i=some (b',base,n')->i≠id->b'≠b:=fun i b' base n' hi hii hbb=>by
    subst hbb;exact hii (R.inj _ _ _ _ _ _ _ hi hΓ)
  exact
    { L:=fun i g e cells hgi=>by
        rw[ab]at hgi;split at hgi
        · simp at hgi
        · rename_i hii;have h:=R.L i g e cells hgi;cases hi:Γ i with
          |none=>rw[hi]at h;exact h
          |some y =>
            obtain⟨b',base,n'⟩:=y;rw[hi]at h;obtain⟨c,a1,a2,a3,a4⟩:=h;refine⟨c,?_,a2,a3,fun j hj=>let ⟨cv,b1,b2⟩:=a4 j hj;⟨cv,b1,b2.aU E Tx⟩⟩;rw[da,PX]
            · exact a1
            · rintro⟨h,_⟩;exact hne i b' base n' hi hii h
      loop:=fun i st2 pend2 n2 env2 ps2 asg2 body2 hgi=>by
        rw[ab]at hgi;split at hgi
        · rename_i hii;subst hii;simp only[Option.some.injEq,TE.loop.injEq]at hgi;obtain⟨rfl,rfl,rfl,rfl,rfl,rfl,rfl⟩:=hgi;refine⟨b,{ r with state:=st',pending:=pend' },hΓ,by rw[da,PZ ⟨rfl,hlt⟩],rfl,rfl,h3,h4,h5,h6,fun t ht=>(h7 t ht).aU E Tx⟩
        · rename_i hii;obtain⟨b2,r2,a1,a2,a3,a4,a5,a6,a7,a8,a9⟩:=R.loop i _ _ _ _ _ _ _ hgi;refine⟨b2,r2,a1,?_,a3,a4,a5,a6,a7,a8,fun t ht=>(a9 t ht).aU E Tx⟩;rw[da,PX]
          · exact a2
          · rintro⟨h,_⟩;exact hne i b2 0 0 a1 hii h
      mp:=fun i es hgi=>by
        rw[ab]at hgi;split at hgi
        · simp at hgi
        · rename_i hii;obtain⟨b2,a1,a2⟩:=R.mp i _ hgi;refine⟨b2,a1,?_⟩;rw[da,PX]
          · exact a2
          · rintro⟨h,_⟩;exact hne i b2 0 0 a1 hii h
      ni:=fun i hgi=>by
        rw[ab]at hgi;split at hgi
        · simp at hgi
        · exact R.ni i hgi
      inj:=R.inj
      nt:=fun i x hi=>by
        obtain⟨y,hy⟩:=R.nt i x hi;rw[ab];split
        · exact⟨_,rfl⟩
        · exact⟨y,hy⟩
      lt:=fun i b' base n' hi=>by rw[gW];exact R.lt i b' base n' hi
      C:=fun i y hy=>by
        rw[ab]at hy;split at hy
        · rename_i hii;subst hii;exact R.C _ _ hg
        · exact R.C i y hy
      nr:=fun g cells h=>(R.nr g cells h).aU E (Nat.le_refl _)
      gsz:=R.lf E }
def oX (h:w.heap[b]?=some (.loop r)):(Instr.getLoop b).run P w=.ok r w:=by
  have hg:(getObj b).run P w=.ok (.loop r) w:=by simp[getObj,Sem.run,h]
  unfold Instr.getLoop;rw[ak hg];rfl
def uU {o':Obj}(h:w.heap[b]?=some (.loop r)):(setObj b o').run P w=.ok () (bp w b o'):=by
  simp[setObj,Sem.run,h,bp]
def Hg (h:w.heap[b]?=some (.loop r))(hs:r.state=.ready):(Instr.beginRound b).run P w=.ok () (bp w b (.loop { r with state:=.busy,pending:=r.pending })):=by
  unfold Instr.beginRound;rw[ak (oX h),ak (uU h)];simp only[hs];rfl
def Hh (h:w.heap[b]?=some (.loop r))(j:Option Code):
    (Instr.endRound b j).run P w=.ok (.bool j.isNone) (bp w b (.loop { r with state:=if j.isNone then .ready else .done,pending:=j })):=by
  unfold Instr.endRound;rw[ak (oX h),ak (uU h)];rfl
def Hi (h:w.heap[b]?=some (.loop r))(hs:(r.state == .busy)=false):(Instr.endLoop b).run P w=.ok r.pending (bp w b (.loop { r with state:=.exhausted,pending:=r.pending })):=by
  unfold Instr.endLoop;rw[ak (oX h)];simp only[hs,Bool.false_eq_true,if_false];rw[ak (uU h)];rfl
def iE (ρ:Env)(l:List (Tmp × Ty)):Env:=l.foldl (fun ρ p=>aD ρ (some p.1) p.2) ρ
def cr (env:Env)(n:Nat):Env:=fun t=>if t<n then env t else .lit undef
def kE (st:LoopState)(pend:Option Code):Option TE->Option TE
  |some (.loop _ _ n env ps asg body)=>some (.loop st pend n env ps asg body)
  |_=>none
def zi:Option TE->Option TE
  |some (.loop .ready pend n env ps asg body)=>some (.loop .busy pend n env ps asg body)
  |_=>none
def uV (id:Nat)(K:TF->Tz->Prop):AX->St->Prop
  |.normal,s=>ba (kE .ready none (s.H.get id)) fun b=>K (.ret (.lit (.bool true))) (s.H.upd id b)
  |.ret,s=>ba (kE .done (some .ret) (s.H.get id)) fun b=>K (.ret (.lit (.bool false))) (s.H.upd id b)
  |.exit i,s=>ba (kE .done (some (.exit i)) (s.H.get id)) fun b=>K (.ret (.lit (.bool false))) (s.H.upd id b)
  |.goto i,s=>ba (kE .done (some (.goto i)) (s.H.get id)) fun b=>K (.ret (.lit (.bool false))) (s.H.upd id b)
  |.panic,_=>False
def zj (P:Program)(G:Nat->Option (List Ty))(n id:Nat)(body:Code)(K:TF->Tz->Prop):AX->St->Prop
  |.normal,s=>ba (zi (s.H.get id)) fun b=>W P G n (some id) body (uV id K) ⟨s.ρ,s.H.upd id b⟩
  |_,_=>False
def Hl:∀(l:List (Tmp × Ty)) (cl:List (Tmp × Value)) (ρ:Env) (tmps:Array Value),l.length=cl.length->(∀i (h:i<l.length) (h':i<cl.length),l[i].1=cl[i].1/\l[i].1<tmps.size/\TB P Γ H w l[i].2 cl[i].2) ->
    (∀t,TB P Γ H w (ρ t) (tmps.getD t undef)) ->
    ((cl.foldl (fun tmps (p:Tmp × Value)=>tmps.setIfInBounds p.1 p.2) tmps).size=tmps.size)/\∀t,TB P Γ H w (iE ρ l t) ((cl.foldl (fun tmps (p:Tmp × Value)=>tmps.setIfInBounds p.1 p.2) tmps).getD t undef):=by
  intro l
  induction l with
  |nil =>
    intro cl ρ tmps hl _ he;cases cl with
    |nil=>exact⟨rfl,he⟩
    |cons=>simp at hl
  |cons x l ih =>
    intro cl ρ tmps hl h he;cases cl with
    |nil=>simp at hl
    |cons y cl =>
      obtain⟨h1,h2,h3⟩:=h 0 Tu Tu;simp only[Qo]at h1 h2 h3;have:=ih cl (aD ρ (some x.1) x.2) (tmps.setIfInBounds y.1 y.2) (by simpa using hl) (fun i a b=>by
        have:=h (i+1) (by simpa using a) (by simpa using b);simp only[QK]at this;simpa using this) (fun t=>by
          by_cases ht:t=x.1
          · subst ht;have e1:aD ρ (some x.1) x.2 x.1=x.2:=(by simp[aD]);have e2:(tmps.setIfInBounds y.1 y.2).getD x.1 undef=y.2:=(by rw[<- h1];simp[h2]);rw[e1,e2];exact h3
          · have e1 : aD ρ (some x.1) x.2 t=ρ t:=(by simp [aD,ht]);have e2 : (tmps.setIfInBounds y.1 y.2).getD t undef=tmps.getD t undef:=by
              simp only[QB];rw[QG,PX (by rw[<- h1];exact fun h=>ht h.symm)]
            rw[e1,e2];exact he t)
      refine⟨?_,this.2⟩;have h4:=this.1;simp only[Array.size_setIfInBounds]at h4;exact h4
def Ho {st:LoopState}{b:TE}(h:kE st pend x=some b):∃st0 p0 n env ps asg body,x=some (.loop st0 p0 n env ps asg body)/\b=.loop st pend n env ps asg body:=by
  unfold kE at h;split at h
  · cases h;exact⟨_,_,_,_,_,_,_,rfl,rfl⟩
  · cases h
theorem aE.ng {id:Nat}{args:List Ty}{K:TF->Tz->Prop}{pend:Option Code}{n:Nat}{env:Env}{ps:Array Tmp}{asg body:Code}(hg:H.get id=some (.loop .ready pend n env ps asg body))(hl:args.length=ps.size)
    (hps:ps.toList.all (fun t=>decide (t<n))=true) (h:W P G n (some id) asg (zj P G n id body K) ⟨iE (cr env n) (ps.toList.zip args),H⟩):aE P G (.ng id) args H K:=by
  intro Γ w cfv cargs R hv hr;cases hv with
  |ng hy =>
    obtain⟨b,hΓ,rfl⟩:=hy.2.2.2.1 _ _ _ _ _ _ _ hg;obtain⟨b',r,hΓ',hb,h1,h2,h3,h4,h5,h6,h7,_⟩:=re R hg;rw[hΓ]at hΓ';simp only[Option.some.injEq,Prod.mk.injEq]at hΓ';obtain⟨rfl,_⟩:=hΓ';have hsz:cargs.size=r.params.size:=(by rw[hr.1,hl,h3]);refine⟨{ target:=.fn (.yield b) #[],args:=#[]++cargs },rfl,.inr (.inl ⟨b,r.fn,(r.params.zip (#[]++cargs)).foldl (fun tmps (t,a)=>tmps.setIfInBounds t a) r.tmps,r.assign,r.body,?_,?_⟩)⟩
    · show (Instr.yield b (#[]++cargs)).run P w=_;unfold Instr.yield;rw[ak (oX hb)];have:¬((#[]++cargs).size≠r.params.size):=(by simp[hsz]);rw[PX this];rfl
    · refine roundIn_of_wpIn (F:=Fence.wide) trivial ?_;have hfold : (r.params.zip (#[]++cargs)).foldl (fun tmps (t,a)=>tmps.setIfInBounds t a) r.tmps=(r.params.toList.zip cargs.toList).foldl (fun tmps (p : Tmp × Value)=>tmps.setIfInBounds p.1 p.2) r.tmps:=by
        rw[<- Array.foldl_toList];simp
      rw [hfold,h4,h5];have hset:=Hl (P:=P) (Γ:=Γ) (H:=H) (w:=w) (ps.toList.zip args) (r.params.toList.zip cargs.toList) (cr env n) r.tmps (by simp [hr.1,h3]) (fun i a c=>by
          simp only[List.length_zip,Rp]at a c;simp only[List.getElem_zip,QQ];refine⟨by simp only[h3],?_,hr.2 i U U⟩;rw[h6];have:=Qt.1 hps (ps[i]' U) Tu;simpa using this) (fun t=>by
          unfold cr;by_cases ht:t<n
          · rw[PZ ht];have:r.tmps.getD t undef=r.tmps[t]' U:=(by simp[h6,ht]);rw[this];exact h7 t (U)
          · rw[PX ht];have:r.tmps.getD t undef=undef:=(by simp[h6,ht]);rw[this];exact .lit _)
      have hs:TS P G n ⟨0,[]⟩ Γ ⟨iE (cr env n) (ps.toList.zip args),H⟩ { tmps:=(r.params.toList.zip cargs.toList).foldl (fun tmps (p:Tmp × Value)=>tmps.setIfInBounds p.1 p.2) r.tmps,defers:=[] } w :=
        ⟨by rw[hset.1,h6],hset.2,R,⟨[],rfl,Marks.nil⟩,Ss _⟩
      refine wpIn_mono (h ⟨0,[]⟩ Γ _ w (some b) hs ⟨b,_,_,_,_,_,_,_,rfl,hΓ,hg⟩) ?_;rintro e a₁ w₁ ⟨x,s₁,Γ₁,hx,hq,hs₁,E₁,hn₁,hr₁,_⟩;cases x with
      |normal =>
        cases e with
        |normal =>
          obtain⟨blk,hbg,hW⟩:=hq;obtain⟨b1,st1,p1,n1,env1,ps1,asg1,body1,hb1,hΓ₁,hg₁⟩:=hr₁;simp only[Option.some.injEq]at hb1;subst hb1;rw[hg₁]at hbg;have hst:st1=.ready/\blk=.loop .busy p1 n1 env1 ps1 asg1 body1:=by
            cases st1<;>simp[zi]at hbg
            exact⟨rfl,hbg.symm⟩
          obtain ⟨rfl,rfl⟩:=hst;obtain ⟨b2,r1,hΓ₂,hb2,k1,k2,k3,k4,k5,k6,k7,kset⟩:=re hs₁.heap hg₁;rw [hΓ₁] at hΓ₂;simp only [Option.some.injEq,Prod.mk.injEq] at hΓ₂;obtain ⟨rfl,_⟩:=hΓ₂;obtain ⟨R2,E2⟩:=kset .busy r1.pending;rw [k2] at R2 E2;have hb3 : Γ₁ id=some (b,0,0):=hΓ₁;refine ⟨_,Hg hb2 k1,?_⟩;rw [k2];refine wpIn_mono (hW ⟨0,[]⟩ Γ₁ a₁ _ (some b) (hs₁.move E2 Tx R2) ⟨b,_,_,_,_,_,_,_,rfl,hΓ₁,by rw [ab,PZ rfl]⟩) ?_;rintro e a₂ w₂ ⟨x,s₂,Γ₂,hx,hq,hs₂,E3,hn₂,hr₂,_⟩;obtain ⟨b4,st4,p4,n4,env4,ps4,asg4,body4,hb4,hΓ₄,hg₄⟩:=hr₂;simp only [Option.some.injEq] at hb4;subst hb4;obtain ⟨b5,r5,hΓ₅,hb5,l1,l2,l3,l4,l5,l6,l7,lset⟩:=re hs₂.heap hg₄;rw [hΓ₄] at hΓ₅;simp only [Option.some.injEq,Prod.mk.injEq] at hΓ₅;obtain ⟨rfl,_⟩:=hΓ₅;have E4 : TJ Γ H w Γ₂ s₂.H w₂:=(E₁.trans hn₁ E2).trans hn₁ E3;have hn4 : H.C≤s₂.H.C:=QH hn₁ hn₂;have fin : ∀ (j : Option Code) (v : Bool),v=j.isNone→ba (kE (if j.isNone then .ready else .done) j (s₂.H.get id)) (fun bl=>K (.ret (.lit (.bool v))) (s₂.H.upd id bl)) →
              ∃cv w',(Instr.endRound b j).run P w₂=.ok cv w'/\fX P G Γ H w K (.returned cv) w':=by
            rintro j v rfl ⟨bl,hbl,hk⟩;obtain⟨R6,E6⟩:=lset (if j.isNone then .ready else .done) j;rw[hg₄]at hbl;obtain⟨_,_,_,_,_,_,_,heq,rfl⟩:=Ho hbl;simp only[Option.some.injEq,TE.loop.injEq]at heq;obtain⟨rfl,rfl,rfl,rfl,rfl,rfl,rfl⟩:=heq;exact⟨_,_,Hh hb5 j,.ret (.lit (.bool j.isNone)),_,Γ₂,TB.lit _,hk,R6,E4.trans hn4 E6,hn4⟩
          cases e with
          |normal=>cases x with
            |normal=>exact fin none true rfl hq
            |_=>exact hx.elim
          |ret=>cases x with
            |ret=>exact fin (some .ret) false rfl hq
            |_=>exact hx.elim
          |exit i=>cases x with
            |exit i' =>
              obtain rfl:i=i':=hx;exact fin (some (.exit i)) false rfl hq
            |_=>exact hx.elim
          |goto i=>cases x with
            |goto i' =>
              obtain rfl:i=i':=hx;exact fin (some (.goto i)) false rfl hq
            |_=>exact hx.elim
          |panic c=>cases x with
            |panic=>exact hq.elim
            |_=>exact hx.elim
          |outgrown=>cases x<;>exact hx.elim
        |_=>exact hx.elim
      |_=>exact hq.elim
def uW (hos:w'.os=w.os)(ht:w'.tape=w.tape)(ho:w'.output=w.output)(hs:w.heap.size<=w'.heap.size)(hk:∀b,b<w.heap.size->w'.heap[b]?=w.heap[b]?)(hz:∀a,a.block<w.heap.size->w'.frozen? a=w.frozen? a)(R:TG P G Γ H w):TJ Γ H w Γ H w'/\TG P G Γ H w':=by
  have E:TJ Γ H w Γ H w':=⟨hos,ht,ho,hs,fun b hb h=>⟨hk b hb,h⟩,fun _ _ _ x' hx=>⟨x',hx,TE.le_refl _ _ _⟩,hz,C9 hk,.refl _ _⟩
  refine⟨E,?_⟩;exact
    { L:=fun id g e cells hg=>by
        have h1:=R.L id g e cells hg;cases hΓ:Γ id with
        |none=>rw[hΓ]at h1;exact h1
        |some y =>
          obtain⟨b,base,n⟩:=y;rw[hΓ]at h1;obtain⟨c,a1,a2,a3,a4⟩:=h1;exact⟨c,by rw[hk b (R.lt _ _ _ _ hΓ)];exact a1,a2,a3,fun i hi=>let ⟨cv,b1,b2⟩:=a4 i hi;⟨cv,b1,b2.aU E Tx⟩⟩
      loop:=fun id st pend n env ps asg body hg=>by
        obtain⟨b,rr,a1,a2,a3,a4,a5,a6,a7,a8,a9⟩:=R.loop id st pend n env ps asg body hg;exact⟨b,rr,a1,by rw[hk b (R.lt _ _ _ _ a1)];exact a2,a3,a4,a5,a6,a7,a8,fun t ht=>(a9 t ht).aU E Tx⟩
      mp:=fun id es hg=>by
        obtain⟨b,a1,a2⟩:=R.mp id es hg;exact⟨b,a1,by rw[hk b (R.lt _ _ _ _ a1)];exact a2⟩
      ni:=R.ni
      inj:=R.inj
      nt:=R.nt
      lt:=fun id b base n h=>P5 (R.lt id b base n h) hs
      C:=R.C
      nr:=fun g cells h=>(R.nr g cells h).aU E (Nat.le_refl _)
      gsz:=R.lf E }
def oY:Option TE->Option (Option Code × TE)
  |some (.loop .busy ..)=>none
  |some (.loop _ pend n env ps asg body)=>some (pend,.loop .exhausted pend n env ps asg body)
  |_=>none
def zk (Q:AX->St->Prop)(s:St):Option Code->Prop
  |none=>Q .normal s
  |some .ret=>Q .ret s
  |some (.exit i)=>Q (.exit i) s
  |some (.goto i)=>Q (.goto i) s
  |_=>False
def uX (rd:Option Nat)(Q:AX->St->Prop)(ρ:Env)(id:Nat):TF->Tz->Prop
  |.ret _,H'=>dT H' rd/\ba (oY (H'.get id)) fun pb=>zk Q ⟨ρ,H'.upd id pb.2⟩ pb.1
  |.panic,H'=>dT H' rd/\Q .panic ⟨ρ,H'⟩
def Ht {pb:Option Code × TE}(h:oY x=some pb):∃st pend n env ps asg body,x=some (.loop st pend n env ps asg body)/\(st == .busy)=false/\pb=(pend,.loop .exhausted pend n env ps asg body):=by
  unfold oY at h;split at h
  · cases h
  · rename_i st pend n env ps asg body hne;cases h;refine⟨_,_,_,_,_,_,_,rfl,?_,rfl⟩;cases st with
    |busy=>exact absurd rfl (by first|exact hne|exact fun h=>hne _ _ _ _ _ _ h)
    |_=>rfl
  · cases h
section
variable {n:Nat} {rd:Option Nat} {Q:AX->St->Prop}
theorem W.rangeFunc {g:Operand}{ps:Array Tmp}{asg body:Code}{s:St}{f:FuncId}{first cap:List Ty}(hg:aj G s.ρ g=.nl f first cap)
    (h:ba (s.H.lay s.H.C (.loop .ready none n s.ρ ps asg body)) fun H1=>af P G f (first++[.ng s.H.C]++cap) H1 (uX rd Q s.ρ s.H.C)):W P G n rd (.rangeFunc g ps asg body) Q s:=by
  intro wb Γ a w rb hs hr;obtain⟨H1,hlay,hcall⟩:=h;have hlay2:H1=⟨fun j=>if j=s.H.C then some (.loop .ready none n s.ρ ps asg body) else s.H.get j,s.H.C+1⟩:=by
    unfold Tz.lay at hlay;rw[PZ rfl]at hlay;exact(Option.some.inj hlay).symm
  subst hlay2;refine wpIn_rangeFunc fun fn _=>?_;have he:=fW hs g;rw[hg]at he
  -- the world with the record
  have key : ∀ (w0 : World) (mark : List Deferred) (dblk : Nat),TJ Γ s.H w Γ s.H w0→TG P G Γ s.H w0 →
      oL wb Γ w0 (mark++a.defers) ->
      ∀w1,w1={ w0 with heap:=w0.heap.push (.loop { state:=.ready,pending:=none,fn:=fn,tmps:=a.tmps,params:=ps,assign:=asg,body:=body,defers:=dblk }) } ->
      (Instr.enterLoop fn a.tmps ps asg body (cX rb).round).run P w=.ok (w0.heap.size,mark) w1 ->
      ∃(l:Nat) (mark:List Deferred) (w₁:World) (d:Deferred) (w₁':World) (f:FuncId) (args:Array Value) (w₂:World),
      (Instr.enterLoop fn a.tmps ps asg body (cX rb).round).run P w=.ok (l,mark) w₁ /\
      (resolve a.eval (rangeCall g l) 0).run P w₁=.ok d w₁' /\
      (∀f',Target.leads P w₁' d.target d.args=some f'->(cX rb).fn f') /\
      (invoke d.target d.args).run P w₁'=.ok (.enter f args) w₂ /\
      ((cX rb).depth.isSome=true->1<=0) /\
      CallsIn (cX rb) (0-1) P f args w₂ (rangePost (cX rb) 0 P l (fo P G n wb rd rb (wr (.rangeFunc g ps asg body)) Γ s.H a w Q) { a with defers:=mark++a.defers }):=by
    intro w0 mark dblk E0 R0 hdef w1 hw1 hent
    let rec':Loop:={ state:=.ready,pending:=none,fn:=fn,tmps:=a.tmps,params:=ps,assign:=asg,body:=body,defers:=dblk }
    have hheap:w1.heap=w0.heap.push (.loop rec'):=(by rw[hw1]);have hsz1:w1.heap.size=w0.heap.size+1:=(by rw[hheap];simp);have hk1:∀b,b<w0.heap.size->w1.heap[b]?=w0.heap[b]?:=fun b hb=>by
      rw[hheap,R7];rw[PX U]
    have hget1:w1.heap[w0.heap.size]?=some (.loop rec'):=(by rw[hheap];simp);obtain⟨E1,R1⟩:=uW (w':=w1) (by rw[hw1]) (by rw[hw1]) (by rw[hw1]) U hk1 (fun a _=>mo hheap (fun _ _ _ h=>by cases h) a) R0
    let Γ1:ar:=fun i=>if i=s.H.C then some (w0.heap.size,0,0) else Γ i
    let H1:Tz:=⟨fun j=>if j=s.H.C then some (.loop .ready none n s.ρ ps asg body) else s.H.get j,s.H.C+1⟩
    have hfresh:∀i y,s.H.get i=some y->i≠s.H.C:=fun i y hy h=>by have:=R0.C i y hy;omega
    have hΓfresh:∀i x,Γ i=some x->i≠s.H.C:=fun i x hx=>let ⟨y,hy⟩:=R0.nt i x hx;hfresh i y hy
    have hΓ1:∀i,i≠s.H.C->Γ1 i=Γ i:=fun i hi=>by simp only[Γ1];rw[PX hi]
    have hH1:∀i,i≠s.H.C->H1.get i=s.H.get i:=fun i hi=>by simp only[H1];rw[PX hi]
    have E2:TJ Γ s.H w0 Γ1 H1 w1 :=
      { os:=by rw[hw1],tape:=by rw[hw1],output:=by rw[hw1],size:=U
        na:=fun b hb ho=>⟨hk1 b hb,by
          rintro⟨i,base,m,hi⟩;simp only[Γ1]at hi;split at hi
          · simp only[Option.some.injEq,Prod.mk.injEq]at hi;omega
          · exact ho ⟨i,base,m,hi⟩⟩
        Z:=fun i hi _ x' hx=>by
          rw[hH1 i U]at hx;refine⟨x',hx,?_⟩;have hΓi:Γ1 i=Γ i:=hΓ1 i U;cases x' with
          |L=>exact⟨Tx,fun _=>⟨hΓi,rfl,rfl⟩⟩
          |loop=>exact⟨hΓi,rfl,rfl,rfl,rfl,rfl⟩
          |mp=>exact hΓi
          |ni=>trivial
        np:=fun a _=>mo hheap (fun _ _ _ h=>by cases h) a
        kind:=qC hheap
        newb:=fun i b x y hi hlt=>by
          simp only[Γ1]at hi;split at hi
          · simp only[Option.some.injEq,Prod.mk.injEq]at hi;omega
          · exact⟨x,y,hi⟩ }
    have hn1:s.H.C<=H1.C:=Rc _;have tr:∀v cv,TB P Γ s.H w0 v cv->TB P Γ1 H1 w1 v cv:=fun v cv h=>h.aU E2 hn1;have R2:TG P G Γ1 H1 w1 :=
      { L:=fun i g e cells hi=>by
          by_cases hii:i=s.H.C
          · simp only[H1]at hi;rw[PZ hii]at hi;simp at hi
          · rw[hH1 i hii]at hi;have h:=R0.L i g e cells hi;rw[hΓ1 i hii];cases hΓ:Γ i with
            |none=>rw[hΓ]at h;exact h
            |some y =>
              obtain⟨b,base,m⟩:=y;rw[hΓ]at h;obtain⟨c,a1,a2,a3,a4⟩:=h;exact⟨c,by rw[hk1 b (R0.lt _ _ _ _ hΓ)];exact a1,a2,a3,fun j hj=>let ⟨cv,b1,b2⟩:=a4 j hj;⟨cv,b1,tr _ _ b2⟩⟩
        loop:=fun i st2 pend2 n2 env2 ps2 asg2 body2 hi=>by
          by_cases hii:i=s.H.C
          · simp only [H1] at hi;rw [PZ hii] at hi;simp only [Option.some.injEq,TE.loop.injEq] at hi;obtain ⟨rfl,rfl,rfl,rfl,rfl,rfl,rfl⟩:=hi;refine ⟨w0.heap.size,rec',by simp only [Γ1];rw [PZ hii],hget1,rfl,rfl,rfl,rfl,rfl,hs.size,fun t ht=>?_⟩;have:=((hs.env t).aU E0 Tx).aU E2 hn1;have e1 : a.tmps.getD t undef=a.tmps[t]'ht:=by
              have:t<a.tmps.size:=ht;simp[this]
            rw[e1]at this;exact this
          · rw[hH1 i hii]at hi;obtain⟨b2,r2,a1,a2,a3,a4,a5,a6,a7,a8,a9⟩:=R0.loop i _ _ _ _ _ _ _ hi;exact⟨b2,r2,by rw[hΓ1 i hii];exact a1,by rw[hk1 b2 (R0.lt _ _ _ _ a1)];exact a2,a3,a4,a5,a6,a7,a8,fun t ht=>tr _ _ (a9 t ht)⟩
        mp:=fun i es hi=>by
          by_cases hii:i=s.H.C
          · simp only[H1]at hi;rw[PZ hii]at hi;simp at hi
          · rw[hH1 i hii]at hi;obtain⟨b2,a1,a2⟩:=R0.mp i _ hi;exact⟨b2,by rw[hΓ1 i hii];exact a1,by rw[hk1 b2 (R0.lt _ _ _ _ a1)];exact a2⟩
        ni:=fun i hi=>by
          by_cases hii:i=s.H.C
          · simp only[H1]at hi;rw[PZ hii]at hi;simp at hi
          · rw[hH1 i hii]at hi;rw[hΓ1 i hii];exact R0.ni i hi
        inj:=fun i i' b base m base' m' h h'=>by
          by_cases h1:i=s.H.C
          · by_cases h2:i'=s.H.C
            · rw[h1,h2]
            · rw[hΓ1 i' h2]at h';simp only[Γ1]at h;rw[PZ h1]at h;simp only[Option.some.injEq,Prod.mk.injEq]at h;have:=R0.lt _ _ _ _ h';omega
          · by_cases h2:i'=s.H.C
            · rw[hΓ1 i h1]at h;simp only[Γ1]at h';rw[PZ h2]at h';simp only[Option.some.injEq,Prod.mk.injEq]at h';have:=R0.lt _ _ _ _ h;omega
            · rw[hΓ1 i h1]at h;rw[hΓ1 i' h2]at h';exact R0.inj _ _ _ _ _ _ _ h h'
        nt:=fun i x hi=>by
          by_cases hii:i=s.H.C
          · simp only[H1];rw[PZ hii];exact⟨_,rfl⟩
          · rw[hΓ1 i hii]at hi;rw[hH1 i hii];exact R0.nt i x hi
        lt:=fun i b base m hi=>by
          by_cases hii:i=s.H.C
          · simp only[Γ1]at hi;rw[PZ hii]at hi;simp only[Option.some.injEq,Prod.mk.injEq]at hi;omega
          · rw[hΓ1 i hii]at hi;have:=R0.lt _ _ _ _ hi;omega
        C:=fun i y hi=>by
          by_cases hii:i=s.H.C
          · show i<s.H.C+1;omega
          · rw[hH1 i hii]at hi;have:=R0.C i y hi;show i<s.H.C+1;omega
        nr:=fun g cells h=>tr _ _ (R0.nr g cells h)
        gsz:=R0.lf E2 }
    have E3:TJ Γ s.H w Γ1 H1 w1:=E0.trans Tx E2;generalize hcg:a.eval g=cg at he;cases he with
    | @nl _ _ _ fs cs hfs hcs hf hc =>
      obtain⟨⟨fn',hfn',hb',hname'⟩,hcall⟩:=hcall;have hyld:TB P Γ1 H1 w1 (.ng s.H.C) (.func (.yield w0.heap.size) #[] #[]) :=
        .ng ⟨Rq _,rfl,by simp[H1],fun st pend n env ps asg body hgi=>⟨w0.heap.size,by simp[Γ1],rfl⟩,fun es hgi=>by simp[H1]at hgi⟩
      have hargs:cG P Γ1 H1 w1 (first++[.ng s.H.C]++cap) (fs.toArray++#[.func (.yield w0.heap.size) #[] #[]]++cs.toArray):=by
        refine qQ (qQ ⟨by simpa using hfs,fun i h1 h2=>?_⟩ ⟨rfl,fun i h1 h2=>?_⟩) ⟨by simpa using hcs,fun i h1 h2=>?_⟩
        · exact(by simpa using hf i h1 (by simpa using h2):TB P Γ s.H w first[i] (fs.toArray[i])).aU E3 hn1
        · have:i=0:=(by simp at h1;omega);subst this;exact hyld
        · exact(by simpa using hc i h1 (by simpa using h2):TB P Γ s.H w cap[i] (cs.toArray[i])).aU E3 hn1
      refine⟨w0.heap.size,mark,w1,{ target:=.fn (.func f) cs.toArray,args:=fs.toArray++#[.func (.yield w0.heap.size) #[] #[]] },w1,f,fs.toArray++#[.func (.yield w0.heap.size) #[] #[]]++cs.toArray,w1,hent,?_,fun _ _=>trivial,?_,fun hc=>by simp[Fence.wide]at hc,?_⟩
      · have hm:Array.map a.eval #[Operand.const (.func (.yield w0.heap.size) #[] #[])]=#[.func (.yield w0.heap.size) #[] #[]]:=(by simp[Act.eval]);unfold resolve;simp only[hcg,hm];rfl
      · show (callFunc f (fs.toArray++#[.func (.yield w0.heap.size) #[] #[]]++cs.toArray)).run P w1=_;unfold callFunc;rw[ak (run_program P w1)];simp only[hfn'];rw[hname',hb'];rfl
      · have h4 : CallsIn (cX rb) 0 P f (fs.toArray++#[.func (.yield w0.heap.size) #[] #[]]++cs.toArray) w1 _:=hcall Γ1 w1 _ R2 hargs;refine h4.mono ?_;rintro e w3 ⟨r,H',Γ',hend,hk,R',E',hn'⟩;have E5 : TJ Γ s.H w Γ' H' w3:=E3.trans hn1 E';have hn5 : s.H.C≤H'.C:=QH hn1 hn';have mkS : ∀ (H'' : Tz) (w4 : World),TG P G Γ' H'' w4→TJ Γ s.H w Γ' H'' w4→TJ Γ s.H w0 Γ' H'' w4→s.H.C≤H''.C→TS P G n wb Γ' ⟨s.ρ,H''⟩ { a with defers:=mark++a.defers } w4 :=
          fun H'' w4 R'' E'' E0'' hn''=>⟨hs.size,fun t=>(hs.env t).aU E'' hn'',R'',hdef.aU E0'',QH hs.low E''.size⟩
        cases e with
        |returned cv =>
          cases r with
          |panic=>exact hend.elim
          |ret v =>
            obtain⟨hri,pb,hpb,hj⟩:=hk;obtain⟨st,pend,n2,env2,ps2,asg2,body2,hgl,hbusy,rfl⟩:=Ht hpb;obtain⟨b,r2,hΓb,hb,l1,l2,l3,l4,l5,l6,l7,lset⟩:=re R' hgl;obtain⟨R6,E6⟩:=lset .exhausted r2.pending;have hbl:b=w0.heap.size:=by
              obtain⟨x,hx,hle⟩:=E'.Z s.H.C (Rq _) (P5 (Rq _) hn') _ hgl;have hx':H1.get s.H.C=some (.loop .ready none n s.ρ ps asg body):=(by simp[H1]);rw[hx']at hx;cases hx;have h1:=hle.1;rw[hΓb]at h1;simp only[Γ1,if_true,Option.some.injEq,Prod.mk.injEq]at h1;exact h1.1
            subst hbl;have hend':=Hi (P:=P) hb (by rw[l1];exact hbusy);rw[l2]at R6 E6 hend';refine⟨pend,_,hend',?_⟩;have E7:=E5.trans hn5 E6;have hS:=mkS _ _ R6 E7 ((E2.trans hn1 E').trans hn5 E6) hn5;have hri':dT (H'.upd s.H.C (.loop .exhausted pend n2 env2 ps2 asg2 body2)) rd:=by
              cases rd with
              |none=>trivial
              |some i =>
                obtain⟨st3,pend3,n3,env3,ps3,asg3,body3,h3⟩:=hri;by_cases hii:i=s.H.C
                · exact⟨_,_,_,_,_,_,_,by rw[ab,PZ hii]⟩
                · exact⟨_,_,_,_,_,_,_,by rw[ab,PX hii];exact h3⟩
            have hR:=hr.aU E7 hn5 hs.heap hri';have post:∀(e:Exit) (x:AX),uC e x->Q x ⟨s.ρ,H'.upd s.H.C (.loop .exhausted pend n2 env2 ps2 asg2 body2)⟩->fo P G n wb rd rb (wr (.rangeFunc g ps asg body)) Γ s.H a w Q e { a with defers:=mark++a.defers } _ :=
              fun e x hx hq=>⟨x,_,Γ',hx,hq,hS,E7,hn5,hR,fun t _=>rfl⟩
            simp only at hj;cases pend with
            |none=>exact post .normal .normal trivial hj
            |some c =>
              cases c with
              |ret=>exact wpIn_ret (post .ret .ret trivial hj)
              |exit i=>exact wpIn_exit (post (.exit i) (.exit i) rfl hj)
              |goto i=>exact wpIn_goto (post (.goto i) (.goto i) rfl hj)
              |_=>exact hj.elim
        |panicked chain =>
          cases r with
          |ret v=>exact hend.elim
          |panic =>
            exact⟨.panic,_,Γ',hend,hk.2,mkS _ _ R' E5 (E2.trans hn1 E') hn5,E5,hn5,hr.aU E5 hn5 hs.heap hk.1,fun t _=>rfl⟩
        |outgrown=>cases r<;>exact hend.elim
  cases rb with
  |none =>
    let w0:World:={ w with heap:=w.heap.push (.deferred (some [])) }
    have hk0:∀b,b<w.heap.size->w0.heap[b]?=w.heap[b]?:=fun b hb=>by
      show (w.heap.push _)[b]?=_;rw[R7,PX U]
    obtain⟨E0,R0⟩:=uW (w:=w) (w':=w0) rfl rfl rfl (by simp[w0]) hk0 (fun a _=>mo (o:=.deferred (some [])) rfl (fun _ _ _ h=>by cases h) a) hs.heap;refine key w0 [{ target:=.collected w.heap.size,args:=#[] }] w.heap.size E0 R0 ?_ _ rfl rfl;obtain⟨m,hm,hmk⟩:=hs.defers;refine⟨{ target:=.collected w.heap.size,args:=#[] } :: m,by rw[hm];rfl,fun d hd=>?_,?_⟩
    · simp only[List.mem_cons]at hd;rcases hd with rfl|hd
      · refine⟨w.heap.size,rfl,hs.low,?_,by simp[w0]⟩;rintro⟨i,base,m,hi⟩;have:=hs.heap.lt _ _ _ _ hi;omega
      · obtain⟨r,h1,h2,h3⟩:=hmk.1 d hd;exact⟨r,h1,h2,h3.aU E0⟩
    · refine SL.2 ⟨fun d hd=>?_,hmk.2⟩;obtain⟨r,h1,h2,h3⟩:=hmk.1 d hd;rw[h1];intro he;simp only[Target.collected.injEq]at he;have h4:=h3.2;rw[<- he,Q1 Tx]at h4;cases h4
  |some b0 =>
    have hlr:∃r,w.heap[b0]?=some (.loop r):=by
      cases rd with
      |none=>cases hr
      |some id =>
        obtain⟨b,st,pend,n',env,ps',asg',body',h1,h2,h3⟩:=hr;obtain⟨b',r,h4,h5,_⟩:=hs.heap.loop _ _ _ _ _ _ _ _ h3;rw[h2]at h4;simp only[Option.some.injEq,Prod.mk.injEq]at h4 h1;rw[h1,h4.1];exact⟨r,h5⟩
    obtain⟨r,hlr⟩:=hlr;refine key w [] r.defers (TJ.refl _ _ _) hs.heap (by simpa using hs.defers) _ rfl ?_;show (Instr.enterLoop fn a.tmps ps asg body (some b0)).run P w=_;unfold Instr.enterLoop;simp only[bind_assoc,pure_bind];rw[ak (oX hlr)];rfl
end
end Go.Hx
namespace Go.Hx
variable {P:Program} {G:Nat->Option (List Ty)} {Γ Γ':ar} {H H':Tz} {w w':World}
variable {f:FuncId}{args args':List Ty}{v':Ty}
def cj:Tz:=⟨fun _=>none,0⟩
inductive TP (H:Tz):Ty->Ty->Prop
 |lit (v:Value):TP H (.lit v) (.lit v)
 |nil:TP H (.lit (.slice none 0 0)) (.M 0 [])
 |nj:TP H (.M 0 []) (.M 0 [])
 |agg {c c':List Ty} (hl:c'.length=c.length) (h:∀i (h:i<c.length) (h':i<c'.length),TP H c[i] c'[i]):TP H (.agg c) (.agg c')
 |nf {c c':List Ty} (hl:c'.length=c.length) (h:∀i (h:i<c.length) (h':i<c'.length),TP H c[i] c'[i]):TP H (.nf c) (.nf c')
 |V {id g o l z:Nat} {e:TypeId} {cells c':List Ty} (hg:H.get id=some (.L g e cells)) (hl:c'.length=l*z)
   (h:∀i (h:i<l*z) (h2:o+i<cells.length) (h':i<c'.length),TP H cells[o+i] c'[i]):TP H (.V id g o l z) (.M l c')
def TP.sound (R:TG P G Γ' H' w){N:Nat}(h1:∀b,Γ'.c9 b->N<=b)(h2:∀b,Γ.c9 b->b<N){v:Ty}(hf:TP H' v v'):∀ {cv:Value},TB P Γ' H' w v cv->TB P Γ H w v' cv:=by
 induction hf with
 |lit v=>intro cv h;cases h;exact .lit _
 |nil=>intro cv h;cases h;exact .nj none 0
 |nj =>
  intro cv h;cases h with
  |nj a cap=>exact .nj a cap
  |M hb hlt hlen hcs hcell hrel=>exact .nj _ _
 |agg hl hc ih =>
  intro cv h;cases h with
  |agg hcs hrel=>exact .agg U fun i a b=>ih i U a (hrel i U b)
 |nf hl hc ih =>
  intro cv h;cases h with
  |nf hcs hrel=>exact .nf U fun i a b=>ih i U a (hrel i U b)
 | @V id g o l z e cells c' hg hl hc ih =>
  intro cv h;cases h with
  |V h =>
   obtain⟨_,_,h0,h3⟩:=h;have h4:=(h3 _ _ _ hg).2 rfl;have harr:=R.L id g e cells hg;cases hΓ:Γ' id with
   |none =>
    rw[hΓ]at h4;obtain⟨rfl,rfl,rfl⟩:=h4;have:c'=[]:=P1 (by simpa using hl);subst this;exact .nj _ _
   |some y =>
    obtain⟨b,base,n⟩:=y;rw[hΓ]at h4 harr;obtain⟨a,cap,rfl,hcap,hoff,hor⟩:=h4;obtain⟨c,a1,a2,a3,a4⟩:=harr;rcases hor with ⟨rfl,hn⟩|⟨rfl,rfl⟩
    ·have hcell:∀i,i<l*z->∃cv,c[base+(o+i)]?=some cv/\∀(h:o+i<cells.length),TB P Γ' H' w cells[o+i] cv:=fun i hi=>by
      obtain⟨cv,b1,b2⟩:=a4 (o+i) U;exact⟨cv,b1,fun _=>b2⟩
     let cs:List Value:=(List.range (l*z)).map fun i=>(c[base+(o+i)]?).getD undef
     have hcs:cs.length=c'.length:=(by simp[cs,hl]);refine .M (cs:=cs) (fun ho=>?_) (R.lt _ _ _ _ hΓ) hcap hcs (fun i hi=>?_) fun i hi hi'=>?_
     ·have:=h2 b ho;have:=h1 b ⟨id,base,n,hΓ⟩;omega
     ·have hi2:i<l*z:=(by rw[hcs,hl]at hi;exact hi);obtain⟨cv,b1,_⟩:=hcell i hi2;have:cs[i]=cv:=(by simp[cs,b1]);rw[this];have he:base+o+i=base+(o+i):=U;simp only[World.cell?,a1,he];exact b1
     ·have hi2:i<l*z:=(by rw[hl]at hi;exact hi);obtain⟨cv,b1,b2⟩:=hcell i hi2;have:cs[i]=cv:=(by simp[cs,b1]);rw[this];exact ih i hi2 U hi (b2 U)
    ·have:c'=[]:=P1 (by simpa using hl);subst this;exact .nj _ _
def Dz (H:Tz):T8 (fun _=>True) H cj:=⟨fun _ _=>rfl,fun _ _ h=>absurd trivial h,fun _ h=>absurd trivial h⟩
def xT (b:Nat):¬(c7 (fun _=>True) Γ).c9 b:=by
 rintro⟨id,base,n,h⟩;exact(hJ h).1 trivial
def oI (o:Option Ty)(r:TF)(H':Tz):Prop:=match o with
 |some v'=>∃v,r=.ret v/\TP H' v v'
 |none=>r=.panic
def xU:Option Ty->TF
 |some v=>.ret v
 |none=>.panic
def af.DA {o:Option Ty}(hG:dJ G)(hl:args'.length=args.length)(hv:∀i (h:i<args.length) (h':i<args'.length),Fz (fun _=>True) H 0 args[i] args'[i])
  (h:af P G f args' cj (oI o)):af P G f args H fun r H'=>r=xU o/\H'=H:=by
 refine⟨h.1,fun Γ w cargs R hr=>?_⟩;have F:=Dz H;have R0:TG P G (c7 (fun _=>True) Γ) cj w:=F.rel hG R;have hr0:cG P (c7 (fun _=>True) Γ) cj w args' cargs:=⟨by have:=hr.1;omega,fun i h1 h2=>(hv i U h1).sound R F (hr.2 i U h2)⟩
 refine(h.2 _ w cargs R0 hr0).mono ?_;rintro e w' ⟨r,H',Γ',hend,hg,R',E,hn⟩;have hown:∀b,Γ'.c9 b->w.heap.size<=b:=fun b hb=>Sx fun hlt=>(E.na b hlt (xT b)).2 hb;have hown2:∀b,Γ.c9 b->b<w.heap.size:=fun b ⟨id,base,n,hb⟩=>R.lt _ _ _ _ hb;obtain⟨E2,R2⟩:=uW E.os E.tape E.output E.size (fun b hb=>(E.na b hb (xT b)).1) E.np R;refine⟨xU o,H,Γ,?_,⟨rfl,rfl⟩,R2,E2,Tx⟩;cases o with
 |some v' =>
  obtain⟨v,rfl,hf⟩:=hg;cases e with
  |returned cv=>exact hf.sound R' hown hown2 hend
  |_=>exact hend.elim
 |none =>
  have hg':r=.panic:=hg;subst hg';cases e with
  |panicked chain=>exact hend
  |_=>exact hend.elim
def af.frame (hG:dJ G)(hl:args'.length=args.length)(hv:∀i (h:i<args.length) (h':i<args'.length),Fz (fun _=>True) H 0 args[i] args'[i])
  (h:af P G f args' cj fun r H'=>∃v,r=.ret v/\TP H' v v'):af P G f args H fun r H'=>r=.ret v'/\H'=H:=af.DA (o:=some v') hG hl hv h
end Go.Hx
namespace Go.Hx
variable {P:Program} {G:Nat->Option (List Ty)} {Γ Γ':ar} {H H':Tz} {w w':World}
variable {g id:Nat}{v':Ty}{e:TypeId}
inductive TW (lo:Nat)(H:Tz):Ty->Ty->Prop
  |lit (v:Value):TW lo H (.lit v) (.lit v)
  |nil:TW lo H (.lit (.slice none 0 0)) (.M 0 [])
  |nj:TW lo H (.M 0 []) (.M 0 [])
  |agg {c c':List Ty} (hl:c'.length=c.length) (h:∀i (h:i<c.length) (h':i<c'.length),TW lo H c[i] c'[i]):TW lo H (.agg c) (.agg c')
  |nf {c c':List Ty} (hl:c'.length=c.length) (h:∀i (h:i<c.length) (h':i<c'.length),TW lo H c[i] c'[i]):TW lo H (.nf c) (.nf c')
  | V {id g o l z : Nat} {e : TypeId} {cells c' : List Ty} (hlo : lo≤id) (hg : H.get id=some (.L g e cells)) (hl : c'.length=l*z)
      (h:∀i (h:i<l*z) (h2:o+i<cells.length) (h':i<c'.length),TW lo H cells[o+i] c'[i]):TW lo H (.V id g o l z) (.M l c')
def TW.sound (R:TG P G Γ' H' w){N lo:Nat}(h1:∀id b x y,lo<=id->Γ' id=some (b,x,y)->N<=b)(h2:∀b,Γ.c9 b->b<N){v:Ty}(hf:TW lo H' v v'):∀ {cv:Value},TB P Γ' H' w v cv->TB P Γ H w v' cv:=by
  induction hf with
  |lit v=>intro cv h;cases h;exact .lit _
  |nil=>intro cv h;cases h;exact .nj none 0
  |nj =>
    intro cv h;cases h with
    |nj a cap=>exact .nj a cap
    |M hb hlt hlen hcs hcell hrel=>exact .nj _ _
  |agg hl hc ih =>
    intro cv h;cases h with
    |agg hcs hrel=>exact .agg U fun i a b=>ih i U a (hrel i U b)
  |nf hl hc ih =>
    intro cv h;cases h with
    |nf hcs hrel=>exact .nf U fun i a b=>ih i U a (hrel i U b)
  | @V id g o l z e cells c' hlo hg hl hc ih =>
    intro cv h;cases h with
    |V h =>
      obtain⟨_,_,h0,h3⟩:=h;have h4:=(h3 _ _ _ hg).2 rfl;have harr:=R.L id g e cells hg;cases hΓ:Γ' id with
      |none =>
        rw[hΓ]at h4;obtain⟨rfl,rfl,rfl⟩:=h4;have:c'=[]:=P1 (by simpa using hl);subst this;exact .nj _ _
      |some y =>
        obtain⟨b,base,n⟩:=y;have hNb:=h1 id b base n hlo hΓ;rw[hΓ]at h4 harr;obtain⟨a,cap,rfl,hcap,hoff,hor⟩:=h4;obtain⟨c,a1,a2,a3,a4⟩:=harr;rcases hor with ⟨rfl,hn⟩|⟨rfl,rfl⟩
        · have hcell : ∀ i,i<l*z→∃ cv,c[base+(o+i)]?=some cv∧∀ (h : o+i<cells.length),TB P Γ' H' w cells[o+i] cv:=fun i hi=>by
            obtain⟨cv,b1,b2⟩:=a4 (o+i) U;exact⟨cv,b1,fun _=>b2⟩
          let cs:List Value:=(List.range (l*z)).map fun i=>(c[base+(o+i)]?).getD undef
          have hcs:cs.length=c'.length:=(by simp[cs,hl]);refine .M (cs:=cs) (fun ho=>?_) (R.lt _ _ _ _ hΓ) hcap hcs (fun i hi=>?_) fun i hi hi'=>?_
          · have:=h2 b ho;omega
          · have hi2:i<l*z:=(by rw[hcs,hl]at hi;exact hi);obtain⟨cv,b1,_⟩:=hcell i hi2;have:cs[i]=cv:=(by simp[cs,b1]);rw[this];have he:base+o+i=base+(o+i):=U;simp only[World.cell?,a1,he];exact b1
          · have hi2:i<l*z:=(by rw[hl]at hi;exact hi);obtain⟨cv,b1,b2⟩:=hcell i hi2;have:cs[i]=cv:=(by simp[cs,b1]);rw[this];exact ih i hi2 U hi (b2 U)
        · have:c'=[]:=P1 (by simpa using hl);subst this;exact .nj _ _
def ly (H:Tz)(id:Nat):Tz:=⟨fun j=>if j=id then H.get id else none,H.C⟩
def qK (H:Tz)(id:Nat):(ly H id).get id=H.get id:=PZ rfl
def Dy (hg:H.get id=some (.L g e []))(hid:id<H.C):T8 (fun j=>j≠id) H (ly H id) where
  gone j hj:=PX hj
  kept j b hj hb:=by
    have hji:j=id:=SP.1 hj;subst hji;refine⟨hid,b,by rw[qK];exact hb,?_⟩;rw[hg]at hb;cases hb;exact⟨rfl,rfl,rfl,fun i h=>absurd h (Qf _)⟩
  none j hj hn:=by
    have hji:j=id:=SP.1 hj;subst hji;rw[qK];exact hn
def af.hole {f:FuncId}{args args':List Ty}(hG:dJ G)(hg:H.get id=some (.L g e []))(hid:id<H.C)(hl:args'.length=args.length)
    (hv:∀i (h:i<args.length) (h':i<args'.length),Fz (fun j=>j≠id) H H.C args[i] args'[i])
    (h:af P G f args' (ly H id) fun r H'=>∃v,r=.ret v/\TW H.C H' v v'):af P G f args H fun r H'=>r=.ret v'/\H'=H:=by
  refine⟨h.1,fun Γ w cargs R hr=>?_⟩;have F:=Dy hg hid;have R0:TG P G (c7 (fun j=>j≠id) Γ) (ly H id) w:=F.rel hG R;have hr0:cG P (c7 (fun j=>j≠id) Γ) (ly H id) w args' cargs:=⟨by have:=hr.1;omega,fun i h1 h2=>(hv i U h1).sound R F (hr.2 i U h2)⟩
  refine(h.2 _ w cargs R0 hr0).mono ?_;rintro e' w' ⟨r,H',Γ',hend,⟨v,rfl,hf⟩,R',E,hn⟩;have only:∀j x,c7 (fun j=>j≠id) Γ j=some x->j=id/\Γ id=some x:=fun j x hj=>by
    obtain⟨h1,h2⟩:=hJ hj;have hji:j=id:=SP.1 h1;subst hji;exact⟨rfl,h2⟩
  have same:∀b,b<w.heap.size->(∀base n,Γ id≠some (b,base,n))->w'.heap[b]?=w.heap[b]?:=fun b hb hno=>(E.na b hb fun ⟨j,base,n,hj⟩=>hno base n (only j _ hj).2).1;have E2:TJ Γ H w Γ H w':=⟨E.os,E.tape,E.output,E.size,fun b hb ho=>⟨same b hb fun base n h=>ho ⟨id,base,n,h⟩,ho⟩,fun _ _ _ x' hx=>⟨x',hx,TE.le_refl _ _ _⟩,E.np,E.kind,.refl _ _⟩
  have other:∀j b base n,Γ j=some (b,base,n)->j≠id->w'.heap[b]?=w.heap[b]?:=fun j b base n hj hji=>same b (R.lt _ _ _ _ hj) fun base' n' h=>hji (R.inj _ _ _ _ _ _ _ hj h);have R2:TG P G Γ H w' :=
    { L:=fun j g1 e1 cells h1=>by
        have h2:=R.L j g1 e1 cells h1;cases hΓ:Γ j with
        |none=>rw[hΓ]at h2;exact h2
        |some y =>
          obtain⟨b,base,n⟩:=y;rw[hΓ]at h2;obtain⟨c,a1,a2,a3,a4⟩:=h2;by_cases hji:j=id
          · subst hji;rw[hg]at h1;cases h1;obtain⟨c',b1,b2⟩:=E.kind b c e (0,0) a1;exact⟨c',b1,b2.trans a2,a3,fun i hi=>absurd hi (Qf _)⟩
          · exact⟨c,by rw[other j b base n hΓ hji];exact a1,a2,a3,fun i hi=>let ⟨cv,b1,b2⟩:=a4 i hi;⟨cv,b1,b2.aU E2 Tx⟩⟩
      loop:=fun j st pend n env ps asg body h1=>by
        have hji:j≠id:=fun h=>by rw[h,hg]at h1;cases h1
        obtain⟨b,rr,a1,a2,a3,a4,a5,a6,a7,a8,a9⟩:=R.loop j st pend n env ps asg body h1;exact⟨b,rr,a1,by rw[other j b 0 0 a1 hji];exact a2,a3,a4,a5,a6,a7,a8,fun t ht=>(a9 t ht).aU E2 Tx⟩
      mp:=fun j es h1=>by
        have hji:j≠id:=fun h=>by rw[h,hg]at h1;cases h1
        obtain⟨b,a1,a2⟩:=R.mp j es h1;exact⟨b,a1,by rw[other j b 0 0 a1 hji];exact a2⟩
      ni:=R.ni
      inj:=R.inj
      nt:=R.nt
      lt:=fun j b base n h=>P5 (R.lt j b base n h) E.size
      C:=R.C
      nr:=fun g cells h=>(R.nr g cells h).aU E2 (Nat.le_refl _)
      gsz:=R.lf E2 }
  refine⟨.ret v',H,Γ,?_,⟨rfl,rfl⟩,R2,E2,Tx⟩;cases e' with
  |returned cv =>
    refine TW.sound (N:=w.heap.size) R' (fun j b x y hj hb=>?_) (fun b ⟨j,base,n,hb⟩=>R.lt _ _ _ _ hb) hf hend;refine Sx fun hlt=>?_;obtain⟨x',y',h3⟩:=E.newb j b x y hb hlt;have:=(only j _ h3).1;omega
  |_=>exact hend.elim
end Go.Hx
namespace Go.Hx.Ev
open Go.Hx
variable {P:Program} {G:Nat->Option (List Ty)} {Γ Γ':ar} {H H':Tz} {w w':World}
variable {r:Nat}{e g:Nat->Option TE}
def bP (e g:Nat->Option TE):Nat->Option TE:=fun j=>match e j with
 |some b=>some b
 |none=>g j
def kx (e:Option (Nat × TE)):Nat->Option TE:=fun j=>match e with
 |some (k,b)=>if j=k then some b else none
 |none=>none
def xN (e:Option (Nat × TE))(g:Nat->Option TE):bP (kx e) g=cZ e g:=by
 funext j
 cases e with
 |none=>rfl
 |some kb =>
  obtain⟨k,b⟩:=kb;simp only[bP,kx,cZ];by_cases h:j=k
  ·rw[PZ h,PZ h]
  ·rw[PX h,PX h]
def iW (P:Program)(G:Nat->Option (List Ty))(fv:Ty)(args:List Ty)(H:Tz)(v:Ty)(e:Nat->Option TE)(k:Nat)(f:FP):Prop :=
 (∀r,r∈f.rs->r<H.C)/\(∀r,(e r).isSome=true->r∈f.nk/\((r∈f.rs/\∃g t c,H.get r=some (.L g t c))\/(H.C<=r/\r<H.C+k)))/\(∀c,c<k->(e (H.C+c)).isSome=true) /\
 ∀H2:Tz,(∀r,r∈f.rs->H2.get r=H.get r)->(∀c,c<k->H2.get (H.C+c)=some .ni)->H.C+k<=H2.C->aE P G fv args H2 fun r H3=>r=.ret v/\H3=⟨bP e H2.get,H2.C⟩
def bA (P:Program)(G:Nat->Option (List Ty))(o:Oper)(K:FP->St->Prop)(s:St):Prop :=
 match o.op with
 |.call { callee:=.value fv,args,.. }=>∃v e k f,iW P G (aj G s.ρ fv) (args.toList.map (aj G s.ρ)) s.H v e k f/\K f ⟨aD s.ρ o.dst v,⟨bP e s.H.get,s.H.C+k⟩⟩
 |op=>ba (ah P G s.ρ s.H s.H.C op) fun vH=>K (bn P G s.ρ s.H.C op) ⟨aD s.ρ o.dst vH.1,vH.2⟩
def cD (P:Program)(G:Nat->Option (List Ty))(all:Array Oper)(tail:St->Prop):List Nat->Nat->List (Nat × FP)->List Oper->St->Prop
 |b :: bs,i,acc,o :: rest,s=>ba (dG all s.ρ o) fun t=>if t=true then bA P G o (fun f s'=>eY b f acc/\cD P G all tail bs (i+1) (dU i f acc) rest s') s
   else cD P G all tail bs (i+1) acc rest ⟨aD s.ρ o.dst (.lit undef),s.H⟩
 |_,_,_,[],s=>tail s
 | [],_,_,_ :: _,_=>False
structure Dt where
 v:Ty
 e:Nat->Option TE
 al:Nat
 f:FP
def aZ (all:Array Oper)(d:Nat->Dt)(ρ0:Env):Nat->(Nat->Bool)->Env
 |0,_=>ρ0
 |n+1,D=>if D n then aD (aZ all d ρ0 n D) (eJ all n) (d n).v else aZ all d ρ0 n D
def aP (d:Nat->Dt)(g0:Nat->Option TE):Nat->(Nat->Bool)->Nat->Option TE
 |0,_=>g0
 |n+1,D=>if D n then bP (d n).e (aP d g0 n D) else aP d g0 n D
def aB (d:Nat->Dt):Nat->Nat
 |0=>0
 |n+1=>aB d n+(d n).al
def cI (x:Dt)(r:Nat):Prop:=(x.e r).isSome=true
def kz (h:¬(e r).isSome=true):bP e g r=g r:=by
 unfold bP;cases he:e r with
 |none=>rfl
 |some b=>rw[he]at h;exact absurd rfl h
def xO {g':Nat->Option TE}(h:(e r).isSome=true):bP e g r=bP e g' r:=by
 unfold bP;cases he:e r with
 |none=>rw[he]at h;cases h
 |some b=>rfl
def ub {g':Nat->Option TE}(h:g r=g' r):bP e g r=bP e g' r:=by
 unfold bP;rw[h]
def Dq {e':Nat->Option TE}(h:∀r,(e r).isSome=true->¬(e' r).isSome=true):bP e' (bP e g)=bP e (bP e' g):=by
 funext r
 by_cases hx:(e r).isSome=true
 ·rw[kz (h r hx)];exact xO hx
 ·rw[kz (g:=bP e' g) hx];exact ub (kz hx)
section
variable {all:Array Oper} {d d':Nat->Dt} {ρ0:Env} {g0 g0':Nat->Option TE} {D D':Nat->Bool}
def lk {t:Tmp}:∀ {n:Nat},(∀j,j<n->eJ all j=some t->D j=D' j)->aZ all d ρ0 n D t=aZ all d ρ0 n D' t:=by
 intro n
 induction n with
 |zero=>intro _;rfl
 |succ n ih =>
  intro h;have h0:=ih fun j hj=>h j U;simp only[aZ];by_cases hd:eJ all n=some t
  ·rw[h n U hd];split
   ·exact qV h0
   ·exact h0
  ·have:∀(b:Bool) (ρ:Env),(if b=true then aD ρ (eJ all n) (d n).v else ρ) t=ρ t:=by
    intro b ρ;split
    ·exact mM hd
    ·rfl
   rw[this,this];exact h0
def uc {m:Nat}:∀ {n:Nat},m<=n->aZ all d ρ0 n (fun j=>decide (j<m))=aZ all d ρ0 m fun _=>true:=by
 have low:∀k,k<=m->aZ all d ρ0 k (fun j=>decide (j<m))=aZ all d ρ0 k fun _=>true:=by
  intro k
  induction k with
  |zero=>intro _;rfl
  |succ k ih =>
   intro hk;simp only[aZ];rw[ih U,PZ (by simp;omega)];simp
 intro n
 induction n with
 |zero =>
  intro hm;obtain rfl:m=0:=U
  exact low 0 (U)
 |succ n ih =>
  intro hm;by_cases h:m=n+1
  ·subst h;exact low (n+1) (U)
  ·simp only[aZ];rw[PX (by simp;omega)];exact ih (U)
def ll {r:Nat}:∀ {n:Nat},(∀j,j<n->cI (d j) r->D j=D' j)->aP d g0 n D r=aP d g0 n D' r:=by
 intro n
 induction n with
 |zero=>intro _;rfl
 |succ n ih =>
  intro h;have h0:=ih fun j hj=>h j U;simp only[aP];by_cases hd:cI (d n) r
  ·rw[h n U hd];split
   ·exact ub h0
   ·exact h0
  ·have:∀(b:Bool) (g:Nat->Option TE),(if b=true then bP (d n).e g else g) r=g r:=by
    intro b g;split
    ·exact kz hd
    ·rfl
   rw[this,this];exact h0
def ud {m:Nat}:∀ {n:Nat},m<=n->aP d g0 n (fun j=>decide (j<m))=aP d g0 m fun _=>true:=by
 have low:∀k,k<=m->aP d g0 k (fun j=>decide (j<m))=aP d g0 k fun _=>true:=by
  intro k
  induction k with
  |zero=>intro _;rfl
  |succ k ih =>
   intro hk;simp only[aP];rw[ih U,PZ (by simp;omega)];simp
 intro n
 induction n with
 |zero =>
  intro hm;obtain rfl:m=0:=U
  exact low 0 (U)
 |succ n ih =>
  intro hm;by_cases h:m=n+1
  ·subst h;exact low (n+1) (U)
  ·simp only[aP];rw[PX (by simp;omega)];exact ih (U)
def oC {r:Nat}:∀ {n:Nat},(g0 r=g0' r\/∃j,j<n/\D j=true/\cI (d j) r)->aP d g0 n D r=aP d g0' n D r:=by
 intro n
 induction n with
 |zero =>
  rintro(h|⟨j,hj,_⟩)
  ·exact h
  ·omega
 |succ n ih =>
  intro h;simp only[aP];by_cases hD:D n=true
  ·rw[PZ hD,PZ hD];by_cases ht:cI (d n) r
   ·exact xO ht
   ·refine ub (ih ?_);rcases h with h|⟨j,hj,h1,h2⟩
    ·exact .inl h
    ·by_cases hjn:j=n
     ·subst hjn;exact absurd h2 ht
     ·exact .inr ⟨j,U,h1,h2⟩
  ·rw[PX hD,PX hD];refine ih ?_;rcases h with h|⟨j,hj,h1,h2⟩
   ·exact .inl h
   ·by_cases hjn:j=n
    ·subst hjn;exact absurd h1 hD
    ·exact .inr ⟨j,U,h1,h2⟩
def ue {r:Nat}:∀ {n:Nat},(∀j,j<n->D j=true->¬cI (d j) r)->aP d g0 n D r=g0 r:=by
 intro n
 induction n with
 |zero=>intro _;rfl
 |succ n ih =>
  intro h;simp only[aP];split
  ·rename_i hD;rw[kz (h n U hD)];exact ih fun j hj=>h j (U)
  ·exact ih fun j hj=>h j (U)
def bD (D:Nat->Bool)(i:Nat):Nat->Bool:=fun j=>if j=i then true else D j
def uf {i:Nat}(hD:D i=false):∀ {n:Nat},i<n->(∀j,i<j->j<n->D j=true->∀t,eJ all i=some t->eJ all j≠some t) ->
  aZ all d ρ0 n (bD D i)=aD (aZ all d ρ0 n D) (eJ all i) (d i).v:=by
 intro n
 induction n with
 |zero=>intro h;omega
 |succ n ih =>
  intro hi h;by_cases hin:i=n
  ·subst hin;have h0:aZ all d ρ0 i (bD D i)=aZ all d ρ0 i D:=funext fun t=>lk fun j hj _=>by simp[bD,So hj]
   simp only[aZ];rw[PZ (by simp[bD]),PX (by simp[hD]),h0]
  ·have hw:bD D i n=D n:=(by simp[bD,Ne.symm hin]);have h0:=ih U fun j h1 h2=>h j h1 U;simp only[aZ,hw];split
   ·rename_i hDn;rw[h0];exact yJ (h n U U hDn)
   ·exact h0
def ug {i:Nat}(hD:D i=false):∀ {n:Nat},i<n->(∀j,i<j->j<n->D j=true->∀t,cI (d i) t->¬cI (d j) t) ->
  aP d g0 n (bD D i)=bP (d i).e (aP d g0 n D):=by
 intro n
 induction n with
 |zero=>intro h;omega
 |succ n ih =>
  intro hi h;by_cases hin:i=n
  ·subst hin;have h0:aP d g0 i (bD D i)=aP d g0 i D:=funext fun t=>ll fun j hj _=>by simp[bD,So hj]
   simp only[aP];rw[PZ (by simp[bD]),PX (by simp[hD]),h0]
  ·have hw:bD D i n=D n:=(by simp[bD,Ne.symm hin]);have h0:=ih U fun j h1 h2=>h j h1 U;simp only[aP,hw];split
   ·rename_i hDn;rw[h0];exact Dq (h n U U hDn)
   ·exact h0
def mC {m n:Nat}(h:m<=n):aB d m<=aB d n:=by
 induction n with
 |zero =>
  have:m=0:=U
  subst this;exact Nat.le_refl _
 |succ n ih =>
  by_cases hm:m=n+1
  ·subst hm;exact Nat.le_refl _
  ·exact QH (ih U) (by simp[aB])
def oD {n c:Nat}(h:c<aB d n):∃j,j<n/\aB d j<=c/\c<aB d j+(d j).al:=by
 induction n with
 |zero=>simp[aB]at h
 |succ n ih =>
  by_cases hc:c<aB d n
  ·obtain⟨j,h1,h2⟩:=ih hc;exact⟨j,U,h2⟩
  ·simp only[aB]at h;exact⟨n,U,U,U⟩
def iX {i n:Nat}(h:i<n):aB d i+(d i).al<=aB d n:=by
 have:=mC (d:=d) (m:=i+1) (n:=n) h;simpa only[aB] using this
def oE {n:Nat}(h:∀j,j<n->d j=d' j):aZ all d ρ0 n D=aZ all d' ρ0 n D:=by
 induction n with
 |zero=>rfl
 |succ n ih=>simp only[aZ];rw[ih fun j hj=>h j U,h n U]
def oF {n:Nat}(h:∀j,j<n->d j=d' j):aP d g0 n D=aP d' g0 n D:=by
 induction n with
 |zero=>rfl
 |succ n ih=>simp only[aP];rw[ih fun j hj=>h j U,h n U]
def dS {n:Nat}(h:∀j,j<n->d j=d' j):aB d n=aB d' n:=by
 induction n with
 |zero=>rfl
 |succ n ih=>simp only[aB];rw[ih fun j hj=>h j U,h n U]
end
def ExecOk (P:Program)(G:Nat->Option (List Ty))(all:Array Oper)(o:Oper)(id:Nat)(s s':St):Prop :=
 (dG all s.ρ o=some false/\s'=⟨aD s.ρ o.dst (.lit undef),s.H⟩) \/
 (dG all s.ρ o=some true/\∃v,s'.ρ=aD s.ρ o.dst v /\
  (ah P G s.ρ s.H id o.op=some (v,s'.H) \/
   ∃fv args ats,o.op=.call ⟨.value fv,args,ats⟩/\(∀id st pend m env ps asg body,s.H.get id=some (.loop st pend m env ps asg body)->s'.H.get id=s.H.get id)/\aE P G (aj G s.ρ fv) (args.toList.map (aj G s.ρ)) s.H fun r H3=>r=.ret v/\H3=s'.H))
def ui {n:Nat}{wb:T2}{rd rb:Option Nat}{all:Array Oper}{o:Oper}{id i:Nat}{s s':St}{a:Act}{C:Act->World->Prop}{Q':Exit->Act->World->Prop}(ho:all[i]?=some o)(hd:ep n o=true)
  (hs:TS P G n wb Γ s a w) (hr:cU Γ s.H rd rb) (h:ExecOk P G all o id s s')
  (hnext:∀ Γ' a' w',TS P G n wb Γ' s' a' w'->TJ Γ s.H w Γ' s'.H w'->s.H.C<=s'.H.C->cU Γ' s'.H rd rb->(∃cv,a'=a.put o.dst cv)->C a' w'):
  wpOpIn (cX rb) 0 P all Q' i C a w:=by
 have hdst:∀d,o.dst=some d->d<n:=by
  intro d hd';unfold ep at hd;rw[hd']at hd;simpa using hd
 unfold wpOpIn;rw[ho];simp only;rcases h with ⟨hw,rfl⟩|⟨hw,v,hρ,h⟩
 ·rw[mF hs hw];simp only[Bool.false_eq_true,if_false];refine⟨fun _ _=>trivial,?_⟩;have hs':=iB (v:=.lit undef) (cv:=undef) hs hdst (TJ.refl Γ s.H w) Tx hs.heap (.lit _);exact hnext Γ _ w hs' (TJ.refl _ _ _) Tx hr ⟨_,rfl⟩
 ·rw[mF hs hw];simp only[if_true];obtain⟨ρ',H'⟩:=s';simp only at hρ;subst hρ;refine⟨fun _ _=>trivial,?_⟩;rcases h with hop|⟨fv,args,ats,hop,hH,hap⟩
  ·simp only at hop;rw[Oper.semAt_eq _ _ _ (fun c hc=>by rw[hc]at hop;simp[ah]at hop)];obtain⟨nx,cv,Γ',w',hrun,hnx,E,hn,R,hv⟩:=uA hs.heap (fW hs) hop;rw[hrun];have hri:=uD hr (uE hs.heap hop);have hs':=iB hs hdst E hn R hv;have hr':=hr.aU E hn hs.heap hri;rcases hnx with rfl|⟨rfl,rfl⟩
   ·exact hnext Γ' _ w' hs' E hn hr' ⟨_,rfl⟩
   ·exact hnext Γ' _ w' hs' E hn hr' ⟨_,rfl⟩
  ·rw[Oper.semAt_eq _ _ _ (fun c hc=>by rw[hc]at hop;cases hop)];obtain⟨d,h1,h2⟩:=hap Γ w (a.eval fv) (args.map a.eval) hs.heap (fW hs fv) ⟨Tu,fun i h1 h2=>by simp only[P4,RW,QQ];exact fW hs _⟩;have hex:(execOp a.eval o).run P w=(invoke d.target d.args).run P w:=by
    unfold execOp;simp only[hop];unfold resolve;simp only;rw[ak h1]
   have hri:dT H' rd:=by
    cases rd with
    |none=>trivial
    |some id =>
     obtain⟨b,st,pend,n,env,ps,asg,body,_,_,h3⟩:=hr;exact⟨_,_,_,_,_,_,_,(hH _ _ _ _ _ _ _ _ h3).trans h3⟩
   have cont:∀e w',fX P G Γ s.H w (fun r H3=>r=.ret v/\H3=H') e w'->(match e with
     |.returned v=>C (a.put o.dst v) w'
     |.panicked chain=>Q' (.panic chain) a w'
     |.outgrown=>LetsOut Q'):=by
    rintro e w' ⟨r,H4,Γ',hend,⟨rfl,rfl⟩,R,E,hn⟩;have hr':=hr.aU E hn hs.heap hri;cases e with
    |returned cv=>exact hnext Γ' _ w' (iB hs hdst E hn R hend) E hn hr' ⟨_,rfl⟩
    |panicked chain=>exact hend.elim
    |outgrown=>exact hend.elim
   rw[hex];rcases h2 with ⟨f,as,h3,h4⟩|⟨l,f,tm,asg,body,h3,h4⟩|⟨cv,w',h3,h4⟩
   ·rw[h3];refine⟨fun hc=>by simp[Fence.wide]at hc,?_⟩;have h4':CallsIn (cX rb) 0 P f as w _:=h4;refine h4'.mono ?_;intro e w' hp;have:=cont e w' hp;cases e<;>exact this
   ·rw[h3];refine⟨fun hc=>by simp[Fence.wide]at hc,?_⟩;have h4':RoundIn (cX rb) 0 P l f tm asg body w _:=h4;refine h4'.mono ?_;intro e w' hp;have:=cont e w' hp;cases e<;>exact this
   ·rw[h3];exact cont (.returned cv) w' h4
def jD (d:Nat->Dt)(H0:Tz)(m:Nat):Tz:=⟨aP d H0.get m fun _=>true,H0.C+aB d m⟩
def canon (all:Array Oper)(d:Nat->Dt)(s0:St)(m:Nat):St:=⟨aZ all d s0.ρ m fun _=>true,jD d s0.H m⟩
structure TL (P:Program)(G:Nat->Option (List Ty))(all:Array Oper)(bs:List Nat)(s0:St)(d:Nat->Dt)(i:Nat):Prop where
 step:∀o,all[i]?=some o->∀ ρ2 H2,(∀t,t∈o.looksAt all->ρ2 t=(canon all d s0 i).ρ t)->(∀r,r∈(d i).f.rs->H2.get r=(canon all d s0 i).H.get r) ->
  (∀c,c<(d i).al->H2.get (s0.H.C+aB d i+c)=some .ni)->s0.H.C+aB d i+(d i).al<=H2.C ->
  ExecOk P G all o (s0.H.C+aB d i) ⟨ρ2,H2⟩ ⟨aD ρ2 o.dst (d i).v,⟨bP (d i).e H2.get,H2.C⟩⟩
 nk:∀r,cI (d i) r->r∈(d i).f.nk/\(r∈(d i).f.rs\/(s0.H.C+aB d i<=r/\r<s0.H.C+aB d i+(d i).al))
 al:∀c,c<(d i).al->cI (d i) (s0.H.C+aB d i+c)
 lt:∀r,r∈(d i).f.rs->r<s0.H.C+aB d i
 apart:∀j,j<i->(cJ bs i).testBit j=false->(∀r,r∈(d i).f.nk->r ∉ (d j).f.rs)/\(∀r,r∈(d j).f.nk->r ∉ (d i).f.rs)
def bG (d:Nat->Dt)(m:Nat)(x:Dt):Nat->Dt:=fun j=>if j=m then x else d j
def eW {d:Nat->Dt}{m:Nat}{x:Dt}{i:Nat}(h:i<m):d i=bG d m x i:=by simp[bG,So h]
def cf {d:Nat->Dt}{m:Nat}{x:Dt}:bG d m x m=x:=by simp[bG]
def jE {all:Array Oper}{d d':Nat->Dt}{s0:St}{m:Nat}(h:∀j,j<m->d j=d' j):canon all d s0 m=canon all d' s0 m:=by
 unfold canon jD;rw[oE h,oF h,dS h]
def TL.below {all:Array Oper}{bs:List Nat}{s0:St}{d d':Nat->Dt}{i:Nat}(g:TL P G all bs s0 d i)(h:∀j,j<=i->d j=d' j):TL P G all bs s0 d' i:=by
 have hi:=h i Tx;have hn:aB d i=aB d' i:=dS fun j hj=>h j U;have hc:canon all d s0 i=canon all d' s0 i:=jE fun j hj=>h j U;obtain⟨a,b,c,e,f⟩:=g;refine⟨?_,?_,?_,?_,?_⟩
 ·rw[<- hi,<- hn,<- hc];exact a
 ·rw[<- hi,<- hn];exact b
 ·rw[<- hi,<- hn];exact c
 ·rw[<- hi,<- hn];exact e
 ·intro j hj hb;rw[<- hi,<- h j U];exact f j hj hb
def iA (d:Nat->Dt)(m:Nat)(acc:List (Nat × FP)):Prop:=∀j,j<m->(d j).f=⟨[],[]⟩\/(j,(d j).f)∈acc
def iA.add {d:Nat->Dt}{m:Nat}{acc:List (Nat × FP)}(h:iA d m acc)(x:Dt):iA (bG d m x) (m+1) (dU m x.f acc):=by
 intro j hj;have key:∀p,p∈acc->p∈dU m x.f acc:=by
  intro p hp;unfold dU;split
  ·exact hp
  ·exact QP _ hp
 by_cases hjm:j=m
 ·subst hjm;rw[cf];by_cases hf:x.f=⟨[],[]⟩
  ·exact .inl hf
  ·refine .inr ?_;unfold dU;split
   ·rename_i h0;exact absurd h0 hf
   ·exact Q8
 ·rw[<- eW (x:=x) U];exact(h j U).imp id (key _)
def oG {d:Nat->Dt}{m:Nat}{acc:List (Nat × FP)}{b:Nat}{f:FP}(hc:iA d m acc)(h:eY b f acc):∀j,j<m->b.testBit j=false->(∀r,r∈f.nk->r ∉ (d j).f.rs)/\(∀r,r∈(d j).f.nk->r ∉ f.rs):=by
 intro j hj hb;rcases hc j hj with h0|h1
 ·rw[h0];exact⟨fun r _ h=>(by cases h),fun r h=>(by cases h)⟩
 ·exact h _ h1 hb
def lp {all:Array Oper}{d:Nat->Dt}{s0:St}{m:Nat}{x:Dt}{o:Oper}(ho:all[m]?=some o):
  canon all (bG d m x) s0 (m+1)=⟨aD (canon all d s0 m).ρ o.dst x.v,⟨bP x.e (canon all d s0 m).H.get,(canon all d s0 m).H.C+x.al⟩⟩:=by
 have hb:∀j,j<m->d j=bG d m x j:=fun j hj=>eW hj;unfold canon jD;simp only[aZ,aP,aB,if_true,cf];rw[<- oE hb,<- oF hb,<- dS hb];simp only[eJ,ho,Option.bind_some,Rv]
def lq {all:Array Oper}{bs:List Nat}{s0:St}{d:Nat->Dt}{m:Nat}{x:Dt}(hg:∀i,i<m->TL P G all bs s0 d i)(hx:TL P G all bs s0 (bG d m x) m):
  ∀i,i<m+1->TL P G all bs s0 (bG d m x) i:=by
 intro i hi;by_cases him:i=m
 ·subst him;exact hx
 ·exact(hg i U).below fun j hj=>eW (U)
def trace {all:Array Oper}{bs:List Nat}{s0:St}{tail:St->Prop}{K:Nat}(hbs:bs.length=K)(hK:K<=all.size):∀(k m:Nat) (d:Nat->Dt) (acc:List (Nat × FP)),k+m=K ->
  (∀i,i<m->TL P G all bs s0 d i)->iA d m acc->ew (canon all d s0 m).H->cD P G all tail (bs.drop m) m acc ((all.toList.take K).drop m) (canon all d s0 m) ->
  ∃d',(∀i,i<K->TL P G all bs s0 d' i)/\tail (canon all d' s0 K):=by
 intro k
 induction k with
 |zero =>
  intro m d acc hm hg hc wf h;obtain rfl:m=K:=U
  refine⟨d,hg,?_⟩;have:(all.toList.take m).drop m=[]:=by
   apply SB;simp only[P9];omega
  rw[this]at h;cases hb:bs.drop m with
  |nil=>rw[hb]at h;simpa only[cD] using h
  |cons b bs'=>rw[hb]at h;simpa only[cD] using h
 |succ k ih =>
  intro m d acc hm hg hc wf h;have hmK:m<K:=U
  have hms:m<all.size:=U
  have ho:all[m]?=some all[m]:=P6 hms;have hbm:bs.drop m=cJ bs m :: bs.drop (m+1):=by
   rw[Qw U];congr 1;simp[cJ,PV (show m<bs.length by omega)]
  have hom:(all.toList.take K).drop m=all[m] :: (all.toList.take K).drop (m+1):=by
   rw[Qw (by simp only[P9,Rp];omega)];congr 1;simp
  rw[hbm,hom]at h;simp only[cD]at h;obtain⟨t,ht,h⟩:=h;have hnext:(canon all d s0 m).H.C=s0.H.C+aB d m:=rfl;cases t with
  |false =>
   simp only[Bool.false_eq_true,if_false]at h
   let x:Dt:=⟨.lit undef,fun _=>none,0,⟨[],[]⟩⟩
   have hb:∀j,j<m->d j=bG d m x j:=fun j hj=>eW hj;have hcan:canon all (bG d m x) s0 (m+1)=⟨aD (canon all d s0 m).ρ all[m].dst (.lit undef),(canon all d s0 m).H⟩:=lp ho;have hgx:TL P G all bs s0 (bG d m x) m:=by
    refine⟨?_,?_,?_,?_,?_⟩
    ·rw[cf,<- jE hb];intro o ho' ρ2 H2 h1 h2 h3 _;rw[ho]at ho';cases ho';refine .inl ⟨?_,rfl⟩;simp only;rw[mO h1,ht]
    ·rw[cf];intro k he;cases he
    ·rw[cf];intro c he;exact absurd he (Qf _)
    ·rw[cf];intro r hr;cases hr
    ·rw[cf];intro j hj hbit;exact⟨fun r hr=>(by cases hr),fun r hr hr'=>(by cases hr')⟩
   refine ih (m+1) (bG d m x) acc U (lq hg hgx) (hc.add x) ?_ ?_
   ·rw[hcan];exact wf
   ·rw[hcan];exact h
  |true =>
   simp only[if_true]at h;unfold bA at h;split at h
   ·rename_i fv args ats hop;obtain⟨v,e,k,f,⟨hlt,heff,hnew,hcall⟩,hap,h⟩:=h
    let x:Dt:=⟨v,e,k,f⟩
    have hb:∀j,j<m->d j=bG d m x j:=fun j hj=>eW hj;have hcan:canon all (bG d m x) s0 (m+1)=⟨aD (canon all d s0 m).ρ all[m].dst v,⟨bP e (canon all d s0 m).H.get,(canon all d s0 m).H.C+k⟩⟩:=lp ho;have hgx:TL P G all bs s0 (bG d m x) m:=by
     refine⟨?_,?_,?_,?_,?_⟩
     ·rw[cf,<- jE hb,<- dS hb];intro o ho' ρ2 H2 h1 h2 h3 h4;rw[ho]at ho';cases ho';refine .inr ⟨?_,v,rfl,.inr ⟨fv,args,ats,hop,?_,?_⟩⟩
      ·simp only;rw[mO h1,ht]
      ·intro id st pend q env ps asg body hid;refine kz fun hs=>?_;rcases(heff id hs).2 with ⟨hrs,g,t,c,hg⟩|⟨g1,g2⟩
       ·have e9:=h2 id hrs;simp only at hid;rw[hid,hg]at e9;cases e9
       ·obtain⟨c,rfl⟩:∃c,id=(canon all d s0 m).H.C+c:=⟨id-(canon all d s0 m).H.C,U⟩
        have e9:H2.get ((canon all d s0 m).H.C+c)=some .ni:=h3 c (show c<k by omega);simp only at hid;rw[hid]at e9;cases e9
      ·have hev:=qY (G:=G) h1;have e1:aj G ρ2 fv=aj G (canon all d s0 m).ρ fv:=hev fv (by simp[hop,Op.operands,Call.operands]);have e2:args.toList.map (aj G ρ2)=args.toList.map (aj G (canon all d s0 m).ρ) :=
        Rd fun y hy=>hev y (by simp only[hop,Op.operands,Call.operands];simp;exact .inr (by simpa using hy))
       simp only;rw[e1,e2];exact hcall H2 h2 h3 h4
     ·rw[cf,<- dS hb];intro r hr;exact⟨(heff r hr).1,(heff r hr).2.imp (fun h=>h.1) id⟩
     ·rw[cf,<- dS hb];exact hnew
     ·rw[cf,<- dS hb];exact hlt
     ·rw[cf];intro j hj hbit;rw[<- eW hj];exact oG hc hap j hj hbit
    refine ih (m+1) (bG d m x) _ U (lq hg hgx) (hc.add x) ?_ ?_
    ·rw[hcan];intro id b hid;show id<(canon all d s0 m).H.C+k;simp only at hid;by_cases hs:(e id).isSome=true
     ·rcases(heff id hs).2 with ⟨hrs,_⟩|⟨_,g2⟩
      ·have:=hlt id hrs;omega
      ·exact g2
     ·rw[kz hs]at hid;have:=wf id b hid;omega
    ·rw[hcan];exact h
   ·obtain⟨⟨v,H'⟩,hop,hap,h⟩:=h;obtain⟨e,al,hget,hnx,heff,hal,hlt,hloc⟩:=uL wf hop
    let x:Dt:=⟨v,kx e,(if al=true then 1 else 0),bn P G (canon all d s0 m).ρ (canon all d s0 m).H.C all[m].op⟩
    have hb:∀j,j<m->d j=bG d m x j:=fun j hj=>eW hj;have hcan:canon all (bG d m x) s0 (m+1)=⟨aD (canon all d s0 m).ρ all[m].dst v,H'⟩:=by
     rw[lp ho];congr 1;cases H';simp only at hget hnx;simp only[Tz.mk.injEq];refine⟨(xN _ _).trans hget.symm,?_⟩;rw[hnx];simp only[x];cases al<;>simp
    have hgx:TL P G all bs s0 (bG d m x) m:=by
     refine⟨?_,?_,?_,?_,?_⟩
     ·rw[cf,<- jE hb,<- dS hb];intro o ho' ρ2 H2 h1 h2 h3 h4;rw[ho]at ho';cases ho';refine .inr ⟨?_,v,rfl,.inl ?_⟩
      ·simp only;rw[mO h1,ht]
      ·simp only;rw[yI (ρ':=(canon all d s0 m).ρ) (qY h1),xN];refine hloc H2 h2 fun ha=>?_;subst ha;have h5:=h3 0 (by simp[x]);simp only[x,if_true]at h4;refine⟨h5,?_⟩;rw[hnext];omega
     ·rw[cf,<- dS hb];intro r hr;unfold cI at hr;simp only[x,kx]at hr;cases he:e with
      |none=>rw[he]at hr;cases hr
      |some kb =>
       obtain⟨k0,b0⟩:=kb;rw[he]at hr;simp only at hr;by_cases hrk:r=k0
       ·subst hrk;obtain⟨h1,h2⟩:=heff r b0 he;refine⟨h1,?_⟩;cases hal2:al with
        |false=>exact .inl (h2 hal2)
        |true =>
         obtain⟨b1,hb1⟩:=hal hal2;rw[he]at hb1;simp only[Option.some.injEq,Prod.mk.injEq]at hb1;refine .inr ?_;simp only[x,hal2,if_true];rw[hnext]at hb1;omega
       ·rw[PX hrk]at hr;cases hr
     ·rw[cf,<- dS hb];intro c hc2;cases hal2:al with
      |false=>simp[x,hal2]at hc2
      |true =>
       simp only[x,hal2,if_true]at hc2;obtain⟨b1,hb1⟩:=hal hal2;obtain rfl:c=0:=U;unfold cI;simp only[x,kx,hb1,Nat.add_zero];rw[hnext];simp
     ·rw[cf,<- dS hb];exact hlt
     ·rw[cf];intro j hj hbit;rw[<- eW hj];exact oG hc hap j hj hbit
    have wf':ew H':=by
     intro id b hid;rw[hget]at hid;rw[hnx];cases e with
     |none =>
      have:=wf id b hid;split<;>omega
     |some kb =>
      obtain⟨k0,b0⟩:=kb;simp only[cZ]at hid;split at hid
      ·rename_i hk;subst hk;cases al with
       |true =>
        obtain⟨b1,hb1⟩:=hal rfl;simp only[Option.some.injEq,Prod.mk.injEq]at hb1;simp only[if_true];omega
       |false =>
        have:=hlt _ ((heff id b0 rfl).2 rfl);simpa using this
      ·have:=wf id b hid;split<;>omega
    refine ih (m+1) (bG d m x) _ U (lq hg hgx) (hc.add x) ?_ ?_
    ·rw[hcan];exact wf'
    ·rw[hcan];exact h
end Go.Hx.Ev
namespace Go.Hx.Ev
open Go.Hx
variable {P:Program} {G:Nat->Option (List Ty)} {Γ Γ':ar} {H H':Tz} {w w':World}
variable {D:Nat->Bool}{d:Nat->Dt}{s0:St}
def dp (all:Array Oper)(d:Nat->Dt)(s0:St)(K:Nat)(D:Nat->Bool):St :=
 ⟨aZ all d s0.ρ K D,⟨aP d (bu s0.H (aB d K)).get K D,s0.H.C+aB d K⟩⟩
def uj {all:Array Oper}{bs:List Nat}{K:Nat}(S:T7 all bs K)(hg:∀i,i<K->TL P G all bs s0 d i){i:Nat}{o:Oper}(hi:i<K)(ho:all[i]?=some o)(hDi:D i=false)
  (hdown:∀j,j<i->(cJ bs i).testBit j=true->D j=true) (hup:∀j,i<j->j<K->D j=true->(cJ bs j).testBit i=false):
  ExecOk P G all o (s0.H.C+aB d i) (dp all d s0 K D) (dp all d s0 K (bD D i)):=by
 have hget:∀j,j<K->∃oj,all[j]?=some oj:=fun j hj=>⟨_,P6 (P5 hj S.le)⟩
 have hgi:=hg i hi;have tgtE:∀j r,j<K->cI (d j) r->r∈(d j).f.nk/\(r∈(d j).f.rs\/(s0.H.C+aB d j<=r/\r<s0.H.C+aB d j+(d j).al)):=fun j r hj ht=>(hg j hj).nk r ht;have rangeK:∀r,r<s0.H.C+aB d i->((bu s0.H (aB d K)).get r=s0.H.get r\/∃j,j<i/\(fun _:Nat=>true) j=true/\cI (d j) r):=by
  intro r hr;by_cases h:s0.H.C<=r
  ·obtain⟨j,h1,h2,h3⟩:=oD (d:=d) (n:=i) (c:=r-s0.H.C) U;have:=(hg j U).al (r-s0.H.C-aB d j) U;rw[show s0.H.C+aB d j+(r-s0.H.C-aB d j)=r by omega]at this;exact .inr ⟨j,h1,rfl,this⟩
  ·left;simp only[bu];rw[PX U]
 have henv:∀t,t∈o.looksAt all->aZ all d s0.ρ K D t=(canon all d s0 i).ρ t:=by
  intro t ht;show _=aZ all d s0.ρ i (fun _=>true) t;rw[<- uc (all:=all) (d:=d) (ρ0:=s0.ρ) (m:=i) (n:=K) U];refine lk fun j hj hdj=>?_;obtain⟨oj,hoj⟩:=hget j hj;rw[kC hoj]at hdj;rcases RS j i with h|rfl|h
  ·cases hb:(cJ bs i).testBit j with
   |true=>rw[hdown j h hb];simp[h]
   |false=>exact absurd ht ((mS (S.apart i j o oj hi h ho hoj hb)).1 t hdj)
  ·rw[hDi];simp
  ·cases hD:D j with
   |false=>symm;simp;omega
   |true=>exact absurd ht ((mS (S.apart j i oj o hj h hoj ho (hup j h hj hD))).2.1 t hdj)
 have hheap:∀r,r∈(d i).f.rs->aP d (bu s0.H (aB d K)).get K D r=(canon all d s0 i).H.get r:=by
  intro r hr;show _=aP d s0.H.get i (fun _=>true) r;rw[<- oC (g0:=(bu s0.H (aB d K)).get) (rangeK r (hgi.lt r hr)),<- ud (m:=i) (n:=K) U];refine ll fun j hj ht=>?_;obtain⟨he,_⟩:=tgtE j r hj ht;rcases RS j i with h|rfl|h
  ·cases hb:(cJ bs i).testBit j with
   |true=>rw[hdown j h hb];simp[h]
   |false=>exact absurd hr ((hgi.apart j h hb).2 r he)
  ·rw[hDi];simp
  ·cases hD:D j with
   |false=>symm;simp;omega
   |true=>exact absurd hr (((hg j hj).apart i h (hup j h hj hD)).1 r he)
 have hal:∀c,c<(d i).al->aP d (bu s0.H (aB d K)).get K D (s0.H.C+aB d i+c)=some .ni:=by
  intro c hc;have hlt:=iX (d:=d) hi;have heff:=(hgi.nk _ (hgi.al c hc)).1;rw[ue]
  ·simp only[bu];rw[PZ U]
  ·intro j hj hD ht;obtain⟨h1,h2⟩:=tgtE j _ hj ht;rcases RS j i with h|rfl|h
   ·rcases h2 with h3|⟨h2,h3⟩
    ·have:=(hg j hj).lt _ h3;have:=mC (d:=d) (SV h);omega
    ·have:=iX (d:=d) h;omega
   ·rw[hDi]at hD;cases hD
   ·rcases h2 with h3|⟨h2,h3⟩
    ·exact absurd h3 (((hg j hj).apart i h (hup j h hj hD)).2 _ heff)
    ·have:=iX (d:=d) h;omega
 have:=hgi.step o ho (aZ all d s0.ρ K D) ⟨aP d (bu s0.H (aB d K)).get K D,s0.H.C+aB d K⟩ henv hheap hal (by have:=iX (d:=d) hi;simp only;omega);have e1:aZ all d s0.ρ K (bD D i)=aD (aZ all d s0.ρ K D) o.dst (d i).v:=by
  rw[uf hDi hi,kC ho];intro j h hj hD t hti;obtain⟨oj,hoj⟩:=hget j hj;rw[kC ho]at hti;rw[kC hoj];exact(mS (S.apart j i oj o hj h hoj ho (hup j h hj hD))).2.2 t hti
 have e2:aP d (bu s0.H (aB d K)).get K (bD D i)=bP (d i).e (aP d (bu s0.H (aB d K)).get K D):=by
  refine ug hDi hi fun j h hj hD r hti htj=>?_;obtain⟨a1,a2⟩:=tgtE i r hi hti;obtain⟨b1,b2⟩:=tgtE j r hj htj;obtain⟨c1,c2⟩:=(hg j hj).apart i h (hup j h hj hD);rcases b2 with b3|⟨b2,b3⟩
  ·exact c2 r a1 b3
  ·rcases a2 with a3|⟨a2,a3⟩
   ·exact c1 r b1 a3
   ·have:=iX (d:=d) h;omega
 unfold dp;rw[e1,e2];exact this
def oH {all:Array Oper}{bs:List Nat}{K:Nat}(hg:∀i,i<K->TL P G all bs s0 d i)(hD:∀j,j<K->D j=true):dp all d s0 K D=canon all d s0 K:=by
 unfold dp canon jD;have e1:aZ all d s0.ρ K D=aZ all d s0.ρ K fun _=>true:=funext fun t=>lk fun j hj _=>hD j hj;have e2:aP d (bu s0.H (aB d K)).get K D=aP d s0.H.get K fun _=>true:=by
  funext r
  rw[ll (D':=fun _=>true) fun j hj _=>hD j hj];refine oC ?_;by_cases h:s0.H.C<=r/\r<s0.H.C+aB d K
  ·obtain⟨j,h1,h2,h3⟩:=oD (d:=d) (n:=K) (c:=r-s0.H.C) U;have:=(hg j h1).al (r-s0.H.C-aB d j) U;rw[show s0.H.C+aB d j+(r-s0.H.C-aB d j)=r by omega]at this;exact .inr ⟨j,h1,rfl,this⟩
  ·left;simp only[bu];rw[PX h]
 rw[e1,e2]
def uk {all:Array Oper}{K:Nat}(hD:∀j,j<K->D j=false):dp all d s0 K D=⟨s0.ρ,bu s0.H (aB d K)⟩:=by
 unfold dp;have e1:∀n,n<=K->aZ all d s0.ρ n D=s0.ρ:=by
  intro n
  induction n with
  |zero=>intro _;rfl
  |succ n ih=>intro h;simp only[aZ];rw[PX (by simp[hD n h])];exact ih (U)
 have e2:∀n,n<=K->aP d (bu s0.H (aB d K)).get n D=(bu s0.H (aB d K)).get:=by
  intro n
  induction n with
  |zero=>intro _;rfl
  |succ n ih=>intro h;simp only[aP];rw[PX (by simp[hD n h])];exact ih (U)
 rw[e1 K Tx,e2 K Tx];rfl
variable {n:Nat} {wb:T2} {rd rb:Option Nat} {Q:AX->St->Prop} {all:Array Oper} {bs:List Nat} {K:Nat} {id:Nat} {dr:Bool}
def um (S:T7 all bs K)(hfit:∀o,o∈all.toList->ep n o=true)(hg:∀i,i<K->TL P G all bs s0 d i)(htail:opsV P G rd Q all (all.toList.drop K) (canon all d s0 K)):
  ∀(r:Nat) (listed:Array Bool) (D:Nat->Bool) (Γ:ar) (a:Act) (w:World),listed.size=all.size->dI listed all.size=r->(∀j,j<all.size->listed.getD j true=D j)->(∀j,D j=true->j<K)->q7 all D ->
  TS P G n wb Γ (dp all d s0 K D) a w->cU Γ (dp all d s0 K D).H rd rb ->
  ∀(Q':Exit->Act->World->Prop),(∀e a' w',fo P G n wb rd rb (wr (.region id all dr)) Γ (dp all d s0 K D).H a w Q e a' w'->Q' e a' w')->wpAnyIn (cX rb) 0 P .any all Q' r listed a w:=by
 intro r
 induction r with
 |zero =>
  intro listed D Γ a w hsz hc hl hlow hL hs hr Q' hq;have hall:∀j,j<K->D j=true:=fun j hj=>by rw[<- hl j (P5 hj S.le)];exact q8 hc j (P5 hj S.le)
  have hKs:K=all.size:=by
   rcases Ql K all.size with h|h
   ·have h1:=q8 hc K h;rw[hl K h]at h1;have:=hlow K h1;omega
   ·have:=S.le;omega
  rw[oH hg hall]at hs hr hq;exact q9 S hfit 0 K listed _ Γ a w U Tx hsz hc (fun j hj=>by rw[hl j hj];exact⟨hlow j,hall j⟩) htail hs hr Q' hq
 |succ r ih =>
  intro listed D Γ a w hsz hc hl hlow hL hs hr Q' hq;by_cases hall:∀j,j<K->D j=true
  ·rw[oH hg hall]at hs hr hq;have hcount:∀m,m<=all.size->dI listed m=m-K:=by
    intro m
    induction m with
    |zero=>intro _;simp[dI]
    |succ m ihm =>
     intro hm;simp only[dI];rw[ihm U,hl m U];by_cases hmK:m<K
     ·rw[hall m hmK];simp;omega
     ·have:D m=false:=by
       cases hD:D m with
       |false=>rfl
       |true=>exact absurd (hlow m hD) hmK
      rw[this];simp;omega
   have h1:=hcount all.size Tx;exact q9 S hfit (r+1) K listed _ Γ a w (by have:=S.le;omega) Tx hsz hc (fun j hj=>by rw[hl j hj];exact⟨hlow j,hall j⟩) htail hs hr Q' hq
  ·have hex:∃j,j<K/\D j=false:=by
    by_cases h:∃j,j<K/\D j=false
    ·exact h
    ·refine absurd (fun j hj=>?_) hall;cases hD:D j with
     |true=>rfl
     |false=>exact absurd ⟨j,hj,hD⟩ h
   have least:∀k,(∃j,j<k/\j<K/\D j=false)->∃j,j<K/\D j=false/\∀i,i<j->D i=true:=by
    intro k
    induction k with
    |zero=>rintro⟨j,hj,_⟩;omega
    |succ k ihk =>
     rintro⟨j,h1,h2,h3⟩;by_cases h:∃j,j<k/\j<K/\D j=false
     ·exact ihk h
     ·refine⟨j,h2,h3,fun i hi=>?_⟩;cases hD:D i with
      |true=>rfl
      |false=>exact absurd ⟨i,U,U,hD⟩ h
   obtain⟨j0,hj0K,hj0,hbelow⟩:=least K (let ⟨j,h1,h2⟩:=hex;⟨j,h1,h1,h2⟩);have hj0s:j0<all.size:=P5 hj0K S.le;have hr0:j0∈Region.ready .any all listed:=by
    refine mem_ready.2 ⟨by rw[hl j0 hj0s];exact hj0,_,P6 hj0s,fun e he hb=>?_⟩;have hlt:=S.down j0 _ (P6 hj0s) e he hb;rw[lD U false true,hl e.on U];exact hbelow _ hlt
   refine⟨fun h0=>(by rw[h0]at hr0;cases hr0),fun i hi=>?_⟩;obtain⟨hiun,oi,hoi,hdir⟩:=mem_ready.1 hi;have his:=(QE.1 hoi).1;have hdirD:∀e,e∈oi.after->Region.binds .any e=true->D e.on=true:=fun e he hb=>by
    have:=S.down i oi hoi e he hb;rw[<- hl e.on U,<- lD U false true];exact hdir e he hb
   have hahead:=S.ahead hL i oi;have hiK:i<K:=by
    rcases Ql i K with h|h
    ·exact h
    ·have:=hahead j0 hoi hdirD (by rw[PX U];omega);rw[hj0]at this;cases this
   have hDi:D i=false:=(by rw[<- hl i his];exact hiun);have hex:=uj (P:=P) (G:=G) S hg hiK hoi hDi (fun j hj hb=>hahead j hoi hdirD (by rw[PZ hiK];exact hb)) (fun j h1 h2 hD=>by
    cases hb:(cJ bs j).testBit i with
    |false=>rfl
    |true =>
     have hjs:j<all.size:=P5 h2 S.le;have:=S.ahead hL j _ i (P6 hjs) (fun e he hbe=>hL j _ hD (P6 hjs) e he hbe) (by rw[PZ h2];exact hb);rw[hDi]at this;cases this)
   have hoi':oi=all[i]:=by
    rw[P6 his]at hoi;exact(Option.some.inj hoi).symm
   refine ui hoi (hfit oi (by rw[hoi'];simp)) hs hr hex ?_;rintro Γ' a' w' hs' E hn hr' ⟨cv,rfl⟩;have hc':dI (listed.setIfInBounds i true) all.size=r:=by
    have:=uS hiun all.size;rw[PZ his]at this;omega
   refine ih (listed.setIfInBounds i true) (bD D i) Γ' _ w' (by simpa using hsz) hc' ?_ ?_ ?_ hs' hr' Q' fun e a'' w'' hp=>hq _ _ _ (hp.step E hn (by rw[hoi'];exact mG his cv) fun _ h=>h)
   ·intro j hj;by_cases hji:j=i
    ·subst hji;simp[bD]
    ·rw[getD_set_ne true (Ne.symm hji),hl j hj];simp[bD,hji]
   ·intro j hj;by_cases hji:j=i
    ·subst hji;exact hiK
    ·simp only[bD,PX hji]at hj;exact hlow j hj
   ·intro k ok hk hok e he hb;by_cases hki:k=i
    ·subst hki;rw[hoi]at hok;cases hok;have:=hdirD e he hb;simp only[bD];split
     ·rfl
     ·exact this
    ·simp only[bD,PX hki]at hk;have:=hL k ok hk hok e he hb;simp only[bD];split
     ·rfl
     ·exact this
def W.xP {s:St}(K:Nat)(bs:List Nat)(hm:P.follows .mixedOrders=true)(hfit:all.toList.all (ep n)=true)(hst:mK all bs K=true)
  (h:cD P G all (opsV P G rd Q all (all.toList.drop K)) bs 0 [] (all.toList.take K) s):W P G n rd (.region id all true) Q s:=by
 intro wb Γ a w rb hs hr;have S:=zb hst;have hfit':∀o,o∈all.toList->ep n o=true:=fun o ho=>Qt.1 hfit o ho;have wf:ew s.H:=fun id b hb=>hs.heap.C id b hb;have hcan0:canon all (fun _=>⟨.lit undef,fun _=>none,0,⟨[],[]⟩⟩) s 0=s:=rfl;obtain⟨d,hg,htail⟩:=trace (P:=P) (G:=G) (all:=all) (bs:=bs) (s0:=s) (tail:=opsV P G rd Q all (all.toList.drop K)) S.len S.le K 0 (fun _=>⟨.lit undef,fun _=>none,0,⟨[],[]⟩⟩) [] (U)
  (fun i hi=>U) (fun j hj=>U) (by rw[hcan0];exact wf) (by rw[hcan0];exact h)
 refine wpIn_region_any hm ?_
 let w1:World:={ w with drawn:=w.drawn+1 }
 have R1:TG P G Γ s.H w1:=hs.heap.move rfl (mT w) Tx (fun id b hb=>.inl hb) fun id b hb=>hb;have hs1:TS P G n wb Γ s a w1:=hs.move (mT w) Tx R1;have hs2:TS P G n wb Γ ⟨s.ρ,bu s.H (aB d K)⟩ a w1:=hs1.move (oU _ _) (by simp[bu]) (zd R1 _);have hr2:cU Γ (bu s.H (aB d K)) rd rb:=hr.move fun id b hb=>by
  simp only[bu];rw[PX]
  ·exact hb
  ·have:=hs.heap.C id b hb;omega
 have e0:dp all d s K (fun _=>false)=⟨s.ρ,bu s.H (aB d K)⟩:=uk fun _ _=>rfl;refine um (wb:=wb) (id:=id) (dr:=true) S hfit' hg htail all.size _ (fun _=>false) Γ a w1 Tu (ze _ Tx) ?_ ?_ ?_ ?_ ?_ _ ?_
 ·intro j hj;rw[QB,Sb,PZ hj];rfl
 ·intro j hj;cases hj
 ·intro i o hi;cases hi
 ·rw[e0];exact hs2
 ·rw[e0];exact hr2
 ·rw[e0];intro e a' w' hp;refine hp.step ?_ (by simp[bu]) (.refl _ _) fun _ h=>h;exact TJ.trans (mT w) Tx (oU _ _)
end Go.Hx.Ev
namespace Go.Hx.Ev
open Go.Hx
variable {P:Program} {G:Nat->Option (List Ty)} {Γ Γ':ar} {H H':Tz} {w w':World}
variable {K:Nat->Prop}{v:Ty}
inductive T1 (K:Nat->Prop):Ty->Prop
 |lit (v:Value):T1 K (.lit v)
 |nil:T1 K (.M 0 [])
 |agg {c:List Ty} (h:∀i (h:i<c.length),T1 K c[i]):T1 K (.agg c)
 |nf {c:List Ty} (h:∀i (h:i<c.length),T1 K c[i]):T1 K (.nf c)
 |nl {f:FuncId} {a b:List Ty} (h1:∀i (h:i<a.length),T1 K a[i]) (h2:∀i (h:i<b.length),T1 K b[i]):T1 K (.nl f a b)
 |V {id g o l z:Nat} (h:K id):T1 K (.V id g o l z)
 |Y {id g o:Nat} (h:K id):T1 K (.Y id g o)
def T1.mono {K':Nat->Prop}(h:T1 K v)(hk:∀id,K id->K' id):T1 K' v:=by
 induction h with
 |lit v=>exact .lit v
 |nil=>exact .nil
 |agg _ ih=>exact .agg ih
 |nf _ ih=>exact .nf ih
 |nl _ _ ih1 ih2=>exact .nl ih1 ih2
 |V h=>exact .V (hk _ h)
 |Y h=>exact .Y (hk _ h)
def T1.fz {S:Nat->Prop}{nx:Nat}(h:T1 (fun id=>¬S id/\id<nx) v):Fz S H nx v v:=by
 induction h with
 |lit v=>exact .lit v
 |nil=>exact .M rfl fun i h=>absurd h (Qf _)
 |agg _ ih=>exact .agg rfl fun i h _=>ih i h
 |nf _ ih=>exact .nf rfl fun i h _=>ih i h
 |nl _ _ ih1 ih2=>exact .nl rfl rfl (fun i h _=>ih1 i h) fun i h _=>ih2 i h
 |V h=>exact .V h.2 h.1
 |Y h=>exact .Y h.2 h.1
def T1.sound {Γ₁ Γ₂:ar}{H₁ H₂:Tz}(hK:∀id,K id->H₂.get id=H₁.get id/\Γ₂ id=Γ₁ id)(hn:H₁.C<=H₂.C)(h:T1 K v):
  ∀ {cv:Value},TB P Γ₁ H₁ w v cv->TB P Γ₂ H₂ w v cv:=by
 induction h with
 |lit v=>intro cv h;cases h;exact .lit _
 |nil =>
  intro cv h;cases h with
  |nj a cap=>exact .nj a cap
  |M hb hlt hlen hcs hcell hrel=>exact .nj _ _
 |agg _ ih=>intro cv h;cases h with|agg hcs hrel=>exact .agg hcs fun i h1 h2=>ih i h1 (hrel i h1 h2)
 |nf _ ih=>intro cv h;cases h with|nf hcs hrel=>exact .nf hcs fun i h1 h2=>ih i h1 (hrel i h1 h2)
 |nl _ _ ih1 ih2=>intro cv h;cases h with|nl hfs hcs hf hc=>exact .nl hfs hcs (fun i h1 h2=>ih1 i h1 (hf i h1 h2)) fun i h1 h2=>ih2 i h1 (hc i h1 h2)
 |V h =>
  intro cv hv;cases hv with
  |V hv =>
   obtain⟨a,b,c,d⟩:=hv;obtain⟨e1,e2⟩:=hK _ h;refine .V ⟨U,b,by rw[e1];exact c,fun g e cells hg=>?_⟩;rw[e1]at hg;rw[e2];exact d g e cells hg
 |Y h =>
  intro cv hv;cases hv with
  |Y hv =>
   obtain⟨a,b,c,d⟩:=hv;obtain⟨e1,e2⟩:=hK _ h;refine .Y ⟨U,b,by rw[e1];exact c,fun g e cells hg=>?_⟩;rw[e1]at hg;rw[e2];exact d g e cells hg
def eo (lo hi:Nat)(lv:Nat->Bool)(g:Nat->Option TE):Nat->Option TE:=fun id=>if lo<=id/\id<hi then (if lv id=true then g id else some (.L 0 0 [])) else none
def lu (lo hi:Nat):List Nat:=(List.range (hi-lo)).map (·+lo)
def xQ {lo hi r:Nat}(h1:lo<=r)(h2:r<hi):r∈lu lo hi:=by
 unfold lu;rw[Qm];exact⟨r-lo,by rw[QN];omega,U⟩
open Classical in
def iW.mk {f:FuncId}{first cap args args':List Ty}(Hs Hs':Tz)(kp:Nat->Prop)(lv:Nat->Bool)(rs:List Nat)(hG:dJ G)
  (hrs:∀r,r∈rs->r<H.C) (hnx:Hs.C=H.C) (hle:Hs.C<=Hs'.C)
  (hkp:∀id,kp id->id∈rs/\Hs.get id=H.get id/\Hs'.get id=H.get id/\∃g e c,H.get id=some (.L g e c)/\∀i (h:i<c.length),T1 kp c[i])
  (hgone:∀id,¬kp id->Hs.get id=none)
  (hl:args'.length=(first++args++cap).length)
  (hargs:∀H2:Tz,(∀r,r∈rs->H2.get r=H.get r)->∀i (h:i<(first++args++cap).length) (h':i<args'.length),Fz (fun id=>¬kp id) H2 H.C (first++args++cap)[i] args'[i])
  (hcall:af P G f args' Hs fun r H'=>r=.ret v/\H'=Hs')
  (hv:T1 (fun id=>kp id\/(H.C<=id/\id<Hs'.C/\lv id=true)) v)
  (hnew:∀id,H.C<=id->id<Hs'.C->lv id=true->∃g e c,Hs'.get id=some (.L g e c)/\∀i (h:i<c.length),T1 (fun id=>kp id\/(H.C<=id/\id<Hs'.C/\lv id=true)) c[i]):
  iW P G (.nl f first cap) args H v (eo H.C Hs'.C lv Hs'.get) (Hs'.C-H.C) ⟨lu H.C Hs'.C,rs⟩:=by
 have hsome:∀id,H.C<=id->id<Hs'.C->(eo H.C Hs'.C lv Hs'.get id).isSome=true:=by
  intro id h1 h2;unfold eo;rw[PZ ⟨h1,h2⟩];split
  ·rename_i h3;obtain⟨g,e,c,h4,_⟩:=hnew id h1 h2 h3;rw[h4];rfl
  ·rfl
 have hout:∀id,(eo H.C Hs'.C lv Hs'.get id).isSome=true->H.C<=id/\id<Hs'.C:=by
  intro id h;unfold eo at h;split at h
  ·assumption
  ·cases h
 refine⟨hrs,fun r hr=>?_,fun c hc=>hsome _ U U,?_⟩
 ·obtain⟨h1,h2⟩:=hout r hr;exact⟨xQ h1 h2,.inr ⟨h1,U⟩⟩
 intro H2 hag hres hn2;refine aE.nl ⟨hcall.1,fun Γ w cargs R hr=>?_⟩
 let S:Nat->Prop:=fun id=>¬kp id
 have kpO:∀id,¬S id->kp id:=fun id h=>QA h;have hkH2:∀id,kp id->H2.get id=H.get id:=fun id h=>hag id (hkp id h).1;have hlow:∀id,kp id->id<H.C:=fun id h=>hrs id (hkp id h).1;have F:T8 S H2 Hs:=by
  refine⟨fun id hs=>hgone id hs,fun id b hs hb=>?_,fun id hs hb=>?_⟩
  ·have hk:=kpO id hs;obtain⟨h1,h2,h3,g,e,c,h4,h5⟩:=hkp id hk;rw[hkH2 id hk,h4]at hb;cases hb;refine⟨by rw[hnx];exact hlow id hk,.L g e c,by rw[h2,h4],rfl,rfl,rfl,fun i hi _=>?_⟩;exact((h5 i hi).mono fun id hk=>⟨fun hs=>hs hk,by rw[hnx];exact hlow id hk⟩).fz
  ·have hk:=kpO id hs;obtain⟨h1,h2,h3,g,e,c,h4,h5⟩:=hkp id hk;rw[hkH2 id hk,h4]at hb;cases hb
 have R0:TG P G (c7 S Γ) Hs w:=F.rel hG R;have hr0:cG P (c7 S Γ) Hs w args' cargs:=⟨by have:=hr.1;omega,fun i h1 h2=>(by
  have:=hargs H2 hag i U h1;rw[<- hnx]at this;exact this.sound R F (hr.2 i U h2))⟩
 refine(hcall.2 _ w cargs R0 hr0).mono ?_;rintro e w' ⟨r,H',Γ',hend,⟨rfl,rfl⟩,R',E,hn⟩
 let nw:Nat->Prop:=fun id=>H.C<=id/\id<H'.C
 let lw:Nat->Prop:=fun id=>H.C<=id/\id<H'.C/\lv id=true
 let Γ3:ar:=fun id=>if lw id then Γ' id else Γ id
 let H3:Tz:=⟨bP (eo H.C H'.C lv H'.get) H2.get,H2.C⟩
 have hnle:H'.C<=H2.C:=U
 have g3l:∀id,lw id->Γ3 id=Γ' id:=fun id h=>PZ h;have g3o:∀id,¬lw id->Γ3 id=Γ id:=fun id h=>PX h;have kold:∀id,kp id->¬nw id:=fun id h hn=>by have:=hlow id h;have:=hn.1;omega
 have koldl:∀id,kp id->¬lw id:=fun id h hn=>kold id h ⟨hn.1,hn.2.1⟩;have gk:∀id,kp id->Γ' id=Γ id:=by
  intro id hk;obtain⟨h1,h2,h3,g,e,c,h4,h5⟩:=hkp id hk;have hlo:=hlow id hk;obtain⟨x,hx,hle'⟩:=E.Z id U U (.L g e c) (by rw[h3,h4]);rw[h2,h4]at hx;cases hx;rw[(hle'.2 rfl).1];exact gD fun hs=>hs hk
 have h3new:∀id,nw id->H3.get id=eo H.C H'.C lv H'.get id:=by
  intro id h;show bP _ _ id=_;unfold bP;have:=hsome id h.1 h.2;split
  ·rename_i b hb;rw[hb]
  ·rename_i hb;rw[hb]at this;cases this
 have h3live:∀id,lw id->H3.get id=H'.get id:=by
  intro id h;rw[h3new id ⟨h.1,h.2.1⟩];unfold eo;rw[PZ ⟨h.1,h.2.1⟩,PZ h.2.2]
 have h3dead:∀id,nw id->¬lw id->H3.get id=some (.L 0 0 []):=by
  intro id h hl;rw[h3new id h];unfold eo;rw[PZ h,PX fun h2=>hl ⟨h.1,h.2,h2⟩]
 have h3old:∀id,¬nw id->H3.get id=H2.get id:=by
  intro id h;show bP _ _ id=_;exact kz fun h'=>h (hout id h')
 have hrsv:∀id,nw id->H2.get id=some .ni:=by
  intro id h;have:=hres (id-H.C) (by have:=h.1;have:=h.2;omega)
  rwa [show H.C+(id-H.C)=id by have:=h.1;omega]at this
 have hΓnew:∀id,nw id->Γ id=none:=fun id h=>R.ni id (hrsv id h);have hfar:∀id b base n,lw id->Γ' id=some (b,base,n)->w.heap.size<=b:=by
  intro id b base n hid hb;refine Sx fun hlt=>?_;have hown:(c7 S Γ).c9 b:=QA fun hno=>(E.na b hlt hno).2 ⟨id,base,n,hb⟩;obtain⟨id0,base0,n0,h0⟩:=hown;obtain⟨hs0,h0⟩:=hJ h0;have hk0:=kpO id0 hs0;rw[<- gk id0 hk0]at h0;have:=R'.inj _ _ _ _ _ _ _ h0 hb;subst this;exact koldl _ hk0 hid
 have EE:TJ Γ H2 w Γ3 H3 w':=by
  refine⟨E.os,E.tape,E.output,E.size,fun b hb ho=>⟨(E.na b hb fun h=>ho (ra h)).1,?_⟩,fun id h1 h2 x' hx'=>?_,E.np,E.kind,fun id b x y hb hlt=>?_⟩
  ·rintro⟨id,base,n,h⟩;by_cases hl:lw id
   ·rw[g3l id hl]at h;have:=hfar id b base n hl h;omega
   ·rw[g3o id hl]at h;exact ho ⟨id,base,n,h⟩
  ·by_cases hnw:nw id
   ·exact⟨.ni,hrsv id hnw,trivial⟩
   ·rw[h3old id hnw]at hx';refine⟨x',hx',?_⟩;have hg:Γ3 id=Γ id:=g3o id fun h=>hnw ⟨h.1,h.2.1⟩;cases x' with
    |L g e c=>exact⟨Tx,fun _=>⟨hg,rfl,rfl⟩⟩
    |loop=>exact⟨hg,rfl,rfl,rfl,rfl,rfl⟩
    |ni=>trivial
    |mp=>exact hg
  ·by_cases hl:lw id
   ·rw[g3l id hl]at hb;have:=hfar id b x y hl hb;omega
   ·rw[g3o id hl]at hb;exact⟨x,y,hb⟩
 have hn3:H2.C<=H3.C:=Nat.le_refl _;have hK:∀id,(kp id\/lw id)->H3.get id=H'.get id/\Γ3 id=Γ' id:=by
  rintro id (h|h)
  ·refine⟨?_,?_⟩
   ·rw[h3old id (kold id h),hkH2 id h,(hkp id h).2.2.1]
   ·rw[g3o id (koldl id h),gk id h]
  ·exact⟨h3live id h,g3l id h⟩
 have hle3:H'.C<=H3.C:=hnle;have hidden:∀id b base n,¬kp id->Γ id=some (b,base,n)->w'.heap[b]?=w.heap[b]?:=by
  intro id b base n hk h;refine(E.na b (R.lt _ _ _ _ h) ?_).1;rintro⟨id0,base0,n0,h0⟩;obtain⟨hs0,h0⟩:=hJ h0;have:=R.inj _ _ _ _ _ _ _ h h0;subst this;exact hs0 hk
 have R3:TG P G Γ3 H3 w':=by
  refine⟨?_,?_,?_,?_,?_,?_,?_,?_,?_,?_⟩
  ·intro id g e cells hg;have main : (kp id∨lw id)→(∀ i (h : i<cells.length),T1 (fun id=>kp id∨lw id) cells[i])→H'.get id=some (.L g e cells)→_:=fun hid hc hg'=>R'.L id g e cells hg';have fin : (kp id∨lw id)→(∀ i (h : i<cells.length),T1 (fun id=>kp id∨lw id) cells[i])→H'.get id=some (.L g e cells)→(match Γ3 id with
     |some (b,base,n)=>∃c,w'.heap[b]?=some (.cells c e (0,0))/\c.size=n/\base+cells.length<=n /\
      ∀i (h:i<cells.length),∃cv,c[base+i]?=some cv/\TB P Γ3 H3 w' cells[i] cv
     |none=>cells=[]):=by
    intro hid hc hg';have h1:=R'.L id g e cells hg';rw[(hK id hid).2];cases hΓ:Γ' id with
    |none=>rw[hΓ]at h1;exact h1
    |some y =>
     obtain⟨b,base,n⟩:=y;rw[hΓ]at h1;obtain⟨c,a1,a2,a3,a4⟩:=h1;refine⟨c,a1,a2,a3,fun i hi=>?_⟩;obtain⟨cv,b1,b2⟩:=a4 i hi;exact⟨cv,b1,(hc i hi).sound hK hle3 b2⟩
   by_cases hl:lw id
   ·have hg':=hg;rw[h3live id hl]at hg';obtain⟨g0,e0,c0,h4,h5⟩:=hnew id hl.1 hl.2.1 hl.2.2;rw[h4]at hg';cases hg';exact fin (.inr hl) h5 h4
   ·by_cases hnw:nw id
    ·rw[h3dead id hnw hl]at hg;cases hg;rw[g3o id hl,hΓnew id hnw]
    ·rw[h3old id hnw]at hg;by_cases hk:kp id
     ·obtain⟨h1,h2,h3,g0,e0,c0,h4,h5⟩:=hkp id hk;rw[hkH2 id hk,h4]at hg;cases hg;exact fin (.inl hk) (fun i hi=>(h5 i hi).mono fun _ h=>.inl h) (by rw[h3,h4])
     ·have h1:=R.L id g e cells hg;rw[g3o id hl];cases hΓ:Γ id with
      |none=>rw[hΓ]at h1;exact h1
      |some y =>
       obtain⟨b,base,n⟩:=y;rw[hΓ]at h1;obtain⟨c,a1,a2,a3,a4⟩:=h1;refine⟨c,by rw[hidden id b base n hk hΓ];exact a1,a2,a3,fun i hi=>?_⟩;obtain⟨cv,b1,b2⟩:=a4 i hi;exact⟨cv,b1,b2.aU EE hn3⟩
  ·intro id st pend n env ps asg body hg;by_cases hl:lw id
   ·rw[h3live id hl]at hg;obtain⟨g0,e0,c0,h4,h5⟩:=hnew id hl.1 hl.2.1 hl.2.2;rw[h4]at hg;cases hg
   ·by_cases hnw:nw id
    ·rw[h3dead id hnw hl]at hg;cases hg
    ·rw[h3old id hnw]at hg;have hk:¬kp id:=fun hk=>by
      obtain⟨h1,h2,h3,g0,e0,c0,h4,h5⟩:=hkp id hk;rw[hkH2 id hk,h4]at hg;cases hg
     obtain⟨b,r,a1,a2,a3,a4,a5,a6,a7,a8,a9⟩:=R.loop id st pend n env ps asg body hg;exact⟨b,r,by rw[g3o id hl];exact a1,by rw[hidden id b 0 0 hk a1];exact a2,a3,a4,a5,a6,a7,a8,fun t ht=>(a9 t ht).aU EE hn3⟩
  ·intro id es hg;by_cases hl:lw id
   ·rw[h3live id hl]at hg;obtain⟨g0,e0,c0,h4,h5⟩:=hnew id hl.1 hl.2.1 hl.2.2;rw[h4]at hg;cases hg
   ·by_cases hnw:nw id
    ·rw[h3dead id hnw hl]at hg;cases hg
    ·rw[h3old id hnw]at hg;have hk:¬kp id:=fun hk=>by
      obtain⟨h1,h2,h3,g0,e0,c0,h4,h5⟩:=hkp id hk;rw[hkH2 id hk,h4]at hg;cases hg
     obtain⟨b,a1,a2⟩:=R.mp id es hg;exact⟨b,by rw[g3o id hl];exact a1,by rw[hidden id b 0 0 hk a1];exact a2⟩
  ·intro id hg;have hnw:¬nw id:=fun hnw=>by
    by_cases hl:lw id
    ·rw[h3live id hl]at hg;obtain⟨g0,e0,c0,h4,h5⟩:=hnew id hl.1 hl.2.1 hl.2.2;rw[h4]at hg;cases hg
    ·rw[h3dead id hnw hl]at hg;cases hg
   rw[h3old id hnw]at hg;rw[g3o id fun h=>hnw ⟨h.1,h.2.1⟩];exact R.ni id hg
  ·intro id id' b base n base' n' h h';by_cases hl:lw id<;>by_cases hl':lw id'
   ·rw[g3l id hl]at h;rw[g3l id' hl']at h';exact R'.inj _ _ _ _ _ _ _ h h'
   ·rw[g3l id hl]at h;rw[g3o id' hl']at h';have:=hfar id b base n hl h;have:=R.lt _ _ _ _ h';omega
   ·rw[g3o id hl]at h;rw[g3l id' hl']at h';have:=hfar id' b base' n' hl' h';have:=R.lt _ _ _ _ h;omega
   ·rw[g3o id hl]at h;rw[g3o id' hl']at h';exact R.inj _ _ _ _ _ _ _ h h'
  ·intro id x h;by_cases hl:lw id
   ·obtain⟨g0,e0,c0,h4,h5⟩:=hnew id hl.1 hl.2.1 hl.2.2;exact⟨_,by rw[h3live id hl];exact h4⟩
   ·rw[g3o id hl]at h;by_cases hnw:nw id
    ·exact⟨_,h3dead id hnw hl⟩
    ·obtain⟨y,hy⟩:=R.nt id x h;exact⟨y,by rw[h3old id hnw];exact hy⟩
  ·intro id b base n h;by_cases hl:lw id
   ·rw[g3l id hl]at h;exact R'.lt _ _ _ _ h
   ·rw[g3o id hl]at h;exact P5 (R.lt _ _ _ _ h) E.size
  ·intro id y h;by_cases hnw:nw id
   ·have:=hnw.2;exact P5 this hnle
   ·rw[h3old id hnw]at h;exact R.C id y h
  ·intro g cells h;exact(R.nr g cells h).aU EE hn3
  ·exact R.lf EE
 refine⟨.ret v,H3,Γ3,?_,⟨rfl,rfl⟩,R3,EE,hn3⟩;cases e with
 |returned cv=>exact hv.sound hK hle3 hend
 |panicked chain=>exact hend.elim
 |outgrown=>exact hend.elim
end Go.Hx.Ev
