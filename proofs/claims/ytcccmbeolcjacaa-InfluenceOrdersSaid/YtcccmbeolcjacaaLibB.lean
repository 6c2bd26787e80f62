/-
  Regions that draw their order. Own work: no program stands in this text.
-/
import Derived.Test.YtcccmbeolcjacaaLibA
import Derived.OrdersIn
import Derived.KernelRfl
set_option linter.all false
namespace Go.Hx
variable {P:Program} {G:Nat->Option (List S1)} {Γ Γ':aq} {H H':S2} {w w':World}
variable {c:Call}{ρ:Env}{id n:Nat}{o:Op}{a v x:S1}{H2:S2}{t u:TypeId}
def aE:S1->List Nat
 |.V id _ _ _ _=>[id]
 |.Y id _ _=>[id]
 |_=>[]
def cW:S1->List Nat
 |.ng id=>[id]
 |_=>[]
structure FP where
 nk:List Nat
 rs:List Nat
def iW:S1->Bool
 |.V ..=>true
 |_=>false
def iy (P:Program)(t:TypeId)(x:S1):List Nat:=match P.underlying t with
 |some (.slice _)=>aE x
 |_=>[]
def gm (P:Program)(id:Nat)(b:Builtin)(ats:List TypeId)(args:List S1):FP :=
 match b,ats,args with
 |.append,_,[s,x]=>if iW s then ⟨aE s,aE s++aE x⟩ else ⟨[id],aE x⟩
 |.copy,_,[d,x]=>⟨aE d,aE d++aE x⟩
 |.clear,_,[d]=>⟨aE d,aE d⟩
 |.len,[t],[x]=>⟨[],iy P t x⟩
 |_,_,_=>⟨[],[]⟩
def bp (P:Program)(G:Nat->Option (List S1))(ρ:Env)(id:Nat):Op->FP
 |.load _ a=>⟨[],aE (aj G ρ a)⟩
 |.nilCheck a=>⟨[],aE (aj G ρ a)⟩
 |.slice _ a _ _ _=>⟨[],aE (aj G ρ a)⟩
 |.fieldAddr _ a _=>⟨[],aE (aj G ρ a)⟩
 |.indexAddr _ a _=>⟨[],aE (aj G ρ a)⟩
 |.convert _ _ a=>⟨[],aE (aj G ρ a)⟩
 |.store _ a _=>⟨aE (aj G ρ a),aE (aj G ρ a)⟩
 |.alloc _=>⟨[id],[]⟩
 |.box _ _=>⟨[id],[]⟩
 |.buildSlice _ _ _=>⟨[id],[]⟩
 |.makeSlice _ _ _=>⟨[id],[]⟩
 |.makeMap _ _=>⟨[id],[]⟩
 |.lookup _ x _ _=>⟨[],cW (aj G ρ x)⟩
 |.mapUpdate _ m _ _|.insert _ m _ _|.mapEntry _ m _|.entryStore _ m _ _=>⟨cW (aj G ρ m),cW (aj G ρ m)⟩
 |.call c=>match c.callee with
  |.builtin b=>gm P id b c.argTypes.toList (c.args.toList.map (aj G ρ))
  |_=>⟨[],[]⟩
 |_=>⟨[],[]⟩
def cX (e:Option (Nat × S7))(g:Nat->Option S7):Nat->Option S7 :=
 match e with
 |none=>g
 |some (k,b)=>fun j=>if j=k then some b else g j
def ef (H:S2):Prop:=∀id b,H.get id=some b->id<H.C
def gX (wf:ef H){gen:Nat}{ec:TypeId × List S1}(h:H.nn id gen=some ec):id<H.C:=wf id _ (gh (e:=ec.1) (cells:=ec.2) h)
def iz (h:H2.get id=H.get id)(gen:Nat):H2.nn id gen=H.nn id gen:=by unfold S2.nn;rw[h]
def Local (P:Program)(G:Nat->Option (List S1))(ρ:Env)(H:S2)(o:Op)(v:S1)(H':S2)(f:FP):Prop :=
 ∃(e:Option (Nat × S7)) (al:Bool),H'.get=cX e H.get/\H'.C=(if al then H.C+1 else H.C) /\
  (∀k b,e=some (k,b)->k∈f.nk/\(al=false->k∈f.rs))/\(al=true->∃b,e=some (H.C,b))/\(∀r,r∈f.rs->r<H.C) /\
  ∀H2:S2,(∀r,r∈f.rs->H2.get r=H.get r)->(al=true->H2.get H.C=some .ni/\H.C≠H2.C)->ah P G ρ H2 H.C o=some (v,⟨cX e H2.get,H2.C⟩)
variable {f:FP}
def cB (hrs:∀r,r∈f.rs->r<H.C)(h:∀H2:S2,(∀r,r∈f.rs->H2.get r=H.get r)->ah P G ρ H2 H.C o=some (v,H2)):Local P G ρ H o v H f:=by
 refine⟨none,false,rfl,rfl,?_,?_,hrs,fun H2 ha _=>h H2 ha⟩
 ·intro k b h;cases h
 ·intro h;cases h
def mB {b:S7}(hl:H.lay H.C b=some H')(hta:H.C∈f.nk)(hrs:∀r,r∈f.rs->r<H.C)
  (h:∀H2:S2,(∀r,r∈f.rs->H2.get r=H.get r)->∀H2',H2.lay H.C b=some H2'->ah P G ρ H2 H.C o=some (v,H2')):Local P G ρ H o v H' f:=by
 obtain⟨h1,h2⟩:=gT hl;have h2':H'.C=H.C+1:=by
  unfold S2.lay at hl;rw[PG rfl]at hl;simp only[Option.some.injEq]at hl;rw[<- hl]
 refine⟨some (H.C,b),true,funext h1,by simp[h2'],?_,?_,hrs,fun H2 ha hr=>?_⟩
 ·intro k b' hk;simp only[Option.some.injEq,Prod.mk.injEq]at hk;exact⟨hk.1 ▸ hta,fun h=>by cases h⟩
 ·exact fun _=>⟨b,rfl⟩
 ·obtain⟨hr1,hr2⟩:=hr rfl;refine h H2 ha _ ?_;unfold S2.lay;rw[PC hr2,hr1];rfl
def kf {b:S7}(hid:id∈f.nk)(hid':id∈f.rs)(hrs:∀r,r∈f.rs->r<H.C)
  (h:∀H2:S2,(∀r,r∈f.rs->H2.get r=H.get r)->ah P G ρ H2 H.C o=some (v,H2.upd id b)):Local P G ρ H o v (H.upd id b) f:=by
 refine⟨some (id,b),false,rfl,rfl,?_,?_,hrs,fun H2 ha _=>h H2 ha⟩
 ·intro k b' hk;simp only[Option.some.injEq,Prod.mk.injEq]at hk;exact⟨hk.1 ▸ hid,fun _=>hk.1 ▸ hid'⟩
 ·intro h;cases h
def bU :∀r,r∈([]:List Nat)->r<n:=fun _ h=>by cases h
def eE (h:id<n):∀r,r∈[id]->r<n:=fun r hr=>by
 simp only[List.mem_singleton]at hr;omega
def D3 (h:∀r,r∈aE a->H2.get r=H.get r):eb P H2 t a=eb P H t a:=by
 cases a with
 |Y id gen off=>simp only[eb];rw[h id (by simp[aE])]
 |_=>rfl
def D4 (wf:ef H)(h:eb P H t a=some v):∀r,r∈aE a->r<H.C:=by
 cases a with
 |Y id gen off =>
  refine eE ?_;simp only[eb]at h;split at h
  ·rename_i hg;exact wf _ _ hg
  ·cases h
 |V=>simp[eb]at h
 |_=>exact bU
def D5 (h:fN P H t a v=some H'):∃id gen off g e cells,a=.Y id gen off/\H.get id=some (.L g e cells)/\∃cells',H'=H.upd id (.L g e cells') /\
  ∀H2:S2,H2.get id=H.get id->fN P H2 t a v=some (H2.upd id (.L g e cells')):=by
 cases a with
 |Y id gen off =>
  simp only[fN]at h;split at h
  ·rename_i g e cells hg;split at h
   ·rename_i hc;simp only[Option.some.injEq]at h;refine⟨id,gen,off,g,e,cells,rfl,hg,_,h.symm,fun H2 h2=>?_⟩;simp only[fN];rw[h2,hg];simp only;rw[PG hc]
   ·cases h
  ·cases h
 |_=>simp[fN]at h
def D6 (wf:ef H){i:Int}(h:jZ P H t x i=some v):(∀r,r∈aE x->r<H.C)/\∀H2:S2,(∀r,r∈aE x->H2.get r=H.get r)->jZ P H2 t x i=some v:=by
 unfold jZ at h ⊢;split at h
 ·split at h
  ·rename_i hc;split at h
   ·rename_i id gen off;simp only[an]at h;obtain⟨ec,hl,hv⟩:=h;refine⟨eE (gX wf hl),fun H2 h2=>?_⟩;rw[PG hc];simp only[iz (h2 id (by simp[aE])),hl,Option.map_some,hv]
   ·refine⟨bU,fun H2 _=>?_⟩;rw[PG hc];exact h
   ·cases h
  ·cases h
 ·split at h
  ·rename_i hc;split at h
   ·rename_i id gen off len sz;split at h
    ·rename_i hi;simp only[an]at h;obtain⟨ec,hl,hv⟩:=h;refine⟨eE (gX wf hl),fun H2 h2=>?_⟩;rw[PG hc,PG hi];simp only[iz (h2 id (by simp[aE])),hl,Option.map_some,hv]
    ·cases h
   ·refine⟨bU,fun H2 _=>?_⟩;rw[PG hc];exact h
   ·cases h
  ·cases h
 ·cases h
def D7 (wf:ef H){lo hi:Option S1}(h:jr P H t x lo hi=some v):(∀r,r∈aE x->r<H.C)/\∀H2:S2,(∀r,r∈aE x->H2.get r=H.get r)->jr P H2 t x lo hi=some v:=by
 unfold jr at h ⊢;split at h
 ·split at h
  ·rename_i hc;split at h
   ·rename_i id gen off;split at h
    ·rename_i e' cells hl;refine⟨eE (gX wf hl),fun H2 h2=>?_⟩;rw[PG hc];simp only[iz (h2 id (by simp[aE])),hl];exact h
    ·cases h
   ·refine⟨bU,fun H2 _=>?_⟩;rw[PG hc];exact h
   ·cases h
  ·cases h
 ·split at h
  ·rename_i hc;split at h
   ·rename_i id gen off len sz;split at h
    ·rename_i hi;have h0:=h;simp only[PE]at h;obtain⟨ec,hl,_⟩:=h;refine⟨eE (gX wf hl),fun H2 h2=>?_⟩;rw[PG hc,PG hi,iz (h2 id (by simp[aE]))];exact h0
    ·cases h
   ·refine⟨bU,fun H2 _=>?_⟩;rw[PG hc];exact h
   ·refine⟨bU,fun H2 _=>?_⟩;rw[PG hc];exact h
   ·cases h
  ·cases h
 ·split at h
  ·exact⟨bU,fun H2 _=>h⟩
  ·cases h
 ·cases h
def D8 (wf:ef H)(h:iR P H t x=some v):(∀r,r∈iy P t x->r<H.C)/\∀H2:S2,(∀r,r∈iy P t x->H2.get r=H.get r)->iR P H2 t x=some v:=by
 unfold iR iy at *
 cases hu:P.underlying t with
 |none=>rw[hu]at h;cases h
 |some d =>
  rw[hu]at h;cases d with
  |slice e =>
   simp only at h ⊢;split at h
   ·exact⟨bU,fun _ _=>h⟩
   ·rename_i id gen off len sz;simp only[an]at h;obtain⟨ec,hl,hv⟩:=h;refine⟨eE (gX wf hl),fun H2 h2=>?_⟩;simp only[iz (h2 id (by simp[aE])),hl,Option.map_some,hv]
   ·exact⟨bU,fun _ _=>h⟩
   ·cases h
  |string=>exact⟨bU,fun _ _=>h⟩
  |array n e=>exact⟨bU,fun _ _=>h⟩
  |_=>cases h
def uK (wf:ef H){sz:Nat}{r:Nat × List S1}(h:bR H sz x=some r):(∀r,r∈aE x->r<H.C)/\∀H2:S2,(∀r,r∈aE x->H2.get r=H.get r)->bR H2 sz x=some r:=by
 unfold bR at h ⊢;split at h
 ·exact⟨bU,fun _ _=>h⟩
 ·rename_i id gen off len sz';split at h
  ·rename_i hsz;simp only[an]at h;obtain⟨ec,hl,hv⟩:=h;refine⟨eE (gX wf hl),fun H2 h2=>?_⟩;rw[PG hsz];simp only[iz (h2 id (by simp[aE])),hl,Option.map_some,hv]
  ·cases h
 ·exact⟨bU,fun _ _=>h⟩
 ·cases h
def yA {a b:List Nat}{p:Nat->Prop}(h1:∀r,r∈a->p r)(h2:∀r,r∈b->p r):∀r,r∈a++b->p r:=fun r hr=>(PT.1 hr).elim (h1 r) (h2 r)
def D9 (wf:ef H){s:S1}(hb:c.callee=.builtin .append)(hats:c.argTypes.toList=[t,u])(hargs:c.args.toList.map (aj G ρ)=[s,x])
  (h:bf P H H.C t u s x=some (v,H')):Local P G ρ H (.call c) v H' (bp P G ρ H.C (.call c)):=by
 have hfp:bp P G ρ H.C (.call c)=if iW s then ⟨aE s,aE s++aE x⟩ else ⟨[H.C],aE x⟩:=by
  simp only[bp,hb,hats,hargs,gm]
 have hop:∀H2:S2,ah P G ρ H2 H.C (.call c)=bf P H2 H.C t u s x:=fun H2=>by
  simp only[ah,hb,hats,hargs,eO]
 rw[hfp];unfold bf at h;split at h
 ·rename_i e he;split at h
  ·rename_i e' he';simp only[PE]at h;obtain⟨z,hz,nx,hsrc,h⟩:=h;obtain⟨hxlt,hxl⟩:=uK wf hsrc;split at h
   ·simp only[iW,Bool.false_eq_true,if_false];split at h
    ·rename_i hn0;simp only[Option.some.injEq,Prod.mk.injEq]at h;obtain⟨rfl,rfl⟩:=h;refine cB hxlt fun H2 h2=>?_;rw[hop];simp only[bf,he,he',hz,hxl H2 h2,Option.bind_some,PG hn0]
    ·rename_i hn0;split at h
     ·rename_i hb;simp only[an,Prod.mk.injEq]at h;obtain⟨H3,hl,rfl,rfl⟩:=h;refine mB hl SX hxlt fun H2 h2 H2' hl2=>?_;rw[hop];simp only[bf,he,he',hz,hxl H2 h2,Option.bind_some,PC hn0,PG hb,hl2,Option.map_some]
     ·cases h
   ·rename_i id' gen off len sz;simp only[iW,if_true];simp only[PE]at h;obtain⟨ec,hl,h⟩:=h;have hlt:∀r,r∈aE (.V id' gen off len sz)++aE x->r<H.C:=yA (eE (gX wf hl)) hxlt;have hl2:∀H2:S2,(∀r,r∈aE (.V id' gen off len sz)++aE x->H2.get r=H.get r)->H2.nn id' gen=some ec:=fun H2 h2=>by
     rw[iz (h2 id' (by simp[aE]))];exact hl
    have hx2:∀H2:S2,(∀r,r∈aE (.V id' gen off len sz)++aE x->H2.get r=H.get r)->bR H2 (P.cellsOf e) x=some nx:=fun H2 h2 =>
     hxl H2 fun r hr=>h2 r (QW _ hr)
    split at h
    ·rename_i hc;split at h
     ·rename_i hn0;simp only[Option.some.injEq,Prod.mk.injEq]at h;obtain⟨rfl,rfl⟩:=h;refine cB hlt fun H2 h2=>?_;rw[hop];simp only[bf,he,he',hz,hx2 H2 h2,hl2 H2 h2,Option.bind_some];rw[PG hc,PG hn0]
     ·rename_i hn0;simp only[Option.some.injEq,Prod.mk.injEq]at h;obtain⟨rfl,rfl⟩:=h;refine kf (by simp[aE]) (by simp[aE]) hlt fun H2 h2=>?_;rw[hop];simp only[bf,he,he',hz,hx2 H2 h2,hl2 H2 h2,Option.bind_some];rw[PG hc,PC hn0]
    ·cases h
   ·cases h
  ·cases h
 ·cases h
def Ea (wf:ef H){s:S1}(hb:c.callee=.builtin .copy)(hats:c.argTypes.toList=[t,u])(hargs:c.args.toList.map (aj G ρ)=[s,x])
  (h:iQ P H t s x=some (v,H')):Local P G ρ H (.call c) v H' (bp P G ρ H.C (.call c)):=by
 have hfp:bp P G ρ H.C (.call c)=⟨aE s,aE s++aE x⟩:=by
  simp only[bp,hb,hats,hargs,gm]
 have hop:∀H2:S2,ah P G ρ H2 H.C (.call c)=iQ P H2 t s x:=fun H2=>by
  simp only[ah,hb,hats,hargs,eO]
 rw[hfp];unfold iQ at h;split at h
 ·rename_i e he;split at h
  ·rename_i hs;simp only[PE]at h;obtain⟨nx,hsrc,h⟩:=h;obtain⟨hxlt,hxl⟩:=uK wf hsrc;split at h
   ·rename_i id' gen off len sz;simp only[PE]at h;obtain⟨ec,hl,h⟩:=h;have hlt:∀r,r∈aE (.V id' gen off len sz)++aE x->r<H.C:=yA (eE (gX wf hl)) hxlt;split at h
    ·rename_i hc;simp only[Option.some.injEq,Prod.mk.injEq]at h;obtain⟨rfl,rfl⟩:=h;refine kf (by simp[aE]) (by simp[aE]) hlt fun H2 h2=>?_;have hl2:H2.nn id' gen=some ec:=by
      rw[iz (h2 id' (by simp[aE]))];exact hl
     rw[hop];simp only[iQ,he,hs,if_true,hxl H2 fun r hr=>h2 r (QW _ hr),hl2,Option.bind_some];rw[PG hc]
    ·cases h
   ·cases h
  ·cases h
 ·cases h
def Eb (wf:ef H){s:S1}(hb:c.callee=.builtin .clear)(hats:c.argTypes.toList=[t])(hargs:c.args.toList.map (aj G ρ)=[s])
  (h:iS P H t s=some (v,H')):Local P G ρ H (.call c) v H' (bp P G ρ H.C (.call c)):=by
 have hfp:bp P G ρ H.C (.call c)=⟨aE s,aE s⟩:=by
  simp only[bp,hb,hats,hargs,gm]
 have hop:∀H2:S2,ah P G ρ H2 H.C (.call c)=iS P H2 t s:=fun H2=>by
  simp only[ah,hb,hats,hargs,eO]
 rw[hfp];unfold iS at h;split at h
 ·rename_i e he;split at h
  ·simp only[Option.some.injEq,Prod.mk.injEq]at h;obtain⟨rfl,rfl⟩:=h;refine cB (fun r hr=>by cases hr) fun H2 h2=>?_;rw[hop];simp only[iS,he]
  ·rename_i id' gen off len sz;simp only[PE]at h;obtain⟨ec,hl,h⟩:=h;have hlt:∀r,r∈aE (.V id' gen off len sz)->r<H.C:=eE (gX wf hl);have hl2:∀H2:S2,(∀r,r∈aE (.V id' gen off len sz)->H2.get r=H.get r)->H2.nn id' gen=some ec:=fun H2 h2=>by
    rw[iz (h2 id' (by simp[aE]))];exact hl
   split at h
   ·rename_i h0;simp only[Option.some.injEq,Prod.mk.injEq]at h;obtain⟨rfl,rfl⟩:=h;refine cB hlt fun H2 h2=>?_;rw[hop];simp only[iS,he,hl2 H2 h2,Option.bind_some];rw[PG h0]
   ·rename_i h0;simp only[PE]at h;obtain⟨z,hz,h⟩:=h;split at h
    ·rename_i hc;simp only[Option.some.injEq,Prod.mk.injEq]at h;obtain⟨rfl,rfl⟩:=h;refine kf (by simp[aE]) (by simp[aE]) hlt fun H2 h2=>?_;rw[hop];simp only[iS,he,hl2 H2 h2,hz,Option.bind_some];rw[PC h0,PG hc]
    ·cases h
  ·cases h
 ·cases h
def yB (wf:ef H){m k x:Operand}(h:js P H t (aj G ρ m) (aj G ρ k) (aj G ρ x)=some (v,H'))(hfp:bp P G ρ H.C o=⟨cW (aj G ρ m),cW (aj G ρ m)⟩)
  (hop:∀H2:S2,ah P G ρ H2 H.C o=js P H2 t (aj G ρ m) (aj G ρ k) (aj G ρ x)):Local P G ρ H o v H' (bp P G ρ H.C o):=by
 rw[hfp];unfold js at h;split at h
 ·rename_i hm;split at h
  ·rename_i id k' u hx hk hu;split at h
   ·rename_i es hg;simp only[Option.some.injEq,Prod.mk.injEq]at h;obtain⟨rfl,rfl⟩:=h;refine kf (by rw[hx];simp[cW]) (by rw[hx];simp[cW]) (by rw[hx];exact eE (wf _ _ hg)) fun H2 h2=>?_;have hg2:H2.get id=some (.mp es):=(by rw[h2 id (by rw[hx];simp[cW])];exact hg);rw[hop];simp only[js,hm,if_true,hx,hk,hu,hg2]
   ·cases h
  ·cases h
 ·cases h
def Ec (wf:ef H){s d:TypeId}(h:im P H s d x=some v):(∀r,r∈aE x->r<H.C)/\∀H2:S2,(∀r,r∈aE x->H2.get r=H.get r)->im P H2 s d x=some v:=by
 have bytes:∀y:S1,j5 P H s d y=some v->(∀r,r∈aE y->r<H.C)/\∀H2:S2,(∀r,r∈aE y->H2.get r=H.get r)->j5 P H2 s d y=some v:=by
  intro y h;unfold j5 at h;split at h
  ·rename_i hsb;simp only[PE]at h;obtain⟨nl,hs,h⟩:=h;obtain⟨h1,h2⟩:=uK wf hs;refine⟨h1,fun H2 ha=>?_⟩;unfold j5;rw[PG hsb,h2 H2 ha];exact h
  ·cases h
 unfold im at h;split at h
 ·exact bytes _ h
 ·exact bytes _ h
 ·rename_i hne1 hne2;refine⟨fun r hr=>?_,fun H2 _=>?_⟩
  ·unfold iT at h;split at h
   ·rename_i a ha;cases x<;>simp_all[aE,S1.bM]
   ·cases h
  ·unfold im;split
   ·exact absurd rfl (hne1 _ _ _ _ _)
   ·exact absurd rfl (hne2 _ _)
   ·exact h
def uL (wf:ef H)(h:ah P G ρ H H.C o=some (v,H')):Local P G ρ H o v H' (bp P G ρ H.C o):=by
 cases o with
 |makeMap t r =>
  simp only[ah]at h;split at h
  ·simp only[an,Prod.mk.injEq]at h;obtain⟨H3,hl,rfl,rfl⟩:=h;refine mB hl (by simp[bp]) bU fun H2 _ H2' hl2=>?_;simp only[ah,hl2,Option.map_some]
  ·cases h
 |lookup t x i ok =>
  simp only[ah,an,Prod.mk.injEq]at h;obtain⟨v',hv,rfl,rfl⟩:=h;have hfp:bp P G ρ H.C (.lookup t x i ok)=⟨[],cW (aj G ρ x)⟩:=rfl;rw[hfp];unfold mg at hv;split at hv
  ·rename_i hm;split at hv
   ·rename_i hx hi;refine cB (by rw[hx];exact bU) fun H2 _=>?_;simp only[ah,mg,hm,if_true,hx,hi];simp only[Option.some.injEq]at hv;simp[hv]
   ·rename_i id k hx hi;split at hv
    ·rename_i es hg;refine cB (by rw[hx];exact eE (wf _ _ hg)) fun H2 h2=>?_;have hg2:H2.get id=some (.mp es):=(by rw[h2 id (by rw[hx];simp[cW])];exact hg);simp only[ah,mg,hm,if_true,hx,hi,hg2];simp only[Option.some.injEq]at hv;simp[hv]
    ·cases hv
   ·cases hv
  ·cases hv
 |mapUpdate t m k x=>exact yB wf (by simp only[ah]at h;exact h) (by rfl) fun H2=>rfl
 |insert t m k x=>exact yB wf (by simp only[ah]at h;exact h) (by rfl) fun H2=>rfl
 |mapEntry t m k =>
  simp only[ah]at h;have hfp:bp P G ρ H.C (.mapEntry t m k)=⟨cW (aj G ρ m),cW (aj G ρ m)⟩:=rfl;rw[hfp];unfold ld at h;split at h
  ·rename_i hm;split at h
   ·rename_i id k' hx hk;split at h
    ·rename_i es hg;have hg2:∀H2:S2,(∀r,r∈cW (aj G ρ m)->H2.get r=H.get r)->H2.get id=some (.mp es):=fun H2 h2=>by rw[h2 id (by rw[hx];simp[cW])];exact hg
     split at h
     ·rename_i n u hf;simp only[Option.some.injEq,Prod.mk.injEq]at h;obtain⟨rfl,rfl⟩:=h;refine kf (by rw[hx];simp[cW]) (by rw[hx];simp[cW]) (by rw[hx];exact eE (wf _ _ hg)) fun H2 h2=>?_;simp only[ah,ld,hm,if_true,hx,hk,hg2 H2 h2,hf]
     ·rename_i hf;simp only[Option.some.injEq,Prod.mk.injEq]at h;obtain⟨rfl,rfl⟩:=h;refine kf (by rw[hx];simp[cW]) (by rw[hx];simp[cW]) (by rw[hx];exact eE (wf _ _ hg)) fun H2 h2=>?_;simp only[ah,ld,hm,if_true,hx,hk,hg2 H2 h2,hf]
    ·cases h
   ·cases h
  ·cases h
 |entryStore t m s x =>
  simp only[ah]at h;have hfp:bp P G ρ H.C (.entryStore t m s x)=⟨cW (aj G ρ m),cW (aj G ρ m)⟩:=rfl;rw[hfp];unfold mh at h;split at h
  ·rename_i id s' u hx hs hu;split at h
   ·rename_i es hg;split at h
    ·rename_i hlt;simp only[Option.some.injEq,Prod.mk.injEq]at h;obtain⟨rfl,rfl⟩:=h;refine kf (by rw[hx];simp[cW]) (by rw[hx];simp[cW]) (by rw[hx];exact eE (wf _ _ hg)) fun H2 h2=>?_;have hg2:H2.get id=some (.mp es):=(by rw[h2 id (by rw[hx];simp[cW])];exact hg);simp only[ah,mh,hx,hs,hu,hg2];rw[PG hlt]
    ·cases h
   ·cases h
  ·cases h
 |alloc e =>
  simp only[ah,PE,an,Prod.mk.injEq]at h;obtain⟨z,hz,H3,hl,rfl,rfl⟩:=h;refine mB hl (by simp[bp]) bU fun H2 _ H2' hl2=>?_;simp only[ah,hz,hl2,Option.bind_some,Option.map_some]
 |box e x =>
  simp only[ah,an,Prod.mk.injEq]at h;obtain⟨H3,hl,rfl,rfl⟩:=h;refine mB hl (by simp[bp]) bU fun H2 _ H2' hl2=>?_;simp only[ah,hl2,Option.map_some]
 |buildSlice t len parts =>
  simp only[ah,il]at h;split at h
  ·rename_i e he;split at h
   ·rename_i hc;simp only[PE,an,Prod.mk.injEq]at h;obtain⟨z,hz,cells,hcl,H3,hl,rfl,rfl⟩:=h;refine mB hl (by simp[bp]) bU fun H2 _ H2' hl2=>?_;simp only[ah,il,he];rw[PG hc];simp only[hz,hcl,hl2,Option.bind_some,Option.map_some]
   ·cases h
  ·cases h
 |makeSlice t l c =>
  simp only[ah,gU]at h;split at h
  ·rename_i e k l' k' c' he hl' hc';split at h
   ·rename_i hc;simp only[PE,an,Prod.mk.injEq]at h;obtain⟨cells,hz,H3,hl,rfl,rfl⟩:=h;refine mB hl (by simp[bp]) bU fun H2 _ H2' hl2=>?_;simp only[ah,gU,he,hl',hc'];rw[PG hc];simp only[hz,hl2,Option.bind_some,Option.map_some]
   ·cases h
  ·cases h
 |store t a x =>
  simp only[ah]at h;split at h
  ·rename_i hu;simp only[an,Prod.mk.injEq]at h;obtain⟨H3,hst,rfl,rfl⟩:=h;obtain⟨id,gen,off,g,e,cells,ha,hg,cells',rfl,hall⟩:=D5 hst;have hfp:bp P G ρ H.C (.store t a x)=⟨[id],[id]⟩:=(by simp only[bp,ha,aE]);rw[hfp];refine kf SX SX (eE (wf _ _ hg)) fun H2 h2=>?_;simp only[ah,hu,if_true,hall H2 (h2 id SX),Option.map_some]
  ·cases h
 |load t p =>
  simp only[ah,an,Prod.mk.injEq]at h;obtain⟨v',hv,rfl,rfl⟩:=h;refine cB (D4 wf hv) fun H2 h2=>?_;simp only[ah,D3 h2,hv,Option.map_some]
 |nilCheck p =>
  simp only[ah,an,Prod.mk.injEq]at h;obtain⟨v',hv,rfl,rfl⟩:=h;have hv0:=hv;unfold iq at hv;split at hv
  ·rename_i id gen off hp;simp only[an]at hv;obtain⟨ec,hl,hv⟩:=hv;have hfp:bp P G ρ H.C (.nilCheck p)=⟨[],[id]⟩:=(by simp only[bp,hp,aE]);rw[hfp];refine cB (eE (gX wf hl)) fun H2 h2=>?_;subst hv;simp only[ah,hp,iq,iz (h2 id SX),hl,Option.map_some]
  ·rename_i hp;have hfp:bp P G ρ H.C (.nilCheck p)=⟨[],[]⟩:=(by simp only[bp,hp,aE]);rw[hfp];refine cB bU fun H2 _=>?_;simp only[ah,hp,iq,Option.map_some,Option.some.injEq]at hv ⊢;rw[hv]
  ·rename_i hp;have hfp:bp P G ρ H.C (.nilCheck p)=⟨[],[]⟩:=(by simp only[bp,hp,aE]);rw[hfp];refine cB bU fun H2 _=>?_;simp only[ah,hp,iq,Option.map_some,Option.some.injEq]at hv ⊢;rw[hv]
  ·cases hv
 |slice t x lo hi mx =>
  simp only[ah]at h;split at h
  ·simp only[an,Prod.mk.injEq]at h;obtain⟨v',hv,rfl,rfl⟩:=h;obtain⟨h1,h2⟩:=D7 wf hv;refine cB h1 fun H2 h3=>?_;simp only[ah,h2 H2 h3,Option.map_some]
  ·cases h
 |indexAddr t x i =>
  simp only[ah]at h;split at h
  ·rename_i k i' hi;simp only[an,Prod.mk.injEq]at h;obtain⟨v',hv,rfl,rfl⟩:=h;obtain⟨h1,h2⟩:=D6 wf hv;refine cB h1 fun H2 h3=>?_;simp only[ah,hi,h2 H2 h3,Option.map_some]
  ·cases h
 |fieldAddr s x f =>
  simp only[ah,PE]at h;obtain⟨of,hof,h⟩:=h;split at h
  ·rename_i id gen off hx;simp only[an,Prod.mk.injEq]at h;obtain⟨ec,hl,rfl,rfl⟩:=h;have hfp:bp P G ρ H.C (.fieldAddr s x f)=⟨[],[id]⟩:=(by simp only[bp,hx,aE]);rw[hfp];refine cB (eE (gX wf hl)) fun H2 h2=>?_;simp only[ah,hof,Option.bind_some,hx,iz (h2 id SX),hl,Option.map_some]
  ·rename_i cells off hx;simp only[Option.some.injEq,Prod.mk.injEq]at h;obtain⟨rfl,rfl⟩:=h;have hfp:bp P G ρ H.C (.fieldAddr s x f)=⟨[],[]⟩:=(by simp only[bp,hx,aE]);rw[hfp];refine cB bU fun H2 _=>?_;simp only[ah,hof,Option.bind_some,hx]
  ·cases h
 |call c =>
  have h0:=h;simp only[ah]at h;split at h
  ·rename_i b hb;unfold eO at h;split at h
   ·rename_i t x hats hargs;simp only[an,Prod.mk.injEq]at h;obtain⟨v',hv,rfl,rfl⟩:=h;obtain⟨h1,h2⟩:=D8 wf hv;have hfp:bp P G ρ H.C (.call c)=⟨[],iy P t x⟩:=(by simp only[bp,hb,hats,hargs,gm]);rw[hfp];refine cB h1 fun H2 h3=>?_;simp only[ah,hb,hats,hargs,eO,h2 H2 h3,Option.map_some]
   ·rename_i hats hargs;exact D9 wf hb hats hargs h
   ·rename_i hats hargs;exact Ea wf hb hats hargs h
   ·rename_i hats hargs;exact Eb wf hb hats hargs h
   ·rename_i hats;simp only[PE,an,Prod.mk.injEq]at h;obtain⟨vs,h1,v',h2,rfl,rfl⟩:=h;have hfp:bp P G ρ H.C (.call c)=⟨[],[]⟩:=(by simp only[bp,hb,gm]);rw[hfp];refine cB bU fun H2 _=>?_;simp only[ah,hb,eO,h1,h2,Option.bind_some,Option.map_some]
   ·rename_i hats;simp only[PE,an,Prod.mk.injEq]at h;obtain⟨vs,h1,v',h2,rfl,rfl⟩:=h;have hfp:bp P G ρ H.C (.call c)=⟨[],[]⟩:=(by simp only[bp,hb,gm]);rw[hfp];refine cB bU fun H2 _=>?_;simp only[ah,hb,eO,h1,h2,Option.bind_some,Option.map_some]
   ·cases h
  ·cases h
 |pick c a b =>
  simp only[ah]at h;split at h
  ·rename_i t ht;simp only[Option.some.injEq,Prod.mk.injEq]at h;obtain⟨rfl,rfl⟩:=h;refine cB bU fun H2 _=>?_;simp only[ah,ht]
  ·cases h
 |makeFunc fn f c =>
  simp only[ah]at h;split at h
  ·simp only[Option.some.injEq,Prod.mk.injEq]at h;obtain⟨rfl,rfl⟩:=h;exact cB bU fun H2 _=>by simp only[ah]
  ·cases h
 |makeInterface t x =>
  simp only[ah]at h;split at h
  ·rename_i y hy;simp only[an,Prod.mk.injEq]at h;obtain⟨v',hv,rfl,rfl⟩:=h;refine cB bU fun H2 _=>?_;simp only[ah,hy,hv,Option.map_some]
  ·cases h
 |field s x f =>
  simp only[ah,PE]at h;obtain⟨of,hof,h⟩:=h;split at h
  ·rename_i hx;simp only[an,Prod.mk.injEq]at h;obtain⟨v',hv,rfl,rfl⟩:=h;refine cB bU fun H2 _=>?_;simp only[ah,hof,Option.bind_some,hx,hv,Option.map_some]
  ·rename_i hx;simp only[an,Prod.mk.injEq]at h;obtain⟨v',hv,rfl,rfl⟩:=h;refine cB bU fun H2 _=>?_;simp only[ah,hof,Option.bind_some,hx,hv,Option.map_some]
  ·cases h
 |move x=>simp only[ah,Option.some.injEq,Prod.mk.injEq]at h;obtain⟨rfl,rfl⟩:=h;exact cB bU fun H2 _=>by simp only[ah]
 |assign x=>simp only[ah,Option.some.injEq,Prod.mk.injEq]at h;obtain⟨rfl,rfl⟩:=h;exact cB bU fun H2 _=>by simp only[ah]
 |build t p=>simp only[ah,an,Prod.mk.injEq]at h;obtain⟨v',hv,rfl,rfl⟩:=h;exact cB bU fun H2 _=>by simp only[ah,hv,Option.map_some]
 |binOp a b c d e=>simp only[ah,an,Prod.mk.injEq]at h;obtain⟨v',hv,rfl,rfl⟩:=h;exact cB bU fun H2 _=>by simp only[ah,hv,Option.map_some]
 |unOp a b c=>simp only[ah,an,Prod.mk.injEq]at h;obtain⟨v',hv,rfl,rfl⟩:=h;exact cB bU fun H2 _=>by simp only[ah,hv,Option.map_some]
 |convert a b c =>
  simp only[ah,an,Prod.mk.injEq]at h;obtain⟨v',hv,rfl,rfl⟩:=h;obtain⟨h1,h2⟩:=Ec wf hv;refine cB h1 fun H2 ha=>?_;simp only[ah,h2 H2 ha,Option.map_some]
 |index a b c=>simp only[ah,an,Prod.mk.injEq]at h;obtain⟨v',hv,rfl,rfl⟩:=h;exact cB bU fun H2 _=>by simp only[ah,hv,Option.map_some]
 |extract a b=>simp only[ah,an,Prod.mk.injEq]at h;obtain⟨v',hv,rfl,rfl⟩:=h;exact cB bU fun H2 _=>by simp only[ah,hv,Option.map_some]
 |_=>simp[ah]at h
def yC {ρ':Env}(h:∀x,x∈o.operands->aj G ρ x=aj G ρ' x):ah P G ρ H id o=ah P G ρ' H id o:=by
 have hparts:∀(ps:Array (Nat × Operand)),(∀x,x∈(ps.toList.map (·.2)).toArray->aj G ρ x=aj G ρ' x)->ps.toList.map (fun p=>(p.1,aj G ρ p.2))=ps.toList.map (fun p=>(p.1,aj G ρ' p.2)):=by
  intro ps hp;refine Q5 fun p hpm=>?_;rw[hp p.2 (by simpa using ⟨p.1,by simpa using hpm⟩)]
 have hlist:∀(ps:Array Operand),(∀x,x∈ps->aj G ρ x=aj G ρ' x)->ps.toList.map (aj G ρ)=ps.toList.map (aj G ρ'):=by
  intro ps hp;exact Q5 fun p hpm=>hp p (by simpa using hpm)
 cases o with
 |build t ps=>simp only[ah];rw[hparts ps h]
 |buildSlice t len ps=>simp only[ah];rw[hparts ps h]
 |makeFunc fn f c =>
  simp only[ah];rw[hlist f fun x hx=>h x (by simp[Op.operands,hx]),hlist c fun x hx=>h x (by simp[Op.operands,hx])]
 |slice t x lo hi mx =>
  have hx:=h x (by simp[Op.operands]);have hlo:lo.map (aj G ρ)=lo.map (aj G ρ'):=by
   cases lo with
   |none=>rfl
   |some l=>simp only[Option.map_some];rw[h l (by simp[Op.operands])]
  have hhi:hi.map (aj G ρ)=hi.map (aj G ρ'):=by
   cases hi with
   |none=>rfl
   |some l=>simp only[Option.map_some];rw[h l (by simp[Op.operands])]
  simp only[ah,hx,hlo,hhi]
 |call c =>
  simp only[ah];rw[hlist c.args fun x hx=>h x (by
   simp only[Op.operands,Call.operands];split<;>simp[hx])]
 |pick c a b=>simp only[ah,h c (by simp[Op.operands]),h a (by simp[Op.operands]),h b (by simp[Op.operands])]
 |store t a x=>simp only[ah,h a (by simp[Op.operands]),h x (by simp[Op.operands])]
 |binOp op t x y u=>simp only[ah,h x (by simp[Op.operands]),h y (by simp[Op.operands])]
 |makeSlice t l c=>simp only[ah,h l (by simp[Op.operands]),h c (by simp[Op.operands])]
 |indexAddr t x i=>simp only[ah,h x (by simp[Op.operands]),h i (by simp[Op.operands])]
 |index t x i=>simp only[ah,h x (by simp[Op.operands]),h i (by simp[Op.operands])]
 |move x=>simp only[ah,h x (by simp[Op.operands])]
 |assign x=>simp only[ah,h x (by simp[Op.operands])]
 |box e x=>simp only[ah,h x (by simp[Op.operands])]
 |load e x=>simp only[ah,h x (by simp[Op.operands])]
 |nilCheck x=>simp only[ah,h x (by simp[Op.operands])]
 |unOp a b x=>simp only[ah,h x (by simp[Op.operands])]
 |convert a b x=>simp only[ah,h x (by simp[Op.operands])]
 |makeInterface t x=>simp only[ah,h x (by simp[Op.operands])]
 |fieldAddr s x f=>simp only[ah,h x (by simp[Op.operands])]
 |field s x f=>simp only[ah,h x (by simp[Op.operands])]
 |extract x i=>simp only[ah,h x (by simp[Op.operands])]
 |lookup t x i ok=>simp only[ah,h x (by simp[Op.operands]),h i (by simp[Op.operands])]
 |mapUpdate t m k x=>simp only[ah,h m (by simp[Op.operands]),h k (by simp[Op.operands]),h x (by simp[Op.operands])]
 |insert t m k x=>simp only[ah,h m (by simp[Op.operands]),h k (by simp[Op.operands]),h x (by simp[Op.operands])]
 |mapEntry t m k=>simp only[ah,h m (by simp[Op.operands]),h k (by simp[Op.operands])]
 |entryStore t m s x=>simp only[ah,h m (by simp[Op.operands]),h s (by simp[Op.operands]),h x (by simp[Op.operands])]
 |_=>rfl
end Go.Hx
namespace Go.Hx
variable {P:Program} {G:Nat->Option (List S1)} {Γ Γ':aq} {H H':S2} {w w':World}
variable {ρ:Env}{r:Nat}{g:Nat->Option S7}{e:Option (Nat × S7)}{x:Option Tmp}{v:S1}{t:Tmp}
def cD (P:Program)(G:Nat->Option (List S1))(fv:S1)(args:List S1)(H:S2)(v:S1)(rs:List Nat):Prop :=
 (∀r,r∈rs->r<H.C)/\∀H2:S2,(∀r,r∈rs->H2.get r=H.get r)->H.C<=H2.C->aH P G fv args H2 fun r H3=>r=.ret v/\H3=H2
def bz (P:Program)(G:Nat->Option (List S1))(o:Oper)(K:FP->St->Prop)(s:St):Prop :=
 match o.op with
 |.call { callee:=.value fv,args,.. }=>∃v rs,cD P G (aj G s.ρ fv) (args.toList.map (aj G s.ρ)) s.H v rs/\K ⟨[],rs⟩ ⟨aD s.ρ o.dst v,s.H⟩
 |op=>bb (ah P G s.ρ s.H s.H.C op) fun vH=>K (bp P G s.ρ s.H.C op) ⟨aD s.ρ o.dst vH.1,vH.2⟩
def dS (i:Nat)(f:FP)(acc:List (Nat × FP)):List (Nat × FP) :=
 match f with
 |⟨[],[]⟩=>acc
 |f=>(i,f) :: acc
def eR (b:Nat)(f:FP)(acc:List (Nat × FP)):Prop :=
 ∀p,p∈acc->b.testBit p.1=false->(∀r,r∈f.nk->r ∉ p.2.rs)/\(∀r,r∈p.2.nk->r ∉ f.rs)
def cz (P:Program)(G:Nat->Option (List S1))(all:Array Oper)(tail:St->Prop):List Nat->Nat->List (Nat × FP)->List Oper->St->Prop
 |b :: bs,i,acc,o :: rest,s=>bb (dD all s.ρ o) fun t=>if t=true then bz P G o (fun f s'=>eR b f acc/\cz P G all tail bs (i+1) (dS i f acc) rest s') s
   else cz P G all tail bs (i+1) acc rest ⟨aD s.ρ o.dst (.lit undef),s.H⟩
 |_,_,_,[],s=>tail s
 | [],_,_,_ :: _,_=>False
def qD (o:Oper):List Nat:=(o.after.toList.filter fun e=>Region.binds .any e).map (·.on)
def qE (x:Option Tmp)(l:List Tmp):Bool:=match x with|some d=>!l.contains d|none=>true
def qF (all:Array Oper)(x y:Oper):Bool :=
 qE x.dst (y.looksAt all) && qE y.dst (x.looksAt all) && (match x.dst with|some d=>y.dst != some d|none=>true)
def cJ (bs:List Nat)(i:Nat):Nat:=(bs[i]?).getD 0
def uM (bs:List Nat)(i:Nat)(o:Oper):Bool :=
 let es:=qD o
 let b:=cJ bs i
 es.all (fun e=>decide (e<i)) && decide (b<2 ^ i) &&
 (List.range i).all (fun j=>!b.testBit j ||es.any fun e=>e == j ||(cJ bs e).testBit j)
def mC (all:Array Oper)(bs:List Nat)(K:Nat):Bool :=
 decide (bs.length=K) && decide (K<=all.size) &&
 (List.range all.size).all (fun i=>match all[i]? with|some o=>uM (bs++(List.range' K (all.size-K)).map fun m=>2 ^ m-1) i o|none=>false) &&
 (List.range K).all fun i=>match all[i]? with
  |some o=>(List.range i).all fun j=>(cJ bs i).testBit j ||(match all[j]? with|some o'=>qF all o' o|none=>false)
  |none=>false
structure Dt where
 v:S1
 e:Option (Nat × S7)
 al:Bool
 f:FP
def eF (all:Array Oper)(i:Nat):Option Tmp:=(all[i]?).bind (·.dst)
def ba (all:Array Oper)(d:Nat->Dt)(ρ0:Env):Nat->(Nat->Bool)->Env
 |0,_=>ρ0
 |n+1,D=>if D n then aD (ba all d ρ0 n D) (eF all n) (d n).v else ba all d ρ0 n D
def aQ (d:Nat->Dt)(g0:Nat->Option S7):Nat->(Nat->Bool)->Nat->Option S7
 |0,_=>g0
 |n+1,D=>if D n then cX (d n).e (aQ d g0 n D) else aQ d g0 n D
def aA (d:Nat->Dt):Nat->Nat
 |0=>0
 |n+1=>aA d n+(if (d n).al then 1 else 0)
def cI (x:Dt):Option Nat:=x.e.map (·.1)
def mD (h:e.map (·.1)≠some r):cX e g r=g r:=by
 cases e with
 |none=>rfl
 |some kb =>
  simp only[cX];rw[PC];rintro rfl;exact h rfl
def mE (h:x≠some t):aD ρ x v t=ρ t:=by
 cases x with
 |none=>rfl
 |some d =>
  simp only[aD];rw[PC];rintro rfl;exact h rfl
def qG {ρ':Env}(h:ρ t=ρ' t):aD ρ x v t=aD ρ' x v t:=by
 cases x with
 |none=>exact h
 |some d=>simp only[aD,h]
def qH {g':Nat->Option S7}(h:g r=g' r):cX e g r=cX e g' r:=by
 cases e with
 |none=>exact h
 |some kb=>simp only[cX,h]
def yD {y:Option Tmp}{u:S1}(h:∀d,x=some d->y≠some d):aD (aD ρ x v) y u=aD (aD ρ y u) x v:=by
 funext t
 by_cases hx:x=some t
 ·rw[mE (h t hx)];exact qG (mE (h t hx)).symm
 ·rw[mE (ρ:=aD ρ y u) hx];exact qG (mE hx)
def Ed {e':Option (Nat × S7)}(h:∀r,e.map (·.1)=some r->e'.map (·.1)≠some r):cX e' (cX e g)=cX e (cX e' g):=by
 funext r
 by_cases hx:e.map (·.1)=some r
 ·rw[mD (h r hx)];exact qH (mD (h r hx)).symm
 ·rw[mD (g:=cX e' g) hx];exact qH (mD hx)
section
variable {all:Array Oper} {d d':Nat->Dt} {ρ0:Env} {g0 g0':Nat->Option S7} {D D':Nat->Bool}
def lf {t:Tmp}:∀ {n:Nat},(∀j,j<n->eF all j=some t->D j=D' j)->ba all d ρ0 n D t=ba all d ρ0 n D' t:=by
 intro n
 induction n with
 |zero=>intro _;rfl
 |succ n ih =>
  intro h;have h0:=ih fun j hj=>h j U;simp only[ba];by_cases hd:eF all n=some t
  ·rw[h n U hd];split
   ·exact qG h0
   ·exact h0
  ·have:∀(b:Bool) (ρ:Env),(if b=true then aD ρ (eF all n) (d n).v else ρ) t=ρ t:=by
    intro b ρ;split
    ·exact mE hd
    ·rfl
   rw[this,this];exact h0
def ub {m:Nat}:∀ {n:Nat},m<=n->ba all d ρ0 n (fun j=>decide (j<m))=ba all d ρ0 m fun _=>true:=by
 have low:∀k,k<=m->ba all d ρ0 k (fun j=>decide (j<m))=ba all d ρ0 k fun _=>true:=by
  intro k
  induction k with
  |zero=>intro _;rfl
  |succ k ih =>
   intro hk;simp only[ba];rw[ih U,PG (by simp;omega)];simp
 intro n
 induction n with
 |zero =>
  intro hm;obtain rfl:m=0:=U
  exact low 0 (U)
 |succ n ih =>
  intro hm;by_cases h:m=n+1
  ·subst h;exact low (n+1) (U)
  ·simp only[ba];rw[PC (by simp;omega)];exact ih (U)
def lg {r:Nat}:∀ {n:Nat},(∀j,j<n->cI (d j)=some r->D j=D' j)->aQ d g0 n D r=aQ d g0 n D' r:=by
 intro n
 induction n with
 |zero=>intro _;rfl
 |succ n ih =>
  intro h;have h0:=ih fun j hj=>h j U;simp only[aQ];by_cases hd:cI (d n)=some r
  ·rw[h n U hd];split
   ·exact qH h0
   ·exact h0
  ·have:∀(b:Bool) (g:Nat->Option S7),(if b=true then cX (d n).e g else g) r=g r:=by
    intro b g;split
    ·exact mD hd
    ·rfl
   rw[this,this];exact h0
def uc {m:Nat}:∀ {n:Nat},m<=n->aQ d g0 n (fun j=>decide (j<m))=aQ d g0 m fun _=>true:=by
 have low:∀k,k<=m->aQ d g0 k (fun j=>decide (j<m))=aQ d g0 k fun _=>true:=by
  intro k
  induction k with
  |zero=>intro _;rfl
  |succ k ih =>
   intro hk;simp only[aQ];rw[ih U,PG (by simp;omega)];simp
 intro n
 induction n with
 |zero =>
  intro hm;obtain rfl:m=0:=U
  exact low 0 (U)
 |succ n ih =>
  intro hm;by_cases h:m=n+1
  ·subst h;exact low (n+1) (U)
  ·simp only[aQ];rw[PC (by simp;omega)];exact ih (U)
def oa {r:Nat}:∀ {n:Nat},(g0 r=g0' r\/∃j,j<n/\D j=true/\cI (d j)=some r)->aQ d g0 n D r=aQ d g0' n D r:=by
 intro n
 induction n with
 |zero =>
  rintro(h|⟨j,hj,_⟩)
  ·exact h
  ·omega
 |succ n ih =>
  intro h;simp only[aQ];by_cases hD:D n=true
  ·rw[PG hD,PG hD];by_cases ht:cI (d n)=some r
   ·cases he:(d n).e with
    |none=>simp[cI,he]at ht
    |some kb =>
     simp only[cI,he,Option.map_some,Option.some.injEq]at ht;simp only[cX];rw[PG ht.symm,PG ht.symm]
   ·refine qH (ih ?_);rcases h with h|⟨j,hj,h1,h2⟩
    ·exact .inl h
    ·by_cases hjn:j=n
     ·subst hjn;exact absurd h2 ht
     ·exact .inr ⟨j,U,h1,h2⟩
  ·rw[PC hD,PC hD];refine ih ?_;rcases h with h|⟨j,hj,h1,h2⟩
   ·exact .inl h
   ·by_cases hjn:j=n
    ·subst hjn;exact absurd h1 hD
    ·exact .inr ⟨j,U,h1,h2⟩
def ud {r:Nat}:∀ {n:Nat},(∀j,j<n->D j=true->cI (d j)≠some r)->aQ d g0 n D r=g0 r:=by
 intro n
 induction n with
 |zero=>intro _;rfl
 |succ n ih =>
  intro h;simp only[aQ];split
  ·rename_i hD;rw[mD (h n U hD)];exact ih fun j hj=>h j (U)
  ·exact ih fun j hj=>h j (U)
def bA (D:Nat->Bool)(i:Nat):Nat->Bool:=fun j=>if j=i then true else D j
def ue {i:Nat}(hD:D i=false):∀ {n:Nat},i<n->(∀j,i<j->j<n->D j=true->∀t,eF all i=some t->eF all j≠some t) ->
  ba all d ρ0 n (bA D i)=aD (ba all d ρ0 n D) (eF all i) (d i).v:=by
 intro n
 induction n with
 |zero=>intro h;omega
 |succ n ih =>
  intro hi h;by_cases hin:i=n
  ·subst hin;have h0:ba all d ρ0 i (bA D i)=ba all d ρ0 i D:=funext fun t=>lf fun j hj _=>by simp[bA,RS hj]
   simp only[ba];rw[PG (by simp[bA]),PC (by simp[hD]),h0]
  ·have hw:bA D i n=D n:=(by simp[bA,Ne.symm hin]);have h0:=ih U fun j h1 h2=>h j h1 U;simp only[ba,hw];split
   ·rename_i hDn;rw[h0];exact yD (h n U U hDn)
   ·exact h0
def uf {i:Nat}(hD:D i=false):∀ {n:Nat},i<n->(∀j,i<j->j<n->D j=true->∀t,cI (d i)=some t->cI (d j)≠some t) ->
  aQ d g0 n (bA D i)=cX (d i).e (aQ d g0 n D):=by
 intro n
 induction n with
 |zero=>intro h;omega
 |succ n ih =>
  intro hi h;by_cases hin:i=n
  ·subst hin;have h0:aQ d g0 i (bA D i)=aQ d g0 i D:=funext fun t=>lg fun j hj _=>by simp[bA,RS hj]
   simp only[aQ];rw[PG (by simp[bA]),PC (by simp[hD]),h0]
  ·have hw:bA D i n=D n:=(by simp[bA,Ne.symm hin]);have h0:=ih U fun j h1 h2=>h j h1 U;simp only[aQ,hw];split
   ·rename_i hDn;rw[h0];exact Ed (h n U U hDn)
   ·exact h0
def mq {m n:Nat}(h:m<=n):aA d m<=aA d n:=by
 induction n with
 |zero =>
  have:m=0:=U
  subst this;exact Nat.le_refl _
 |succ n ih =>
  by_cases hm:m=n+1
  ·subst hm;exact Nat.le_refl _
  ·exact Qm (ih U) (by simp[aA])
def oh {n c:Nat}(h:c<aA d n):∃j,j<n/\(d j).al=true/\aA d j=c:=by
 induction n with
 |zero=>simp[aA]at h
 |succ n ih =>
  by_cases hc:c<aA d n
  ·obtain⟨j,h1,h2⟩:=ih hc;exact⟨j,U,h2⟩
  ·simp only[aA]at h;cases hal:(d n).al with
   |false=>simp[hal]at h;omega
   |true =>
    simp only[hal,if_true]at h;exact⟨n,U,hal,U⟩
def iV {i n:Nat}(h:i<n)(hal:(d i).al=true):aA d i<aA d n:=by
 have:=mq (d:=d) (m:=i+1) (n:=n) h;simp only[aA,hal,if_true]at this;omega
def om {n:Nat}(h:∀j,j<n->d j=d' j):ba all d ρ0 n D=ba all d' ρ0 n D:=by
 induction n with
 |zero=>rfl
 |succ n ih=>simp only[ba];rw[ih fun j hj=>h j U,h n U]
def oo {n:Nat}(h:∀j,j<n->d j=d' j):aQ d g0 n D=aQ d' g0 n D:=by
 induction n with
 |zero=>rfl
 |succ n ih=>simp only[aQ];rw[ih fun j hj=>h j U,h n U]
def dQ {n:Nat}(h:∀j,j<n->d j=d' j):aA d n=aA d' n:=by
 induction n with
 |zero=>rfl
 |succ n ih=>simp only[aA];rw[ih fun j hj=>h j U,h n U]
end
def ExecOk (P:Program)(G:Nat->Option (List S1))(all:Array Oper)(o:Oper)(id:Nat)(s s':St):Prop :=
 (dD all s.ρ o=some false/\s'=⟨aD s.ρ o.dst (.lit undef),s.H⟩) \/
 (dD all s.ρ o=some true/\∃v,s'.ρ=aD s.ρ o.dst v /\
  (ah P G s.ρ s.H id o.op=some (v,s'.H) \/
   ∃fv args ats,o.op=.call ⟨.value fv,args,ats⟩/\s'.H=s.H/\aH P G (aj G s.ρ fv) (args.toList.map (aj G s.ρ)) s.H fun r H3=>r=.ret v/\H3=s.H))
def ug {n:Nat}{wb:Tu}{rd rb:Option Nat}{all:Array Oper}{o:Oper}{id i:Nat}{s s':St}{a:Act}{C:Act->World->Prop}{Q':Exit->Act->World->Prop}(ho:all[i]?=some o)(hd:ee n o=true)
  (hs:Ti P G n wb Γ s a w) (hr:cU Γ s.H rd rb) (h:ExecOk P G all o id s s')
  (hnext:∀ Γ' a' w',Ti P G n wb Γ' s' a' w'->Ta Γ s.H w Γ' s'.H w'->s.H.C<=s'.H.C->cU Γ' s'.H rd rb->(∃cv,a'=a.put o.dst cv)->C a' w'):
  wpOpIn (cV rb) 0 P all Q' i C a w:=by
 have hdst:∀d,o.dst=some d->d<n:=by
  intro d hd';unfold ee at hd;rw[hd']at hd;simpa using hd
 unfold wpOpIn;rw[ho];simp only;rcases h with ⟨hw,rfl⟩|⟨hw,v,hρ,h⟩
 ·rw[mw hs hw];simp only[Bool.false_eq_true,if_false];refine⟨fun _ _=>trivial,?_⟩;have hs':=ix (v:=.lit undef) (cv:=undef) hs hdst (Ta.refl Γ s.H w) S0 hs.heap (.lit _);exact hnext Γ _ w hs' (Ta.refl _ _ _) S0 hr ⟨_,rfl⟩
 ·rw[mw hs hw];simp only[if_true];obtain⟨ρ',H'⟩:=s';simp only at hρ;subst hρ;refine⟨fun _ _=>trivial,?_⟩;rcases h with hop|⟨fv,args,ats,hop,hH,hap⟩
  ·simp only at hop;rw[Oper.semAt_eq _ _ _ (fun c hc=>by rw[hc]at hop;simp[ah]at hop)];obtain⟨nx,cv,Γ',w',hrun,hnx,E,hn,R,hv⟩:=uA hs.heap (fP hs) hop;rw[hrun];have hri:=uD hr (uE hs.heap hop);have hs':=ix hs hdst E hn R hv;have hr':=hr.aV E hn hs.heap hri;rcases hnx with rfl|⟨rfl,rfl⟩
   ·exact hnext Γ' _ w' hs' E hn hr' ⟨_,rfl⟩
   ·exact hnext Γ' _ w' hs' E hn hr' ⟨_,rfl⟩
  ·simp only at hH;subst hH;rw[Oper.semAt_eq _ _ _ (fun c hc=>by rw[hc]at hop;cases hop)];obtain⟨d,h1,h2⟩:=hap Γ w (a.eval fv) (args.map a.eval) hs.heap (fP hs fv) ⟨SX,fun i h1 h2=>by simp only[PK,Rx,Qt];exact fP hs _⟩;have hex:(execOp a.eval o).run P w=(invoke d.target d.args).run P w:=by
    unfold execOp;simp only[hop];unfold resolve;simp only;rw[ak h1]
   have hri:dR s.H rd:=by
    cases rd with
    |none=>trivial
    |some id =>
     obtain⟨b,st,pend,n,env,ps,asg,body,_,_,h3⟩:=hr;exact⟨_,_,_,_,_,_,_,h3⟩
   have cont:∀e w',fQ P G Γ s.H w (fun r H3=>r=.ret v/\H3=s.H) e w'->(match e with
     |.returned v=>C (a.put o.dst v) w'
     |.panicked chain=>Q' (.panic chain) a w'
     |.outgrown=>LetsOut Q'):=by
    rintro e w' ⟨r,H',Γ',hend,⟨rfl,rfl⟩,R,E,hn⟩;have hr':=hr.aV E hn hs.heap hri;cases e with
    |returned cv=>exact hnext Γ' _ w' (ix hs hdst E hn R hend) E hn hr' ⟨_,rfl⟩
    |panicked chain=>exact hend.elim
    |outgrown=>exact hend.elim
   rw[hex];rcases h2 with ⟨f,as,h3,h4⟩|⟨l,f,tm,asg,body,h3,h4⟩|⟨cv,w',h3,h4⟩
   ·rw[h3];refine⟨fun hc=>by simp[Fence.wide]at hc,?_⟩;have h4':CallsIn (cV rb) 0 P f as w _:=h4;refine h4'.mono ?_;intro e w' hp;have:=cont e w' hp;cases e<;>exact this
   ·rw[h3];refine⟨fun hc=>by simp[Fence.wide]at hc,?_⟩;have h4':RoundIn (cV rb) 0 P l f tm asg body w _:=h4;refine h4'.mono ?_;intro e w' hp;have:=cont e w' hp;cases e<;>exact this
   ·rw[h3];exact cont (.returned cv) w' h4
def jv (d:Nat->Dt)(H0:S2)(m:Nat):S2:=⟨aQ d H0.get m fun _=>true,H0.C+aA d m⟩
def canon (all:Array Oper)(d:Nat->Dt)(s0:St)(m:Nat):St:=⟨ba all d s0.ρ m fun _=>true,jv d s0.H m⟩
structure Tc (P:Program)(G:Nat->Option (List S1))(all:Array Oper)(bs:List Nat)(s0:St)(d:Nat->Dt)(i:Nat):Prop where
 step:∀o,all[i]?=some o->∀ ρ2 H2,(∀t,t∈o.looksAt all->ρ2 t=(canon all d s0 i).ρ t)->(∀r,r∈(d i).f.rs->H2.get r=(canon all d s0 i).H.get r) ->
  ((d i).al=true->H2.get (s0.H.C+aA d i)=some .ni/\s0.H.C+aA d i≠H2.C)->s0.H.C+aA d i<=H2.C ->
  ExecOk P G all o (s0.H.C+aA d i) ⟨ρ2,H2⟩ ⟨aD ρ2 o.dst (d i).v,⟨cX (d i).e H2.get,H2.C⟩⟩
 nk:∀k b,(d i).e=some (k,b)->k∈(d i).f.nk/\((d i).al=false->k∈(d i).f.rs)
 al:(d i).al=true->∃b,(d i).e=some (s0.H.C+aA d i,b)
 lt:∀r,r∈(d i).f.rs->r<s0.H.C+aA d i
 apart:∀j,j<i->(cJ bs i).testBit j=false->(∀r,r∈(d i).f.nk->r ∉ (d j).f.rs)/\(∀r,r∈(d j).f.nk->r ∉ (d i).f.rs)
def mF {all:Array Oper}{o:Oper}{ρ ρ':Env}(h:∀t,t∈o.looksAt all->ρ' t=ρ t):dD all ρ' o=dD all ρ o:=by
 unfold dD;cases hg:o.guard with
 |none=>rfl
 |some gw =>
  obtain⟨j,want⟩:=gw;simp only;cases hd:(all[j]?).bind (·.dst) with
  |none=>rfl
  |some d =>
   simp only;rw[h d (by simp[Oper.looksAt,hg,hd])]
def qI {all:Array Oper}{o:Oper}{ρ ρ':Env}(h:∀t,t∈o.looksAt all->ρ' t=ρ t):∀x,x∈o.op.operands->aj G ρ' x=aj G ρ x:=by
 intro x hx;cases x with
 |tmp t=>exact h t (Rd _ (List.mem_filterMap.2 ⟨.tmp t,by simpa using hx,rfl⟩))
 |_=>rfl
def bD (d:Nat->Dt)(m:Nat)(x:Dt):Nat->Dt:=fun j=>if j=m then x else d j
def eP {d:Nat->Dt}{m:Nat}{x:Dt}{i:Nat}(h:i<m):d i=bD d m x i:=by simp[bD,RS h]
def bX {d:Nat->Dt}{m:Nat}{x:Dt}:bD d m x m=x:=by simp[bD]
def jx {all:Array Oper}{d d':Nat->Dt}{s0:St}{m:Nat}(h:∀j,j<m->d j=d' j):canon all d s0 m=canon all d' s0 m:=by
 unfold canon jv;rw[om h,oo h,dQ h]
def Tc.below {all:Array Oper}{bs:List Nat}{s0:St}{d d':Nat->Dt}{i:Nat}(g:Tc P G all bs s0 d i)(h:∀j,j<=i->d j=d' j):Tc P G all bs s0 d' i:=by
 have hi:=h i S0;have hn:aA d i=aA d' i:=dQ fun j hj=>h j U;have hc:canon all d s0 i=canon all d' s0 i:=jx fun j hj=>h j U;obtain⟨a,b,c,e,f⟩:=g;refine⟨?_,?_,?_,?_,?_⟩
 ·rw[<- hi,<- hn,<- hc];exact a
 ·rw[<- hi];exact b
 ·rw[<- hi,<- hn];exact c
 ·rw[<- hi,<- hn];exact e
 ·intro j hj hb;rw[<- hi,<- h j U];exact f j hj hb
def ir (d:Nat->Dt)(m:Nat)(acc:List (Nat × FP)):Prop:=∀j,j<m->(d j).f=⟨[],[]⟩\/(j,(d j).f)∈acc
def ir.add {d:Nat->Dt}{m:Nat}{acc:List (Nat × FP)}(h:ir d m acc)(x:Dt):ir (bD d m x) (m+1) (dS m x.f acc):=by
 intro j hj;have key:∀p,p∈acc->p∈dS m x.f acc:=by
  intro p hp;unfold dS;split
  ·exact hp
  ·exact Qs _ hp
 by_cases hjm:j=m
 ·subst hjm;rw[bX];by_cases hf:x.f=⟨[],[]⟩
  ·exact .inl hf
  ·refine .inr ?_;unfold dS;split
   ·rename_i h0;exact absurd h0 hf
   ·exact QP
 ·rw[<- eP (x:=x) U];exact(h j U).imp id (key _)
def ot {d:Nat->Dt}{m:Nat}{acc:List (Nat × FP)}{b:Nat}{f:FP}(hc:ir d m acc)(h:eR b f acc):∀j,j<m->b.testBit j=false->(∀r,r∈f.nk->r ∉ (d j).f.rs)/\(∀r,r∈(d j).f.nk->r ∉ f.rs):=by
 intro j hj hb;rcases hc j hj with h0|h1
 ·rw[h0];exact⟨fun r _ h=>(by cases h),fun r h=>(by cases h)⟩
 ·exact h _ h1 hb
def lh {all:Array Oper}{d:Nat->Dt}{s0:St}{m:Nat}{x:Dt}{o:Oper}(ho:all[m]?=some o):
  canon all (bD d m x) s0 (m+1)=⟨aD (canon all d s0 m).ρ o.dst x.v,⟨cX x.e (canon all d s0 m).H.get,(canon all d s0 m).H.C+(if x.al then 1 else 0)⟩⟩:=by
 have hb:∀j,j<m->d j=bD d m x j:=fun j hj=>eP hj;unfold canon jv;simp only[ba,aQ,aA,if_true,bX];rw[<- om hb,<- oo hb,<- dQ hb];simp only[eF,ho,Option.bind_some,Rb]
def lj {all:Array Oper}{bs:List Nat}{s0:St}{d:Nat->Dt}{m:Nat}{x:Dt}(hg:∀i,i<m->Tc P G all bs s0 d i)(hx:Tc P G all bs s0 (bD d m x) m):
  ∀i,i<m+1->Tc P G all bs s0 (bD d m x) i:=by
 intro i hi;by_cases him:i=m
 ·subst him;exact hx
 ·exact(hg i U).below fun j hj=>eP (U)
def trace {all:Array Oper}{bs:List Nat}{s0:St}{tail:St->Prop}{K:Nat}(hbs:bs.length=K)(hK:K<=all.size):∀(k m:Nat) (d:Nat->Dt) (acc:List (Nat × FP)),k+m=K ->
  (∀i,i<m->Tc P G all bs s0 d i)->ir d m acc->ef (canon all d s0 m).H->cz P G all tail (bs.drop m) m acc ((all.toList.take K).drop m) (canon all d s0 m) ->
  ∃d',(∀i,i<K->Tc P G all bs s0 d' i)/\tail (canon all d' s0 K):=by
 intro k
 induction k with
 |zero =>
  intro m d acc hm hg hc wf h;obtain rfl:m=K:=U
  refine⟨d,hg,?_⟩;have:(all.toList.take m).drop m=[]:=by
   apply Sa;simp only[PQ];omega
  rw[this]at h;cases hb:bs.drop m with
  |nil=>rw[hb]at h;simpa only[cz] using h
  |cons b bs'=>rw[hb]at h;simpa only[cz] using h
 |succ k ih =>
  intro m d acc hm hg hc wf h;have hmK:m<K:=U
  have hms:m<all.size:=U
  have ho:all[m]?=some all[m]:=PM hms;have hbm:bs.drop m=cJ bs m :: bs.drop (m+1):=by
   rw[Qd U];congr 1;simp[cJ,PB (show m<bs.length by omega)]
  have hom:(all.toList.take K).drop m=all[m] :: (all.toList.take K).drop (m+1):=by
   rw[Qd (by simp only[PQ,Q7];omega)];congr 1;simp
  rw[hbm,hom]at h;simp only[cz]at h;obtain⟨t,ht,h⟩:=h;have hnext:(canon all d s0 m).H.C=s0.H.C+aA d m:=rfl;cases t with
  |false =>
   simp only[Bool.false_eq_true,if_false]at h
   let x:Dt:=⟨.lit undef,none,false,⟨[],[]⟩⟩
   have hb:∀j,j<m->d j=bD d m x j:=fun j hj=>eP hj;have hcan:canon all (bD d m x) s0 (m+1)=⟨aD (canon all d s0 m).ρ all[m].dst (.lit undef),(canon all d s0 m).H⟩:=lh ho;have hgx:Tc P G all bs s0 (bD d m x) m:=by
    refine⟨?_,?_,?_,?_,?_⟩
    ·rw[bX,<- jx hb];intro o ho' ρ2 H2 h1 h2 h3 _;rw[ho]at ho';cases ho';refine .inl ⟨?_,rfl⟩;simp only;rw[mF h1,ht]
    ·rw[bX];intro k b he;cases he
    ·rw[bX];intro he;cases he
    ·rw[bX];intro r hr;cases hr
    ·rw[bX];intro j hj hbit;exact⟨fun r hr=>(by cases hr),fun r hr hr'=>(by cases hr')⟩
   refine ih (m+1) (bD d m x) acc U (lj hg hgx) (hc.add x) ?_ ?_
   ·rw[hcan];exact wf
   ·rw[hcan];exact h
  |true =>
   simp only[if_true]at h;unfold bz at h;split at h
   ·rename_i fv args ats hop;obtain⟨v,rs,⟨hlt,hcall⟩,hap,h⟩:=h
    let x:Dt:=⟨v,none,false,⟨[],rs⟩⟩
    have hb:∀j,j<m->d j=bD d m x j:=fun j hj=>eP hj;have hcan:canon all (bD d m x) s0 (m+1)=⟨aD (canon all d s0 m).ρ all[m].dst v,(canon all d s0 m).H⟩:=lh ho;have hgx:Tc P G all bs s0 (bD d m x) m:=by
     refine⟨?_,?_,?_,?_,?_⟩
     ·rw[bX,<- jx hb];intro o ho' ρ2 H2 h1 h2 h3 h4;rw[ho]at ho';cases ho';refine .inr ⟨?_,v,rfl,.inr ⟨fv,args,ats,hop,rfl,?_⟩⟩
      ·simp only;rw[mF h1,ht]
      ·have hev:=qI (G:=G) h1;have e1:aj G ρ2 fv=aj G (canon all d s0 m).ρ fv:=hev fv (by simp[hop,Op.operands,Call.operands]);have e2:args.toList.map (aj G ρ2)=args.toList.map (aj G (canon all d s0 m).ρ) :=
        Q5 fun y hy=>hev y (by simp only[hop,Op.operands,Call.operands];simp;exact .inr (by simpa using hy))
       simp only;rw[e1,e2];exact hcall H2 h2 (by rw[hnext,dQ hb];exact h4)
     ·rw[bX];intro k b he;cases he
     ·rw[bX];intro he;cases he
     ·rw[bX,<- dQ hb];exact hlt
     ·rw[bX];intro j hj hbit;rw[<- eP hj];exact ot hc hap j hj hbit
    refine ih (m+1) (bD d m x) _ U (lj hg hgx) (hc.add x) ?_ ?_
    ·rw[hcan];exact wf
    ·rw[hcan];exact h
   ·obtain⟨⟨v,H'⟩,hop,hap,h⟩:=h;obtain⟨e,al,hget,hnx,heff,hal,hlt,hloc⟩:=uL wf hop
    let x:Dt:=⟨v,e,al,bp P G (canon all d s0 m).ρ (canon all d s0 m).H.C all[m].op⟩
    have hb:∀j,j<m->d j=bD d m x j:=fun j hj=>eP hj;have hcan:canon all (bD d m x) s0 (m+1)=⟨aD (canon all d s0 m).ρ all[m].dst v,H'⟩:=by
     rw[lh ho];congr 1;cases H';simp only at hget hnx;simp only[S2.mk.injEq];refine⟨hget.symm,?_⟩;rw[hnx];simp only[x];cases al<;>simp
    have hgx:Tc P G all bs s0 (bD d m x) m:=by
     refine⟨?_,?_,?_,?_,?_⟩
     ·rw[bX,<- jx hb,<- dQ hb];intro o ho' ρ2 H2 h1 h2 h3 h4;rw[ho]at ho';cases ho';refine .inr ⟨?_,v,rfl,.inl ?_⟩
      ·simp only;rw[mF h1,ht]
      ·simp only;rw[yC (ρ':=(canon all d s0 m).ρ) (qI h1)];exact hloc H2 h2 h3
     ·rw[bX];exact heff
     ·rw[bX,<- dQ hb];exact hal
     ·rw[bX,<- dQ hb];exact hlt
     ·rw[bX];intro j hj hbit;rw[<- eP hj];exact ot hc hap j hj hbit
    have wf':ef H':=by
     intro id b hid;rw[hget]at hid;rw[hnx];cases e with
     |none =>
      have:=wf id b hid;split<;>omega
     |some kb =>
      obtain⟨k0,b0⟩:=kb;simp only[cX]at hid;split at hid
      ·rename_i hk;subst hk;cases al with
       |true =>
        obtain⟨b1,hb1⟩:=hal rfl;simp only[Option.some.injEq,Prod.mk.injEq]at hb1;simp only[if_true];omega
       |false =>
        have:=hlt _ ((heff id b0 rfl).2 rfl);simpa using this
      ·have:=wf id b hid;split<;>omega
    refine ih (m+1) (bD d m x) _ U (lj hg hgx) (hc.add x) ?_ ?_
    ·rw[hcan];exact wf'
    ·rw[hcan];exact h
end Go.Hx
namespace Go.Hx
variable {P:Program} {G:Nat->Option (List S1)} {Γ Γ':aq} {H H':S2} {w w':World}
variable {bs:List Nat}{K i j:Nat}{D:Nat->Bool}{d:Nat->Dt}{o:Oper}{s0:St}
structure Tz (all:Array Oper)(bs:List Nat)(K:Nat):Prop where
 len:bs.length=K
 le:K<=all.size
 down:∀i o,all[i]?=some o->∀e,e∈o.after->Region.binds .any e=true->e.on<i
 just:∀i o j,all[i]?=some o->(if i<K then (cJ bs i).testBit j=true else j<i)->∃e,e∈o.after/\Region.binds .any e=true/\(e.on=j\/(if e.on<K then (cJ bs e.on).testBit j=true else j<e.on))
 apart:∀i j oi oj,i<K->j<i->all[i]?=some oi->all[j]?=some oj->(cJ bs i).testBit j=false->qF all oj oi=true
def yV {k:Nat}:k∈qD o↔∃e,e∈o.after/\Region.binds .any e=true/\e.on=k:=by
 simp[qD,and_assoc]
def yW {N:Nat}(hl:bs.length=K)(hi:i<N)(hK:K<=N):
  (cJ (bs++(List.range' K (N-K)).map fun m=>2 ^ m-1) i).testBit j=true↔(if i<K then (cJ bs i).testBit j=true else j<i):=by
 unfold cJ;by_cases h:i<K
 ·rw[PG h,PJ U]
 ·rw[PC h,PW U,List.getElem?_map,List.getElem?_range' U];simp only[Option.map_some,Option.getD_some,Q4,decide_eq_true_eq];have:K+1*(i-bs.length)=i:=U
  rw[this]
def yX {all:Array Oper}(h:mC all bs K=true):Tz all bs K:=by
 unfold mC at h;simp only[PV,decide_eq_true_eq,P6,Qq]at h;obtain⟨⟨⟨hlen,hle⟩,hone⟩,hap⟩:=h;have hlt:∀i o,all[i]?=some o->i<all.size:=fun i o ho=>(Qi.1 ho).1;have hdown:∀i o,all[i]?=some o->∀e,e∈o.after->Region.binds .any e=true->e.on<i:=by
  intro i o ho e he hb;have h1:=hone i (hlt i o ho);rw[ho]at h1;simp only[uM,PV,P6,decide_eq_true_eq]at h1;exact h1.1.1 e.on (yV.2 ⟨e,he,hb,rfl⟩)
 refine⟨hlen,hle,hdown,?_,?_⟩
 ·intro i o j ho hj;have hi:=hlt i o ho;have h1:=hone i hi;rw[ho]at h1;simp only[uM,PV,P6,decide_eq_true_eq,Qq]at h1;obtain⟨⟨_,hb⟩,h2⟩:=h1;have hbit:=(yW (j:=j) hlen hi hle).2 hj;have hji:j<i:=by
   rcases PZ j i with h|h
   ·exact h
   ·have:=R9 (PL hb (P7 U h));rw[hbit]at this;cases this
  have h3:=h2 j hji;rw[hbit]at h3;simp only[Bool.not_true,SH,List.any_eq_true,QI,beq_iff_eq]at h3;obtain⟨k,hk,h4⟩:=h3;obtain⟨e,he,hbe,rfl⟩:=yV.1 hk;refine⟨e,he,hbe,h4.imp id fun h5=>?_⟩;exact(yW (j:=j) hlen (Nat.lt_trans (hdown i o ho e he hbe) hi) hle).1 h5
 ·intro i j oi oj hi hj hoi hoj hbit;have h1:=hap i hi;rw[hoi]at h1;simp only[P6,Qq]at h1;have h2:=h1 j hj;rw[hbit,hoj]at h2;simpa using h2
def yY {x:Option Tmp}{l:List Tmp}{t:Tmp}(h:qE x l=true)(hx:x=some t):t ∉ l:=by
 subst hx;simpa[qE] using h
def mI {all:Array Oper}{x y:Oper}(h:qF all x y=true):(∀t,x.dst=some t->t ∉ y.looksAt all)/\(∀t,y.dst=some t->t ∉ x.looksAt all)/\(∀t,x.dst=some t->y.dst≠some t):=by
 simp only[qF,PV]at h;obtain⟨⟨h1,h2⟩,h3⟩:=h;refine⟨fun t ht=>yY h1 ht,fun t ht=>yY h2 ht,fun t ht=>?_⟩;rw[ht]at h3;simpa using h3
def qL (all:Array Oper)(L:Nat->Bool):Prop:=∀i o,L i=true->all[i]?=some o->∀e,e∈o.after->Region.binds .any e=true->L e.on=true
def Tz.ahead {all:Array Oper}(S:Tz all bs K){L:Nat->Bool}(hL:qL all L):∀i o j,all[i]?=some o->(∀e,e∈o.after->Region.binds .any e=true->L e.on=true) ->
  (if i<K then (cJ bs i).testBit j=true else j<i)->L j=true:=by
 intro i
 induction i using Nat.strongRecOn with
 |_ i ih =>
  intro o j ho hdir hj;obtain⟨e,he,hb,h⟩:=S.just i o j ho hj;have hon:=hdir e he hb;rcases h with rfl|h
  ·exact hon
  ·have hlt:=S.down i o ho e he hb;have hi:=(Qi.1 ho).1;exact ih e.on hlt all[e.on] j (PM U) (hL e.on _ hon (PM U)) h
def bu (H:S2)(k:Nat):S2:=⟨fun j=>if H.C<=j/\j<H.C+k then some .ni else H.get j,H.C+k⟩
def oG (H:S2)(k:Nat):Ta Γ H w Γ (bu H k) w where
 os:=rfl
 tape:=rfl
 output:=rfl
 size:=S0
 na:=fun _ _ h=>⟨rfl,h⟩
 nn:=fun id h1 _ x' hx=>by
  refine⟨x',?_,S7.le_refl _ _ _⟩;simp only[bu]at hx;rw[PC U]at hx;exact hx
 np:=fun _ _=>rfl
 kind:=.refl _
 newb:=.refl _ _
def mJ (w:World):Ta Γ H w Γ H { w with drawn:=w.drawn+1 } where
 os:=rfl
 tape:=rfl
 output:=rfl
 size:=S0
 na:=fun _ _ h=>⟨rfl,h⟩
 nn:=fun _ _ _ x' hx=>⟨x',hx,S7.le_refl _ _ _⟩
 np:=fun _ _=>rfl
 kind:=.refl _
 newb:=.refl _ _
def S9.move (R:S9 P G Γ H w)(hheap:w'.heap=w.heap)(E:Ta Γ H w Γ H' w')(hn:H.C<=H'.C)(hget:∀id b,H'.get id=some b->H.get id=some b\/(b=.ni/\H.get id=none/\id<H'.C))(hsame:∀id b,H.get id=some b->H'.get id=some b):S9 P G Γ H' w' where
 L id g e cells hg:=by
  rcases hget _ _ hg with h|h
  ·have h1:=R.L id g e cells h;cases hΓ:Γ id with
   |none=>rw[hΓ]at h1;exact h1
   |some y =>
    obtain⟨b,base,n⟩:=y;rw[hΓ]at h1;obtain⟨c,a1,a2,a3,a4⟩:=h1;exact⟨c,by rw[hheap];exact a1,a2,a3,fun i hi=>let ⟨cv,b1,b2⟩:=a4 i hi;⟨cv,b1,b2.aV E hn⟩⟩
  ·cases h.1
 loop id st pend n env ps asg body hg:=by
  rcases hget _ _ hg with h|h
  ·obtain⟨b,rr,a1,a2,a3,a4,a5,a6,a7,a8,a9⟩:=R.loop id st pend n env ps asg body h;exact⟨b,rr,a1,by rw[hheap];exact a2,a3,a4,a5,a6,a7,a8,fun t ht=>(a9 t ht).aV E hn⟩
  ·cases h.1
 mp id es hg:=by
  rcases hget _ _ hg with h|h
  ·obtain⟨b,a1,a2⟩:=R.mp id es h;exact⟨b,a1,by rw[hheap];exact a2⟩
  ·cases h.1
 ni id hg:=by
  rcases hget _ _ hg with h|h
  ·exact R.ni id h
  ·cases hΓ:Γ id with
   |none=>rfl
   |some x =>
    obtain⟨y,hy⟩:=R.nv id x hΓ;rw[h.2.1]at hy;cases hy
 inj:=R.inj
 nv id x h:=let ⟨y,hy⟩:=R.nv id x h;⟨y,hsame _ _ hy⟩
 lt id b base n h:=by rw[hheap];exact R.lt id b base n h
 C id y h:=by
  rcases hget _ _ h with h|h
  ·exact PL (R.C id y h) hn
  ·exact h.2.2
 nr g cells h:=(R.nr g cells h).aV E hn
 gsz:=R.kZ E
def yZ (R:S9 P G Γ H w)(k:Nat):S9 P G Γ (bu H k) w:=by
 have hnone:∀id,H.C<=id->H.get id=none:=by
  intro id h;cases hg:H.get id with
  |none=>rfl
  |some y=>have:=R.C id y hg;omega
 refine R.move rfl (oG H k) (by simp[bu]) (fun id b hb=>?_) (fun id b hb=>?_)
 ·simp only[bu]at hb;split at hb
  ·rename_i hc;simp only[Option.some.injEq]at hb;exact .inr ⟨hb.symm,hnone id hc.1,hc.2⟩
  ·exact .inl hb
 ·simp only[bu];rw[PC]
  ·exact hb
  ·have:=R.C id b hb;omega
def Ti.move {n:Nat}{wb:Tu}{s:St}{a:Act}(hs:Ti P G n wb Γ s a w){H':S2}(E:Ta Γ s.H w Γ H' w')(hn:s.H.C<=H'.C)(R:S9 P G Γ H' w'):Ti P G n wb Γ ⟨s.ρ,H'⟩ a w' :=
 ⟨hs.size,fun t=>(hs.env t).aV E hn,R,hs.defers.aV E,Qm hs.low E.size⟩
def cU.move {rd rb:Option Nat}(h:cU Γ H rd rb)(hk:∀id b,H.get id=some b->H'.get id=some b):cU Γ H' rd rb:=by
 cases rd with
 |none=>exact h
 |some id =>
  obtain⟨b,st,pend,n,env,ps,asg,body,h1,h2,h3⟩:=h;exact⟨b,_,_,_,_,_,_,_,h1,h2,hk _ _ h3⟩
def dw (all:Array Oper)(d:Nat->Dt)(s0:St)(K:Nat)(D:Nat->Bool):St :=
 ⟨ba all d s0.ρ K D,⟨aQ d (bu s0.H (aA d K)).get K D,s0.H.C+aA d K⟩⟩
def kg {all:Array Oper}(h:all[j]?=some o):eF all j=o.dst:=by simp[eF,h]
def ui {all:Array Oper}(S:Tz all bs K)(hg:∀i,i<K->Tc P G all bs s0 d i)(hi:i<K)(ho:all[i]?=some o)(hDi:D i=false)
  (hdown:∀j,j<i->(cJ bs i).testBit j=true->D j=true) (hup:∀j,i<j->j<K->D j=true->(cJ bs j).testBit i=false):
  ExecOk P G all o (s0.H.C+aA d i) (dw all d s0 K D) (dw all d s0 K (bA D i)):=by
 have hget:∀j,j<K->∃oj,all[j]?=some oj:=fun j hj=>⟨_,PM (PL hj S.le)⟩
 have hgi:=hg i hi;have tgtE:∀j r,j<K->cI (d j)=some r->r∈(d j).f.nk/\(((d j).al=true/\r=s0.H.C+aA d j)\/((d j).al=false/\r∈(d j).f.rs)):=by
  intro j r hj ht;unfold cI at ht;cases he:(d j).e with
  |none=>rw[he]at ht;cases ht
  |some kb =>
   obtain⟨k,b⟩:=kb;rw[he]at ht;simp only[Option.map_some,Option.some.injEq]at ht;subst ht;obtain⟨h1,h2⟩:=(hg j hj).nk k b he;refine⟨h1,?_⟩;cases hal:(d j).al with
   |true =>
    obtain⟨b',hb'⟩:=(hg j hj).al hal;rw[he]at hb';simp only[Option.some.injEq,Prod.mk.injEq]at hb';exact .inl ⟨rfl,hb'.1⟩
   |false=>exact .inr ⟨rfl,h2 hal⟩
 have rangeK:∀r,r<s0.H.C+aA d i->((bu s0.H (aA d K)).get r=s0.H.get r\/∃j,j<i/\(fun _:Nat=>true) j=true/\cI (d j)=some r):=by
  intro r hr;by_cases h:s0.H.C<=r
  ·obtain⟨j,h1,h2,h3⟩:=oh (d:=d) (n:=i) (c:=r-s0.H.C) U;obtain⟨b,hb⟩:=(hg j U).al h2;refine .inr ⟨j,h1,rfl,?_⟩;unfold cI;rw[hb,h3];simp only[Option.map_some,Option.some.injEq];omega
  ·left;simp only[bu];rw[PC U]
 have henv:∀t,t∈o.looksAt all->ba all d s0.ρ K D t=(canon all d s0 i).ρ t:=by
  intro t ht;show _=ba all d s0.ρ i (fun _=>true) t;rw[<- ub (all:=all) (d:=d) (ρ0:=s0.ρ) (m:=i) (n:=K) U];refine lf fun j hj hdj=>?_;obtain⟨oj,hoj⟩:=hget j hj;rw[kg hoj]at hdj;rcases Rt j i with h|rfl|h
  ·cases hb:(cJ bs i).testBit j with
   |true=>rw[hdown j h hb];simp[h]
   |false=>exact absurd ht ((mI (S.apart i j o oj hi h ho hoj hb)).1 t hdj)
  ·rw[hDi];simp
  ·cases hD:D j with
   |false=>symm;simp;omega
   |true=>exact absurd ht ((mI (S.apart j i oj o hj h hoj ho (hup j h hj hD))).2.1 t hdj)
 have hheap:∀r,r∈(d i).f.rs->aQ d (bu s0.H (aA d K)).get K D r=(canon all d s0 i).H.get r:=by
  intro r hr;show _=aQ d s0.H.get i (fun _=>true) r;rw[<- oa (g0:=(bu s0.H (aA d K)).get) (rangeK r (hgi.lt r hr)),<- uc (m:=i) (n:=K) U];refine lg fun j hj ht=>?_;obtain⟨he,_⟩:=tgtE j r hj ht;rcases Rt j i with h|rfl|h
  ·cases hb:(cJ bs i).testBit j with
   |true=>rw[hdown j h hb];simp[h]
   |false=>exact absurd hr ((hgi.apart j h hb).2 r he)
  ·rw[hDi];simp
  ·cases hD:D j with
   |false=>symm;simp;omega
   |true=>exact absurd hr (((hg j hj).apart i h (hup j h hj hD)).1 r he)
 have hal:(d i).al=true->aQ d (bu s0.H (aA d K)).get K D (s0.H.C+aA d i)=some .ni/\s0.H.C+aA d i≠s0.H.C+aA d K:=by
  intro hal;have hlt:=iV hi hal;refine⟨?_,U⟩;obtain⟨b,hb⟩:=hgi.al hal;have heff:=(hgi.nk _ _ hb).1;rw[ud]
  ·simp only[bu];rw[PG U]
  ·intro j hj hD ht;obtain⟨h1,h2⟩:=tgtE j _ hj ht;rcases Rt j i with h|rfl|h
   ·rcases h2 with ⟨h2,h3⟩|⟨h2,h3⟩
    ·have:=iV h h2;omega
    ·have:=(hg j hj).lt _ h3;have:=mq (d:=d) (SJ h);omega
   ·rw[hDi]at hD;cases hD
   ·rcases h2 with ⟨h2,h3⟩|⟨h2,h3⟩
    ·have:=iV h hal;omega
    ·exact absurd h3 (((hg j hj).apart i h (hup j h hj hD)).2 _ heff)
 have:=hgi.step o ho (ba all d s0.ρ K D) ⟨aQ d (bu s0.H (aA d K)).get K D,s0.H.C+aA d K⟩ henv hheap hal (by have:=mq (d:=d) (SJ hi);simp only;omega);have e1:ba all d s0.ρ K (bA D i)=aD (ba all d s0.ρ K D) o.dst (d i).v:=by
  rw[ue hDi hi,kg ho];intro j h hj hD t hti;obtain⟨oj,hoj⟩:=hget j hj;rw[kg ho]at hti;rw[kg hoj];exact(mI (S.apart j i oj o hj h hoj ho (hup j h hj hD))).2.2 t hti
 have e2:aQ d (bu s0.H (aA d K)).get K (bA D i)=cX (d i).e (aQ d (bu s0.H (aA d K)).get K D):=by
  refine uf hDi hi fun j h hj hD r hti htj=>?_;obtain⟨a1,a2⟩:=tgtE i r hi hti;obtain⟨b1,b2⟩:=tgtE j r hj htj;obtain⟨c1,c2⟩:=(hg j hj).apart i h (hup j h hj hD);rcases b2 with ⟨b2,b3⟩|⟨b2,b3⟩
  ·rcases a2 with ⟨a2,a3⟩|⟨a2,a3⟩
   ·have:=iV h a2;omega
   ·exact c1 r b1 a3
  ·exact c2 r a1 b3
 unfold dw;rw[e1,e2];exact this
def ow {all:Array Oper}(hg:∀i,i<K->Tc P G all bs s0 d i)(hD:∀j,j<K->D j=true):dw all d s0 K D=canon all d s0 K:=by
 unfold dw canon jv;have e1:ba all d s0.ρ K D=ba all d s0.ρ K fun _=>true:=funext fun t=>lf fun j hj _=>hD j hj;have e2:aQ d (bu s0.H (aA d K)).get K D=aQ d s0.H.get K fun _=>true:=by
  funext r
  rw[lg (D':=fun _=>true) fun j hj _=>hD j hj];refine oa ?_;by_cases h:s0.H.C<=r/\r<s0.H.C+aA d K
  ·obtain⟨j,h1,h2,h3⟩:=oh (d:=d) (n:=K) (c:=r-s0.H.C) U;obtain⟨b,hb⟩:=(hg j h1).al h2;refine .inr ⟨j,h1,rfl,?_⟩;unfold cI;rw[hb,h3];simp only[Option.map_some,Option.some.injEq];omega
  ·left;simp only[bu];rw[PC h]
 rw[e1,e2]
def uj {all:Array Oper}(hD:∀j,j<K->D j=false):dw all d s0 K D=⟨s0.ρ,bu s0.H (aA d K)⟩:=by
 unfold dw;have e1:∀n,n<=K->ba all d s0.ρ n D=s0.ρ:=by
  intro n
  induction n with
  |zero=>intro _;rfl
  |succ n ih=>intro h;simp only[ba];rw[PC (by simp[hD n h])];exact ih (U)
 have e2:∀n,n<=K->aQ d (bu s0.H (aA d K)).get n D=(bu s0.H (aA d K)).get:=by
  intro n
  induction n with
  |zero=>intro _;rfl
  |succ n ih=>intro h;simp only[aQ];rw[PC (by simp[hD n h])];exact ih (U)
 rw[e1 K S0,e2 K S0];rfl
end Go.Hx
namespace Go.Hx
variable {P:Program} {G:Nat->Option (List S1)} {Γ Γ':aq} {H H':S2} {w w':World}
variable {listed:Array Bool}{i n:Nat}
def dF (listed:Array Bool):Nat->Nat
 |0=>0
 |n+1=>dF listed n+(if listed.getD n true=false then 1 else 0)
def uS (hi:listed.getD i true=false):∀n,dF (listed.setIfInBounds i true) n+(if i<n then 1 else 0)=dF listed n:=by
 have hsz:i<listed.size:=by
  rcases PZ i listed.size with h|h
  ·exact h
  ·rw[Qe,QG h]at hi;cases hi
 intro n
 induction n with
 |zero=>simp[dF]
 |succ n ih =>
  simp only[dF];by_cases hin:n=i
  ·subst hin;have:(listed.setIfInBounds n true).getD n true=true:=(by simp[hsz]);have h2:(if n<n then 1 else 0)=0:=PC (RG n);have h3:(if n<n+1 then 1 else 0)=1:=PG (Q8 n);rw[h2]at ih;rw[this,h3,hi];simp;omega
  ·rw[getD_set_ne true (Ne.symm hin)];have h4:(if i<n+1 then 1 else 0)=(if i<n then 1 else 0):=by
    by_cases h:i<n
    ·rw[PG h,PG (show i<n+1 by omega)]
    ·rw[PC h,PC (show ¬i<n+1 by omega)]
   rw[h4];generalize (if i<n then 1 else 0)=x at ih ⊢;omega
def qM (h:dF listed n=0):∀j,j<n->listed.getD j true=true:=by
 induction n with
 |zero=>intro j hj;omega
 |succ n ih =>
  simp only[dF]at h;intro j hj;by_cases hjn:j=n
  ·subst hjn;cases hl:listed.getD j true with
   |true=>rfl
   |false=>rw[hl]at h;simp at h
  ·exact ih U j (U)
def y8 :∀m,m<=n->dF (Array.replicate n false) m=m:=by
 intro m
 induction m with
 |zero=>intro _;rfl
 |succ m ih =>
  intro h;simp only[dF];rw[ih U,PG];rw[Qe,RE,PG U];rfl
def lu (h:i<listed.size)(x y:Bool):listed.getD i x=listed.getD i y:=by
 simp[Qe,PM h]
section
variable {n:Nat} {wb:Tu} {rd rb:Option Nat} {Q:AX->St->Prop} {all:Array Oper} {bs:List Nat} {K:Nat} {id:Nat} {dr:Bool}
def qN (S:Tz all bs K)(hfit:∀o,o∈all.toList->ee n o=true):∀(r m:Nat) (listed:Array Bool) (s:St) (Γ:aq) (a:Act) (w:World),r+m=all.size->K<=m->listed.size=all.size->dF listed all.size=r ->
  (∀j,j<all.size->(listed.getD j true=true↔j<m))->opsV P G rd Q all (all.toList.drop m) s->Ti P G n wb Γ s a w->cU Γ s.H rd rb ->
  ∀(Q':Exit->Act->World->Prop),(∀e a' w',fh P G n wb rd rb (wr (.region id all dr)) Γ s.H a w Q e a' w'->Q' e a' w')->wpAnyIn (cV rb) 0 P .any all Q' r listed a w:=by
 intro r
 induction r with
 |zero =>
  intro m listed s Γ a w hm hKm hsz hc hl h hs hr Q' hq;have:all.toList.drop m=[]:=Sa (by simp;omega);rw[this]at h;refine⟨?_,hq _ _ _ (.here (x:=.normal) trivial h hs hr)⟩;rw[List.eq_nil_iff_forall_not_mem];intro j hj;obtain⟨h1,o,ho,_⟩:=mem_ready.1 hj;have hjs:=(Qi.1 ho).1;rw[(hl j hjs).2 U]at h1;cases h1
 |succ r ih =>
  intro m listed s Γ a w hm hKm hsz hc hl h hs hr Q' hq;have hms:m<all.size:=U
  have ho:all[m]?=some all[m]:=PM hms;have hmun:listed.getD m true=false:=by
   cases hx:listed.getD m true with
   |false=>rfl
   |true=>have:=(hl m hms).1 hx;omega
  have hready:m∈Region.ready .any all listed:=by
   refine mem_ready.2 ⟨hmun,_,ho,fun e he hb=>?_⟩;have:=S.down m _ ho e he hb;rw[lu U false true];exact(hl e.on U).2 this
  refine⟨fun h0=>(by rw[h0]at hready;cases hready),fun i hi=>?_⟩;obtain⟨hiun,oi,hoi,hall⟩:=mem_ready.1 hi;have his:=(Qi.1 hoi).1;have him:m<=i:=by
   rcases PZ i m with h|h
   ·rw[(hl i his).2 h]at hiun;cases hiun
   ·exact h
  have hL:qL all fun j=>listed.getD j false:=by
   intro k ok hk hok e he hb;have hks:=(Qi.1 hok).1;have h1:=S.down k ok hok e he hb;simp only at hk ⊢;rw[lu U false true]at hk ⊢;have:=(hl k hks).1 hk;exact(hl _ U).2 (U)
  have hieq:i=m:=by
   rcases PZ m i with h|h
   ·have h1:=S.ahead hL i oi m hoi hall (by rw[PC U];exact h);rw[lu U false true,hmun]at h1;cases h1
   ·omega
  subst hieq;have hlist:all.toList.drop i=all[i] :: all.toList.drop (i+1):=by
   rw[Qd (by simpa using hms)];simp
  rw[hlist]at h;simp only[opsV]at h;have hl':∀j,j<all.size->((listed.setIfInBounds i true).getD j true=true↔j<i+1):=by
   intro j hj;by_cases hji:j=i
   ·subst hji;simp
   ·rw[getD_set_ne true (Ne.symm hji),hl j hj];omega
  have hc':dF (listed.setIfInBounds i true) all.size=r:=by
   have:=uS hmun all.size;rw[PG hms]at this;omega
  have hd:=hfit all[i] SX;obtain⟨t,ht,h⟩:=h;unfold wpOpIn;rw[ho];simp only;rw[mw hs ht];cases t with
  |true =>
   simp only[if_true]at h ⊢;refine yv hd hs hr h ?_ ?_
   ·rintro Γ' s' a' w' hk hs' E hn hr' ⟨cv,rfl⟩;exact ih (i+1) _ s' Γ' _ w' U U (by simpa using hsz) hc' hl' hk hs' hr' Q' fun e a'' w'' hp=>hq _ _ _ (hp.step E hn (my hms cv) fun _ h=>h)
   ·rintro Γ' s' a' w' chain hp hc hs' E hn hr' rfl;exact hq _ _ _ ⟨.panic,s',Γ',hc,hp,hs',E,hn,hr',.refl _ _⟩
  |false =>
   simp only[Bool.false_eq_true,if_false]at h ⊢;refine⟨fun _ _=>trivial,?_⟩;have hdst:∀d,all[i].dst=some d->d<n:=by
    intro d hd';unfold ee at hd;rw[hd']at hd;simpa using hd
   have hs':=ix (v:=.lit undef) (cv:=undef) hs hdst (Ta.refl Γ s.H w) S0 hs.heap (.lit _);exact ih (i+1) _ ⟨aD s.ρ all[i].dst (.lit undef),s.H⟩ Γ _ w U U (by simpa using hsz) hc' hl' h hs' hr Q' fun e a'' w'' hp=>hq _ _ _ (hp.step (Ta.refl _ _ _) S0 (my hms _) fun _ h=>h)
def uk (S:Tz all bs K)(hfit:∀o,o∈all.toList->ee n o=true){d:Nat->Dt}{s0:St}(hg:∀i,i<K->Tc P G all bs s0 d i)(htail:opsV P G rd Q all (all.toList.drop K) (canon all d s0 K)):
  ∀(r:Nat) (listed:Array Bool) (D:Nat->Bool) (Γ:aq) (a:Act) (w:World),listed.size=all.size->dF listed all.size=r->(∀j,j<all.size->listed.getD j true=D j)->(∀j,D j=true->j<K)->qL all D ->
  Ti P G n wb Γ (dw all d s0 K D) a w->cU Γ (dw all d s0 K D).H rd rb ->
  ∀(Q':Exit->Act->World->Prop),(∀e a' w',fh P G n wb rd rb (wr (.region id all dr)) Γ (dw all d s0 K D).H a w Q e a' w'->Q' e a' w')->wpAnyIn (cV rb) 0 P .any all Q' r listed a w:=by
 intro r
 induction r with
 |zero =>
  intro listed D Γ a w hsz hc hl hlow hL hs hr Q' hq;have hall:∀j,j<K->D j=true:=fun j hj=>by rw[<- hl j (PL hj S.le)];exact qM hc j (PL hj S.le)
  have hKs:K=all.size:=by
   rcases PZ K all.size with h|h
   ·have h1:=qM hc K h;rw[hl K h]at h1;have:=hlow K h1;omega
   ·have:=S.le;omega
  rw[ow hg hall]at hs hr hq;exact qN S hfit 0 K listed _ Γ a w U S0 hsz hc (fun j hj=>by rw[hl j hj];exact⟨hlow j,hall j⟩) htail hs hr Q' hq
 |succ r ih =>
  intro listed D Γ a w hsz hc hl hlow hL hs hr Q' hq;by_cases hall:∀j,j<K->D j=true
  ·rw[ow hg hall]at hs hr hq;have hcount:∀m,m<=all.size->dF listed m=m-K:=by
    intro m
    induction m with
    |zero=>intro _;simp[dF]
    |succ m ihm =>
     intro hm;simp only[dF];rw[ihm U,hl m U];by_cases hmK:m<K
     ·rw[hall m hmK];simp;omega
     ·have:D m=false:=by
       cases hD:D m with
       |false=>rfl
       |true=>exact absurd (hlow m hD) hmK
      rw[this];simp;omega
   have h1:=hcount all.size S0;exact qN S hfit (r+1) K listed _ Γ a w (by have:=S.le;omega) S0 hsz hc (fun j hj=>by rw[hl j hj];exact⟨hlow j,hall j⟩) htail hs hr Q' hq
  ·have hex:∃j,j<K/\D j=false:=by
    by_cases h:∃j,j<K/\D j=false
    ·exact h
    ·refine absurd (fun j hj=>?_) hall;cases hD:D j with
     |true=>rfl
     |false=>exact absurd ⟨j,hj,hD⟩ h
   have least:∀k,(∃j,j<k/\j<K/\D j=false)->∃j,j<K/\D j=false/\∀i,i<j->D i=true:=by
    intro k
    induction k with
    |zero=>rintro⟨j,hj,_⟩;omega
    |succ k ihk =>
     rintro⟨j,h1,h2,h3⟩;by_cases h:∃j,j<k/\j<K/\D j=false
     ·exact ihk h
     ·refine⟨j,h2,h3,fun i hi=>?_⟩;cases hD:D i with
      |true=>rfl
      |false=>exact absurd ⟨i,U,U,hD⟩ h
   obtain⟨j0,hj0K,hj0,hbelow⟩:=least K (let ⟨j,h1,h2⟩:=hex;⟨j,h1,h1,h2⟩);have hj0s:j0<all.size:=PL hj0K S.le;have hr0:j0∈Region.ready .any all listed:=by
    refine mem_ready.2 ⟨by rw[hl j0 hj0s];exact hj0,_,PM hj0s,fun e he hb=>?_⟩;have hlt:=S.down j0 _ (PM hj0s) e he hb;rw[lu U false true,hl e.on U];exact hbelow _ hlt
   refine⟨fun h0=>(by rw[h0]at hr0;cases hr0),fun i hi=>?_⟩;obtain⟨hiun,oi,hoi,hdir⟩:=mem_ready.1 hi;have his:=(Qi.1 hoi).1;have hdirD:∀e,e∈oi.after->Region.binds .any e=true->D e.on=true:=fun e he hb=>by
    have:=S.down i oi hoi e he hb;rw[<- hl e.on U,<- lu U false true];exact hdir e he hb
   have hahead:=S.ahead hL i oi;have hiK:i<K:=by
    rcases PZ i K with h|h
    ·exact h
    ·have:=hahead j0 hoi hdirD (by rw[PC U];omega);rw[hj0]at this;cases this
   have hDi:D i=false:=(by rw[<- hl i his];exact hiun);have hex:=ui (P:=P) (G:=G) S hg hiK hoi hDi (fun j hj hb=>hahead j hoi hdirD (by rw[PG hiK];exact hb)) (fun j h1 h2 hD=>by
    cases hb:(cJ bs j).testBit i with
    |false=>rfl
    |true =>
     have hjs:j<all.size:=PL h2 S.le;have:=S.ahead hL j _ i (PM hjs) (fun e he hbe=>hL j _ hD (PM hjs) e he hbe) (by rw[PG h2];exact hb);rw[hDi]at this;cases this)
   have hoi':oi=all[i]:=by
    rw[PM his]at hoi;exact(Option.some.inj hoi).symm
   refine ug hoi (hfit oi (by rw[hoi'];simp)) hs hr hex ?_;rintro Γ' a' w' hs' E hn hr' ⟨cv,rfl⟩;have hc':dF (listed.setIfInBounds i true) all.size=r:=by
    have:=uS hiun all.size;rw[PG his]at this;omega
   refine ih (listed.setIfInBounds i true) (bA D i) Γ' _ w' (by simpa using hsz) hc' ?_ ?_ ?_ hs' hr' Q' fun e a'' w'' hp=>hq _ _ _ (hp.step E hn (by rw[hoi'];exact my his cv) fun _ h=>h)
   ·intro j hj;by_cases hji:j=i
    ·subst hji;simp[bA]
    ·rw[getD_set_ne true (Ne.symm hji),hl j hj];simp[bA,hji]
   ·intro j hj;by_cases hji:j=i
    ·subst hji;exact hiK
    ·simp only[bA,PC hji]at hj;exact hlow j hj
   ·intro k ok hk hok e he hb;by_cases hki:k=i
    ·subst hki;rw[hoi]at hok;cases hok;have:=hdirD e he hb;simp only[bA];split
     ·rfl
     ·exact this
    ·simp only[bA,PC hki]at hk;have:=hL k ok hk hok e he hb;simp only[bA];split
     ·rfl
     ·exact this
def W.draw {s:St}(K:Nat)(bs:List Nat)(hm:P.follows .mixedOrders=true)(hfit:all.toList.all (ee n)=true)(hst:mC all bs K=true)
  (h:cz P G all (opsV P G rd Q all (all.toList.drop K)) bs 0 [] (all.toList.take K) s):W P G n rd (.region id all true) Q s:=by
 intro wb Γ a w rb hs hr;have S:=yX hst;have hfit':∀o,o∈all.toList->ee n o=true:=fun o ho=>P6.1 hfit o ho;have wf:ef s.H:=fun id b hb=>hs.heap.C id b hb;have hcan0:canon all (fun _=>⟨.lit undef,none,false,⟨[],[]⟩⟩) s 0=s:=rfl;obtain⟨d,hg,htail⟩:=trace (P:=P) (G:=G) (all:=all) (bs:=bs) (s0:=s) (tail:=opsV P G rd Q all (all.toList.drop K)) S.len S.le K 0 (fun _=>⟨.lit undef,none,false,⟨[],[]⟩⟩) [] (U)
  (fun i hi=>U) (fun j hj=>U) (by rw[hcan0];exact wf) (by rw[hcan0];exact h)
 refine wpIn_region_any hm ?_
 let w1:World:={ w with drawn:=w.drawn+1 }
 have R1:S9 P G Γ s.H w1:=hs.heap.move rfl (mJ w) S0 (fun id b hb=>.inl hb) fun id b hb=>hb;have hs1:Ti P G n wb Γ s a w1:=hs.move (mJ w) S0 R1;have hs2:Ti P G n wb Γ ⟨s.ρ,bu s.H (aA d K)⟩ a w1:=hs1.move (oG _ _) (by simp[bu]) (yZ R1 _);have hr2:cU Γ (bu s.H (aA d K)) rd rb:=hr.move fun id b hb=>by
  simp only[bu];rw[PC]
  ·exact hb
  ·have:=hs.heap.C id b hb;omega
 have e0:dw all d s K (fun _=>false)=⟨s.ρ,bu s.H (aA d K)⟩:=uj fun _ _=>rfl;refine uk (wb:=wb) (id:=id) (dr:=true) S hfit' hg htail all.size _ (fun _=>false) Γ a w1 SX (y8 _ S0) ?_ ?_ ?_ ?_ ?_ _ ?_
 ·intro j hj;rw[Qe,RE,PG hj];rfl
 ·intro j hj;cases hj
 ·intro i o hi;cases hi
 ·rw[e0];exact hs2
 ·rw[e0];exact hr2
 ·rw[e0];intro e a' w' hp;refine hp.step ?_ (by simp[bu]) (.refl _ _) fun _ h=>h;exact Ta.trans (mJ w) S0 (oG _ _)
end
end Go.Hx
namespace Go.Hx
variable {P:Program} {G:Nat->Option (List S1)}
variable {α β:Type}
def lq (a:α)(K:α->Prop):bb (some a) K=K a:=by simp[bb]
def qJ (K:α->Prop):bb none K=False:=by simp[bb]
def uN (o:Option α)(f:α->Option β)(K:β->Prop):bb (o.bind f) K=bb o fun a=>bb (f a) K:=by
 cases o<;>simp[bb]
def fj (o:Option α)(f:α->β)(K:β->Prop):bb (o.map f) K=bb o fun a=>K (f a):=by
 cases o<;>simp[bb]
def yE (c:Prop)[Decidable c](a:Option α)(K:α->Prop):bb (if c then a else none) K=(c/\bb a K):=by
 by_cases h:c<;>simp[h,bb]
def qK {o:Option α}{K K':α->Prop}(h:∀a,K a=K' a):bb o K=bb o K':=by
 have:K=K':=funext h;subst this;rfl
def Ee (p q:Prop):fC true p q=p:=by simp[fC]
def Ef (p q:Prop):fC false p q=q:=by simp[fC]
def fC.mk {t:Bool}{p q:Prop}(h1:t=true->p)(h2:t=false->q):fC t p q:=⟨h1,h2⟩
def Eg {f:FuncId}{args args':List S1}{H H':S2}{K:S8->S2->Prop}(h2:args=args')(h3:H=H'):ae P G f args H K=ae P G f args' H' K:=by
 rw[h2,h3]
theorem Eh {n:Nat}{rd:Option Nat}{c:Code}{Q:AX->St->Prop}{s s':St}(h:s=s'):W P G n rd c Q s=W P G n rd c Q s':=by rw[h]
attribute [congr] Eg Eh
def Ei (K:St->Prop)(Q:AX->St->Prop)(s:St):gi K Q .normal s=K s:=(rfl)
def Ej (K:St->Prop)(Q:AX->St->Prop)(i:Nat)(s:St):gi K Q (.exit i) s=Q (.exit i) s:=(rfl)
def Ek (K:St->Prop)(Q:AX->St->Prop)(i:Nat)(s:St):gi K Q (.goto i) s=Q (.goto i) s:=(rfl)
def El (K:St->Prop)(Q:AX->St->Prop)(s:St):gi K Q .ret s=Q .ret s:=(rfl)
def Em (K:St->Prop)(Q:AX->St->Prop)(s:St):gi K Q .panic s=Q .panic s:=(rfl)
def En (i:Nat)(Q:AX->St->Prop)(s:St):jz i Q .normal s=Q .normal s:=(rfl)
def Eo (i j:Nat)(Q:AX->St->Prop)(s:St):jz i Q (.exit j) s=if j=i then Q .normal s else Q (.exit j) s:=(rfl)
def Ep (i j:Nat)(Q:AX->St->Prop)(s:St):jz i Q (.goto j) s=Q (.goto j) s:=(rfl)
def Er (i:Nat)(Q:AX->St->Prop)(s:St):jz i Q .ret s=Q .ret s:=(rfl)
def Es (i:Nat)(Q:AX->St->Prop)(s:St):jz i Q .panic s=Q .panic s:=(rfl)
def noGoto_normal (Q:AX->St->Prop)(s:St):noGoto Q .normal s=Q .normal s:=(rfl)
def noGoto_exit (i:Nat)(Q:AX->St->Prop)(s:St):noGoto Q (.exit i) s=Q (.exit i) s:=(rfl)
def noGoto_ret (Q:AX->St->Prop)(s:St):noGoto Q .ret s=Q .ret s:=(rfl)
def noGoto_panic (Q:AX->St->Prop)(s:St):noGoto Q .panic s=Q .panic s:=(rfl)
section code
variable {n:Nat} {rd:Option Nat} {Q:AX->St->Prop} {s:St}
def Et:vc P G n rd .skip Q s=Q .normal s:=(rfl)
def Eu (l:Nat):vc P G n rd (.label l) Q s=Q .normal s:=(rfl)
def Ew (id:Nat)(ops:Array Oper):vc P G n rd (.region id ops false) Q s=opsV P G rd Q ops ops.toList s:=(rfl)
def Ex (id:Nat)(ops:Array Oper):vc P G n rd (.region id ops true) Q s=W P G n rd (.region id ops true) Q s:=(rfl)
def Ey (a b:Code):vc P G n rd (.seq a b) Q s=vc P G n rd a (gi (vc P G n rd b Q) Q) s:=(rfl)
def Ez (id:Nat)(c:Code):vc P G n rd (.block id c) Q s=vc P G n rd c (jz id Q) s:=(rfl)
def EA (c:Code):vc P G n rd (.loop c) Q s=W P G n rd (.loop c) Q s:=(rfl)
def EB (f:Operand)(ps:Array Tmp)(asg c:Code):vc P G n rd (.rangeFunc f ps asg c) Q s=W P G n rd (.rangeFunc f ps asg c) Q s:=(rfl)
def EC (i:Nat):vc P G n rd (.exit i) Q s=Q (.exit i) s:=(rfl)
def ED (c:Code):vc P G n rd (.scope c) Q s=vc P G n rd c (noGoto Q) s:=(rfl)
def EF (i:Nat):vc P G n rd (.goto i) Q s=Q (.goto i) s:=(rfl)
def EG:vc P G n rd .ret Q s=Q .ret s:=(rfl)
def yF:S1->Option Bool
 |.lit (.bool t)=>some t
 |_=>none
def EI (t:Bool):yF (.lit (.bool t))=some t:=rfl
def EJ (c:Operand)(a b:Code):vc P G n rd (.cond c a b) Q s=bb (yF (aj G s.ρ c)) fun t=>fC t (vc P G n rd a Q s) (vc P G n rd b Q s):=by
 simp only[vc];congr 1
end code
def EK (ρ:Env)(t:Tmp):aj G ρ (.tmp t)=ρ t:=rfl
def EL (ρ:Env)(v:Value):aj G ρ (.const v)=.lit v:=rfl
def EM (ρ:Env)(f:FuncId):aj G ρ (.func f)=.nl f [] []:=rfl
def EN (ρ:Env)(d:Tmp)(v:S1)(t:Tmp):aD ρ (some d) v t=if t=d then v else ρ t:=rfl
def EO (ρ:Env)(v:S1):aD ρ none v=ρ:=rfl
def ER (ws:Nat)(ρ ρ₀:Env)(t:Nat):mask ws ρ ρ₀ t=if ws / 2 ^ t % 2=1 then ρ t else ρ₀ t:=rfl
def iv:S1->Int
 |.lit (.int _ n)=>n
 |_=>0
def aM (k:IntKind)(n:Int):iv (.lit (.int k n))=n:=rfl
def uO (l:List S1)(t:Nat):eQ l t=(l[t]?).getD (.lit undef):=rfl
def ES (rs:List ResultVar)(H:S2)(K:S8->S2->Prop)(s:St):lp P G rs H K .ret s=bb (dE P s.H s.ρ rs) fun vs=>av P G H K (fR vs) s.H:=(rfl)
def ET (rs:List ResultVar)(H:S2)(K:S8->S2->Prop)(s:St):lp P G rs H K .normal s=bb (dE P s.H s.ρ rs) fun vs=>av P G H K (fR vs) s.H:=(rfl)
def EU (H:S2)(ρ:Env):dE P H ρ []=some []:=rfl
def EV (H:S2)(ρ:Env)(t:Tmp)(r:List ResultVar):dE P H ρ (.tmp t :: r)=(dE P H ρ r).map (ρ t :: ·):=rfl
def EW (H:S2)(ρ:Env)(a:Tmp)(t:TypeId)(r:List ResultVar):dE P H ρ (.cell a t :: r)=(eb P H t (ρ a)).bind fun v=>(dE P H ρ r).map (v :: ·):=rfl
def EX (v:S1):fR [v]=v:=rfl
def EY (v u:S1)(r:List S1):fR (v :: u :: r)=.nc (v :: u :: r):=rfl
def EZ:fR []=.nc []:=rfl
section ops
variable {rd:Option Nat} {Q:AX->St->Prop} {K:St->Prop} {s:St} {d:Option Tmp} {ty:TypeId} {pos:String} {aft:Array Edge} {g:Option (Nat × Bool)}
def E8 (all:Array Oper):opsV P G rd Q all [] s=Q .normal s:=(rfl)
def E9 (all:Array Oper)(op:Op)(rest:List Oper):opsV P G rd Q all (⟨d,op,ty,pos,aft,none⟩ :: rest) s=aO P G rd Q ⟨d,op,ty,pos,aft,none⟩ (opsV P G rd Q all rest) s:=by
 simp[opsV,dD,lq]
def Fa (all:Array Oper)(op:Op)(rest:List Oper)(j:Nat)(want:Bool):opsV P G rd Q all (⟨d,op,ty,pos,aft,some (j,want)⟩ :: rest) s =
  bb (dD all s.ρ ⟨d,op,ty,pos,aft,some (j,want)⟩) fun t=>if t=true then aO P G rd Q ⟨d,op,ty,pos,aft,some (j,want)⟩ (opsV P G rd Q all rest) s else opsV P G rd Q all rest ⟨aD s.ρ d (.lit undef),s.H⟩:=(rfl)
def Fb (P:Program)(G:Nat->Option (List S1))(fv:S1)(args:List S1)(H:S2)(K:S8->S2->Prop)(_d:TagR K:=.mk):Prop:=aH P G fv args H K
def Fc (fv:Operand)(args:Array Operand)(ats:Array TypeId):aO P G rd Q ⟨d,.call ⟨.value fv,args,ats⟩,ty,pos,aft,g⟩ K s =
  Fb P G (aj G s.ρ fv) (args.toList.map (aj G s.ρ)) s.H fun r H'=>dR H' rd/\match r with
   |.ret v=>K ⟨aD s.ρ d v,H'⟩
   |.panic=>Q .panic ⟨s.ρ,H'⟩:=(rfl)
def Fe (x:Operand):aO P G rd Q ⟨d,.panic x,ty,pos,aft,g⟩ K s=((∃t v,(aj G s.ρ x)=.lit (.iface t v))/\Q .panic s):=(rfl)
def Ff (x:Operand):aO P G rd Q ⟨d,.move x,ty,pos,aft,g⟩ K s=K ⟨aD s.ρ d (aj G s.ρ x),s.H⟩:=by simp[aO,ah,lq]
def Fg (x:Operand):aO P G rd Q ⟨d,.assign x,ty,pos,aft,g⟩ K s=K ⟨aD s.ρ d (aj G s.ρ x),s.H⟩:=by simp[aO,ah,lq]
def Fh (c a b:Operand):aO P G rd Q ⟨d,.pick c a b,ty,pos,aft,g⟩ K s=bb (match aj G s.ρ c with|.lit (.bool t)=>some t|_=>none) fun t=>K ⟨aD s.ρ d (if t then aj G s.ρ a else aj G s.ρ b),s.H⟩:=by
 simp only[aO,ah];split<;>simp_all[lq,qJ]
def Fi (e:TypeId):aO P G rd Q ⟨d,.alloc e,ty,pos,aft,g⟩ K s=bb (bH P e) fun z=>bb (s.H.lay s.H.C (.L 0 e z)) fun H'=>K ⟨aD s.ρ d (.Y s.H.C 0 0),H'⟩:=by
 simp only[aO,ah,uN];exact qK fun _=>fj ..
def Fj (e:TypeId)(x:Operand):aO P G rd Q ⟨d,.box e x,ty,pos,aft,g⟩ K s=bb (s.H.lay s.H.C (.L 0 e (aj G s.ρ x).cells)) fun H'=>K ⟨aD s.ρ d (.Y s.H.C 0 0),H'⟩:=by
 simp[aO,ah,fj]
def Fk (t:TypeId)(parts:Array (Nat × Operand)):aO P G rd Q ⟨d,.build t parts,ty,pos,aft,g⟩ K s=bb (mj P t (parts.toList.map fun p=>(p.1,aj G s.ρ p.2))) fun v=>K ⟨aD s.ρ d v,s.H⟩:=by
 simp[aO,ah,fj]
def Fl (t:TypeId)(len:Nat)(parts:Array (Nat × Operand)):aO P G rd Q ⟨d,.buildSlice t len parts,ty,pos,aft,g⟩ K s =
  bb (il P s.H s.H.C t len (parts.toList.map fun p=>(p.1,aj G s.ρ p.2))) fun vH=>K ⟨aD s.ρ d vH.1,vH.2⟩:=by
 simp[aO,ah]
def Fm (t:TypeId)(a:Operand):aO P G rd Q ⟨d,.load t a,ty,pos,aft,g⟩ K s=bb (eb P s.H t (aj G s.ρ a)) fun v=>K ⟨aD s.ρ d v,s.H⟩:=by
 simp[aO,ah,fj]
def Fo (t:TypeId)(a x:Operand):aO P G rd Q ⟨d,.store t a x,ty,pos,aft,g⟩ K s=((P.underlying t).isSome=true/\bb (fN P s.H t (aj G s.ρ a) (aj G s.ρ x)) fun H'=>K ⟨aD s.ρ d (.lit undef),H'⟩):=by
 simp[aO,ah,yE,fj]
def Fp (x:Operand):aO P G rd Q ⟨d,.nilCheck x,ty,pos,aft,g⟩ K s=bb (iq s.H (aj G s.ρ x)) fun v=>K ⟨aD s.ρ d v,s.H⟩:=by
 simp[aO,ah,fj]
def Fq (op:BinOp)(t:TypeId)(x y:Operand)(u:TypeId):aO P G rd Q ⟨d,.binOp op t x y u,ty,pos,aft,g⟩ K s =
  oC P op t (gj s.H op (aj G s.ρ x) (aj G s.ρ y)) (fun v=>K ⟨aD s.ρ d v,s.H⟩) (bb (bh P op t x y (aj G s.ρ x) (aj G s.ρ y)) fun v=>K ⟨aD s.ρ d v,s.H⟩):=by
 simp[aO,ah,fj]
def Fs (op:BinOp)(t:TypeId)(Kb:S1->Prop)(p:Prop):oC P op t none Kb p=p:=rfl
def Ft (op:BinOp)(t:TypeId)(k:Bool)(Kb:S1->Prop)(p:Prop):oC P op t (some k) Kb p=(jC (P.underlying t)=true/\∀b:Bool,(k=true->b=false)->Kb (.lit (.bool (if op == .neq then !b else b)))):=rfl
def Fu (e:TypeId):jC (some (.slice e))=true:=rfl
def Fv (H:S2)(op:BinOp)(v:Value)(y:S1):gj H op (.lit v) y=none:=by
 unfold gj;split<;>rfl
def Fw (H:S2)(n:Nat)(cells:List S1):gj H .eql (.M n cells) (.lit (.slice none 0 0))=some (decide (0<n)):=rfl
def Fx (H:S2)(n:Nat)(cells:List S1):gj H .neq (.M n cells) (.lit (.slice none 0 0))=some (decide (0<n)):=rfl
def Fy:(BinOp.eql == BinOp.neq)=false:=rfl
def FA:(BinOp.neq == BinOp.neq)=true:=rfl
def FB (op:UnOp)(t:TypeId)(x:Operand):aO P G rd Q ⟨d,.unOp op t x,ty,pos,aft,g⟩ K s=bb (nY P op (aj G s.ρ x)) fun v=>K ⟨aD s.ρ d v,s.H⟩:=by
 simp[aO,ah,fj]
def FC (a b:TypeId)(x:Operand):aO P G rd Q ⟨d,.convert a b x,ty,pos,aft,g⟩ K s=bb (im P s.H a b (aj G s.ρ x)) fun v=>K ⟨aD s.ρ d v,s.H⟩:=by
 simp[aO,ah,fj]
def FD (f:FuncId)(first cap:Array Operand):aO P G rd Q ⟨d,.makeFunc (.func f) first cap,ty,pos,aft,g⟩ K s=K ⟨aD s.ρ d (.nl f (first.toList.map (aj G s.ρ)) (cap.toList.map (aj G s.ρ))),s.H⟩:=by
 simp[aO,ah,lq]
def FE (t:TypeId)(l c:Operand):aO P G rd Q ⟨d,.makeSlice t l c,ty,pos,aft,g⟩ K s=bb (gU P s.H s.H.C t (aj G s.ρ l) (aj G s.ρ c)) fun vH=>K ⟨aD s.ρ d vH.1,vH.2⟩:=by
 simp[aO,ah]
def FF (t:TypeId)(x:Operand)(lo hi:Option Operand):aO P G rd Q ⟨d,.slice t x lo hi none,ty,pos,aft,g⟩ K s =
  bb (jr P s.H t (aj G s.ρ x) (lo.map (aj G s.ρ)) (hi.map (aj G s.ρ))) fun v=>K ⟨aD s.ρ d v,s.H⟩:=by
 simp[aO,ah,fj]
def mG (P:Program)(H:S2)(s:TypeId)(f:Nat)(x:S1):Option S1 :=
 (bx P s f).bind fun of=>match x with
  |.Y id gen off=>(H.nn id gen).map fun _=>.Y id gen (off+of.1)
  |.nb cells off=>some (.nb cells (off+of.1))
  |_=>none
def FG (t:TypeId)(x:Operand)(f:Nat):aO P G rd Q ⟨d,.fieldAddr t x f,ty,pos,aft,g⟩ K s=bb (mG P s.H t f (aj G s.ρ x)) fun v=>K ⟨aD s.ρ d v,s.H⟩:=by
 simp only[aO,ah,mG,uN];refine qK fun of=>?_;split<;>simp_all[qJ,fj,lq]
def yG (P:Program)(t:TypeId)(f:Nat)(x:S1):Option S1 :=
 (bx P t f).bind fun of=>match x with
  |.agg cells=>dO P of.2 cells of.1
  |.lit (.agg cs)=>dO P of.2 (cs.toList.map .lit) of.1
  |_=>none
def mH (P:Program)(H:S2)(t:TypeId)(x i:S1):Option S1:=match i with
 |.lit (.int _ i)=>jZ P H t x i
 |_=>none
def FH (t:TypeId)(x i:Operand):aO P G rd Q ⟨d,.indexAddr t x i,ty,pos,aft,g⟩ K s=bb (mH P s.H t (aj G s.ρ x) (aj G s.ρ i)) fun v=>K ⟨aD s.ρ d v,s.H⟩:=by
 simp only[aO,ah,mH];split<;>simp_all[qJ,fj]
def FI (t:TypeId)(x i:Operand):aO P G rd Q ⟨d,.index t x i,ty,pos,aft,g⟩ K s=bb (nZ P t (aj G s.ρ x) (aj G s.ρ i)) fun v=>K ⟨aD s.ρ d v,s.H⟩:=by
 simp[aO,ah,fj]
def FJ (t:Operand)(i:Nat):aO P G rd Q ⟨d,.extract t i,ty,pos,aft,g⟩ K s=bb (jt (aj G s.ρ t) i) fun v=>K ⟨aD s.ρ d v,s.H⟩:=by
 simp[aO,ah,fj]
def FK (b:Builtin)(args:Array Operand)(ats:Array TypeId):aO P G rd Q ⟨d,.call ⟨.builtin b,args,ats⟩,ty,pos,aft,g⟩ K s =
  bb (eO P s.H s.H.C b ats.toList (args.toList.map (aj G s.ρ))) fun vH=>K ⟨aD s.ρ d vH.1,vH.2⟩:=by
 simp[aO,ah]
end ops
def builtin_len (H:S2)(id:Nat)(t:TypeId)(x:S1):eO P H id .len [t] [x]=(iR P H t x).map fun v=>(v,H):=rfl
def builtin_append (H:S2)(id:Nat)(t u:TypeId)(s x:S1):eO P H id .append [t,u] [s,x]=bf P H id t u s x:=rfl
def builtin_copy (H:S2)(id:Nat)(t u:TypeId)(s x:S1):eO P H id .copy [t,u] [s,x]=iQ P H t s x:=rfl
def builtin_min (H:S2)(id:Nat)(ts:List TypeId)(k:IntKind)(a b:Int):eO P H id .min ts [.lit (.int k a),.lit (.int k b)]=some (.lit (.int k (if b<a then b else a)),H):=by
 cases ts with
 |nil=>rfl
 |cons t ts=>rfl
def builtin_max (H:S2)(id:Nat)(ts:List TypeId)(k:IntKind)(a b:Int):eO P H id .max ts [.lit (.int k a),.lit (.int k b)]=some (.lit (.int k (if b > a then b else a)),H):=by
 cases ts with
 |nil=>rfl
 |cons t ts=>rfl
section nums
variable {t:TypeId} {x y:Operand} {k:IntKind} {a b:Int}
def yH:bh P .add t x y (.lit (.int k a)) (.lit (.int k b))=some (.lit (.int k (k.wrap (a+b)))):=by
 simp[bh,S1.bM,eqGuard,binOp,Op.intArith,bW,bind,Sem.bind,pure]
def yI:bh P .sub t x y (.lit (.int k a)) (.lit (.int k b))=some (.lit (.int k (k.wrap (a-b)))):=by
 simp[bh,S1.bM,eqGuard,binOp,Op.intArith,bW,bind,Sem.bind,pure]
def yJ:bh P .mul t x y (.lit (.int k a)) (.lit (.int k b))=some (.lit (.int k (k.wrap (a*b)))):=by
 simp[bh,S1.bM,eqGuard,binOp,Op.intArith,bW,bind,Sem.bind,pure]
def FL:bh P .quo t x y (.lit (.int k a)) (.lit (.int k b))=if b≠0 then some (.lit (.int k (k.wrap (a.tdiv b)))) else none:=by
 by_cases h:b=0<;>simp[h,bh,S1.bM,eqGuard,binOp,Op.intDiv,runtimePanic,program,goPanic,bW,bind,Sem.bind,pure]
def FM:bh P .rem t x y (.lit (.int k a)) (.lit (.int k b))=if b≠0 then some (.lit (.int k (a.tmod b))) else none:=by
 by_cases h:b=0<;>simp[h,bh,S1.bM,eqGuard,binOp,Op.intDiv,runtimePanic,program,goPanic,bW,bind,Sem.bind,pure]
def yK:bh P .lss t x y (.lit (.int k a)) (.lit (.int k b))=some (.lit (.bool (decide (a<b)))):=by
 simp[bh,S1.bM,eqGuard,binOp,Op.intCmp,bW,bind,Sem.bind,pure]
def yL:bh P .leq t x y (.lit (.int k a)) (.lit (.int k b))=some (.lit (.bool (decide (a<=b)))):=by
 simp[bh,S1.bM,eqGuard,binOp,Op.intCmp,bW,bind,Sem.bind,pure]
def yM:bh P .gtr t x y (.lit (.int k a)) (.lit (.int k b))=some (.lit (.bool (decide (b<a)))):=by
 simp[bh,S1.bM,eqGuard,binOp,Op.intCmp,bW,bind,Sem.bind,pure]
def yQ:bh P .geq t x y (.lit (.int k a)) (.lit (.int k b))=some (.lit (.bool (decide (b<=a)))):=by
 simp[bh,S1.bM,eqGuard,binOp,Op.intCmp,bW,bind,Sem.bind,pure]
def yR:bh P .eql t x y (.lit (.int k a)) (.lit (.int k b))=some (.lit (.bool (decide (a=b)))):=by
 simp[bh,S1.bM,eqGuard,binOp,Op.intCmp,bW,bind,Sem.bind,pure];rfl
def yS:bh P .neq t x y (.lit (.int k a)) (.lit (.int k b))=some (.lit (.bool (!decide (a=b)))):=by
 simp[bh,S1.bM,eqGuard,binOp,Op.intCmp,bW,bind,Sem.bind,pure];rfl
def FN (v:Bool):nY P .not (.lit (.bool v))=some (.lit (.bool (!v))):=rfl
def FO (H:S2)(s d:TypeId)(v:Value):im P H s d (.lit v)=iT P s d (.lit v):=rfl
def FQ (H:S2)(s d:TypeId)(c:List S1):im P H s d (.agg c)=iT P s d (.agg c):=rfl
def FR {s d:TypeId}{k':IntKind}(hs:(P.underlying s).isSome=true)(hd:P.underlying d=some (.int k')):iT P s d (.lit (.int k a))=some (.lit (.int k' (k'.wrap a))):=by
 obtain⟨ds,hs⟩:=Qb.1 hs;simp only[iT,S1.bM];have:bW P (convert s d (.int k a))=some (.int k' (k'.wrap a)):=by
  simp[convert,underlying,program,hs,hd,bW,bind,Sem.bind,pure,Conv.intToInt]
 rw[this];rfl
end nums
def ext (H:S2)(L:List S7):S2 :=
 { get:=fun j=>if H.C<=j/\j<H.C+L.length then L[j-H.C]? else H.get j,C:=H.C+L.length }
def ext_nil (H:S2):ext H []=H:=by
 unfold ext;have:(fun j=>if H.C<=j/\j<H.C+([]:List S7).length then ([]:List S7)[j-H.C]? else H.get j)=H.get:=by
  funext j
  rw[PC];simp only[List.length_nil];omega
 rw[this];rfl
def bB (H:S2)(L:List S7):(ext H L).C=H.C+L.length:=rfl
def uP (H:S2)(b:S7):H.lay H.C b=some (ext H [b]):=by
 unfold S2.lay ext;rw[PG rfl];congr 2
 funext j
 by_cases h:j=H.C
 ·subst h;simp
 ·rw[PC h,PC];simp only[List.length_cons,List.length_nil];omega
def yT (H:S2)(L:List S7)(b:S7):(ext H L).lay (H.C+L.length) b=some (ext H (L++[b])):=by
 unfold S2.lay;rw[PG (bB H L).symm];unfold ext;congr 2
 ·funext j
  simp only[List.length_append,List.length_cons,List.length_nil];by_cases h:j=H.C+L.length
  ·subst h;rw[PG rfl,PG U,RH];simp
  ·rw[PC h];by_cases h2:H.C<=j/\j<H.C+L.length
   ·rw[PG h2,PG U,PJ U]
   ·rw[PC h2,PC U]
 ·simp only[List.length_append,List.length_cons,List.length_nil];omega
def yU (H:S2)(L:List S7)(i:Nat)(b:S7)(h:L.length=i):(ext H L).lay (H.C+i) b=some (ext H (L++[b])):=by subst h;exact yT H L b
def dT (H:S2)(L:List S7)(i:Nat)(h:i<L.length):(ext H L).get (H.C+i)=L[i]?:=by
 unfold ext;simp only;rw[PG U,RH]
def eG (H:S2)(L:List S7)(i:Nat)(h:i<H.C):(ext H L).get i=H.get i:=by
 unfold ext;simp only;rw[PC U]
def uQ (H:S2)(L:List S7)(i:Nat)(b:S7)(h:i<L.length):(ext H L).upd (H.C+i) b=ext H (L.set i b):=by
 unfold ext S2.upd;simp only[PI];congr 1
 funext j
 by_cases hj:j=H.C+i
 ·subst hj;rw[PG rfl,PG U,RH,PO h]
 ·rw[PC hj];by_cases h2:H.C<=j/\j<H.C+L.length
  ·rw[PG h2,PG h2,PY U]
  ·rw[PC h2,PC h2]
def oF (b:Option S7)(gen:Nat):Option (TypeId × List S1) :=
 match b with
 |some (.L g e cells)=>if g=gen then some (e,cells) else none
 |_=>none
def FS (g gen:Nat)(e:TypeId)(cells:List S1):oF (some (.L g e cells)) gen=if g=gen then some (e,cells) else none:=rfl
def uR (H:S2)(L:List S7)(i gen:Nat)(h:i<L.length):(ext H L).nn (H.C+i) gen=oF L[i]? gen:=by
 unfold S2.nn oF;rw[dT H L i h];rfl
def FT (H:S2)(b:S7)(L:List S7)(gen:Nat):(ext H (b :: L)).nn H.C gen=oF (some b) gen:=uR H (b :: L) 0 gen (SX)
def FU (H:S2)(c:S7)(L:List S7)(b:S7):(ext H (c :: L)).upd H.C b=ext H (b :: L):=uQ H (c :: L) 0 b (SX)
def gE {H R:S2}{L:List S7}(h:R=ext H L)(i:Nat){b:S7}(hb:L[i]? = some b):R.get (H.C + i)=some b := by
  rw[h,dT H L i (by
    rcases PZ i L.length with g |g
    · exact g
    · rw[PN g] at hb;cases hb)]
  exact hb
def eS {H R:S2}{b:S7}{L:List S7}(h:R=ext H (b :: L)):R.get H.C=some b := gE h 0 rfl
end Go.Hx
namespace Go.Hx
variable {P:Program} {G:Nat->Option (List S1)}
def oH (want:Bool):Option S1->Option Bool
 |some (.lit (.bool b))=>some (b == want)
 |some (.lit _)=>some false
 |none=>some false
 |_=>none
def FV (want b:Bool):oH want (some (.lit (.bool b)))=some (b == want):=rfl
def FW (b:Bool):(b == true)=b:=by cases b<;>rfl
def FX (b:Bool):(b == false)=!b:=by cases b<;>rfl
def FY (b:Bool)(p q:Prop):fC (!b) p q=fC b q p:=by cases b<;>simp[fC]
def y9 (t:Bool)(p q:Prop):(if t=true then p else q)=fC t p q:=by cases t<;>simp[fC]
def za (all:Array Oper)(ρ:Env)(d:Option Tmp)(op:Op)(ty:TypeId)(pos:String)(aft:Array Edge)(j:Nat)(want:Bool):
  dD all ρ ⟨d,op,ty,pos,aft,some (j,want)⟩=oH want (((all[j]?).bind (·.dst)).map ρ):=by
 unfold dD;simp only;cases (all[j]?).bind (·.dst) with
 |none=>rfl
 |some d =>
  simp only[Option.map_some];cases ρ d with
  |lit v=>cases v<;>rfl
  |_=>rfl
section
variable {rd:Option Nat} {Q:AX->St->Prop} {s:St} {d:Option Tmp} {ty:TypeId} {pos:String} {aft:Array Edge} {g:Option (Nat × Bool)}
def FZ (all:Array Oper)(op:Op)(rest:List Oper)(j:Nat)(want:Bool):opsV P G rd Q all (⟨d,op,ty,pos,aft,some (j,want)⟩ :: rest) s =
  bb (oH want (((all[j]?).bind (·.dst)).map s.ρ)) fun t=>fC t (aO P G rd Q ⟨d,op,ty,pos,aft,some (j,want)⟩ (opsV P G rd Q all rest) s) (opsV P G rd Q all rest ⟨aD s.ρ d (.lit undef),s.H⟩):=by
 rw[Fa,za];exact qK fun _=>y9 ..
variable {all:Array Oper} {tail:St->Prop} {b i:Nat} {bs:List Nat} {acc:List (Nat × FP)} {K:FP->St->Prop}
def F1 (bs:List Nat):cz P G all tail bs i acc [] s=tail s:=by cases bs<;>rfl
def F2 (op:Op)(rest:List Oper):cz P G all tail (b :: bs) i acc (⟨d,op,ty,pos,aft,none⟩ :: rest) s =
  bz P G ⟨d,op,ty,pos,aft,none⟩ (fun f s'=>eR b f acc/\cz P G all tail bs (i+1) (dS i f acc) rest s') s:=by
 simp[cz,dD,bb]
def F3 (op:Op)(rest:List Oper)(j:Nat)(want:Bool):cz P G all tail (b :: bs) i acc (⟨d,op,ty,pos,aft,some (j,want)⟩ :: rest) s =
  bb (oH want (((all[j]?).bind (·.dst)).map s.ρ)) fun t =>
   fC t (bz P G ⟨d,op,ty,pos,aft,some (j,want)⟩ (fun f s'=>eR b f acc/\cz P G all tail bs (i+1) (dS i f acc) rest s') s)
    (cz P G all tail bs (i+1) acc rest ⟨aD s.ρ d (.lit undef),s.H⟩):=by
 simp only[cz,za];exact qK fun _=>y9 ..
def F4 (fv:Operand)(args:Array Operand)(ats:Array TypeId):bz P G ⟨d,.call ⟨.value fv,args,ats⟩,ty,pos,aft,g⟩ K s =
  ∃v rs,cD P G (aj G s.ρ fv) (args.toList.map (aj G s.ρ)) s.H v rs/\K ⟨[],rs⟩ ⟨aD s.ρ d v,s.H⟩:=(rfl)
abbrev QF:AX->St->Prop:=fun _ _=>False
def F5 (x:Operand):bz P G ⟨d,.move x,ty,pos,aft,g⟩ K s=aO P G none QF ⟨d,.move x,ty,pos,aft,g⟩ (K ⟨[],[]⟩) s:=(rfl)
def F6 (x:Operand):bz P G ⟨d,.assign x,ty,pos,aft,g⟩ K s=aO P G none QF ⟨d,.assign x,ty,pos,aft,g⟩ (K ⟨[],[]⟩) s:=(rfl)
def F7 (c x y:Operand):bz P G ⟨d,.pick c x y,ty,pos,aft,g⟩ K s=aO P G none QF ⟨d,.pick c x y,ty,pos,aft,g⟩ (K ⟨[],[]⟩) s:=(rfl)
def F8 (e:TypeId):bz P G ⟨d,.alloc e,ty,pos,aft,g⟩ K s=aO P G none QF ⟨d,.alloc e,ty,pos,aft,g⟩ (K ⟨[s.H.C],[]⟩) s:=(rfl)
def F9 (e:TypeId)(x:Operand):bz P G ⟨d,.box e x,ty,pos,aft,g⟩ K s=aO P G none QF ⟨d,.box e x,ty,pos,aft,g⟩ (K ⟨[s.H.C],[]⟩) s:=(rfl)
def Ga (t:TypeId)(p:Array (Nat × Operand)):bz P G ⟨d,.build t p,ty,pos,aft,g⟩ K s=aO P G none QF ⟨d,.build t p,ty,pos,aft,g⟩ (K ⟨[],[]⟩) s:=(rfl)
def Gb (t:TypeId)(l:Nat)(p:Array (Nat × Operand)):bz P G ⟨d,.buildSlice t l p,ty,pos,aft,g⟩ K s=aO P G none QF ⟨d,.buildSlice t l p,ty,pos,aft,g⟩ (K ⟨[s.H.C],[]⟩) s:=(rfl)
def Gc (t:TypeId)(x:Operand):bz P G ⟨d,.load t x,ty,pos,aft,g⟩ K s=aO P G none QF ⟨d,.load t x,ty,pos,aft,g⟩ (K ⟨[],aE (aj G s.ρ x)⟩) s:=(rfl)
def Gd (t:TypeId)(x y:Operand):bz P G ⟨d,.store t x y,ty,pos,aft,g⟩ K s=aO P G none QF ⟨d,.store t x y,ty,pos,aft,g⟩ (K ⟨aE (aj G s.ρ x),aE (aj G s.ρ x)⟩) s:=(rfl)
def Ge (x:Operand):bz P G ⟨d,.nilCheck x,ty,pos,aft,g⟩ K s=aO P G none QF ⟨d,.nilCheck x,ty,pos,aft,g⟩ (K ⟨[],aE (aj G s.ρ x)⟩) s:=(rfl)
def Gf (op:BinOp)(t:TypeId)(x y:Operand)(u:TypeId):bz P G ⟨d,.binOp op t x y u,ty,pos,aft,g⟩ K s=bb (bh P op t x y (aj G s.ρ x) (aj G s.ρ y)) fun v=>K ⟨[],[]⟩ ⟨aD s.ρ d v,s.H⟩:=by
 simp only[bz,ah,fj];rfl
def Gg (op:UnOp)(t:TypeId)(x:Operand):bz P G ⟨d,.unOp op t x,ty,pos,aft,g⟩ K s=aO P G none QF ⟨d,.unOp op t x,ty,pos,aft,g⟩ (K ⟨[],[]⟩) s:=(rfl)
def Gh (t u:TypeId)(x:Operand):bz P G ⟨d,.convert t u x,ty,pos,aft,g⟩ K s=aO P G none QF ⟨d,.convert t u x,ty,pos,aft,g⟩ (K ⟨[],aE (aj G s.ρ x)⟩) s:=(rfl)
def Gi (t:TypeId)(x:Operand):bz P G ⟨d,.makeInterface t x,ty,pos,aft,g⟩ K s=aO P G none QF ⟨d,.makeInterface t x,ty,pos,aft,g⟩ (K ⟨[],[]⟩) s:=(rfl)
def Gj (f:Fn)(x y:Array Operand):bz P G ⟨d,.makeFunc f x y,ty,pos,aft,g⟩ K s=aO P G none QF ⟨d,.makeFunc f x y,ty,pos,aft,g⟩ (K ⟨[],[]⟩) s:=(rfl)
def Gk (t:TypeId)(x y:Operand):bz P G ⟨d,.makeSlice t x y,ty,pos,aft,g⟩ K s=aO P G none QF ⟨d,.makeSlice t x y,ty,pos,aft,g⟩ (K ⟨[s.H.C],[]⟩) s:=(rfl)
def Gl (t:TypeId)(x:Operand)(lo hi mx:Option Operand):bz P G ⟨d,.slice t x lo hi mx,ty,pos,aft,g⟩ K s=aO P G none QF ⟨d,.slice t x lo hi mx,ty,pos,aft,g⟩ (K ⟨[],aE (aj G s.ρ x)⟩) s:=(rfl)
def Gm (t:TypeId)(x:Operand)(f:Nat):bz P G ⟨d,.fieldAddr t x f,ty,pos,aft,g⟩ K s=aO P G none QF ⟨d,.fieldAddr t x f,ty,pos,aft,g⟩ (K ⟨[],aE (aj G s.ρ x)⟩) s:=(rfl)
def Gn (t:TypeId)(x:Operand)(f:Nat):bz P G ⟨d,.field t x f,ty,pos,aft,g⟩ K s=aO P G none QF ⟨d,.field t x f,ty,pos,aft,g⟩ (K ⟨[],[]⟩) s:=(rfl)
def Gp (t:TypeId)(x y:Operand):bz P G ⟨d,.indexAddr t x y,ty,pos,aft,g⟩ K s=aO P G none QF ⟨d,.indexAddr t x y,ty,pos,aft,g⟩ (K ⟨[],aE (aj G s.ρ x)⟩) s:=(rfl)
def Gq (t:TypeId)(x y:Operand):bz P G ⟨d,.index t x y,ty,pos,aft,g⟩ K s=aO P G none QF ⟨d,.index t x y,ty,pos,aft,g⟩ (K ⟨[],[]⟩) s:=(rfl)
def Gr (x:Operand)(f:Nat):bz P G ⟨d,.extract x f,ty,pos,aft,g⟩ K s=aO P G none QF ⟨d,.extract x f,ty,pos,aft,g⟩ (K ⟨[],[]⟩) s:=(rfl)
def Gs (f:Builtin)(args:Array Operand)(ats:Array TypeId):bz P G ⟨d,.call ⟨.builtin f,args,ats⟩,ty,pos,aft,g⟩ K s =
  aO P G none QF ⟨d,.call ⟨.builtin f,args,ats⟩,ty,pos,aft,g⟩ (K (gm P s.H.C f ats.toList (args.toList.map (aj G s.ρ)))) s:=rfl
end
def Gt (v:Value):aE (.lit v)=[]:=rfl
def Gu (n:Nat)(l:List S1):aE (.M n l)=[]:=rfl
def Gv (l:List S1)(o:Nat):aE (.nb l o)=[]:=rfl
def Gw (l:List S1):aE (.agg l)=[]:=rfl
def Gx (id g o l z:Nat):aE (.V id g o l z)=[id]:=rfl
def Gy (id g o:Nat):aE (.Y id g o)=[id]:=rfl
def Gz (id g o l z:Nat):iW (.V id g o l z)=true:=rfl
def GA (v:Value):iW (.lit v)=false:=rfl
def GB (n:Nat)(l:List S1):iW (.M n l)=false:=rfl
def GC (id:Nat)(t:TypeId)(x:S1):gm P id .len [t] [x]=⟨[],iy P t x⟩:=rfl
def GE (id:Nat)(ts:List TypeId)(x y:S1):gm P id .append ts [x,y]=if iW x=true then ⟨aE x,aE x++aE y⟩ else ⟨[id],aE y⟩:=by
 cases ts with
 |nil=>rfl
 |cons t ts=>cases ts<;>rfl
def GF (t:TypeId)(x:S1)(h:aE x=[]):iy P t x=[]:=by unfold iy;split<;>first|exact h|rfl
def GG (t:TypeId)(n:Nat)(l:List S1):iy P t (.M n l)=[]:=GF _ _ rfl
def kh (f f':FP):Prop:=(∀r,r∈f.nk->r ∉ f'.rs)/\(∀r,r∈f'.nk->r ∉ f.rs)
def GH (b:Nat)(f:FP):eR b f []=True:=by simp[eR]
def GI (b:Nat)(f:FP)(j:Nat)(f':FP)(acc:List (Nat × FP)):eR b f ((j,f') :: acc)=((b / 2 ^ j % 2=1\/kh f f')/\eR b f acc):=by
 simp only[eR,List.forall_mem_cons,Nat.testBit_eq_decide_div_mod_eq,Ri,eq_iff_iff];refine and_congr ⟨fun h=>?_,fun h hb=>?_⟩ Iff.rfl
 ·by_cases hb:b / 2 ^ j % 2=1
  ·exact .inl hb
  ·exact .inr (h hb)
 ·rcases h with h|h
  ·exact absurd h hb
  ·exact h
def GJ (b:Nat)(acc:List (Nat × FP)):eR b ⟨[],[]⟩ acc=True:=by
 simp[eR]
def GK (e r e' r':List Nat):kh ⟨e,r⟩ ⟨e',r'⟩=((∀x,x∈e->x ∉ r')/\∀x,x∈e'->x ∉ r):=rfl
def GL (i:Nat)(acc:List (Nat × FP)):dS i ⟨[],[]⟩ acc=acc:=rfl
def GM (i x:Nat)(e r:List Nat)(acc:List (Nat × FP)):dS i ⟨x :: e,r⟩ acc=(i,⟨x :: e,r⟩) :: acc:=rfl
def GN (i x:Nat)(e r:List Nat)(acc:List (Nat × FP)):dS i ⟨e,x :: r⟩ acc=(i,⟨e,x :: r⟩) :: acc:=by cases e<;>rfl
def cD.mk {f:FuncId}{first cap args:List S1}{H:S2}{v:S1}{rs:List Nat}(hlt:∀r,r∈rs->r<H.C)
  (h:∀H2:S2,(∀r,r∈rs->H2.get r=H.get r)->H.C<=H2.C->ae P G f (first++args++cap) H2 fun r H3=>r=.ret v/\H3=H2):cD P G (.nl f first cap) args H v rs :=
 ⟨hlt,fun H2 h1 h2=>aH.nl (h H2 h1 h2)⟩
def cD.pure {f:FuncId}{args:List S1}{H:S2}{v:S1}(h:∀H2:S2,ae P G f args H2 fun r H3=>r=.ret v/\H3=H2):cD P G (.nl f [] []) args H v [] :=
 cD.mk (fun _ h=>by cases h) fun H2 _ _=>by simpa using h H2
def ae.pure {f:FuncId}{args:List S1}{H:S2}{v:S1}{K:S8->S2->Prop}(h:∀H2:S2,ae P G f args H2 fun r H3=>r=.ret v/\H3=H2)(hk:K (.ret v) H):ae P G f args H K :=
 (h H).mono fun r H3 ⟨h1,h2⟩=>by rw[h1,h2];exact hk
def W.dr {n:Nat}{id:Nat}{all:Array Oper}{rd:Option Nat}{Q:AX -> St -> Prop}{s:St}(K:Nat)(bs:List Nat)(hm:P.follows .mixedOrders=true)(h:cz P G all (opsV P G rd Q all (all.toList.drop K)) bs 0 [] (all.toList.take K) s)(hfit:all.toList.all (ee n)=true := by kernel_rfl)(hst:mC all bs K=true := by kernel_rfl):W P G n rd (.region id all true) Q s := W.draw K bs hm hfit hst h
def ae.st {H : S2} {f : FuncId} {fn : Func} {c : Code} {args : List S1} {K : S8 → S2 → Prop} {rs : List ResultVar} {n : Nat} (hf : P.funcs[f]? = some fn) (h : vc P G n none c (lp P G rs H K) ⟨eQ args, H⟩) (hb : fn.body = some c := by exact rfl) (hres : fn.results.toList = rs := by exact rfl) (hnt : fn.ntmps = n := by exact rfl) (hname : (fn.name == "runtime.NumGoroutine") = false := by decide) (hfit : fits n c = true := by kernel_rfl) (hargs : args.length ≤ n := by simp) : ae P G f args H K := .DW hf hb hres hnt hname hfit hargs h
def ae.sw {H : S2} {f : FuncId} {fn : Func} {c : Code} {args : List S1} {K : S8 → S2 → Prop} {rs : List ResultVar} {n : Nat} (hf : P.funcs[f]? = some fn) (h : W P G n none c (lp P G rs H K) ⟨eQ args, H⟩) (hb : fn.body = some c := by exact rfl) (hres : fn.results.toList = rs := by exact rfl) (hnt : fn.ntmps = n := by exact rfl) (hname : (fn.name == "runtime.NumGoroutine") = false := by decide) (hargs : args.length ≤ n := by simp) : ae P G f args H K := .uF hf hb hres hnt hname hargs h
end Go.Hx
namespace Go.Hx
variable {P:Program} {G:Nat->Option (List S1)} {H:S2}
def dH (H:S2)(x:S1):Option S1 :=
 match x with
  |.M len _=>some (.lit (.int .i64 len))
  |.V id gen _ len _=>(H.nn id gen).map fun _=>.lit (.int .i64 len)
  |.lit (.slice none 0 0)=>some (.lit (.int .i64 0))
  |_=>none
def uY (x:S1):Option S1 :=
 match x with
  |.lit (.string s)=>some (.lit (.int .i64 s.size))
  |_=>none
def oK (d:Option TypeDesc)(H:S2)(x:S1):Option S1 :=
 match d with
 |some (.slice _)=>dH H x
 |some .string=>uY x
 |some (.array n _)=>some (.lit (.int .i64 n))
 |_=>none
def GX (t:TypeId)(x:S1):iR P H t x=oK (P.underlying t) H x:=rfl
def mL (e:TypeId)(x:S1):oK (some (.slice e)) H x=dH H x:=rfl
def GY (x:S1):oK (some .string) H x=uY x:=rfl
def GZ (n:Nat)(e:TypeId)(x:S1):oK (some (.array n e)) H x=some (.lit (.int .i64 n)):=rfl
def G1 (n:Nat)(l:List S1):dH H (.M n l)=some (.lit (.int .i64 n)):=rfl
def zf (id g o n z:Nat):dH H (.V id g o n z)=(H.nn id g).map fun _=>.lit (.int .i64 n):=rfl
def G2:dH H (.lit (.slice none 0 0))=some (.lit (.int .i64 0)):=rfl
def G3 (s:ByteArray):uY (.lit (.string s))=some (.lit (.int .i64 s.size)):=rfl
def jF (d:Option TypeDesc)(n:Nat)(cells:List S1)(off:Nat):Option S1 :=
 match d with
 |none=>none
 |some d=>if ma d then (if off+n<=cells.length then some (.agg ((cells.drop off).take n)) else none) else cells[off]?
def G4 (t:TypeId)(cells:List S1)(off:Nat):dO P t cells off=jF (P.underlying t) (P.cellsOf t) cells off:=rfl
def G5 (k:IntKind)(n:Nat)(cells:List S1)(off:Nat):jF (some (.int k)) n cells off=cells[off]?:=rfl
def G6 (n:Nat)(cells:List S1)(off:Nat):jF (some .bool) n cells off=cells[off]?:=rfl
def G7 (n:Nat)(cells:List S1)(off:Nat):jF (some .string) n cells off=cells[off]?:=rfl
def G8 (e:TypeId)(n:Nat)(cells:List S1)(off:Nat):jF (some (.slice e)) n cells off=cells[off]?:=rfl
def G9 (e:TypeId)(n:Nat)(cells:List S1)(off:Nat):jF (some (.pointer e)) n cells off=cells[off]?:=rfl
def Hf (fs:Array Field)(n:Nat)(cells:List S1)(off:Nat):jF (some (.struct fs)) n cells off=if off+n<=cells.length then some (.agg ((cells.drop off).take n)) else none:=rfl
def Hg (k:Nat)(e:TypeId)(n:Nat)(cells:List S1)(off:Nat):jF (some (.array k e)) n cells off=if off+n<=cells.length then some (.agg ((cells.drop off).take n)) else none:=rfl
def Hh (cells vs:List S1):setAt cells 0 vs=vs++cells.drop vs.length:=by simp[setAt]
def Hi (c:S1)(cells vs:List S1)(off:Nat):setAt (c :: cells) (off+1) vs=c :: setAt cells off vs:=by simp[setAt,Nat.succ_add]
def Hl (t:TypeId)(cells:List S1)(off:Nat):eb P H t (.nb cells off)=dO P t cells off:=rfl
def Ho (t:TypeId)(id gen off:Nat):eb P H t (.Y id gen off)=(H.nn id gen).bind fun ec=>dO P t ec.2 off:=by
 simp only[S2.nn,eb];generalize H.get id=x;cases x with
 |none=>rfl
 |some b =>
  cases b with
  |L g e cells =>
   simp only;by_cases hg:g=gen
   ·rw[PG hg,PG hg];rfl
   ·rw[PC hg,PC hg];rfl
  |_=>rfl
def Ht (t:TypeId)(id gen off:Nat)(v:S1):fN P H t (.Y id gen off) v =
  (H.nn id gen).bind fun ec=>if v.cells.length=P.cellsOf t/\v.cells.all S1.one=true/\off+v.cells.length<=ec.2.length then some (H.upd id (.L gen ec.1 (setAt ec.2 off v.cells))) else none:=by
 simp only[S2.nn,fN];generalize H.get id=x;cases x with
 |none=>rfl
 |some b =>
  cases b with
  |L g e cells =>
   simp only;by_cases hg:g=gen
   ·subst hg;simp
   ·rw[PC hg,PC (fun h=>hg h.1)];rfl
  |_=>rfl
def qR (H:S2)(c:Nat)(x:S1)(i:Int):Option S1 :=
 match x with
 |.V id gen off len sz=>if 0<=i/\i<(len:Int)/\sz=c then (H.nn id gen).map fun _=>.Y id gen (off+i.toNat*c) else none
 |.M len cells=>if 0<=i/\i<(len:Int)/\cells≠[] then some (.nb cells (i.toNat*c)) else none
 |_=>none
def oL (H:S2)(c n:Nat)(x:S1)(i:Int):Option S1 :=
 if 0<=i/\i<(n:Int) then
   match x with
   |.Y id gen off=>(H.nn id gen).map fun _=>.Y id gen (off+i.toNat*c)
   |.nb cells off=>some (.nb cells (off+i.toNat*c))
   |_=>none
 else none
def qS (P:Program)(H:S2)(d:Option TypeDesc)(x:S1)(i:Int):Option S1 :=
 match d with
 |some (.array n e)=>if (P.underlying e).isSome then oL H (P.cellsOf e) n x i else none
 |some (.slice e)=>if (P.underlying e).isSome then qR H (P.cellsOf e) x i else none
 |_=>none
def Hv (t:TypeId)(x:S1)(k:IntKind)(i:Int):mH P H t x (.lit (.int k i))=qS P H (P.underlying t) x i:=by
 simp only[mH,jZ,qS];cases P.underlying t with
 |none=>rfl
 |some d =>
  cases d with
  |array n e =>
   simp only[oL];by_cases h:(P.underlying e).isSome=true
   ·simp only[h,and_true,if_true];rfl
   ·rw[PC h,PC (fun h'=>h h'.2.2)]
  |slice e=>rfl
  |_=>rfl
def HA (e:TypeId)(x:S1)(i:Int):qS P H (some (.slice e)) x i=if (P.underlying e).isSome=true then qR H (P.cellsOf e) x i else none:=rfl
def HB (n:Nat)(e:TypeId)(x:S1)(i:Int):qS P H (some (.array n e)) x i=if (P.underlying e).isSome=true then oL H (P.cellsOf e) n x i else none:=rfl
def HC (c n:Nat)(l:List S1)(i:Int):qR H c (.M n l) i=if 0<=i/\i<(n:Int)/\l≠[] then some (.nb l (i.toNat*c)) else none:=rfl
def HD (c id g o n z:Nat)(i:Int):qR H c (.V id g o n z) i=if 0<=i/\i<(n:Int)/\z=c then (H.nn id g).map fun _=>.Y id g (o+i.toNat*c) else none:=rfl
def HE (c n:Nat)(l:List S1)(o:Nat)(i:Int):oL H c n (.nb l o) i=if 0<=i/\i<(n:Int) then some (.nb l (o+i.toNat*c)) else none:=rfl
def HF (c n id g o:Nat)(i:Int):oL H c n (.Y id g o) i=if 0<=i/\i<(n:Int) then (H.nn id g).map fun _=>.Y id g (o+i.toNat*c) else none:=rfl
def oO (H:S2)(c:Nat)(x:S1)(lo hi:Option S1):Option S1 :=
   match x with
   |.V id gen off len sz=>if sz=c then (H.nn id gen).bind fun _=>(bC hi len len).bind fun h=>(bC lo 0 h).map fun l=>.V id gen (off+l*sz) (h-l) sz else none
   |.M len cells=>if cells.length=len*c then (bC hi len len).bind fun h=>(bC lo 0 h).map fun l=>.M (h-l) ((cells.drop (l*c)).take ((h-l)*c)) else none
   |.lit (.slice none 0 0)=>(bC hi 0 0).bind fun h=>(bC lo 0 h).map fun _=>.lit (.slice none 0 0)
   |_=>none
def uZ (H:S2)(c n:Nat)(x:S1)(lo hi:Option S1):Option S1 :=
   match x with
   |.Y id gen off =>
    match H.nn id gen with
    |some (_,cells) =>
     if off+n*c<=cells.length then
      (bC hi n n).bind fun h=>(bC lo 0 h).map fun l=>.V id gen (off+l*c) (h-l) c
     else none
    |none=>none
   | .nb cells off=>if off+n*c≤cells.length then
      (bC hi n n).bind fun h=>(bC lo 0 h).map fun l=>.M (h-l) ((cells.drop (off+l*c)).take ((h-l)*c))
     else none
   |_=>none
def u6 (x:S1)(lo hi:Option S1):Option S1 :=
  match x with
  |.lit (.string s)=>(bC hi s.size s.size).bind fun h=>(bC lo 0 h).map fun l=>.lit (.string (s.extract l h))
  |_=>none
def qT (P:Program)(H:S2)(d:Option TypeDesc)(x:S1)(lo hi:Option S1):Option S1 :=
 match d with
 |some (.array n e)=>if (P.underlying e).isSome then uZ H (P.cellsOf e) n x lo hi else none
 |some (.slice e)=>if (P.underlying e).isSome then oO H (P.cellsOf e) x lo hi else none
 |some .string=>u6 x lo hi
 |_=>none
def HG (t:TypeId)(x:S1)(lo hi:Option S1):jr P H t x lo hi=qT P H (P.underlying t) x lo hi:=rfl
def HH (e:TypeId)(x:S1)(lo hi:Option S1):qT P H (some (.slice e)) x lo hi=if (P.underlying e).isSome=true then oO H (P.cellsOf e) x lo hi else none:=rfl
def HI (n:Nat)(e:TypeId)(x:S1)(lo hi:Option S1):qT P H (some (.array n e)) x lo hi=if (P.underlying e).isSome=true then uZ H (P.cellsOf e) n x lo hi else none:=rfl
def HJ (x:S1)(lo hi:Option S1):qT P H (some .string) x lo hi=u6 x lo hi:=rfl
def HK (c id g o n z:Nat)(lo hi:Option S1):oO H c (.V id g o n z) lo hi=if z=c then (H.nn id g).bind fun _=>(bC hi n n).bind fun h=>(bC lo 0 h).map fun l=>.V id g (o+l*z) (h-l) z else none:=rfl
def HL (c n:Nat)(cells:List S1)(lo hi:Option S1):oO H c (.M n cells) lo hi=if cells.length=n*c then (bC hi n n).bind fun h=>(bC lo 0 h).map fun l=>.M (h-l) ((cells.drop (l*c)).take ((h-l)*c)) else none:=rfl
def HM (c:Nat)(lo hi:Option S1):oO H c (.lit (.slice none 0 0)) lo hi=(bC hi 0 0).bind fun h=>(bC lo 0 h).map fun _=>.lit (.slice none 0 0):=rfl
def HN (c n:Nat)(cells:List S1)(off:Nat)(lo hi:Option S1):uZ H c n (.nb cells off) lo hi=if off+n*c<=cells.length then
      (bC hi n n).bind fun h=>(bC lo 0 h).map fun l=>.M (h-l) ((cells.drop (off+l*c)).take ((h-l)*c)) else none:=rfl
def HO (s:ByteArray)(lo hi:Option S1):u6 (.lit (.string s)) lo hi=(bC hi s.size s.size).bind fun h=>(bC lo 0 h).map fun l=>.lit (.string (s.extract l h)):=rfl
def HP (d m:Nat):bC none d m=some d:=rfl
def HQ (k:IntKind)(i:Int)(d m:Nat):bC (some (.lit (.int k i))) d m=if 0<=i/\i<=(m:Int) then some i.toNat else none:=rfl
def HR (sz n:Nat)(l:List S1):bR H sz (.M n l)=if l.length=n*sz then some (n,l) else none:=rfl
def oS (sz id g o n z:Nat):bR H sz (.V id g o n z)=if z=sz then (H.nn id g).map fun x=>(n,(x.2.drop o).take (n*sz)) else none:=rfl
def u7 (sz:Nat):bR H sz (.lit (.slice none 0 0))=some (0,[]):=rfl
def qU (P:Program)(H:S2)(id:Nat)(d0 d1:Option TypeDesc)(s x:S1):Option (S1 × S2) :=
 match d0,d1 with
 | some (.slice e),some (.slice _)=>(bH P e).bind fun _=>(bR H (P.cellsOf e) x).bind fun nx =>
    match s with
    |.lit (.slice none 0 0) =>
     if nx.1=0 then some (s,H)
     else if nx.1*P.bytesOf e<=2 ^ 47/\nx.1<=2 ^ 47 then (H.lay id (.L 0 e nx.2)).map fun H'=>(.V id 0 0 nx.1 (P.cellsOf e),H')
     else none
    |.V id' gen off len sz =>
     (H.nn id' gen).bind fun ec =>
      if ec.1=e/\sz=P.cellsOf e/\off+len*sz=ec.2.length/\(len+nx.1)*P.bytesOf e<=2 ^ 47/\len+nx.1<=2 ^ 47/\nx.2.all S1.one=true then
       if nx.1=0 then some (s,H)
       else some (.V id' (gen+1) 0 (len+nx.1) sz,H.upd id' (.L (gen+1) e (ec.2.drop off++nx.2)))
      else none
    |_=>none
 |_,_=>none
def de (id:Nat)(t u:TypeId)(s x:S1):bf P H id t u s x=qU P H id (P.underlying t) (P.underlying u) s x:=by
 unfold bf qU;cases P.underlying t with
 |none=>rfl
 |some d =>
  cases d with
  |slice e =>
   cases P.underlying u with
   |none=>rfl
   |some d'=>cases d'<;>rfl
  |_=>rfl
def HS (id:Nat)(e u:TypeId)(x:S1):qU P H id (some (.slice e)) (some (.slice u)) (.lit (.slice none 0 0)) x=(bH P e).bind fun _=>(bR H (P.cellsOf e) x).bind fun nx =>
  if nx.1=0 then some (.lit (.slice none 0 0),H) else if nx.1*P.bytesOf e<=2 ^ 47/\nx.1<=2 ^ 47 then (H.lay id (.L 0 e nx.2)).map fun H'=>(.V id 0 0 nx.1 (P.cellsOf e),H') else none:=rfl
def HT (id:Nat)(e u:TypeId)(x:S1)(id' gen off len sz:Nat):qU P H id (some (.slice e)) (some (.slice u)) (.V id' gen off len sz) x=(bH P e).bind fun _=>(bR H (P.cellsOf e) x).bind fun nx =>
  (H.nn id' gen).bind fun ec =>
      if ec.1=e/\sz=P.cellsOf e/\off+len*sz=ec.2.length/\(len+nx.1)*P.bytesOf e<=2 ^ 47/\len+nx.1<=2 ^ 47/\nx.2.all S1.one=true then
       if nx.1=0 then some (.V id' gen off len sz,H)
       else some (.V id' (gen+1) 0 (len+nx.1) sz,H.upd id' (.L (gen+1) e (ec.2.drop off++nx.2)))
      else none:=rfl
def zg (P:Program)(H:S2)(d0:Option TypeDesc)(d x:S1):Option (S1 × S2) :=
 match d0 with
 |some (.slice e) =>
  if (P.underlying e).isSome then
   (bR H (P.cellsOf e) x).bind fun nx =>
    match d with
    |.V id gen off len sz =>
     (H.nn id gen).bind fun ec =>
      if sz=P.cellsOf e/\off+len*sz<=ec.2.length/\nx.2.all S1.one=true then
       some (.lit (.int .i64 (min nx.1 len:Nat)),H.upd id (.L gen ec.1 (setAt ec.2 off (nx.2.take (min nx.1 len*sz)))))
      else none
    |_=>none
  else none
 |_=>none
def HU (t:TypeId)(d x:S1):iQ P H t d x=zg P H (P.underlying t) d x:=rfl
def HV (e:TypeId)(id gen off len sz:Nat)(x:S1):zg P H (some (.slice e)) (.V id gen off len sz) x=if (P.underlying e).isSome=true then
   (bR H (P.cellsOf e) x).bind fun nx=>(H.nn id gen).bind fun ec =>
      if sz=P.cellsOf e/\off+len*sz<=ec.2.length/\nx.2.all S1.one=true then
       some (.lit (.int .i64 (min nx.1 len:Nat)),H.upd id (.L gen ec.1 (setAt ec.2 off (nx.2.take (min nx.1 len*sz)))))
      else none
   else none:=rfl
def u9 (P:Program)(H:S2)(id:Nat)(d:Option TypeDesc)(l c:S1):Option (S1 × S2) :=
 match d,l,c with
 |some (.slice e),.lit (.int _ l),.lit (.int _ c) =>
  if 0<=l/\l<=c/\c*P.bytesOf e<=2 ^ 46/\c<=2 ^ 46 then
   (ij P e l.toNat).bind fun cells=>(H.lay id (.L 0 e cells)).map fun H'=>(.V id 0 0 l.toNat (P.cellsOf e),H')
  else none
 |_,_,_=>none
def HW (id:Nat)(t:TypeId)(l c:S1):gU P H id t l c=u9 P H id (P.underlying t) l c:=by
 unfold gU u9;cases P.underlying t with
 |none=>rfl
 |some d=>rfl
def HX (id:Nat)(e:TypeId)(k k':IntKind)(l c:Int):u9 P H id (some (.slice e)) (.lit (.int k l)) (.lit (.int k' c))=if 0<=l/\l<=c/\c*P.bytesOf e<=2 ^ 46/\c<=2 ^ 46 then
   (ij P e l.toNat).bind fun cells=>(H.lay id (.L 0 e cells)).map fun H'=>(.V id 0 0 l.toNat (P.cellsOf e),H')
  else none:=rfl
def HY (e:TypeId)(n:Nat):ij P e n=(bH P e).map fun z=>(List.replicate n z).flatten:=rfl
def HZ (n:Nat)(v:S1):(List.replicate n [v]).flatten=List.replicate n v:=by
 induction n with
 |zero=>rfl
 |succ n ih=>rw[QT,List.flatten_cons,ih,QT];rfl
def zh (P:Program)(H:S2)(id:Nat)(d:Option TypeDesc)(len:Nat)(parts:List (Nat × S1)):Option (S1 × S2) :=
 match d with
 |some (.slice e) =>
  if len*P.cellsOf e<=2 ^ 24 then
   (ij P e len).bind fun z=>(dP (fun i=>some (i*P.cellsOf e,P.cellsOf e)) z parts).bind fun cells =>
    (H.lay id (.L 0 e cells)).map fun H'=>(.V id 0 0 len (P.cellsOf e),H')
  else none
 |_=>none
def H8 (id:Nat)(t:TypeId)(len:Nat)(parts:List (Nat × S1)):il P H id t len parts=zh P H id (P.underlying t) len parts:=rfl
def Ia (id:Nat)(e:TypeId)(len:Nat)(parts:List (Nat × S1)):zh P H id (some (.slice e)) len parts=if len*P.cellsOf e<=2 ^ 24 then
   (ij P e len).bind fun z=>(dP (fun i=>some (i*P.cellsOf e,P.cellsOf e)) z parts).bind fun cells =>
    (H.lay id (.L 0 e cells)).map fun H'=>(.V id 0 0 len (P.cellsOf e),H')
  else none:=rfl
def va (P:Program)(t:TypeId)(d:Option TypeDesc)(parts:List (Nat × S1)):Option S1 :=
 (bH P t).bind fun z =>
  match d with
  |some (.struct _)=>(ik P t).bind fun pl=>(dP (fun i=>pl[i]?) z parts).map .agg
  |some (.array _ e)=>if (P.underlying e).isSome then (dP (fun i=>some (i*P.cellsOf e,P.cellsOf e)) z parts).map .agg else none
  |_=>none
def Ib (t:TypeId)(parts:List (Nat × S1)):mj P t parts=va P t (P.underlying t) parts:=rfl
def Ic (t:TypeId)(fs:Array Field)(parts:List (Nat × S1)):va P t (some (.struct fs)) parts=(bH P t).bind fun z=>(ik P t).bind fun pl=>(dP (fun i=>pl[i]?) z parts).map .agg:=rfl
def Ie (t:TypeId)(n:Nat)(e:TypeId)(parts:List (Nat × S1)):va P t (some (.array n e)) parts=(bH P t).bind fun z=>if (P.underlying e).isSome=true then (dP (fun i=>some (i*P.cellsOf e,P.cellsOf e)) z parts).map .agg else none:=rfl
def If (pl:Nat->Option (Nat × Nat))(cells:List S1):dP pl cells []=some cells:=rfl
def Ig (pl:Nat->Option (Nat × Nat))(cells:List S1)(i:Nat)(v:S1)(rest:List (Nat × S1)):dP pl cells ((i,v) :: rest)=(pl i).bind fun os =>
  if v.cells.length=os.2/\os.1+v.cells.length<=cells.length then dP pl (setAt cells os.1 v.cells) rest else none:=by
 simp only[dP];cases pl i<;>rfl
def Ih (k:IntKind)(n:Int):(S1.lit (.int k n)).cells=[.lit (.int k n)]:=rfl
def Ii (b:Bool):(S1.lit (.bool b)).cells=[.lit (.bool b)]:=rfl
def Ij (s:ByteArray):(S1.lit (.string s)).cells=[.lit (.string s)]:=rfl
def Ik (a:Option Addr)(n c:Nat):(S1.lit (.slice a n c)).cells=[.lit (.slice a n c)]:=rfl
def Il (l:List S1):(S1.agg l).cells=l:=rfl
def Im (n:Nat)(l:List S1):(S1.M n l).cells=[.M n l]:=rfl
def Io (a b c d e:Nat):(S1.V a b c d e).cells=[.V a b c d e]:=rfl
def Ip (a b c:Nat):(S1.Y a b c).cells=[.Y a b c]:=rfl
def Iq (k:IntKind)(n:Int):(S1.lit (.int k n)).one=true:=rfl
def Ir (b:Bool):(S1.lit (.bool b)).one=true:=rfl
def Is (s:ByteArray):(S1.lit (.string s)).one=true:=rfl
def It (a:Option Addr)(n c:Nat):(S1.lit (.slice a n c)).one=true:=rfl
def Iu (n:Nat)(l:List S1):(S1.M n l).one=true:=rfl
def Iv (a b c d e:Nat):(S1.V a b c d e).one=true:=rfl
def Iw (a b c:Nat):(S1.Y a b c).one=true:=rfl
def aa (n:Int):S1:=.lit (.int .i64 n)
def ints (l:List Int):List S1:=l.map aa
def af (l:List Int):S1:=.M l.length (ints l)
def aY (l:List Int):(ints l).length=l.length:=PR ..
def fS (l:List Int)(i:Nat):(ints l)[i]?=(l[i]?).map aa:=List.getElem?_map ..
def uT (l:List Int):ints l=[]↔l=[]:=List.map_eq_nil_iff
end Go.Hx
namespace Go.Hx
variable {P:Program} {G:Nat->Option (List S1)} {Γ Γ':aq} {H H':S2} {w w':World}
variable {id nx:Nat}{S:Nat->Prop}{v v':S1}{K:S8->S2->Prop}
inductive Below (n:Nat):S1->Prop
 |lit (v:Value):Below n (.lit v)
 |M {len:Nat} {cells:List S1} (h:∀i (h:i<cells.length),Below n cells[i]):Below n (.M len cells)
 |nb {off:Nat} {cells:List S1} (h:∀i (h:i<cells.length),Below n cells[i]):Below n (.nb cells off)
 |agg {cells:List S1} (h:∀i (h:i<cells.length),Below n cells[i]):Below n (.agg cells)
 |nc {cells:List S1} (h:∀i (h:i<cells.length),Below n cells[i]):Below n (.nc cells)
 |nl {f:FuncId} {a b:List S1} (h1:∀i (h:i<a.length),Below n a[i]) (h2:∀i (h:i<b.length),Below n b[i]):Below n (.nl f a b)
 |V {id g o l z:Nat} (h:id<n):Below n (.V id g o l z)
 |Y {id g o:Nat} (h:id<n):Below n (.Y id g o)
 |ng {id:Nat} (h:id<n):Below n (.ng id)
def S4.mK {cv:Value}(h:S4 P Γ H w v cv):Below H.C v:=by
 induction h with
 |lit v=>exact .lit v
 |nj a cap=>exact .M fun i h=>absurd h (PS _)
 |M hb hlt hlen hcs hcell hrel ih=>exact .M fun i h=>ih i h (U)
 |V h=>exact .V h.1
 |Y h=>exact .Y h.1
 |nb hb hlt hcs hcell hrel ih=>exact .nb fun i h=>ih i h (U)
 |agg hcs hrel ih=>exact .agg fun i h=>ih i h (U)
 |nc hcs hrel ih=>exact .nc fun i h=>ih i h (U)
 |nl hfs hcs hf hc ih1 ih2=>exact .nl (fun i h=>ih1 i h U) fun i h=>ih2 i h (U)
 |ng h=>exact .ng h.1
def GO (n:Nat):S7->Prop
 |.L _ _ cells=>∀i (h:i<cells.length),Below n cells[i]
 |.loop _ _ m env _ _ _=>∀t,t<m->Below n (env t)
 |.mp _=>True
 |.ni=>True
structure TI (H:S2):Prop where
 lt:∀id b,H.get id=some b->id<H.C
 below:∀id b,H.get id=some b->GO H.C b
theorem S9.nl (R:S9 P G Γ H w):TI H:=by
 refine⟨fun id b h=>R.C id b h,fun id b h=>?_⟩;cases b with
 |ni=>trivial
 |mp=>trivial
 |L g e cells =>
  intro i hi;have h1:=R.L id g e cells h;split at h1
  ·obtain⟨c,_,_,_,h5⟩:=h1;obtain⟨cv,_,h6⟩:=h5 i hi;exact h6.mK
  ·subst h1;exact absurd hi (PS _)
 |loop st pend n env ps asg body =>
  intro t ht;obtain⟨b,r,_,_,_,_,_,_,_,h8,h9⟩:=R.loop id st pend n env ps asg body h;exact(h9 t U).mK
inductive Fz (S:Nat->Prop)(H:S2)(nx:Nat):S1->S1->Prop
 |lit (v:Value):Fz S H nx (.lit v) (.lit v)
 |M {len:Nat} {c c':List S1} (hl:c'.length=c.length) (h:∀i (h:i<c.length) (h':i<c'.length),Fz S H nx c[i] c'[i]):Fz S H nx (.M len c) (.M len c')
 |nb {off:Nat} {c c':List S1} (hl:c'.length=c.length) (h:∀i (h:i<c.length) (h':i<c'.length),Fz S H nx c[i] c'[i]):Fz S H nx (.nb c off) (.nb c' off)
 |agg {c c':List S1} (hl:c'.length=c.length) (h:∀i (h:i<c.length) (h':i<c'.length),Fz S H nx c[i] c'[i]):Fz S H nx (.agg c) (.agg c')
 |nc {c c':List S1} (hl:c'.length=c.length) (h:∀i (h:i<c.length) (h':i<c'.length),Fz S H nx c[i] c'[i]):Fz S H nx (.nc c) (.nc c')
 |nl {f:FuncId} {a a' b b':List S1} (ha:a'.length=a.length) (hb:b'.length=b.length) (h1:∀i (h:i<a.length) (h':i<a'.length),Fz S H nx a[i] a'[i]) (h2:∀i (h:i<b.length) (h':i<b'.length),Fz S H nx b[i] b'[i]):Fz S H nx (.nl f a b) (.nl f a' b')
 |V {id g o l z:Nat} (h:id<nx) (hs:¬S id):Fz S H nx (.V id g o l z) (.V id g o l z)
 |Y {id g o:Nat} (h:id<nx) (hs:¬S id):Fz S H nx (.Y id g o) (.Y id g o)
 |ng {id:Nat} (h:id<nx) (hs:¬S id):Fz S H nx (.ng id) (.ng id)
 |deadOwn {id g o l z:Nat} (h:id<nx) (hs:S id):Fz S H nx (.V id g o l z) (.V id g o l z)
 |deadPtr {id g o:Nat} (h:id<nx) (hs:S id):Fz S H nx (.Y id g o) (.Y id g o)
 |deadYld {id:Nat} (h:id<nx) (hs:S id):Fz S H nx (.ng id) (.ng id)
 |nil:Fz S H nx (.lit (.slice none 0 0)) (.M 0 [])
 |np {id g o l z:Nat} {e:TypeId} {cells c':List S1} (hs:S id) (hg:H.get id=some (.L g e cells)) (hl:c'.length=l*z)
   (h:∀i (h:i<l*z) (h2:o+i<cells.length) (h':i<c'.length),Fz S H nx cells[o+i] c'[i]):Fz S H nx (.V id g o l z) (.M l c')
 |pfrz {id g o:Nat} {e:TypeId} {cells c':List S1} (hs:S id) (hg:H.get id=some (.L g e cells)) (hne:cells≠[]) (hl:c'.length=cells.length)
   (h:∀i (h:i<cells.length) (h':i<c'.length),Fz S H nx cells[i] c'[i]):Fz S H nx (.Y id g o) (.nb c' o)
def Fz.refl {H:S2}(h:Below nx v)(hs:∀id,id<nx->¬S id):Fz S H nx v v:=by
 induction h with
 |lit v=>exact .lit v
 |M _ ih=>exact .M rfl fun i h _=>ih i h
 |nb _ ih=>exact .nb rfl fun i h _=>ih i h
 |agg _ ih=>exact .agg rfl fun i h _=>ih i h
 |nc _ ih=>exact .nc rfl fun i h _=>ih i h
 |nl _ _ ih1 ih2=>exact .nl rfl rfl (fun i h _=>ih1 i h) fun i h _=>ih2 i h
 |V h=>exact .V h (hs _ h)
 |Y h=>exact .Y h (hs _ h)
 |ng h=>exact .ng h (hs _ h)
def zb (S:Nat->Prop)(H:S2)(nx:Nat):S7->S7->Prop
 |.L g e c,.L g' e' c'=>g'=g/\e'=e/\c'.length=c.length/\∀i (_:i<c.length) (_:i<c'.length),Fz S H nx c[i] c'[i]
 |.loop st pend n env ps asg body,.loop st' pend' n' env' ps' asg' body'=>st'=st/\pend'=pend/\n'=n/\env'=env/\ps'=ps/\asg'=asg/\body'=body/\∀t,t<n->Fz S H nx (env t) (env t)
 |.mp es,.mp es'=>es'=es
 |.ni,.ni=>True
 |_,_=>False
structure TC (S:Nat->Prop)(H H':S2):Prop where
 gone:∀id,S id->H'.get id=none
 kept:∀id b,¬S id->H.get id=some b->id<H'.C/\∃b',H'.get id=some b'/\zb S H H'.C b b'
 none:∀id,¬S id->H.get id=none->H'.get id=none
open Classical in
noncomputable def cY (S:Nat->Prop)(Γ:aq):aq:=fun id=>if S id then none else Γ id
def gp (h:¬S id):cY S Γ id=Γ id:=by simp[cY,h]
def gY {x:Nat × Nat × Nat}(h:cY S Γ id=some x):¬S id/\Γ id=some x:=by
 unfold cY at h;split at h
 ·cases h
 ·exact⟨by assumption,h⟩
def qO {b:Nat}(h:(cY S Γ).da b):Γ.da b:=by
 obtain⟨id,base,n,h⟩:=h;exact⟨id,base,n,(gY h).2⟩
def TC.back (F:TC S H H'){b':S7}(h:H'.get id=some b'):¬S id/\∃b,H.get id=some b/\zb S H H'.C b b'/\id<H'.C:=by
 have hs:¬S id:=fun hs=>by rw[F.gone id hs]at h;cases h
 refine⟨hs,?_⟩;cases hg:H.get id with
 |none=>rw[F.none id hs hg]at h;cases h
 |some b =>
  obtain⟨h1,b1,h2,h3⟩:=F.kept id b hs hg;rw[h]at h2;cases h2;exact⟨b,rfl,h3,h1⟩
def Fz.sound (R:S9 P G Γ H w)(F:TC S H H')(hf:Fz S H H'.C v v'):∀ {cv:Value},S4 P Γ H w v cv->S4 P (cY S Γ) H' w v' cv:=by
 induction hf with
 |lit v=>intro cv h;cases h;exact .lit _
 |nil=>intro cv h;cases h;exact .nj none 0
 |deadOwn hlt hs =>
  intro cv h;cases h with
  |V h=>exact .V ⟨hlt,h.2.1,fun hr=>(by rw[F.gone _ hs]at hr;cases hr),fun _ _ _ hg=>(by rw[F.gone _ hs]at hg;cases hg)⟩
 |deadPtr hlt hs =>
  intro cv h;cases h with
  |Y h=>exact .Y ⟨hlt,h.2.1,fun hr=>(by rw[F.gone _ hs]at hr;cases hr),fun _ _ _ hg=>(by rw[F.gone _ hs]at hg;cases hg)⟩
 |deadYld hlt hs =>
  intro cv h;cases h with
  |ng h=>exact .ng ⟨hlt,h.2.1,fun hr=>(by rw[F.gone _ hs]at hr;cases hr),fun _ _ _ _ _ _ _ hg=>(by rw[F.gone _ hs]at hg;cases hg),fun _ hg=>(by rw[F.gone _ hs]at hg;cases hg)⟩
 |M hl hc ih =>
  intro cv h;cases h with
  |nj a cap =>
   rename_i c';have:c'=[]:=PH hl;subst this;exact .nj a cap
  |M hb hlt hlen hcs hcell hrel=>exact .M (fun h=>hb (qO h)) hlt hlen U hcell fun i h1 h2=>ih i U h1 (hrel i U h2)
 |nb hl hc ih =>
  intro cv h;cases h with
  |nb hb hlt hcs hcell hrel=>exact .nb (fun h=>hb (qO h)) hlt U hcell fun i h1 h2=>ih i U h1 (hrel i U h2)
 |agg hl hc ih =>
  intro cv h;cases h with
  |agg hcs hrel=>exact .agg U fun i h1 h2=>ih i U h1 (hrel i U h2)
 |nc hl hc ih =>
  intro cv h;cases h with
  |nc hcs hrel=>exact .nc U fun i h1 h2=>ih i U h1 (hrel i U h2)
 |nl ha hb h1 h2 ih1 ih2 =>
  intro cv h;cases h with
  |nl hfs hcs hf hc=>exact .nl U U (fun i a b=>ih1 i U a (hf i U b)) fun i a b=>ih2 i U a (hc i U b)
 |V hlt hs =>
  intro cv h;cases h with
  |V h =>
   obtain⟨h1,h2,h0,h3⟩:=h;refine .V ⟨hlt,h2,fun hr=>?_,fun g' e' cells' hg'=>?_⟩
   ·obtain⟨_,b,hb,hfb,_⟩:=F.back hr;cases b with
    |ni=>exact h0 hb
    |_=>exact hfb.elim
   ·obtain⟨_,b,hb,hfb,_⟩:=F.back hg';cases b with
    |L g e cells =>
     obtain⟨rfl,rfl,hlen,_⟩:=hfb;have:=h3 _ _ _ hb;rw[gp hs,hlen];exact this
    |_=>exact hfb.elim
 |Y hlt hs =>
  intro cv h;cases h with
  |Y h =>
   obtain⟨h1,h2,h0,h3⟩:=h;refine .Y ⟨hlt,h2,fun hr=>?_,fun g' e' cells' hg'=>?_⟩
   ·obtain⟨_,b,hb,hfb,_⟩:=F.back hr;cases b with
    |ni=>exact h0 hb
    |_=>exact hfb.elim
   ·obtain⟨_,b,hb,hfb,_⟩:=F.back hg';cases b with
    |L g e cells =>
     obtain⟨rfl,rfl,hlen,_⟩:=hfb;have:=h3 _ _ _ hb;rw[gp hs];exact this
    |_=>exact hfb.elim
 |ng hlt hs =>
  intro cv h;cases h with
  |ng h =>
   obtain⟨h1,h2,h0,h3,h4⟩:=h;refine .ng ⟨hlt,h2,fun hr=>?_,fun st pend n env ps asg body hg'=>?_,fun es hg'=>?_⟩
   ·obtain⟨_,b,hb,hfb,_⟩:=F.back hr;cases b with
    |ni=>exact h0 hb
    |_=>exact hfb.elim
   ·obtain⟨_,b,hb,hfb,_⟩:=F.back hg';cases b with
    |loop st0 pend0 n0 env0 ps0 asg0 body0 =>
     have:=h3 _ _ _ _ _ _ _ hb;rw[gp hs];exact this
    |_=>exact hfb.elim
   ·obtain⟨_,b,hb,hfb,_⟩:=F.back hg';cases b with
    |mp es0 =>
     have:=h4 _ hb;rw[gp hs];exact this
    |_=>exact hfb.elim
 | @np id g o l z e cells c' hs hg hl hc ih =>
  intro cv h;cases h with
  |V h =>
   obtain⟨h1,h2,h0,h3⟩:=h;have h4:=(h3 _ _ _ hg).2 rfl;have harr:=R.L id g e cells hg;cases hΓ:Γ id with
   |none =>
    rw[hΓ]at h4;obtain⟨rfl,rfl,rfl⟩:=h4;have:c'=[]:=PH (by simpa using hl);subst this;exact .nj _ _
   |some y =>
    obtain⟨b,base,n⟩:=y;rw[hΓ]at h4 harr;obtain⟨a,cap,rfl,hcap,hoff,hor⟩:=h4;obtain⟨c,a1,a2,a3,a4⟩:=harr;rcases hor with ⟨rfl,hn⟩|⟨rfl,rfl⟩
    ·have hcell:∀i,i<l*z->∃cv,c[base+(o+i)]?=some cv/\∀(h:o+i<cells.length),S4 P Γ H w cells[o+i] cv:=fun i hi=>by
      obtain⟨cv,b1,b2⟩:=a4 (o+i) U;exact⟨cv,b1,fun _=>b2⟩
     let cs:List Value:=(List.range (l*z)).map fun i=>(c[base+(o+i)]?).getD undef
     have hcs:cs.length=c'.length:=(by simp[cs,hl]);refine .M (cs:=cs) (fun ho=>?_) (R.lt _ _ _ _ hΓ) hcap hcs (fun i hi=>?_) fun i hi hi'=>?_
     ·obtain⟨id',base',n',h'⟩:=ho;obtain⟨hns,h''⟩:=gY h';have:=R.inj _ _ _ _ _ _ _ h'' hΓ;subst this;exact hns hs
     ·have hi2:i<l*z:=(by rw[hcs,hl]at hi;exact hi);obtain⟨cv,b1,_⟩:=hcell i hi2;have:cs[i]=cv:=(by simp[cs,b1]);rw[this];have he:base+o+i=base+(o+i):=U;simp only[World.cell?,a1,he];exact b1
     ·have hi2:i<l*z:=(by rw[hl]at hi;exact hi);obtain⟨cv,b1,b2⟩:=hcell i hi2;have:cs[i]=cv:=(by simp[cs,b1]);rw[this];exact ih i hi2 U hi (b2 U)
    ·have:c'=[]:=PH (by simpa using hl);subst this;exact .nj _ _
 | @pfrz id g o e cells c' hs hg hne hl hc ih =>
  intro cv h;cases h with
  |Y h =>
   obtain⟨h1,h2,h0,h3⟩:=h;obtain⟨b,base,n,hΓ,rfl⟩:=(h3 _ _ _ hg).2 rfl;have harr:=R.L id g e cells hg;rw[hΓ]at harr;obtain⟨c,a1,a2,a3,a4⟩:=harr
   let cs:List Value:=(List.range cells.length).map fun i=>(c[base+i]?).getD undef
   have hcs:cs.length=c'.length:=(by simp[cs,hl]);have hcell:∀i (hi:i<cells.length) (hi':i<cs.length),c[base+i]?=some cs[i]/\S4 P Γ H w cells[i] cs[i]:=fun i hi hi'=>by
    obtain⟨cv,b1,b2⟩:=a4 i hi;have:cs[i]=cv:=(by simp[cs,b1]);rw[this];exact⟨b1,b2⟩
   refine .nb (cs:=cs) (fun ho=>?_) (R.lt _ _ _ _ hΓ) hcs (fun i hi=>?_) fun i hi hi'=>?_
   ·obtain⟨id',base',n',h'⟩:=ho;obtain⟨hns,h''⟩:=gY h';have:=R.inj _ _ _ _ _ _ _ h'' hΓ;subst this;exact hns hs
   ·simp only[World.cell?,a1];exact(hcell i U hi).1
   ·exact ih i U hi (hcell i U hi').2
def Fz.plain {H:S2}(h:Below 0 v):Fz S H nx v v:=by
 induction h with
 |lit v=>exact .lit v
 |M _ ih=>exact .M rfl fun i h _=>ih i h
 |nb _ ih=>exact .nb rfl fun i h _=>ih i h
 |agg _ ih=>exact .agg rfl fun i h _=>ih i h
 |nc _ ih=>exact .nc rfl fun i h _=>ih i h
 |nl _ _ ih1 ih2=>exact .nl rfl rfl (fun i h _=>ih1 i h) fun i h _=>ih2 i h
 |V h=>exact absurd h (PS _)
 |Y h=>exact absurd h (PS _)
 |ng h=>exact absurd h (PS _)
theorem Fz.ints {H:S2}{g o:Nat}{e:TypeId}{cells:List S1}{x:List Int}{n:Nat}(hs:S id)(hg:H.get id=some (.L g e cells))(hn:n=x.length)(hx:∀i (h:i<x.length),cells[o+i]?=some (aa x[i])):
  Fz S H nx (.V id g o n 1) (af x):=by
 subst hn;refine .np hs hg (by simp[Go.Hx.ints]) fun i hi h2 h'=>?_;have h1:=hx i U;rw[PB h2]at h1;rw[Option.some.inj h1];have:(Go.Hx.ints x)[i]=aa x[i]:=by simp[Go.Hx.ints]
 rw[this];exact .lit _
def Fz.uT {H:S2}:Fz S H nx (.lit (.slice none 0 0)) (af []):=.nil
def Fz.cO {H:S2}(x:List Int):Fz S H nx (af x) (af x) :=
 .plain (.M fun i h=>by simp only[Go.Hx.ints,PK];exact .lit _)
def jD (x:List Int):(Go.Hx.ints x).all S1.one=true:=by simp[Go.Hx.ints,aa,S1.one,Value.oneCell]
def dG (G:Nat->Option (List S1)):Prop:=∀g cells,G g=some cells->Below 0 (.nb cells 0)
def TC.aV (F:TC S H H'):Ta Γ H w (cY S Γ) H' w where
 os:=rfl
 tape:=rfl
 output:=rfl
 size:=S0
 na:=fun _ _ h=>⟨rfl,fun h'=>h (qO h')⟩
 nn:=fun id _ _ x' hx=>by
  obtain⟨hs,b,hb,hfb,_⟩:=F.back hx;refine⟨b,hb,?_⟩;cases b<;>cases x'<;>first|exact hfb.elim|skip
  ·obtain⟨rfl,rfl,hl,_⟩:=hfb;exact⟨S0,fun _=>⟨gp hs,rfl,hl⟩⟩
  ·obtain⟨rfl,rfl,rfl,rfl,rfl,rfl,rfl,_⟩:=hfb;exact⟨gp hs,rfl,rfl,rfl,rfl,rfl⟩
  ·exact gp hs
  ·trivial
 np:=fun _ _=>rfl
 kind:=.refl _
 newb:=fun _ _ x y h _=>⟨x,y,(gY h).2⟩
def TC.rel (hG:dG G)(R:S9 P G Γ H w)(F:TC S H H'):S9 P G (cY S Γ) H' w where
 L id g e cells hg:=by
  obtain⟨hs,b,hb,hfb,_⟩:=F.back hg;cases b with
  |L g0 e0 c0 =>
   obtain⟨rfl,rfl,hl,hc⟩:=hfb;have h1:=R.L _ _ _ _ hb;rw[gp hs];cases hΓ:Γ id with
   |none =>
    rw[hΓ]at h1;simp only at h1 ⊢;subst h1;exact PH hl
   |some y =>
    obtain⟨b,base,n⟩:=y;rw[hΓ]at h1;obtain⟨c,a1,a2,a3,a4⟩:=h1;refine⟨c,a1,a2,U,fun i hi=>?_⟩;obtain⟨cv,b1,b2⟩:=a4 i U;exact⟨cv,b1,(hc i U hi).sound R F b2⟩
  |_=>exact hfb.elim
 loop id st pend n env ps asg body hg:=by
  obtain⟨hs,b,hb,hfb,_⟩:=F.back hg;cases b with
  |loop =>
   obtain⟨rfl,rfl,rfl,rfl,rfl,rfl,rfl,hf⟩:=hfb;obtain⟨b,rr,a1,a2,a3,a4,a5,a6,a7,a8,a9⟩:=R.loop _ _ _ _ _ _ _ _ hb;exact⟨b,rr,by rw[gp hs];exact a1,a2,a3,a4,a5,a6,a7,a8,fun t ht=>(hf t U).sound R F (a9 t ht)⟩
  |_=>exact hfb.elim
 mp id es hg:=by
  obtain⟨hs,b,hb,hfb,_⟩:=F.back hg;cases b with
  |mp es0 =>
   have hfb':es=es0:=hfb;subst hfb';obtain⟨b,a1,a2⟩:=R.mp _ _ hb;exact⟨b,by rw[gp hs];exact a1,a2⟩
  |_=>exact hfb.elim
 ni id hg:=by
  obtain⟨hs,b,hb,hfb,_⟩:=F.back hg;cases b with
  |ni=>rw[gp hs];exact R.ni id hb
  |_=>exact hfb.elim
 inj id id' b base n base' n' h h':=R.inj id id' b base n base' n' (gY h).2 (gY h').2
 nv id x h:=by
  obtain⟨hs,h⟩:=gY h;obtain⟨y,hy⟩:=R.nv id x h;obtain⟨_,b',hb',_⟩:=F.kept id y hs hy;exact⟨b',hb'⟩
 lt id b base n h:=R.lt id b base n (gY h).2
 C id y h:=by
  obtain⟨_,_,_,_,h⟩:=F.back h;exact h
 nr g cells h:=(Fz.plain (hG g cells h)).sound R F (R.nr g cells h)
 gsz:=R.gsz
def ke.freeze (hG:dG G)(F:TC S H H')(hv:Fz S H H'.C v v'):ke P G H v H' v' :=
 fun Γ _ R=>⟨cY S Γ,F.rel hG R,F.aV,fun _ h=>hv.sound R F h⟩
def bY.freeze (hG:dG G){s s':St}(F:TC S s.H s'.H)(hv:∀t,Fz S s.H s'.H.C (s.ρ t) (s'.ρ t)):bY P G s s':=by
 intro n wb Γ a w hs;have E:Ta Γ s.H w (cY S Γ) s'.H w:=F.aV;refine⟨cY S Γ,⟨hs.size,fun t=>(hv t).sound hs.heap F (hs.env t),F.rel hG hs.heap,hs.defers.aV E,hs.low⟩,E,fun rd rb hr hri=>?_⟩;cases rd with
 |none=>exact hr
 |some id =>
  obtain⟨b,st,pend,n,env,ps,asg,body,h1,h2,h3⟩:=hr;obtain⟨st',pend',n',env',ps',asg',body',h4⟩:=hri;obtain⟨hns,_⟩:=F.back h4;exact⟨b,_,_,_,_,_,_,_,h1,by rw[gp hns];exact h2,h4⟩
def GP (hc:TI H)(L:List S7):TC (fun id=>H.C<=id) (ext H L) H where
 gone id hs:=by
  cases h:H.get id with
  |none=>rfl
  |some b=>have:=hc.lt id b h;omega
 kept id b hs hb:=by
  have hlt:id<H.C:=Rz hs;rw[eG H L id hlt]at hb;have hbb:=hc.below id b hb;refine⟨hlt,b,hb,?_⟩;have hno:∀i,i<H.C->¬H.C<=i:=fun i h=>Nat.not_le_of_lt h;cases b with
  |ni=>trivial
  |mp=>rfl
  |L g e cells=>exact⟨rfl,rfl,rfl,fun i h _=>.refl (hbb i h) hno⟩
  |loop st pend n env ps asg body=>exact⟨rfl,rfl,rfl,rfl,rfl,rfl,rfl,fun t ht=>.refl (hbb t ht) hno⟩
 none id hs hb:=by
  rw[eG H L id (Rz hs)]at hb;exact hb
def av.drop (hG:dG G)(hc:TI H){L:List S7}(hv:Fz (fun id=>H.C<=id) (ext H L) H.C v v')(hk:K (.ret v') H):av P G H K v (ext H L) :=
 ⟨v',H,.freeze hG (GP hc L) hv,S0,hk⟩
def av.GQ (hG:dG G)(hc:TI H)(hv:Fz (fun id=>H.C<=id) (ext H []) H.C v v')(hk:K (.ret v') H):av P G H K v H:=by
 have:=av.drop (P:=P) hG hc hv hk;rw[ext_nil]at this;exact this
theorem ae.nl {f : FuncId} {args : List S1} {K : S8 → S2 → Prop} (hf : ∃ fn, P.funcs[f]? = some fn ∧ fn.body.isNone = false ∧ (fn.name == "runtime.NumGoroutine") = false) (h : TI H → ae P G f args H K) : ae P G f args H K :=
 ⟨hf,fun Γ w cargs R hr=>(h R.nl).2 Γ w cargs R hr⟩
end Go.Hx
namespace Go.Hx
variable {P:Program} {G:Nat->Option (List S1)} {Γ Γ':aq} {H H':S2} {w w':World}
variable {r:Loop}{b:Nat}{pend:Option Code}{x:Option S7}
def qQ (R:S9 P G Γ H w){id:Nat}{st:LoopState}{n:Nat}{env:Env}{ps:Array Tmp}{asg body:Code}(hg:H.get id=some (.loop st pend n env ps asg body)):
    ∃b r,Γ id=some (b,0,0)/\w.heap[b]?=some (.loop r)/\r.state=st/\r.pending=pend/\r.params=ps/\r.assign=asg/\r.body=body/\r.tmps.size=n/\(∀t (h:t<r.tmps.size),S4 P Γ H w (env t) r.tmps[t]) /\
      ∀st' pend',S9 P G Γ (H.upd id (.loop st' pend' n env ps asg body)) (bq w b (.loop { r with state:=st',pending:=pend' })) /\
        Ta Γ H w Γ (H.upd id (.loop st' pend' n env ps asg body)) (bq w b (.loop { r with state:=st',pending:=pend' })):=by
  obtain⟨b,r,hΓ,hb,h1,h2,h3,h4,h5,h6,h7⟩:=R.loop id st pend n env ps asg body hg;refine⟨b,r,hΓ,hb,h1,h2,h3,h4,h5,h6,h7,fun st' pend'=>?_⟩;have hlt:=R.lt id b 0 0 hΓ;have E:Ta Γ H w Γ (H.upd id (.loop st' pend' n env ps asg body)) (bq w b (.loop { r with state:=st',pending:=pend' })) :=
    { os:=rfl,tape:=rfl,output:=rfl
      size:=by rw[gS];exact Nat.le_refl _
      na:=fun c hc ho=>⟨by
        rw[db,PC];rintro⟨rfl,_⟩;exact ho ⟨id,0,0,hΓ⟩,ho⟩
      nn:=fun i hi _ x' hx=>by
        rw[ab]at hx;split at hx
        · rename_i hii;subst hii;simp only[Option.some.injEq]at hx;subst hx;exact⟨_,hg,rfl,rfl,rfl,rfl,rfl,rfl⟩
        · exact⟨x',hx,S7.le_refl _ _ _⟩
      np:=fun a _=>nU hb (fun _ _ _ h=>by cases h) (fun _ _ _ h=>by cases h) a
      kind:=tT hb fun _ _ _ h=>by cases h
      newb:=.refl _ _ }
  refine⟨?_,E⟩;have hne:∀i b' base n',Γ i=some (b',base,n')->i≠id->b'≠b:=fun i b' base n' hi hii hbb=>by
    subst hbb;exact hii (R.inj _ _ _ _ _ _ _ hi hΓ)
  exact
    { L:=fun i g e cells hgi=>by
        rw[ab]at hgi;split at hgi
        · simp at hgi
        · rename_i hii;have h:=R.L i g e cells hgi;cases hi:Γ i with
          |none=>rw[hi]at h;exact h
          |some y =>
            obtain⟨b',base,n'⟩:=y;rw[hi]at h;obtain⟨c,a1,a2,a3,a4⟩:=h;refine⟨c,?_,a2,a3,fun j hj=>let ⟨cv,b1,b2⟩:=a4 j hj;⟨cv,b1,b2.aV E S0⟩⟩;rw[db,PC]
            · exact a1
            · rintro⟨h,_⟩;exact hne i b' base n' hi hii h
      loop:=fun i st2 pend2 n2 env2 ps2 asg2 body2 hgi=>by
        rw[ab]at hgi;split at hgi
        · rename_i hii;subst hii;simp only[Option.some.injEq,S7.loop.injEq]at hgi;obtain⟨rfl,rfl,rfl,rfl,rfl,rfl,rfl⟩:=hgi;refine⟨b,{ r with state:=st',pending:=pend' },hΓ,by rw[db,PG ⟨rfl,hlt⟩],rfl,rfl,h3,h4,h5,h6,fun t ht=>(h7 t ht).aV E S0⟩
        · rename_i hii;obtain⟨b2,r2,a1,a2,a3,a4,a5,a6,a7,a8,a9⟩:=R.loop i _ _ _ _ _ _ _ hgi;refine⟨b2,r2,a1,?_,a3,a4,a5,a6,a7,a8,fun t ht=>(a9 t ht).aV E S0⟩;rw[db,PC]
          · exact a2
          · rintro⟨h,_⟩;exact hne i b2 0 0 a1 hii h
      mp:=fun i es hgi=>by
        rw[ab]at hgi;split at hgi
        · simp at hgi
        · rename_i hii;obtain⟨b2,a1,a2⟩:=R.mp i _ hgi;refine⟨b2,a1,?_⟩;rw[db,PC]
          · exact a2
          · rintro⟨h,_⟩;exact hne i b2 0 0 a1 hii h
      ni:=fun i hgi=>by
        rw[ab]at hgi;split at hgi
        · simp at hgi
        · exact R.ni i hgi
      inj:=R.inj
      nv:=fun i x hi=>by
        obtain⟨y,hy⟩:=R.nv i x hi;rw[ab];split
        · exact⟨_,rfl⟩
        · exact⟨y,hy⟩
      lt:=fun i b' base n' hi=>by rw[gS];exact R.lt i b' base n' hi
      C:=fun i y hy=>by
        rw[ab]at hy;split at hy
        · rename_i hii;subst hii;exact R.C _ _ hg
        · exact R.C i y hy
      nr:=fun g cells h=>(R.nr g cells h).aV E (Nat.le_refl _)
      gsz:=R.kZ E }
def oI (h:w.heap[b]?=some (.loop r)):(Instr.getLoop b).run P w=.ok r w:=by
  have hg:(getObj b).run P w=.ok (.loop r) w:=by simp[getObj,Sem.run,h]
  unfold Instr.getLoop;rw[ak hg];rfl
def uU {o':Obj}(h:w.heap[b]?=some (.loop r)):(setObj b o').run P w=.ok () (bq w b o'):=by
  simp[setObj,Sem.run,h,bq]
def GR (h:w.heap[b]?=some (.loop r))(hs:r.state=.ready):(Instr.beginRound b).run P w=.ok () (bq w b (.loop { r with state:=.busy,pending:=r.pending })):=by
  unfold Instr.beginRound;rw[ak (oI h),ak (uU h)];simp only[hs];rfl
def GS (h:w.heap[b]?=some (.loop r))(j:Option Code):
    (Instr.endRound b j).run P w=.ok (.bool j.isNone) (bq w b (.loop { r with state:=if j.isNone then .ready else .done,pending:=j })):=by
  unfold Instr.endRound;rw[ak (oI h),ak (uU h)];rfl
def GT (h:w.heap[b]?=some (.loop r))(hs:(r.state == .busy)=false):(Instr.endLoop b).run P w=.ok r.pending (bq w b (.loop { r with state:=.exhausted,pending:=r.pending })):=by
  unfold Instr.endLoop;rw[ak (oI h)];simp only[hs,Bool.false_eq_true,if_false];rw[ak (uU h)];rfl
def jE (ρ:Env)(l:List (Tmp × S1)):Env:=l.foldl (fun ρ p=>aD ρ (some p.1) p.2) ρ
def dc (env:Env)(n:Nat):Env:=fun t=>if t<n then env t else .lit undef
def ki (st:LoopState)(pend:Option Code):Option S7->Option S7
  |some (.loop _ _ n env ps asg body)=>some (.loop st pend n env ps asg body)
  |_=>none
def zc:Option S7->Option S7
  |some (.loop .ready pend n env ps asg body)=>some (.loop .busy pend n env ps asg body)
  |_=>none
def uV (id:Nat)(K:S8->S2->Prop):AX->St->Prop
  |.normal,s=>bb (ki .ready none (s.H.get id)) fun b=>K (.ret (.lit (.bool true))) (s.H.upd id b)
  |.ret,s=>bb (ki .done (some .ret) (s.H.get id)) fun b=>K (.ret (.lit (.bool false))) (s.H.upd id b)
  |.exit i,s=>bb (ki .done (some (.exit i)) (s.H.get id)) fun b=>K (.ret (.lit (.bool false))) (s.H.upd id b)
  |.goto i,s=>bb (ki .done (some (.goto i)) (s.H.get id)) fun b=>K (.ret (.lit (.bool false))) (s.H.upd id b)
  |.panic,_=>False
def zd (P:Program)(G:Nat->Option (List S1))(n id:Nat)(body:Code)(K:S8->S2->Prop):AX->St->Prop
  |.normal,s=>bb (zc (s.H.get id)) fun b=>W P G n (some id) body (uV id K) ⟨s.ρ,s.H.upd id b⟩
  |_,_=>False
def GU:∀(l:List (Tmp × S1)) (cl:List (Tmp × Value)) (ρ:Env) (tmps:Array Value),l.length=cl.length->(∀i (h:i<l.length) (h':i<cl.length),l[i].1=cl[i].1/\l[i].1<tmps.size/\S4 P Γ H w l[i].2 cl[i].2) ->
    (∀t,S4 P Γ H w (ρ t) (tmps.getD t undef)) ->
    ((cl.foldl (fun tmps (p:Tmp × Value)=>tmps.setIfInBounds p.1 p.2) tmps).size=tmps.size)/\∀t,S4 P Γ H w (jE ρ l t) ((cl.foldl (fun tmps (p:Tmp × Value)=>tmps.setIfInBounds p.1 p.2) tmps).getD t undef):=by
  intro l
  induction l with
  |nil =>
    intro cl ρ tmps hl _ he;cases cl with
    |nil=>exact⟨rfl,he⟩
    |cons=>simp at hl
  |cons x l ih =>
    intro cl ρ tmps hl h he;cases cl with
    |nil=>simp at hl
    |cons y cl =>
      obtain⟨h1,h2,h3⟩:=h 0 SX SX;simp only[P2]at h1 h2 h3;have:=ih cl (aD ρ (some x.1) x.2) (tmps.setIfInBounds y.1 y.2) (by simpa using hl) (fun i a b=>by
        have:=h (i+1) (by simpa using a) (by simpa using b);simp only[Qy]at this;simpa using this) (fun t=>by
          by_cases ht:t=x.1
          · subst ht;have e1:aD ρ (some x.1) x.2 x.1=x.2:=(by simp[aD]);have e2:(tmps.setIfInBounds y.1 y.2).getD x.1 undef=y.2:=(by rw[<- h1];simp[h2]);rw[e1,e2];exact h3
          · have e1 : aD ρ (some x.1) x.2 t=ρ t:=(by simp [aD,ht]);have e2 : (tmps.setIfInBounds y.1 y.2).getD t undef=tmps.getD t undef:=by
              simp only[Qe];rw[Ql,PC (by rw[<- h1];exact fun h=>ht h.symm)]
            rw[e1,e2];exact he t)
      refine⟨?_,this.2⟩;have h4:=this.1;simp only[Array.size_setIfInBounds]at h4;exact h4
def GV {st:LoopState}{b:S7}(h:ki st pend x=some b):∃st0 p0 n env ps asg body,x=some (.loop st0 p0 n env ps asg body)/\b=.loop st pend n env ps asg body:=by
  unfold ki at h;split at h
  · cases h;exact⟨_,_,_,_,_,_,_,rfl,rfl⟩
  · cases h
theorem aH.ng {id:Nat}{args:List S1}{K:S8->S2->Prop}{pend:Option Code}{n:Nat}{env:Env}{ps:Array Tmp}{asg body:Code}(hg:H.get id=some (.loop .ready pend n env ps asg body))(hl:args.length=ps.size)
    (hps:ps.toList.all (fun t=>decide (t<n))=true) (h:W P G n (some id) asg (zd P G n id body K) ⟨jE (dc env n) (ps.toList.zip args),H⟩):aH P G (.ng id) args H K:=by
  intro Γ w cfv cargs R hv hr;cases hv with
  |ng hy =>
    obtain⟨b,hΓ,rfl⟩:=hy.2.2.2.1 _ _ _ _ _ _ _ hg;obtain⟨b',r,hΓ',hb,h1,h2,h3,h4,h5,h6,h7,_⟩:=qQ R hg;rw[hΓ]at hΓ';simp only[Option.some.injEq,Prod.mk.injEq]at hΓ';obtain⟨rfl,_⟩:=hΓ';have hsz:cargs.size=r.params.size:=(by rw[hr.1,hl,h3]);refine⟨{ target:=.fn (.yield b) #[],args:=#[]++cargs },rfl,.inr (.inl ⟨b,r.fn,(r.params.zip (#[]++cargs)).foldl (fun tmps (t,a)=>tmps.setIfInBounds t a) r.tmps,r.assign,r.body,?_,?_⟩)⟩
    · show (Instr.yield b (#[]++cargs)).run P w=_;unfold Instr.yield;rw[ak (oI hb)];have:¬((#[]++cargs).size≠r.params.size):=(by simp[hsz]);rw[PC this];rfl
    · refine roundIn_of_wpIn (F:=Fence.wide) trivial ?_;have hfold : (r.params.zip (#[]++cargs)).foldl (fun tmps (t,a)=>tmps.setIfInBounds t a) r.tmps=(r.params.toList.zip cargs.toList).foldl (fun tmps (p : Tmp × Value)=>tmps.setIfInBounds p.1 p.2) r.tmps:=by
        rw[<- Array.foldl_toList];simp
      rw [hfold,h4,h5];have hset:=GU (P:=P) (Γ:=Γ) (H:=H) (w:=w) (ps.toList.zip args) (r.params.toList.zip cargs.toList) (dc env n) r.tmps (by simp [hr.1,h3]) (fun i a c=>by
          simp only[List.length_zip,Q7]at a c;simp only[List.getElem_zip,Qt];refine⟨by simp only[h3],?_,hr.2 i U U⟩;rw[h6];have:=P6.1 hps (ps[i]' U) SX;simpa using this) (fun t=>by
          unfold dc;by_cases ht:t<n
          · rw[PG ht];have:r.tmps.getD t undef=r.tmps[t]' U:=(by simp[h6,ht]);rw[this];exact h7 t (U)
          · rw[PC ht];have:r.tmps.getD t undef=undef:=(by simp[h6,ht]);rw[this];exact .lit _)
      have hs:Ti P G n ⟨0,[]⟩ Γ ⟨jE (dc env n) (ps.toList.zip args),H⟩ { tmps:=(r.params.toList.zip cargs.toList).foldl (fun tmps (p:Tmp × Value)=>tmps.setIfInBounds p.1 p.2) r.tmps,defers:=[] } w :=
        ⟨by rw[hset.1,h6],hset.2,R,⟨[],rfl,Marks.nil⟩,RY _⟩
      refine wpIn_mono (h ⟨0,[]⟩ Γ _ w (some b) hs ⟨b,_,_,_,_,_,_,_,rfl,hΓ,hg⟩) ?_;rintro e a₁ w₁ ⟨x,s₁,Γ₁,hx,hq,hs₁,E₁,hn₁,hr₁,_⟩;cases x with
      |normal =>
        cases e with
        |normal =>
          obtain⟨blk,hbg,hW⟩:=hq;obtain⟨b1,st1,p1,n1,env1,ps1,asg1,body1,hb1,hΓ₁,hg₁⟩:=hr₁;simp only[Option.some.injEq]at hb1;subst hb1;rw[hg₁]at hbg;have hst:st1=.ready/\blk=.loop .busy p1 n1 env1 ps1 asg1 body1:=by
            cases st1<;>simp[zc]at hbg
            exact⟨rfl,hbg.symm⟩
          obtain ⟨rfl,rfl⟩:=hst;obtain ⟨b2,r1,hΓ₂,hb2,k1,k2,k3,k4,k5,k6,k7,kset⟩:=qQ hs₁.heap hg₁;rw [hΓ₁] at hΓ₂;simp only [Option.some.injEq,Prod.mk.injEq] at hΓ₂;obtain ⟨rfl,_⟩:=hΓ₂;obtain ⟨R2,E2⟩:=kset .busy r1.pending;rw [k2] at R2 E2;have hb3 : Γ₁ id=some (b,0,0):=hΓ₁;refine ⟨_,GR hb2 k1,?_⟩;rw [k2];refine wpIn_mono (hW ⟨0,[]⟩ Γ₁ a₁ _ (some b) (hs₁.move E2 S0 R2) ⟨b,_,_,_,_,_,_,_,rfl,hΓ₁,by rw [ab,PG rfl]⟩) ?_;rintro e a₂ w₂ ⟨x,s₂,Γ₂,hx,hq,hs₂,E3,hn₂,hr₂,_⟩;obtain ⟨b4,st4,p4,n4,env4,ps4,asg4,body4,hb4,hΓ₄,hg₄⟩:=hr₂;simp only [Option.some.injEq] at hb4;subst hb4;obtain ⟨b5,r5,hΓ₅,hb5,l1,l2,l3,l4,l5,l6,l7,lset⟩:=qQ hs₂.heap hg₄;rw [hΓ₄] at hΓ₅;simp only [Option.some.injEq,Prod.mk.injEq] at hΓ₅;obtain ⟨rfl,_⟩:=hΓ₅;have E4 : Ta Γ H w Γ₂ s₂.H w₂:=(E₁.trans hn₁ E2).trans hn₁ E3;have hn4 : H.C≤s₂.H.C:=Qm hn₁ hn₂;have fin : ∀ (j : Option Code) (v : Bool),v=j.isNone→bb (ki (if j.isNone then .ready else .done) j (s₂.H.get id)) (fun bl=>K (.ret (.lit (.bool v))) (s₂.H.upd id bl)) →
              ∃cv w',(Instr.endRound b j).run P w₂=.ok cv w'/\fQ P G Γ H w K (.returned cv) w':=by
            rintro j v rfl ⟨bl,hbl,hk⟩;obtain⟨R6,E6⟩:=lset (if j.isNone then .ready else .done) j;rw[hg₄]at hbl;obtain⟨_,_,_,_,_,_,_,heq,rfl⟩:=GV hbl;simp only[Option.some.injEq,S7.loop.injEq]at heq;obtain⟨rfl,rfl,rfl,rfl,rfl,rfl,rfl⟩:=heq;exact⟨_,_,GS hb5 j,.ret (.lit (.bool j.isNone)),_,Γ₂,S4.lit _,hk,R6,E4.trans hn4 E6,hn4⟩
          cases e with
          |normal=>cases x with
            |normal=>exact fin none true rfl hq
            |_=>exact hx.elim
          |ret=>cases x with
            |ret=>exact fin (some .ret) false rfl hq
            |_=>exact hx.elim
          |exit i=>cases x with
            |exit i' =>
              obtain rfl:i=i':=hx;exact fin (some (.exit i)) false rfl hq
            |_=>exact hx.elim
          |goto i=>cases x with
            |goto i' =>
              obtain rfl:i=i':=hx;exact fin (some (.goto i)) false rfl hq
            |_=>exact hx.elim
          |panic c=>cases x with
            |panic=>exact hq.elim
            |_=>exact hx.elim
          |outgrown=>cases x<;>exact hx.elim
        |_=>exact hx.elim
      |_=>exact hq.elim
def uW (hos:w'.os=w.os)(ht:w'.tape=w.tape)(ho:w'.output=w.output)(hs:w.heap.size<=w'.heap.size)(hk:∀b,b<w.heap.size->w'.heap[b]?=w.heap[b]?)(hz:∀a,a.block<w.heap.size->w'.frozen? a=w.frozen? a)(R:S9 P G Γ H w):Ta Γ H w Γ H w'/\S9 P G Γ H w':=by
  have E:Ta Γ H w Γ H w':=⟨hos,ht,ho,hs,fun b hb h=>⟨hk b hb,h⟩,fun _ _ _ x' hx=>⟨x',hx,S7.le_refl _ _ _⟩,hz,CR hk,.refl _ _⟩
  refine⟨E,?_⟩;exact
    { L:=fun id g e cells hg=>by
        have h1:=R.L id g e cells hg;cases hΓ:Γ id with
        |none=>rw[hΓ]at h1;exact h1
        |some y =>
          obtain⟨b,base,n⟩:=y;rw[hΓ]at h1;obtain⟨c,a1,a2,a3,a4⟩:=h1;exact⟨c,by rw[hk b (R.lt _ _ _ _ hΓ)];exact a1,a2,a3,fun i hi=>let ⟨cv,b1,b2⟩:=a4 i hi;⟨cv,b1,b2.aV E S0⟩⟩
      loop:=fun id st pend n env ps asg body hg=>by
        obtain⟨b,rr,a1,a2,a3,a4,a5,a6,a7,a8,a9⟩:=R.loop id st pend n env ps asg body hg;exact⟨b,rr,a1,by rw[hk b (R.lt _ _ _ _ a1)];exact a2,a3,a4,a5,a6,a7,a8,fun t ht=>(a9 t ht).aV E S0⟩
      mp:=fun id es hg=>by
        obtain⟨b,a1,a2⟩:=R.mp id es hg;exact⟨b,a1,by rw[hk b (R.lt _ _ _ _ a1)];exact a2⟩
      ni:=R.ni
      inj:=R.inj
      nv:=R.nv
      lt:=fun id b base n h=>PL (R.lt id b base n h) hs
      C:=R.C
      nr:=fun g cells h=>(R.nr g cells h).aV E (Nat.le_refl _)
      gsz:=R.kZ E }
def oJ:Option S7->Option (Option Code × S7)
  |some (.loop .busy ..)=>none
  |some (.loop _ pend n env ps asg body)=>some (pend,.loop .exhausted pend n env ps asg body)
  |_=>none
def ze (Q:AX->St->Prop)(s:St):Option Code->Prop
  |none=>Q .normal s
  |some .ret=>Q .ret s
  |some (.exit i)=>Q (.exit i) s
  |some (.goto i)=>Q (.goto i) s
  |_=>False
def uX (rd:Option Nat)(Q:AX->St->Prop)(ρ:Env)(id:Nat):S8->S2->Prop
  |.ret _,H'=>dR H' rd/\bb (oJ (H'.get id)) fun pb=>ze Q ⟨ρ,H'.upd id pb.2⟩ pb.1
  |.panic,H'=>dR H' rd/\Q .panic ⟨ρ,H'⟩
def GW {pb:Option Code × S7}(h:oJ x=some pb):∃st pend n env ps asg body,x=some (.loop st pend n env ps asg body)/\(st == .busy)=false/\pb=(pend,.loop .exhausted pend n env ps asg body):=by
  unfold oJ at h;split at h
  · cases h
  · rename_i st pend n env ps asg body hne;cases h;refine⟨_,_,_,_,_,_,_,rfl,?_,rfl⟩;cases st with
    |busy=>exact absurd rfl (by first|exact hne|exact fun h=>hne _ _ _ _ _ _ h)
    |_=>rfl
  · cases h
section
variable {n:Nat} {rd:Option Nat} {Q:AX->St->Prop}
theorem W.rangeFunc {g:Operand}{ps:Array Tmp}{asg body:Code}{s:St}{f:FuncId}{first cap:List S1}(hg:aj G s.ρ g=.nl f first cap)
    (h:bb (s.H.lay s.H.C (.loop .ready none n s.ρ ps asg body)) fun H1=>ae P G f (first++[.ng s.H.C]++cap) H1 (uX rd Q s.ρ s.H.C)):W P G n rd (.rangeFunc g ps asg body) Q s:=by
  intro wb Γ a w rb hs hr;obtain⟨H1,hlay,hcall⟩:=h;have hlay2:H1=⟨fun j=>if j=s.H.C then some (.loop .ready none n s.ρ ps asg body) else s.H.get j,s.H.C+1⟩:=by
    unfold S2.lay at hlay;rw[PG rfl]at hlay;exact(Option.some.inj hlay).symm
  subst hlay2;refine wpIn_rangeFunc fun fn _=>?_;have he:=fP hs g;rw[hg]at he
  -- the world with the record
  have key : ∀ (w0 : World) (mark : List Deferred) (dblk : Nat),Ta Γ s.H w Γ s.H w0→S9 P G Γ s.H w0 →
      oB wb Γ w0 (mark++a.defers) ->
      ∀w1,w1={ w0 with heap:=w0.heap.push (.loop { state:=.ready,pending:=none,fn:=fn,tmps:=a.tmps,params:=ps,assign:=asg,body:=body,defers:=dblk }) } ->
      (Instr.enterLoop fn a.tmps ps asg body (cV rb).round).run P w=.ok (w0.heap.size,mark) w1 ->
      ∃(l:Nat) (mark:List Deferred) (w₁:World) (d:Deferred) (w₁':World) (f:FuncId) (args:Array Value) (w₂:World),
      (Instr.enterLoop fn a.tmps ps asg body (cV rb).round).run P w=.ok (l,mark) w₁ /\
      (resolve a.eval (rangeCall g l) 0).run P w₁=.ok d w₁' /\
      (∀f',Target.leads P w₁' d.target d.args=some f'->(cV rb).fn f') /\
      (invoke d.target d.args).run P w₁'=.ok (.enter f args) w₂ /\
      ((cV rb).depth.isSome=true->1<=0) /\
      CallsIn (cV rb) (0-1) P f args w₂ (rangePost (cV rb) 0 P l (fh P G n wb rd rb (wr (.rangeFunc g ps asg body)) Γ s.H a w Q) { a with defers:=mark++a.defers }):=by
    intro w0 mark dblk E0 R0 hdef w1 hw1 hent
    let rec':Loop:={ state:=.ready,pending:=none,fn:=fn,tmps:=a.tmps,params:=ps,assign:=asg,body:=body,defers:=dblk }
    have hheap:w1.heap=w0.heap.push (.loop rec'):=(by rw[hw1]);have hsz1:w1.heap.size=w0.heap.size+1:=(by rw[hheap];simp);have hk1:∀b,b<w0.heap.size->w1.heap[b]?=w0.heap[b]?:=fun b hb=>by
      rw[hheap,RB];rw[PC U]
    have hget1:w1.heap[w0.heap.size]?=some (.loop rec'):=(by rw[hheap];simp);obtain⟨E1,R1⟩:=uW (w':=w1) (by rw[hw1]) (by rw[hw1]) (by rw[hw1]) U hk1 (fun a _=>mc hheap (fun _ _ _ h=>by cases h) a) R0
    let Γ1:aq:=fun i=>if i=s.H.C then some (w0.heap.size,0,0) else Γ i
    let H1:S2:=⟨fun j=>if j=s.H.C then some (.loop .ready none n s.ρ ps asg body) else s.H.get j,s.H.C+1⟩
    have hfresh:∀i y,s.H.get i=some y->i≠s.H.C:=fun i y hy h=>by have:=R0.C i y hy;omega
    have hΓfresh:∀i x,Γ i=some x->i≠s.H.C:=fun i x hx=>let ⟨y,hy⟩:=R0.nv i x hx;hfresh i y hy
    have hΓ1:∀i,i≠s.H.C->Γ1 i=Γ i:=fun i hi=>by simp only[Γ1];rw[PC hi]
    have hH1:∀i,i≠s.H.C->H1.get i=s.H.get i:=fun i hi=>by simp only[H1];rw[PC hi]
    have E2:Ta Γ s.H w0 Γ1 H1 w1 :=
      { os:=by rw[hw1],tape:=by rw[hw1],output:=by rw[hw1],size:=U
        na:=fun b hb ho=>⟨hk1 b hb,by
          rintro⟨i,base,m,hi⟩;simp only[Γ1]at hi;split at hi
          · simp only[Option.some.injEq,Prod.mk.injEq]at hi;omega
          · exact ho ⟨i,base,m,hi⟩⟩
        nn:=fun i hi _ x' hx=>by
          rw[hH1 i U]at hx;refine⟨x',hx,?_⟩;have hΓi:Γ1 i=Γ i:=hΓ1 i U;cases x' with
          |L=>exact⟨S0,fun _=>⟨hΓi,rfl,rfl⟩⟩
          |loop=>exact⟨hΓi,rfl,rfl,rfl,rfl,rfl⟩
          |mp=>exact hΓi
          |ni=>trivial
        np:=fun a _=>mc hheap (fun _ _ _ h=>by cases h) a
        kind:=qm hheap
        newb:=fun i b x y hi hlt=>by
          simp only[Γ1]at hi;split at hi
          · simp only[Option.some.injEq,Prod.mk.injEq]at hi;omega
          · exact⟨x,y,hi⟩ }
    have hn1:s.H.C<=H1.C:=QS _;have tr:∀v cv,S4 P Γ s.H w0 v cv->S4 P Γ1 H1 w1 v cv:=fun v cv h=>h.aV E2 hn1;have R2:S9 P G Γ1 H1 w1 :=
      { L:=fun i g e cells hi=>by
          by_cases hii:i=s.H.C
          · simp only[H1]at hi;rw[PG hii]at hi;simp at hi
          · rw[hH1 i hii]at hi;have h:=R0.L i g e cells hi;rw[hΓ1 i hii];cases hΓ:Γ i with
            |none=>rw[hΓ]at h;exact h
            |some y =>
              obtain⟨b,base,m⟩:=y;rw[hΓ]at h;obtain⟨c,a1,a2,a3,a4⟩:=h;exact⟨c,by rw[hk1 b (R0.lt _ _ _ _ hΓ)];exact a1,a2,a3,fun j hj=>let ⟨cv,b1,b2⟩:=a4 j hj;⟨cv,b1,tr _ _ b2⟩⟩
        loop:=fun i st2 pend2 n2 env2 ps2 asg2 body2 hi=>by
          by_cases hii:i=s.H.C
          · simp only [H1] at hi;rw [PG hii] at hi;simp only [Option.some.injEq,S7.loop.injEq] at hi;obtain ⟨rfl,rfl,rfl,rfl,rfl,rfl,rfl⟩:=hi;refine ⟨w0.heap.size,rec',by simp only [Γ1];rw [PG hii],hget1,rfl,rfl,rfl,rfl,rfl,hs.size,fun t ht=>?_⟩;have:=((hs.env t).aV E0 S0).aV E2 hn1;have e1 : a.tmps.getD t undef=a.tmps[t]'ht:=by
              have:t<a.tmps.size:=ht;simp[this]
            rw[e1]at this;exact this
          · rw[hH1 i hii]at hi;obtain⟨b2,r2,a1,a2,a3,a4,a5,a6,a7,a8,a9⟩:=R0.loop i _ _ _ _ _ _ _ hi;exact⟨b2,r2,by rw[hΓ1 i hii];exact a1,by rw[hk1 b2 (R0.lt _ _ _ _ a1)];exact a2,a3,a4,a5,a6,a7,a8,fun t ht=>tr _ _ (a9 t ht)⟩
        mp:=fun i es hi=>by
          by_cases hii:i=s.H.C
          · simp only[H1]at hi;rw[PG hii]at hi;simp at hi
          · rw[hH1 i hii]at hi;obtain⟨b2,a1,a2⟩:=R0.mp i _ hi;exact⟨b2,by rw[hΓ1 i hii];exact a1,by rw[hk1 b2 (R0.lt _ _ _ _ a1)];exact a2⟩
        ni:=fun i hi=>by
          by_cases hii:i=s.H.C
          · simp only[H1]at hi;rw[PG hii]at hi;simp at hi
          · rw[hH1 i hii]at hi;rw[hΓ1 i hii];exact R0.ni i hi
        inj:=fun i i' b base m base' m' h h'=>by
          by_cases h1:i=s.H.C
          · by_cases h2:i'=s.H.C
            · rw[h1,h2]
            · rw[hΓ1 i' h2]at h';simp only[Γ1]at h;rw[PG h1]at h;simp only[Option.some.injEq,Prod.mk.injEq]at h;have:=R0.lt _ _ _ _ h';omega
          · by_cases h2:i'=s.H.C
            · rw[hΓ1 i h1]at h;simp only[Γ1]at h';rw[PG h2]at h';simp only[Option.some.injEq,Prod.mk.injEq]at h';have:=R0.lt _ _ _ _ h;omega
            · rw[hΓ1 i h1]at h;rw[hΓ1 i' h2]at h';exact R0.inj _ _ _ _ _ _ _ h h'
        nv:=fun i x hi=>by
          by_cases hii:i=s.H.C
          · simp only[H1];rw[PG hii];exact⟨_,rfl⟩
          · rw[hΓ1 i hii]at hi;rw[hH1 i hii];exact R0.nv i x hi
        lt:=fun i b base m hi=>by
          by_cases hii:i=s.H.C
          · simp only[Γ1]at hi;rw[PG hii]at hi;simp only[Option.some.injEq,Prod.mk.injEq]at hi;omega
          · rw[hΓ1 i hii]at hi;have:=R0.lt _ _ _ _ hi;omega
        C:=fun i y hi=>by
          by_cases hii:i=s.H.C
          · show i<s.H.C+1;omega
          · rw[hH1 i hii]at hi;have:=R0.C i y hi;show i<s.H.C+1;omega
        nr:=fun g cells h=>tr _ _ (R0.nr g cells h)
        gsz:=R0.kZ E2 }
    have E3:Ta Γ s.H w Γ1 H1 w1:=E0.trans S0 E2;generalize hcg:a.eval g=cg at he;cases he with
    | @nl _ _ _ fs cs hfs hcs hf hc =>
      obtain⟨⟨fn',hfn',hb',hname'⟩,hcall⟩:=hcall;have hyld:S4 P Γ1 H1 w1 (.ng s.H.C) (.func (.yield w0.heap.size) #[] #[]) :=
        .ng ⟨Q8 _,rfl,by simp[H1],fun st pend n env ps asg body hgi=>⟨w0.heap.size,by simp[Γ1],rfl⟩,fun es hgi=>by simp[H1]at hgi⟩
      have hargs:cF P Γ1 H1 w1 (first++[.ng s.H.C]++cap) (fs.toArray++#[.func (.yield w0.heap.size) #[] #[]]++cs.toArray):=by
        refine qB (qB ⟨by simpa using hfs,fun i h1 h2=>?_⟩ ⟨rfl,fun i h1 h2=>?_⟩) ⟨by simpa using hcs,fun i h1 h2=>?_⟩
        · exact(by simpa using hf i h1 (by simpa using h2):S4 P Γ s.H w first[i] (fs.toArray[i])).aV E3 hn1
        · have:i=0:=(by simp at h1;omega);subst this;exact hyld
        · exact(by simpa using hc i h1 (by simpa using h2):S4 P Γ s.H w cap[i] (cs.toArray[i])).aV E3 hn1
      refine⟨w0.heap.size,mark,w1,{ target:=.fn (.func f) cs.toArray,args:=fs.toArray++#[.func (.yield w0.heap.size) #[] #[]] },w1,f,fs.toArray++#[.func (.yield w0.heap.size) #[] #[]]++cs.toArray,w1,hent,?_,fun _ _=>trivial,?_,fun hc=>by simp[Fence.wide]at hc,?_⟩
      · have hm:Array.map a.eval #[Operand.const (.func (.yield w0.heap.size) #[] #[])]=#[.func (.yield w0.heap.size) #[] #[]]:=(by simp[Act.eval]);unfold resolve;simp only[hcg,hm];rfl
      · show (callFunc f (fs.toArray++#[.func (.yield w0.heap.size) #[] #[]]++cs.toArray)).run P w1=_;unfold callFunc;rw[ak (run_program P w1)];simp only[hfn'];rw[hname',hb'];rfl
      · have h4 : CallsIn (cV rb) 0 P f (fs.toArray++#[.func (.yield w0.heap.size) #[] #[]]++cs.toArray) w1 _:=hcall Γ1 w1 _ R2 hargs;refine h4.mono ?_;rintro e w3 ⟨r,H',Γ',hend,hk,R',E',hn'⟩;have E5 : Ta Γ s.H w Γ' H' w3:=E3.trans hn1 E';have hn5 : s.H.C≤H'.C:=Qm hn1 hn';have mkS : ∀ (H'' : S2) (w4 : World),S9 P G Γ' H'' w4→Ta Γ s.H w Γ' H'' w4→Ta Γ s.H w0 Γ' H'' w4→s.H.C≤H''.C→Ti P G n wb Γ' ⟨s.ρ,H''⟩ { a with defers:=mark++a.defers } w4 :=
          fun H'' w4 R'' E'' E0'' hn''=>⟨hs.size,fun t=>(hs.env t).aV E'' hn'',R'',hdef.aV E0'',Qm hs.low E''.size⟩
        cases e with
        |returned cv =>
          cases r with
          |panic=>exact hend.elim
          |ret v =>
            obtain⟨hri,pb,hpb,hj⟩:=hk;obtain⟨st,pend,n2,env2,ps2,asg2,body2,hgl,hbusy,rfl⟩:=GW hpb;obtain⟨b,r2,hΓb,hb,l1,l2,l3,l4,l5,l6,l7,lset⟩:=qQ R' hgl;obtain⟨R6,E6⟩:=lset .exhausted r2.pending;have hbl:b=w0.heap.size:=by
              obtain⟨x,hx,hle⟩:=E'.nn s.H.C (Q8 _) (PL (Q8 _) hn') _ hgl;have hx':H1.get s.H.C=some (.loop .ready none n s.ρ ps asg body):=(by simp[H1]);rw[hx']at hx;cases hx;have h1:=hle.1;rw[hΓb]at h1;simp only[Γ1,if_true,Option.some.injEq,Prod.mk.injEq]at h1;exact h1.1
            subst hbl;have hend':=GT (P:=P) hb (by rw[l1];exact hbusy);rw[l2]at R6 E6 hend';refine⟨pend,_,hend',?_⟩;have E7:=E5.trans hn5 E6;have hS:=mkS _ _ R6 E7 ((E2.trans hn1 E').trans hn5 E6) hn5;have hri':dR (H'.upd s.H.C (.loop .exhausted pend n2 env2 ps2 asg2 body2)) rd:=by
              cases rd with
              |none=>trivial
              |some i =>
                obtain⟨st3,pend3,n3,env3,ps3,asg3,body3,h3⟩:=hri;by_cases hii:i=s.H.C
                · exact⟨_,_,_,_,_,_,_,by rw[ab,PG hii]⟩
                · exact⟨_,_,_,_,_,_,_,by rw[ab,PC hii];exact h3⟩
            have hR:=hr.aV E7 hn5 hs.heap hri';have post:∀(e:Exit) (x:AX),uC e x->Q x ⟨s.ρ,H'.upd s.H.C (.loop .exhausted pend n2 env2 ps2 asg2 body2)⟩->fh P G n wb rd rb (wr (.rangeFunc g ps asg body)) Γ s.H a w Q e { a with defers:=mark++a.defers } _ :=
              fun e x hx hq=>⟨x,_,Γ',hx,hq,hS,E7,hn5,hR,fun t _=>rfl⟩
            simp only at hj;cases pend with
            |none=>exact post .normal .normal trivial hj
            |some c =>
              cases c with
              |ret=>exact wpIn_ret (post .ret .ret trivial hj)
              |exit i=>exact wpIn_exit (post (.exit i) (.exit i) rfl hj)
              |goto i=>exact wpIn_goto (post (.goto i) (.goto i) rfl hj)
              |_=>exact hj.elim
        |panicked chain =>
          cases r with
          |ret v=>exact hend.elim
          |panic =>
            exact⟨.panic,_,Γ',hend,hk.2,mkS _ _ R' E5 (E2.trans hn1 E') hn5,E5,hn5,hr.aV E5 hn5 hs.heap hk.1,fun t _=>rfl⟩
        |outgrown=>cases r<;>exact hend.elim
  cases rb with
  |none =>
    let w0:World:={ w with heap:=w.heap.push (.deferred (some [])) }
    have hk0:∀b,b<w.heap.size->w0.heap[b]?=w.heap[b]?:=fun b hb=>by
      show (w.heap.push _)[b]?=_;rw[RB,PC U]
    obtain⟨E0,R0⟩:=uW (w:=w) (w':=w0) rfl rfl rfl (by simp[w0]) hk0 (fun a _=>mc (o:=.deferred (some [])) rfl (fun _ _ _ h=>by cases h) a) hs.heap;refine key w0 [{ target:=.collected w.heap.size,args:=#[] }] w.heap.size E0 R0 ?_ _ rfl rfl;obtain⟨m,hm,hmk⟩:=hs.defers;refine⟨{ target:=.collected w.heap.size,args:=#[] } :: m,by rw[hm];rfl,fun d hd=>?_,?_⟩
    · simp only[List.mem_cons]at hd;rcases hd with rfl|hd
      · refine⟨w.heap.size,rfl,hs.low,?_,by simp[w0]⟩;rintro⟨i,base,m,hi⟩;have:=hs.heap.lt _ _ _ _ hi;omega
      · obtain⟨r,h1,h2,h3⟩:=hmk.1 d hd;exact⟨r,h1,h2,h3.aV E0⟩
    · refine Sj.2 ⟨fun d hd=>?_,hmk.2⟩;obtain⟨r,h1,h2,h3⟩:=hmk.1 d hd;rw[h1];intro he;simp only[Target.collected.injEq]at he;have h4:=h3.2;rw[<- he,QG S0]at h4;cases h4
  |some b0 =>
    have hlr:∃r,w.heap[b0]?=some (.loop r):=by
      cases rd with
      |none=>cases hr
      |some id =>
        obtain⟨b,st,pend,n',env,ps',asg',body',h1,h2,h3⟩:=hr;obtain⟨b',r,h4,h5,_⟩:=hs.heap.loop _ _ _ _ _ _ _ _ h3;rw[h2]at h4;simp only[Option.some.injEq,Prod.mk.injEq]at h4 h1;rw[h1,h4.1];exact⟨r,h5⟩
    obtain⟨r,hlr⟩:=hlr;refine key w [] r.defers (Ta.refl _ _ _) hs.heap (by simpa using hs.defers) _ rfl ?_;show (Instr.enterLoop fn a.tmps ps asg body (some b0)).run P w=_;unfold Instr.enterLoop;simp only[bind_assoc,pure_bind];rw[ak (oI hlr)];rfl
end
end Go.Hx
namespace Go.Hx
variable {P:Program} {G:Nat->Option (List S1)} {Γ Γ':aq} {H H':S2} {w w':World}
variable {f:FuncId}{args args':List S1}{v':S1}
def bZ:S2:=⟨fun _=>none,0⟩
inductive Tf (H:S2):S1->S1->Prop
 |lit (v:Value):Tf H (.lit v) (.lit v)
 |nil:Tf H (.lit (.slice none 0 0)) (.M 0 [])
 |nj:Tf H (.M 0 []) (.M 0 [])
 |agg {c c':List S1} (hl:c'.length=c.length) (h:∀i (h:i<c.length) (h':i<c'.length),Tf H c[i] c'[i]):Tf H (.agg c) (.agg c')
 |nc {c c':List S1} (hl:c'.length=c.length) (h:∀i (h:i<c.length) (h':i<c'.length),Tf H c[i] c'[i]):Tf H (.nc c) (.nc c')
 |V {id g o l z:Nat} {e:TypeId} {cells c':List S1} (hg:H.get id=some (.L g e cells)) (hl:c'.length=l*z)
   (h:∀i (h:i<l*z) (h2:o+i<cells.length) (h':i<c'.length),Tf H cells[o+i] c'[i]):Tf H (.V id g o l z) (.M l c')
def Tf.sound (R:S9 P G Γ' H' w){N:Nat}(h1:∀b,Γ'.da b->N<=b)(h2:∀b,Γ.da b->b<N){v:S1}(hf:Tf H' v v'):∀ {cv:Value},S4 P Γ' H' w v cv->S4 P Γ H w v' cv:=by
 induction hf with
 |lit v=>intro cv h;cases h;exact .lit _
 |nil=>intro cv h;cases h;exact .nj none 0
 |nj =>
  intro cv h;cases h with
  |nj a cap=>exact .nj a cap
  |M hb hlt hlen hcs hcell hrel=>exact .nj _ _
 |agg hl hc ih =>
  intro cv h;cases h with
  |agg hcs hrel=>exact .agg U fun i a b=>ih i U a (hrel i U b)
 |nc hl hc ih =>
  intro cv h;cases h with
  |nc hcs hrel=>exact .nc U fun i a b=>ih i U a (hrel i U b)
 | @V id g o l z e cells c' hg hl hc ih =>
  intro cv h;cases h with
  |V h =>
   obtain⟨_,_,h0,h3⟩:=h;have h4:=(h3 _ _ _ hg).2 rfl;have harr:=R.L id g e cells hg;cases hΓ:Γ' id with
   |none =>
    rw[hΓ]at h4;obtain⟨rfl,rfl,rfl⟩:=h4;have:c'=[]:=PH (by simpa using hl);subst this;exact .nj _ _
   |some y =>
    obtain⟨b,base,n⟩:=y;rw[hΓ]at h4 harr;obtain⟨a,cap,rfl,hcap,hoff,hor⟩:=h4;obtain⟨c,a1,a2,a3,a4⟩:=harr;rcases hor with ⟨rfl,hn⟩|⟨rfl,rfl⟩
    ·have hcell:∀i,i<l*z->∃cv,c[base+(o+i)]?=some cv/\∀(h:o+i<cells.length),S4 P Γ' H' w cells[o+i] cv:=fun i hi=>by
      obtain⟨cv,b1,b2⟩:=a4 (o+i) U;exact⟨cv,b1,fun _=>b2⟩
     let cs:List Value:=(List.range (l*z)).map fun i=>(c[base+(o+i)]?).getD undef
     have hcs:cs.length=c'.length:=(by simp[cs,hl]);refine .M (cs:=cs) (fun ho=>?_) (R.lt _ _ _ _ hΓ) hcap hcs (fun i hi=>?_) fun i hi hi'=>?_
     ·have:=h2 b ho;have:=h1 b ⟨id,base,n,hΓ⟩;omega
     ·have hi2:i<l*z:=(by rw[hcs,hl]at hi;exact hi);obtain⟨cv,b1,_⟩:=hcell i hi2;have:cs[i]=cv:=(by simp[cs,b1]);rw[this];have he:base+o+i=base+(o+i):=U;simp only[World.cell?,a1,he];exact b1
     ·have hi2:i<l*z:=(by rw[hl]at hi;exact hi);obtain⟨cv,b1,b2⟩:=hcell i hi2;have:cs[i]=cv:=(by simp[cs,b1]);rw[this];exact ih i hi2 U hi (b2 U)
    ·have:c'=[]:=PH (by simpa using hl);subst this;exact .nj _ _
def Di (H:S2):TC (fun _=>True) H bZ:=⟨fun _ _=>rfl,fun _ _ h=>absurd trivial h,fun _ h=>absurd trivial h⟩
def xO (b:Nat):¬(cY (fun _=>True) Γ).da b:=by
 rintro⟨id,base,n,h⟩;exact(gY h).1 trivial
def oy (o:Option S1)(r:S8)(H':S2):Prop:=match o with
 |some v'=>∃v,r=.ret v/\Tf H' v v'
 |none=>r=.panic
def xP:Option S1->S8
 |some v=>.ret v
 |none=>.panic
def ae.Dj {o:Option S1}(hG:dG G)(hl:args'.length=args.length)(hv:∀i (h:i<args.length) (h':i<args'.length),Fz (fun _=>True) H 0 args[i] args'[i])
  (h:ae P G f args' bZ (oy o)):ae P G f args H fun r H'=>r=xP o/\H'=H:=by
 refine⟨h.1,fun Γ w cargs R hr=>?_⟩;have F:=Di H;have R0:S9 P G (cY (fun _=>True) Γ) bZ w:=F.rel hG R;have hr0:cF P (cY (fun _=>True) Γ) bZ w args' cargs:=⟨by have:=hr.1;omega,fun i h1 h2=>(hv i U h1).sound R F (hr.2 i U h2)⟩
 refine(h.2 _ w cargs R0 hr0).mono ?_;rintro e w' ⟨r,H',Γ',hend,hg,R',E,hn⟩;have hown:∀b,Γ'.da b->w.heap.size<=b:=fun b hb=>R7 fun hlt=>(E.na b hlt (xO b)).2 hb;have hown2:∀b,Γ.da b->b<w.heap.size:=fun b ⟨id,base,n,hb⟩=>R.lt _ _ _ _ hb;obtain⟨E2,R2⟩:=uW E.os E.tape E.output E.size (fun b hb=>(E.na b hb (xO b)).1) E.np R;refine⟨xP o,H,Γ,?_,⟨rfl,rfl⟩,R2,E2,S0⟩;cases o with
 |some v' =>
  obtain⟨v,rfl,hf⟩:=hg;cases e with
  |returned cv=>exact hf.sound R' hown hown2 hend
  |_=>exact hend.elim
 |none =>
  have hg':r=.panic:=hg;subst hg';cases e with
  |panicked chain=>exact hend
  |_=>exact hend.elim
def ae.frame (hG:dG G)(hl:args'.length=args.length)(hv:∀i (h:i<args.length) (h':i<args'.length),Fz (fun _=>True) H 0 args[i] args'[i])
  (h:ae P G f args' bZ fun r H'=>∃v,r=.ret v/\Tf H' v v'):ae P G f args H fun r H'=>r=.ret v'/\H'=H:=ae.Dj (o:=some v') hG hl hv h
end Go.Hx
namespace Go.Hx
variable {P:Program} {G:Nat->Option (List S1)} {Γ Γ':aq} {H H':S2} {w w':World}
variable {g id:Nat}{v':S1}{e:TypeId}
inductive Tq (lo:Nat)(H:S2):S1->S1->Prop
  |lit (v:Value):Tq lo H (.lit v) (.lit v)
  |nil:Tq lo H (.lit (.slice none 0 0)) (.M 0 [])
  |nj:Tq lo H (.M 0 []) (.M 0 [])
  |agg {c c':List S1} (hl:c'.length=c.length) (h:∀i (h:i<c.length) (h':i<c'.length),Tq lo H c[i] c'[i]):Tq lo H (.agg c) (.agg c')
  |nc {c c':List S1} (hl:c'.length=c.length) (h:∀i (h:i<c.length) (h':i<c'.length),Tq lo H c[i] c'[i]):Tq lo H (.nc c) (.nc c')
  | V {id g o l z : Nat} {e : TypeId} {cells c' : List S1} (hlo : lo≤id) (hg : H.get id=some (.L g e cells)) (hl : c'.length=l*z)
      (h:∀i (h:i<l*z) (h2:o+i<cells.length) (h':i<c'.length),Tq lo H cells[o+i] c'[i]):Tq lo H (.V id g o l z) (.M l c')
def Tq.sound (R:S9 P G Γ' H' w){N lo:Nat}(h1:∀id b x y,lo<=id->Γ' id=some (b,x,y)->N<=b)(h2:∀b,Γ.da b->b<N){v:S1}(hf:Tq lo H' v v'):∀ {cv:Value},S4 P Γ' H' w v cv->S4 P Γ H w v' cv:=by
  induction hf with
  |lit v=>intro cv h;cases h;exact .lit _
  |nil=>intro cv h;cases h;exact .nj none 0
  |nj =>
    intro cv h;cases h with
    |nj a cap=>exact .nj a cap
    |M hb hlt hlen hcs hcell hrel=>exact .nj _ _
  |agg hl hc ih =>
    intro cv h;cases h with
    |agg hcs hrel=>exact .agg U fun i a b=>ih i U a (hrel i U b)
  |nc hl hc ih =>
    intro cv h;cases h with
    |nc hcs hrel=>exact .nc U fun i a b=>ih i U a (hrel i U b)
  | @V id g o l z e cells c' hlo hg hl hc ih =>
    intro cv h;cases h with
    |V h =>
      obtain⟨_,_,h0,h3⟩:=h;have h4:=(h3 _ _ _ hg).2 rfl;have harr:=R.L id g e cells hg;cases hΓ:Γ' id with
      |none =>
        rw[hΓ]at h4;obtain⟨rfl,rfl,rfl⟩:=h4;have:c'=[]:=PH (by simpa using hl);subst this;exact .nj _ _
      |some y =>
        obtain⟨b,base,n⟩:=y;have hNb:=h1 id b base n hlo hΓ;rw[hΓ]at h4 harr;obtain⟨a,cap,rfl,hcap,hoff,hor⟩:=h4;obtain⟨c,a1,a2,a3,a4⟩:=harr;rcases hor with ⟨rfl,hn⟩|⟨rfl,rfl⟩
        · have hcell : ∀ i,i<l*z→∃ cv,c[base+(o+i)]?=some cv∧∀ (h : o+i<cells.length),S4 P Γ' H' w cells[o+i] cv:=fun i hi=>by
            obtain⟨cv,b1,b2⟩:=a4 (o+i) U;exact⟨cv,b1,fun _=>b2⟩
          let cs:List Value:=(List.range (l*z)).map fun i=>(c[base+(o+i)]?).getD undef
          have hcs:cs.length=c'.length:=(by simp[cs,hl]);refine .M (cs:=cs) (fun ho=>?_) (R.lt _ _ _ _ hΓ) hcap hcs (fun i hi=>?_) fun i hi hi'=>?_
          · have:=h2 b ho;omega
          · have hi2:i<l*z:=(by rw[hcs,hl]at hi;exact hi);obtain⟨cv,b1,_⟩:=hcell i hi2;have:cs[i]=cv:=(by simp[cs,b1]);rw[this];have he:base+o+i=base+(o+i):=U;simp only[World.cell?,a1,he];exact b1
          · have hi2:i<l*z:=(by rw[hl]at hi;exact hi);obtain⟨cv,b1,b2⟩:=hcell i hi2;have:cs[i]=cv:=(by simp[cs,b1]);rw[this];exact ih i hi2 U hi (b2 U)
        · have:c'=[]:=PH (by simpa using hl);subst this;exact .nj _ _
def mu (H:S2)(id:Nat):S2:=⟨fun j=>if j=id then H.get id else none,H.C⟩
def uu (H:S2)(id:Nat):(mu H id).get id=H.get id:=PG rfl
def Dh (hg:H.get id=some (.L g e []))(hid:id<H.C):TC (fun j=>j≠id) H (mu H id) where
  gone j hj:=PC hj
  kept j b hj hb:=by
    have hji:j=id:=So.1 hj;subst hji;refine⟨hid,b,by rw[uu];exact hb,?_⟩;rw[hg]at hb;cases hb;exact⟨rfl,rfl,rfl,fun i h=>absurd h (PS _)⟩
  none j hj hn:=by
    have hji:j=id:=So.1 hj;subst hji;rw[uu];exact hn
def ae.hole {f:FuncId}{args args':List S1}(hG:dG G)(hg:H.get id=some (.L g e []))(hid:id<H.C)(hl:args'.length=args.length)
    (hv:∀i (h:i<args.length) (h':i<args'.length),Fz (fun j=>j≠id) H H.C args[i] args'[i])
    (h:ae P G f args' (mu H id) fun r H'=>∃v,r=.ret v/\Tq H.C H' v v'):ae P G f args H fun r H'=>r=.ret v'/\H'=H:=by
  refine⟨h.1,fun Γ w cargs R hr=>?_⟩;have F:=Dh hg hid;have R0:S9 P G (cY (fun j=>j≠id) Γ) (mu H id) w:=F.rel hG R;have hr0:cF P (cY (fun j=>j≠id) Γ) (mu H id) w args' cargs:=⟨by have:=hr.1;omega,fun i h1 h2=>(hv i U h1).sound R F (hr.2 i U h2)⟩
  refine(h.2 _ w cargs R0 hr0).mono ?_;rintro e' w' ⟨r,H',Γ',hend,⟨v,rfl,hf⟩,R',E,hn⟩;have only:∀j x,cY (fun j=>j≠id) Γ j=some x->j=id/\Γ id=some x:=fun j x hj=>by
    obtain⟨h1,h2⟩:=gY hj;have hji:j=id:=So.1 h1;subst hji;exact⟨rfl,h2⟩
  have same:∀b,b<w.heap.size->(∀base n,Γ id≠some (b,base,n))->w'.heap[b]?=w.heap[b]?:=fun b hb hno=>(E.na b hb fun ⟨j,base,n,hj⟩=>hno base n (only j _ hj).2).1;have E2:Ta Γ H w Γ H w':=⟨E.os,E.tape,E.output,E.size,fun b hb ho=>⟨same b hb fun base n h=>ho ⟨id,base,n,h⟩,ho⟩,fun _ _ _ x' hx=>⟨x',hx,S7.le_refl _ _ _⟩,E.np,E.kind,.refl _ _⟩
  have other:∀j b base n,Γ j=some (b,base,n)->j≠id->w'.heap[b]?=w.heap[b]?:=fun j b base n hj hji=>same b (R.lt _ _ _ _ hj) fun base' n' h=>hji (R.inj _ _ _ _ _ _ _ hj h);have R2:S9 P G Γ H w' :=
    { L:=fun j g1 e1 cells h1=>by
        have h2:=R.L j g1 e1 cells h1;cases hΓ:Γ j with
        |none=>rw[hΓ]at h2;exact h2
        |some y =>
          obtain⟨b,base,n⟩:=y;rw[hΓ]at h2;obtain⟨c,a1,a2,a3,a4⟩:=h2;by_cases hji:j=id
          · subst hji;rw[hg]at h1;cases h1;obtain⟨c',b1,b2⟩:=E.kind b c e (0,0) a1;exact⟨c',b1,b2.trans a2,a3,fun i hi=>absurd hi (PS _)⟩
          · exact⟨c,by rw[other j b base n hΓ hji];exact a1,a2,a3,fun i hi=>let ⟨cv,b1,b2⟩:=a4 i hi;⟨cv,b1,b2.aV E2 S0⟩⟩
      loop:=fun j st pend n env ps asg body h1=>by
        have hji:j≠id:=fun h=>by rw[h,hg]at h1;cases h1
        obtain⟨b,rr,a1,a2,a3,a4,a5,a6,a7,a8,a9⟩:=R.loop j st pend n env ps asg body h1;exact⟨b,rr,a1,by rw[other j b 0 0 a1 hji];exact a2,a3,a4,a5,a6,a7,a8,fun t ht=>(a9 t ht).aV E2 S0⟩
      mp:=fun j es h1=>by
        have hji:j≠id:=fun h=>by rw[h,hg]at h1;cases h1
        obtain⟨b,a1,a2⟩:=R.mp j es h1;exact⟨b,a1,by rw[other j b 0 0 a1 hji];exact a2⟩
      ni:=R.ni
      inj:=R.inj
      nv:=R.nv
      lt:=fun j b base n h=>PL (R.lt j b base n h) E.size
      C:=R.C
      nr:=fun g cells h=>(R.nr g cells h).aV E2 (Nat.le_refl _)
      gsz:=R.kZ E2 }
  refine⟨.ret v',H,Γ,?_,⟨rfl,rfl⟩,R2,E2,S0⟩;cases e' with
  |returned cv =>
    refine Tq.sound (N:=w.heap.size) R' (fun j b x y hj hb=>?_) (fun b ⟨j,base,n,hb⟩=>R.lt _ _ _ _ hb) hf hend;refine R7 fun hlt=>?_;obtain⟨x',y',h3⟩:=E.newb j b x y hb hlt;have:=(only j _ h3).1;omega
  |_=>exact hend.elim
end Go.Hx
namespace Go.Hx.Ev
open Go.Hx
variable {P:Program} {G:Nat->Option (List S1)} {Γ Γ':aq} {H H':S2} {w w':World}
variable {r:Nat}{e g:Nat->Option S7}
def bK (e g:Nat->Option S7):Nat->Option S7:=fun j=>match e j with
 |some b=>some b
 |none=>g j
def j9 (e:Option (Nat × S7)):Nat->Option S7:=fun j=>match e with
 |some (k,b)=>if j=k then some b else none
 |none=>none
def xI (e:Option (Nat × S7))(g:Nat->Option S7):bK (j9 e) g=cX e g:=by
 funext j
 cases e with
 |none=>rfl
 |some kb =>
  obtain⟨k,b⟩:=kb;simp only[bK,j9,cX];by_cases h:j=k
  ·rw[PG h,PG h]
  ·rw[PC h,PC h]
def iU (P:Program)(G:Nat->Option (List S1))(fv:S1)(args:List S1)(H:S2)(v:S1)(e:Nat->Option S7)(k:Nat)(f:FP):Prop :=
 (∀r,r∈f.rs->r<H.C)/\(∀r,(e r).isSome=true->r∈f.nk/\((r∈f.rs/\∃g t c,H.get r=some (.L g t c))\/(H.C<=r/\r<H.C+k)))/\(∀c,c<k->(e (H.C+c)).isSome=true) /\
 ∀H2:S2,(∀r,r∈f.rs->H2.get r=H.get r)->(∀c,c<k->H2.get (H.C+c)=some .ni)->H.C+k<=H2.C->aH P G fv args H2 fun r H3=>r=.ret v/\H3=⟨bK e H2.get,H2.C⟩
def bz (P:Program)(G:Nat->Option (List S1))(o:Oper)(K:FP->St->Prop)(s:St):Prop :=
 match o.op with
 |.call { callee:=.value fv,args,.. }=>∃v e k f,iU P G (aj G s.ρ fv) (args.toList.map (aj G s.ρ)) s.H v e k f/\K f ⟨aD s.ρ o.dst v,⟨bK e s.H.get,s.H.C+k⟩⟩
 |op=>bb (ah P G s.ρ s.H s.H.C op) fun vH=>K (bp P G s.ρ s.H.C op) ⟨aD s.ρ o.dst vH.1,vH.2⟩
def cz (P:Program)(G:Nat->Option (List S1))(all:Array Oper)(tail:St->Prop):List Nat->Nat->List (Nat × FP)->List Oper->St->Prop
 |b :: bs,i,acc,o :: rest,s=>bb (dD all s.ρ o) fun t=>if t=true then bz P G o (fun f s'=>eR b f acc/\cz P G all tail bs (i+1) (dS i f acc) rest s') s
   else cz P G all tail bs (i+1) acc rest ⟨aD s.ρ o.dst (.lit undef),s.H⟩
 |_,_,_,[],s=>tail s
 | [],_,_,_ :: _,_=>False
structure Dt where
 v:S1
 e:Nat->Option S7
 al:Nat
 f:FP
def ba (all:Array Oper)(d:Nat->Dt)(ρ0:Env):Nat->(Nat->Bool)->Env
 |0,_=>ρ0
 |n+1,D=>if D n then aD (ba all d ρ0 n D) (eF all n) (d n).v else ba all d ρ0 n D
def aQ (d:Nat->Dt)(g0:Nat->Option S7):Nat->(Nat->Bool)->Nat->Option S7
 |0,_=>g0
 |n+1,D=>if D n then bK (d n).e (aQ d g0 n D) else aQ d g0 n D
def aA (d:Nat->Dt):Nat->Nat
 |0=>0
 |n+1=>aA d n+(d n).al
def cI (x:Dt)(r:Nat):Prop:=(x.e r).isSome=true
def ka (h:¬(e r).isSome=true):bK e g r=g r:=by
 unfold bK;cases he:e r with
 |none=>rfl
 |some b=>rw[he]at h;exact absurd rfl h
def xJ {g':Nat->Option S7}(h:(e r).isSome=true):bK e g r=bK e g' r:=by
 unfold bK;cases he:e r with
 |none=>rw[he]at h;cases h
 |some b=>rfl
def ua {g':Nat->Option S7}(h:g r=g' r):bK e g r=bK e g' r:=by
 unfold bK;rw[h]
def Da {e':Nat->Option S7}(h:∀r,(e r).isSome=true->¬(e' r).isSome=true):bK e' (bK e g)=bK e (bK e' g):=by
 funext r
 by_cases hx:(e r).isSome=true
 ·rw[ka (h r hx)];exact xJ hx
 ·rw[ka (g:=bK e' g) hx];exact ua (ka hx)
section
variable {all:Array Oper} {d d':Nat->Dt} {ρ0:Env} {g0 g0':Nat->Option S7} {D D':Nat->Bool}
def lf {t:Tmp}:∀ {n:Nat},(∀j,j<n->eF all j=some t->D j=D' j)->ba all d ρ0 n D t=ba all d ρ0 n D' t:=by
 intro n
 induction n with
 |zero=>intro _;rfl
 |succ n ih =>
  intro h;have h0:=ih fun j hj=>h j U;simp only[ba];by_cases hd:eF all n=some t
  ·rw[h n U hd];split
   ·exact qG h0
   ·exact h0
  ·have:∀(b:Bool) (ρ:Env),(if b=true then aD ρ (eF all n) (d n).v else ρ) t=ρ t:=by
    intro b ρ;split
    ·exact mE hd
    ·rfl
   rw[this,this];exact h0
def ub {m:Nat}:∀ {n:Nat},m<=n->ba all d ρ0 n (fun j=>decide (j<m))=ba all d ρ0 m fun _=>true:=by
 have low:∀k,k<=m->ba all d ρ0 k (fun j=>decide (j<m))=ba all d ρ0 k fun _=>true:=by
  intro k
  induction k with
  |zero=>intro _;rfl
  |succ k ih =>
   intro hk;simp only[ba];rw[ih U,PG (by simp;omega)];simp
 intro n
 induction n with
 |zero =>
  intro hm;obtain rfl:m=0:=U
  exact low 0 (U)
 |succ n ih =>
  intro hm;by_cases h:m=n+1
  ·subst h;exact low (n+1) (U)
  ·simp only[ba];rw[PC (by simp;omega)];exact ih (U)
def lg {r:Nat}:∀ {n:Nat},(∀j,j<n->cI (d j) r->D j=D' j)->aQ d g0 n D r=aQ d g0 n D' r:=by
 intro n
 induction n with
 |zero=>intro _;rfl
 |succ n ih =>
  intro h;have h0:=ih fun j hj=>h j U;simp only[aQ];by_cases hd:cI (d n) r
  ·rw[h n U hd];split
   ·exact ua h0
   ·exact h0
  ·have:∀(b:Bool) (g:Nat->Option S7),(if b=true then bK (d n).e g else g) r=g r:=by
    intro b g;split
    ·exact ka hd
    ·rfl
   rw[this,this];exact h0
def uc {m:Nat}:∀ {n:Nat},m<=n->aQ d g0 n (fun j=>decide (j<m))=aQ d g0 m fun _=>true:=by
 have low:∀k,k<=m->aQ d g0 k (fun j=>decide (j<m))=aQ d g0 k fun _=>true:=by
  intro k
  induction k with
  |zero=>intro _;rfl
  |succ k ih =>
   intro hk;simp only[aQ];rw[ih U,PG (by simp;omega)];simp
 intro n
 induction n with
 |zero =>
  intro hm;obtain rfl:m=0:=U
  exact low 0 (U)
 |succ n ih =>
  intro hm;by_cases h:m=n+1
  ·subst h;exact low (n+1) (U)
  ·simp only[aQ];rw[PC (by simp;omega)];exact ih (U)
def oa {r:Nat}:∀ {n:Nat},(g0 r=g0' r\/∃j,j<n/\D j=true/\cI (d j) r)->aQ d g0 n D r=aQ d g0' n D r:=by
 intro n
 induction n with
 |zero =>
  rintro(h|⟨j,hj,_⟩)
  ·exact h
  ·omega
 |succ n ih =>
  intro h;simp only[aQ];by_cases hD:D n=true
  ·rw[PG hD,PG hD];by_cases ht:cI (d n) r
   ·exact xJ ht
   ·refine ua (ih ?_);rcases h with h|⟨j,hj,h1,h2⟩
    ·exact .inl h
    ·by_cases hjn:j=n
     ·subst hjn;exact absurd h2 ht
     ·exact .inr ⟨j,U,h1,h2⟩
  ·rw[PC hD,PC hD];refine ih ?_;rcases h with h|⟨j,hj,h1,h2⟩
   ·exact .inl h
   ·by_cases hjn:j=n
    ·subst hjn;exact absurd h1 hD
    ·exact .inr ⟨j,U,h1,h2⟩
def ud {r:Nat}:∀ {n:Nat},(∀j,j<n->D j=true->¬cI (d j) r)->aQ d g0 n D r=g0 r:=by
 intro n
 induction n with
 |zero=>intro _;rfl
 |succ n ih =>
  intro h;simp only[aQ];split
  ·rename_i hD;rw[ka (h n U hD)];exact ih fun j hj=>h j (U)
  ·exact ih fun j hj=>h j (U)
def bA (D:Nat->Bool)(i:Nat):Nat->Bool:=fun j=>if j=i then true else D j
def ue {i:Nat}(hD:D i=false):∀ {n:Nat},i<n->(∀j,i<j->j<n->D j=true->∀t,eF all i=some t->eF all j≠some t) ->
  ba all d ρ0 n (bA D i)=aD (ba all d ρ0 n D) (eF all i) (d i).v:=by
 intro n
 induction n with
 |zero=>intro h;omega
 |succ n ih =>
  intro hi h;by_cases hin:i=n
  ·subst hin;have h0:ba all d ρ0 i (bA D i)=ba all d ρ0 i D:=funext fun t=>lf fun j hj _=>by simp[bA,RS hj]
   simp only[ba];rw[PG (by simp[bA]),PC (by simp[hD]),h0]
  ·have hw:bA D i n=D n:=(by simp[bA,Ne.symm hin]);have h0:=ih U fun j h1 h2=>h j h1 U;simp only[ba,hw];split
   ·rename_i hDn;rw[h0];exact yD (h n U U hDn)
   ·exact h0
def uf {i:Nat}(hD:D i=false):∀ {n:Nat},i<n->(∀j,i<j->j<n->D j=true->∀t,cI (d i) t->¬cI (d j) t) ->
  aQ d g0 n (bA D i)=bK (d i).e (aQ d g0 n D):=by
 intro n
 induction n with
 |zero=>intro h;omega
 |succ n ih =>
  intro hi h;by_cases hin:i=n
  ·subst hin;have h0:aQ d g0 i (bA D i)=aQ d g0 i D:=funext fun t=>lg fun j hj _=>by simp[bA,RS hj]
   simp only[aQ];rw[PG (by simp[bA]),PC (by simp[hD]),h0]
  ·have hw:bA D i n=D n:=(by simp[bA,Ne.symm hin]);have h0:=ih U fun j h1 h2=>h j h1 U;simp only[aQ,hw];split
   ·rename_i hDn;rw[h0];exact Da (h n U U hDn)
   ·exact h0
def mq {m n:Nat}(h:m<=n):aA d m<=aA d n:=by
 induction n with
 |zero =>
  have:m=0:=U
  subst this;exact Nat.le_refl _
 |succ n ih =>
  by_cases hm:m=n+1
  ·subst hm;exact Nat.le_refl _
  ·exact Qm (ih U) (by simp[aA])
def oh {n c:Nat}(h:c<aA d n):∃j,j<n/\aA d j<=c/\c<aA d j+(d j).al:=by
 induction n with
 |zero=>simp[aA]at h
 |succ n ih =>
  by_cases hc:c<aA d n
  ·obtain⟨j,h1,h2⟩:=ih hc;exact⟨j,U,h2⟩
  ·simp only[aA]at h;exact⟨n,U,U,U⟩
def iV {i n:Nat}(h:i<n):aA d i+(d i).al<=aA d n:=by
 have:=mq (d:=d) (m:=i+1) (n:=n) h;simpa only[aA] using this
def om {n:Nat}(h:∀j,j<n->d j=d' j):ba all d ρ0 n D=ba all d' ρ0 n D:=by
 induction n with
 |zero=>rfl
 |succ n ih=>simp only[ba];rw[ih fun j hj=>h j U,h n U]
def oo {n:Nat}(h:∀j,j<n->d j=d' j):aQ d g0 n D=aQ d' g0 n D:=by
 induction n with
 |zero=>rfl
 |succ n ih=>simp only[aQ];rw[ih fun j hj=>h j U,h n U]
def dQ {n:Nat}(h:∀j,j<n->d j=d' j):aA d n=aA d' n:=by
 induction n with
 |zero=>rfl
 |succ n ih=>simp only[aA];rw[ih fun j hj=>h j U,h n U]
end
def ExecOk (P:Program)(G:Nat->Option (List S1))(all:Array Oper)(o:Oper)(id:Nat)(s s':St):Prop :=
 (dD all s.ρ o=some false/\s'=⟨aD s.ρ o.dst (.lit undef),s.H⟩) \/
 (dD all s.ρ o=some true/\∃v,s'.ρ=aD s.ρ o.dst v /\
  (ah P G s.ρ s.H id o.op=some (v,s'.H) \/
   ∃fv args ats,o.op=.call ⟨.value fv,args,ats⟩/\(∀id st pend m env ps asg body,s.H.get id=some (.loop st pend m env ps asg body)->s'.H.get id=s.H.get id)/\aH P G (aj G s.ρ fv) (args.toList.map (aj G s.ρ)) s.H fun r H3=>r=.ret v/\H3=s'.H))
def ug {n:Nat}{wb:Tu}{rd rb:Option Nat}{all:Array Oper}{o:Oper}{id i:Nat}{s s':St}{a:Act}{C:Act->World->Prop}{Q':Exit->Act->World->Prop}(ho:all[i]?=some o)(hd:ee n o=true)
  (hs:Ti P G n wb Γ s a w) (hr:cU Γ s.H rd rb) (h:ExecOk P G all o id s s')
  (hnext:∀ Γ' a' w',Ti P G n wb Γ' s' a' w'->Ta Γ s.H w Γ' s'.H w'->s.H.C<=s'.H.C->cU Γ' s'.H rd rb->(∃cv,a'=a.put o.dst cv)->C a' w'):
  wpOpIn (cV rb) 0 P all Q' i C a w:=by
 have hdst:∀d,o.dst=some d->d<n:=by
  intro d hd';unfold ee at hd;rw[hd']at hd;simpa using hd
 unfold wpOpIn;rw[ho];simp only;rcases h with ⟨hw,rfl⟩|⟨hw,v,hρ,h⟩
 ·rw[mw hs hw];simp only[Bool.false_eq_true,if_false];refine⟨fun _ _=>trivial,?_⟩;have hs':=ix (v:=.lit undef) (cv:=undef) hs hdst (Ta.refl Γ s.H w) S0 hs.heap (.lit _);exact hnext Γ _ w hs' (Ta.refl _ _ _) S0 hr ⟨_,rfl⟩
 ·rw[mw hs hw];simp only[if_true];obtain⟨ρ',H'⟩:=s';simp only at hρ;subst hρ;refine⟨fun _ _=>trivial,?_⟩;rcases h with hop|⟨fv,args,ats,hop,hH,hap⟩
  ·simp only at hop;rw[Oper.semAt_eq _ _ _ (fun c hc=>by rw[hc]at hop;simp[ah]at hop)];obtain⟨nx,cv,Γ',w',hrun,hnx,E,hn,R,hv⟩:=uA hs.heap (fP hs) hop;rw[hrun];have hri:=uD hr (uE hs.heap hop);have hs':=ix hs hdst E hn R hv;have hr':=hr.aV E hn hs.heap hri;rcases hnx with rfl|⟨rfl,rfl⟩
   ·exact hnext Γ' _ w' hs' E hn hr' ⟨_,rfl⟩
   ·exact hnext Γ' _ w' hs' E hn hr' ⟨_,rfl⟩
  ·rw[Oper.semAt_eq _ _ _ (fun c hc=>by rw[hc]at hop;cases hop)];obtain⟨d,h1,h2⟩:=hap Γ w (a.eval fv) (args.map a.eval) hs.heap (fP hs fv) ⟨SX,fun i h1 h2=>by simp only[PK,Rx,Qt];exact fP hs _⟩;have hex:(execOp a.eval o).run P w=(invoke d.target d.args).run P w:=by
    unfold execOp;simp only[hop];unfold resolve;simp only;rw[ak h1]
   have hri:dR H' rd:=by
    cases rd with
    |none=>trivial
    |some id =>
     obtain⟨b,st,pend,n,env,ps,asg,body,_,_,h3⟩:=hr;exact⟨_,_,_,_,_,_,_,(hH _ _ _ _ _ _ _ _ h3).trans h3⟩
   have cont:∀e w',fQ P G Γ s.H w (fun r H3=>r=.ret v/\H3=H') e w'->(match e with
     |.returned v=>C (a.put o.dst v) w'
     |.panicked chain=>Q' (.panic chain) a w'
     |.outgrown=>LetsOut Q'):=by
    rintro e w' ⟨r,H4,Γ',hend,⟨rfl,rfl⟩,R,E,hn⟩;have hr':=hr.aV E hn hs.heap hri;cases e with
    |returned cv=>exact hnext Γ' _ w' (ix hs hdst E hn R hend) E hn hr' ⟨_,rfl⟩
    |panicked chain=>exact hend.elim
    |outgrown=>exact hend.elim
   rw[hex];rcases h2 with ⟨f,as,h3,h4⟩|⟨l,f,tm,asg,body,h3,h4⟩|⟨cv,w',h3,h4⟩
   ·rw[h3];refine⟨fun hc=>by simp[Fence.wide]at hc,?_⟩;have h4':CallsIn (cV rb) 0 P f as w _:=h4;refine h4'.mono ?_;intro e w' hp;have:=cont e w' hp;cases e<;>exact this
   ·rw[h3];refine⟨fun hc=>by simp[Fence.wide]at hc,?_⟩;have h4':RoundIn (cV rb) 0 P l f tm asg body w _:=h4;refine h4'.mono ?_;intro e w' hp;have:=cont e w' hp;cases e<;>exact this
   ·rw[h3];exact cont (.returned cv) w' h4
def jv (d:Nat->Dt)(H0:S2)(m:Nat):S2:=⟨aQ d H0.get m fun _=>true,H0.C+aA d m⟩
def canon (all:Array Oper)(d:Nat->Dt)(s0:St)(m:Nat):St:=⟨ba all d s0.ρ m fun _=>true,jv d s0.H m⟩
structure Tc (P:Program)(G:Nat->Option (List S1))(all:Array Oper)(bs:List Nat)(s0:St)(d:Nat->Dt)(i:Nat):Prop where
 step:∀o,all[i]?=some o->∀ ρ2 H2,(∀t,t∈o.looksAt all->ρ2 t=(canon all d s0 i).ρ t)->(∀r,r∈(d i).f.rs->H2.get r=(canon all d s0 i).H.get r) ->
  (∀c,c<(d i).al->H2.get (s0.H.C+aA d i+c)=some .ni)->s0.H.C+aA d i+(d i).al<=H2.C ->
  ExecOk P G all o (s0.H.C+aA d i) ⟨ρ2,H2⟩ ⟨aD ρ2 o.dst (d i).v,⟨bK (d i).e H2.get,H2.C⟩⟩
 nk:∀r,cI (d i) r->r∈(d i).f.nk/\(r∈(d i).f.rs\/(s0.H.C+aA d i<=r/\r<s0.H.C+aA d i+(d i).al))
 al:∀c,c<(d i).al->cI (d i) (s0.H.C+aA d i+c)
 lt:∀r,r∈(d i).f.rs->r<s0.H.C+aA d i
 apart:∀j,j<i->(cJ bs i).testBit j=false->(∀r,r∈(d i).f.nk->r ∉ (d j).f.rs)/\(∀r,r∈(d j).f.nk->r ∉ (d i).f.rs)
def bD (d:Nat->Dt)(m:Nat)(x:Dt):Nat->Dt:=fun j=>if j=m then x else d j
def eP {d:Nat->Dt}{m:Nat}{x:Dt}{i:Nat}(h:i<m):d i=bD d m x i:=by simp[bD,RS h]
def bX {d:Nat->Dt}{m:Nat}{x:Dt}:bD d m x m=x:=by simp[bD]
def jx {all:Array Oper}{d d':Nat->Dt}{s0:St}{m:Nat}(h:∀j,j<m->d j=d' j):canon all d s0 m=canon all d' s0 m:=by
 unfold canon jv;rw[om h,oo h,dQ h]
def Tc.below {all:Array Oper}{bs:List Nat}{s0:St}{d d':Nat->Dt}{i:Nat}(g:Tc P G all bs s0 d i)(h:∀j,j<=i->d j=d' j):Tc P G all bs s0 d' i:=by
 have hi:=h i S0;have hn:aA d i=aA d' i:=dQ fun j hj=>h j U;have hc:canon all d s0 i=canon all d' s0 i:=jx fun j hj=>h j U;obtain⟨a,b,c,e,f⟩:=g;refine⟨?_,?_,?_,?_,?_⟩
 ·rw[<- hi,<- hn,<- hc];exact a
 ·rw[<- hi,<- hn];exact b
 ·rw[<- hi,<- hn];exact c
 ·rw[<- hi,<- hn];exact e
 ·intro j hj hb;rw[<- hi,<- h j U];exact f j hj hb
def ir (d:Nat->Dt)(m:Nat)(acc:List (Nat × FP)):Prop:=∀j,j<m->(d j).f=⟨[],[]⟩\/(j,(d j).f)∈acc
def ir.add {d:Nat->Dt}{m:Nat}{acc:List (Nat × FP)}(h:ir d m acc)(x:Dt):ir (bD d m x) (m+1) (dS m x.f acc):=by
 intro j hj;have key:∀p,p∈acc->p∈dS m x.f acc:=by
  intro p hp;unfold dS;split
  ·exact hp
  ·exact Qs _ hp
 by_cases hjm:j=m
 ·subst hjm;rw[bX];by_cases hf:x.f=⟨[],[]⟩
  ·exact .inl hf
  ·refine .inr ?_;unfold dS;split
   ·rename_i h0;exact absurd h0 hf
   ·exact QP
 ·rw[<- eP (x:=x) U];exact(h j U).imp id (key _)
def ot {d:Nat->Dt}{m:Nat}{acc:List (Nat × FP)}{b:Nat}{f:FP}(hc:ir d m acc)(h:eR b f acc):∀j,j<m->b.testBit j=false->(∀r,r∈f.nk->r ∉ (d j).f.rs)/\(∀r,r∈(d j).f.nk->r ∉ f.rs):=by
 intro j hj hb;rcases hc j hj with h0|h1
 ·rw[h0];exact⟨fun r _ h=>(by cases h),fun r h=>(by cases h)⟩
 ·exact h _ h1 hb
def lh {all:Array Oper}{d:Nat->Dt}{s0:St}{m:Nat}{x:Dt}{o:Oper}(ho:all[m]?=some o):
  canon all (bD d m x) s0 (m+1)=⟨aD (canon all d s0 m).ρ o.dst x.v,⟨bK x.e (canon all d s0 m).H.get,(canon all d s0 m).H.C+x.al⟩⟩:=by
 have hb:∀j,j<m->d j=bD d m x j:=fun j hj=>eP hj;unfold canon jv;simp only[ba,aQ,aA,if_true,bX];rw[<- om hb,<- oo hb,<- dQ hb];simp only[eF,ho,Option.bind_some,Rb]
def lj {all:Array Oper}{bs:List Nat}{s0:St}{d:Nat->Dt}{m:Nat}{x:Dt}(hg:∀i,i<m->Tc P G all bs s0 d i)(hx:Tc P G all bs s0 (bD d m x) m):
  ∀i,i<m+1->Tc P G all bs s0 (bD d m x) i:=by
 intro i hi;by_cases him:i=m
 ·subst him;exact hx
 ·exact(hg i U).below fun j hj=>eP (U)
def trace {all:Array Oper}{bs:List Nat}{s0:St}{tail:St->Prop}{K:Nat}(hbs:bs.length=K)(hK:K<=all.size):∀(k m:Nat) (d:Nat->Dt) (acc:List (Nat × FP)),k+m=K ->
  (∀i,i<m->Tc P G all bs s0 d i)->ir d m acc->ef (canon all d s0 m).H->cz P G all tail (bs.drop m) m acc ((all.toList.take K).drop m) (canon all d s0 m) ->
  ∃d',(∀i,i<K->Tc P G all bs s0 d' i)/\tail (canon all d' s0 K):=by
 intro k
 induction k with
 |zero =>
  intro m d acc hm hg hc wf h;obtain rfl:m=K:=U
  refine⟨d,hg,?_⟩;have:(all.toList.take m).drop m=[]:=by
   apply Sa;simp only[PQ];omega
  rw[this]at h;cases hb:bs.drop m with
  |nil=>rw[hb]at h;simpa only[cz] using h
  |cons b bs'=>rw[hb]at h;simpa only[cz] using h
 |succ k ih =>
  intro m d acc hm hg hc wf h;have hmK:m<K:=U
  have hms:m<all.size:=U
  have ho:all[m]?=some all[m]:=PM hms;have hbm:bs.drop m=cJ bs m :: bs.drop (m+1):=by
   rw[Qd U];congr 1;simp[cJ,PB (show m<bs.length by omega)]
  have hom:(all.toList.take K).drop m=all[m] :: (all.toList.take K).drop (m+1):=by
   rw[Qd (by simp only[PQ,Q7];omega)];congr 1;simp
  rw[hbm,hom]at h;simp only[cz]at h;obtain⟨t,ht,h⟩:=h;have hnext:(canon all d s0 m).H.C=s0.H.C+aA d m:=rfl;cases t with
  |false =>
   simp only[Bool.false_eq_true,if_false]at h
   let x:Dt:=⟨.lit undef,fun _=>none,0,⟨[],[]⟩⟩
   have hb:∀j,j<m->d j=bD d m x j:=fun j hj=>eP hj;have hcan:canon all (bD d m x) s0 (m+1)=⟨aD (canon all d s0 m).ρ all[m].dst (.lit undef),(canon all d s0 m).H⟩:=lh ho;have hgx:Tc P G all bs s0 (bD d m x) m:=by
    refine⟨?_,?_,?_,?_,?_⟩
    ·rw[bX,<- jx hb];intro o ho' ρ2 H2 h1 h2 h3 _;rw[ho]at ho';cases ho';refine .inl ⟨?_,rfl⟩;simp only;rw[mF h1,ht]
    ·rw[bX];intro k he;cases he
    ·rw[bX];intro c he;exact absurd he (PS _)
    ·rw[bX];intro r hr;cases hr
    ·rw[bX];intro j hj hbit;exact⟨fun r hr=>(by cases hr),fun r hr hr'=>(by cases hr')⟩
   refine ih (m+1) (bD d m x) acc U (lj hg hgx) (hc.add x) ?_ ?_
   ·rw[hcan];exact wf
   ·rw[hcan];exact h
  |true =>
   simp only[if_true]at h;unfold bz at h;split at h
   ·rename_i fv args ats hop;obtain⟨v,e,k,f,⟨hlt,heff,hnew,hcall⟩,hap,h⟩:=h
    let x:Dt:=⟨v,e,k,f⟩
    have hb:∀j,j<m->d j=bD d m x j:=fun j hj=>eP hj;have hcan:canon all (bD d m x) s0 (m+1)=⟨aD (canon all d s0 m).ρ all[m].dst v,⟨bK e (canon all d s0 m).H.get,(canon all d s0 m).H.C+k⟩⟩:=lh ho;have hgx:Tc P G all bs s0 (bD d m x) m:=by
     refine⟨?_,?_,?_,?_,?_⟩
     ·rw[bX,<- jx hb,<- dQ hb];intro o ho' ρ2 H2 h1 h2 h3 h4;rw[ho]at ho';cases ho';refine .inr ⟨?_,v,rfl,.inr ⟨fv,args,ats,hop,?_,?_⟩⟩
      ·simp only;rw[mF h1,ht]
      ·intro id st pend q env ps asg body hid;refine ka fun hs=>?_;rcases(heff id hs).2 with ⟨hrs,g,t,c,hg⟩|⟨g1,g2⟩
       ·have e9:=h2 id hrs;simp only at hid;rw[hid,hg]at e9;cases e9
       ·obtain⟨c,rfl⟩:∃c,id=(canon all d s0 m).H.C+c:=⟨id-(canon all d s0 m).H.C,U⟩
        have e9:H2.get ((canon all d s0 m).H.C+c)=some .ni:=h3 c (show c<k by omega);simp only at hid;rw[hid]at e9;cases e9
      ·have hev:=qI (G:=G) h1;have e1:aj G ρ2 fv=aj G (canon all d s0 m).ρ fv:=hev fv (by simp[hop,Op.operands,Call.operands]);have e2:args.toList.map (aj G ρ2)=args.toList.map (aj G (canon all d s0 m).ρ) :=
        Q5 fun y hy=>hev y (by simp only[hop,Op.operands,Call.operands];simp;exact .inr (by simpa using hy))
       simp only;rw[e1,e2];exact hcall H2 h2 h3 h4
     ·rw[bX,<- dQ hb];intro r hr;exact⟨(heff r hr).1,(heff r hr).2.imp (fun h=>h.1) id⟩
     ·rw[bX,<- dQ hb];exact hnew
     ·rw[bX,<- dQ hb];exact hlt
     ·rw[bX];intro j hj hbit;rw[<- eP hj];exact ot hc hap j hj hbit
    refine ih (m+1) (bD d m x) _ U (lj hg hgx) (hc.add x) ?_ ?_
    ·rw[hcan];intro id b hid;show id<(canon all d s0 m).H.C+k;simp only at hid;by_cases hs:(e id).isSome=true
     ·rcases(heff id hs).2 with ⟨hrs,_⟩|⟨_,g2⟩
      ·have:=hlt id hrs;omega
      ·exact g2
     ·rw[ka hs]at hid;have:=wf id b hid;omega
    ·rw[hcan];exact h
   ·obtain⟨⟨v,H'⟩,hop,hap,h⟩:=h;obtain⟨e,al,hget,hnx,heff,hal,hlt,hloc⟩:=uL wf hop
    let x:Dt:=⟨v,j9 e,(if al=true then 1 else 0),bp P G (canon all d s0 m).ρ (canon all d s0 m).H.C all[m].op⟩
    have hb:∀j,j<m->d j=bD d m x j:=fun j hj=>eP hj;have hcan:canon all (bD d m x) s0 (m+1)=⟨aD (canon all d s0 m).ρ all[m].dst v,H'⟩:=by
     rw[lh ho];congr 1;cases H';simp only at hget hnx;simp only[S2.mk.injEq];refine⟨(xI _ _).trans hget.symm,?_⟩;rw[hnx];simp only[x];cases al<;>simp
    have hgx:Tc P G all bs s0 (bD d m x) m:=by
     refine⟨?_,?_,?_,?_,?_⟩
     ·rw[bX,<- jx hb,<- dQ hb];intro o ho' ρ2 H2 h1 h2 h3 h4;rw[ho]at ho';cases ho';refine .inr ⟨?_,v,rfl,.inl ?_⟩
      ·simp only;rw[mF h1,ht]
      ·simp only;rw[yC (ρ':=(canon all d s0 m).ρ) (qI h1),xI];refine hloc H2 h2 fun ha=>?_;subst ha;have h5:=h3 0 (by simp[x]);simp only[x,if_true]at h4;refine⟨h5,?_⟩;rw[hnext];omega
     ·rw[bX,<- dQ hb];intro r hr;unfold cI at hr;simp only[x,j9]at hr;cases he:e with
      |none=>rw[he]at hr;cases hr
      |some kb =>
       obtain⟨k0,b0⟩:=kb;rw[he]at hr;simp only at hr;by_cases hrk:r=k0
       ·subst hrk;obtain⟨h1,h2⟩:=heff r b0 he;refine⟨h1,?_⟩;cases hal2:al with
        |false=>exact .inl (h2 hal2)
        |true =>
         obtain⟨b1,hb1⟩:=hal hal2;rw[he]at hb1;simp only[Option.some.injEq,Prod.mk.injEq]at hb1;refine .inr ?_;simp only[x,hal2,if_true];rw[hnext]at hb1;omega
       ·rw[PC hrk]at hr;cases hr
     ·rw[bX,<- dQ hb];intro c hc2;cases hal2:al with
      |false=>simp[x,hal2]at hc2
      |true =>
       simp only[x,hal2,if_true]at hc2;obtain⟨b1,hb1⟩:=hal hal2;obtain rfl:c=0:=U;unfold cI;simp only[x,j9,hb1,Nat.add_zero];rw[hnext];simp
     ·rw[bX,<- dQ hb];exact hlt
     ·rw[bX];intro j hj hbit;rw[<- eP hj];exact ot hc hap j hj hbit
    have wf':ef H':=by
     intro id b hid;rw[hget]at hid;rw[hnx];cases e with
     |none =>
      have:=wf id b hid;split<;>omega
     |some kb =>
      obtain⟨k0,b0⟩:=kb;simp only[cX]at hid;split at hid
      ·rename_i hk;subst hk;cases al with
       |true =>
        obtain⟨b1,hb1⟩:=hal rfl;simp only[Option.some.injEq,Prod.mk.injEq]at hb1;simp only[if_true];omega
       |false =>
        have:=hlt _ ((heff id b0 rfl).2 rfl);simpa using this
      ·have:=wf id b hid;split<;>omega
    refine ih (m+1) (bD d m x) _ U (lj hg hgx) (hc.add x) ?_ ?_
    ·rw[hcan];exact wf'
    ·rw[hcan];exact h
end Go.Hx.Ev
namespace Go.Hx.Ev
open Go.Hx
variable {P:Program} {G:Nat->Option (List S1)} {Γ Γ':aq} {H H':S2} {w w':World}
variable {D:Nat->Bool}{d:Nat->Dt}{s0:St}
def dw (all:Array Oper)(d:Nat->Dt)(s0:St)(K:Nat)(D:Nat->Bool):St :=
 ⟨ba all d s0.ρ K D,⟨aQ d (bu s0.H (aA d K)).get K D,s0.H.C+aA d K⟩⟩
def ui {all:Array Oper}{bs:List Nat}{K:Nat}(S:Tz all bs K)(hg:∀i,i<K->Tc P G all bs s0 d i){i:Nat}{o:Oper}(hi:i<K)(ho:all[i]?=some o)(hDi:D i=false)
  (hdown:∀j,j<i->(cJ bs i).testBit j=true->D j=true) (hup:∀j,i<j->j<K->D j=true->(cJ bs j).testBit i=false):
  ExecOk P G all o (s0.H.C+aA d i) (dw all d s0 K D) (dw all d s0 K (bA D i)):=by
 have hget:∀j,j<K->∃oj,all[j]?=some oj:=fun j hj=>⟨_,PM (PL hj S.le)⟩
 have hgi:=hg i hi;have tgtE:∀j r,j<K->cI (d j) r->r∈(d j).f.nk/\(r∈(d j).f.rs\/(s0.H.C+aA d j<=r/\r<s0.H.C+aA d j+(d j).al)):=fun j r hj ht=>(hg j hj).nk r ht;have rangeK:∀r,r<s0.H.C+aA d i->((bu s0.H (aA d K)).get r=s0.H.get r\/∃j,j<i/\(fun _:Nat=>true) j=true/\cI (d j) r):=by
  intro r hr;by_cases h:s0.H.C<=r
  ·obtain⟨j,h1,h2,h3⟩:=oh (d:=d) (n:=i) (c:=r-s0.H.C) U;have:=(hg j U).al (r-s0.H.C-aA d j) U;rw[show s0.H.C+aA d j+(r-s0.H.C-aA d j)=r by omega]at this;exact .inr ⟨j,h1,rfl,this⟩
  ·left;simp only[bu];rw[PC U]
 have henv:∀t,t∈o.looksAt all->ba all d s0.ρ K D t=(canon all d s0 i).ρ t:=by
  intro t ht;show _=ba all d s0.ρ i (fun _=>true) t;rw[<- ub (all:=all) (d:=d) (ρ0:=s0.ρ) (m:=i) (n:=K) U];refine lf fun j hj hdj=>?_;obtain⟨oj,hoj⟩:=hget j hj;rw[kg hoj]at hdj;rcases Rt j i with h|rfl|h
  ·cases hb:(cJ bs i).testBit j with
   |true=>rw[hdown j h hb];simp[h]
   |false=>exact absurd ht ((mI (S.apart i j o oj hi h ho hoj hb)).1 t hdj)
  ·rw[hDi];simp
  ·cases hD:D j with
   |false=>symm;simp;omega
   |true=>exact absurd ht ((mI (S.apart j i oj o hj h hoj ho (hup j h hj hD))).2.1 t hdj)
 have hheap:∀r,r∈(d i).f.rs->aQ d (bu s0.H (aA d K)).get K D r=(canon all d s0 i).H.get r:=by
  intro r hr;show _=aQ d s0.H.get i (fun _=>true) r;rw[<- oa (g0:=(bu s0.H (aA d K)).get) (rangeK r (hgi.lt r hr)),<- uc (m:=i) (n:=K) U];refine lg fun j hj ht=>?_;obtain⟨he,_⟩:=tgtE j r hj ht;rcases Rt j i with h|rfl|h
  ·cases hb:(cJ bs i).testBit j with
   |true=>rw[hdown j h hb];simp[h]
   |false=>exact absurd hr ((hgi.apart j h hb).2 r he)
  ·rw[hDi];simp
  ·cases hD:D j with
   |false=>symm;simp;omega
   |true=>exact absurd hr (((hg j hj).apart i h (hup j h hj hD)).1 r he)
 have hal:∀c,c<(d i).al->aQ d (bu s0.H (aA d K)).get K D (s0.H.C+aA d i+c)=some .ni:=by
  intro c hc;have hlt:=iV (d:=d) hi;have heff:=(hgi.nk _ (hgi.al c hc)).1;rw[ud]
  ·simp only[bu];rw[PG U]
  ·intro j hj hD ht;obtain⟨h1,h2⟩:=tgtE j _ hj ht;rcases Rt j i with h|rfl|h
   ·rcases h2 with h3|⟨h2,h3⟩
    ·have:=(hg j hj).lt _ h3;have:=mq (d:=d) (SJ h);omega
    ·have:=iV (d:=d) h;omega
   ·rw[hDi]at hD;cases hD
   ·rcases h2 with h3|⟨h2,h3⟩
    ·exact absurd h3 (((hg j hj).apart i h (hup j h hj hD)).2 _ heff)
    ·have:=iV (d:=d) h;omega
 have:=hgi.step o ho (ba all d s0.ρ K D) ⟨aQ d (bu s0.H (aA d K)).get K D,s0.H.C+aA d K⟩ henv hheap hal (by have:=iV (d:=d) hi;simp only;omega);have e1:ba all d s0.ρ K (bA D i)=aD (ba all d s0.ρ K D) o.dst (d i).v:=by
  rw[ue hDi hi,kg ho];intro j h hj hD t hti;obtain⟨oj,hoj⟩:=hget j hj;rw[kg ho]at hti;rw[kg hoj];exact(mI (S.apart j i oj o hj h hoj ho (hup j h hj hD))).2.2 t hti
 have e2:aQ d (bu s0.H (aA d K)).get K (bA D i)=bK (d i).e (aQ d (bu s0.H (aA d K)).get K D):=by
  refine uf hDi hi fun j h hj hD r hti htj=>?_;obtain⟨a1,a2⟩:=tgtE i r hi hti;obtain⟨b1,b2⟩:=tgtE j r hj htj;obtain⟨c1,c2⟩:=(hg j hj).apart i h (hup j h hj hD);rcases b2 with b3|⟨b2,b3⟩
  ·exact c2 r a1 b3
  ·rcases a2 with a3|⟨a2,a3⟩
   ·exact c1 r b1 a3
   ·have:=iV (d:=d) h;omega
 unfold dw;rw[e1,e2];exact this
def ow {all:Array Oper}{bs:List Nat}{K:Nat}(hg:∀i,i<K->Tc P G all bs s0 d i)(hD:∀j,j<K->D j=true):dw all d s0 K D=canon all d s0 K:=by
 unfold dw canon jv;have e1:ba all d s0.ρ K D=ba all d s0.ρ K fun _=>true:=funext fun t=>lf fun j hj _=>hD j hj;have e2:aQ d (bu s0.H (aA d K)).get K D=aQ d s0.H.get K fun _=>true:=by
  funext r
  rw[lg (D':=fun _=>true) fun j hj _=>hD j hj];refine oa ?_;by_cases h:s0.H.C<=r/\r<s0.H.C+aA d K
  ·obtain⟨j,h1,h2,h3⟩:=oh (d:=d) (n:=K) (c:=r-s0.H.C) U;have:=(hg j h1).al (r-s0.H.C-aA d j) U;rw[show s0.H.C+aA d j+(r-s0.H.C-aA d j)=r by omega]at this;exact .inr ⟨j,h1,rfl,this⟩
  ·left;simp only[bu];rw[PC h]
 rw[e1,e2]
def uj {all:Array Oper}{K:Nat}(hD:∀j,j<K->D j=false):dw all d s0 K D=⟨s0.ρ,bu s0.H (aA d K)⟩:=by
 unfold dw;have e1:∀n,n<=K->ba all d s0.ρ n D=s0.ρ:=by
  intro n
  induction n with
  |zero=>intro _;rfl
  |succ n ih=>intro h;simp only[ba];rw[PC (by simp[hD n h])];exact ih (U)
 have e2:∀n,n<=K->aQ d (bu s0.H (aA d K)).get n D=(bu s0.H (aA d K)).get:=by
  intro n
  induction n with
  |zero=>intro _;rfl
  |succ n ih=>intro h;simp only[aQ];rw[PC (by simp[hD n h])];exact ih (U)
 rw[e1 K S0,e2 K S0];rfl
variable {n:Nat} {wb:Tu} {rd rb:Option Nat} {Q:AX->St->Prop} {all:Array Oper} {bs:List Nat} {K:Nat} {id:Nat} {dr:Bool}
def uk (S:Tz all bs K)(hfit:∀o,o∈all.toList->ee n o=true)(hg:∀i,i<K->Tc P G all bs s0 d i)(htail:opsV P G rd Q all (all.toList.drop K) (canon all d s0 K)):
  ∀(r:Nat) (listed:Array Bool) (D:Nat->Bool) (Γ:aq) (a:Act) (w:World),listed.size=all.size->dF listed all.size=r->(∀j,j<all.size->listed.getD j true=D j)->(∀j,D j=true->j<K)->qL all D ->
  Ti P G n wb Γ (dw all d s0 K D) a w->cU Γ (dw all d s0 K D).H rd rb ->
  ∀(Q':Exit->Act->World->Prop),(∀e a' w',fh P G n wb rd rb (wr (.region id all dr)) Γ (dw all d s0 K D).H a w Q e a' w'->Q' e a' w')->wpAnyIn (cV rb) 0 P .any all Q' r listed a w:=by
 intro r
 induction r with
 |zero =>
  intro listed D Γ a w hsz hc hl hlow hL hs hr Q' hq;have hall:∀j,j<K->D j=true:=fun j hj=>by rw[<- hl j (PL hj S.le)];exact qM hc j (PL hj S.le)
  have hKs:K=all.size:=by
   rcases PZ K all.size with h|h
   ·have h1:=qM hc K h;rw[hl K h]at h1;have:=hlow K h1;omega
   ·have:=S.le;omega
  rw[ow hg hall]at hs hr hq;exact qN S hfit 0 K listed _ Γ a w U S0 hsz hc (fun j hj=>by rw[hl j hj];exact⟨hlow j,hall j⟩) htail hs hr Q' hq
 |succ r ih =>
  intro listed D Γ a w hsz hc hl hlow hL hs hr Q' hq;by_cases hall:∀j,j<K->D j=true
  ·rw[ow hg hall]at hs hr hq;have hcount:∀m,m<=all.size->dF listed m=m-K:=by
    intro m
    induction m with
    |zero=>intro _;simp[dF]
    |succ m ihm =>
     intro hm;simp only[dF];rw[ihm U,hl m U];by_cases hmK:m<K
     ·rw[hall m hmK];simp;omega
     ·have:D m=false:=by
       cases hD:D m with
       |false=>rfl
       |true=>exact absurd (hlow m hD) hmK
      rw[this];simp;omega
   have h1:=hcount all.size S0;exact qN S hfit (r+1) K listed _ Γ a w (by have:=S.le;omega) S0 hsz hc (fun j hj=>by rw[hl j hj];exact⟨hlow j,hall j⟩) htail hs hr Q' hq
  ·have hex:∃j,j<K/\D j=false:=by
    by_cases h:∃j,j<K/\D j=false
    ·exact h
    ·refine absurd (fun j hj=>?_) hall;cases hD:D j with
     |true=>rfl
     |false=>exact absurd ⟨j,hj,hD⟩ h
   have least:∀k,(∃j,j<k/\j<K/\D j=false)->∃j,j<K/\D j=false/\∀i,i<j->D i=true:=by
    intro k
    induction k with
    |zero=>rintro⟨j,hj,_⟩;omega
    |succ k ihk =>
     rintro⟨j,h1,h2,h3⟩;by_cases h:∃j,j<k/\j<K/\D j=false
     ·exact ihk h
     ·refine⟨j,h2,h3,fun i hi=>?_⟩;cases hD:D i with
      |true=>rfl
      |false=>exact absurd ⟨i,U,U,hD⟩ h
   obtain⟨j0,hj0K,hj0,hbelow⟩:=least K (let ⟨j,h1,h2⟩:=hex;⟨j,h1,h1,h2⟩);have hj0s:j0<all.size:=PL hj0K S.le;have hr0:j0∈Region.ready .any all listed:=by
    refine mem_ready.2 ⟨by rw[hl j0 hj0s];exact hj0,_,PM hj0s,fun e he hb=>?_⟩;have hlt:=S.down j0 _ (PM hj0s) e he hb;rw[lu U false true,hl e.on U];exact hbelow _ hlt
   refine⟨fun h0=>(by rw[h0]at hr0;cases hr0),fun i hi=>?_⟩;obtain⟨hiun,oi,hoi,hdir⟩:=mem_ready.1 hi;have his:=(Qi.1 hoi).1;have hdirD:∀e,e∈oi.after->Region.binds .any e=true->D e.on=true:=fun e he hb=>by
    have:=S.down i oi hoi e he hb;rw[<- hl e.on U,<- lu U false true];exact hdir e he hb
   have hahead:=S.ahead hL i oi;have hiK:i<K:=by
    rcases PZ i K with h|h
    ·exact h
    ·have:=hahead j0 hoi hdirD (by rw[PC U];omega);rw[hj0]at this;cases this
   have hDi:D i=false:=(by rw[<- hl i his];exact hiun);have hex:=ui (P:=P) (G:=G) S hg hiK hoi hDi (fun j hj hb=>hahead j hoi hdirD (by rw[PG hiK];exact hb)) (fun j h1 h2 hD=>by
    cases hb:(cJ bs j).testBit i with
    |false=>rfl
    |true =>
     have hjs:j<all.size:=PL h2 S.le;have:=S.ahead hL j _ i (PM hjs) (fun e he hbe=>hL j _ hD (PM hjs) e he hbe) (by rw[PG h2];exact hb);rw[hDi]at this;cases this)
   have hoi':oi=all[i]:=by
    rw[PM his]at hoi;exact(Option.some.inj hoi).symm
   refine ug hoi (hfit oi (by rw[hoi'];simp)) hs hr hex ?_;rintro Γ' a' w' hs' E hn hr' ⟨cv,rfl⟩;have hc':dF (listed.setIfInBounds i true) all.size=r:=by
    have:=uS hiun all.size;rw[PG his]at this;omega
   refine ih (listed.setIfInBounds i true) (bA D i) Γ' _ w' (by simpa using hsz) hc' ?_ ?_ ?_ hs' hr' Q' fun e a'' w'' hp=>hq _ _ _ (hp.step E hn (by rw[hoi'];exact my his cv) fun _ h=>h)
   ·intro j hj;by_cases hji:j=i
    ·subst hji;simp[bA]
    ·rw[getD_set_ne true (Ne.symm hji),hl j hj];simp[bA,hji]
   ·intro j hj;by_cases hji:j=i
    ·subst hji;exact hiK
    ·simp only[bA,PC hji]at hj;exact hlow j hj
   ·intro k ok hk hok e he hb;by_cases hki:k=i
    ·subst hki;rw[hoi]at hok;cases hok;have:=hdirD e he hb;simp only[bA];split
     ·rfl
     ·exact this
    ·simp only[bA,PC hki]at hk;have:=hL k ok hk hok e he hb;simp only[bA];split
     ·rfl
     ·exact this
def W.xK {s:St}(K:Nat)(bs:List Nat)(hm:P.follows .mixedOrders=true)(hfit:all.toList.all (ee n)=true)(hst:mC all bs K=true)
  (h:cz P G all (opsV P G rd Q all (all.toList.drop K)) bs 0 [] (all.toList.take K) s):W P G n rd (.region id all true) Q s:=by
 intro wb Γ a w rb hs hr;have S:=yX hst;have hfit':∀o,o∈all.toList->ee n o=true:=fun o ho=>P6.1 hfit o ho;have wf:ef s.H:=fun id b hb=>hs.heap.C id b hb;have hcan0:canon all (fun _=>⟨.lit undef,fun _=>none,0,⟨[],[]⟩⟩) s 0=s:=rfl;obtain⟨d,hg,htail⟩:=trace (P:=P) (G:=G) (all:=all) (bs:=bs) (s0:=s) (tail:=opsV P G rd Q all (all.toList.drop K)) S.len S.le K 0 (fun _=>⟨.lit undef,fun _=>none,0,⟨[],[]⟩⟩) [] (U)
  (fun i hi=>U) (fun j hj=>U) (by rw[hcan0];exact wf) (by rw[hcan0];exact h)
 refine wpIn_region_any hm ?_
 let w1:World:={ w with drawn:=w.drawn+1 }
 have R1:S9 P G Γ s.H w1:=hs.heap.move rfl (mJ w) S0 (fun id b hb=>.inl hb) fun id b hb=>hb;have hs1:Ti P G n wb Γ s a w1:=hs.move (mJ w) S0 R1;have hs2:Ti P G n wb Γ ⟨s.ρ,bu s.H (aA d K)⟩ a w1:=hs1.move (oG _ _) (by simp[bu]) (yZ R1 _);have hr2:cU Γ (bu s.H (aA d K)) rd rb:=hr.move fun id b hb=>by
  simp only[bu];rw[PC]
  ·exact hb
  ·have:=hs.heap.C id b hb;omega
 have e0:dw all d s K (fun _=>false)=⟨s.ρ,bu s.H (aA d K)⟩:=uj fun _ _=>rfl;refine uk (wb:=wb) (id:=id) (dr:=true) S hfit' hg htail all.size _ (fun _=>false) Γ a w1 SX (y8 _ S0) ?_ ?_ ?_ ?_ ?_ _ ?_
 ·intro j hj;rw[Qe,RE,PG hj];rfl
 ·intro j hj;cases hj
 ·intro i o hi;cases hi
 ·rw[e0];exact hs2
 ·rw[e0];exact hr2
 ·rw[e0];intro e a' w' hp;refine hp.step ?_ (by simp[bu]) (.refl _ _) fun _ h=>h;exact Ta.trans (mJ w) S0 (oG _ _)
end Go.Hx.Ev
namespace Go.Hx.Ev
open Go.Hx
variable {P:Program} {G:Nat->Option (List S1)} {Γ Γ':aq} {H H':S2} {w w':World}
variable {K:Nat->Prop}{v:S1}
inductive Tt (K:Nat->Prop):S1->Prop
 |lit (v:Value):Tt K (.lit v)
 |nil:Tt K (.M 0 [])
 |agg {c:List S1} (h:∀i (h:i<c.length),Tt K c[i]):Tt K (.agg c)
 |nc {c:List S1} (h:∀i (h:i<c.length),Tt K c[i]):Tt K (.nc c)
 |nl {f:FuncId} {a b:List S1} (h1:∀i (h:i<a.length),Tt K a[i]) (h2:∀i (h:i<b.length),Tt K b[i]):Tt K (.nl f a b)
 |V {id g o l z:Nat} (h:K id):Tt K (.V id g o l z)
 |Y {id g o:Nat} (h:K id):Tt K (.Y id g o)
def Tt.mono {K':Nat->Prop}(h:Tt K v)(hk:∀id,K id->K' id):Tt K' v:=by
 induction h with
 |lit v=>exact .lit v
 |nil=>exact .nil
 |agg _ ih=>exact .agg ih
 |nc _ ih=>exact .nc ih
 |nl _ _ ih1 ih2=>exact .nl ih1 ih2
 |V h=>exact .V (hk _ h)
 |Y h=>exact .Y (hk _ h)
def Tt.fz {S:Nat->Prop}{nx:Nat}(h:Tt (fun id=>¬S id/\id<nx) v):Fz S H nx v v:=by
 induction h with
 |lit v=>exact .lit v
 |nil=>exact .M rfl fun i h=>absurd h (PS _)
 |agg _ ih=>exact .agg rfl fun i h _=>ih i h
 |nc _ ih=>exact .nc rfl fun i h _=>ih i h
 |nl _ _ ih1 ih2=>exact .nl rfl rfl (fun i h _=>ih1 i h) fun i h _=>ih2 i h
 |V h=>exact .V h.2 h.1
 |Y h=>exact .Y h.2 h.1
def Tt.sound {Γ₁ Γ₂:aq}{H₁ H₂:S2}(hK:∀id,K id->H₂.get id=H₁.get id/\Γ₂ id=Γ₁ id)(hn:H₁.C<=H₂.C)(h:Tt K v):
  ∀ {cv:Value},S4 P Γ₁ H₁ w v cv->S4 P Γ₂ H₂ w v cv:=by
 induction h with
 |lit v=>intro cv h;cases h;exact .lit _
 |nil =>
  intro cv h;cases h with
  |nj a cap=>exact .nj a cap
  |M hb hlt hlen hcs hcell hrel=>exact .nj _ _
 |agg _ ih=>intro cv h;cases h with|agg hcs hrel=>exact .agg hcs fun i h1 h2=>ih i h1 (hrel i h1 h2)
 |nc _ ih=>intro cv h;cases h with|nc hcs hrel=>exact .nc hcs fun i h1 h2=>ih i h1 (hrel i h1 h2)
 |nl _ _ ih1 ih2=>intro cv h;cases h with|nl hfs hcs hf hc=>exact .nl hfs hcs (fun i h1 h2=>ih1 i h1 (hf i h1 h2)) fun i h1 h2=>ih2 i h1 (hc i h1 h2)
 |V h =>
  intro cv hv;cases hv with
  |V hv =>
   obtain⟨a,b,c,d⟩:=hv;obtain⟨e1,e2⟩:=hK _ h;refine .V ⟨U,b,by rw[e1];exact c,fun g e cells hg=>?_⟩;rw[e1]at hg;rw[e2];exact d g e cells hg
 |Y h =>
  intro cv hv;cases hv with
  |Y hv =>
   obtain⟨a,b,c,d⟩:=hv;obtain⟨e1,e2⟩:=hK _ h;refine .Y ⟨U,b,by rw[e1];exact c,fun g e cells hg=>?_⟩;rw[e1]at hg;rw[e2];exact d g e cells hg
def ed (lo hi:Nat)(lv:Nat->Bool)(g:Nat->Option S7):Nat->Option S7:=fun id=>if lo<=id/\id<hi then (if lv id=true then g id else some (.L 0 0 [])) else none
def lk (lo hi:Nat):List Nat:=(List.range (hi-lo)).map (·+lo)
def xL {lo hi r:Nat}(h1:lo<=r)(h2:r<hi):r∈lk lo hi:=by
 unfold lk;rw[P3];exact⟨r-lo,by rw[Qq];omega,U⟩
open Classical in
def iU.mk {f:FuncId}{first cap args args':List S1}(Hs Hs':S2)(kp:Nat->Prop)(lv:Nat->Bool)(rs:List Nat)(hG:dG G)
  (hrs:∀r,r∈rs->r<H.C) (hnx:Hs.C=H.C) (hle:Hs.C<=Hs'.C)
  (hkp:∀id,kp id->id∈rs/\Hs.get id=H.get id/\Hs'.get id=H.get id/\∃g e c,H.get id=some (.L g e c)/\∀i (h:i<c.length),Tt kp c[i])
  (hgone:∀id,¬kp id->Hs.get id=none)
  (hl:args'.length=(first++args++cap).length)
  (hargs:∀H2:S2,(∀r,r∈rs->H2.get r=H.get r)->∀i (h:i<(first++args++cap).length) (h':i<args'.length),Fz (fun id=>¬kp id) H2 H.C (first++args++cap)[i] args'[i])
  (hcall:ae P G f args' Hs fun r H'=>r=.ret v/\H'=Hs')
  (hv:Tt (fun id=>kp id\/(H.C<=id/\id<Hs'.C/\lv id=true)) v)
  (hnew:∀id,H.C<=id->id<Hs'.C->lv id=true->∃g e c,Hs'.get id=some (.L g e c)/\∀i (h:i<c.length),Tt (fun id=>kp id\/(H.C<=id/\id<Hs'.C/\lv id=true)) c[i]):
  iU P G (.nl f first cap) args H v (ed H.C Hs'.C lv Hs'.get) (Hs'.C-H.C) ⟨lk H.C Hs'.C,rs⟩:=by
 have hsome:∀id,H.C<=id->id<Hs'.C->(ed H.C Hs'.C lv Hs'.get id).isSome=true:=by
  intro id h1 h2;unfold ed;rw[PG ⟨h1,h2⟩];split
  ·rename_i h3;obtain⟨g,e,c,h4,_⟩:=hnew id h1 h2 h3;rw[h4];rfl
  ·rfl
 have hout:∀id,(ed H.C Hs'.C lv Hs'.get id).isSome=true->H.C<=id/\id<Hs'.C:=by
  intro id h;unfold ed at h;split at h
  ·assumption
  ·cases h
 refine⟨hrs,fun r hr=>?_,fun c hc=>hsome _ U U,?_⟩
 ·obtain⟨h1,h2⟩:=hout r hr;exact⟨xL h1 h2,.inr ⟨h1,U⟩⟩
 intro H2 hag hres hn2;refine aH.nl ⟨hcall.1,fun Γ w cargs R hr=>?_⟩
 let S:Nat->Prop:=fun id=>¬kp id
 have kpO:∀id,¬S id->kp id:=fun id h=>Qa h;have hkH2:∀id,kp id->H2.get id=H.get id:=fun id h=>hag id (hkp id h).1;have hlow:∀id,kp id->id<H.C:=fun id h=>hrs id (hkp id h).1;have F:TC S H2 Hs:=by
  refine⟨fun id hs=>hgone id hs,fun id b hs hb=>?_,fun id hs hb=>?_⟩
  ·have hk:=kpO id hs;obtain⟨h1,h2,h3,g,e,c,h4,h5⟩:=hkp id hk;rw[hkH2 id hk,h4]at hb;cases hb;refine⟨by rw[hnx];exact hlow id hk,.L g e c,by rw[h2,h4],rfl,rfl,rfl,fun i hi _=>?_⟩;exact((h5 i hi).mono fun id hk=>⟨fun hs=>hs hk,by rw[hnx];exact hlow id hk⟩).fz
  ·have hk:=kpO id hs;obtain⟨h1,h2,h3,g,e,c,h4,h5⟩:=hkp id hk;rw[hkH2 id hk,h4]at hb;cases hb
 have R0:S9 P G (cY S Γ) Hs w:=F.rel hG R;have hr0:cF P (cY S Γ) Hs w args' cargs:=⟨by have:=hr.1;omega,fun i h1 h2=>(by
  have:=hargs H2 hag i U h1;rw[<- hnx]at this;exact this.sound R F (hr.2 i U h2))⟩
 refine(hcall.2 _ w cargs R0 hr0).mono ?_;rintro e w' ⟨r,H',Γ',hend,⟨rfl,rfl⟩,R',E,hn⟩
 let nw:Nat->Prop:=fun id=>H.C<=id/\id<H'.C
 let lw:Nat->Prop:=fun id=>H.C<=id/\id<H'.C/\lv id=true
 let Γ3:aq:=fun id=>if lw id then Γ' id else Γ id
 let H3:S2:=⟨bK (ed H.C H'.C lv H'.get) H2.get,H2.C⟩
 have hnle:H'.C<=H2.C:=U
 have g3l:∀id,lw id->Γ3 id=Γ' id:=fun id h=>PG h;have g3o:∀id,¬lw id->Γ3 id=Γ id:=fun id h=>PC h;have kold:∀id,kp id->¬nw id:=fun id h hn=>by have:=hlow id h;have:=hn.1;omega
 have koldl:∀id,kp id->¬lw id:=fun id h hn=>kold id h ⟨hn.1,hn.2.1⟩;have gk:∀id,kp id->Γ' id=Γ id:=by
  intro id hk;obtain⟨h1,h2,h3,g,e,c,h4,h5⟩:=hkp id hk;have hlo:=hlow id hk;obtain⟨x,hx,hle'⟩:=E.nn id U U (.L g e c) (by rw[h3,h4]);rw[h2,h4]at hx;cases hx;rw[(hle'.2 rfl).1];exact gp fun hs=>hs hk
 have h3new:∀id,nw id->H3.get id=ed H.C H'.C lv H'.get id:=by
  intro id h;show bK _ _ id=_;unfold bK;have:=hsome id h.1 h.2;split
  ·rename_i b hb;rw[hb]
  ·rename_i hb;rw[hb]at this;cases this
 have h3live:∀id,lw id->H3.get id=H'.get id:=by
  intro id h;rw[h3new id ⟨h.1,h.2.1⟩];unfold ed;rw[PG ⟨h.1,h.2.1⟩,PG h.2.2]
 have h3dead:∀id,nw id->¬lw id->H3.get id=some (.L 0 0 []):=by
  intro id h hl;rw[h3new id h];unfold ed;rw[PG h,PC fun h2=>hl ⟨h.1,h.2,h2⟩]
 have h3old:∀id,¬nw id->H3.get id=H2.get id:=by
  intro id h;show bK _ _ id=_;exact ka fun h'=>h (hout id h')
 have hrsv:∀id,nw id->H2.get id=some .ni:=by
  intro id h;have:=hres (id-H.C) (by have:=h.1;have:=h.2;omega)
  rwa [show H.C+(id-H.C)=id by have:=h.1;omega]at this
 have hΓnew:∀id,nw id->Γ id=none:=fun id h=>R.ni id (hrsv id h);have hfar:∀id b base n,lw id->Γ' id=some (b,base,n)->w.heap.size<=b:=by
  intro id b base n hid hb;refine R7 fun hlt=>?_;have hown:(cY S Γ).da b:=Qa fun hno=>(E.na b hlt hno).2 ⟨id,base,n,hb⟩;obtain⟨id0,base0,n0,h0⟩:=hown;obtain⟨hs0,h0⟩:=gY h0;have hk0:=kpO id0 hs0;rw[<- gk id0 hk0]at h0;have:=R'.inj _ _ _ _ _ _ _ h0 hb;subst this;exact koldl _ hk0 hid
 have EE:Ta Γ H2 w Γ3 H3 w':=by
  refine⟨E.os,E.tape,E.output,E.size,fun b hb ho=>⟨(E.na b hb fun h=>ho (qO h)).1,?_⟩,fun id h1 h2 x' hx'=>?_,E.np,E.kind,fun id b x y hb hlt=>?_⟩
  ·rintro⟨id,base,n,h⟩;by_cases hl:lw id
   ·rw[g3l id hl]at h;have:=hfar id b base n hl h;omega
   ·rw[g3o id hl]at h;exact ho ⟨id,base,n,h⟩
  ·by_cases hnw:nw id
   ·exact⟨.ni,hrsv id hnw,trivial⟩
   ·rw[h3old id hnw]at hx';refine⟨x',hx',?_⟩;have hg:Γ3 id=Γ id:=g3o id fun h=>hnw ⟨h.1,h.2.1⟩;cases x' with
    |L g e c=>exact⟨S0,fun _=>⟨hg,rfl,rfl⟩⟩
    |loop=>exact⟨hg,rfl,rfl,rfl,rfl,rfl⟩
    |ni=>trivial
    |mp=>exact hg
  ·by_cases hl:lw id
   ·rw[g3l id hl]at hb;have:=hfar id b x y hl hb;omega
   ·rw[g3o id hl]at hb;exact⟨x,y,hb⟩
 have hn3:H2.C<=H3.C:=Nat.le_refl _;have hK:∀id,(kp id\/lw id)->H3.get id=H'.get id/\Γ3 id=Γ' id:=by
  rintro id (h|h)
  ·refine⟨?_,?_⟩
   ·rw[h3old id (kold id h),hkH2 id h,(hkp id h).2.2.1]
   ·rw[g3o id (koldl id h),gk id h]
  ·exact⟨h3live id h,g3l id h⟩
 have hle3:H'.C<=H3.C:=hnle;have hidden:∀id b base n,¬kp id->Γ id=some (b,base,n)->w'.heap[b]?=w.heap[b]?:=by
  intro id b base n hk h;refine(E.na b (R.lt _ _ _ _ h) ?_).1;rintro⟨id0,base0,n0,h0⟩;obtain⟨hs0,h0⟩:=gY h0;have:=R.inj _ _ _ _ _ _ _ h h0;subst this;exact hs0 hk
 have R3:S9 P G Γ3 H3 w':=by
  refine⟨?_,?_,?_,?_,?_,?_,?_,?_,?_,?_⟩
  ·intro id g e cells hg;have main : (kp id∨lw id)→(∀ i (h : i<cells.length),Tt (fun id=>kp id∨lw id) cells[i])→H'.get id=some (.L g e cells)→_:=fun hid hc hg'=>R'.L id g e cells hg';have fin : (kp id∨lw id)→(∀ i (h : i<cells.length),Tt (fun id=>kp id∨lw id) cells[i])→H'.get id=some (.L g e cells)→(match Γ3 id with
     |some (b,base,n)=>∃c,w'.heap[b]?=some (.cells c e (0,0))/\c.size=n/\base+cells.length<=n /\
      ∀i (h:i<cells.length),∃cv,c[base+i]?=some cv/\S4 P Γ3 H3 w' cells[i] cv
     |none=>cells=[]):=by
    intro hid hc hg';have h1:=R'.L id g e cells hg';rw[(hK id hid).2];cases hΓ:Γ' id with
    |none=>rw[hΓ]at h1;exact h1
    |some y =>
     obtain⟨b,base,n⟩:=y;rw[hΓ]at h1;obtain⟨c,a1,a2,a3,a4⟩:=h1;refine⟨c,a1,a2,a3,fun i hi=>?_⟩;obtain⟨cv,b1,b2⟩:=a4 i hi;exact⟨cv,b1,(hc i hi).sound hK hle3 b2⟩
   by_cases hl:lw id
   ·have hg':=hg;rw[h3live id hl]at hg';obtain⟨g0,e0,c0,h4,h5⟩:=hnew id hl.1 hl.2.1 hl.2.2;rw[h4]at hg';cases hg';exact fin (.inr hl) h5 h4
   ·by_cases hnw:nw id
    ·rw[h3dead id hnw hl]at hg;cases hg;rw[g3o id hl,hΓnew id hnw]
    ·rw[h3old id hnw]at hg;by_cases hk:kp id
     ·obtain⟨h1,h2,h3,g0,e0,c0,h4,h5⟩:=hkp id hk;rw[hkH2 id hk,h4]at hg;cases hg;exact fin (.inl hk) (fun i hi=>(h5 i hi).mono fun _ h=>.inl h) (by rw[h3,h4])
     ·have h1:=R.L id g e cells hg;rw[g3o id hl];cases hΓ:Γ id with
      |none=>rw[hΓ]at h1;exact h1
      |some y =>
       obtain⟨b,base,n⟩:=y;rw[hΓ]at h1;obtain⟨c,a1,a2,a3,a4⟩:=h1;refine⟨c,by rw[hidden id b base n hk hΓ];exact a1,a2,a3,fun i hi=>?_⟩;obtain⟨cv,b1,b2⟩:=a4 i hi;exact⟨cv,b1,b2.aV EE hn3⟩
  ·intro id st pend n env ps asg body hg;by_cases hl:lw id
   ·rw[h3live id hl]at hg;obtain⟨g0,e0,c0,h4,h5⟩:=hnew id hl.1 hl.2.1 hl.2.2;rw[h4]at hg;cases hg
   ·by_cases hnw:nw id
    ·rw[h3dead id hnw hl]at hg;cases hg
    ·rw[h3old id hnw]at hg;have hk:¬kp id:=fun hk=>by
      obtain⟨h1,h2,h3,g0,e0,c0,h4,h5⟩:=hkp id hk;rw[hkH2 id hk,h4]at hg;cases hg
     obtain⟨b,r,a1,a2,a3,a4,a5,a6,a7,a8,a9⟩:=R.loop id st pend n env ps asg body hg;exact⟨b,r,by rw[g3o id hl];exact a1,by rw[hidden id b 0 0 hk a1];exact a2,a3,a4,a5,a6,a7,a8,fun t ht=>(a9 t ht).aV EE hn3⟩
  ·intro id es hg;by_cases hl:lw id
   ·rw[h3live id hl]at hg;obtain⟨g0,e0,c0,h4,h5⟩:=hnew id hl.1 hl.2.1 hl.2.2;rw[h4]at hg;cases hg
   ·by_cases hnw:nw id
    ·rw[h3dead id hnw hl]at hg;cases hg
    ·rw[h3old id hnw]at hg;have hk:¬kp id:=fun hk=>by
      obtain⟨h1,h2,h3,g0,e0,c0,h4,h5⟩:=hkp id hk;rw[hkH2 id hk,h4]at hg;cases hg
     obtain⟨b,a1,a2⟩:=R.mp id es hg;exact⟨b,by rw[g3o id hl];exact a1,by rw[hidden id b 0 0 hk a1];exact a2⟩
  ·intro id hg;have hnw:¬nw id:=fun hnw=>by
    by_cases hl:lw id
    ·rw[h3live id hl]at hg;obtain⟨g0,e0,c0,h4,h5⟩:=hnew id hl.1 hl.2.1 hl.2.2;rw[h4]at hg;cases hg
    ·rw[h3dead id hnw hl]at hg;cases hg
   rw[h3old id hnw]at hg;rw[g3o id fun h=>hnw ⟨h.1,h.2.1⟩];exact R.ni id hg
  ·intro id id' b base n base' n' h h';by_cases hl:lw id<;>by_cases hl':lw id'
   ·rw[g3l id hl]at h;rw[g3l id' hl']at h';exact R'.inj _ _ _ _ _ _ _ h h'
   ·rw[g3l id hl]at h;rw[g3o id' hl']at h';have:=hfar id b base n hl h;have:=R.lt _ _ _ _ h';omega
   ·rw[g3o id hl]at h;rw[g3l id' hl']at h';have:=hfar id' b base' n' hl' h';have:=R.lt _ _ _ _ h;omega
   ·rw[g3o id hl]at h;rw[g3o id' hl']at h';exact R.inj _ _ _ _ _ _ _ h h'
  ·intro id x h;by_cases hl:lw id
   ·obtain⟨g0,e0,c0,h4,h5⟩:=hnew id hl.1 hl.2.1 hl.2.2;exact⟨_,by rw[h3live id hl];exact h4⟩
   ·rw[g3o id hl]at h;by_cases hnw:nw id
    ·exact⟨_,h3dead id hnw hl⟩
    ·obtain⟨y,hy⟩:=R.nv id x h;exact⟨y,by rw[h3old id hnw];exact hy⟩
  ·intro id b base n h;by_cases hl:lw id
   ·rw[g3l id hl]at h;exact R'.lt _ _ _ _ h
   ·rw[g3o id hl]at h;exact PL (R.lt _ _ _ _ h) E.size
  ·intro id y h;by_cases hnw:nw id
   ·have:=hnw.2;exact PL this hnle
   ·rw[h3old id hnw]at h;exact R.C id y h
  ·intro g cells h;exact(R.nr g cells h).aV EE hn3
  ·exact R.kZ EE
 refine⟨.ret v,H3,Γ3,?_,⟨rfl,rfl⟩,R3,EE,hn3⟩;cases e with
 |returned cv=>exact hv.sound hK hle3 hend
 |panicked chain=>exact hend.elim
 |outgrown=>exact hend.elim
end Go.Hx.Ev
