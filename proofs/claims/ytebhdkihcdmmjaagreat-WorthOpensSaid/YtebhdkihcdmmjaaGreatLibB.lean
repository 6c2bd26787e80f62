/-
  Regions that draw their order. Own work: no program stands in this text.
-/
import Derived.Test.YtebhdkihcdmmjaaGreatLibA
import Derived.OrdersIn
import Derived.KernelRfl
set_option linter.all false
namespace Go.Hx
variable {P:Program} {G:Nat->Option (List nnn)} {Γ Γ':aA} {H H':nnl} {w w':World}
variable {b:Blk}{c:Call}{ρ:Env}{id n:Nat}{o:Op}{t u:TypeId}{H2:nnl}{a v x:nnn}
def aN:nnn->List Nat
 |.Z id _ _ _ _=>[id]
 |.Y id _ _=>[id]
 |_=>[]
def dN:nnn->List Nat
 |.nk id=>[id]
 |_=>[]
structure FP where
 nw:List Nat
 rs:List Nat
def kH:nnn->Bool
 |.Z ..=>true
 |_=>false
def jL (P:Program)(t:TypeId)(x:nnn):List Nat:=match P.underlying t with
 |some (.slice _)=>aN x
 |_=>[]
def iH (P:Program)(id:Nat)(b:Builtin)(ats:List TypeId)(args:List nnn):FP :=
 match b,ats,args with
 |.append,_,[s,x]=>if kH s then ⟨aN s,aN s++aN x⟩ else ⟨[id],aN x⟩
 |.copy,_,[d,x]=>⟨aN d,aN d++aN x⟩
 |.clear,_,[d]=>⟨aN d,aN d⟩
 |.len,[t],[x]=>⟨[],jL P t x⟩
 |_,_,_=>⟨[],[]⟩
def bz (P:Program)(G:Nat->Option (List nnn))(ρ:Env)(id:Nat):Op->FP
 |.load _ a=>⟨[],aN (ak G ρ a)⟩
 |.nilCheck a=>⟨[],aN (ak G ρ a)⟩
 |.slice _ a _ _ _=>⟨[],aN (ak G ρ a)⟩
 |.fieldAddr _ a _=>⟨[],aN (ak G ρ a)⟩
 |.indexAddr _ a _=>⟨[],aN (ak G ρ a)⟩
 |.convert _ _ a=>⟨[],aN (ak G ρ a)⟩
 |.store _ a _=>⟨aN (ak G ρ a),aN (ak G ρ a)⟩
 |.alloc _=>⟨[id],[]⟩
 |.box _ _=>⟨[id],[]⟩
 |.buildSlice _ _ _=>⟨[id],[]⟩
 |.makeSlice _ _ _=>⟨[id],[]⟩
 |.makeMap _ _=>⟨[id],[]⟩
 |.lookup _ x _ _=>⟨[],dN (ak G ρ x)⟩
 |.mapUpdate _ m _ _|.insert _ m _ _|.mapEntry _ m _|.entryStore _ m _ _=>⟨dN (ak G ρ m),dN (ak G ρ m)⟩
 |.call c=>match c.callee with
  |.builtin b=>iH P id b c.argTypes.toList (c.args.toList.map (ak G ρ))
  |_=>⟨[],[]⟩
 |_=>⟨[],[]⟩
def dO (e:Option (Nat × Blk))(g:Nat->Option Blk):Nat->Option Blk :=
 match e with
 |none=>g
 |some (k,b)=>fun j=>if j=k then some b else g j
def fm (H:nnl):Prop:=∀id b,H.get id=some b->id<H.C
def jh (wf:fm H){gen:Nat}{ec:TypeId × List nnn}(h:H.na id gen=some ec):id<H.C:=wf id _ (iD (e:=ec.1) (cells:=ec.2) h)
def jM (h:H2.get id=H.get id)(gen:Nat):H2.na id gen=H.na id gen:=by unfold nnl.na;rw[h]
def Local (P:Program)(G:Nat->Option (List nnn))(ρ:Env)(H:nnl)(o:Op)(v:nnn)(H':nnl)(f:FP):Prop :=
 ∃(e:Option (Nat × Blk)) (al:Bool),H'.get=dO e H.get/\H'.C=(if al then H.C+1 else H.C) /\
  (∀k b,e=some (k,b)->k∈f.nw/\(al=false->k∈f.rs))/\(al=true->∃b,e=some (H.C,b))/\(∀r,r∈f.rs->r<H.C) /\
  ∀H2:nnl,(∀r,r∈f.rs->H2.get r=H.get r)->(al=true->H2.get H.C=some .nj/\H.C≠H2.C)->aj P G ρ H2 H.C o=some (v,⟨dO e H2.get,H2.C⟩)
variable {f:FP}
def dc (hrs:∀r,r∈f.rs->r<H.C)(h:∀H2:nnl,(∀r,r∈f.rs->H2.get r=H.get r)->aj P G ρ H2 H.C o=some (v,H2)):Local P G ρ H o v H f:=by
 refine⟨none,false,rfl,rfl,?_,?_,hrs,fun H2 ha _=>h H2 ha⟩
 ·intro k b h;cases h
 ·intro h;cases h
def pX (hl:H.lay H.C b=some H')(hta:H.C∈f.nw)(hrs:∀r,r∈f.rs->r<H.C)
  (h:∀H2:nnl,(∀r,r∈f.rs->H2.get r=H.get r)->∀H2',H2.lay H.C b=some H2'->aj P G ρ H2 H.C o=some (v,H2')):Local P G ρ H o v H' f:=by
 obtain⟨h1,h2⟩:=jb hl;have h2':H'.C=H.C+1:=by
  unfold nnl.lay at hl;rw[W8 rfl]at hl;simp only[Option.some.injEq]at hl;rw[<- hl]
 refine⟨some (H.C,b),true,funext h1,by simp[h2'],?_,?_,hrs,fun H2 ha hr=>?_⟩
 ·intro k b' hk;simp only[Option.some.injEq,Prod.mk.injEq]at hk;exact⟨hk.1 ▸ hta,fun h=>by cases h⟩
 ·exact fun _=>⟨b,rfl⟩
 ·obtain⟨hr1,hr2⟩:=hr rfl;refine h H2 ha _ ?_;unfold nnl.lay;rw[W7 hr2,hr1];rfl
def my (hid:id∈f.nw)(hid':id∈f.rs)(hrs:∀r,r∈f.rs->r<H.C)
  (h:∀H2:nnl,(∀r,r∈f.rs->H2.get r=H.get r)->aj P G ρ H2 H.C o=some (v,H2.upd id b)):Local P G ρ H o v (H.upd id b) f:=by
 refine⟨some (id,b),false,rfl,rfl,?_,?_,hrs,fun H2 ha _=>h H2 ha⟩
 ·intro k b' hk;simp only[Option.some.injEq,Prod.mk.injEq]at hk;exact⟨hk.1 ▸ hid,fun _=>hk.1 ▸ hid'⟩
 ·intro h;cases h
def cG :∀r,r∈([]:List Nat)->r<n:=fun _ h=>by cases h
def fF (h:id<n):∀r,r∈[id]->r<n:=fun r hr=>by
 simp only[List.mem_singleton]at hr;omega
def J5 (h:∀r,r∈aN a->H2.get r=H.get r):fk P H2 t a=fk P H t a:=by
 cases a with
 |Y id gen off=>simp only[fk];rw[h id (by simp[aN])]
 |_=>rfl
def J6 (wf:fm H)(h:fk P H t a=some v):∀r,r∈aN a->r<H.C:=by
 cases a with
 |Y id gen off =>
  refine fF ?_;simp only[fk]at h;split at h
  ·rename_i hg;exact wf _ _ hg
  ·cases h
 |Z=>simp[fk]at h
 |_=>exact cG
def J7 (h:ie P H t a v=some H'):∃id gen off g e cells,a=.Y id gen off/\H.get id=some (.O g e cells)/\∃cells',H'=H.upd id (.O g e cells') /\
  ∀H2:nnl,H2.get id=H.get id->ie P H2 t a v=some (H2.upd id (.O g e cells')):=by
 cases a with
 |Y id gen off =>
  simp only[ie]at h;split at h
  ·rename_i g e cells hg;split at h
   ·rename_i hc;simp only[Option.some.injEq]at h;refine⟨id,gen,off,g,e,cells,rfl,hg,_,h.symm,fun H2 h2=>?_⟩;simp only[ie];rw[h2,hg];simp only;rw[W8 hc]
   ·cases h
  ·cases h
 |_=>simp[ie]at h
def J8 (wf:fm H){i:Int}(h:mo P H t x i=some v):(∀r,r∈aN x->r<H.C)/\∀H2:nnl,(∀r,r∈aN x->H2.get r=H.get r)->mo P H2 t x i=some v:=by
 unfold mo at h ⊢;split at h
 ·split at h
  ·rename_i hc;split at h
   ·rename_i id gen off;simp only[W4]at h;obtain⟨ec,hl,hv⟩:=h;refine⟨fF (jh wf hl),fun H2 h2=>?_⟩;rw[W8 hc];simp only[jM (h2 id (by simp[aN])),hl,Option.map_some,hv]
   ·refine⟨cG,fun H2 _=>?_⟩;rw[W8 hc];exact h
   ·cases h
  ·cases h
 ·split at h
  ·rename_i hc;split at h
   ·rename_i id gen off len sz;split at h
    ·rename_i hi;simp only[W4]at h;obtain⟨ec,hl,hv⟩:=h;refine⟨fF (jh wf hl),fun H2 h2=>?_⟩;rw[W8 hc,W8 hi];simp only[jM (h2 id (by simp[aN])),hl,Option.map_some,hv]
    ·cases h
   ·refine⟨cG,fun H2 _=>?_⟩;rw[W8 hc];exact h
   ·cases h
  ·cases h
 ·cases h
def J9 (wf:fm H){lo hi:Option nnn}(h:lD P H t x lo hi=some v):(∀r,r∈aN x->r<H.C)/\∀H2:nnl,(∀r,r∈aN x->H2.get r=H.get r)->lD P H2 t x lo hi=some v:=by
 unfold lD at h ⊢;split at h
 ·split at h
  ·rename_i hc;split at h
   ·rename_i id gen off;split at h
    ·rename_i e' cells hl;refine⟨fF (jh wf hl),fun H2 h2=>?_⟩;rw[W8 hc];simp only[jM (h2 id (by simp[aN])),hl];exact h
    ·cases h
   ·refine⟨cG,fun H2 _=>?_⟩;rw[W8 hc];exact h
   ·cases h
  ·cases h
 ·split at h
  ·rename_i hc;split at h
   ·rename_i id gen off len sz;split at h
    ·rename_i hi;have h0:=h;simp only[Xa]at h;obtain⟨ec,hl,_⟩:=h;refine⟨fF (jh wf hl),fun H2 h2=>?_⟩;rw[W8 hc,W8 hi,jM (h2 id (by simp[aN]))];exact h0
    ·cases h
   ·refine⟨cG,fun H2 _=>?_⟩;rw[W8 hc];exact h
   ·refine⟨cG,fun H2 _=>?_⟩;rw[W8 hc];exact h
   ·cases h
  ·cases h
 ·split at h
  ·exact⟨cG,fun H2 _=>h⟩
  ·cases h
 ·cases h
def Ka (wf:fm H)(h:kE P H t x=some v):(∀r,r∈jL P t x->r<H.C)/\∀H2:nnl,(∀r,r∈jL P t x->H2.get r=H.get r)->kE P H2 t x=some v:=by
 unfold kE jL at *
 cases hu:P.underlying t with
 |none=>rw[hu]at h;cases h
 |some d =>
  rw[hu]at h;cases d with
  |slice e =>
   simp only at h ⊢;split at h
   ·exact⟨cG,fun _ _=>h⟩
   ·rename_i id gen off len sz;simp only[W4]at h;obtain⟨ec,hl,hv⟩:=h;refine⟨fF (jh wf hl),fun H2 h2=>?_⟩;simp only[jM (h2 id (by simp[aN])),hl,Option.map_some,hv]
   ·exact⟨cG,fun _ _=>h⟩
   ·cases h
  |string=>exact⟨cG,fun _ _=>h⟩
  |array n e=>exact⟨cG,fun _ _=>h⟩
  |_=>cases h
def yw (wf:fm H){sz:Nat}{r:Nat × List nnn}(h:bU H sz x=some r):(∀r,r∈aN x->r<H.C)/\∀H2:nnl,(∀r,r∈aN x->H2.get r=H.get r)->bU H2 sz x=some r:=by
 unfold bU at h ⊢;split at h
 ·exact⟨cG,fun _ _=>h⟩
 ·rename_i id gen off len sz';split at h
  ·rename_i hsz;simp only[W4]at h;obtain⟨ec,hl,hv⟩:=h;refine⟨fF (jh wf hl),fun H2 h2=>?_⟩;rw[W8 hsz];simp only[jM (h2 id (by simp[aN])),hl,Option.map_some,hv]
  ·cases h
 ·exact⟨cG,fun _ _=>h⟩
 ·cases h
def B5 {a b:List Nat}{p:Nat->Prop}(h1:∀r,r∈a->p r)(h2:∀r,r∈b->p r):∀r,r∈a++b->p r:=fun r hr=>(Xt.1 hr).elim (h1 r) (h2 r)
def Kc (wf:fm H){s:nnn}(hb:c.callee=.builtin .append)(hats:c.argTypes.toList=[t,u])(hargs:c.args.toList.map (ak G ρ)=[s,x])
  (h:bh P H H.C t u s x=some (v,H')):Local P G ρ H (.call c) v H' (bz P G ρ H.C (.call c)):=by
 have hfp:bz P G ρ H.C (.call c)=if kH s then ⟨aN s,aN s++aN x⟩ else ⟨[H.C],aN x⟩:=by
  simp only[bz,hb,hats,hargs,iH]
 have hop:∀H2:nnl,aj P G ρ H2 H.C (.call c)=bh P H2 H.C t u s x:=fun H2=>by
  simp only[aj,hb,hats,hargs,fE]
 rw[hfp];unfold bh at h;split at h
 ·rename_i e he;split at h
  ·rename_i e' he';simp only[Xa]at h;obtain⟨z,hz,nx,hsrc,h⟩:=h;obtain⟨hxlt,hxl⟩:=yw wf hsrc;split at h
   ·simp only[kH,Bool.false_eq_true,if_false];split at h
    ·rename_i hn0;simp only[Option.some.injEq,Prod.mk.injEq]at h;obtain⟨rfl,rfl⟩:=h;refine dc hxlt fun H2 h2=>?_;rw[hop];simp only[bh,he,he',hz,hxl H2 h2,Option.bind_some,W8 hn0]
    ·rename_i hn0;split at h
     ·rename_i hb;simp only[W4,Prod.mk.injEq]at h;obtain⟨H3,hl,rfl,rfl⟩:=h;refine pX hl aaw hxlt fun H2 h2 H2' hl2=>?_;rw[hop];simp only[bh,he,he',hz,hxl H2 h2,Option.bind_some,W7 hn0,W8 hb,hl2,Option.map_some]
     ·cases h
   ·rename_i id' gen off len sz;simp only[kH,if_true];simp only[Xa]at h;obtain⟨ec,hl,h⟩:=h;have hlt:∀r,r∈aN (.Z id' gen off len sz)++aN x->r<H.C:=B5 (fF (jh wf hl)) hxlt;have hl2:∀H2:nnl,(∀r,r∈aN (.Z id' gen off len sz)++aN x->H2.get r=H.get r)->H2.na id' gen=some ec:=fun H2 h2=>by
     rw[jM (h2 id' (by simp[aN]))];exact hl
    have hx2:∀H2:nnl,(∀r,r∈aN (.Z id' gen off len sz)++aN x->H2.get r=H.get r)->bU H2 (P.cellsOf e) x=some nx:=fun H2 h2 =>
     hxl H2 fun r hr=>h2 r (YD _ hr)
    split at h
    ·rename_i hc;split at h
     ·rename_i hn0;simp only[Option.some.injEq,Prod.mk.injEq]at h;obtain⟨rfl,rfl⟩:=h;refine dc hlt fun H2 h2=>?_;rw[hop];simp only[bh,he,he',hz,hx2 H2 h2,hl2 H2 h2,Option.bind_some];rw[W8 hc,W8 hn0]
     ·rename_i hn0;simp only[Option.some.injEq,Prod.mk.injEq]at h;obtain⟨rfl,rfl⟩:=h;refine my (by simp[aN]) (by simp[aN]) hlt fun H2 h2=>?_;rw[hop];simp only[bh,he,he',hz,hx2 H2 h2,hl2 H2 h2,Option.bind_some];rw[W8 hc,W7 hn0]
    ·cases h
   ·cases h
  ·cases h
 ·cases h
def Kd (wf:fm H){s:nnn}(hb:c.callee=.builtin .copy)(hats:c.argTypes.toList=[t,u])(hargs:c.args.toList.map (ak G ρ)=[s,x])
  (h:kD P H t s x=some (v,H')):Local P G ρ H (.call c) v H' (bz P G ρ H.C (.call c)):=by
 have hfp:bz P G ρ H.C (.call c)=⟨aN s,aN s++aN x⟩:=by
  simp only[bz,hb,hats,hargs,iH]
 have hop:∀H2:nnl,aj P G ρ H2 H.C (.call c)=kD P H2 t s x:=fun H2=>by
  simp only[aj,hb,hats,hargs,fE]
 rw[hfp];unfold kD at h;split at h
 ·rename_i e he;split at h
  ·rename_i hs;simp only[Xa]at h;obtain⟨nx,hsrc,h⟩:=h;obtain⟨hxlt,hxl⟩:=yw wf hsrc;split at h
   ·rename_i id' gen off len sz;simp only[Xa]at h;obtain⟨ec,hl,h⟩:=h;have hlt:∀r,r∈aN (.Z id' gen off len sz)++aN x->r<H.C:=B5 (fF (jh wf hl)) hxlt;split at h
    ·rename_i hc;simp only[Option.some.injEq,Prod.mk.injEq]at h;obtain⟨rfl,rfl⟩:=h;refine my (by simp[aN]) (by simp[aN]) hlt fun H2 h2=>?_;have hl2:H2.na id' gen=some ec:=by
      rw[jM (h2 id' (by simp[aN]))];exact hl
     rw[hop];simp only[kD,he,hs,if_true,hxl H2 fun r hr=>h2 r (YD _ hr),hl2,Option.bind_some];rw[W8 hc]
    ·cases h
   ·cases h
  ·cases h
 ·cases h
def Ke (wf:fm H){s:nnn}(hb:c.callee=.builtin .clear)(hats:c.argTypes.toList=[t])(hargs:c.args.toList.map (ak G ρ)=[s])
  (h:ij P H t s=some (v,H')):Local P G ρ H (.call c) v H' (bz P G ρ H.C (.call c)):=by
 have hfp:bz P G ρ H.C (.call c)=⟨aN s,aN s⟩:=by
  simp only[bz,hb,hats,hargs,iH]
 have hop:∀H2:nnl,aj P G ρ H2 H.C (.call c)=ij P H2 t s:=fun H2=>by
  simp only[aj,hb,hats,hargs,fE]
 rw[hfp];unfold ij at h;split at h
 ·rename_i e he;split at h
  ·simp only[Option.some.injEq,Prod.mk.injEq]at h;obtain⟨rfl,rfl⟩:=h;refine dc (fun r hr=>by cases hr) fun H2 h2=>?_;rw[hop];simp only[ij,he]
  ·rename_i id' gen off len sz;simp only[Xa]at h;obtain⟨ec,hl,h⟩:=h;have hlt:∀r,r∈aN (.Z id' gen off len sz)->r<H.C:=fF (jh wf hl);have hl2:∀H2:nnl,(∀r,r∈aN (.Z id' gen off len sz)->H2.get r=H.get r)->H2.na id' gen=some ec:=fun H2 h2=>by
    rw[jM (h2 id' (by simp[aN]))];exact hl
   split at h
   ·rename_i h0;simp only[Option.some.injEq,Prod.mk.injEq]at h;obtain⟨rfl,rfl⟩:=h;refine dc hlt fun H2 h2=>?_;rw[hop];simp only[ij,he,hl2 H2 h2,Option.bind_some];rw[W8 h0]
   ·rename_i h0;simp only[Xa]at h;obtain⟨z,hz,h⟩:=h;split at h
    ·rename_i hc;simp only[Option.some.injEq,Prod.mk.injEq]at h;obtain⟨rfl,rfl⟩:=h;refine my (by simp[aN]) (by simp[aN]) hlt fun H2 h2=>?_;rw[hop];simp only[ij,he,hl2 H2 h2,hz,Option.bind_some];rw[W7 h0,W8 hc]
    ·cases h
  ·cases h
 ·cases h
def B6 (wf:fm H){m k x:Operand}(h:lE P H t (ak G ρ m) (ak G ρ k) (ak G ρ x)=some (v,H'))(hfp:bz P G ρ H.C o=⟨dN (ak G ρ m),dN (ak G ρ m)⟩)
  (hop:∀H2:nnl,aj P G ρ H2 H.C o=lE P H2 t (ak G ρ m) (ak G ρ k) (ak G ρ x)):Local P G ρ H o v H' (bz P G ρ H.C o):=by
 rw[hfp];unfold lE at h;split at h
 ·rename_i hm;split at h
  ·rename_i id k' u hx hk hu;split at h
   ·rename_i es hg;simp only[Option.some.injEq,Prod.mk.injEq]at h;obtain⟨rfl,rfl⟩:=h;refine my (by rw[hx];simp[dN]) (by rw[hx];simp[dN]) (by rw[hx];exact fF (wf _ _ hg)) fun H2 h2=>?_;have hg2:H2.get id=some (.mp es):=(by rw[h2 id (by rw[hx];simp[dN])];exact hg);rw[hop];simp only[lE,hm,if_true,hx,hk,hu,hg2]
   ·cases h
  ·cases h
 ·cases h
def Kf (wf:fm H){s d:TypeId}(h:jH P H s d x=some v):(∀r,r∈aN x->r<H.C)/\∀H2:nnl,(∀r,r∈aN x->H2.get r=H.get r)->jH P H2 s d x=some v:=by
 have bytes:∀y:nnn,mq P H s d y=some v->(∀r,r∈aN y->r<H.C)/\∀H2:nnl,(∀r,r∈aN y->H2.get r=H.get r)->mq P H2 s d y=some v:=by
  intro y h;unfold mq at h;split at h
  ·rename_i hsb;simp only[Xa]at h;obtain⟨nl,hs,h⟩:=h;obtain⟨h1,h2⟩:=yw wf hs;refine⟨h1,fun H2 ha=>?_⟩;unfold mq;rw[W8 hsb,h2 H2 ha];exact h
  ·cases h
 unfold jH at h;split at h
 ·exact bytes _ h
 ·exact bytes _ h
 ·rename_i hne1 hne2;refine⟨fun r hr=>?_,fun H2 _=>?_⟩
  ·unfold kF at h;split at h
   ·rename_i a ha;cases x<;>simp_all[aN,nnn.bZ]
   ·cases h
  ·unfold jH;split
   ·exact absurd rfl (hne1 _ _ _ _ _)
   ·exact absurd rfl (hne2 _ _)
   ·exact h
def yx (wf:fm H)(h:aj P G ρ H H.C o=some (v,H')):Local P G ρ H o v H' (bz P G ρ H.C o):=by
 cases o with
 |makeMap t r =>
  simp only[aj]at h;split at h
  ·simp only[W4,Prod.mk.injEq]at h;obtain⟨H3,hl,rfl,rfl⟩:=h;refine pX hl (by simp[bz]) cG fun H2 _ H2' hl2=>?_;simp only[aj,hl2,Option.map_some]
  ·cases h
 |lookup t x i ok =>
  simp only[aj,W4,Prod.mk.injEq]at h;obtain⟨v',hv,rfl,rfl⟩:=h;have hfp:bz P G ρ H.C (.lookup t x i ok)=⟨[],dN (ak G ρ x)⟩:=rfl;rw[hfp];unfold pK at hv;split at hv
  ·rename_i hm;split at hv
   ·rename_i hx hi;refine dc (by rw[hx];exact cG) fun H2 _=>?_;simp only[aj,pK,hm,if_true,hx,hi];simp only[Option.some.injEq]at hv;simp[hv]
   ·rename_i id k hx hi;split at hv
    ·rename_i es hg;refine dc (by rw[hx];exact fF (wf _ _ hg)) fun H2 h2=>?_;have hg2:H2.get id=some (.mp es):=(by rw[h2 id (by rw[hx];simp[dN])];exact hg);simp only[aj,pK,hm,if_true,hx,hi,hg2];simp only[Option.some.injEq]at hv;simp[hv]
    ·cases hv
   ·cases hv
  ·cases hv
 |mapUpdate t m k x=>exact B6 wf (by simp only[aj]at h;exact h) (by rfl) fun H2=>rfl
 |insert t m k x=>exact B6 wf (by simp only[aj]at h;exact h) (by rfl) fun H2=>rfl
 |mapEntry t m k =>
  simp only[aj]at h;have hfp:bz P G ρ H.C (.mapEntry t m k)=⟨dN (ak G ρ m),dN (ak G ρ m)⟩:=rfl;rw[hfp];unfold nO at h;split at h
  ·rename_i hm;split at h
   ·rename_i id k' hx hk;split at h
    ·rename_i es hg;have hg2:∀H2:nnl,(∀r,r∈dN (ak G ρ m)->H2.get r=H.get r)->H2.get id=some (.mp es):=fun H2 h2=>by rw[h2 id (by rw[hx];simp[dN])];exact hg
     split at h
     ·rename_i n u hf;simp only[Option.some.injEq,Prod.mk.injEq]at h;obtain⟨rfl,rfl⟩:=h;refine my (by rw[hx];simp[dN]) (by rw[hx];simp[dN]) (by rw[hx];exact fF (wf _ _ hg)) fun H2 h2=>?_;simp only[aj,nO,hm,if_true,hx,hk,hg2 H2 h2,hf]
     ·rename_i hf;simp only[Option.some.injEq,Prod.mk.injEq]at h;obtain⟨rfl,rfl⟩:=h;refine my (by rw[hx];simp[dN]) (by rw[hx];simp[dN]) (by rw[hx];exact fF (wf _ _ hg)) fun H2 h2=>?_;simp only[aj,nO,hm,if_true,hx,hk,hg2 H2 h2,hf]
    ·cases h
   ·cases h
  ·cases h
 |entryStore t m s x =>
  simp only[aj]at h;have hfp:bz P G ρ H.C (.entryStore t m s x)=⟨dN (ak G ρ m),dN (ak G ρ m)⟩:=rfl;rw[hfp];unfold pL at h;split at h
  ·rename_i id s' u hx hs hu;split at h
   ·rename_i es hg;split at h
    ·rename_i hlt;simp only[Option.some.injEq,Prod.mk.injEq]at h;obtain⟨rfl,rfl⟩:=h;refine my (by rw[hx];simp[dN]) (by rw[hx];simp[dN]) (by rw[hx];exact fF (wf _ _ hg)) fun H2 h2=>?_;have hg2:H2.get id=some (.mp es):=(by rw[h2 id (by rw[hx];simp[dN])];exact hg);simp only[aj,pL,hx,hs,hu,hg2];rw[W8 hlt]
    ·cases h
   ·cases h
  ·cases h
 |alloc e =>
  simp only[aj,Xa,W4,Prod.mk.injEq]at h;obtain⟨z,hz,H3,hl,rfl,rfl⟩:=h;refine pX hl (by simp[bz]) cG fun H2 _ H2' hl2=>?_;simp only[aj,hz,hl2,Option.bind_some,Option.map_some]
 |box e x =>
  simp only[aj,W4,Prod.mk.injEq]at h;obtain⟨H3,hl,rfl,rfl⟩:=h;refine pX hl (by simp[bz]) cG fun H2 _ H2' hl2=>?_;simp only[aj,hl2,Option.map_some]
 |buildSlice t len parts =>
  simp only[aj,jG]at h;split at h
  ·rename_i e he;split at h
   ·rename_i hc;simp only[Xa,W4,Prod.mk.injEq]at h;obtain⟨z,hz,cells,hcl,H3,hl,rfl,rfl⟩:=h;refine pX hl (by simp[bz]) cG fun H2 _ H2' hl2=>?_;simp only[aj,jG,he];rw[W8 hc];simp only[hz,hcl,hl2,Option.bind_some,Option.map_some]
   ·cases h
  ·cases h
 |makeSlice t l c =>
  simp only[aj,je]at h;split at h
  ·rename_i e k l' k' c' he hl' hc';split at h
   ·rename_i hc;simp only[Xa,W4,Prod.mk.injEq]at h;obtain⟨cells,hz,H3,hl,rfl,rfl⟩:=h;refine pX hl (by simp[bz]) cG fun H2 _ H2' hl2=>?_;simp only[aj,je,he,hl',hc'];rw[W8 hc];simp only[hz,hl2,Option.bind_some,Option.map_some]
   ·cases h
  ·cases h
 |store t a x =>
  simp only[aj]at h;split at h
  ·rename_i hu;simp only[W4,Prod.mk.injEq]at h;obtain⟨H3,hst,rfl,rfl⟩:=h;obtain⟨id,gen,off,g,e,cells,ha,hg,cells',rfl,hall⟩:=J7 hst;have hfp:bz P G ρ H.C (.store t a x)=⟨[id],[id]⟩:=(by simp only[bz,ha,aN]);rw[hfp];refine my aaw aaw (fF (wf _ _ hg)) fun H2 h2=>?_;simp only[aj,hu,if_true,hall H2 (h2 id aaw),Option.map_some]
  ·cases h
 |load t p =>
  simp only[aj,W4,Prod.mk.injEq]at h;obtain⟨v',hv,rfl,rfl⟩:=h;refine dc (J6 wf hv) fun H2 h2=>?_;simp only[aj,J5 h2,hv,Option.map_some]
 |nilCheck p =>
  simp only[aj,W4,Prod.mk.injEq]at h;obtain⟨v',hv,rfl,rfl⟩:=h;have hv0:=hv;unfold jI at hv;split at hv
  ·rename_i id gen off hp;simp only[W4]at hv;obtain⟨ec,hl,hv⟩:=hv;have hfp:bz P G ρ H.C (.nilCheck p)=⟨[],[id]⟩:=(by simp only[bz,hp,aN]);rw[hfp];refine dc (fF (jh wf hl)) fun H2 h2=>?_;subst hv;simp only[aj,hp,jI,jM (h2 id aaw),hl,Option.map_some]
  ·rename_i hp;have hfp:bz P G ρ H.C (.nilCheck p)=⟨[],[]⟩:=(by simp only[bz,hp,aN]);rw[hfp];refine dc cG fun H2 _=>?_;simp only[aj,hp,jI,Option.map_some,Option.some.injEq]at hv ⊢;rw[hv]
  ·rename_i hp;have hfp:bz P G ρ H.C (.nilCheck p)=⟨[],[]⟩:=(by simp only[bz,hp,aN]);rw[hfp];refine dc cG fun H2 _=>?_;simp only[aj,hp,jI,Option.map_some,Option.some.injEq]at hv ⊢;rw[hv]
  ·cases hv
 |slice t x lo hi mx =>
  simp only[aj]at h;split at h
  ·simp only[W4,Prod.mk.injEq]at h;obtain⟨v',hv,rfl,rfl⟩:=h;obtain⟨h1,h2⟩:=J9 wf hv;refine dc h1 fun H2 h3=>?_;simp only[aj,h2 H2 h3,Option.map_some]
  ·cases h
 |indexAddr t x i =>
  simp only[aj]at h;split at h
  ·rename_i k i' hi;simp only[W4,Prod.mk.injEq]at h;obtain⟨v',hv,rfl,rfl⟩:=h;obtain⟨h1,h2⟩:=J8 wf hv;refine dc h1 fun H2 h3=>?_;simp only[aj,hi,h2 H2 h3,Option.map_some]
  ·cases h
 |fieldAddr s x f =>
  simp only[aj,Xa]at h;obtain⟨of,hof,h⟩:=h;split at h
  ·rename_i id gen off hx;simp only[W4,Prod.mk.injEq]at h;obtain⟨ec,hl,rfl,rfl⟩:=h;have hfp:bz P G ρ H.C (.fieldAddr s x f)=⟨[],[id]⟩:=(by simp only[bz,hx,aN]);rw[hfp];refine dc (fF (jh wf hl)) fun H2 h2=>?_;simp only[aj,hof,Option.bind_some,hx,jM (h2 id aaw),hl,Option.map_some]
  ·rename_i cells off hx;simp only[Option.some.injEq,Prod.mk.injEq]at h;obtain⟨rfl,rfl⟩:=h;have hfp:bz P G ρ H.C (.fieldAddr s x f)=⟨[],[]⟩:=(by simp only[bz,hx,aN]);rw[hfp];refine dc cG fun H2 _=>?_;simp only[aj,hof,Option.bind_some,hx]
  ·cases h
 |call c =>
  have h0:=h;simp only[aj]at h;split at h
  ·rename_i b hb;unfold fE at h;split at h
   ·rename_i t x hats hargs;simp only[W4,Prod.mk.injEq]at h;obtain⟨v',hv,rfl,rfl⟩:=h;obtain⟨h1,h2⟩:=Ka wf hv;have hfp:bz P G ρ H.C (.call c)=⟨[],jL P t x⟩:=(by simp only[bz,hb,hats,hargs,iH]);rw[hfp];refine dc h1 fun H2 h3=>?_;simp only[aj,hb,hats,hargs,fE,h2 H2 h3,Option.map_some]
   ·rename_i hats hargs;exact Kc wf hb hats hargs h
   ·rename_i hats hargs;exact Kd wf hb hats hargs h
   ·rename_i hats hargs;exact Ke wf hb hats hargs h
   ·rename_i hats;simp only[Xa,W4,Prod.mk.injEq]at h;obtain⟨vs,h1,v',h2,rfl,rfl⟩:=h;have hfp:bz P G ρ H.C (.call c)=⟨[],[]⟩:=(by simp only[bz,hb,iH]);rw[hfp];refine dc cG fun H2 _=>?_;simp only[aj,hb,fE,h1,h2,Option.bind_some,Option.map_some]
   ·rename_i hats;simp only[Xa,W4,Prod.mk.injEq]at h;obtain⟨vs,h1,v',h2,rfl,rfl⟩:=h;have hfp:bz P G ρ H.C (.call c)=⟨[],[]⟩:=(by simp only[bz,hb,iH]);rw[hfp];refine dc cG fun H2 _=>?_;simp only[aj,hb,fE,h1,h2,Option.bind_some,Option.map_some]
   ·cases h
  ·cases h
 |pick c a b =>
  simp only[aj]at h;split at h
  ·rename_i t ht;simp only[Option.some.injEq,Prod.mk.injEq]at h;obtain⟨rfl,rfl⟩:=h;refine dc cG fun H2 _=>?_;simp only[aj,ht]
  ·cases h
 |makeFunc fn f c =>
  simp only[aj]at h;split at h
  ·simp only[Option.some.injEq,Prod.mk.injEq]at h;obtain⟨rfl,rfl⟩:=h;exact dc cG fun H2 _=>by simp only[aj]
  ·cases h
 |makeInterface t x =>
  simp only[aj]at h;split at h
  ·rename_i y hy;simp only[W4,Prod.mk.injEq]at h;obtain⟨v',hv,rfl,rfl⟩:=h;refine dc cG fun H2 _=>?_;simp only[aj,hy,hv,Option.map_some]
  ·cases h
 |field s x f =>
  simp only[aj,Xa]at h;obtain⟨of,hof,h⟩:=h;split at h
  ·rename_i hx;simp only[W4,Prod.mk.injEq]at h;obtain⟨v',hv,rfl,rfl⟩:=h;refine dc cG fun H2 _=>?_;simp only[aj,hof,Option.bind_some,hx,hv,Option.map_some]
  ·rename_i hx;simp only[W4,Prod.mk.injEq]at h;obtain⟨v',hv,rfl,rfl⟩:=h;refine dc cG fun H2 _=>?_;simp only[aj,hof,Option.bind_some,hx,hv,Option.map_some]
  ·cases h
 |move x=>simp only[aj,Option.some.injEq,Prod.mk.injEq]at h;obtain⟨rfl,rfl⟩:=h;exact dc cG fun H2 _=>by simp only[aj]
 |assign x=>simp only[aj,Option.some.injEq,Prod.mk.injEq]at h;obtain⟨rfl,rfl⟩:=h;exact dc cG fun H2 _=>by simp only[aj]
 |build t p=>simp only[aj,W4,Prod.mk.injEq]at h;obtain⟨v',hv,rfl,rfl⟩:=h;exact dc cG fun H2 _=>by simp only[aj,hv,Option.map_some]
 |binOp a b c d e=>simp only[aj,W4,Prod.mk.injEq]at h;obtain⟨v',hv,rfl,rfl⟩:=h;exact dc cG fun H2 _=>by simp only[aj,hv,Option.map_some]
 |unOp a b c=>simp only[aj,W4,Prod.mk.injEq]at h;obtain⟨v',hv,rfl,rfl⟩:=h;exact dc cG fun H2 _=>by simp only[aj,hv,Option.map_some]
 |convert a b c =>
  simp only[aj,W4,Prod.mk.injEq]at h;obtain⟨v',hv,rfl,rfl⟩:=h;obtain⟨h1,h2⟩:=Kf wf hv;refine dc h1 fun H2 ha=>?_;simp only[aj,h2 H2 ha,Option.map_some]
 |index a b c=>simp only[aj,W4,Prod.mk.injEq]at h;obtain⟨v',hv,rfl,rfl⟩:=h;exact dc cG fun H2 _=>by simp only[aj,hv,Option.map_some]
 |extract a b=>simp only[aj,W4,Prod.mk.injEq]at h;obtain⟨v',hv,rfl,rfl⟩:=h;exact dc cG fun H2 _=>by simp only[aj,hv,Option.map_some]
 |_=>simp[aj]at h
def B7 {ρ':Env}(h:∀x,x∈o.operands->ak G ρ x=ak G ρ' x):aj P G ρ H id o=aj P G ρ' H id o:=by
 have hparts:∀(ps:Array (Nat × Operand)),(∀x,x∈(ps.toList.map (·.2)).toArray->ak G ρ x=ak G ρ' x)->ps.toList.map (fun p=>(p.1,ak G ρ p.2))=ps.toList.map (fun p=>(p.1,ak G ρ' p.2)):=by
  intro ps hp;refine Yk fun p hpm=>?_;rw[hp p.2 (by simpa using ⟨p.1,by simpa using hpm⟩)]
 have hlist:∀(ps:Array Operand),(∀x,x∈ps->ak G ρ x=ak G ρ' x)->ps.toList.map (ak G ρ)=ps.toList.map (ak G ρ'):=by
  intro ps hp;exact Yk fun p hpm=>hp p (by simpa using hpm)
 cases o with
 |build t ps=>simp only[aj];rw[hparts ps h]
 |buildSlice t len ps=>simp only[aj];rw[hparts ps h]
 |makeFunc fn f c =>
  simp only[aj];rw[hlist f fun x hx=>h x (by simp[Op.operands,hx]),hlist c fun x hx=>h x (by simp[Op.operands,hx])]
 |slice t x lo hi mx =>
  have hx:=h x (by simp[Op.operands]);have hlo:lo.map (ak G ρ)=lo.map (ak G ρ'):=by
   cases lo with
   |none=>rfl
   |some l=>simp only[Option.map_some];rw[h l (by simp[Op.operands])]
  have hhi:hi.map (ak G ρ)=hi.map (ak G ρ'):=by
   cases hi with
   |none=>rfl
   |some l=>simp only[Option.map_some];rw[h l (by simp[Op.operands])]
  simp only[aj,hx,hlo,hhi]
 |call c =>
  simp only[aj];rw[hlist c.args fun x hx=>h x (by
   simp only[Op.operands,Call.operands];split<;>simp[hx])]
 |pick c a b=>simp only[aj,h c (by simp[Op.operands]),h a (by simp[Op.operands]),h b (by simp[Op.operands])]
 |store t a x=>simp only[aj,h a (by simp[Op.operands]),h x (by simp[Op.operands])]
 |binOp op t x y u=>simp only[aj,h x (by simp[Op.operands]),h y (by simp[Op.operands])]
 |makeSlice t l c=>simp only[aj,h l (by simp[Op.operands]),h c (by simp[Op.operands])]
 |indexAddr t x i=>simp only[aj,h x (by simp[Op.operands]),h i (by simp[Op.operands])]
 |index t x i=>simp only[aj,h x (by simp[Op.operands]),h i (by simp[Op.operands])]
 |move x=>simp only[aj,h x (by simp[Op.operands])]
 |assign x=>simp only[aj,h x (by simp[Op.operands])]
 |box e x=>simp only[aj,h x (by simp[Op.operands])]
 |load e x=>simp only[aj,h x (by simp[Op.operands])]
 |nilCheck x=>simp only[aj,h x (by simp[Op.operands])]
 |unOp a b x=>simp only[aj,h x (by simp[Op.operands])]
 |convert a b x=>simp only[aj,h x (by simp[Op.operands])]
 |makeInterface t x=>simp only[aj,h x (by simp[Op.operands])]
 |fieldAddr s x f=>simp only[aj,h x (by simp[Op.operands])]
 |field s x f=>simp only[aj,h x (by simp[Op.operands])]
 |extract x i=>simp only[aj,h x (by simp[Op.operands])]
 |lookup t x i ok=>simp only[aj,h x (by simp[Op.operands]),h i (by simp[Op.operands])]
 |mapUpdate t m k x=>simp only[aj,h m (by simp[Op.operands]),h k (by simp[Op.operands]),h x (by simp[Op.operands])]
 |insert t m k x=>simp only[aj,h m (by simp[Op.operands]),h k (by simp[Op.operands]),h x (by simp[Op.operands])]
 |mapEntry t m k=>simp only[aj,h m (by simp[Op.operands]),h k (by simp[Op.operands])]
 |entryStore t m s x=>simp only[aj,h m (by simp[Op.operands]),h s (by simp[Op.operands]),h x (by simp[Op.operands])]
 |_=>rfl
end Go.Hx
namespace Go.Hx
variable {P:Program} {G:Nat->Option (List nnn)} {Γ Γ':aA} {H H':nnl} {w w':World}
variable {ρ:Env}{r:Nat}{g:Nat->Option Blk}{e:Option (Nat × Blk)}{x:Option Tmp}{t:Tmp}{v:nnn}
def cz (P:Program)(G:Nat->Option (List nnn))(fv:nnn)(args:List nnn)(H:nnl)(v:nnn)(rs:List Nat):Prop :=
 (∀r,r∈rs->r<H.C)/\∀H2:nnl,(∀r,r∈rs->H2.get r=H.get r)->H.C<=H2.C->aC P G fv args H2 fun r H3=>r=.ret v/\H3=H2
def bA (P:Program)(G:Nat->Option (List nnn))(o:Oper)(K:FP->St->Prop)(s:St):Prop :=
 match o.op with
 |.call { callee:=.value fv,args,.. }=>∃v rs,cz P G (ak G s.ρ fv) (args.toList.map (ak G s.ρ)) s.H v rs/\K ⟨[],rs⟩ ⟨aF s.ρ o.dst v,s.H⟩
 |op=>bd (aj P G s.ρ s.H s.H.C op) fun vH=>K (bz P G s.ρ s.H.C op) ⟨aF s.ρ o.dst vH.1,vH.2⟩
def dH (i:Nat)(f:FP)(acc:List (Nat × FP)):List (Nat × FP) :=
 match f with
 |⟨[],[]⟩=>acc
 |f=>(i,f) :: acc
def fP (b:Nat)(f:FP)(acc:List (Nat × FP)):Prop :=
 ∀p,p∈acc->b.testBit p.1=false->(∀r,r∈f.nw->r ∉ p.2.rs)/\(∀r,r∈p.2.nw->r ∉ f.rs)
def cZ (P:Program)(G:Nat->Option (List nnn))(all:Array Oper)(tail:St->Prop):List Nat->Nat->List (Nat × FP)->List Oper->St->Prop
 |b :: bs,i,acc,o :: rest,s=>bd (eH all s.ρ o) fun t=>if t=true then bA P G o (fun f s'=>fP b f acc/\cZ P G all tail bs (i+1) (dH i f acc) rest s') s
   else cZ P G all tail bs (i+1) acc rest ⟨aF s.ρ o.dst (.lit undef),s.H⟩
 |_,_,_,[],s=>tail s
 | [],_,_,_ :: _,_=>False
def tZ (o:Oper):List Nat:=(o.after.toList.filter fun e=>Region.binds .any e).map (·.on)
def ua (x:Option Tmp)(l:List Tmp):Bool:=match x with|some d=>!l.contains d|none=>true
def ub (all:Array Oper)(x y:Oper):Bool :=
 ua x.dst (y.looksAt all) && ua y.dst (x.looksAt all) && (match x.dst with|some d=>y.dst != some d|none=>true)
def dw (bs:List Nat)(i:Nat):Nat:=(bs[i]?).getD 0
def yy (bs:List Nat)(i:Nat)(o:Oper):Bool :=
 let es:=tZ o
 let b:=dw bs i
 es.all (fun e=>decide (e<i)) && decide (b<2 ^ i) &&
 (List.range i).all (fun j=>!b.testBit j ||es.any fun e=>e == j ||(dw bs e).testBit j)
def pY (all:Array Oper)(bs:List Nat)(K:Nat):Bool :=
 decide (bs.length=K) && decide (K<=all.size) &&
 (List.range all.size).all (fun i=>match all[i]? with|some o=>yy (bs++(List.range' K (all.size-K)).map fun m=>2 ^ m-1) i o|none=>false) &&
 (List.range K).all fun i=>match all[i]? with
  |some o=>(List.range i).all fun j=>(dw bs i).testBit j ||(match all[j]? with|some o'=>ub all o' o|none=>false)
  |none=>false
structure Dt where
 v:nnn
 e:Option (Nat × Blk)
 al:Bool
 f:FP
def fG (all:Array Oper)(i:Nat):Option Tmp:=(all[i]?).bind (·.dst)
def bf (all:Array Oper)(d:Nat->Dt)(ρ0:Env):Nat->(Nat->Bool)->Env
 |0,_=>ρ0
 |n+1,D=>if D n then aF (bf all d ρ0 n D) (fG all n) (d n).v else bf all d ρ0 n D
def aX (d:Nat->Dt)(g0:Nat->Option Blk):Nat->(Nat->Bool)->Nat->Option Blk
 |0,_=>g0
 |n+1,D=>if D n then dO (d n).e (aX d g0 n D) else aX d g0 n D
def aJ (d:Nat->Dt):Nat->Nat
 |0=>0
 |n+1=>aJ d n+(if (d n).al then 1 else 0)
def dv (x:Dt):Option Nat:=x.e.map (·.1)
def pZ (h:e.map (·.1)≠some r):dO e g r=g r:=by
 cases e with
 |none=>rfl
 |some kb =>
  simp only[dO];rw[W7];rintro rfl;exact h rfl
def qc (h:x≠some t):aF ρ x v t=ρ t:=by
 cases x with
 |none=>rfl
 |some d =>
  simp only[aF];rw[W7];rintro rfl;exact h rfl
def uc {ρ':Env}(h:ρ t=ρ' t):aF ρ x v t=aF ρ' x v t:=by
 cases x with
 |none=>exact h
 |some d=>simp only[aF,h]
def ud {g':Nat->Option Blk}(h:g r=g' r):dO e g r=dO e g' r:=by
 cases e with
 |none=>exact h
 |some kb=>simp only[dO,h]
def B8 {y:Option Tmp}{u:nnn}(h:∀d,x=some d->y≠some d):aF (aF ρ x v) y u=aF (aF ρ y u) x v:=by
 funext t
 by_cases hx:x=some t
 ·rw[qc (h t hx)];exact uc (qc (h t hx)).symm
 ·rw[qc (ρ:=aF ρ y u) hx];exact uc (qc hx)
def Kg {e':Option (Nat × Blk)}(h:∀r,e.map (·.1)=some r->e'.map (·.1)≠some r):dO e' (dO e g)=dO e (dO e' g):=by
 funext r
 by_cases hx:e.map (·.1)=some r
 ·rw[pZ (h r hx)];exact ud (pZ (h r hx)).symm
 ·rw[pZ (g:=dO e' g) hx];exact ud (pZ hx)
section
variable {all:Array Oper} {d d':Nat->Dt} {ρ0:Env} {g0 g0':Nat->Option Blk} {D D':Nat->Bool}
def nP {t:Tmp}:∀ {n:Nat},(∀j,j<n->fG all j=some t->D j=D' j)->bf all d ρ0 n D t=bf all d ρ0 n D' t:=by
 intro n
 induction n with
 |zero=>intro _;rfl
 |succ n ih =>
  intro h;have h0:=ih fun j hj=>h j U;simp only[bf];by_cases hd:fG all n=some t
  ·rw[h n U hd];split
   ·exact uc h0
   ·exact h0
  ·have:∀(b:Bool) (ρ:Env),(if b=true then aF ρ (fG all n) (d n).v else ρ) t=ρ t:=by
    intro b ρ;split
    ·exact qc hd
    ·rfl
   rw[this,this];exact h0
def xD {m:Nat}:∀ {n:Nat},m<=n->bf all d ρ0 n (fun j=>decide (j<m))=bf all d ρ0 m fun _=>true:=by
 have low:∀k,k<=m->bf all d ρ0 k (fun j=>decide (j<m))=bf all d ρ0 k fun _=>true:=by
  intro k
  induction k with
  |zero=>intro _;rfl
  |succ k ih =>
   intro hk;simp only[bf];rw[ih U,W8 (by simp;omega)];simp
 intro n
 induction n with
 |zero =>
  intro hm;obtain rfl:m=0:=U
  exact low 0 (U)
 |succ n ih =>
  intro hm;by_cases h:m=n+1
  ·subst h;exact low (n+1) (U)
  ·simp only[bf];rw[W7 (by simp;omega)];exact ih (U)
def nS {r:Nat}:∀ {n:Nat},(∀j,j<n->dv (d j)=some r->D j=D' j)->aX d g0 n D r=aX d g0 n D' r:=by
 intro n
 induction n with
 |zero=>intro _;rfl
 |succ n ih =>
  intro h;have h0:=ih fun j hj=>h j U;simp only[aX];by_cases hd:dv (d n)=some r
  ·rw[h n U hd];split
   ·exact ud h0
   ·exact h0
  ·have:∀(b:Bool) (g:Nat->Option Blk),(if b=true then dO (d n).e g else g) r=g r:=by
    intro b g;split
    ·exact pZ hd
    ·rfl
   rw[this,this];exact h0
def xE {m:Nat}:∀ {n:Nat},m<=n->aX d g0 n (fun j=>decide (j<m))=aX d g0 m fun _=>true:=by
 have low:∀k,k<=m->aX d g0 k (fun j=>decide (j<m))=aX d g0 k fun _=>true:=by
  intro k
  induction k with
  |zero=>intro _;rfl
  |succ k ih =>
   intro hk;simp only[aX];rw[ih U,W8 (by simp;omega)];simp
 intro n
 induction n with
 |zero =>
  intro hm;obtain rfl:m=0:=U
  exact low 0 (U)
 |succ n ih =>
  intro hm;by_cases h:m=n+1
  ·subst h;exact low (n+1) (U)
  ·simp only[aX];rw[W7 (by simp;omega)];exact ih (U)
def rH {r:Nat}:∀ {n:Nat},(g0 r=g0' r\/∃j,j<n/\D j=true/\dv (d j)=some r)->aX d g0 n D r=aX d g0' n D r:=by
 intro n
 induction n with
 |zero =>
  rintro(h|⟨j,hj,_⟩)
  ·exact h
  ·omega
 |succ n ih =>
  intro h;simp only[aX];by_cases hD:D n=true
  ·rw[W8 hD,W8 hD];by_cases ht:dv (d n)=some r
   ·cases he:(d n).e with
    |none=>simp[dv,he]at ht
    |some kb =>
     simp only[dv,he,Option.map_some,Option.some.injEq]at ht;simp only[dO];rw[W8 ht.symm,W8 ht.symm]
   ·refine ud (ih ?_);rcases h with h|⟨j,hj,h1,h2⟩
    ·exact .inl h
    ·by_cases hjn:j=n
     ·subst hjn;exact absurd h2 ht
     ·exact .inr ⟨j,U,h1,h2⟩
  ·rw[W7 hD,W7 hD];refine ih ?_;rcases h with h|⟨j,hj,h1,h2⟩
   ·exact .inl h
   ·by_cases hjn:j=n
    ·subst hjn;exact absurd h1 hD
    ·exact .inr ⟨j,U,h1,h2⟩
def xF {r:Nat}:∀ {n:Nat},(∀j,j<n->D j=true->dv (d j)≠some r)->aX d g0 n D r=g0 r:=by
 intro n
 induction n with
 |zero=>intro _;rfl
 |succ n ih =>
  intro h;simp only[aX];split
  ·rename_i hD;rw[pZ (h n U hD)];exact ih fun j hj=>h j (U)
  ·exact ih fun j hj=>h j (U)
def bJ (D:Nat->Bool)(i:Nat):Nat->Bool:=fun j=>if j=i then true else D j
def xG {i:Nat}(hD:D i=false):∀ {n:Nat},i<n->(∀j,i<j->j<n->D j=true->∀t,fG all i=some t->fG all j≠some t) ->
  bf all d ρ0 n (bJ D i)=aF (bf all d ρ0 n D) (fG all i) (d i).v:=by
 intro n
 induction n with
 |zero=>intro h;omega
 |succ n ih =>
  intro hi h;by_cases hin:i=n
  ·subst hin;have h0:bf all d ρ0 i (bJ D i)=bf all d ρ0 i D:=funext fun t=>nP fun j hj _=>by simp[bJ,Zz hj]
   simp only[bf];rw[W8 (by simp[bJ]),W7 (by simp[hD]),h0]
  ·have hw:bJ D i n=D n:=(by simp[bJ,Ne.symm hin]);have h0:=ih U fun j h1 h2=>h j h1 U;simp only[bf,hw];split
   ·rename_i hDn;rw[h0];exact B8 (h n U U hDn)
   ·exact h0
def xH {i:Nat}(hD:D i=false):∀ {n:Nat},i<n->(∀j,i<j->j<n->D j=true->∀t,dv (d i)=some t->dv (d j)≠some t) ->
  aX d g0 n (bJ D i)=dO (d i).e (aX d g0 n D):=by
 intro n
 induction n with
 |zero=>intro h;omega
 |succ n ih =>
  intro hi h;by_cases hin:i=n
  ·subst hin;have h0:aX d g0 i (bJ D i)=aX d g0 i D:=funext fun t=>nS fun j hj _=>by simp[bJ,Zz hj]
   simp only[aX];rw[W8 (by simp[bJ]),W7 (by simp[hD]),h0]
  ·have hw:bJ D i n=D n:=(by simp[bJ,Ne.symm hin]);have h0:=ih U fun j h1 h2=>h j h1 U;simp only[aX,hw];split
   ·rename_i hDn;rw[h0];exact Kg (h n U U hDn)
   ·exact h0
def pR {m n:Nat}(h:m<=n):aJ d m<=aJ d n:=by
 induction n with
 |zero =>
  have:m=0:=U
  subst this;exact Nat.le_refl _
 |succ n ih =>
  by_cases hm:m=n+1
  ·subst hm;exact Nat.le_refl _
  ·exact XN (ih U) (by simp[aJ])
def rI {n c:Nat}(h:c<aJ d n):∃j,j<n/\(d j).al=true/\aJ d j=c:=by
 induction n with
 |zero=>simp[aJ]at h
 |succ n ih =>
  by_cases hc:c<aJ d n
  ·obtain⟨j,h1,h2⟩:=ih hc;exact⟨j,U,h2⟩
  ·simp only[aJ]at h;cases hal:(d n).al with
   |false=>simp[hal]at h;omega
   |true =>
    simp only[hal,if_true]at h;exact⟨n,U,hal,U⟩
def kG {i n:Nat}(h:i<n)(hal:(d i).al=true):aJ d i<aJ d n:=by
 have:=pR (d:=d) (m:=i+1) (n:=n) h;simp only[aJ,hal,if_true]at this;omega
def rJ {n:Nat}(h:∀j,j<n->d j=d' j):bf all d ρ0 n D=bf all d' ρ0 n D:=by
 induction n with
 |zero=>rfl
 |succ n ih=>simp only[bf];rw[ih fun j hj=>h j U,h n U]
def rK {n:Nat}(h:∀j,j<n->d j=d' j):aX d g0 n D=aX d' g0 n D:=by
 induction n with
 |zero=>rfl
 |succ n ih=>simp only[aX];rw[ih fun j hj=>h j U,h n U]
def eR {n:Nat}(h:∀j,j<n->d j=d' j):aJ d n=aJ d' n:=by
 induction n with
 |zero=>rfl
 |succ n ih=>simp only[aJ];rw[ih fun j hj=>h j U,h n U]
end
def ExecOk (P:Program)(G:Nat->Option (List nnn))(all:Array Oper)(o:Oper)(id:Nat)(s s':St):Prop :=
 (eH all s.ρ o=some false/\s'=⟨aF s.ρ o.dst (.lit undef),s.H⟩) \/
 (eH all s.ρ o=some true/\∃v,s'.ρ=aF s.ρ o.dst v /\
  (aj P G s.ρ s.H id o.op=some (v,s'.H) \/
   ∃fv args ats,o.op=.call ⟨.value fv,args,ats⟩/\s'.H=s.H/\aC P G (ak G s.ρ fv) (args.toList.map (ak G s.ρ)) s.H fun r H3=>r=.ret v/\H3=s.H))
def xI {n:Nat}{wb:nnA}{rd rb:Option Nat}{all:Array Oper}{o:Oper}{id i:Nat}{s s':St}{a:Act}{C:Act->World->Prop}{Q':Exit->Act->World->Prop}(ho:all[i]?=some o)(hd:dM n o=true)
  (hs:nnr P G n wb Γ s a w) (hr:dp Γ s.H rd rb) (h:ExecOk P G all o id s s')
  (hnext:∀ Γ' a' w',nnr P G n wb Γ' s' a' w'->Evo Γ s.H w Γ' s'.H w'->s.H.C<=s'.H.C->dp Γ' s'.H rd rb->(∃cv,a'=a.put o.dst cv)->C a' w'):
  wpOpIn (da rb) 0 P all Q' i C a w:=by
 have hdst:∀d,o.dst=some d->d<n:=by
  intro d hd';unfold dM at hd;rw[hd']at hd;simpa using hd
 unfold wpOpIn;rw[ho];simp only;rcases h with ⟨hw,rfl⟩|⟨hw,v,hρ,h⟩
 ·rw[nW hs hw];simp only[Bool.false_eq_true,if_false];refine⟨fun _ _=>trivial,?_⟩;have hs':=gM (v:=.lit undef) (cv:=undef) hs hdst (Evo.refl Γ s.H w) aaz hs.heap (.lit _);exact hnext Γ _ w hs' (Evo.refl _ _ _) aaz hr ⟨_,rfl⟩
 ·rw[nW hs hw];simp only[if_true];obtain⟨ρ',H'⟩:=s';simp only at hρ;subst hρ;refine⟨fun _ _=>trivial,?_⟩;rcases h with hop|⟨fv,args,ats,hop,hH,hap⟩
  ·simp only at hop;rw[Oper.semAt_eq _ _ _ (fun c hc=>by rw[hc]at hop;simp[aj]at hop)];obtain⟨nx,cv,Γ',w',hrun,hnx,E,hn,R,hv⟩:=x7 hs.heap (ik hs) hop;rw[hrun];have hri:=yb hr (yd hs.heap hop);have hs':=gM hs hdst E hn R hv;have hr':=hr.aU E hn hs.heap hri;rcases hnx with rfl|⟨rfl,rfl⟩
   ·exact hnext Γ' _ w' hs' E hn hr' ⟨_,rfl⟩
   ·exact hnext Γ' _ w' hs' E hn hr' ⟨_,rfl⟩
  ·simp only at hH;subst hH;rw[Oper.semAt_eq _ _ _ (fun c hc=>by rw[hc]at hop;cases hop)];obtain⟨d,h1,h2⟩:=hap Γ w (a.eval fv) (args.map a.eval) hs.heap (ik hs fv) ⟨aaw,fun i h1 h2=>by simp only[Xi,Zb,Ya];exact ik hs _⟩;have hex:(execOp a.eval o).run P w=(invoke d.target d.args).run P w:=by
    unfold execOp;simp only[hop];unfold resolve;simp only;rw[ao h1]
   have hri:eS s.H rd:=by
    cases rd with
    |none=>trivial
    |some id =>
     obtain⟨b,st,pend,n,env,ps,asg,body,_,_,h3⟩:=hr;exact⟨_,_,_,_,_,_,_,h3⟩
   have cont:∀e w',eG P G Γ s.H w (fun r H3=>r=.ret v/\H3=s.H) e w'->(match e with
     |.returned v=>C (a.put o.dst v) w'
     |.panicked chain=>Q' (.panic chain) a w'
     |.outgrown=>LetsOut Q'):=by
    rintro e w' ⟨r,H',Γ',hend,⟨rfl,rfl⟩,R,E,hn⟩;have hr':=hr.aU E hn hs.heap hri;cases e with
    |returned cv=>exact hnext Γ' _ w' (gM hs hdst E hn R hend) E hn hr' ⟨_,rfl⟩
    |panicked chain=>exact hend.elim
    |outgrown=>exact hend.elim
   rw[hex];rcases h2 with ⟨f,as,h3,h4⟩|⟨l,f,tm,asg,body,h3,h4⟩|⟨cv,w',h3,h4⟩
   ·rw[h3];refine⟨fun hc=>by simp[Fence.wide]at hc,?_⟩;have h4':CallsIn (da rb) 0 P f as w _:=h4;refine h4'.mono ?_;intro e w' hp;have:=cont e w' hp;cases e<;>exact this
   ·rw[h3];refine⟨fun hc=>by simp[Fence.wide]at hc,?_⟩;have h4':RoundIn (da rb) 0 P l f tm asg body w _:=h4;refine h4'.mono ?_;intro e w' hp;have:=cont e w' hp;cases e<;>exact this
   ·rw[h3];exact cont (.returned cv) w' h4
def lG (d:Nat->Dt)(H0:nnl)(m:Nat):nnl:=⟨aX d H0.get m fun _=>true,H0.C+aJ d m⟩
def canon (all:Array Oper)(d:Nat->Dt)(s0:St)(m:Nat):St:=⟨bf all d s0.ρ m fun _=>true,lG d s0.H m⟩
structure nno (P:Program)(G:Nat->Option (List nnn))(all:Array Oper)(bs:List Nat)(s0:St)(d:Nat->Dt)(i:Nat):Prop where
 step:∀o,all[i]?=some o->∀ ρ2 H2,(∀t,t∈o.looksAt all->ρ2 t=(canon all d s0 i).ρ t)->(∀r,r∈(d i).f.rs->H2.get r=(canon all d s0 i).H.get r) ->
  ((d i).al=true->H2.get (s0.H.C+aJ d i)=some .nj/\s0.H.C+aJ d i≠H2.C)->s0.H.C+aJ d i<=H2.C ->
  ExecOk P G all o (s0.H.C+aJ d i) ⟨ρ2,H2⟩ ⟨aF ρ2 o.dst (d i).v,⟨dO (d i).e H2.get,H2.C⟩⟩
 nw:∀k b,(d i).e=some (k,b)->k∈(d i).f.nw/\((d i).al=false->k∈(d i).f.rs)
 al:(d i).al=true->∃b,(d i).e=some (s0.H.C+aJ d i,b)
 lt:∀r,r∈(d i).f.rs->r<s0.H.C+aJ d i
 apart:∀j,j<i->(dw bs i).testBit j=false->(∀r,r∈(d i).f.nw->r ∉ (d j).f.rs)/\(∀r,r∈(d j).f.nw->r ∉ (d i).f.rs)
def qd {all:Array Oper}{o:Oper}{ρ ρ':Env}(h:∀t,t∈o.looksAt all->ρ' t=ρ t):eH all ρ' o=eH all ρ o:=by
 unfold eH;cases hg:o.guard with
 |none=>rfl
 |some gw =>
  obtain⟨j,want⟩:=gw;simp only;cases hd:(all[j]?).bind (·.dst) with
  |none=>rfl
  |some d =>
   simp only;rw[h d (by simp[Oper.looksAt,hg,hd])]
def ue {all:Array Oper}{o:Oper}{ρ ρ':Env}(h:∀t,t∈o.looksAt all->ρ' t=ρ t):∀x,x∈o.op.operands->ak G ρ' x=ak G ρ x:=by
 intro x hx;cases x with
 |tmp t=>exact h t (YU _ (List.mem_filterMap.2 ⟨.tmp t,by simpa using hx,rfl⟩))
 |_=>rfl
def bM (d:Nat->Dt)(m:Nat)(x:Dt):Nat->Dt:=fun j=>if j=m then x else d j
def fM {d:Nat->Dt}{m:Nat}{x:Dt}{i:Nat}(h:i<m):d i=bM d m x i:=by simp[bM,Zz h]
def cJ {d:Nat->Dt}{m:Nat}{x:Dt}:bM d m x m=x:=by simp[bM]
def lH {all:Array Oper}{d d':Nat->Dt}{s0:St}{m:Nat}(h:∀j,j<m->d j=d' j):canon all d s0 m=canon all d' s0 m:=by
 unfold canon lG;rw[rJ h,rK h,eR h]
def nno.below {all:Array Oper}{bs:List Nat}{s0:St}{d d':Nat->Dt}{i:Nat}(g:nno P G all bs s0 d i)(h:∀j,j<=i->d j=d' j):nno P G all bs s0 d' i:=by
 have hi:=h i aaz;have hn:aJ d i=aJ d' i:=eR fun j hj=>h j U;have hc:canon all d s0 i=canon all d' s0 i:=lH fun j hj=>h j U;obtain⟨a,b,c,e,f⟩:=g;refine⟨?_,?_,?_,?_,?_⟩
 ·rw[<- hi,<- hn,<- hc];exact a
 ·rw[<- hi];exact b
 ·rw[<- hi,<- hn];exact c
 ·rw[<- hi,<- hn];exact e
 ·intro j hj hb;rw[<- hi,<- h j U];exact f j hj hb
def jJ (d:Nat->Dt)(m:Nat)(acc:List (Nat × FP)):Prop:=∀j,j<m->(d j).f=⟨[],[]⟩\/(j,(d j).f)∈acc
def jJ.add {d:Nat->Dt}{m:Nat}{acc:List (Nat × FP)}(h:jJ d m acc)(x:Dt):jJ (bM d m x) (m+1) (dH m x.f acc):=by
 intro j hj;have key:∀p,p∈acc->p∈dH m x.f acc:=by
  intro p hp;unfold dH;split
  ·exact hp
  ·exact X5 _ hp
 by_cases hjm:j=m
 ·subst hjm;rw[cJ];by_cases hf:x.f=⟨[],[]⟩
  ·exact .inl hf
  ·refine .inr ?_;unfold dH;split
   ·rename_i h0;exact absurd h0 hf
   ·exact YA
 ·rw[<- fM (x:=x) U];exact(h j U).imp id (key _)
def rL {d:Nat->Dt}{m:Nat}{acc:List (Nat × FP)}{b:Nat}{f:FP}(hc:jJ d m acc)(h:fP b f acc):∀j,j<m->b.testBit j=false->(∀r,r∈f.nw->r ∉ (d j).f.rs)/\(∀r,r∈(d j).f.nw->r ∉ f.rs):=by
 intro j hj hb;rcases hc j hj with h0|h1
 ·rw[h0];exact⟨fun r _ h=>(by cases h),fun r h=>(by cases h)⟩
 ·exact h _ h1 hb
def nT {all:Array Oper}{d:Nat->Dt}{s0:St}{m:Nat}{x:Dt}{o:Oper}(ho:all[m]?=some o):
  canon all (bM d m x) s0 (m+1)=⟨aF (canon all d s0 m).ρ o.dst x.v,⟨dO x.e (canon all d s0 m).H.get,(canon all d s0 m).H.C+(if x.al then 1 else 0)⟩⟩:=by
 have hb:∀j,j<m->d j=bM d m x j:=fun j hj=>fM hj;unfold canon lG;simp only[bf,aX,aJ,if_true,cJ];rw[<- rJ hb,<- rK hb,<- eR hb];simp only[fG,ho,Option.bind_some,YQ]
def nU {all:Array Oper}{bs:List Nat}{s0:St}{d:Nat->Dt}{m:Nat}{x:Dt}(hg:∀i,i<m->nno P G all bs s0 d i)(hx:nno P G all bs s0 (bM d m x) m):
  ∀i,i<m+1->nno P G all bs s0 (bM d m x) i:=by
 intro i hi;by_cases him:i=m
 ·subst him;exact hx
 ·exact(hg i U).below fun j hj=>fM (U)
def trace {all:Array Oper}{bs:List Nat}{s0:St}{tail:St->Prop}{K:Nat}(hbs:bs.length=K)(hK:K<=all.size):∀(k m:Nat) (d:Nat->Dt) (acc:List (Nat × FP)),k+m=K ->
  (∀i,i<m->nno P G all bs s0 d i)->jJ d m acc->fm (canon all d s0 m).H->cZ P G all tail (bs.drop m) m acc ((all.toList.take K).drop m) (canon all d s0 m) ->
  ∃d',(∀i,i<K->nno P G all bs s0 d' i)/\tail (canon all d' s0 K):=by
 intro k
 induction k with
 |zero =>
  intro m d acc hm hg hc wf h;obtain rfl:m=K:=U
  refine⟨d,hg,?_⟩;have:(all.toList.take m).drop m=[]:=by
   apply ZI;simp only[Xm];omega
  rw[this]at h;cases hb:bs.drop m with
  |nil=>rw[hb]at h;simpa only[cZ] using h
  |cons b bs'=>rw[hb]at h;simpa only[cZ] using h
 |succ k ih =>
  intro m d acc hm hg hc wf h;have hmK:m<K:=U
  have hms:m<all.size:=U
  have ho:all[m]?=some all[m]:=Xk hms;have hbm:bs.drop m=dw bs m :: bs.drop (m+1):=by
   rw[XS U];congr 1;simp[dw,W5 (show m<bs.length by omega)]
  have hom:(all.toList.take K).drop m=all[m] :: (all.toList.take K).drop (m+1):=by
   rw[XS (by simp only[Xm,YO];omega)];congr 1;simp
  rw[hbm,hom]at h;simp only[cZ]at h;obtain⟨t,ht,h⟩:=h;have hnext:(canon all d s0 m).H.C=s0.H.C+aJ d m:=rfl;cases t with
  |false =>
   simp only[Bool.false_eq_true,if_false]at h
   let x:Dt:=⟨.lit undef,none,false,⟨[],[]⟩⟩
   have hb:∀j,j<m->d j=bM d m x j:=fun j hj=>fM hj;have hcan:canon all (bM d m x) s0 (m+1)=⟨aF (canon all d s0 m).ρ all[m].dst (.lit undef),(canon all d s0 m).H⟩:=nT ho;have hgx:nno P G all bs s0 (bM d m x) m:=by
    refine⟨?_,?_,?_,?_,?_⟩
    ·rw[cJ,<- lH hb];intro o ho' ρ2 H2 h1 h2 h3 _;rw[ho]at ho';cases ho';refine .inl ⟨?_,rfl⟩;simp only;rw[qd h1,ht]
    ·rw[cJ];intro k b he;cases he
    ·rw[cJ];intro he;cases he
    ·rw[cJ];intro r hr;cases hr
    ·rw[cJ];intro j hj hbit;exact⟨fun r hr=>(by cases hr),fun r hr hr'=>(by cases hr')⟩
   refine ih (m+1) (bM d m x) acc U (nU hg hgx) (hc.add x) ?_ ?_
   ·rw[hcan];exact wf
   ·rw[hcan];exact h
  |true =>
   simp only[if_true]at h;unfold bA at h;split at h
   ·rename_i fv args ats hop;obtain⟨v,rs,⟨hlt,hcall⟩,hap,h⟩:=h
    let x:Dt:=⟨v,none,false,⟨[],rs⟩⟩
    have hb:∀j,j<m->d j=bM d m x j:=fun j hj=>fM hj;have hcan:canon all (bM d m x) s0 (m+1)=⟨aF (canon all d s0 m).ρ all[m].dst v,(canon all d s0 m).H⟩:=nT ho;have hgx:nno P G all bs s0 (bM d m x) m:=by
     refine⟨?_,?_,?_,?_,?_⟩
     ·rw[cJ,<- lH hb];intro o ho' ρ2 H2 h1 h2 h3 h4;rw[ho]at ho';cases ho';refine .inr ⟨?_,v,rfl,.inr ⟨fv,args,ats,hop,rfl,?_⟩⟩
      ·simp only;rw[qd h1,ht]
      ·have hev:=ue (G:=G) h1;have e1:ak G ρ2 fv=ak G (canon all d s0 m).ρ fv:=hev fv (by simp[hop,Op.operands,Call.operands]);have e2:args.toList.map (ak G ρ2)=args.toList.map (ak G (canon all d s0 m).ρ) :=
        Yk fun y hy=>hev y (by simp only[hop,Op.operands,Call.operands];simp;exact .inr (by simpa using hy))
       simp only;rw[e1,e2];exact hcall H2 h2 (by rw[hnext,eR hb];exact h4)
     ·rw[cJ];intro k b he;cases he
     ·rw[cJ];intro he;cases he
     ·rw[cJ,<- eR hb];exact hlt
     ·rw[cJ];intro j hj hbit;rw[<- fM hj];exact rL hc hap j hj hbit
    refine ih (m+1) (bM d m x) _ U (nU hg hgx) (hc.add x) ?_ ?_
    ·rw[hcan];exact wf
    ·rw[hcan];exact h
   ·obtain⟨⟨v,H'⟩,hop,hap,h⟩:=h;obtain⟨e,al,hget,hnx,heff,hal,hlt,hloc⟩:=yx wf hop
    let x:Dt:=⟨v,e,al,bz P G (canon all d s0 m).ρ (canon all d s0 m).H.C all[m].op⟩
    have hb:∀j,j<m->d j=bM d m x j:=fun j hj=>fM hj;have hcan:canon all (bM d m x) s0 (m+1)=⟨aF (canon all d s0 m).ρ all[m].dst v,H'⟩:=by
     rw[nT ho];congr 1;cases H';simp only at hget hnx;simp only[nnl.mk.injEq];refine⟨hget.symm,?_⟩;rw[hnx];simp only[x];cases al<;>simp
    have hgx:nno P G all bs s0 (bM d m x) m:=by
     refine⟨?_,?_,?_,?_,?_⟩
     ·rw[cJ,<- lH hb,<- eR hb];intro o ho' ρ2 H2 h1 h2 h3 h4;rw[ho]at ho';cases ho';refine .inr ⟨?_,v,rfl,.inl ?_⟩
      ·simp only;rw[qd h1,ht]
      ·simp only;rw[B7 (ρ':=(canon all d s0 m).ρ) (ue h1)];exact hloc H2 h2 h3
     ·rw[cJ];exact heff
     ·rw[cJ,<- eR hb];exact hal
     ·rw[cJ,<- eR hb];exact hlt
     ·rw[cJ];intro j hj hbit;rw[<- fM hj];exact rL hc hap j hj hbit
    have wf':fm H':=by
     intro id b hid;rw[hget]at hid;rw[hnx];cases e with
     |none =>
      have:=wf id b hid;split<;>omega
     |some kb =>
      obtain⟨k0,b0⟩:=kb;simp only[dO]at hid;split at hid
      ·rename_i hk;subst hk;cases al with
       |true =>
        obtain⟨b1,hb1⟩:=hal rfl;simp only[Option.some.injEq,Prod.mk.injEq]at hb1;simp only[if_true];omega
       |false =>
        have:=hlt _ ((heff id b0 rfl).2 rfl);simpa using this
      ·have:=wf id b hid;split<;>omega
    refine ih (m+1) (bM d m x) _ U (nU hg hgx) (hc.add x) ?_ ?_
    ·rw[hcan];exact wf'
    ·rw[hcan];exact h
end Go.Hx
namespace Go.Hx
variable {P:Program} {G:Nat->Option (List nnn)} {Γ Γ':aA} {H H':nnl} {w w':World}
variable {bs:List Nat}{K i j:Nat}{D:Nat->Bool}{d:Nat->Dt}{o:Oper}{s0:St}
structure nnE (all:Array Oper)(bs:List Nat)(K:Nat):Prop where
 len:bs.length=K
 le:K<=all.size
 down:∀i o,all[i]?=some o->∀e,e∈o.after->Region.binds .any e=true->e.on<i
 just:∀i o j,all[i]?=some o->(if i<K then (dw bs i).testBit j=true else j<i)->∃e,e∈o.after/\Region.binds .any e=true/\(e.on=j\/(if e.on<K then (dw bs e.on).testBit j=true else j<e.on))
 apart:∀i j oi oj,i<K->j<i->all[i]?=some oi->all[j]?=some oj->(dw bs i).testBit j=false->ub all oj oi=true
def Cn {k:Nat}:k∈tZ o↔∃e,e∈o.after/\Region.binds .any e=true/\e.on=k:=by
 simp[tZ,and_assoc]
def Co {N:Nat}(hl:bs.length=K)(hi:i<N)(hK:K<=N):
  (dw (bs++(List.range' K (N-K)).map fun m=>2 ^ m-1) i).testBit j=true↔(if i<K then (dw bs i).testBit j=true else j<i):=by
 unfold dw;by_cases h:i<K
 ·rw[W8 h,Xe U]
 ·rw[W7 h,Xp U,List.getElem?_map,List.getElem?_range' U];simp only[Option.map_some,Option.getD_some,XT,decide_eq_true_eq];have:K+1*(i-bs.length)=i:=U
  rw[this]
def Cp {all:Array Oper}(h:pY all bs K=true):nnE all bs K:=by
 unfold pY at h;simp only[Xv,decide_eq_true_eq,XK,XJ]at h;obtain⟨⟨⟨hlen,hle⟩,hone⟩,hap⟩:=h;have hlt:∀i o,all[i]?=some o->i<all.size:=fun i o ho=>(XY.1 ho).1;have hdown:∀i o,all[i]?=some o->∀e,e∈o.after->Region.binds .any e=true->e.on<i:=by
  intro i o ho e he hb;have h1:=hone i (hlt i o ho);rw[ho]at h1;simp only[yy,Xv,XK,decide_eq_true_eq]at h1;exact h1.1.1 e.on (Cn.2 ⟨e,he,hb,rfl⟩)
 refine⟨hlen,hle,hdown,?_,?_⟩
 ·intro i o j ho hj;have hi:=hlt i o ho;have h1:=hone i hi;rw[ho]at h1;simp only[yy,Xv,XK,decide_eq_true_eq,XJ]at h1;obtain⟨⟨_,hb⟩,h2⟩:=h1;have hbit:=(Co (j:=j) hlen hi hle).2 hj;have hji:j<i:=by
   rcases Xu j i with h|h
   ·exact h
   ·have:=Yf (Xd hb (Xq U h));rw[hbit]at this;cases this
  have h3:=h2 j hji;rw[hbit]at h3;simp only[Bool.not_true,ZW,List.any_eq_true,XU,beq_iff_eq]at h3;obtain⟨k,hk,h4⟩:=h3;obtain⟨e,he,hbe,rfl⟩:=Cn.1 hk;refine⟨e,he,hbe,h4.imp id fun h5=>?_⟩;exact(Co (j:=j) hlen (Nat.lt_trans (hdown i o ho e he hbe) hi) hle).1 h5
 ·intro i j oi oj hi hj hoi hoj hbit;have h1:=hap i hi;rw[hoi]at h1;simp only[XK,XJ]at h1;have h2:=h1 j hj;rw[hbit,hoj]at h2;simpa using h2
def Cq {x:Option Tmp}{l:List Tmp}{t:Tmp}(h:ua x l=true)(hx:x=some t):t ∉ l:=by
 subst hx;simpa[ua] using h
def qh {all:Array Oper}{x y:Oper}(h:ub all x y=true):(∀t,x.dst=some t->t ∉ y.looksAt all)/\(∀t,y.dst=some t->t ∉ x.looksAt all)/\(∀t,x.dst=some t->y.dst≠some t):=by
 simp only[ub,Xv]at h;obtain⟨⟨h1,h2⟩,h3⟩:=h;refine⟨fun t ht=>Cq h1 ht,fun t ht=>Cq h2 ht,fun t ht=>?_⟩;rw[ht]at h3;simpa using h3
def ui (all:Array Oper)(L:Nat->Bool):Prop:=∀i o,L i=true->all[i]?=some o->∀e,e∈o.after->Region.binds .any e=true->L e.on=true
def nnE.ahead {all:Array Oper}(S:nnE all bs K){L:Nat->Bool}(hL:ui all L):∀i o j,all[i]?=some o->(∀e,e∈o.after->Region.binds .any e=true->L e.on=true) ->
  (if i<K then (dw bs i).testBit j=true else j<i)->L j=true:=by
 intro i
 induction i using Nat.strongRecOn with
 |_ i ih =>
  intro o j ho hdir hj;obtain⟨e,he,hb,h⟩:=S.just i o j ho hj;have hon:=hdir e he hb;rcases h with rfl|h
  ·exact hon
  ·have hlt:=S.down i o ho e he hb;have hi:=(XY.1 ho).1;exact ih e.on hlt all[e.on] j (Xk U) (hL e.on _ hon (Xk U)) h
def bF (H:nnl)(k:Nat):nnl:=⟨fun j=>if H.C<=j/\j<H.C+k then some .nj else H.get j,H.C+k⟩
def rV (H:nnl)(k:Nat):Evo Γ H w Γ (bF H k) w where
 os:=rfl
 tape:=rfl
 output:=rfl
 size:=aaz
 nf:=fun _ _ h=>⟨rfl,h⟩
 na:=fun id h1 _ x' hx=>by
  refine⟨x',?_,Blk.le_refl _ _ _⟩;simp only[bF]at hx;rw[W7 U]at hx;exact hx
 nq:=fun _ _=>rfl
 kind:=.refl _
 nL:=.refl _ _
def qi (w:World):Evo Γ H w Γ H { w with drawn:=w.drawn+1 } where
 os:=rfl
 tape:=rfl
 output:=rfl
 size:=aaz
 nf:=fun _ _ h=>⟨rfl,h⟩
 na:=fun _ _ _ x' hx=>⟨x',hx,Blk.le_refl _ _ _⟩
 nq:=fun _ _=>rfl
 kind:=.refl _
 nL:=.refl _ _
def nng.move (R:nng P G Γ H w)(hheap:w'.heap=w.heap)(E:Evo Γ H w Γ H' w')(hn:H.C<=H'.C)(hget:∀id b,H'.get id=some b->H.get id=some b\/(b=.nj/\H.get id=none/\id<H'.C))(hsame:∀id b,H.get id=some b->H'.get id=some b):nng P G Γ H' w' where
 O id g e cells hg:=by
  rcases hget _ _ hg with h|h
  ·have h1:=R.O id g e cells h;cases hΓ:Γ id with
   |none=>rw[hΓ]at h1;exact h1
   |some y =>
    obtain⟨b,base,n⟩:=y;rw[hΓ]at h1;obtain⟨c,a1,a2,a3,a4⟩:=h1;exact⟨c,by rw[hheap];exact a1,a2,a3,fun i hi=>let ⟨cv,b1,b2⟩:=a4 i hi;⟨cv,b1,b2.aU E hn⟩⟩
  ·cases h.1
 loop id st pend n env ps asg body hg:=by
  rcases hget _ _ hg with h|h
  ·obtain⟨b,rr,a1,a2,a3,a4,a5,a6,a7,a8,a9⟩:=R.loop id st pend n env ps asg body h;exact⟨b,rr,a1,by rw[hheap];exact a2,a3,a4,a5,a6,a7,a8,fun t ht=>(a9 t ht).aU E hn⟩
  ·cases h.1
 mp id es hg:=by
  rcases hget _ _ hg with h|h
  ·obtain⟨b,a1,a2⟩:=R.mp id es h;exact⟨b,a1,by rw[hheap];exact a2⟩
  ·cases h.1
 nj id hg:=by
  rcases hget _ _ hg with h|h
  ·exact R.nj id h
  ·cases hΓ:Γ id with
   |none=>rfl
   |some x =>
    obtain⟨y,hy⟩:=R.nB id x hΓ;rw[h.2.1]at hy;cases hy
 inj:=R.inj
 nB id x h:=let ⟨y,hy⟩:=R.nB id x h;⟨y,hsame _ _ hy⟩
 lt id b base n h:=by rw[hheap];exact R.lt id b base n h
 C id y h:=by
  rcases hget _ _ h with h|h
  ·exact Xd (R.C id y h) hn
  ·exact h.2.2
 nz g cells h:=(R.nz g cells h).aU E hn
 nN:=R.nK E
def Cr (R:nng P G Γ H w)(k:Nat):nng P G Γ (bF H k) w:=by
 have hnone:∀id,H.C<=id->H.get id=none:=by
  intro id h;cases hg:H.get id with
  |none=>rfl
  |some y=>have:=R.C id y hg;omega
 refine R.move rfl (rV H k) (by simp[bF]) (fun id b hb=>?_) (fun id b hb=>?_)
 ·simp only[bF]at hb;split at hb
  ·rename_i hc;simp only[Option.some.injEq]at hb;exact .inr ⟨hb.symm,hnone id hc.1,hc.2⟩
  ·exact .inl hb
 ·simp only[bF];rw[W7]
  ·exact hb
  ·have:=R.C id b hb;omega
def nnr.move {n:Nat}{wb:nnA}{s:St}{a:Act}(hs:nnr P G n wb Γ s a w){H':nnl}(E:Evo Γ s.H w Γ H' w')(hn:s.H.C<=H'.C)(R:nng P G Γ H' w'):nnr P G n wb Γ ⟨s.ρ,H'⟩ a w' :=
 ⟨hs.size,fun t=>(hs.env t).aU E hn,R,hs.defers.aU E,XN hs.low E.size⟩
def dp.move {rd rb:Option Nat}(h:dp Γ H rd rb)(hk:∀id b,H.get id=some b->H'.get id=some b):dp Γ H' rd rb:=by
 cases rd with
 |none=>exact h
 |some id =>
  obtain⟨b,st,pend,n,env,ps,asg,body,h1,h2,h3⟩:=h;exact⟨b,_,_,_,_,_,_,_,h1,h2,hk _ _ h3⟩
def ed (all:Array Oper)(d:Nat->Dt)(s0:St)(K:Nat)(D:Nat->Bool):St :=
 ⟨bf all d s0.ρ K D,⟨aX d (bF s0.H (aJ d K)).get K D,s0.H.C+aJ d K⟩⟩
def mA {all:Array Oper}(h:all[j]?=some o):fG all j=o.dst:=by simp[fG,h]
def xJ {all:Array Oper}(S:nnE all bs K)(hg:∀i,i<K->nno P G all bs s0 d i)(hi:i<K)(ho:all[i]?=some o)(hDi:D i=false)
  (hdown:∀j,j<i->(dw bs i).testBit j=true->D j=true) (hup:∀j,i<j->j<K->D j=true->(dw bs j).testBit i=false):
  ExecOk P G all o (s0.H.C+aJ d i) (ed all d s0 K D) (ed all d s0 K (bJ D i)):=by
 have hget:∀j,j<K->∃oj,all[j]?=some oj:=fun j hj=>⟨_,Xk (Xd hj S.le)⟩
 have hgi:=hg i hi;have tgtE:∀j r,j<K->dv (d j)=some r->r∈(d j).f.nw/\(((d j).al=true/\r=s0.H.C+aJ d j)\/((d j).al=false/\r∈(d j).f.rs)):=by
  intro j r hj ht;unfold dv at ht;cases he:(d j).e with
  |none=>rw[he]at ht;cases ht
  |some kb =>
   obtain⟨k,b⟩:=kb;rw[he]at ht;simp only[Option.map_some,Option.some.injEq]at ht;subst ht;obtain⟨h1,h2⟩:=(hg j hj).nw k b he;refine⟨h1,?_⟩;cases hal:(d j).al with
   |true =>
    obtain⟨b',hb'⟩:=(hg j hj).al hal;rw[he]at hb';simp only[Option.some.injEq,Prod.mk.injEq]at hb';exact .inl ⟨rfl,hb'.1⟩
   |false=>exact .inr ⟨rfl,h2 hal⟩
 have rangeK:∀r,r<s0.H.C+aJ d i->((bF s0.H (aJ d K)).get r=s0.H.get r\/∃j,j<i/\(fun _:Nat=>true) j=true/\dv (d j)=some r):=by
  intro r hr;by_cases h:s0.H.C<=r
  ·obtain⟨j,h1,h2,h3⟩:=rI (d:=d) (n:=i) (c:=r-s0.H.C) U;obtain⟨b,hb⟩:=(hg j U).al h2;refine .inr ⟨j,h1,rfl,?_⟩;unfold dv;rw[hb,h3];simp only[Option.map_some,Option.some.injEq];omega
  ·left;simp only[bF];rw[W7 U]
 have henv:∀t,t∈o.looksAt all->bf all d s0.ρ K D t=(canon all d s0 i).ρ t:=by
  intro t ht;show _=bf all d s0.ρ i (fun _=>true) t;rw[<- xD (all:=all) (d:=d) (ρ0:=s0.ρ) (m:=i) (n:=K) U];refine nP fun j hj hdj=>?_;obtain⟨oj,hoj⟩:=hget j hj;rw[mA hoj]at hdj;rcases YV j i with h|rfl|h
  ·cases hb:(dw bs i).testBit j with
   |true=>rw[hdown j h hb];simp[h]
   |false=>exact absurd ht ((qh (S.apart i j o oj hi h ho hoj hb)).1 t hdj)
  ·rw[hDi];simp
  ·cases hD:D j with
   |false=>symm;simp;omega
   |true=>exact absurd ht ((qh (S.apart j i oj o hj h hoj ho (hup j h hj hD))).2.1 t hdj)
 have hheap:∀r,r∈(d i).f.rs->aX d (bF s0.H (aJ d K)).get K D r=(canon all d s0 i).H.get r:=by
  intro r hr;show _=aX d s0.H.get i (fun _=>true) r;rw[<- rH (g0:=(bF s0.H (aJ d K)).get) (rangeK r (hgi.lt r hr)),<- xE (m:=i) (n:=K) U];refine nS fun j hj ht=>?_;obtain⟨he,_⟩:=tgtE j r hj ht;rcases YV j i with h|rfl|h
  ·cases hb:(dw bs i).testBit j with
   |true=>rw[hdown j h hb];simp[h]
   |false=>exact absurd hr ((hgi.apart j h hb).2 r he)
  ·rw[hDi];simp
  ·cases hD:D j with
   |false=>symm;simp;omega
   |true=>exact absurd hr (((hg j hj).apart i h (hup j h hj hD)).1 r he)
 have hal:(d i).al=true->aX d (bF s0.H (aJ d K)).get K D (s0.H.C+aJ d i)=some .nj/\s0.H.C+aJ d i≠s0.H.C+aJ d K:=by
  intro hal;have hlt:=kG hi hal;refine⟨?_,U⟩;obtain⟨b,hb⟩:=hgi.al hal;have heff:=(hgi.nw _ _ hb).1;rw[xF]
  ·simp only[bF];rw[W8 U]
  ·intro j hj hD ht;obtain⟨h1,h2⟩:=tgtE j _ hj ht;rcases YV j i with h|rfl|h
   ·rcases h2 with ⟨h2,h3⟩|⟨h2,h3⟩
    ·have:=kG h h2;omega
    ·have:=(hg j hj).lt _ h3;have:=pR (d:=d) (ZA h);omega
   ·rw[hDi]at hD;cases hD
   ·rcases h2 with ⟨h2,h3⟩|⟨h2,h3⟩
    ·have:=kG h hal;omega
    ·exact absurd h3 (((hg j hj).apart i h (hup j h hj hD)).2 _ heff)
 have:=hgi.step o ho (bf all d s0.ρ K D) ⟨aX d (bF s0.H (aJ d K)).get K D,s0.H.C+aJ d K⟩ henv hheap hal (by have:=pR (d:=d) (ZA hi);simp only;omega);have e1:bf all d s0.ρ K (bJ D i)=aF (bf all d s0.ρ K D) o.dst (d i).v:=by
  rw[xG hDi hi,mA ho];intro j h hj hD t hti;obtain⟨oj,hoj⟩:=hget j hj;rw[mA ho]at hti;rw[mA hoj];exact(qh (S.apart j i oj o hj h hoj ho (hup j h hj hD))).2.2 t hti
 have e2:aX d (bF s0.H (aJ d K)).get K (bJ D i)=dO (d i).e (aX d (bF s0.H (aJ d K)).get K D):=by
  refine xH hDi hi fun j h hj hD r hti htj=>?_;obtain⟨a1,a2⟩:=tgtE i r hi hti;obtain⟨b1,b2⟩:=tgtE j r hj htj;obtain⟨c1,c2⟩:=(hg j hj).apart i h (hup j h hj hD);rcases b2 with ⟨b2,b3⟩|⟨b2,b3⟩
  ·rcases a2 with ⟨a2,a3⟩|⟨a2,a3⟩
   ·have:=kG h a2;omega
   ·exact c1 r b1 a3
  ·exact c2 r a1 b3
 unfold ed;rw[e1,e2];exact this
def rN {all:Array Oper}(hg:∀i,i<K->nno P G all bs s0 d i)(hD:∀j,j<K->D j=true):ed all d s0 K D=canon all d s0 K:=by
 unfold ed canon lG;have e1:bf all d s0.ρ K D=bf all d s0.ρ K fun _=>true:=funext fun t=>nP fun j hj _=>hD j hj;have e2:aX d (bF s0.H (aJ d K)).get K D=aX d s0.H.get K fun _=>true:=by
  funext r
  rw[nS (D':=fun _=>true) fun j hj _=>hD j hj];refine rH ?_;by_cases h:s0.H.C<=r/\r<s0.H.C+aJ d K
  ·obtain⟨j,h1,h2,h3⟩:=rI (d:=d) (n:=K) (c:=r-s0.H.C) U;obtain⟨b,hb⟩:=(hg j h1).al h2;refine .inr ⟨j,h1,rfl,?_⟩;unfold dv;rw[hb,h3];simp only[Option.map_some,Option.some.injEq];omega
  ·left;simp only[bF];rw[W7 h]
 rw[e1,e2]
def xK {all:Array Oper}(hD:∀j,j<K->D j=false):ed all d s0 K D=⟨s0.ρ,bF s0.H (aJ d K)⟩:=by
 unfold ed;have e1:∀n,n<=K->bf all d s0.ρ n D=s0.ρ:=by
  intro n
  induction n with
  |zero=>intro _;rfl
  |succ n ih=>intro h;simp only[bf];rw[W7 (by simp[hD n h])];exact ih (U)
 have e2:∀n,n<=K->aX d (bF s0.H (aJ d K)).get n D=(bF s0.H (aJ d K)).get:=by
  intro n
  induction n with
  |zero=>intro _;rfl
  |succ n ih=>intro h;simp only[aX];rw[W7 (by simp[hD n h])];exact ih (U)
 rw[e1 K aaz,e2 K aaz];rfl
end Go.Hx
namespace Go.Hx
variable {P:Program} {G:Nat->Option (List nnn)} {Γ Γ':aA} {H H':nnl} {w w':World}
variable {listed:Array Bool}{i n:Nat}
def eI (listed:Array Bool):Nat->Nat
 |0=>0
 |n+1=>eI listed n+(if listed.getD n true=false then 1 else 0)
def yF (hi:listed.getD i true=false):∀n,eI (listed.setIfInBounds i true) n+(if i<n then 1 else 0)=eI listed n:=by
 have hsz:i<listed.size:=by
  rcases Xu i listed.size with h|h
  ·exact h
  ·rw[XM,Yq h]at hi;cases hi
 intro n
 induction n with
 |zero=>simp[eI]
 |succ n ih =>
  simp only[eI];by_cases hin:n=i
  ·subst hin;have:(listed.setIfInBounds n true).getD n true=true:=(by simp[hsz]);have h2:(if n<n then 1 else 0)=0:=W7 (Zj n);have h3:(if n<n+1 then 1 else 0)=1:=W8 (X6 n);rw[h2]at ih;rw[this,h3,hi];simp;omega
  ·rw[getD_set_ne true (Ne.symm hin)];have h4:(if i<n+1 then 1 else 0)=(if i<n then 1 else 0):=by
    by_cases h:i<n
    ·rw[W8 h,W8 (show i<n+1 by omega)]
    ·rw[W7 h,W7 (show ¬i<n+1 by omega)]
   rw[h4];generalize (if i<n then 1 else 0)=x at ih ⊢;omega
def uj (h:eI listed n=0):∀j,j<n->listed.getD j true=true:=by
 induction n with
 |zero=>intro j hj;omega
 |succ n ih =>
  simp only[eI]at h;intro j hj;by_cases hjn:j=n
  ·subst hjn;cases hl:listed.getD j true with
   |true=>rfl
   |false=>rw[hl]at h;simp at h
  ·exact ih U j (U)
def Cs :∀m,m<=n->eI (Array.replicate n false) m=m:=by
 intro m
 induction m with
 |zero=>intro _;rfl
 |succ m ih =>
  intro h;simp only[eI];rw[ih U,W8];rw[XM,Y0,W8 U];rfl
def nZ (h:i<listed.size)(x y:Bool):listed.getD i x=listed.getD i y:=by
 simp[XM,Xk h]
section
variable {n:Nat} {wb:nnA} {rd rb:Option Nat} {Q:AX->St->Prop} {all:Array Oper} {bs:List Nat} {K:Nat} {id:Nat} {dr:Bool}
def uk (S:nnE all bs K)(hfit:∀o,o∈all.toList->dM n o=true):∀(r m:Nat) (listed:Array Bool) (s:St) (Γ:aA) (a:Act) (w:World),r+m=all.size->K<=m->listed.size=all.size->eI listed all.size=r ->
  (∀j,j<all.size->(listed.getD j true=true↔j<m))->opsV P G rd Q all (all.toList.drop m) s->nnr P G n wb Γ s a w->dp Γ s.H rd rb ->
  ∀(Q':Exit->Act->World->Prop),(∀e a' w',fN P G n wb rd rb (wr (.region id all dr)) Γ s.H a w Q e a' w'->Q' e a' w')->wpAnyIn (da rb) 0 P .any all Q' r listed a w:=by
 intro r
 induction r with
 |zero =>
  intro m listed s Γ a w hm hKm hsz hc hl h hs hr Q' hq;have:all.toList.drop m=[]:=ZI (by simp;omega);rw[this]at h;refine⟨?_,hq _ _ _ (.here (x:=.normal) trivial h hs hr)⟩;rw[List.eq_nil_iff_forall_not_mem];intro j hj;obtain⟨h1,o,ho,_⟩:=mem_ready.1 hj;have hjs:=(XY.1 ho).1;rw[(hl j hjs).2 U]at h1;cases h1
 |succ r ih =>
  intro m listed s Γ a w hm hKm hsz hc hl h hs hr Q' hq;have hms:m<all.size:=U
  have ho:all[m]?=some all[m]:=Xk hms;have hmun:listed.getD m true=false:=by
   cases hx:listed.getD m true with
   |false=>rfl
   |true=>have:=(hl m hms).1 hx;omega
  have hready:m∈Region.ready .any all listed:=by
   refine mem_ready.2 ⟨hmun,_,ho,fun e he hb=>?_⟩;have:=S.down m _ ho e he hb;rw[nZ U false true];exact(hl e.on U).2 this
  refine⟨fun h0=>(by rw[h0]at hready;cases hready),fun i hi=>?_⟩;obtain⟨hiun,oi,hoi,hall⟩:=mem_ready.1 hi;have his:=(XY.1 hoi).1;have him:m<=i:=by
   rcases Xu i m with h|h
   ·rw[(hl i his).2 h]at hiun;cases hiun
   ·exact h
  have hL:ui all fun j=>listed.getD j false:=by
   intro k ok hk hok e he hb;have hks:=(XY.1 hok).1;have h1:=S.down k ok hok e he hb;simp only at hk ⊢;rw[nZ U false true]at hk ⊢;have:=(hl k hks).1 hk;exact(hl _ U).2 (U)
  have hieq:i=m:=by
   rcases Xu m i with h|h
   ·have h1:=S.ahead hL i oi m hoi hall (by rw[W7 U];exact h);rw[nZ U false true,hmun]at h1;cases h1
   ·omega
  subst hieq;have hlist:all.toList.drop i=all[i] :: all.toList.drop (i+1):=by
   rw[XS (by simpa using hms)];simp
  rw[hlist]at h;simp only[opsV]at h;have hl':∀j,j<all.size->((listed.setIfInBounds i true).getD j true=true↔j<i+1):=by
   intro j hj;by_cases hji:j=i
   ·subst hji;simp
   ·rw[getD_set_ne true (Ne.symm hji),hl j hj];omega
  have hc':eI (listed.setIfInBounds i true) all.size=r:=by
   have:=yF hmun all.size;rw[W8 hms]at this;omega
  have hd:=hfit all[i] aaw;obtain⟨t,ht,h⟩:=h;unfold wpOpIn;rw[ho];simp only;rw[nW hs ht];cases t with
  |true =>
   simp only[if_true]at h ⊢;refine ye hd hs hr h ?_ ?_
   ·rintro Γ' s' a' w' hk hs' E hn hr' ⟨cv,rfl⟩;exact ih (i+1) _ s' Γ' _ w' U U (by simpa using hsz) hc' hl' hk hs' hr' Q' fun e a'' w'' hp=>hq _ _ _ (hp.step E hn (mw hms cv) fun _ h=>h)
   ·rintro Γ' s' a' w' chain hp hc hs' E hn hr' rfl;exact hq _ _ _ ⟨.panic,s',Γ',hc,hp,hs',E,hn,hr',.refl _ _⟩
  |false =>
   simp only[Bool.false_eq_true,if_false]at h ⊢;refine⟨fun _ _=>trivial,?_⟩;have hdst:∀d,all[i].dst=some d->d<n:=by
    intro d hd';unfold dM at hd;rw[hd']at hd;simpa using hd
   have hs':=gM (v:=.lit undef) (cv:=undef) hs hdst (Evo.refl Γ s.H w) aaz hs.heap (.lit _);exact ih (i+1) _ ⟨aF s.ρ all[i].dst (.lit undef),s.H⟩ Γ _ w U U (by simpa using hsz) hc' hl' h hs' hr Q' fun e a'' w'' hp=>hq _ _ _ (hp.step (Evo.refl _ _ _) aaz (mw hms _) fun _ h=>h)
def xL (S:nnE all bs K)(hfit:∀o,o∈all.toList->dM n o=true){d:Nat->Dt}{s0:St}(hg:∀i,i<K->nno P G all bs s0 d i)(htail:opsV P G rd Q all (all.toList.drop K) (canon all d s0 K)):
  ∀(r:Nat) (listed:Array Bool) (D:Nat->Bool) (Γ:aA) (a:Act) (w:World),listed.size=all.size->eI listed all.size=r->(∀j,j<all.size->listed.getD j true=D j)->(∀j,D j=true->j<K)->ui all D ->
  nnr P G n wb Γ (ed all d s0 K D) a w->dp Γ (ed all d s0 K D).H rd rb ->
  ∀(Q':Exit->Act->World->Prop),(∀e a' w',fN P G n wb rd rb (wr (.region id all dr)) Γ (ed all d s0 K D).H a w Q e a' w'->Q' e a' w')->wpAnyIn (da rb) 0 P .any all Q' r listed a w:=by
 intro r
 induction r with
 |zero =>
  intro listed D Γ a w hsz hc hl hlow hL hs hr Q' hq;have hall:∀j,j<K->D j=true:=fun j hj=>by rw[<- hl j (Xd hj S.le)];exact uj hc j (Xd hj S.le)
  have hKs:K=all.size:=by
   rcases Xu K all.size with h|h
   ·have h1:=uj hc K h;rw[hl K h]at h1;have:=hlow K h1;omega
   ·have:=S.le;omega
  rw[rN hg hall]at hs hr hq;exact uk S hfit 0 K listed _ Γ a w U aaz hsz hc (fun j hj=>by rw[hl j hj];exact⟨hlow j,hall j⟩) htail hs hr Q' hq
 |succ r ih =>
  intro listed D Γ a w hsz hc hl hlow hL hs hr Q' hq;by_cases hall:∀j,j<K->D j=true
  ·rw[rN hg hall]at hs hr hq;have hcount:∀m,m<=all.size->eI listed m=m-K:=by
    intro m
    induction m with
    |zero=>intro _;simp[eI]
    |succ m ihm =>
     intro hm;simp only[eI];rw[ihm U,hl m U];by_cases hmK:m<K
     ·rw[hall m hmK];simp;omega
     ·have:D m=false:=by
       cases hD:D m with
       |false=>rfl
       |true=>exact absurd (hlow m hD) hmK
      rw[this];simp;omega
   have h1:=hcount all.size aaz;exact uk S hfit (r+1) K listed _ Γ a w (by have:=S.le;omega) aaz hsz hc (fun j hj=>by rw[hl j hj];exact⟨hlow j,hall j⟩) htail hs hr Q' hq
  ·have hex:∃j,j<K/\D j=false:=by
    by_cases h:∃j,j<K/\D j=false
    ·exact h
    ·refine absurd (fun j hj=>?_) hall;cases hD:D j with
     |true=>rfl
     |false=>exact absurd ⟨j,hj,hD⟩ h
   have least:∀k,(∃j,j<k/\j<K/\D j=false)->∃j,j<K/\D j=false/\∀i,i<j->D i=true:=by
    intro k
    induction k with
    |zero=>rintro⟨j,hj,_⟩;omega
    |succ k ihk =>
     rintro⟨j,h1,h2,h3⟩;by_cases h:∃j,j<k/\j<K/\D j=false
     ·exact ihk h
     ·refine⟨j,h2,h3,fun i hi=>?_⟩;cases hD:D i with
      |true=>rfl
      |false=>exact absurd ⟨i,U,U,hD⟩ h
   obtain⟨j0,hj0K,hj0,hbelow⟩:=least K (let ⟨j,h1,h2⟩:=hex;⟨j,h1,h1,h2⟩);have hj0s:j0<all.size:=Xd hj0K S.le;have hr0:j0∈Region.ready .any all listed:=by
    refine mem_ready.2 ⟨by rw[hl j0 hj0s];exact hj0,_,Xk hj0s,fun e he hb=>?_⟩;have hlt:=S.down j0 _ (Xk hj0s) e he hb;rw[nZ U false true,hl e.on U];exact hbelow _ hlt
   refine⟨fun h0=>(by rw[h0]at hr0;cases hr0),fun i hi=>?_⟩;obtain⟨hiun,oi,hoi,hdir⟩:=mem_ready.1 hi;have his:=(XY.1 hoi).1;have hdirD:∀e,e∈oi.after->Region.binds .any e=true->D e.on=true:=fun e he hb=>by
    have:=S.down i oi hoi e he hb;rw[<- hl e.on U,<- nZ U false true];exact hdir e he hb
   have hahead:=S.ahead hL i oi;have hiK:i<K:=by
    rcases Xu i K with h|h
    ·exact h
    ·have:=hahead j0 hoi hdirD (by rw[W7 U];omega);rw[hj0]at this;cases this
   have hDi:D i=false:=(by rw[<- hl i his];exact hiun);have hex:=xJ (P:=P) (G:=G) S hg hiK hoi hDi (fun j hj hb=>hahead j hoi hdirD (by rw[W8 hiK];exact hb)) (fun j h1 h2 hD=>by
    cases hb:(dw bs j).testBit i with
    |false=>rfl
    |true =>
     have hjs:j<all.size:=Xd h2 S.le;have:=S.ahead hL j _ i (Xk hjs) (fun e he hbe=>hL j _ hD (Xk hjs) e he hbe) (by rw[W8 h2];exact hb);rw[hDi]at this;cases this)
   have hoi':oi=all[i]:=by
    rw[Xk his]at hoi;exact(Option.some.inj hoi).symm
   refine xI hoi (hfit oi (by rw[hoi'];simp)) hs hr hex ?_;rintro Γ' a' w' hs' E hn hr' ⟨cv,rfl⟩;have hc':eI (listed.setIfInBounds i true) all.size=r:=by
    have:=yF hiun all.size;rw[W8 his]at this;omega
   refine ih (listed.setIfInBounds i true) (bJ D i) Γ' _ w' (by simpa using hsz) hc' ?_ ?_ ?_ hs' hr' Q' fun e a'' w'' hp=>hq _ _ _ (hp.step E hn (by rw[hoi'];exact mw his cv) fun _ h=>h)
   ·intro j hj;by_cases hji:j=i
    ·subst hji;simp[bJ]
    ·rw[getD_set_ne true (Ne.symm hji),hl j hj];simp[bJ,hji]
   ·intro j hj;by_cases hji:j=i
    ·subst hji;exact hiK
    ·simp only[bJ,W7 hji]at hj;exact hlow j hj
   ·intro k ok hk hok e he hb;by_cases hki:k=i
    ·subst hki;rw[hoi]at hok;cases hok;have:=hdirD e he hb;simp only[bJ];split
     ·rfl
     ·exact this
    ·simp only[bJ,W7 hki]at hk;have:=hL k ok hk hok e he hb;simp only[bJ];split
     ·rfl
     ·exact this
def W.draw {s:St}(K:Nat)(bs:List Nat)(hm:P.follows .mixedOrders=true)(hfit:all.toList.all (dM n)=true)(hst:pY all bs K=true)
  (h:cZ P G all (opsV P G rd Q all (all.toList.drop K)) bs 0 [] (all.toList.take K) s):W P G n rd (.region id all true) Q s:=by
 intro wb Γ a w rb hs hr;have S:=Cp hst;have hfit':∀o,o∈all.toList->dM n o=true:=fun o ho=>XK.1 hfit o ho;have wf:fm s.H:=fun id b hb=>hs.heap.C id b hb;have hcan0:canon all (fun _=>⟨.lit undef,none,false,⟨[],[]⟩⟩) s 0=s:=rfl;obtain⟨d,hg,htail⟩:=trace (P:=P) (G:=G) (all:=all) (bs:=bs) (s0:=s) (tail:=opsV P G rd Q all (all.toList.drop K)) S.len S.le K 0 (fun _=>⟨.lit undef,none,false,⟨[],[]⟩⟩) [] (U)
  (fun i hi=>U) (fun j hj=>U) (by rw[hcan0];exact wf) (by rw[hcan0];exact h)
 refine wpIn_region_any hm ?_
 let w1:World:={ w with drawn:=w.drawn+1 }
 have R1:nng P G Γ s.H w1:=hs.heap.move rfl (qi w) aaz (fun id b hb=>.inl hb) fun id b hb=>hb;have hs1:nnr P G n wb Γ s a w1:=hs.move (qi w) aaz R1;have hs2:nnr P G n wb Γ ⟨s.ρ,bF s.H (aJ d K)⟩ a w1:=hs1.move (rV _ _) (by simp[bF]) (Cr R1 _);have hr2:dp Γ (bF s.H (aJ d K)) rd rb:=hr.move fun id b hb=>by
  simp only[bF];rw[W7]
  ·exact hb
  ·have:=hs.heap.C id b hb;omega
 have e0:ed all d s K (fun _=>false)=⟨s.ρ,bF s.H (aJ d K)⟩:=xK fun _ _=>rfl;refine xL (wb:=wb) (id:=id) (dr:=true) S hfit' hg htail all.size _ (fun _=>false) Γ a w1 aaw (Cs _ aaz) ?_ ?_ ?_ ?_ ?_ _ ?_
 ·intro j hj;rw[XM,Y0,W8 hj];rfl
 ·intro j hj;cases hj
 ·intro i o hi;cases hi
 ·rw[e0];exact hs2
 ·rw[e0];exact hr2
 ·rw[e0];intro e a' w' hp;refine hp.step ?_ (by simp[bF]) (.refl _ _) fun _ h=>h;exact Evo.trans (qi w) aaz (rV _ _)
end
end Go.Hx
namespace Go.Hx
variable {P:Program} {G:Nat->Option (List nnn)}
variable {α β:Type}
def mz (a:α)(K:α->Prop):bd (some a) K=K a:=by simp[bd]
def uf (K:α->Prop):bd none K=False:=by simp[bd]
def yz (o:Option α)(f:α->Option β)(K:β->Prop):bd (o.bind f) K=bd o fun a=>bd (f a) K:=by
 cases o<;>simp[bd]
def ga (o:Option α)(f:α->β)(K:β->Prop):bd (o.map f) K=bd o fun a=>K (f a):=by
 cases o<;>simp[bd]
def B9 (c:Prop)[Decidable c](a:Option α)(K:α->Prop):bd (if c then a else none) K=(c/\bd a K):=by
 by_cases h:c<;>simp[h,bd]
def ug {o:Option α}{K K':α->Prop}(h:∀a,K a=K' a):bd o K=bd o K':=by
 have:K=K':=funext h;subst this;rfl
def Kh (p q:Prop):gO true p q=p:=by simp[gO]
def Ki (p q:Prop):gO false p q=q:=by simp[gO]
def gO.mk {t:Bool}{p q:Prop}(h1:t=true->p)(h2:t=false->q):gO t p q:=⟨h1,h2⟩
def Kj {f:FuncId}{args args':List nnn}{H H':nnl}{K:nnf->nnl->Prop}(h2:args=args')(h3:H=H'):af P G f args H K=af P G f args' H' K:=by
 rw[h2,h3]
theorem Kk {n:Nat}{rd:Option Nat}{c:Code}{Q:AX->St->Prop}{s s':St}(h:s=s'):W P G n rd c Q s=W P G n rd c Q s':=by rw[h]
attribute [congr] Kj Kk
def Kl (K:St->Prop)(Q:AX->St->Prop)(s:St):iE K Q .normal s=K s:=(rfl)
def Km (K:St->Prop)(Q:AX->St->Prop)(i:Nat)(s:St):iE K Q (.exit i) s=Q (.exit i) s:=(rfl)
def Kn (K:St->Prop)(Q:AX->St->Prop)(i:Nat)(s:St):iE K Q (.goto i) s=Q (.goto i) s:=(rfl)
def Ko (K:St->Prop)(Q:AX->St->Prop)(s:St):iE K Q .ret s=Q .ret s:=(rfl)
def Kp (K:St->Prop)(Q:AX->St->Prop)(s:St):iE K Q .panic s=Q .panic s:=(rfl)
def Kq (i:Nat)(Q:AX->St->Prop)(s:St):lK i Q .normal s=Q .normal s:=(rfl)
def Kr (i j:Nat)(Q:AX->St->Prop)(s:St):lK i Q (.exit j) s=if j=i then Q .normal s else Q (.exit j) s:=(rfl)
def Ks (i j:Nat)(Q:AX->St->Prop)(s:St):lK i Q (.goto j) s=Q (.goto j) s:=(rfl)
def Kt (i:Nat)(Q:AX->St->Prop)(s:St):lK i Q .ret s=Q .ret s:=(rfl)
def Ku (i:Nat)(Q:AX->St->Prop)(s:St):lK i Q .panic s=Q .panic s:=(rfl)
def noGoto_normal (Q:AX->St->Prop)(s:St):noGoto Q .normal s=Q .normal s:=(rfl)
def noGoto_exit (i:Nat)(Q:AX->St->Prop)(s:St):noGoto Q (.exit i) s=Q (.exit i) s:=(rfl)
def noGoto_ret (Q:AX->St->Prop)(s:St):noGoto Q .ret s=Q .ret s:=(rfl)
def noGoto_panic (Q:AX->St->Prop)(s:St):noGoto Q .panic s=Q .panic s:=(rfl)
section code
variable {n:Nat} {rd:Option Nat} {Q:AX->St->Prop} {s:St}
def Kv:vc P G n rd .skip Q s=Q .normal s:=(rfl)
def Kw (l:Nat):vc P G n rd (.label l) Q s=Q .normal s:=(rfl)
def Kx (id:Nat)(ops:Array Oper):vc P G n rd (.region id ops false) Q s=opsV P G rd Q ops ops.toList s:=(rfl)
def Ky (id:Nat)(ops:Array Oper):vc P G n rd (.region id ops true) Q s=W P G n rd (.region id ops true) Q s:=(rfl)
def Kz (a b:Code):vc P G n rd (.seq a b) Q s=vc P G n rd a (iE (vc P G n rd b Q) Q) s:=(rfl)
def KA (id:Nat)(c:Code):vc P G n rd (.block id c) Q s=vc P G n rd c (lK id Q) s:=(rfl)
def KB (c:Code):vc P G n rd (.loop c) Q s=W P G n rd (.loop c) Q s:=(rfl)
def KC (f:Operand)(ps:Array Tmp)(asg c:Code):vc P G n rd (.rangeFunc f ps asg c) Q s=W P G n rd (.rangeFunc f ps asg c) Q s:=(rfl)
def KD (i:Nat):vc P G n rd (.exit i) Q s=Q (.exit i) s:=(rfl)
def KE (c:Code):vc P G n rd (.scope c) Q s=vc P G n rd c (noGoto Q) s:=(rfl)
def KG (i:Nat):vc P G n rd (.goto i) Q s=Q (.goto i) s:=(rfl)
def KH:vc P G n rd .ret Q s=Q .ret s:=(rfl)
def Ca:nnn->Option Bool
 |.lit (.bool t)=>some t
 |_=>none
def KI (t:Bool):Ca (.lit (.bool t))=some t:=rfl
def KJ (c:Operand)(a b:Code):vc P G n rd (.cond c a b) Q s=bd (Ca (ak G s.ρ c)) fun t=>gO t (vc P G n rd a Q s) (vc P G n rd b Q s):=by
 simp only[vc];congr 1
end code
def KK (ρ:Env)(t:Tmp):ak G ρ (.tmp t)=ρ t:=rfl
def KL (ρ:Env)(v:Value):ak G ρ (.const v)=.lit v:=rfl
def KM (ρ:Env)(f:FuncId):ak G ρ (.func f)=.nb f [] []:=rfl
def KN (ρ:Env)(d:Tmp)(v:nnn)(t:Tmp):aF ρ (some d) v t=if t=d then v else ρ t:=rfl
def KO (ρ:Env)(v:nnn):aF ρ none v=ρ:=rfl
def KP (ws:Nat)(ρ ρ₀:Env)(t:Nat):mask ws ρ ρ₀ t=if ws / 2 ^ t % 2=1 then ρ t else ρ₀ t:=rfl
def iv:nnn->Int
 |.lit (.int _ n)=>n
 |_=>0
def aI (k:IntKind)(n:Int):iv (.lit (.int k n))=n:=rfl
def yA (l:List nnn)(t:Nat):cR l t=(l[t]?).getD (.lit undef):=rfl
def KR (rs:List ResultVar)(H:nnl)(K:nnf->nnl->Prop)(s:St):nY P G rs H K .ret s=bd (dR P s.H s.ρ rs) fun vs=>ar P G H K (fO vs) s.H:=(rfl)
def KS (rs:List ResultVar)(H:nnl)(K:nnf->nnl->Prop)(s:St):nY P G rs H K .normal s=bd (dR P s.H s.ρ rs) fun vs=>ar P G H K (fO vs) s.H:=(rfl)
def KT (H:nnl)(ρ:Env):dR P H ρ []=some []:=rfl
def KU (H:nnl)(ρ:Env)(t:Tmp)(r:List ResultVar):dR P H ρ (.tmp t :: r)=(dR P H ρ r).map (ρ t :: ·):=rfl
def KV (H:nnl)(ρ:Env)(a:Tmp)(t:TypeId)(r:List ResultVar):dR P H ρ (.cell a t :: r)=(fk P H t (ρ a)).bind fun v=>(dR P H ρ r).map (v :: ·):=rfl
def KW (v:nnn):fO [v]=v:=rfl
def KX (v u:nnn)(r:List nnn):fO (v :: u :: r)=.nc (v :: u :: r):=rfl
def KY:fO []=.nc []:=rfl
section ops
variable {rd:Option Nat} {Q:AX->St->Prop} {K:St->Prop} {s:St} {d:Option Tmp} {ty:TypeId} {pos:String} {aft:Array Edge} {g:Option (Nat × Bool)}
def KZ (all:Array Oper):opsV P G rd Q all [] s=Q .normal s:=(rfl)
def K0 (all:Array Oper)(op:Op)(rest:List Oper):opsV P G rd Q all (⟨d,op,ty,pos,aft,none⟩ :: rest) s=aV P G rd Q ⟨d,op,ty,pos,aft,none⟩ (opsV P G rd Q all rest) s:=by
 simp[opsV,eH,mz]
def K2 (all:Array Oper)(op:Op)(rest:List Oper)(j:Nat)(want:Bool):opsV P G rd Q all (⟨d,op,ty,pos,aft,some (j,want)⟩ :: rest) s =
  bd (eH all s.ρ ⟨d,op,ty,pos,aft,some (j,want)⟩) fun t=>if t=true then aV P G rd Q ⟨d,op,ty,pos,aft,some (j,want)⟩ (opsV P G rd Q all rest) s else opsV P G rd Q all rest ⟨aF s.ρ d (.lit undef),s.H⟩:=(rfl)
def K3 (P:Program)(G:Nat->Option (List nnn))(fv:nnn)(args:List nnn)(H:nnl)(K:nnf->nnl->Prop)(_d:TagR K:=.mk):Prop:=aC P G fv args H K
def K4 (fv:Operand)(args:Array Operand)(ats:Array TypeId):aV P G rd Q ⟨d,.call ⟨.value fv,args,ats⟩,ty,pos,aft,g⟩ K s =
  K3 P G (ak G s.ρ fv) (args.toList.map (ak G s.ρ)) s.H fun r H'=>eS H' rd/\match r with
   |.ret v=>K ⟨aF s.ρ d v,H'⟩
   |.panic=>Q .panic ⟨s.ρ,H'⟩:=(rfl)
def K5 (x:Operand):aV P G rd Q ⟨d,.panic x,ty,pos,aft,g⟩ K s=((∃t v,(ak G s.ρ x)=.lit (.iface t v))/\Q .panic s):=(rfl)
def K6 (x:Operand):aV P G rd Q ⟨d,.move x,ty,pos,aft,g⟩ K s=K ⟨aF s.ρ d (ak G s.ρ x),s.H⟩:=by simp[aV,aj,mz]
def K7 (x:Operand):aV P G rd Q ⟨d,.assign x,ty,pos,aft,g⟩ K s=K ⟨aF s.ρ d (ak G s.ρ x),s.H⟩:=by simp[aV,aj,mz]
def K8 (c a b:Operand):aV P G rd Q ⟨d,.pick c a b,ty,pos,aft,g⟩ K s=bd (match ak G s.ρ c with|.lit (.bool t)=>some t|_=>none) fun t=>K ⟨aF s.ρ d (if t then ak G s.ρ a else ak G s.ρ b),s.H⟩:=by
 simp only[aV,aj];split<;>simp_all[mz,uf]
def K9 (e:TypeId):aV P G rd Q ⟨d,.alloc e,ty,pos,aft,g⟩ K s=bd (bC P e) fun z=>bd (s.H.lay s.H.C (.O 0 e z)) fun H'=>K ⟨aF s.ρ d (.Y s.H.C 0 0),H'⟩:=by
 simp only[aV,aj,yz];exact ug fun _=>ga ..
def La (e:TypeId)(x:Operand):aV P G rd Q ⟨d,.box e x,ty,pos,aft,g⟩ K s=bd (s.H.lay s.H.C (.O 0 e (ak G s.ρ x).cells)) fun H'=>K ⟨aF s.ρ d (.Y s.H.C 0 0),H'⟩:=by
 simp[aV,aj,ga]
def Lb (t:TypeId)(parts:Array (Nat × Operand)):aV P G rd Q ⟨d,.build t parts,ty,pos,aft,g⟩ K s=bd (pN P t (parts.toList.map fun p=>(p.1,ak G s.ρ p.2))) fun v=>K ⟨aF s.ρ d v,s.H⟩:=by
 simp[aV,aj,ga]
def Lc (t:TypeId)(len:Nat)(parts:Array (Nat × Operand)):aV P G rd Q ⟨d,.buildSlice t len parts,ty,pos,aft,g⟩ K s =
  bd (jG P s.H s.H.C t len (parts.toList.map fun p=>(p.1,ak G s.ρ p.2))) fun vH=>K ⟨aF s.ρ d vH.1,vH.2⟩:=by
 simp[aV,aj]
def Ld (t:TypeId)(a:Operand):aV P G rd Q ⟨d,.load t a,ty,pos,aft,g⟩ K s=bd (fk P s.H t (ak G s.ρ a)) fun v=>K ⟨aF s.ρ d v,s.H⟩:=by
 simp[aV,aj,ga]
def Le (t:TypeId)(a x:Operand):aV P G rd Q ⟨d,.store t a x,ty,pos,aft,g⟩ K s=((P.underlying t).isSome=true/\bd (ie P s.H t (ak G s.ρ a) (ak G s.ρ x)) fun H'=>K ⟨aF s.ρ d (.lit undef),H'⟩):=by
 simp[aV,aj,B9,ga]
def Lf (x:Operand):aV P G rd Q ⟨d,.nilCheck x,ty,pos,aft,g⟩ K s=bd (jI s.H (ak G s.ρ x)) fun v=>K ⟨aF s.ρ d v,s.H⟩:=by
 simp[aV,aj,ga]
def Lg (op:BinOp)(t:TypeId)(x y:Operand)(u:TypeId):aV P G rd Q ⟨d,.binOp op t x y u,ty,pos,aft,g⟩ K s =
  rS P op t (iF s.H op (ak G s.ρ x) (ak G s.ρ y)) (fun v=>K ⟨aF s.ρ d v,s.H⟩) (bd (bq P op t x y (ak G s.ρ x) (ak G s.ρ y)) fun v=>K ⟨aF s.ρ d v,s.H⟩):=by
 simp[aV,aj,ga]
def Lh (op:BinOp)(t:TypeId)(Kb:nnn->Prop)(p:Prop):rS P op t none Kb p=p:=rfl
def Li (op:BinOp)(t:TypeId)(k:Bool)(Kb:nnn->Prop)(p:Prop):rS P op t (some k) Kb p=(lM (P.underlying t)=true/\∀b:Bool,(k=true->b=false)->Kb (.lit (.bool (if op == .neq then !b else b)))):=rfl
def Lj (e:TypeId):lM (some (.slice e))=true:=rfl
def Lk (H:nnl)(op:BinOp)(v:Value)(y:nnn):iF H op (.lit v) y=none:=by
 unfold iF;split<;>rfl
def Ll (H:nnl)(n:Nat)(cells:List nnn):iF H .eql (.L n cells) (.lit (.slice none 0 0))=some (decide (0<n)):=rfl
def Lm (H:nnl)(n:Nat)(cells:List nnn):iF H .neq (.L n cells) (.lit (.slice none 0 0))=some (decide (0<n)):=rfl
def Ln:(BinOp.eql == BinOp.neq)=false:=rfl
def Lo:(BinOp.neq == BinOp.neq)=true:=rfl
def Lp (op:UnOp)(t:TypeId)(x:Operand):aV P G rd Q ⟨d,.unOp op t x,ty,pos,aft,g⟩ K s=bd (rF P op (ak G s.ρ x)) fun v=>K ⟨aF s.ρ d v,s.H⟩:=by
 simp[aV,aj,ga]
def Lq (a b:TypeId)(x:Operand):aV P G rd Q ⟨d,.convert a b x,ty,pos,aft,g⟩ K s=bd (jH P s.H a b (ak G s.ρ x)) fun v=>K ⟨aF s.ρ d v,s.H⟩:=by
 simp[aV,aj,ga]
def Lr (f:FuncId)(first cap:Array Operand):aV P G rd Q ⟨d,.makeFunc (.func f) first cap,ty,pos,aft,g⟩ K s=K ⟨aF s.ρ d (.nb f (first.toList.map (ak G s.ρ)) (cap.toList.map (ak G s.ρ))),s.H⟩:=by
 simp[aV,aj,mz]
def Ls (t:TypeId)(l c:Operand):aV P G rd Q ⟨d,.makeSlice t l c,ty,pos,aft,g⟩ K s=bd (je P s.H s.H.C t (ak G s.ρ l) (ak G s.ρ c)) fun vH=>K ⟨aF s.ρ d vH.1,vH.2⟩:=by
 simp[aV,aj]
def Lt (t:TypeId)(x:Operand)(lo hi:Option Operand):aV P G rd Q ⟨d,.slice t x lo hi none,ty,pos,aft,g⟩ K s =
  bd (lD P s.H t (ak G s.ρ x) (lo.map (ak G s.ρ)) (hi.map (ak G s.ρ))) fun v=>K ⟨aF s.ρ d v,s.H⟩:=by
 simp[aV,aj,ga]
def qf (P:Program)(H:nnl)(s:TypeId)(f:Nat)(x:nnn):Option nnn :=
 (bD P s f).bind fun of=>match x with
  |.Y id gen off=>(H.na id gen).map fun _=>.Y id gen (off+of.1)
  |.ni cells off=>some (.ni cells (off+of.1))
  |_=>none
def Lu (t:TypeId)(x:Operand)(f:Nat):aV P G rd Q ⟨d,.fieldAddr t x f,ty,pos,aft,g⟩ K s=bd (qf P s.H t f (ak G s.ρ x)) fun v=>K ⟨aF s.ρ d v,s.H⟩:=by
 simp only[aV,aj,qf,yz];refine ug fun of=>?_;split<;>simp_all[uf,ga,mz]
def Cb (P:Program)(t:TypeId)(f:Nat)(x:nnn):Option nnn :=
 (bD P t f).bind fun of=>match x with
  |.agg cells=>eP P of.2 cells of.1
  |.lit (.agg cs)=>eP P of.2 (cs.toList.map .lit) of.1
  |_=>none
def qg (P:Program)(H:nnl)(t:TypeId)(x i:nnn):Option nnn:=match i with
 |.lit (.int _ i)=>mo P H t x i
 |_=>none
def Lv (t:TypeId)(x i:Operand):aV P G rd Q ⟨d,.indexAddr t x i,ty,pos,aft,g⟩ K s=bd (qg P s.H t (ak G s.ρ x) (ak G s.ρ i)) fun v=>K ⟨aF s.ρ d v,s.H⟩:=by
 simp only[aV,aj,qg];split<;>simp_all[uf,ga]
def Lw (t:TypeId)(x i:Operand):aV P G rd Q ⟨d,.index t x i,ty,pos,aft,g⟩ K s=bd (mr P t (ak G s.ρ x) (ak G s.ρ i)) fun v=>K ⟨aF s.ρ d v,s.H⟩:=by
 simp[aV,aj,ga]
def Lx (t:Operand)(i:Nat):aV P G rd Q ⟨d,.extract t i,ty,pos,aft,g⟩ K s=bd (lF (ak G s.ρ t) i) fun v=>K ⟨aF s.ρ d v,s.H⟩:=by
 simp[aV,aj,ga]
def Ly (b:Builtin)(args:Array Operand)(ats:Array TypeId):aV P G rd Q ⟨d,.call ⟨.builtin b,args,ats⟩,ty,pos,aft,g⟩ K s =
  bd (fE P s.H s.H.C b ats.toList (args.toList.map (ak G s.ρ))) fun vH=>K ⟨aF s.ρ d vH.1,vH.2⟩:=by
 simp[aV,aj]
end ops
def builtin_len (H:nnl)(id:Nat)(t:TypeId)(x:nnn):fE P H id .len [t] [x]=(kE P H t x).map fun v=>(v,H):=rfl
def builtin_append (H:nnl)(id:Nat)(t u:TypeId)(s x:nnn):fE P H id .append [t,u] [s,x]=bh P H id t u s x:=rfl
def builtin_copy (H:nnl)(id:Nat)(t u:TypeId)(s x:nnn):fE P H id .copy [t,u] [s,x]=kD P H t s x:=rfl
def builtin_min (H:nnl)(id:Nat)(ts:List TypeId)(k:IntKind)(a b:Int):fE P H id .min ts [.lit (.int k a),.lit (.int k b)]=some (.lit (.int k (if b<a then b else a)),H):=by
 cases ts with
 |nil=>rfl
 |cons t ts=>rfl
def builtin_max (H:nnl)(id:Nat)(ts:List TypeId)(k:IntKind)(a b:Int):fE P H id .max ts [.lit (.int k a),.lit (.int k b)]=some (.lit (.int k (if b > a then b else a)),H):=by
 cases ts with
 |nil=>rfl
 |cons t ts=>rfl
section nums
variable {t:TypeId} {x y:Operand} {k:IntKind} {a b:Int}
def Cc:bq P .add t x y (.lit (.int k a)) (.lit (.int k b))=some (.lit (.int k (k.wrap (a+b)))):=by
 simp[bq,nnn.bZ,eqGuard,binOp,Op.intArith,cE,bind,Sem.bind,pure]
def Cd:bq P .sub t x y (.lit (.int k a)) (.lit (.int k b))=some (.lit (.int k (k.wrap (a-b)))):=by
 simp[bq,nnn.bZ,eqGuard,binOp,Op.intArith,cE,bind,Sem.bind,pure]
def Ce:bq P .mul t x y (.lit (.int k a)) (.lit (.int k b))=some (.lit (.int k (k.wrap (a*b)))):=by
 simp[bq,nnn.bZ,eqGuard,binOp,Op.intArith,cE,bind,Sem.bind,pure]
def Lz:bq P .quo t x y (.lit (.int k a)) (.lit (.int k b))=if b≠0 then some (.lit (.int k (k.wrap (a.tdiv b)))) else none:=by
 by_cases h:b=0<;>simp[h,bq,nnn.bZ,eqGuard,binOp,Op.intDiv,runtimePanic,program,goPanic,cE,bind,Sem.bind,pure]
def LA:bq P .rem t x y (.lit (.int k a)) (.lit (.int k b))=if b≠0 then some (.lit (.int k (a.tmod b))) else none:=by
 by_cases h:b=0<;>simp[h,bq,nnn.bZ,eqGuard,binOp,Op.intDiv,runtimePanic,program,goPanic,cE,bind,Sem.bind,pure]
def Cf:bq P .lss t x y (.lit (.int k a)) (.lit (.int k b))=some (.lit (.bool (decide (a<b)))):=by
 simp[bq,nnn.bZ,eqGuard,binOp,Op.intCmp,cE,bind,Sem.bind,pure]
def Cg:bq P .leq t x y (.lit (.int k a)) (.lit (.int k b))=some (.lit (.bool (decide (a<=b)))):=by
 simp[bq,nnn.bZ,eqGuard,binOp,Op.intCmp,cE,bind,Sem.bind,pure]
def Ci:bq P .gtr t x y (.lit (.int k a)) (.lit (.int k b))=some (.lit (.bool (decide (b<a)))):=by
 simp[bq,nnn.bZ,eqGuard,binOp,Op.intCmp,cE,bind,Sem.bind,pure]
def Cj:bq P .geq t x y (.lit (.int k a)) (.lit (.int k b))=some (.lit (.bool (decide (b<=a)))):=by
 simp[bq,nnn.bZ,eqGuard,binOp,Op.intCmp,cE,bind,Sem.bind,pure]
def Ck:bq P .eql t x y (.lit (.int k a)) (.lit (.int k b))=some (.lit (.bool (decide (a=b)))):=by
 simp[bq,nnn.bZ,eqGuard,binOp,Op.intCmp,cE,bind,Sem.bind,pure];rfl
def Cl:bq P .neq t x y (.lit (.int k a)) (.lit (.int k b))=some (.lit (.bool (!decide (a=b)))):=by
 simp[bq,nnn.bZ,eqGuard,binOp,Op.intCmp,cE,bind,Sem.bind,pure];rfl
def LB (v:Bool):rF P .not (.lit (.bool v))=some (.lit (.bool (!v))):=rfl
def LC (H:nnl)(s d:TypeId)(v:Value):jH P H s d (.lit v)=kF P s d (.lit v):=rfl
def LD (H:nnl)(s d:TypeId)(c:List nnn):jH P H s d (.agg c)=kF P s d (.agg c):=rfl
def LF {s d:TypeId}{k':IntKind}(hs:(P.underlying s).isSome=true)(hd:P.underlying d=some (.int k')):kF P s d (.lit (.int k a))=some (.lit (.int k' (k'.wrap a))):=by
 obtain⟨ds,hs⟩:=XP.1 hs;simp only[kF,nnn.bZ];have:cE P (convert s d (.int k a))=some (.int k' (k'.wrap a)):=by
  simp[convert,underlying,program,hs,hd,cE,bind,Sem.bind,pure,Conv.intToInt]
 rw[this];rfl
end nums
def ext (H:nnl)(L:List Blk):nnl :=
 { get:=fun j=>if H.C<=j/\j<H.C+L.length then L[j-H.C]? else H.get j,C:=H.C+L.length }
def ext_nil (H:nnl):ext H []=H:=by
 unfold ext;have:(fun j=>if H.C<=j/\j<H.C+([]:List Blk).length then ([]:List Blk)[j-H.C]? else H.get j)=H.get:=by
  funext j
  rw[W7];simp only[List.length_nil];omega
 rw[this];rfl
def bu (H:nnl)(L:List Blk):(ext H L).C=H.C+L.length:=rfl
def yB (H:nnl)(b:Blk):H.lay H.C b=some (ext H [b]):=by
 unfold nnl.lay ext;rw[W8 rfl];congr 2
 funext j
 by_cases h:j=H.C
 ·subst h;simp
 ·rw[W7 h,W7];simp only[List.length_cons,List.length_nil];omega
def yC (H:nnl)(L:List Blk)(b:Blk):(ext H L).lay (H.C+L.length) b=some (ext H (L++[b])):=by
 unfold nnl.lay;rw[W8 (bu H L).symm];unfold ext;congr 2
 ·funext j
  simp only[List.length_append,List.length_cons,List.length_nil];by_cases h:j=H.C+L.length
  ·subst h;rw[W8 rfl,W8 U,Zk];simp
  ·rw[W7 h];by_cases h2:H.C<=j/\j<H.C+L.length
   ·rw[W8 h2,W8 U,Xe U]
   ·rw[W7 h2,W7 U]
 ·simp only[List.length_append,List.length_cons,List.length_nil];omega
def Cm (H:nnl)(L:List Blk)(i:Nat)(b:Blk)(h:L.length=i):(ext H L).lay (H.C+i) b=some (ext H (L++[b])):=by subst h;exact yC H L b
def cO (H:nnl)(L:List Blk)(i:Nat)(h:i<L.length):(ext H L).get (H.C+i)=L[i]?:=by
 unfold ext;simp only;rw[W8 U,Zk]
def cV (H:nnl)(L:List Blk)(i:Nat)(h:i<H.C):(ext H L).get i=H.get i:=by
 unfold ext;simp only;rw[W7 U]
def yD (H:nnl)(L:List Blk)(i:Nat)(b:Blk)(h:i<L.length):(ext H L).upd (H.C+i) b=ext H (L.set i b):=by
 unfold ext nnl.upd;simp only[Xb];congr 1
 funext j
 by_cases hj:j=H.C+i
 ·subst hj;rw[W8 rfl,W8 U,Zk,Xj h]
 ·rw[W7 hj];by_cases h2:H.C<=j/\j<H.C+L.length
  ·rw[W8 h2,W8 h2,Xs U]
  ·rw[W7 h2,W7 h2]
def rU (b:Option Blk)(gen:Nat):Option (TypeId × List nnn) :=
 match b with
 |some (.O g e cells)=>if g=gen then some (e,cells) else none
 |_=>none
def LG (g gen:Nat)(e:TypeId)(cells:List nnn):rU (some (.O g e cells)) gen=if g=gen then some (e,cells) else none:=rfl
def yE (H:nnl)(L:List Blk)(i gen:Nat)(h:i<L.length):(ext H L).na (H.C+i) gen=rU L[i]? gen:=by
 unfold nnl.na rU;rw[cO H L i h];rfl
def LH (H:nnl)(b:Blk)(L:List Blk)(gen:Nat):(ext H (b :: L)).na H.C gen=rU (some b) gen:=yE H (b :: L) 0 gen (aaw)
def LI (H:nnl)(c:Blk)(L:List Blk)(b:Blk):(ext H (c :: L)).upd H.C b=ext H (b :: L):=yD H (c :: L) 0 b (aaw)
def gE {H R:nnl}{L:List Blk}(h:R=ext H L)(i:Nat){b:Blk}(hb:L[i]? = some b):R.get (H.C + i)=some b := by
  rw[h,cO H L i (by
    rcases Xu i L.length with g |g
    · exact g
    · rw[Xf g] at hb;cases hb)]
  exact hb
def de {H R:nnl}{b:Blk}{L:List Blk}(h:R=ext H (b :: L)):R.get H.C=some b := gE h 0 rfl
end Go.Hx
namespace Go.Hx
variable {P:Program} {G:Nat->Option (List nnn)}
def rW (want:Bool):Option nnn->Option Bool
 |some (.lit (.bool b))=>some (b == want)
 |some (.lit _)=>some false
 |none=>some false
 |_=>none
def LJ (want b:Bool):rW want (some (.lit (.bool b)))=some (b == want):=rfl
def LK (b:Bool):(b == true)=b:=by cases b<;>rfl
def LL (b:Bool):(b == false)=!b:=by cases b<;>rfl
def LM (b:Bool)(p q:Prop):gO (!b) p q=gO b q p:=by cases b<;>simp[gO]
def Ct (t:Bool)(p q:Prop):(if t=true then p else q)=gO t p q:=by cases t<;>simp[gO]
def Cu (all:Array Oper)(ρ:Env)(d:Option Tmp)(op:Op)(ty:TypeId)(pos:String)(aft:Array Edge)(j:Nat)(want:Bool):
  eH all ρ ⟨d,op,ty,pos,aft,some (j,want)⟩=rW want (((all[j]?).bind (·.dst)).map ρ):=by
 unfold eH;simp only;cases (all[j]?).bind (·.dst) with
 |none=>rfl
 |some d =>
  simp only[Option.map_some];cases ρ d with
  |lit v=>cases v<;>rfl
  |_=>rfl
section
variable {rd:Option Nat} {Q:AX->St->Prop} {s:St} {d:Option Tmp} {ty:TypeId} {pos:String} {aft:Array Edge} {g:Option (Nat × Bool)}
def LN (all:Array Oper)(op:Op)(rest:List Oper)(j:Nat)(want:Bool):opsV P G rd Q all (⟨d,op,ty,pos,aft,some (j,want)⟩ :: rest) s =
  bd (rW want (((all[j]?).bind (·.dst)).map s.ρ)) fun t=>gO t (aV P G rd Q ⟨d,op,ty,pos,aft,some (j,want)⟩ (opsV P G rd Q all rest) s) (opsV P G rd Q all rest ⟨aF s.ρ d (.lit undef),s.H⟩):=by
 rw[K2,Cu];exact ug fun _=>Ct ..
variable {all:Array Oper} {tail:St->Prop} {b i:Nat} {bs:List Nat} {acc:List (Nat × FP)} {K:FP->St->Prop}
def LO (bs:List Nat):cZ P G all tail bs i acc [] s=tail s:=by cases bs<;>rfl
def LP (op:Op)(rest:List Oper):cZ P G all tail (b :: bs) i acc (⟨d,op,ty,pos,aft,none⟩ :: rest) s =
  bA P G ⟨d,op,ty,pos,aft,none⟩ (fun f s'=>fP b f acc/\cZ P G all tail bs (i+1) (dH i f acc) rest s') s:=by
 simp[cZ,eH,bd]
def LQ (op:Op)(rest:List Oper)(j:Nat)(want:Bool):cZ P G all tail (b :: bs) i acc (⟨d,op,ty,pos,aft,some (j,want)⟩ :: rest) s =
  bd (rW want (((all[j]?).bind (·.dst)).map s.ρ)) fun t =>
   gO t (bA P G ⟨d,op,ty,pos,aft,some (j,want)⟩ (fun f s'=>fP b f acc/\cZ P G all tail bs (i+1) (dH i f acc) rest s') s)
    (cZ P G all tail bs (i+1) acc rest ⟨aF s.ρ d (.lit undef),s.H⟩):=by
 simp only[cZ,Cu];exact ug fun _=>Ct ..
def LR (fv:Operand)(args:Array Operand)(ats:Array TypeId):bA P G ⟨d,.call ⟨.value fv,args,ats⟩,ty,pos,aft,g⟩ K s =
  ∃v rs,cz P G (ak G s.ρ fv) (args.toList.map (ak G s.ρ)) s.H v rs/\K ⟨[],rs⟩ ⟨aF s.ρ d v,s.H⟩:=(rfl)
abbrev QF:AX->St->Prop:=fun _ _=>False
def LS (x:Operand):bA P G ⟨d,.move x,ty,pos,aft,g⟩ K s=aV P G none QF ⟨d,.move x,ty,pos,aft,g⟩ (K ⟨[],[]⟩) s:=(rfl)
def LU (x:Operand):bA P G ⟨d,.assign x,ty,pos,aft,g⟩ K s=aV P G none QF ⟨d,.assign x,ty,pos,aft,g⟩ (K ⟨[],[]⟩) s:=(rfl)
def LV (c x y:Operand):bA P G ⟨d,.pick c x y,ty,pos,aft,g⟩ K s=aV P G none QF ⟨d,.pick c x y,ty,pos,aft,g⟩ (K ⟨[],[]⟩) s:=(rfl)
def LW (e:TypeId):bA P G ⟨d,.alloc e,ty,pos,aft,g⟩ K s=aV P G none QF ⟨d,.alloc e,ty,pos,aft,g⟩ (K ⟨[s.H.C],[]⟩) s:=(rfl)
def LX (e:TypeId)(x:Operand):bA P G ⟨d,.box e x,ty,pos,aft,g⟩ K s=aV P G none QF ⟨d,.box e x,ty,pos,aft,g⟩ (K ⟨[s.H.C],[]⟩) s:=(rfl)
def LY (t:TypeId)(p:Array (Nat × Operand)):bA P G ⟨d,.build t p,ty,pos,aft,g⟩ K s=aV P G none QF ⟨d,.build t p,ty,pos,aft,g⟩ (K ⟨[],[]⟩) s:=(rfl)
def LZ (t:TypeId)(l:Nat)(p:Array (Nat × Operand)):bA P G ⟨d,.buildSlice t l p,ty,pos,aft,g⟩ K s=aV P G none QF ⟨d,.buildSlice t l p,ty,pos,aft,g⟩ (K ⟨[s.H.C],[]⟩) s:=(rfl)
def L3 (t:TypeId)(x:Operand):bA P G ⟨d,.load t x,ty,pos,aft,g⟩ K s=aV P G none QF ⟨d,.load t x,ty,pos,aft,g⟩ (K ⟨[],aN (ak G s.ρ x)⟩) s:=(rfl)
def L4 (t:TypeId)(x y:Operand):bA P G ⟨d,.store t x y,ty,pos,aft,g⟩ K s=aV P G none QF ⟨d,.store t x y,ty,pos,aft,g⟩ (K ⟨aN (ak G s.ρ x),aN (ak G s.ρ x)⟩) s:=(rfl)
def L5 (x:Operand):bA P G ⟨d,.nilCheck x,ty,pos,aft,g⟩ K s=aV P G none QF ⟨d,.nilCheck x,ty,pos,aft,g⟩ (K ⟨[],aN (ak G s.ρ x)⟩) s:=(rfl)
def L6 (op:BinOp)(t:TypeId)(x y:Operand)(u:TypeId):bA P G ⟨d,.binOp op t x y u,ty,pos,aft,g⟩ K s=bd (bq P op t x y (ak G s.ρ x) (ak G s.ρ y)) fun v=>K ⟨[],[]⟩ ⟨aF s.ρ d v,s.H⟩:=by
 simp only[bA,aj,ga];rfl
def L7 (op:UnOp)(t:TypeId)(x:Operand):bA P G ⟨d,.unOp op t x,ty,pos,aft,g⟩ K s=aV P G none QF ⟨d,.unOp op t x,ty,pos,aft,g⟩ (K ⟨[],[]⟩) s:=(rfl)
def L8 (t u:TypeId)(x:Operand):bA P G ⟨d,.convert t u x,ty,pos,aft,g⟩ K s=aV P G none QF ⟨d,.convert t u x,ty,pos,aft,g⟩ (K ⟨[],aN (ak G s.ρ x)⟩) s:=(rfl)
def L9 (t:TypeId)(x:Operand):bA P G ⟨d,.makeInterface t x,ty,pos,aft,g⟩ K s=aV P G none QF ⟨d,.makeInterface t x,ty,pos,aft,g⟩ (K ⟨[],[]⟩) s:=(rfl)
def Ma (f:Fn)(x y:Array Operand):bA P G ⟨d,.makeFunc f x y,ty,pos,aft,g⟩ K s=aV P G none QF ⟨d,.makeFunc f x y,ty,pos,aft,g⟩ (K ⟨[],[]⟩) s:=(rfl)
def Mb (t:TypeId)(x y:Operand):bA P G ⟨d,.makeSlice t x y,ty,pos,aft,g⟩ K s=aV P G none QF ⟨d,.makeSlice t x y,ty,pos,aft,g⟩ (K ⟨[s.H.C],[]⟩) s:=(rfl)
def Mc (t:TypeId)(x:Operand)(lo hi mx:Option Operand):bA P G ⟨d,.slice t x lo hi mx,ty,pos,aft,g⟩ K s=aV P G none QF ⟨d,.slice t x lo hi mx,ty,pos,aft,g⟩ (K ⟨[],aN (ak G s.ρ x)⟩) s:=(rfl)
def Md (t:TypeId)(x:Operand)(f:Nat):bA P G ⟨d,.fieldAddr t x f,ty,pos,aft,g⟩ K s=aV P G none QF ⟨d,.fieldAddr t x f,ty,pos,aft,g⟩ (K ⟨[],aN (ak G s.ρ x)⟩) s:=(rfl)
def Me (t:TypeId)(x:Operand)(f:Nat):bA P G ⟨d,.field t x f,ty,pos,aft,g⟩ K s=aV P G none QF ⟨d,.field t x f,ty,pos,aft,g⟩ (K ⟨[],[]⟩) s:=(rfl)
def Mf (t:TypeId)(x y:Operand):bA P G ⟨d,.indexAddr t x y,ty,pos,aft,g⟩ K s=aV P G none QF ⟨d,.indexAddr t x y,ty,pos,aft,g⟩ (K ⟨[],aN (ak G s.ρ x)⟩) s:=(rfl)
def Mg (t:TypeId)(x y:Operand):bA P G ⟨d,.index t x y,ty,pos,aft,g⟩ K s=aV P G none QF ⟨d,.index t x y,ty,pos,aft,g⟩ (K ⟨[],[]⟩) s:=(rfl)
def Mh (x:Operand)(f:Nat):bA P G ⟨d,.extract x f,ty,pos,aft,g⟩ K s=aV P G none QF ⟨d,.extract x f,ty,pos,aft,g⟩ (K ⟨[],[]⟩) s:=(rfl)
def Mi (f:Builtin)(args:Array Operand)(ats:Array TypeId):bA P G ⟨d,.call ⟨.builtin f,args,ats⟩,ty,pos,aft,g⟩ K s =
  aV P G none QF ⟨d,.call ⟨.builtin f,args,ats⟩,ty,pos,aft,g⟩ (K (iH P s.H.C f ats.toList (args.toList.map (ak G s.ρ)))) s:=rfl
end
def Mj (v:Value):aN (.lit v)=[]:=rfl
def Mk (n:Nat)(l:List nnn):aN (.L n l)=[]:=rfl
def Ml (l:List nnn)(o:Nat):aN (.ni l o)=[]:=rfl
def Mm (l:List nnn):aN (.agg l)=[]:=rfl
def Mn (id g o l z:Nat):aN (.Z id g o l z)=[id]:=rfl
def Mo (id g o:Nat):aN (.Y id g o)=[id]:=rfl
def Mp (id g o l z:Nat):kH (.Z id g o l z)=true:=rfl
def Mq (v:Value):kH (.lit v)=false:=rfl
def Mr (n:Nat)(l:List nnn):kH (.L n l)=false:=rfl
def Ms (id:Nat)(t:TypeId)(x:nnn):iH P id .len [t] [x]=⟨[],jL P t x⟩:=rfl
def Mt (id:Nat)(ts:List TypeId)(x y:nnn):iH P id .append ts [x,y]=if kH x=true then ⟨aN x,aN x++aN y⟩ else ⟨[id],aN y⟩:=by
 cases ts with
 |nil=>rfl
 |cons t ts=>cases ts<;>rfl
def Mu (t:TypeId)(x:nnn)(h:aN x=[]):jL P t x=[]:=by unfold jL;split<;>first|exact h|rfl
def Mv (t:TypeId)(n:Nat)(l:List nnn):jL P t (.L n l)=[]:=Mu _ _ rfl
def mB (f f':FP):Prop:=(∀r,r∈f.nw->r ∉ f'.rs)/\(∀r,r∈f'.nw->r ∉ f.rs)
def Mw (b:Nat)(f:FP):fP b f []=True:=by simp[fP]
def Mx (b:Nat)(f:FP)(j:Nat)(f':FP)(acc:List (Nat × FP)):fP b f ((j,f') :: acc)=((b / 2 ^ j % 2=1\/mB f f')/\fP b f acc):=by
 simp only[fP,List.forall_mem_cons,Nat.testBit_eq_decide_div_mod_eq,YL,eq_iff_iff];refine and_congr ⟨fun h=>?_,fun h hb=>?_⟩ Iff.rfl
 ·by_cases hb:b / 2 ^ j % 2=1
  ·exact .inl hb
  ·exact .inr (h hb)
 ·rcases h with h|h
  ·exact absurd h hb
  ·exact h
def My (b:Nat)(acc:List (Nat × FP)):fP b ⟨[],[]⟩ acc=True:=by
 simp[fP]
def Mz (e r e' r':List Nat):mB ⟨e,r⟩ ⟨e',r'⟩=((∀x,x∈e->x ∉ r')/\∀x,x∈e'->x ∉ r):=rfl
def MA (i:Nat)(acc:List (Nat × FP)):dH i ⟨[],[]⟩ acc=acc:=rfl
def MB (i x:Nat)(e r:List Nat)(acc:List (Nat × FP)):dH i ⟨x :: e,r⟩ acc=(i,⟨x :: e,r⟩) :: acc:=rfl
def MC (i x:Nat)(e r:List Nat)(acc:List (Nat × FP)):dH i ⟨e,x :: r⟩ acc=(i,⟨e,x :: r⟩) :: acc:=by cases e<;>rfl
def cz.mk {f:FuncId}{first cap args:List nnn}{H:nnl}{v:nnn}{rs:List Nat}(hlt:∀r,r∈rs->r<H.C)
  (h:∀H2:nnl,(∀r,r∈rs->H2.get r=H.get r)->H.C<=H2.C->af P G f (first++args++cap) H2 fun r H3=>r=.ret v/\H3=H2):cz P G (.nb f first cap) args H v rs :=
 ⟨hlt,fun H2 h1 h2=>aC.nb (h H2 h1 h2)⟩
def cz.pure {f:FuncId}{args:List nnn}{H:nnl}{v:nnn}(h:∀H2:nnl,af P G f args H2 fun r H3=>r=.ret v/\H3=H2):cz P G (.nb f [] []) args H v [] :=
 cz.mk (fun _ h=>by cases h) fun H2 _ _=>by simpa using h H2
def af.pure {f:FuncId}{args:List nnn}{H:nnl}{v:nnn}{K:nnf->nnl->Prop}(h:∀H2:nnl,af P G f args H2 fun r H3=>r=.ret v/\H3=H2)(hk:K (.ret v) H):af P G f args H K :=
 (h H).mono fun r H3 ⟨h1,h2⟩=>by rw[h1,h2];exact hk
def W.dr {n:Nat}{id:Nat}{all:Array Oper}{rd:Option Nat}{Q:AX -> St -> Prop}{s:St}(K:Nat)(bs:List Nat)(hm:P.follows .mixedOrders=true)(h:cZ P G all (opsV P G rd Q all (all.toList.drop K)) bs 0 [] (all.toList.take K) s)(hfit:all.toList.all (dM n)=true := by kernel_rfl)(hst:pY all bs K=true := by kernel_rfl):W P G n rd (.region id all true) Q s := W.draw K bs hm hfit hst h
def af.st {H : nnl} {f : FuncId} {fn : Func} {c : Code} {args : List nnn} {K : nnf → nnl → Prop} {rs : List ResultVar} {n : Nat} (hf : P.funcs[f]? = some fn) (h : vc P G n none c (nY P G rs H K) ⟨cR args, H⟩) (hb : fn.body = some c := by exact rfl) (hres : fn.results.toList = rs := by exact rfl) (hnt : fn.ntmps = n := by exact rfl) (hname : (fn.name == "runtime.NumGoroutine") = false := by decide) (hfit : fits n c = true := by kernel_rfl) (hargs : args.length ≤ n := by simp) : af P G f args H K := .JW hf hb hres hnt hname hfit hargs h
def af.sw {H : nnl} {f : FuncId} {fn : Func} {c : Code} {args : List nnn} {K : nnf → nnl → Prop} {rs : List ResultVar} {n : Nat} (hf : P.funcs[f]? = some fn) (h : W P G n none c (nY P G rs H K) ⟨cR args, H⟩) (hb : fn.body = some c := by exact rfl) (hres : fn.results.toList = rs := by exact rfl) (hnt : fn.ntmps = n := by exact rfl) (hname : (fn.name == "runtime.NumGoroutine") = false := by decide) (hargs : args.length ≤ n := by simp) : af P G f args H K := .yk hf hb hres hnt hname hargs h
end Go.Hx
namespace Go.Hx
variable {P:Program} {G:Nat->Option (List nnn)} {H:nnl}
def ef (H:nnl)(x:nnn):Option nnn :=
 match x with
  |.L len _=>some (.lit (.int .i64 len))
  |.Z id gen _ len _=>(H.na id gen).map fun _=>.lit (.int .i64 len)
  |.lit (.slice none 0 0)=>some (.lit (.int .i64 0))
  |_=>none
def yL (x:nnn):Option nnn :=
 match x with
  |.lit (.string s)=>some (.lit (.int .i64 s.size))
  |_=>none
def rZ (d:Option TypeDesc)(H:nnl)(x:nnn):Option nnn :=
 match d with
 |some (.slice _)=>ef H x
 |some .string=>yL x
 |some (.array n _)=>some (.lit (.int .i64 n))
 |_=>none
def MM (t:TypeId)(x:nnn):kE P H t x=rZ (P.underlying t) H x:=rfl
def qk (e:TypeId)(x:nnn):rZ (some (.slice e)) H x=ef H x:=rfl
def MN (x:nnn):rZ (some .string) H x=yL x:=rfl
def MO (n:Nat)(e:TypeId)(x:nnn):rZ (some (.array n e)) H x=some (.lit (.int .i64 n)):=rfl
def MP (n:Nat)(l:List nnn):ef H (.L n l)=some (.lit (.int .i64 n)):=rfl
def Cz (id g o n z:Nat):ef H (.Z id g o n z)=(H.na id g).map fun _=>.lit (.int .i64 n):=rfl
def MQ:ef H (.lit (.slice none 0 0))=some (.lit (.int .i64 0)):=rfl
def MR (s:ByteArray):yL (.lit (.string s))=some (.lit (.int .i64 s.size)):=rfl
def lQ (d:Option TypeDesc)(n:Nat)(cells:List nnn)(off:Nat):Option nnn :=
 match d with
 |none=>none
 |some d=>if pF d then (if off+n<=cells.length then some (.agg ((cells.drop off).take n)) else none) else cells[off]?
def MS (t:TypeId)(cells:List nnn)(off:Nat):eP P t cells off=lQ (P.underlying t) (P.cellsOf t) cells off:=rfl
def MT (k:IntKind)(n:Nat)(cells:List nnn)(off:Nat):lQ (some (.int k)) n cells off=cells[off]?:=rfl
def MU (n:Nat)(cells:List nnn)(off:Nat):lQ (some .bool) n cells off=cells[off]?:=rfl
def MV (n:Nat)(cells:List nnn)(off:Nat):lQ (some .string) n cells off=cells[off]?:=rfl
def MW (e:TypeId)(n:Nat)(cells:List nnn)(off:Nat):lQ (some (.slice e)) n cells off=cells[off]?:=rfl
def MX (e:TypeId)(n:Nat)(cells:List nnn)(off:Nat):lQ (some (.pointer e)) n cells off=cells[off]?:=rfl
def MY (fs:Array Field)(n:Nat)(cells:List nnn)(off:Nat):lQ (some (.struct fs)) n cells off=if off+n<=cells.length then some (.agg ((cells.drop off).take n)) else none:=rfl
def MZ (k:Nat)(e:TypeId)(n:Nat)(cells:List nnn)(off:Nat):lQ (some (.array k e)) n cells off=if off+n<=cells.length then some (.agg ((cells.drop off).take n)) else none:=rfl
def M0 (cells vs:List nnn):setAt cells 0 vs=vs++cells.drop vs.length:=by simp[setAt]
def M4 (c:nnn)(cells vs:List nnn)(off:Nat):setAt (c :: cells) (off+1) vs=c :: setAt cells off vs:=by simp[setAt,Nat.succ_add]
def M5 (t:TypeId)(cells:List nnn)(off:Nat):fk P H t (.ni cells off)=eP P t cells off:=rfl
def M6 (t:TypeId)(id gen off:Nat):fk P H t (.Y id gen off)=(H.na id gen).bind fun ec=>eP P t ec.2 off:=by
 simp only[nnl.na,fk];generalize H.get id=x;cases x with
 |none=>rfl
 |some b =>
  cases b with
  |O g e cells =>
   simp only;by_cases hg:g=gen
   ·rw[W8 hg,W8 hg];rfl
   ·rw[W7 hg,W7 hg];rfl
  |_=>rfl
def M7 (t:TypeId)(id gen off:Nat)(v:nnn):ie P H t (.Y id gen off) v =
  (H.na id gen).bind fun ec=>if v.cells.length=P.cellsOf t/\v.cells.all nnn.one=true/\off+v.cells.length<=ec.2.length then some (H.upd id (.O gen ec.1 (setAt ec.2 off v.cells))) else none:=by
 simp only[nnl.na,ie];generalize H.get id=x;cases x with
 |none=>rfl
 |some b =>
  cases b with
  |O g e cells =>
   simp only;by_cases hg:g=gen
   ·subst hg;simp
   ·rw[W7 hg,W7 (fun h=>hg h.1)];rfl
  |_=>rfl
def uq (H:nnl)(c:Nat)(x:nnn)(i:Int):Option nnn :=
 match x with
 |.Z id gen off len sz=>if 0<=i/\i<(len:Int)/\sz=c then (H.na id gen).map fun _=>.Y id gen (off+i.toNat*c) else none
 |.L len cells=>if 0<=i/\i<(len:Int)/\cells≠[] then some (.ni cells (i.toNat*c)) else none
 |_=>none
def sd (H:nnl)(c n:Nat)(x:nnn)(i:Int):Option nnn :=
 if 0<=i/\i<(n:Int) then
   match x with
   |.Y id gen off=>(H.na id gen).map fun _=>.Y id gen (off+i.toNat*c)
   |.ni cells off=>some (.ni cells (off+i.toNat*c))
   |_=>none
 else none
def ur (P:Program)(H:nnl)(d:Option TypeDesc)(x:nnn)(i:Int):Option nnn :=
 match d with
 |some (.array n e)=>if (P.underlying e).isSome then sd H (P.cellsOf e) n x i else none
 |some (.slice e)=>if (P.underlying e).isSome then uq H (P.cellsOf e) x i else none
 |_=>none
def M8 (t:TypeId)(x:nnn)(k:IntKind)(i:Int):qg P H t x (.lit (.int k i))=ur P H (P.underlying t) x i:=by
 simp only[qg,mo,ur];cases P.underlying t with
 |none=>rfl
 |some d =>
  cases d with
  |array n e =>
   simp only[sd];by_cases h:(P.underlying e).isSome=true
   ·simp only[h,and_true,if_true];rfl
   ·rw[W7 h,W7 (fun h'=>h h'.2.2)]
  |slice e=>rfl
  |_=>rfl
def M9 (e:TypeId)(x:nnn)(i:Int):ur P H (some (.slice e)) x i=if (P.underlying e).isSome=true then uq H (P.cellsOf e) x i else none:=rfl
def Na (n:Nat)(e:TypeId)(x:nnn)(i:Int):ur P H (some (.array n e)) x i=if (P.underlying e).isSome=true then sd H (P.cellsOf e) n x i else none:=rfl
def Nb (c n:Nat)(l:List nnn)(i:Int):uq H c (.L n l) i=if 0<=i/\i<(n:Int)/\l≠[] then some (.ni l (i.toNat*c)) else none:=rfl
def Nc (c id g o n z:Nat)(i:Int):uq H c (.Z id g o n z) i=if 0<=i/\i<(n:Int)/\z=c then (H.na id g).map fun _=>.Y id g (o+i.toNat*c) else none:=rfl
def Nd (c n:Nat)(l:List nnn)(o:Nat)(i:Int):sd H c n (.ni l o) i=if 0<=i/\i<(n:Int) then some (.ni l (o+i.toNat*c)) else none:=rfl
def Nf (c n id g o:Nat)(i:Int):sd H c n (.Y id g o) i=if 0<=i/\i<(n:Int) then (H.na id g).map fun _=>.Y id g (o+i.toNat*c) else none:=rfl
def se (H:nnl)(c:Nat)(x:nnn)(lo hi:Option nnn):Option nnn :=
   match x with
   |.Z id gen off len sz=>if sz=c then (H.na id gen).bind fun _=>(bL hi len len).bind fun h=>(bL lo 0 h).map fun l=>.Z id gen (off+l*sz) (h-l) sz else none
   |.L len cells=>if cells.length=len*c then (bL hi len len).bind fun h=>(bL lo 0 h).map fun l=>.L (h-l) ((cells.drop (l*c)).take ((h-l)*c)) else none
   |.lit (.slice none 0 0)=>(bL hi 0 0).bind fun h=>(bL lo 0 h).map fun _=>.lit (.slice none 0 0)
   |_=>none
def yM (H:nnl)(c n:Nat)(x:nnn)(lo hi:Option nnn):Option nnn :=
   match x with
   |.Y id gen off =>
    match H.na id gen with
    |some (_,cells) =>
     if off+n*c<=cells.length then
      (bL hi n n).bind fun h=>(bL lo 0 h).map fun l=>.Z id gen (off+l*c) (h-l) c
     else none
    |none=>none
   | .ni cells off=>if off+n*c≤cells.length then
      (bL hi n n).bind fun h=>(bL lo 0 h).map fun l=>.L (h-l) ((cells.drop (off+l*c)).take ((h-l)*c))
     else none
   |_=>none
def yQ (x:nnn)(lo hi:Option nnn):Option nnn :=
  match x with
  |.lit (.string s)=>(bL hi s.size s.size).bind fun h=>(bL lo 0 h).map fun l=>.lit (.string (s.extract l h))
  |_=>none
def uu (P:Program)(H:nnl)(d:Option TypeDesc)(x:nnn)(lo hi:Option nnn):Option nnn :=
 match d with
 |some (.array n e)=>if (P.underlying e).isSome then yM H (P.cellsOf e) n x lo hi else none
 |some (.slice e)=>if (P.underlying e).isSome then se H (P.cellsOf e) x lo hi else none
 |some .string=>yQ x lo hi
 |_=>none
def Ng (t:TypeId)(x:nnn)(lo hi:Option nnn):lD P H t x lo hi=uu P H (P.underlying t) x lo hi:=rfl
def Nh (e:TypeId)(x:nnn)(lo hi:Option nnn):uu P H (some (.slice e)) x lo hi=if (P.underlying e).isSome=true then se H (P.cellsOf e) x lo hi else none:=rfl
def Ni (n:Nat)(e:TypeId)(x:nnn)(lo hi:Option nnn):uu P H (some (.array n e)) x lo hi=if (P.underlying e).isSome=true then yM H (P.cellsOf e) n x lo hi else none:=rfl
def Nj (x:nnn)(lo hi:Option nnn):uu P H (some .string) x lo hi=yQ x lo hi:=rfl
def Nk (c id g o n z:Nat)(lo hi:Option nnn):se H c (.Z id g o n z) lo hi=if z=c then (H.na id g).bind fun _=>(bL hi n n).bind fun h=>(bL lo 0 h).map fun l=>.Z id g (o+l*z) (h-l) z else none:=rfl
def Nl (c n:Nat)(cells:List nnn)(lo hi:Option nnn):se H c (.L n cells) lo hi=if cells.length=n*c then (bL hi n n).bind fun h=>(bL lo 0 h).map fun l=>.L (h-l) ((cells.drop (l*c)).take ((h-l)*c)) else none:=rfl
def Nm (c:Nat)(lo hi:Option nnn):se H c (.lit (.slice none 0 0)) lo hi=(bL hi 0 0).bind fun h=>(bL lo 0 h).map fun _=>.lit (.slice none 0 0):=rfl
def Nn (c n:Nat)(cells:List nnn)(off:Nat)(lo hi:Option nnn):yM H c n (.ni cells off) lo hi=if off+n*c<=cells.length then
      (bL hi n n).bind fun h=>(bL lo 0 h).map fun l=>.L (h-l) ((cells.drop (off+l*c)).take ((h-l)*c)) else none:=rfl
def No (s:ByteArray)(lo hi:Option nnn):yQ (.lit (.string s)) lo hi=(bL hi s.size s.size).bind fun h=>(bL lo 0 h).map fun l=>.lit (.string (s.extract l h)):=rfl
def Np (d m:Nat):bL none d m=some d:=rfl
def Nq (k:IntKind)(i:Int)(d m:Nat):bL (some (.lit (.int k i))) d m=if 0<=i/\i<=(m:Int) then some i.toNat else none:=rfl
def Nr (sz n:Nat)(l:List nnn):bU H sz (.L n l)=if l.length=n*sz then some (n,l) else none:=rfl
def sf (sz id g o n z:Nat):bU H sz (.Z id g o n z)=if z=sz then (H.na id g).map fun x=>(n,(x.2.drop o).take (n*sz)) else none:=rfl
def yR (sz:Nat):bU H sz (.lit (.slice none 0 0))=some (0,[]):=rfl
def uw (P:Program)(H:nnl)(id:Nat)(d0 d1:Option TypeDesc)(s x:nnn):Option (nnn × nnl) :=
 match d0,d1 with
 | some (.slice e),some (.slice _)=>(bC P e).bind fun _=>(bU H (P.cellsOf e) x).bind fun nx =>
    match s with
    |.lit (.slice none 0 0) =>
     if nx.1=0 then some (s,H)
     else if nx.1*P.bytesOf e<=2 ^ 47/\nx.1<=2 ^ 47 then (H.lay id (.O 0 e nx.2)).map fun H'=>(.Z id 0 0 nx.1 (P.cellsOf e),H')
     else none
    |.Z id' gen off len sz =>
     (H.na id' gen).bind fun ec =>
      if ec.1=e/\sz=P.cellsOf e/\off+len*sz=ec.2.length/\(len+nx.1)*P.bytesOf e<=2 ^ 47/\len+nx.1<=2 ^ 47/\nx.2.all nnn.one=true then
       if nx.1=0 then some (s,H)
       else some (.Z id' (gen+1) 0 (len+nx.1) sz,H.upd id' (.O (gen+1) e (ec.2.drop off++nx.2)))
      else none
    |_=>none
 |_,_=>none
def cK (id:Nat)(t u:TypeId)(s x:nnn):bh P H id t u s x=uw P H id (P.underlying t) (P.underlying u) s x:=by
 unfold bh uw;cases P.underlying t with
 |none=>rfl
 |some d =>
  cases d with
  |slice e =>
   cases P.underlying u with
   |none=>rfl
   |some d'=>cases d'<;>rfl
  |_=>rfl
def Ns (id:Nat)(e u:TypeId)(x:nnn):uw P H id (some (.slice e)) (some (.slice u)) (.lit (.slice none 0 0)) x=(bC P e).bind fun _=>(bU H (P.cellsOf e) x).bind fun nx =>
  if nx.1=0 then some (.lit (.slice none 0 0),H) else if nx.1*P.bytesOf e<=2 ^ 47/\nx.1<=2 ^ 47 then (H.lay id (.O 0 e nx.2)).map fun H'=>(.Z id 0 0 nx.1 (P.cellsOf e),H') else none:=rfl
def Nt (id:Nat)(e u:TypeId)(x:nnn)(id' gen off len sz:Nat):uw P H id (some (.slice e)) (some (.slice u)) (.Z id' gen off len sz) x=(bC P e).bind fun _=>(bU H (P.cellsOf e) x).bind fun nx =>
  (H.na id' gen).bind fun ec =>
      if ec.1=e/\sz=P.cellsOf e/\off+len*sz=ec.2.length/\(len+nx.1)*P.bytesOf e<=2 ^ 47/\len+nx.1<=2 ^ 47/\nx.2.all nnn.one=true then
       if nx.1=0 then some (.Z id' gen off len sz,H)
       else some (.Z id' (gen+1) 0 (len+nx.1) sz,H.upd id' (.O (gen+1) e (ec.2.drop off++nx.2)))
      else none:=rfl
def CA (P:Program)(H:nnl)(d0:Option TypeDesc)(d x:nnn):Option (nnn × nnl) :=
 match d0 with
 |some (.slice e) =>
  if (P.underlying e).isSome then
   (bU H (P.cellsOf e) x).bind fun nx =>
    match d with
    |.Z id gen off len sz =>
     (H.na id gen).bind fun ec =>
      if sz=P.cellsOf e/\off+len*sz<=ec.2.length/\nx.2.all nnn.one=true then
       some (.lit (.int .i64 (min nx.1 len:Nat)),H.upd id (.O gen ec.1 (setAt ec.2 off (nx.2.take (min nx.1 len*sz)))))
      else none
    |_=>none
  else none
 |_=>none
def Nu (t:TypeId)(d x:nnn):kD P H t d x=CA P H (P.underlying t) d x:=rfl
def Nv (e:TypeId)(id gen off len sz:Nat)(x:nnn):CA P H (some (.slice e)) (.Z id gen off len sz) x=if (P.underlying e).isSome=true then
   (bU H (P.cellsOf e) x).bind fun nx=>(H.na id gen).bind fun ec =>
      if sz=P.cellsOf e/\off+len*sz<=ec.2.length/\nx.2.all nnn.one=true then
       some (.lit (.int .i64 (min nx.1 len:Nat)),H.upd id (.O gen ec.1 (setAt ec.2 off (nx.2.take (min nx.1 len*sz)))))
      else none
   else none:=rfl
def yS (P:Program)(H:nnl)(id:Nat)(d:Option TypeDesc)(l c:nnn):Option (nnn × nnl) :=
 match d,l,c with
 |some (.slice e),.lit (.int _ l),.lit (.int _ c) =>
  if 0<=l/\l<=c/\c*P.bytesOf e<=2 ^ 46/\c<=2 ^ 46 then
   (jc P e l.toNat).bind fun cells=>(H.lay id (.O 0 e cells)).map fun H'=>(.Z id 0 0 l.toNat (P.cellsOf e),H')
  else none
 |_,_,_=>none
def Nw (id:Nat)(t:TypeId)(l c:nnn):je P H id t l c=yS P H id (P.underlying t) l c:=by
 unfold je yS;cases P.underlying t with
 |none=>rfl
 |some d=>rfl
def Nx (id:Nat)(e:TypeId)(k k':IntKind)(l c:Int):yS P H id (some (.slice e)) (.lit (.int k l)) (.lit (.int k' c))=if 0<=l/\l<=c/\c*P.bytesOf e<=2 ^ 46/\c<=2 ^ 46 then
   (jc P e l.toNat).bind fun cells=>(H.lay id (.O 0 e cells)).map fun H'=>(.Z id 0 0 l.toNat (P.cellsOf e),H')
  else none:=rfl
def CB (e:TypeId)(n:Nat):jc P e n=(bC P e).map fun z=>(List.replicate n z).flatten:=rfl
def CC (n:Nat)(v:nnn):(List.replicate n [v]).flatten=List.replicate n v:=by
 induction n with
 |zero=>rfl
 |succ n ih=>rw[YB,List.flatten_cons,ih,YB];rfl
def CD (P:Program)(H:nnl)(id:Nat)(d:Option TypeDesc)(len:Nat)(parts:List (Nat × nnn)):Option (nnn × nnl) :=
 match d with
 |some (.slice e) =>
  if len*P.cellsOf e<=2 ^ 24 then
   (jc P e len).bind fun z=>(eQ (fun i=>some (i*P.cellsOf e,P.cellsOf e)) z parts).bind fun cells =>
    (H.lay id (.O 0 e cells)).map fun H'=>(.Z id 0 0 len (P.cellsOf e),H')
  else none
 |_=>none
def Ny (id:Nat)(t:TypeId)(len:Nat)(parts:List (Nat × nnn)):jG P H id t len parts=CD P H id (P.underlying t) len parts:=rfl
def Nz (id:Nat)(e:TypeId)(len:Nat)(parts:List (Nat × nnn)):CD P H id (some (.slice e)) len parts=if len*P.cellsOf e<=2 ^ 24 then
   (jc P e len).bind fun z=>(eQ (fun i=>some (i*P.cellsOf e,P.cellsOf e)) z parts).bind fun cells =>
    (H.lay id (.O 0 e cells)).map fun H'=>(.Z id 0 0 len (P.cellsOf e),H')
  else none:=rfl
def yT (P:Program)(t:TypeId)(d:Option TypeDesc)(parts:List (Nat × nnn)):Option nnn :=
 (bC P t).bind fun z =>
  match d with
  |some (.struct _)=>(jd P t).bind fun pl=>(eQ (fun i=>pl[i]?) z parts).map .agg
  |some (.array _ e)=>if (P.underlying e).isSome then (eQ (fun i=>some (i*P.cellsOf e,P.cellsOf e)) z parts).map .agg else none
  |_=>none
def NA (t:TypeId)(parts:List (Nat × nnn)):pN P t parts=yT P t (P.underlying t) parts:=rfl
def NB (t:TypeId)(fs:Array Field)(parts:List (Nat × nnn)):yT P t (some (.struct fs)) parts=(bC P t).bind fun z=>(jd P t).bind fun pl=>(eQ (fun i=>pl[i]?) z parts).map .agg:=rfl
def NC (t:TypeId)(n:Nat)(e:TypeId)(parts:List (Nat × nnn)):yT P t (some (.array n e)) parts=(bC P t).bind fun z=>if (P.underlying e).isSome=true then (eQ (fun i=>some (i*P.cellsOf e,P.cellsOf e)) z parts).map .agg else none:=rfl
def ND (pl:Nat->Option (Nat × Nat))(cells:List nnn):eQ pl cells []=some cells:=rfl
def NF (pl:Nat->Option (Nat × Nat))(cells:List nnn)(i:Nat)(v:nnn)(rest:List (Nat × nnn)):eQ pl cells ((i,v) :: rest)=(pl i).bind fun os =>
  if v.cells.length=os.2/\os.1+v.cells.length<=cells.length then eQ pl (setAt cells os.1 v.cells) rest else none:=by
 simp only[eQ];cases pl i<;>rfl
def NG (k:IntKind)(n:Int):(nnn.lit (.int k n)).cells=[.lit (.int k n)]:=rfl
def NH (b:Bool):(nnn.lit (.bool b)).cells=[.lit (.bool b)]:=rfl
def NI (s:ByteArray):(nnn.lit (.string s)).cells=[.lit (.string s)]:=rfl
def NJ (a:Option Addr)(n c:Nat):(nnn.lit (.slice a n c)).cells=[.lit (.slice a n c)]:=rfl
def NK (l:List nnn):(nnn.agg l).cells=l:=rfl
def NL (n:Nat)(l:List nnn):(nnn.L n l).cells=[.L n l]:=rfl
def NM (a b c d e:Nat):(nnn.Z a b c d e).cells=[.Z a b c d e]:=rfl
def NN (a b c:Nat):(nnn.Y a b c).cells=[.Y a b c]:=rfl
def NO (k:IntKind)(n:Int):(nnn.lit (.int k n)).one=true:=rfl
def NP (b:Bool):(nnn.lit (.bool b)).one=true:=rfl
def NQ (s:ByteArray):(nnn.lit (.string s)).one=true:=rfl
def NR (a:Option Addr)(n c:Nat):(nnn.lit (.slice a n c)).one=true:=rfl
def NS (n:Nat)(l:List nnn):(nnn.L n l).one=true:=rfl
def NT (a b c d e:Nat):(nnn.Z a b c d e).one=true:=rfl
def NU (a b c:Nat):(nnn.Y a b c).one=true:=rfl
def aa (n:Int):nnn:=.lit (.int .i64 n)
def ints (l:List Int):List nnn:=l.map aa
def ah (l:List Int):nnn:=.L l.length (ints l)
def aZ (l:List Int):(ints l).length=l.length:=Xl ..
def gR (l:List Int)(i:Nat):(ints l)[i]?=(l[i]?).map aa:=List.getElem?_map ..
def yG (l:List Int):ints l=[]↔l=[]:=List.map_eq_nil_iff
end Go.Hx
namespace Go.Hx
variable {P:Program} {G:Nat->Option (List nnn)} {Γ Γ':aA} {H H':nnl} {w w':World}
variable {id nx:Nat}{S:Nat->Prop}{K:nnf->nnl->Prop}{v v':nnn}
inductive Below (n:Nat):nnn->Prop
 |lit (v:Value):Below n (.lit v)
 |L {len:Nat} {cells:List nnn} (h:∀i (h:i<cells.length),Below n cells[i]):Below n (.L len cells)
 |ni {off:Nat} {cells:List nnn} (h:∀i (h:i<cells.length),Below n cells[i]):Below n (.ni cells off)
 |agg {cells:List nnn} (h:∀i (h:i<cells.length),Below n cells[i]):Below n (.agg cells)
 |nc {cells:List nnn} (h:∀i (h:i<cells.length),Below n cells[i]):Below n (.nc cells)
 |nb {f:FuncId} {a b:List nnn} (h1:∀i (h:i<a.length),Below n a[i]) (h2:∀i (h:i<b.length),Below n b[i]):Below n (.nb f a b)
 |Z {id g o l z:Nat} (h:id<n):Below n (.Z id g o l z)
 |Y {id g o:Nat} (h:id<n):Below n (.Y id g o)
 |nk {id:Nat} (h:id<n):Below n (.nk id)
def nnc.qj {cv:Value}(h:nnc P Γ H w v cv):Below H.C v:=by
 induction h with
 |lit v=>exact .lit v
 |nu a cap=>exact .L fun i h=>absurd h (Xo _)
 |L hb hlt hlen hcs hcell hrel ih=>exact .L fun i h=>ih i h (U)
 |Z h=>exact .Z h.1
 |Y h=>exact .Y h.1
 |ni hb hlt hcs hcell hrel ih=>exact .ni fun i h=>ih i h (U)
 |agg hcs hrel ih=>exact .agg fun i h=>ih i h (U)
 |nc hcs hrel ih=>exact .nc fun i h=>ih i h (U)
 |nb hfs hcs hf hc ih1 ih2=>exact .nb (fun i h=>ih1 i h U) fun i h=>ih2 i h (U)
 |nk h=>exact .nk h.1
def MD (n:Nat):Blk->Prop
 |.O _ _ cells=>∀i (h:i<cells.length),Below n cells[i]
 |.loop _ _ m env _ _ _=>∀t,t<m->Below n (env t)
 |.mp _=>True
 |.nj=>True
structure Clo (H:nnl):Prop where
 lt:∀id b,H.get id=some b->id<H.C
 below:∀id b,H.get id=some b->MD H.C b
theorem nng.nb (R:nng P G Γ H w):Clo H:=by
 refine⟨fun id b h=>R.C id b h,fun id b h=>?_⟩;cases b with
 |nj=>trivial
 |mp=>trivial
 |O g e cells =>
  intro i hi;have h1:=R.O id g e cells h;split at h1
  ·obtain⟨c,_,_,_,h5⟩:=h1;obtain⟨cv,_,h6⟩:=h5 i hi;exact h6.qj
  ·subst h1;exact absurd hi (Xo _)
 |loop st pend n env ps asg body =>
  intro t ht;obtain⟨b,r,_,_,_,_,_,_,_,h8,h9⟩:=R.loop id st pend n env ps asg body h;exact(h9 t U).qj
inductive Fz (S:Nat->Prop)(H:nnl)(nx:Nat):nnn->nnn->Prop
 |lit (v:Value):Fz S H nx (.lit v) (.lit v)
 |L {len:Nat} {c c':List nnn} (hl:c'.length=c.length) (h:∀i (h:i<c.length) (h':i<c'.length),Fz S H nx c[i] c'[i]):Fz S H nx (.L len c) (.L len c')
 |ni {off:Nat} {c c':List nnn} (hl:c'.length=c.length) (h:∀i (h:i<c.length) (h':i<c'.length),Fz S H nx c[i] c'[i]):Fz S H nx (.ni c off) (.ni c' off)
 |agg {c c':List nnn} (hl:c'.length=c.length) (h:∀i (h:i<c.length) (h':i<c'.length),Fz S H nx c[i] c'[i]):Fz S H nx (.agg c) (.agg c')
 |nc {c c':List nnn} (hl:c'.length=c.length) (h:∀i (h:i<c.length) (h':i<c'.length),Fz S H nx c[i] c'[i]):Fz S H nx (.nc c) (.nc c')
 |nb {f:FuncId} {a a' b b':List nnn} (ha:a'.length=a.length) (hb:b'.length=b.length) (h1:∀i (h:i<a.length) (h':i<a'.length),Fz S H nx a[i] a'[i]) (h2:∀i (h:i<b.length) (h':i<b'.length),Fz S H nx b[i] b'[i]):Fz S H nx (.nb f a b) (.nb f a' b')
 |Z {id g o l z:Nat} (h:id<nx) (hs:¬S id):Fz S H nx (.Z id g o l z) (.Z id g o l z)
 |Y {id g o:Nat} (h:id<nx) (hs:¬S id):Fz S H nx (.Y id g o) (.Y id g o)
 |nk {id:Nat} (h:id<nx) (hs:¬S id):Fz S H nx (.nk id) (.nk id)
 |deadOwn {id g o l z:Nat} (h:id<nx) (hs:S id):Fz S H nx (.Z id g o l z) (.Z id g o l z)
 |deadPtr {id g o:Nat} (h:id<nx) (hs:S id):Fz S H nx (.Y id g o) (.Y id g o)
 |deadYld {id:Nat} (h:id<nx) (hs:S id):Fz S H nx (.nk id) (.nk id)
 |nil:Fz S H nx (.lit (.slice none 0 0)) (.L 0 [])
 |nq {id g o l z:Nat} {e:TypeId} {cells c':List nnn} (hs:S id) (hg:H.get id=some (.O g e cells)) (hl:c'.length=l*z)
   (h:∀i (h:i<l*z) (h2:o+i<cells.length) (h':i<c'.length),Fz S H nx cells[o+i] c'[i]):Fz S H nx (.Z id g o l z) (.L l c')
 |pfrz {id g o:Nat} {e:TypeId} {cells c':List nnn} (hs:S id) (hg:H.get id=some (.O g e cells)) (hne:cells≠[]) (hl:c'.length=cells.length)
   (h:∀i (h:i<cells.length) (h':i<c'.length),Fz S H nx cells[i] c'[i]):Fz S H nx (.Y id g o) (.ni c' o)
def Fz.refl {H:nnl}(h:Below nx v)(hs:∀id,id<nx->¬S id):Fz S H nx v v:=by
 induction h with
 |lit v=>exact .lit v
 |L _ ih=>exact .L rfl fun i h _=>ih i h
 |ni _ ih=>exact .ni rfl fun i h _=>ih i h
 |agg _ ih=>exact .agg rfl fun i h _=>ih i h
 |nc _ ih=>exact .nc rfl fun i h _=>ih i h
 |nb _ _ ih1 ih2=>exact .nb rfl rfl (fun i h _=>ih1 i h) fun i h _=>ih2 i h
 |Z h=>exact .Z h (hs _ h)
 |Y h=>exact .Y h (hs _ h)
 |nk h=>exact .nk h (hs _ h)
def Cv (S:Nat->Prop)(H:nnl)(nx:Nat):Blk->Blk->Prop
 |.O g e c,.O g' e' c'=>g'=g/\e'=e/\c'.length=c.length/\∀i (_:i<c.length) (_:i<c'.length),Fz S H nx c[i] c'[i]
 |.loop st pend n env ps asg body,.loop st' pend' n' env' ps' asg' body'=>st'=st/\pend'=pend/\n'=n/\env'=env/\ps'=ps/\asg'=asg/\body'=body/\∀t,t<n->Fz S H nx (env t) (env t)
 |.mp es,.mp es'=>es'=es
 |.nj,.nj=>True
 |_,_=>False
structure FzH (S:Nat->Prop)(H H':nnl):Prop where
 gone:∀id,S id->H'.get id=none
 kept:∀id b,¬S id->H.get id=some b->id<H'.C/\∃b',H'.get id=some b'/\Cv S H H'.C b b'
 none:∀id,¬S id->H.get id=none->H'.get id=none
open Classical in
noncomputable def dP (S:Nat->Prop)(Γ:aA):aA:=fun id=>if S id then none else Γ id
def iI (h:¬S id):dP S Γ id=Γ id:=by simp[dP,h]
def ji {x:Nat × Nat × Nat}(h:dP S Γ id=some x):¬S id/\Γ id=some x:=by
 unfold dP at h;split at h
 ·cases h
 ·exact⟨by assumption,h⟩
def um {b:Nat}(h:(dP S Γ).dD b):Γ.dD b:=by
 obtain⟨id,base,n,h⟩:=h;exact⟨id,base,n,(ji h).2⟩
def FzH.back (F:FzH S H H'){b':Blk}(h:H'.get id=some b'):¬S id/\∃b,H.get id=some b/\Cv S H H'.C b b'/\id<H'.C:=by
 have hs:¬S id:=fun hs=>by rw[F.gone id hs]at h;cases h
 refine⟨hs,?_⟩;cases hg:H.get id with
 |none=>rw[F.none id hs hg]at h;cases h
 |some b =>
  obtain⟨h1,b1,h2,h3⟩:=F.kept id b hs hg;rw[h]at h2;cases h2;exact⟨b,rfl,h3,h1⟩
def Fz.sound (R:nng P G Γ H w)(F:FzH S H H')(hf:Fz S H H'.C v v'):∀ {cv:Value},nnc P Γ H w v cv->nnc P (dP S Γ) H' w v' cv:=by
 induction hf with
 |lit v=>intro cv h;cases h;exact .lit _
 |nil=>intro cv h;cases h;exact .nu none 0
 |deadOwn hlt hs =>
  intro cv h;cases h with
  |Z h=>exact .Z ⟨hlt,h.2.1,fun hr=>(by rw[F.gone _ hs]at hr;cases hr),fun _ _ _ hg=>(by rw[F.gone _ hs]at hg;cases hg)⟩
 |deadPtr hlt hs =>
  intro cv h;cases h with
  |Y h=>exact .Y ⟨hlt,h.2.1,fun hr=>(by rw[F.gone _ hs]at hr;cases hr),fun _ _ _ hg=>(by rw[F.gone _ hs]at hg;cases hg)⟩
 |deadYld hlt hs =>
  intro cv h;cases h with
  |nk h=>exact .nk ⟨hlt,h.2.1,fun hr=>(by rw[F.gone _ hs]at hr;cases hr),fun _ _ _ _ _ _ _ hg=>(by rw[F.gone _ hs]at hg;cases hg),fun _ hg=>(by rw[F.gone _ hs]at hg;cases hg)⟩
 |L hl hc ih =>
  intro cv h;cases h with
  |nu a cap =>
   rename_i c';have:c'=[]:=Xc hl;subst this;exact .nu a cap
  |L hb hlt hlen hcs hcell hrel=>exact .L (fun h=>hb (um h)) hlt hlen U hcell fun i h1 h2=>ih i U h1 (hrel i U h2)
 |ni hl hc ih =>
  intro cv h;cases h with
  |ni hb hlt hcs hcell hrel=>exact .ni (fun h=>hb (um h)) hlt U hcell fun i h1 h2=>ih i U h1 (hrel i U h2)
 |agg hl hc ih =>
  intro cv h;cases h with
  |agg hcs hrel=>exact .agg U fun i h1 h2=>ih i U h1 (hrel i U h2)
 |nc hl hc ih =>
  intro cv h;cases h with
  |nc hcs hrel=>exact .nc U fun i h1 h2=>ih i U h1 (hrel i U h2)
 |nb ha hb h1 h2 ih1 ih2 =>
  intro cv h;cases h with
  |nb hfs hcs hf hc=>exact .nb U U (fun i a b=>ih1 i U a (hf i U b)) fun i a b=>ih2 i U a (hc i U b)
 |Z hlt hs =>
  intro cv h;cases h with
  |Z h =>
   obtain⟨h1,h2,h0,h3⟩:=h;refine .Z ⟨hlt,h2,fun hr=>?_,fun g' e' cells' hg'=>?_⟩
   ·obtain⟨_,b,hb,hfb,_⟩:=F.back hr;cases b with
    |nj=>exact h0 hb
    |_=>exact hfb.elim
   ·obtain⟨_,b,hb,hfb,_⟩:=F.back hg';cases b with
    |O g e cells =>
     obtain⟨rfl,rfl,hlen,_⟩:=hfb;have:=h3 _ _ _ hb;rw[iI hs,hlen];exact this
    |_=>exact hfb.elim
 |Y hlt hs =>
  intro cv h;cases h with
  |Y h =>
   obtain⟨h1,h2,h0,h3⟩:=h;refine .Y ⟨hlt,h2,fun hr=>?_,fun g' e' cells' hg'=>?_⟩
   ·obtain⟨_,b,hb,hfb,_⟩:=F.back hr;cases b with
    |nj=>exact h0 hb
    |_=>exact hfb.elim
   ·obtain⟨_,b,hb,hfb,_⟩:=F.back hg';cases b with
    |O g e cells =>
     obtain⟨rfl,rfl,hlen,_⟩:=hfb;have:=h3 _ _ _ hb;rw[iI hs];exact this
    |_=>exact hfb.elim
 |nk hlt hs =>
  intro cv h;cases h with
  |nk h =>
   obtain⟨h1,h2,h0,h3,h4⟩:=h;refine .nk ⟨hlt,h2,fun hr=>?_,fun st pend n env ps asg body hg'=>?_,fun es hg'=>?_⟩
   ·obtain⟨_,b,hb,hfb,_⟩:=F.back hr;cases b with
    |nj=>exact h0 hb
    |_=>exact hfb.elim
   ·obtain⟨_,b,hb,hfb,_⟩:=F.back hg';cases b with
    |loop st0 pend0 n0 env0 ps0 asg0 body0 =>
     have:=h3 _ _ _ _ _ _ _ hb;rw[iI hs];exact this
    |_=>exact hfb.elim
   ·obtain⟨_,b,hb,hfb,_⟩:=F.back hg';cases b with
    |mp es0 =>
     have:=h4 _ hb;rw[iI hs];exact this
    |_=>exact hfb.elim
 | @nq id g o l z e cells c' hs hg hl hc ih =>
  intro cv h;cases h with
  |Z h =>
   obtain⟨h1,h2,h0,h3⟩:=h;have h4:=(h3 _ _ _ hg).2 rfl;have harr:=R.O id g e cells hg;cases hΓ:Γ id with
   |none =>
    rw[hΓ]at h4;obtain⟨rfl,rfl,rfl⟩:=h4;have:c'=[]:=Xc (by simpa using hl);subst this;exact .nu _ _
   |some y =>
    obtain⟨b,base,n⟩:=y;rw[hΓ]at h4 harr;obtain⟨a,cap,rfl,hcap,hoff,hor⟩:=h4;obtain⟨c,a1,a2,a3,a4⟩:=harr;rcases hor with ⟨rfl,hn⟩|⟨rfl,rfl⟩
    ·have hcell:∀i,i<l*z->∃cv,c[base+(o+i)]?=some cv/\∀(h:o+i<cells.length),nnc P Γ H w cells[o+i] cv:=fun i hi=>by
      obtain⟨cv,b1,b2⟩:=a4 (o+i) U;exact⟨cv,b1,fun _=>b2⟩
     let cs:List Value:=(List.range (l*z)).map fun i=>(c[base+(o+i)]?).getD undef
     have hcs:cs.length=c'.length:=(by simp[cs,hl]);refine .L (cs:=cs) (fun ho=>?_) (R.lt _ _ _ _ hΓ) hcap hcs (fun i hi=>?_) fun i hi hi'=>?_
     ·obtain⟨id',base',n',h'⟩:=ho;obtain⟨hns,h''⟩:=ji h';have:=R.inj _ _ _ _ _ _ _ h'' hΓ;subst this;exact hns hs
     ·have hi2:i<l*z:=(by rw[hcs,hl]at hi;exact hi);obtain⟨cv,b1,_⟩:=hcell i hi2;have:cs[i]=cv:=(by simp[cs,b1]);rw[this];have he:base+o+i=base+(o+i):=U;simp only[World.cell?,a1,he];exact b1
     ·have hi2:i<l*z:=(by rw[hl]at hi;exact hi);obtain⟨cv,b1,b2⟩:=hcell i hi2;have:cs[i]=cv:=(by simp[cs,b1]);rw[this];exact ih i hi2 U hi (b2 U)
    ·have:c'=[]:=Xc (by simpa using hl);subst this;exact .nu _ _
 | @pfrz id g o e cells c' hs hg hne hl hc ih =>
  intro cv h;cases h with
  |Y h =>
   obtain⟨h1,h2,h0,h3⟩:=h;obtain⟨b,base,n,hΓ,rfl⟩:=(h3 _ _ _ hg).2 rfl;have harr:=R.O id g e cells hg;rw[hΓ]at harr;obtain⟨c,a1,a2,a3,a4⟩:=harr
   let cs:List Value:=(List.range cells.length).map fun i=>(c[base+i]?).getD undef
   have hcs:cs.length=c'.length:=(by simp[cs,hl]);have hcell:∀i (hi:i<cells.length) (hi':i<cs.length),c[base+i]?=some cs[i]/\nnc P Γ H w cells[i] cs[i]:=fun i hi hi'=>by
    obtain⟨cv,b1,b2⟩:=a4 i hi;have:cs[i]=cv:=(by simp[cs,b1]);rw[this];exact⟨b1,b2⟩
   refine .ni (cs:=cs) (fun ho=>?_) (R.lt _ _ _ _ hΓ) hcs (fun i hi=>?_) fun i hi hi'=>?_
   ·obtain⟨id',base',n',h'⟩:=ho;obtain⟨hns,h''⟩:=ji h';have:=R.inj _ _ _ _ _ _ _ h'' hΓ;subst this;exact hns hs
   ·simp only[World.cell?,a1];exact(hcell i U hi).1
   ·exact ih i U hi (hcell i U hi').2
def Fz.plain {H:nnl}(h:Below 0 v):Fz S H nx v v:=by
 induction h with
 |lit v=>exact .lit v
 |L _ ih=>exact .L rfl fun i h _=>ih i h
 |ni _ ih=>exact .ni rfl fun i h _=>ih i h
 |agg _ ih=>exact .agg rfl fun i h _=>ih i h
 |nc _ ih=>exact .nc rfl fun i h _=>ih i h
 |nb _ _ ih1 ih2=>exact .nb rfl rfl (fun i h _=>ih1 i h) fun i h _=>ih2 i h
 |Z h=>exact absurd h (Xo _)
 |Y h=>exact absurd h (Xo _)
 |nk h=>exact absurd h (Xo _)
theorem Fz.ints {H:nnl}{g o:Nat}{e:TypeId}{cells:List nnn}{x:List Int}{n:Nat}(hs:S id)(hg:H.get id=some (.O g e cells))(hn:n=x.length)(hx:∀i (h:i<x.length),cells[o+i]?=some (aa x[i])):
  Fz S H nx (.Z id g o n 1) (ah x):=by
 subst hn;refine .nq hs hg (by simp[Go.Hx.ints]) fun i hi h2 h'=>?_;have h1:=hx i U;rw[W5 h2]at h1;rw[Option.some.inj h1];have:(Go.Hx.ints x)[i]=aa x[i]:=by simp[Go.Hx.ints]
 rw[this];exact .lit _
def Fz.yG {H:nnl}:Fz S H nx (.lit (.slice none 0 0)) (ah []):=.nil
def Fz.df {H:nnl}(x:List Int):Fz S H nx (ah x) (ah x) :=
 .plain (.L fun i h=>by simp only[Go.Hx.ints,Xi];exact .lit _)
def kI (x:List Int):(Go.Hx.ints x).all nnn.one=true:=by simp[Go.Hx.ints,aa,nnn.one,Value.oneCell]
def dS (G:Nat->Option (List nnn)):Prop:=∀g cells,G g=some cells->Below 0 (.ni cells 0)
def FzH.aU (F:FzH S H H'):Evo Γ H w (dP S Γ) H' w where
 os:=rfl
 tape:=rfl
 output:=rfl
 size:=aaz
 nf:=fun _ _ h=>⟨rfl,fun h'=>h (um h')⟩
 na:=fun id _ _ x' hx=>by
  obtain⟨hs,b,hb,hfb,_⟩:=F.back hx;refine⟨b,hb,?_⟩;cases b<;>cases x'<;>first|exact hfb.elim|skip
  ·obtain⟨rfl,rfl,hl,_⟩:=hfb;exact⟨aaz,fun _=>⟨iI hs,rfl,hl⟩⟩
  ·obtain⟨rfl,rfl,rfl,rfl,rfl,rfl,rfl,_⟩:=hfb;exact⟨iI hs,rfl,rfl,rfl,rfl,rfl⟩
  ·exact iI hs
  ·trivial
 nq:=fun _ _=>rfl
 kind:=.refl _
 nL:=fun _ _ x y h _=>⟨x,y,(ji h).2⟩
def FzH.rel (hG:dS G)(R:nng P G Γ H w)(F:FzH S H H'):nng P G (dP S Γ) H' w where
 O id g e cells hg:=by
  obtain⟨hs,b,hb,hfb,_⟩:=F.back hg;cases b with
  |O g0 e0 c0 =>
   obtain⟨rfl,rfl,hl,hc⟩:=hfb;have h1:=R.O _ _ _ _ hb;rw[iI hs];cases hΓ:Γ id with
   |none =>
    rw[hΓ]at h1;simp only at h1 ⊢;subst h1;exact Xc hl
   |some y =>
    obtain⟨b,base,n⟩:=y;rw[hΓ]at h1;obtain⟨c,a1,a2,a3,a4⟩:=h1;refine⟨c,a1,a2,U,fun i hi=>?_⟩;obtain⟨cv,b1,b2⟩:=a4 i U;exact⟨cv,b1,(hc i U hi).sound R F b2⟩
  |_=>exact hfb.elim
 loop id st pend n env ps asg body hg:=by
  obtain⟨hs,b,hb,hfb,_⟩:=F.back hg;cases b with
  |loop =>
   obtain⟨rfl,rfl,rfl,rfl,rfl,rfl,rfl,hf⟩:=hfb;obtain⟨b,rr,a1,a2,a3,a4,a5,a6,a7,a8,a9⟩:=R.loop _ _ _ _ _ _ _ _ hb;exact⟨b,rr,by rw[iI hs];exact a1,a2,a3,a4,a5,a6,a7,a8,fun t ht=>(hf t U).sound R F (a9 t ht)⟩
  |_=>exact hfb.elim
 mp id es hg:=by
  obtain⟨hs,b,hb,hfb,_⟩:=F.back hg;cases b with
  |mp es0 =>
   have hfb':es=es0:=hfb;subst hfb';obtain⟨b,a1,a2⟩:=R.mp _ _ hb;exact⟨b,by rw[iI hs];exact a1,a2⟩
  |_=>exact hfb.elim
 nj id hg:=by
  obtain⟨hs,b,hb,hfb,_⟩:=F.back hg;cases b with
  |nj=>rw[iI hs];exact R.nj id hb
  |_=>exact hfb.elim
 inj id id' b base n base' n' h h':=R.inj id id' b base n base' n' (ji h).2 (ji h').2
 nB id x h:=by
  obtain⟨hs,h⟩:=ji h;obtain⟨y,hy⟩:=R.nB id x h;obtain⟨_,b',hb',_⟩:=F.kept id y hs hy;exact⟨b',hb'⟩
 lt id b base n h:=R.lt id b base n (ji h).2
 C id y h:=by
  obtain⟨_,_,_,_,h⟩:=F.back h;exact h
 nz g cells h:=(Fz.plain (hG g cells h)).sound R F (R.nz g cells h)
 nN:=R.nN
def jK.freeze (hG:dS G)(F:FzH S H H')(hv:Fz S H H'.C v v'):jK P G H v H' v' :=
 fun Γ _ R=>⟨dP S Γ,F.rel hG R,F.aU,fun _ h=>hv.sound R F h⟩
def cF.freeze (hG:dS G){s s':St}(F:FzH S s.H s'.H)(hv:∀t,Fz S s.H s'.H.C (s.ρ t) (s'.ρ t)):cF P G s s':=by
 intro n wb Γ a w hs;have E:Evo Γ s.H w (dP S Γ) s'.H w:=F.aU;refine⟨dP S Γ,⟨hs.size,fun t=>(hv t).sound hs.heap F (hs.env t),F.rel hG hs.heap,hs.defers.aU E,hs.low⟩,E,fun rd rb hr hri=>?_⟩;cases rd with
 |none=>exact hr
 |some id =>
  obtain⟨b,st,pend,n,env,ps,asg,body,h1,h2,h3⟩:=hr;obtain⟨st',pend',n',env',ps',asg',body',h4⟩:=hri;obtain⟨hns,_⟩:=F.back h4;exact⟨b,_,_,_,_,_,_,_,h1,by rw[iI hns];exact h2,h4⟩
def ME (hc:Clo H)(L:List Blk):FzH (fun id=>H.C<=id) (ext H L) H where
 gone id hs:=by
  cases h:H.get id with
  |none=>rfl
  |some b=>have:=hc.lt id b h;omega
 kept id b hs hb:=by
  have hlt:id<H.C:=Yu hs;rw[cV H L id hlt]at hb;have hbb:=hc.below id b hb;refine⟨hlt,b,hb,?_⟩;have hno:∀i,i<H.C->¬H.C<=i:=fun i h=>Nat.not_le_of_lt h;cases b with
  |nj=>trivial
  |mp=>rfl
  |O g e cells=>exact⟨rfl,rfl,rfl,fun i h _=>.refl (hbb i h) hno⟩
  |loop st pend n env ps asg body=>exact⟨rfl,rfl,rfl,rfl,rfl,rfl,rfl,fun t ht=>.refl (hbb t ht) hno⟩
 none id hs hb:=by
  rw[cV H L id (Yu hs)]at hb;exact hb
def ar.drop (hG:dS G)(hc:Clo H){L:List Blk}(hv:Fz (fun id=>H.C<=id) (ext H L) H.C v v')(hk:K (.ret v') H):ar P G H K v (ext H L) :=
 ⟨v',H,.freeze hG (ME hc L) hv,aaz,hk⟩
def ar.MF (hG:dS G)(hc:Clo H)(hv:Fz (fun id=>H.C<=id) (ext H []) H.C v v')(hk:K (.ret v') H):ar P G H K v H:=by
 have:=ar.drop (P:=P) hG hc hv hk;rw[ext_nil]at this;exact this
theorem af.nb {f : FuncId} {args : List nnn} {K : nnf → nnl → Prop} (hf : ∃ fn, P.funcs[f]? = some fn ∧ fn.body.isNone = false ∧ (fn.name == "runtime.NumGoroutine") = false) (h : Clo H → af P G f args H K) : af P G f args H K :=
 ⟨hf,fun Γ w cargs R hr=>(h R.nb).2 Γ w cargs R hr⟩
end Go.Hx
namespace Go.Hx
variable {P:Program} {G:Nat->Option (List nnn)} {Γ Γ':aA} {H H':nnl} {w w':World}
variable {r:Loop}{b:Nat}{x:Option Blk}{pend:Option Code}
def uo (R:nng P G Γ H w){id:Nat}{st:LoopState}{n:Nat}{env:Env}{ps:Array Tmp}{asg body:Code}(hg:H.get id=some (.loop st pend n env ps asg body)):
    ∃b r,Γ id=some (b,0,0)/\w.heap[b]?=some (.loop r)/\r.state=st/\r.pending=pend/\r.params=ps/\r.assign=asg/\r.body=body/\r.tmps.size=n/\(∀t (h:t<r.tmps.size),nnc P Γ H w (env t) r.tmps[t]) /\
      ∀st' pend',nng P G Γ (H.upd id (.loop st' pend' n env ps asg body)) (bx w b (.loop { r with state:=st',pending:=pend' })) /\
        Evo Γ H w Γ (H.upd id (.loop st' pend' n env ps asg body)) (bx w b (.loop { r with state:=st',pending:=pend' })):=by
  obtain⟨b,r,hΓ,hb,h1,h2,h3,h4,h5,h6,h7⟩:=R.loop id st pend n env ps asg body hg;refine⟨b,r,hΓ,hb,h1,h2,h3,h4,h5,h6,h7,fun st' pend'=>?_⟩;have hlt:=R.lt id b 0 0 hΓ;have E:Evo Γ H w Γ (H.upd id (.loop st' pend' n env ps asg body)) (bx w b (.loop { r with state:=st',pending:=pend' })) :=
    { os:=rfl,tape:=rfl,output:=rfl
      size:=by rw[ja];exact Nat.le_refl _
      nf:=fun c hc ho=>⟨by
        rw[dL,W7];rintro⟨rfl,_⟩;exact ho ⟨id,0,0,hΓ⟩,ho⟩
      na:=fun i hi _ x' hx=>by
        rw[ae]at hx;split at hx
        · rename_i hii;subst hii;simp only[Option.some.injEq]at hx;subst hx;exact⟨_,hg,rfl,rfl,rfl,rfl,rfl,rfl⟩
        · exact⟨x',hx,Blk.le_refl _ _ _⟩
      nq:=fun a _=>rB hb (fun _ _ _ h=>by cases h) (fun _ _ _ h=>by cases h) a
      kind:=xu hb fun _ _ _ h=>by cases h
      nL:=.refl _ _ }
  refine⟨?_,E⟩;have hne:∀i b' base n',Γ i=some (b',base,n')->i≠id->b'≠b:=fun i b' base n' hi hii hbb=>by
    subst hbb;exact hii (R.inj _ _ _ _ _ _ _ hi hΓ)
  exact
    { O:=fun i g e cells hgi=>by
        rw[ae]at hgi;split at hgi
        · simp at hgi
        · rename_i hii;have h:=R.O i g e cells hgi;cases hi:Γ i with
          |none=>rw[hi]at h;exact h
          |some y =>
            obtain⟨b',base,n'⟩:=y;rw[hi]at h;obtain⟨c,a1,a2,a3,a4⟩:=h;refine⟨c,?_,a2,a3,fun j hj=>let ⟨cv,b1,b2⟩:=a4 j hj;⟨cv,b1,b2.aU E aaz⟩⟩;rw[dL,W7]
            · exact a1
            · rintro⟨h,_⟩;exact hne i b' base n' hi hii h
      loop:=fun i st2 pend2 n2 env2 ps2 asg2 body2 hgi=>by
        rw[ae]at hgi;split at hgi
        · rename_i hii;subst hii;simp only[Option.some.injEq,Blk.loop.injEq]at hgi;obtain⟨rfl,rfl,rfl,rfl,rfl,rfl,rfl⟩:=hgi;refine⟨b,{ r with state:=st',pending:=pend' },hΓ,by rw[dL,W8 ⟨rfl,hlt⟩],rfl,rfl,h3,h4,h5,h6,fun t ht=>(h7 t ht).aU E aaz⟩
        · rename_i hii;obtain⟨b2,r2,a1,a2,a3,a4,a5,a6,a7,a8,a9⟩:=R.loop i _ _ _ _ _ _ _ hgi;refine⟨b2,r2,a1,?_,a3,a4,a5,a6,a7,a8,fun t ht=>(a9 t ht).aU E aaz⟩;rw[dL,W7]
          · exact a2
          · rintro⟨h,_⟩;exact hne i b2 0 0 a1 hii h
      mp:=fun i es hgi=>by
        rw[ae]at hgi;split at hgi
        · simp at hgi
        · rename_i hii;obtain⟨b2,a1,a2⟩:=R.mp i _ hgi;refine⟨b2,a1,?_⟩;rw[dL,W7]
          · exact a2
          · rintro⟨h,_⟩;exact hne i b2 0 0 a1 hii h
      nj:=fun i hgi=>by
        rw[ae]at hgi;split at hgi
        · simp at hgi
        · exact R.nj i hgi
      inj:=R.inj
      nB:=fun i x hi=>by
        obtain⟨y,hy⟩:=R.nB i x hi;rw[ae];split
        · exact⟨_,rfl⟩
        · exact⟨y,hy⟩
      lt:=fun i b' base n' hi=>by rw[ja];exact R.lt i b' base n' hi
      C:=fun i y hy=>by
        rw[ae]at hy;split at hy
        · rename_i hii;subst hii;exact R.C _ _ hg
        · exact R.C i y hy
      nz:=fun g cells h=>(R.nz g cells h).aU E (Nat.le_refl _)
      nN:=R.nK E }
def rX (h:w.heap[b]?=some (.loop r)):(Instr.getLoop b).run P w=.ok r w:=by
  have hg:(getObj b).run P w=.ok (.loop r) w:=by simp[getObj,Sem.run,h]
  unfold Instr.getLoop;rw[ao hg];rfl
def yH {o':Obj}(h:w.heap[b]?=some (.loop r)):(setObj b o').run P w=.ok () (bx w b o'):=by
  simp[setObj,Sem.run,h,bx]
def MG (h:w.heap[b]?=some (.loop r))(hs:r.state=.ready):(Instr.beginRound b).run P w=.ok () (bx w b (.loop { r with state:=.busy,pending:=r.pending })):=by
  unfold Instr.beginRound;rw[ao (rX h),ao (yH h)];simp only[hs];rfl
def MH (h:w.heap[b]?=some (.loop r))(j:Option Code):
    (Instr.endRound b j).run P w=.ok (.bool j.isNone) (bx w b (.loop { r with state:=if j.isNone then .ready else .done,pending:=j })):=by
  unfold Instr.endRound;rw[ao (rX h),ao (yH h)];rfl
def MI (h:w.heap[b]?=some (.loop r))(hs:(r.state == .busy)=false):(Instr.endLoop b).run P w=.ok r.pending (bx w b (.loop { r with state:=.exhausted,pending:=r.pending })):=by
  unfold Instr.endLoop;rw[ao (rX h)];simp only[hs,Bool.false_eq_true,if_false];rw[ao (yH h)];rfl
def lO (ρ:Env)(l:List (Tmp × nnn)):Env:=l.foldl (fun ρ p=>aF ρ (some p.1) p.2) ρ
def dT (env:Env)(n:Nat):Env:=fun t=>if t<n then env t else .lit undef
def mC (st:LoopState)(pend:Option Code):Option Blk->Option Blk
  |some (.loop _ _ n env ps asg body)=>some (.loop st pend n env ps asg body)
  |_=>none
def Cw:Option Blk->Option Blk
  |some (.loop .ready pend n env ps asg body)=>some (.loop .busy pend n env ps asg body)
  |_=>none
def yI (id:Nat)(K:nnf->nnl->Prop):AX->St->Prop
  |.normal,s=>bd (mC .ready none (s.H.get id)) fun b=>K (.ret (.lit (.bool true))) (s.H.upd id b)
  |.ret,s=>bd (mC .done (some .ret) (s.H.get id)) fun b=>K (.ret (.lit (.bool false))) (s.H.upd id b)
  |.exit i,s=>bd (mC .done (some (.exit i)) (s.H.get id)) fun b=>K (.ret (.lit (.bool false))) (s.H.upd id b)
  |.goto i,s=>bd (mC .done (some (.goto i)) (s.H.get id)) fun b=>K (.ret (.lit (.bool false))) (s.H.upd id b)
  |.panic,_=>False
def Cx (P:Program)(G:Nat->Option (List nnn))(n id:Nat)(body:Code)(K:nnf->nnl->Prop):AX->St->Prop
  |.normal,s=>bd (Cw (s.H.get id)) fun b=>W P G n (some id) body (yI id K) ⟨s.ρ,s.H.upd id b⟩
  |_,_=>False
def MJ:∀(l:List (Tmp × nnn)) (cl:List (Tmp × Value)) (ρ:Env) (tmps:Array Value),l.length=cl.length->(∀i (h:i<l.length) (h':i<cl.length),l[i].1=cl[i].1/\l[i].1<tmps.size/\nnc P Γ H w l[i].2 cl[i].2) ->
    (∀t,nnc P Γ H w (ρ t) (tmps.getD t undef)) ->
    ((cl.foldl (fun tmps (p:Tmp × Value)=>tmps.setIfInBounds p.1 p.2) tmps).size=tmps.size)/\∀t,nnc P Γ H w (lO ρ l t) ((cl.foldl (fun tmps (p:Tmp × Value)=>tmps.setIfInBounds p.1 p.2) tmps).getD t undef):=by
  intro l
  induction l with
  |nil =>
    intro cl ρ tmps hl _ he;cases cl with
    |nil=>exact⟨rfl,he⟩
    |cons=>simp at hl
  |cons x l ih =>
    intro cl ρ tmps hl h he;cases cl with
    |nil=>simp at hl
    |cons y cl =>
      obtain⟨h1,h2,h3⟩:=h 0 aaw aaw;simp only[XD]at h1 h2 h3;have:=ih cl (aF ρ (some x.1) x.2) (tmps.setIfInBounds y.1 y.2) (by simpa using hl) (fun i a b=>by
        have:=h (i+1) (by simpa using a) (by simpa using b);simp only[X8]at this;simpa using this) (fun t=>by
          by_cases ht:t=x.1
          · subst ht;have e1:aF ρ (some x.1) x.2 x.1=x.2:=(by simp[aF]);have e2:(tmps.setIfInBounds y.1 y.2).getD x.1 undef=y.2:=(by rw[<- h1];simp[h2]);rw[e1,e2];exact h3
          · have e1 : aF ρ (some x.1) x.2 t=ρ t:=(by simp [aF,ht]);have e2 : (tmps.setIfInBounds y.1 y.2).getD t undef=tmps.getD t undef:=by
              simp only[XM];rw[XZ,W7 (by rw[<- h1];exact fun h=>ht h.symm)]
            rw[e1,e2];exact he t)
      refine⟨?_,this.2⟩;have h4:=this.1;simp only[Array.size_setIfInBounds]at h4;exact h4
def MK {st:LoopState}{b:Blk}(h:mC st pend x=some b):∃st0 p0 n env ps asg body,x=some (.loop st0 p0 n env ps asg body)/\b=.loop st pend n env ps asg body:=by
  unfold mC at h;split at h
  · cases h;exact⟨_,_,_,_,_,_,_,rfl,rfl⟩
  · cases h
theorem aC.nk {id:Nat}{args:List nnn}{K:nnf->nnl->Prop}{pend:Option Code}{n:Nat}{env:Env}{ps:Array Tmp}{asg body:Code}(hg:H.get id=some (.loop .ready pend n env ps asg body))(hl:args.length=ps.size)
    (hps:ps.toList.all (fun t=>decide (t<n))=true) (h:W P G n (some id) asg (Cx P G n id body K) ⟨lO (dT env n) (ps.toList.zip args),H⟩):aC P G (.nk id) args H K:=by
  intro Γ w cfv cargs R hv hr;cases hv with
  |nk hy =>
    obtain⟨b,hΓ,rfl⟩:=hy.2.2.2.1 _ _ _ _ _ _ _ hg;obtain⟨b',r,hΓ',hb,h1,h2,h3,h4,h5,h6,h7,_⟩:=uo R hg;rw[hΓ]at hΓ';simp only[Option.some.injEq,Prod.mk.injEq]at hΓ';obtain⟨rfl,_⟩:=hΓ';have hsz:cargs.size=r.params.size:=(by rw[hr.1,hl,h3]);refine⟨{ target:=.fn (.yield b) #[],args:=#[]++cargs },rfl,.inr (.inl ⟨b,r.fn,(r.params.zip (#[]++cargs)).foldl (fun tmps (t,a)=>tmps.setIfInBounds t a) r.tmps,r.assign,r.body,?_,?_⟩)⟩
    · show (Instr.yield b (#[]++cargs)).run P w=_;unfold Instr.yield;rw[ao (rX hb)];have:¬((#[]++cargs).size≠r.params.size):=(by simp[hsz]);rw[W7 this];rfl
    · refine roundIn_of_wpIn (F:=Fence.wide) trivial ?_;have hfold : (r.params.zip (#[]++cargs)).foldl (fun tmps (t,a)=>tmps.setIfInBounds t a) r.tmps=(r.params.toList.zip cargs.toList).foldl (fun tmps (p : Tmp × Value)=>tmps.setIfInBounds p.1 p.2) r.tmps:=by
        rw[<- Array.foldl_toList];simp
      rw [hfold,h4,h5];have hset:=MJ (P:=P) (Γ:=Γ) (H:=H) (w:=w) (ps.toList.zip args) (r.params.toList.zip cargs.toList) (dT env n) r.tmps (by simp [hr.1,h3]) (fun i a c=>by
          simp only[List.length_zip,YO]at a c;simp only[List.getElem_zip,Ya];refine⟨by simp only[h3],?_,hr.2 i U U⟩;rw[h6];have:=XK.1 hps (ps[i]' U) aaw;simpa using this) (fun t=>by
          unfold dT;by_cases ht:t<n
          · rw[W8 ht];have:r.tmps.getD t undef=r.tmps[t]' U:=(by simp[h6,ht]);rw[this];exact h7 t (U)
          · rw[W7 ht];have:r.tmps.getD t undef=undef:=(by simp[h6,ht]);rw[this];exact .lit _)
      have hs:nnr P G n ⟨0,[]⟩ Γ ⟨lO (dT env n) (ps.toList.zip args),H⟩ { tmps:=(r.params.toList.zip cargs.toList).foldl (fun tmps (p:Tmp × Value)=>tmps.setIfInBounds p.1 p.2) r.tmps,defers:=[] } w :=
        ⟨by rw[hset.1,h6],hset.2,R,⟨[],rfl,Marks.nil⟩,Zu _⟩
      refine wpIn_mono (h ⟨0,[]⟩ Γ _ w (some b) hs ⟨b,_,_,_,_,_,_,_,rfl,hΓ,hg⟩) ?_;rintro e a₁ w₁ ⟨x,s₁,Γ₁,hx,hq,hs₁,E₁,hn₁,hr₁,_⟩;cases x with
      |normal =>
        cases e with
        |normal =>
          obtain⟨blk,hbg,hW⟩:=hq;obtain⟨b1,st1,p1,n1,env1,ps1,asg1,body1,hb1,hΓ₁,hg₁⟩:=hr₁;simp only[Option.some.injEq]at hb1;subst hb1;rw[hg₁]at hbg;have hst:st1=.ready/\blk=.loop .busy p1 n1 env1 ps1 asg1 body1:=by
            cases st1<;>simp[Cw]at hbg
            exact⟨rfl,hbg.symm⟩
          obtain ⟨rfl,rfl⟩:=hst;obtain ⟨b2,r1,hΓ₂,hb2,k1,k2,k3,k4,k5,k6,k7,kset⟩:=uo hs₁.heap hg₁;rw [hΓ₁] at hΓ₂;simp only [Option.some.injEq,Prod.mk.injEq] at hΓ₂;obtain ⟨rfl,_⟩:=hΓ₂;obtain ⟨R2,E2⟩:=kset .busy r1.pending;rw [k2] at R2 E2;have hb3 : Γ₁ id=some (b,0,0):=hΓ₁;refine ⟨_,MG hb2 k1,?_⟩;rw [k2];refine wpIn_mono (hW ⟨0,[]⟩ Γ₁ a₁ _ (some b) (hs₁.move E2 aaz R2) ⟨b,_,_,_,_,_,_,_,rfl,hΓ₁,by rw [ae,W8 rfl]⟩) ?_;rintro e a₂ w₂ ⟨x,s₂,Γ₂,hx,hq,hs₂,E3,hn₂,hr₂,_⟩;obtain ⟨b4,st4,p4,n4,env4,ps4,asg4,body4,hb4,hΓ₄,hg₄⟩:=hr₂;simp only [Option.some.injEq] at hb4;subst hb4;obtain ⟨b5,r5,hΓ₅,hb5,l1,l2,l3,l4,l5,l6,l7,lset⟩:=uo hs₂.heap hg₄;rw [hΓ₄] at hΓ₅;simp only [Option.some.injEq,Prod.mk.injEq] at hΓ₅;obtain ⟨rfl,_⟩:=hΓ₅;have E4 : Evo Γ H w Γ₂ s₂.H w₂:=(E₁.trans hn₁ E2).trans hn₁ E3;have hn4 : H.C≤s₂.H.C:=XN hn₁ hn₂;have fin : ∀ (j : Option Code) (v : Bool),v=j.isNone→bd (mC (if j.isNone then .ready else .done) j (s₂.H.get id)) (fun bl=>K (.ret (.lit (.bool v))) (s₂.H.upd id bl)) →
              ∃cv w',(Instr.endRound b j).run P w₂=.ok cv w'/\eG P G Γ H w K (.returned cv) w':=by
            rintro j v rfl ⟨bl,hbl,hk⟩;obtain⟨R6,E6⟩:=lset (if j.isNone then .ready else .done) j;rw[hg₄]at hbl;obtain⟨_,_,_,_,_,_,_,heq,rfl⟩:=MK hbl;simp only[Option.some.injEq,Blk.loop.injEq]at heq;obtain⟨rfl,rfl,rfl,rfl,rfl,rfl,rfl⟩:=heq;exact⟨_,_,MH hb5 j,.ret (.lit (.bool j.isNone)),_,Γ₂,nnc.lit _,hk,R6,E4.trans hn4 E6,hn4⟩
          cases e with
          |normal=>cases x with
            |normal=>exact fin none true rfl hq
            |_=>exact hx.elim
          |ret=>cases x with
            |ret=>exact fin (some .ret) false rfl hq
            |_=>exact hx.elim
          |exit i=>cases x with
            |exit i' =>
              obtain rfl:i=i':=hx;exact fin (some (.exit i)) false rfl hq
            |_=>exact hx.elim
          |goto i=>cases x with
            |goto i' =>
              obtain rfl:i=i':=hx;exact fin (some (.goto i)) false rfl hq
            |_=>exact hx.elim
          |panic c=>cases x with
            |panic=>exact hq.elim
            |_=>exact hx.elim
          |outgrown=>cases x<;>exact hx.elim
        |_=>exact hx.elim
      |_=>exact hq.elim
def yJ (hos:w'.os=w.os)(ht:w'.tape=w.tape)(ho:w'.output=w.output)(hs:w.heap.size<=w'.heap.size)(hk:∀b,b<w.heap.size->w'.heap[b]?=w.heap[b]?)(hz:∀a,a.block<w.heap.size->w'.frozen? a=w.frozen? a)(R:nng P G Γ H w):Evo Γ H w Γ H w'/\nng P G Γ H w':=by
  have E:Evo Γ H w Γ H w':=⟨hos,ht,ho,hs,fun b hb h=>⟨hk b hb,h⟩,fun _ _ _ x' hx=>⟨x',hx,Blk.le_refl _ _ _⟩,hz,IU hk,.refl _ _⟩
  refine⟨E,?_⟩;exact
    { O:=fun id g e cells hg=>by
        have h1:=R.O id g e cells hg;cases hΓ:Γ id with
        |none=>rw[hΓ]at h1;exact h1
        |some y =>
          obtain⟨b,base,n⟩:=y;rw[hΓ]at h1;obtain⟨c,a1,a2,a3,a4⟩:=h1;exact⟨c,by rw[hk b (R.lt _ _ _ _ hΓ)];exact a1,a2,a3,fun i hi=>let ⟨cv,b1,b2⟩:=a4 i hi;⟨cv,b1,b2.aU E aaz⟩⟩
      loop:=fun id st pend n env ps asg body hg=>by
        obtain⟨b,rr,a1,a2,a3,a4,a5,a6,a7,a8,a9⟩:=R.loop id st pend n env ps asg body hg;exact⟨b,rr,a1,by rw[hk b (R.lt _ _ _ _ a1)];exact a2,a3,a4,a5,a6,a7,a8,fun t ht=>(a9 t ht).aU E aaz⟩
      mp:=fun id es hg=>by
        obtain⟨b,a1,a2⟩:=R.mp id es hg;exact⟨b,a1,by rw[hk b (R.lt _ _ _ _ a1)];exact a2⟩
      nj:=R.nj
      inj:=R.inj
      nB:=R.nB
      lt:=fun id b base n h=>Xd (R.lt id b base n h) hs
      C:=R.C
      nz:=fun g cells h=>(R.nz g cells h).aU E (Nat.le_refl _)
      nN:=R.nK E }
def rY:Option Blk->Option (Option Code × Blk)
  |some (.loop .busy ..)=>none
  |some (.loop _ pend n env ps asg body)=>some (pend,.loop .exhausted pend n env ps asg body)
  |_=>none
def Cy (Q:AX->St->Prop)(s:St):Option Code->Prop
  |none=>Q .normal s
  |some .ret=>Q .ret s
  |some (.exit i)=>Q (.exit i) s
  |some (.goto i)=>Q (.goto i) s
  |_=>False
def yK (rd:Option Nat)(Q:AX->St->Prop)(ρ:Env)(id:Nat):nnf->nnl->Prop
  |.ret _,H'=>eS H' rd/\bd (rY (H'.get id)) fun pb=>Cy Q ⟨ρ,H'.upd id pb.2⟩ pb.1
  |.panic,H'=>eS H' rd/\Q .panic ⟨ρ,H'⟩
def ML {pb:Option Code × Blk}(h:rY x=some pb):∃st pend n env ps asg body,x=some (.loop st pend n env ps asg body)/\(st == .busy)=false/\pb=(pend,.loop .exhausted pend n env ps asg body):=by
  unfold rY at h;split at h
  · cases h
  · rename_i st pend n env ps asg body hne;cases h;refine⟨_,_,_,_,_,_,_,rfl,?_,rfl⟩;cases st with
    |busy=>exact absurd rfl (by first|exact hne|exact fun h=>hne _ _ _ _ _ _ h)
    |_=>rfl
  · cases h
section
variable {n:Nat} {rd:Option Nat} {Q:AX->St->Prop}
theorem W.rangeFunc {g:Operand}{ps:Array Tmp}{asg body:Code}{s:St}{f:FuncId}{first cap:List nnn}(hg:ak G s.ρ g=.nb f first cap)
    (h:bd (s.H.lay s.H.C (.loop .ready none n s.ρ ps asg body)) fun H1=>af P G f (first++[.nk s.H.C]++cap) H1 (yK rd Q s.ρ s.H.C)):W P G n rd (.rangeFunc g ps asg body) Q s:=by
  intro wb Γ a w rb hs hr;obtain⟨H1,hlay,hcall⟩:=h;have hlay2:H1=⟨fun j=>if j=s.H.C then some (.loop .ready none n s.ρ ps asg body) else s.H.get j,s.H.C+1⟩:=by
    unfold nnl.lay at hlay;rw[W8 rfl]at hlay;exact(Option.some.inj hlay).symm
  subst hlay2;refine wpIn_rangeFunc fun fn _=>?_;have he:=ik hs g;rw[hg]at he
  -- the world with the record
  have key : ∀ (w0 : World) (mark : List Deferred) (dblk : Nat),Evo Γ s.H w Γ s.H w0→nng P G Γ s.H w0 →
      rR wb Γ w0 (mark++a.defers) ->
      ∀w1,w1={ w0 with heap:=w0.heap.push (.loop { state:=.ready,pending:=none,fn:=fn,tmps:=a.tmps,params:=ps,assign:=asg,body:=body,defers:=dblk }) } ->
      (Instr.enterLoop fn a.tmps ps asg body (da rb).round).run P w=.ok (w0.heap.size,mark) w1 ->
      ∃(l:Nat) (mark:List Deferred) (w₁:World) (d:Deferred) (w₁':World) (f:FuncId) (args:Array Value) (w₂:World),
      (Instr.enterLoop fn a.tmps ps asg body (da rb).round).run P w=.ok (l,mark) w₁ /\
      (resolve a.eval (rangeCall g l) 0).run P w₁=.ok d w₁' /\
      (∀f',Target.leads P w₁' d.target d.args=some f'->(da rb).fn f') /\
      (invoke d.target d.args).run P w₁'=.ok (.enter f args) w₂ /\
      ((da rb).depth.isSome=true->1<=0) /\
      CallsIn (da rb) (0-1) P f args w₂ (rangePost (da rb) 0 P l (fN P G n wb rd rb (wr (.rangeFunc g ps asg body)) Γ s.H a w Q) { a with defers:=mark++a.defers }):=by
    intro w0 mark dblk E0 R0 hdef w1 hw1 hent
    let rec':Loop:={ state:=.ready,pending:=none,fn:=fn,tmps:=a.tmps,params:=ps,assign:=asg,body:=body,defers:=dblk }
    have hheap:w1.heap=w0.heap.push (.loop rec'):=(by rw[hw1]);have hsz1:w1.heap.size=w0.heap.size+1:=(by rw[hheap];simp);have hk1:∀b,b<w0.heap.size->w1.heap[b]?=w0.heap[b]?:=fun b hb=>by
      rw[hheap,Zf];rw[W7 U]
    have hget1:w1.heap[w0.heap.size]?=some (.loop rec'):=(by rw[hheap];simp);obtain⟨E1,R1⟩:=yJ (w':=w1) (by rw[hw1]) (by rw[hw1]) (by rw[hw1]) U hk1 (fun a _=>pH hheap (fun _ _ _ h=>by cases h) a) R0
    let Γ1:aA:=fun i=>if i=s.H.C then some (w0.heap.size,0,0) else Γ i
    let H1:nnl:=⟨fun j=>if j=s.H.C then some (.loop .ready none n s.ρ ps asg body) else s.H.get j,s.H.C+1⟩
    have hfresh:∀i y,s.H.get i=some y->i≠s.H.C:=fun i y hy h=>by have:=R0.C i y hy;omega
    have hΓfresh:∀i x,Γ i=some x->i≠s.H.C:=fun i x hx=>let ⟨y,hy⟩:=R0.nB i x hx;hfresh i y hy
    have hΓ1:∀i,i≠s.H.C->Γ1 i=Γ i:=fun i hi=>by simp only[Γ1];rw[W7 hi]
    have hH1:∀i,i≠s.H.C->H1.get i=s.H.get i:=fun i hi=>by simp only[H1];rw[W7 hi]
    have E2:Evo Γ s.H w0 Γ1 H1 w1 :=
      { os:=by rw[hw1],tape:=by rw[hw1],output:=by rw[hw1],size:=U
        nf:=fun b hb ho=>⟨hk1 b hb,by
          rintro⟨i,base,m,hi⟩;simp only[Γ1]at hi;split at hi
          · simp only[Option.some.injEq,Prod.mk.injEq]at hi;omega
          · exact ho ⟨i,base,m,hi⟩⟩
        na:=fun i hi _ x' hx=>by
          rw[hH1 i U]at hx;refine⟨x',hx,?_⟩;have hΓi:Γ1 i=Γ i:=hΓ1 i U;cases x' with
          |O=>exact⟨aaz,fun _=>⟨hΓi,rfl,rfl⟩⟩
          |loop=>exact⟨hΓi,rfl,rfl,rfl,rfl,rfl⟩
          |mp=>exact hΓi
          |nj=>trivial
        nq:=fun a _=>pH hheap (fun _ _ _ h=>by cases h) a
        kind:=tK hheap
        nL:=fun i b x y hi hlt=>by
          simp only[Γ1]at hi;split at hi
          · simp only[Option.some.injEq,Prod.mk.injEq]at hi;omega
          · exact⟨x,y,hi⟩ }
    have hn1:s.H.C<=H1.C:=Yb _;have tr:∀v cv,nnc P Γ s.H w0 v cv->nnc P Γ1 H1 w1 v cv:=fun v cv h=>h.aU E2 hn1;have R2:nng P G Γ1 H1 w1 :=
      { O:=fun i g e cells hi=>by
          by_cases hii:i=s.H.C
          · simp only[H1]at hi;rw[W8 hii]at hi;simp at hi
          · rw[hH1 i hii]at hi;have h:=R0.O i g e cells hi;rw[hΓ1 i hii];cases hΓ:Γ i with
            |none=>rw[hΓ]at h;exact h
            |some y =>
              obtain⟨b,base,m⟩:=y;rw[hΓ]at h;obtain⟨c,a1,a2,a3,a4⟩:=h;exact⟨c,by rw[hk1 b (R0.lt _ _ _ _ hΓ)];exact a1,a2,a3,fun j hj=>let ⟨cv,b1,b2⟩:=a4 j hj;⟨cv,b1,tr _ _ b2⟩⟩
        loop:=fun i st2 pend2 n2 env2 ps2 asg2 body2 hi=>by
          by_cases hii:i=s.H.C
          · simp only [H1] at hi;rw [W8 hii] at hi;simp only [Option.some.injEq,Blk.loop.injEq] at hi;obtain ⟨rfl,rfl,rfl,rfl,rfl,rfl,rfl⟩:=hi;refine ⟨w0.heap.size,rec',by simp only [Γ1];rw [W8 hii],hget1,rfl,rfl,rfl,rfl,rfl,hs.size,fun t ht=>?_⟩;have:=((hs.env t).aU E0 aaz).aU E2 hn1;have e1 : a.tmps.getD t undef=a.tmps[t]'ht:=by
              have:t<a.tmps.size:=ht;simp[this]
            rw[e1]at this;exact this
          · rw[hH1 i hii]at hi;obtain⟨b2,r2,a1,a2,a3,a4,a5,a6,a7,a8,a9⟩:=R0.loop i _ _ _ _ _ _ _ hi;exact⟨b2,r2,by rw[hΓ1 i hii];exact a1,by rw[hk1 b2 (R0.lt _ _ _ _ a1)];exact a2,a3,a4,a5,a6,a7,a8,fun t ht=>tr _ _ (a9 t ht)⟩
        mp:=fun i es hi=>by
          by_cases hii:i=s.H.C
          · simp only[H1]at hi;rw[W8 hii]at hi;simp at hi
          · rw[hH1 i hii]at hi;obtain⟨b2,a1,a2⟩:=R0.mp i _ hi;exact⟨b2,by rw[hΓ1 i hii];exact a1,by rw[hk1 b2 (R0.lt _ _ _ _ a1)];exact a2⟩
        nj:=fun i hi=>by
          by_cases hii:i=s.H.C
          · simp only[H1]at hi;rw[W8 hii]at hi;simp at hi
          · rw[hH1 i hii]at hi;rw[hΓ1 i hii];exact R0.nj i hi
        inj:=fun i i' b base m base' m' h h'=>by
          by_cases h1:i=s.H.C
          · by_cases h2:i'=s.H.C
            · rw[h1,h2]
            · rw[hΓ1 i' h2]at h';simp only[Γ1]at h;rw[W8 h1]at h;simp only[Option.some.injEq,Prod.mk.injEq]at h;have:=R0.lt _ _ _ _ h';omega
          · by_cases h2:i'=s.H.C
            · rw[hΓ1 i h1]at h;simp only[Γ1]at h';rw[W8 h2]at h';simp only[Option.some.injEq,Prod.mk.injEq]at h';have:=R0.lt _ _ _ _ h;omega
            · rw[hΓ1 i h1]at h;rw[hΓ1 i' h2]at h';exact R0.inj _ _ _ _ _ _ _ h h'
        nB:=fun i x hi=>by
          by_cases hii:i=s.H.C
          · simp only[H1];rw[W8 hii];exact⟨_,rfl⟩
          · rw[hΓ1 i hii]at hi;rw[hH1 i hii];exact R0.nB i x hi
        lt:=fun i b base m hi=>by
          by_cases hii:i=s.H.C
          · simp only[Γ1]at hi;rw[W8 hii]at hi;simp only[Option.some.injEq,Prod.mk.injEq]at hi;omega
          · rw[hΓ1 i hii]at hi;have:=R0.lt _ _ _ _ hi;omega
        C:=fun i y hi=>by
          by_cases hii:i=s.H.C
          · show i<s.H.C+1;omega
          · rw[hH1 i hii]at hi;have:=R0.C i y hi;show i<s.H.C+1;omega
        nz:=fun g cells h=>tr _ _ (R0.nz g cells h)
        nN:=R0.nK E2 }
    have E3:Evo Γ s.H w Γ1 H1 w1:=E0.trans aaz E2;generalize hcg:a.eval g=cg at he;cases he with
    | @nb _ _ _ fs cs hfs hcs hf hc =>
      obtain⟨⟨fn',hfn',hb',hname'⟩,hcall⟩:=hcall;have hyld:nnc P Γ1 H1 w1 (.nk s.H.C) (.func (.yield w0.heap.size) #[] #[]) :=
        .nk ⟨X6 _,rfl,by simp[H1],fun st pend n env ps asg body hgi=>⟨w0.heap.size,by simp[Γ1],rfl⟩,fun es hgi=>by simp[H1]at hgi⟩
      have hargs:cU P Γ1 H1 w1 (first++[.nk s.H.C]++cap) (fs.toArray++#[.func (.yield w0.heap.size) #[] #[]]++cs.toArray):=by
        refine tX (tX ⟨by simpa using hfs,fun i h1 h2=>?_⟩ ⟨rfl,fun i h1 h2=>?_⟩) ⟨by simpa using hcs,fun i h1 h2=>?_⟩
        · exact(by simpa using hf i h1 (by simpa using h2):nnc P Γ s.H w first[i] (fs.toArray[i])).aU E3 hn1
        · have:i=0:=(by simp at h1;omega);subst this;exact hyld
        · exact(by simpa using hc i h1 (by simpa using h2):nnc P Γ s.H w cap[i] (cs.toArray[i])).aU E3 hn1
      refine⟨w0.heap.size,mark,w1,{ target:=.fn (.func f) cs.toArray,args:=fs.toArray++#[.func (.yield w0.heap.size) #[] #[]] },w1,f,fs.toArray++#[.func (.yield w0.heap.size) #[] #[]]++cs.toArray,w1,hent,?_,fun _ _=>trivial,?_,fun hc=>by simp[Fence.wide]at hc,?_⟩
      · have hm:Array.map a.eval #[Operand.const (.func (.yield w0.heap.size) #[] #[])]=#[.func (.yield w0.heap.size) #[] #[]]:=(by simp[Act.eval]);unfold resolve;simp only[hcg,hm];rfl
      · show (callFunc f (fs.toArray++#[.func (.yield w0.heap.size) #[] #[]]++cs.toArray)).run P w1=_;unfold callFunc;rw[ao (run_program P w1)];simp only[hfn'];rw[hname',hb'];rfl
      · have h4 : CallsIn (da rb) 0 P f (fs.toArray++#[.func (.yield w0.heap.size) #[] #[]]++cs.toArray) w1 _:=hcall Γ1 w1 _ R2 hargs;refine h4.mono ?_;rintro e w3 ⟨r,H',Γ',hend,hk,R',E',hn'⟩;have E5 : Evo Γ s.H w Γ' H' w3:=E3.trans hn1 E';have hn5 : s.H.C≤H'.C:=XN hn1 hn';have mkS : ∀ (H'' : nnl) (w4 : World),nng P G Γ' H'' w4→Evo Γ s.H w Γ' H'' w4→Evo Γ s.H w0 Γ' H'' w4→s.H.C≤H''.C→nnr P G n wb Γ' ⟨s.ρ,H''⟩ { a with defers:=mark++a.defers } w4 :=
          fun H'' w4 R'' E'' E0'' hn''=>⟨hs.size,fun t=>(hs.env t).aU E'' hn'',R'',hdef.aU E0'',XN hs.low E''.size⟩
        cases e with
        |returned cv =>
          cases r with
          |panic=>exact hend.elim
          |ret v =>
            obtain⟨hri,pb,hpb,hj⟩:=hk;obtain⟨st,pend,n2,env2,ps2,asg2,body2,hgl,hbusy,rfl⟩:=ML hpb;obtain⟨b,r2,hΓb,hb,l1,l2,l3,l4,l5,l6,l7,lset⟩:=uo R' hgl;obtain⟨R6,E6⟩:=lset .exhausted r2.pending;have hbl:b=w0.heap.size:=by
              obtain⟨x,hx,hle⟩:=E'.na s.H.C (X6 _) (Xd (X6 _) hn') _ hgl;have hx':H1.get s.H.C=some (.loop .ready none n s.ρ ps asg body):=(by simp[H1]);rw[hx']at hx;cases hx;have h1:=hle.1;rw[hΓb]at h1;simp only[Γ1,if_true,Option.some.injEq,Prod.mk.injEq]at h1;exact h1.1
            subst hbl;have hend':=MI (P:=P) hb (by rw[l1];exact hbusy);rw[l2]at R6 E6 hend';refine⟨pend,_,hend',?_⟩;have E7:=E5.trans hn5 E6;have hS:=mkS _ _ R6 E7 ((E2.trans hn1 E').trans hn5 E6) hn5;have hri':eS (H'.upd s.H.C (.loop .exhausted pend n2 env2 ps2 asg2 body2)) rd:=by
              cases rd with
              |none=>trivial
              |some i =>
                obtain⟨st3,pend3,n3,env3,ps3,asg3,body3,h3⟩:=hri;by_cases hii:i=s.H.C
                · exact⟨_,_,_,_,_,_,_,by rw[ae,W8 hii]⟩
                · exact⟨_,_,_,_,_,_,_,by rw[ae,W7 hii];exact h3⟩
            have hR:=hr.aU E7 hn5 hs.heap hri';have post:∀(e:Exit) (x:AX),x9 e x->Q x ⟨s.ρ,H'.upd s.H.C (.loop .exhausted pend n2 env2 ps2 asg2 body2)⟩->fN P G n wb rd rb (wr (.rangeFunc g ps asg body)) Γ s.H a w Q e { a with defers:=mark++a.defers } _ :=
              fun e x hx hq=>⟨x,_,Γ',hx,hq,hS,E7,hn5,hR,fun t _=>rfl⟩
            simp only at hj;cases pend with
            |none=>exact post .normal .normal trivial hj
            |some c =>
              cases c with
              |ret=>exact wpIn_ret (post .ret .ret trivial hj)
              |exit i=>exact wpIn_exit (post (.exit i) (.exit i) rfl hj)
              |goto i=>exact wpIn_goto (post (.goto i) (.goto i) rfl hj)
              |_=>exact hj.elim
        |panicked chain =>
          cases r with
          |ret v=>exact hend.elim
          |panic =>
            exact⟨.panic,_,Γ',hend,hk.2,mkS _ _ R' E5 (E2.trans hn1 E') hn5,E5,hn5,hr.aU E5 hn5 hs.heap hk.1,fun t _=>rfl⟩
        |outgrown=>cases r<;>exact hend.elim
  cases rb with
  |none =>
    let w0:World:={ w with heap:=w.heap.push (.deferred (some [])) }
    have hk0:∀b,b<w.heap.size->w0.heap[b]?=w.heap[b]?:=fun b hb=>by
      show (w.heap.push _)[b]?=_;rw[Zf,W7 U]
    obtain⟨E0,R0⟩:=yJ (w:=w) (w':=w0) rfl rfl rfl (by simp[w0]) hk0 (fun a _=>pH (o:=.deferred (some [])) rfl (fun _ _ _ h=>by cases h) a) hs.heap;refine key w0 [{ target:=.collected w.heap.size,args:=#[] }] w.heap.size E0 R0 ?_ _ rfl rfl;obtain⟨m,hm,hmk⟩:=hs.defers;refine⟨{ target:=.collected w.heap.size,args:=#[] } :: m,by rw[hm];rfl,fun d hd=>?_,?_⟩
    · simp only[List.mem_cons]at hd;rcases hd with rfl|hd
      · refine⟨w.heap.size,rfl,hs.low,?_,by simp[w0]⟩;rintro⟨i,base,m,hi⟩;have:=hs.heap.lt _ _ _ _ hi;omega
      · obtain⟨r,h1,h2,h3⟩:=hmk.1 d hd;exact⟨r,h1,h2,h3.aU E0⟩
    · refine Y5.2 ⟨fun d hd=>?_,hmk.2⟩;obtain⟨r,h1,h2,h3⟩:=hmk.1 d hd;rw[h1];intro he;simp only[Target.collected.injEq]at he;have h4:=h3.2;rw[<- he,Yq aaz]at h4;cases h4
  |some b0 =>
    have hlr:∃r,w.heap[b0]?=some (.loop r):=by
      cases rd with
      |none=>cases hr
      |some id =>
        obtain⟨b,st,pend,n',env,ps',asg',body',h1,h2,h3⟩:=hr;obtain⟨b',r,h4,h5,_⟩:=hs.heap.loop _ _ _ _ _ _ _ _ h3;rw[h2]at h4;simp only[Option.some.injEq,Prod.mk.injEq]at h4 h1;rw[h1,h4.1];exact⟨r,h5⟩
    obtain⟨r,hlr⟩:=hlr;refine key w [] r.defers (Evo.refl _ _ _) hs.heap (by simpa using hs.defers) _ rfl ?_;show (Instr.enterLoop fn a.tmps ps asg body (some b0)).run P w=_;unfold Instr.enterLoop;simp only[bind_assoc,pure_bind];rw[ao (rX hlr)];rfl
end
end Go.Hx
namespace Go.Hx
variable {P:Program} {G:Nat->Option (List nnn)} {Γ Γ':aA} {H H':nnl} {w w':World}
variable {f:FuncId}{args args':List nnn}{v':nnn}
def cw:nnl:=⟨fun _=>none,0⟩
inductive nns (H:nnl):nnn->nnn->Prop
 |lit (v:Value):nns H (.lit v) (.lit v)
 |nil:nns H (.lit (.slice none 0 0)) (.L 0 [])
 |nu:nns H (.L 0 []) (.L 0 [])
 |agg {c c':List nnn} (hl:c'.length=c.length) (h:∀i (h:i<c.length) (h':i<c'.length),nns H c[i] c'[i]):nns H (.agg c) (.agg c')
 |nc {c c':List nnn} (hl:c'.length=c.length) (h:∀i (h:i<c.length) (h':i<c'.length),nns H c[i] c'[i]):nns H (.nc c) (.nc c')
 |Z {id g o l z:Nat} {e:TypeId} {cells c':List nnn} (hg:H.get id=some (.O g e cells)) (hl:c'.length=l*z)
   (h:∀i (h:i<l*z) (h2:o+i<cells.length) (h':i<c'.length),nns H cells[o+i] c'[i]):nns H (.Z id g o l z) (.L l c')
def nns.sound (R:nng P G Γ' H' w){N:Nat}(h1:∀b,Γ'.dD b->N<=b)(h2:∀b,Γ.dD b->b<N){v:nnn}(hf:nns H' v v'):∀ {cv:Value},nnc P Γ' H' w v cv->nnc P Γ H w v' cv:=by
 induction hf with
 |lit v=>intro cv h;cases h;exact .lit _
 |nil=>intro cv h;cases h;exact .nu none 0
 |nu =>
  intro cv h;cases h with
  |nu a cap=>exact .nu a cap
  |L hb hlt hlen hcs hcell hrel=>exact .nu _ _
 |agg hl hc ih =>
  intro cv h;cases h with
  |agg hcs hrel=>exact .agg U fun i a b=>ih i U a (hrel i U b)
 |nc hl hc ih =>
  intro cv h;cases h with
  |nc hcs hrel=>exact .nc U fun i a b=>ih i U a (hrel i U b)
 | @Z id g o l z e cells c' hg hl hc ih =>
  intro cv h;cases h with
  |Z h =>
   obtain⟨_,_,h0,h3⟩:=h;have h4:=(h3 _ _ _ hg).2 rfl;have harr:=R.O id g e cells hg;cases hΓ:Γ' id with
   |none =>
    rw[hΓ]at h4;obtain⟨rfl,rfl,rfl⟩:=h4;have:c'=[]:=Xc (by simpa using hl);subst this;exact .nu _ _
   |some y =>
    obtain⟨b,base,n⟩:=y;rw[hΓ]at h4 harr;obtain⟨a,cap,rfl,hcap,hoff,hor⟩:=h4;obtain⟨c,a1,a2,a3,a4⟩:=harr;rcases hor with ⟨rfl,hn⟩|⟨rfl,rfl⟩
    ·have hcell:∀i,i<l*z->∃cv,c[base+(o+i)]?=some cv/\∀(h:o+i<cells.length),nnc P Γ' H' w cells[o+i] cv:=fun i hi=>by
      obtain⟨cv,b1,b2⟩:=a4 (o+i) U;exact⟨cv,b1,fun _=>b2⟩
     let cs:List Value:=(List.range (l*z)).map fun i=>(c[base+(o+i)]?).getD undef
     have hcs:cs.length=c'.length:=(by simp[cs,hl]);refine .L (cs:=cs) (fun ho=>?_) (R.lt _ _ _ _ hΓ) hcap hcs (fun i hi=>?_) fun i hi hi'=>?_
     ·have:=h2 b ho;have:=h1 b ⟨id,base,n,hΓ⟩;omega
     ·have hi2:i<l*z:=(by rw[hcs,hl]at hi;exact hi);obtain⟨cv,b1,_⟩:=hcell i hi2;have:cs[i]=cv:=(by simp[cs,b1]);rw[this];have he:base+o+i=base+(o+i):=U;simp only[World.cell?,a1,he];exact b1
     ·have hi2:i<l*z:=(by rw[hl]at hi;exact hi);obtain⟨cv,b1,b2⟩:=hcell i hi2;have:cs[i]=cv:=(by simp[cs,b1]);rw[this];exact ih i hi2 U hi (b2 U)
    ·have:c'=[]:=Xc (by simpa using hl);subst this;exact .nu _ _
def Jk (H:nnl):FzH (fun _=>True) H cw:=⟨fun _ _=>rfl,fun _ _ h=>absurd trivial h,fun _ h=>absurd trivial h⟩
def Bu (b:Nat):¬(dP (fun _=>True) Γ).dD b:=by
 rintro⟨id,base,n,h⟩;exact(ji h).1 trivial
def rO (o:Option nnn)(r:nnf)(H':nnl):Prop:=match o with
 |some v'=>∃v,r=.ret v/\nns H' v v'
 |none=>r=.panic
def Bv:Option nnn->nnf
 |some v=>.ret v
 |none=>.panic
def af.xT {o:Option nnn}(hG:dS G)(hl:args'.length=args.length)(hv:∀i (h:i<args.length) (h':i<args'.length),Fz (fun _=>True) H 0 args[i] args'[i])
  (h:af P G f args' cw (rO o)):af P G f args H fun r H'=>r=Bv o/\H'=H:=by
 refine⟨h.1,fun Γ w cargs R hr=>?_⟩;have F:=Jk H;have R0:nng P G (dP (fun _=>True) Γ) cw w:=F.rel hG R;have hr0:cU P (dP (fun _=>True) Γ) cw w args' cargs:=⟨by have:=hr.1;omega,fun i h1 h2=>(hv i U h1).sound R F (hr.2 i U h2)⟩
 refine(h.2 _ w cargs R0 hr0).mono ?_;rintro e w' ⟨r,H',Γ',hend,hg,R',E,hn⟩;have hown:∀b,Γ'.dD b->w.heap.size<=b:=fun b hb=>ZG fun hlt=>(E.nf b hlt (Bu b)).2 hb;have hown2:∀b,Γ.dD b->b<w.heap.size:=fun b ⟨id,base,n,hb⟩=>R.lt _ _ _ _ hb;obtain⟨E2,R2⟩:=yJ E.os E.tape E.output E.size (fun b hb=>(E.nf b hb (Bu b)).1) E.nq R;refine⟨Bv o,H,Γ,?_,⟨rfl,rfl⟩,R2,E2,aaz⟩;cases o with
 |some v' =>
  obtain⟨v,rfl,hf⟩:=hg;cases e with
  |returned cv=>exact hf.sound R' hown hown2 hend
  |_=>exact hend.elim
 |none =>
  have hg':r=.panic:=hg;subst hg';cases e with
  |panicked chain=>exact hend
  |_=>exact hend.elim
def af.frame (hG:dS G)(hl:args'.length=args.length)(hv:∀i (h:i<args.length) (h':i<args'.length),Fz (fun _=>True) H 0 args[i] args'[i])
  (h:af P G f args' cw fun r H'=>∃v,r=.ret v/\nns H' v v'):af P G f args H fun r H'=>r=.ret v'/\H'=H:=af.xT (o:=some v') hG hl hv h
end Go.Hx
namespace Go.Hx
variable {P:Program} {G:Nat->Option (List nnn)} {Γ Γ':aA} {H H':nnl} {w w':World}
variable {g id:Nat}{e:TypeId}{v':nnn}
inductive nny (lo:Nat)(H:nnl):nnn->nnn->Prop
  |lit (v:Value):nny lo H (.lit v) (.lit v)
  |nil:nny lo H (.lit (.slice none 0 0)) (.L 0 [])
  |nu:nny lo H (.L 0 []) (.L 0 [])
  |agg {c c':List nnn} (hl:c'.length=c.length) (h:∀i (h:i<c.length) (h':i<c'.length),nny lo H c[i] c'[i]):nny lo H (.agg c) (.agg c')
  |nc {c c':List nnn} (hl:c'.length=c.length) (h:∀i (h:i<c.length) (h':i<c'.length),nny lo H c[i] c'[i]):nny lo H (.nc c) (.nc c')
  | Z {id g o l z : Nat} {e : TypeId} {cells c' : List nnn} (hlo : lo≤id) (hg : H.get id=some (.O g e cells)) (hl : c'.length=l*z)
      (h:∀i (h:i<l*z) (h2:o+i<cells.length) (h':i<c'.length),nny lo H cells[o+i] c'[i]):nny lo H (.Z id g o l z) (.L l c')
def nny.sound (R:nng P G Γ' H' w){N lo:Nat}(h1:∀id b x y,lo<=id->Γ' id=some (b,x,y)->N<=b)(h2:∀b,Γ.dD b->b<N){v:nnn}(hf:nny lo H' v v'):∀ {cv:Value},nnc P Γ' H' w v cv->nnc P Γ H w v' cv:=by
  induction hf with
  |lit v=>intro cv h;cases h;exact .lit _
  |nil=>intro cv h;cases h;exact .nu none 0
  |nu =>
    intro cv h;cases h with
    |nu a cap=>exact .nu a cap
    |L hb hlt hlen hcs hcell hrel=>exact .nu _ _
  |agg hl hc ih =>
    intro cv h;cases h with
    |agg hcs hrel=>exact .agg U fun i a b=>ih i U a (hrel i U b)
  |nc hl hc ih =>
    intro cv h;cases h with
    |nc hcs hrel=>exact .nc U fun i a b=>ih i U a (hrel i U b)
  | @Z id g o l z e cells c' hlo hg hl hc ih =>
    intro cv h;cases h with
    |Z h =>
      obtain⟨_,_,h0,h3⟩:=h;have h4:=(h3 _ _ _ hg).2 rfl;have harr:=R.O id g e cells hg;cases hΓ:Γ' id with
      |none =>
        rw[hΓ]at h4;obtain⟨rfl,rfl,rfl⟩:=h4;have:c'=[]:=Xc (by simpa using hl);subst this;exact .nu _ _
      |some y =>
        obtain⟨b,base,n⟩:=y;have hNb:=h1 id b base n hlo hΓ;rw[hΓ]at h4 harr;obtain⟨a,cap,rfl,hcap,hoff,hor⟩:=h4;obtain⟨c,a1,a2,a3,a4⟩:=harr;rcases hor with ⟨rfl,hn⟩|⟨rfl,rfl⟩
        · have hcell : ∀ i,i<l*z→∃ cv,c[base+(o+i)]?=some cv∧∀ (h : o+i<cells.length),nnc P Γ' H' w cells[o+i] cv:=fun i hi=>by
            obtain⟨cv,b1,b2⟩:=a4 (o+i) U;exact⟨cv,b1,fun _=>b2⟩
          let cs:List Value:=(List.range (l*z)).map fun i=>(c[base+(o+i)]?).getD undef
          have hcs:cs.length=c'.length:=(by simp[cs,hl]);refine .L (cs:=cs) (fun ho=>?_) (R.lt _ _ _ _ hΓ) hcap hcs (fun i hi=>?_) fun i hi hi'=>?_
          · have:=h2 b ho;omega
          · have hi2:i<l*z:=(by rw[hcs,hl]at hi;exact hi);obtain⟨cv,b1,_⟩:=hcell i hi2;have:cs[i]=cv:=(by simp[cs,b1]);rw[this];have he:base+o+i=base+(o+i):=U;simp only[World.cell?,a1,he];exact b1
          · have hi2:i<l*z:=(by rw[hl]at hi;exact hi);obtain⟨cv,b1,b2⟩:=hcell i hi2;have:cs[i]=cv:=(by simp[cs,b1]);rw[this];exact ih i hi2 U hi (b2 U)
        · have:c'=[]:=Xc (by simpa using hl);subst this;exact .nu _ _
def pT (H:nnl)(id:Nat):nnl:=⟨fun j=>if j=id then H.get id else none,H.C⟩
def xS (H:nnl)(id:Nat):(pT H id).get id=H.get id:=W8 rfl
def Jj (hg:H.get id=some (.O g e []))(hid:id<H.C):FzH (fun j=>j≠id) H (pT H id) where
  gone j hj:=W7 hj
  kept j b hj hb:=by
    have hji:j=id:=Z0.1 hj;subst hji;refine⟨hid,b,by rw[xS];exact hb,?_⟩;rw[hg]at hb;cases hb;exact⟨rfl,rfl,rfl,fun i h=>absurd h (Xo _)⟩
  none j hj hn:=by
    have hji:j=id:=Z0.1 hj;subst hji;rw[xS];exact hn
def af.hole {f:FuncId}{args args':List nnn}(hG:dS G)(hg:H.get id=some (.O g e []))(hid:id<H.C)(hl:args'.length=args.length)
    (hv:∀i (h:i<args.length) (h':i<args'.length),Fz (fun j=>j≠id) H H.C args[i] args'[i])
    (h:af P G f args' (pT H id) fun r H'=>∃v,r=.ret v/\nny H.C H' v v'):af P G f args H fun r H'=>r=.ret v'/\H'=H:=by
  refine⟨h.1,fun Γ w cargs R hr=>?_⟩;have F:=Jj hg hid;have R0:nng P G (dP (fun j=>j≠id) Γ) (pT H id) w:=F.rel hG R;have hr0:cU P (dP (fun j=>j≠id) Γ) (pT H id) w args' cargs:=⟨by have:=hr.1;omega,fun i h1 h2=>(hv i U h1).sound R F (hr.2 i U h2)⟩
  refine(h.2 _ w cargs R0 hr0).mono ?_;rintro e' w' ⟨r,H',Γ',hend,⟨v,rfl,hf⟩,R',E,hn⟩;have only:∀j x,dP (fun j=>j≠id) Γ j=some x->j=id/\Γ id=some x:=fun j x hj=>by
    obtain⟨h1,h2⟩:=ji hj;have hji:j=id:=Z0.1 h1;subst hji;exact⟨rfl,h2⟩
  have same:∀b,b<w.heap.size->(∀base n,Γ id≠some (b,base,n))->w'.heap[b]?=w.heap[b]?:=fun b hb hno=>(E.nf b hb fun ⟨j,base,n,hj⟩=>hno base n (only j _ hj).2).1;have E2:Evo Γ H w Γ H w':=⟨E.os,E.tape,E.output,E.size,fun b hb ho=>⟨same b hb fun base n h=>ho ⟨id,base,n,h⟩,ho⟩,fun _ _ _ x' hx=>⟨x',hx,Blk.le_refl _ _ _⟩,E.nq,E.kind,.refl _ _⟩
  have other:∀j b base n,Γ j=some (b,base,n)->j≠id->w'.heap[b]?=w.heap[b]?:=fun j b base n hj hji=>same b (R.lt _ _ _ _ hj) fun base' n' h=>hji (R.inj _ _ _ _ _ _ _ hj h);have R2:nng P G Γ H w' :=
    { O:=fun j g1 e1 cells h1=>by
        have h2:=R.O j g1 e1 cells h1;cases hΓ:Γ j with
        |none=>rw[hΓ]at h2;exact h2
        |some y =>
          obtain⟨b,base,n⟩:=y;rw[hΓ]at h2;obtain⟨c,a1,a2,a3,a4⟩:=h2;by_cases hji:j=id
          · subst hji;rw[hg]at h1;cases h1;obtain⟨c',b1,b2⟩:=E.kind b c e (0,0) a1;exact⟨c',b1,b2.trans a2,a3,fun i hi=>absurd hi (Xo _)⟩
          · exact⟨c,by rw[other j b base n hΓ hji];exact a1,a2,a3,fun i hi=>let ⟨cv,b1,b2⟩:=a4 i hi;⟨cv,b1,b2.aU E2 aaz⟩⟩
      loop:=fun j st pend n env ps asg body h1=>by
        have hji:j≠id:=fun h=>by rw[h,hg]at h1;cases h1
        obtain⟨b,rr,a1,a2,a3,a4,a5,a6,a7,a8,a9⟩:=R.loop j st pend n env ps asg body h1;exact⟨b,rr,a1,by rw[other j b 0 0 a1 hji];exact a2,a3,a4,a5,a6,a7,a8,fun t ht=>(a9 t ht).aU E2 aaz⟩
      mp:=fun j es h1=>by
        have hji:j≠id:=fun h=>by rw[h,hg]at h1;cases h1
        obtain⟨b,a1,a2⟩:=R.mp j es h1;exact⟨b,a1,by rw[other j b 0 0 a1 hji];exact a2⟩
      nj:=R.nj
      inj:=R.inj
      nB:=R.nB
      lt:=fun j b base n h=>Xd (R.lt j b base n h) E.size
      C:=R.C
      nz:=fun g cells h=>(R.nz g cells h).aU E2 (Nat.le_refl _)
      nN:=R.nK E2 }
  refine⟨.ret v',H,Γ,?_,⟨rfl,rfl⟩,R2,E2,aaz⟩;cases e' with
  |returned cv =>
    refine nny.sound (N:=w.heap.size) R' (fun j b x y hj hb=>?_) (fun b ⟨j,base,n,hb⟩=>R.lt _ _ _ _ hb) hf hend;refine ZG fun hlt=>?_;obtain⟨x',y',h3⟩:=E.nL j b x y hb hlt;have:=(only j _ h3).1;omega
  |_=>exact hend.elim
end Go.Hx
namespace Go.Hx.Ev
open Go.Hx
variable {P:Program} {G:Nat->Option (List nnn)} {Γ Γ':aA} {H H':nnl} {w w':World}
variable {r:Nat}{e g:Nat->Option Blk}
def bK (e g:Nat->Option Blk):Nat->Option Blk:=fun j=>match e j with
 |some b=>some b
 |none=>g j
def mu (e:Option (Nat × Blk)):Nat->Option Blk:=fun j=>match e with
 |some (k,b)=>if j=k then some b else none
 |none=>none
def Bq (e:Option (Nat × Blk))(g:Nat->Option Blk):bK (mu e) g=dO e g:=by
 funext j
 cases e with
 |none=>rfl
 |some kb =>
  obtain⟨k,b⟩:=kb;simp only[bK,mu,dO];by_cases h:j=k
  ·rw[W8 h,W8 h]
  ·rw[W7 h,W7 h]
def jg (P:Program)(G:Nat->Option (List nnn))(fv:nnn)(args:List nnn)(H:nnl)(v:nnn)(e:Nat->Option Blk)(k:Nat)(f:FP):Prop :=
 (∀r,r∈f.rs->r<H.C)/\(∀r,(e r).isSome=true->r∈f.nw/\((r∈f.rs/\∃g t c,H.get r=some (.O g t c))\/(H.C<=r/\r<H.C+k)))/\(∀c,c<k->(e (H.C+c)).isSome=true) /\
 ∀H2:nnl,(∀r,r∈f.rs->H2.get r=H.get r)->(∀c,c<k->H2.get (H.C+c)=some .nj)->H.C+k<=H2.C->aC P G fv args H2 fun r H3=>r=.ret v/\H3=⟨bK e H2.get,H2.C⟩
def bA (P:Program)(G:Nat->Option (List nnn))(o:Oper)(K:FP->St->Prop)(s:St):Prop :=
 match o.op with
 |.call { callee:=.value fv,args,.. }=>∃v e k f,jg P G (ak G s.ρ fv) (args.toList.map (ak G s.ρ)) s.H v e k f/\K f ⟨aF s.ρ o.dst v,⟨bK e s.H.get,s.H.C+k⟩⟩
 |op=>bd (aj P G s.ρ s.H s.H.C op) fun vH=>K (bz P G s.ρ s.H.C op) ⟨aF s.ρ o.dst vH.1,vH.2⟩
def cZ (P:Program)(G:Nat->Option (List nnn))(all:Array Oper)(tail:St->Prop):List Nat->Nat->List (Nat × FP)->List Oper->St->Prop
 |b :: bs,i,acc,o :: rest,s=>bd (eH all s.ρ o) fun t=>if t=true then bA P G o (fun f s'=>fP b f acc/\cZ P G all tail bs (i+1) (dH i f acc) rest s') s
   else cZ P G all tail bs (i+1) acc rest ⟨aF s.ρ o.dst (.lit undef),s.H⟩
 |_,_,_,[],s=>tail s
 | [],_,_,_ :: _,_=>False
structure Dt where
 v:nnn
 e:Nat->Option Blk
 al:Nat
 f:FP
def bf (all:Array Oper)(d:Nat->Dt)(ρ0:Env):Nat->(Nat->Bool)->Env
 |0,_=>ρ0
 |n+1,D=>if D n then aF (bf all d ρ0 n D) (fG all n) (d n).v else bf all d ρ0 n D
def aX (d:Nat->Dt)(g0:Nat->Option Blk):Nat->(Nat->Bool)->Nat->Option Blk
 |0,_=>g0
 |n+1,D=>if D n then bK (d n).e (aX d g0 n D) else aX d g0 n D
def aJ (d:Nat->Dt):Nat->Nat
 |0=>0
 |n+1=>aJ d n+(d n).al
def dv (x:Dt)(r:Nat):Prop:=(x.e r).isSome=true
def mv (h:¬(e r).isSome=true):bK e g r=g r:=by
 unfold bK;cases he:e r with
 |none=>rfl
 |some b=>rw[he]at h;exact absurd rfl h
def Br {g':Nat->Option Blk}(h:(e r).isSome=true):bK e g r=bK e g' r:=by
 unfold bK;cases he:e r with
 |none=>rw[he]at h;cases h
 |some b=>rfl
def xC {g':Nat->Option Blk}(h:g r=g' r):bK e g r=bK e g' r:=by
 unfold bK;rw[h]
def Jc {e':Nat->Option Blk}(h:∀r,(e r).isSome=true->¬(e' r).isSome=true):bK e' (bK e g)=bK e (bK e' g):=by
 funext r
 by_cases hx:(e r).isSome=true
 ·rw[mv (h r hx)];exact Br hx
 ·rw[mv (g:=bK e' g) hx];exact xC (mv hx)
section
variable {all:Array Oper} {d d':Nat->Dt} {ρ0:Env} {g0 g0':Nat->Option Blk} {D D':Nat->Bool}
def nP {t:Tmp}:∀ {n:Nat},(∀j,j<n->fG all j=some t->D j=D' j)->bf all d ρ0 n D t=bf all d ρ0 n D' t:=by
 intro n
 induction n with
 |zero=>intro _;rfl
 |succ n ih =>
  intro h;have h0:=ih fun j hj=>h j U;simp only[bf];by_cases hd:fG all n=some t
  ·rw[h n U hd];split
   ·exact uc h0
   ·exact h0
  ·have:∀(b:Bool) (ρ:Env),(if b=true then aF ρ (fG all n) (d n).v else ρ) t=ρ t:=by
    intro b ρ;split
    ·exact qc hd
    ·rfl
   rw[this,this];exact h0
def xD {m:Nat}:∀ {n:Nat},m<=n->bf all d ρ0 n (fun j=>decide (j<m))=bf all d ρ0 m fun _=>true:=by
 have low:∀k,k<=m->bf all d ρ0 k (fun j=>decide (j<m))=bf all d ρ0 k fun _=>true:=by
  intro k
  induction k with
  |zero=>intro _;rfl
  |succ k ih =>
   intro hk;simp only[bf];rw[ih U,W8 (by simp;omega)];simp
 intro n
 induction n with
 |zero =>
  intro hm;obtain rfl:m=0:=U
  exact low 0 (U)
 |succ n ih =>
  intro hm;by_cases h:m=n+1
  ·subst h;exact low (n+1) (U)
  ·simp only[bf];rw[W7 (by simp;omega)];exact ih (U)
def nS {r:Nat}:∀ {n:Nat},(∀j,j<n->dv (d j) r->D j=D' j)->aX d g0 n D r=aX d g0 n D' r:=by
 intro n
 induction n with
 |zero=>intro _;rfl
 |succ n ih =>
  intro h;have h0:=ih fun j hj=>h j U;simp only[aX];by_cases hd:dv (d n) r
  ·rw[h n U hd];split
   ·exact xC h0
   ·exact h0
  ·have:∀(b:Bool) (g:Nat->Option Blk),(if b=true then bK (d n).e g else g) r=g r:=by
    intro b g;split
    ·exact mv hd
    ·rfl
   rw[this,this];exact h0
def xE {m:Nat}:∀ {n:Nat},m<=n->aX d g0 n (fun j=>decide (j<m))=aX d g0 m fun _=>true:=by
 have low:∀k,k<=m->aX d g0 k (fun j=>decide (j<m))=aX d g0 k fun _=>true:=by
  intro k
  induction k with
  |zero=>intro _;rfl
  |succ k ih =>
   intro hk;simp only[aX];rw[ih U,W8 (by simp;omega)];simp
 intro n
 induction n with
 |zero =>
  intro hm;obtain rfl:m=0:=U
  exact low 0 (U)
 |succ n ih =>
  intro hm;by_cases h:m=n+1
  ·subst h;exact low (n+1) (U)
  ·simp only[aX];rw[W7 (by simp;omega)];exact ih (U)
def rH {r:Nat}:∀ {n:Nat},(g0 r=g0' r\/∃j,j<n/\D j=true/\dv (d j) r)->aX d g0 n D r=aX d g0' n D r:=by
 intro n
 induction n with
 |zero =>
  rintro(h|⟨j,hj,_⟩)
  ·exact h
  ·omega
 |succ n ih =>
  intro h;simp only[aX];by_cases hD:D n=true
  ·rw[W8 hD,W8 hD];by_cases ht:dv (d n) r
   ·exact Br ht
   ·refine xC (ih ?_);rcases h with h|⟨j,hj,h1,h2⟩
    ·exact .inl h
    ·by_cases hjn:j=n
     ·subst hjn;exact absurd h2 ht
     ·exact .inr ⟨j,U,h1,h2⟩
  ·rw[W7 hD,W7 hD];refine ih ?_;rcases h with h|⟨j,hj,h1,h2⟩
   ·exact .inl h
   ·by_cases hjn:j=n
    ·subst hjn;exact absurd h1 hD
    ·exact .inr ⟨j,U,h1,h2⟩
def xF {r:Nat}:∀ {n:Nat},(∀j,j<n->D j=true->¬dv (d j) r)->aX d g0 n D r=g0 r:=by
 intro n
 induction n with
 |zero=>intro _;rfl
 |succ n ih =>
  intro h;simp only[aX];split
  ·rename_i hD;rw[mv (h n U hD)];exact ih fun j hj=>h j (U)
  ·exact ih fun j hj=>h j (U)
def bJ (D:Nat->Bool)(i:Nat):Nat->Bool:=fun j=>if j=i then true else D j
def xG {i:Nat}(hD:D i=false):∀ {n:Nat},i<n->(∀j,i<j->j<n->D j=true->∀t,fG all i=some t->fG all j≠some t) ->
  bf all d ρ0 n (bJ D i)=aF (bf all d ρ0 n D) (fG all i) (d i).v:=by
 intro n
 induction n with
 |zero=>intro h;omega
 |succ n ih =>
  intro hi h;by_cases hin:i=n
  ·subst hin;have h0:bf all d ρ0 i (bJ D i)=bf all d ρ0 i D:=funext fun t=>nP fun j hj _=>by simp[bJ,Zz hj]
   simp only[bf];rw[W8 (by simp[bJ]),W7 (by simp[hD]),h0]
  ·have hw:bJ D i n=D n:=(by simp[bJ,Ne.symm hin]);have h0:=ih U fun j h1 h2=>h j h1 U;simp only[bf,hw];split
   ·rename_i hDn;rw[h0];exact B8 (h n U U hDn)
   ·exact h0
def xH {i:Nat}(hD:D i=false):∀ {n:Nat},i<n->(∀j,i<j->j<n->D j=true->∀t,dv (d i) t->¬dv (d j) t) ->
  aX d g0 n (bJ D i)=bK (d i).e (aX d g0 n D):=by
 intro n
 induction n with
 |zero=>intro h;omega
 |succ n ih =>
  intro hi h;by_cases hin:i=n
  ·subst hin;have h0:aX d g0 i (bJ D i)=aX d g0 i D:=funext fun t=>nS fun j hj _=>by simp[bJ,Zz hj]
   simp only[aX];rw[W8 (by simp[bJ]),W7 (by simp[hD]),h0]
  ·have hw:bJ D i n=D n:=(by simp[bJ,Ne.symm hin]);have h0:=ih U fun j h1 h2=>h j h1 U;simp only[aX,hw];split
   ·rename_i hDn;rw[h0];exact Jc (h n U U hDn)
   ·exact h0
def pR {m n:Nat}(h:m<=n):aJ d m<=aJ d n:=by
 induction n with
 |zero =>
  have:m=0:=U
  subst this;exact Nat.le_refl _
 |succ n ih =>
  by_cases hm:m=n+1
  ·subst hm;exact Nat.le_refl _
  ·exact XN (ih U) (by simp[aJ])
def rI {n c:Nat}(h:c<aJ d n):∃j,j<n/\aJ d j<=c/\c<aJ d j+(d j).al:=by
 induction n with
 |zero=>simp[aJ]at h
 |succ n ih =>
  by_cases hc:c<aJ d n
  ·obtain⟨j,h1,h2⟩:=ih hc;exact⟨j,U,h2⟩
  ·simp only[aJ]at h;exact⟨n,U,U,U⟩
def kG {i n:Nat}(h:i<n):aJ d i+(d i).al<=aJ d n:=by
 have:=pR (d:=d) (m:=i+1) (n:=n) h;simpa only[aJ] using this
def rJ {n:Nat}(h:∀j,j<n->d j=d' j):bf all d ρ0 n D=bf all d' ρ0 n D:=by
 induction n with
 |zero=>rfl
 |succ n ih=>simp only[bf];rw[ih fun j hj=>h j U,h n U]
def rK {n:Nat}(h:∀j,j<n->d j=d' j):aX d g0 n D=aX d' g0 n D:=by
 induction n with
 |zero=>rfl
 |succ n ih=>simp only[aX];rw[ih fun j hj=>h j U,h n U]
def eR {n:Nat}(h:∀j,j<n->d j=d' j):aJ d n=aJ d' n:=by
 induction n with
 |zero=>rfl
 |succ n ih=>simp only[aJ];rw[ih fun j hj=>h j U,h n U]
end
def ExecOk (P:Program)(G:Nat->Option (List nnn))(all:Array Oper)(o:Oper)(id:Nat)(s s':St):Prop :=
 (eH all s.ρ o=some false/\s'=⟨aF s.ρ o.dst (.lit undef),s.H⟩) \/
 (eH all s.ρ o=some true/\∃v,s'.ρ=aF s.ρ o.dst v /\
  (aj P G s.ρ s.H id o.op=some (v,s'.H) \/
   ∃fv args ats,o.op=.call ⟨.value fv,args,ats⟩/\(∀id st pend m env ps asg body,s.H.get id=some (.loop st pend m env ps asg body)->s'.H.get id=s.H.get id)/\aC P G (ak G s.ρ fv) (args.toList.map (ak G s.ρ)) s.H fun r H3=>r=.ret v/\H3=s'.H))
def xI {n:Nat}{wb:nnA}{rd rb:Option Nat}{all:Array Oper}{o:Oper}{id i:Nat}{s s':St}{a:Act}{C:Act->World->Prop}{Q':Exit->Act->World->Prop}(ho:all[i]?=some o)(hd:dM n o=true)
  (hs:nnr P G n wb Γ s a w) (hr:dp Γ s.H rd rb) (h:ExecOk P G all o id s s')
  (hnext:∀ Γ' a' w',nnr P G n wb Γ' s' a' w'->Evo Γ s.H w Γ' s'.H w'->s.H.C<=s'.H.C->dp Γ' s'.H rd rb->(∃cv,a'=a.put o.dst cv)->C a' w'):
  wpOpIn (da rb) 0 P all Q' i C a w:=by
 have hdst:∀d,o.dst=some d->d<n:=by
  intro d hd';unfold dM at hd;rw[hd']at hd;simpa using hd
 unfold wpOpIn;rw[ho];simp only;rcases h with ⟨hw,rfl⟩|⟨hw,v,hρ,h⟩
 ·rw[nW hs hw];simp only[Bool.false_eq_true,if_false];refine⟨fun _ _=>trivial,?_⟩;have hs':=gM (v:=.lit undef) (cv:=undef) hs hdst (Evo.refl Γ s.H w) aaz hs.heap (.lit _);exact hnext Γ _ w hs' (Evo.refl _ _ _) aaz hr ⟨_,rfl⟩
 ·rw[nW hs hw];simp only[if_true];obtain⟨ρ',H'⟩:=s';simp only at hρ;subst hρ;refine⟨fun _ _=>trivial,?_⟩;rcases h with hop|⟨fv,args,ats,hop,hH,hap⟩
  ·simp only at hop;rw[Oper.semAt_eq _ _ _ (fun c hc=>by rw[hc]at hop;simp[aj]at hop)];obtain⟨nx,cv,Γ',w',hrun,hnx,E,hn,R,hv⟩:=x7 hs.heap (ik hs) hop;rw[hrun];have hri:=yb hr (yd hs.heap hop);have hs':=gM hs hdst E hn R hv;have hr':=hr.aU E hn hs.heap hri;rcases hnx with rfl|⟨rfl,rfl⟩
   ·exact hnext Γ' _ w' hs' E hn hr' ⟨_,rfl⟩
   ·exact hnext Γ' _ w' hs' E hn hr' ⟨_,rfl⟩
  ·rw[Oper.semAt_eq _ _ _ (fun c hc=>by rw[hc]at hop;cases hop)];obtain⟨d,h1,h2⟩:=hap Γ w (a.eval fv) (args.map a.eval) hs.heap (ik hs fv) ⟨aaw,fun i h1 h2=>by simp only[Xi,Zb,Ya];exact ik hs _⟩;have hex:(execOp a.eval o).run P w=(invoke d.target d.args).run P w:=by
    unfold execOp;simp only[hop];unfold resolve;simp only;rw[ao h1]
   have hri:eS H' rd:=by
    cases rd with
    |none=>trivial
    |some id =>
     obtain⟨b,st,pend,n,env,ps,asg,body,_,_,h3⟩:=hr;exact⟨_,_,_,_,_,_,_,(hH _ _ _ _ _ _ _ _ h3).trans h3⟩
   have cont:∀e w',eG P G Γ s.H w (fun r H3=>r=.ret v/\H3=H') e w'->(match e with
     |.returned v=>C (a.put o.dst v) w'
     |.panicked chain=>Q' (.panic chain) a w'
     |.outgrown=>LetsOut Q'):=by
    rintro e w' ⟨r,H4,Γ',hend,⟨rfl,rfl⟩,R,E,hn⟩;have hr':=hr.aU E hn hs.heap hri;cases e with
    |returned cv=>exact hnext Γ' _ w' (gM hs hdst E hn R hend) E hn hr' ⟨_,rfl⟩
    |panicked chain=>exact hend.elim
    |outgrown=>exact hend.elim
   rw[hex];rcases h2 with ⟨f,as,h3,h4⟩|⟨l,f,tm,asg,body,h3,h4⟩|⟨cv,w',h3,h4⟩
   ·rw[h3];refine⟨fun hc=>by simp[Fence.wide]at hc,?_⟩;have h4':CallsIn (da rb) 0 P f as w _:=h4;refine h4'.mono ?_;intro e w' hp;have:=cont e w' hp;cases e<;>exact this
   ·rw[h3];refine⟨fun hc=>by simp[Fence.wide]at hc,?_⟩;have h4':RoundIn (da rb) 0 P l f tm asg body w _:=h4;refine h4'.mono ?_;intro e w' hp;have:=cont e w' hp;cases e<;>exact this
   ·rw[h3];exact cont (.returned cv) w' h4
def lG (d:Nat->Dt)(H0:nnl)(m:Nat):nnl:=⟨aX d H0.get m fun _=>true,H0.C+aJ d m⟩
def canon (all:Array Oper)(d:Nat->Dt)(s0:St)(m:Nat):St:=⟨bf all d s0.ρ m fun _=>true,lG d s0.H m⟩
structure nno (P:Program)(G:Nat->Option (List nnn))(all:Array Oper)(bs:List Nat)(s0:St)(d:Nat->Dt)(i:Nat):Prop where
 step:∀o,all[i]?=some o->∀ ρ2 H2,(∀t,t∈o.looksAt all->ρ2 t=(canon all d s0 i).ρ t)->(∀r,r∈(d i).f.rs->H2.get r=(canon all d s0 i).H.get r) ->
  (∀c,c<(d i).al->H2.get (s0.H.C+aJ d i+c)=some .nj)->s0.H.C+aJ d i+(d i).al<=H2.C ->
  ExecOk P G all o (s0.H.C+aJ d i) ⟨ρ2,H2⟩ ⟨aF ρ2 o.dst (d i).v,⟨bK (d i).e H2.get,H2.C⟩⟩
 nw:∀r,dv (d i) r->r∈(d i).f.nw/\(r∈(d i).f.rs\/(s0.H.C+aJ d i<=r/\r<s0.H.C+aJ d i+(d i).al))
 al:∀c,c<(d i).al->dv (d i) (s0.H.C+aJ d i+c)
 lt:∀r,r∈(d i).f.rs->r<s0.H.C+aJ d i
 apart:∀j,j<i->(dw bs i).testBit j=false->(∀r,r∈(d i).f.nw->r ∉ (d j).f.rs)/\(∀r,r∈(d j).f.nw->r ∉ (d i).f.rs)
def bM (d:Nat->Dt)(m:Nat)(x:Dt):Nat->Dt:=fun j=>if j=m then x else d j
def fM {d:Nat->Dt}{m:Nat}{x:Dt}{i:Nat}(h:i<m):d i=bM d m x i:=by simp[bM,Zz h]
def cJ {d:Nat->Dt}{m:Nat}{x:Dt}:bM d m x m=x:=by simp[bM]
def lH {all:Array Oper}{d d':Nat->Dt}{s0:St}{m:Nat}(h:∀j,j<m->d j=d' j):canon all d s0 m=canon all d' s0 m:=by
 unfold canon lG;rw[rJ h,rK h,eR h]
def nno.below {all:Array Oper}{bs:List Nat}{s0:St}{d d':Nat->Dt}{i:Nat}(g:nno P G all bs s0 d i)(h:∀j,j<=i->d j=d' j):nno P G all bs s0 d' i:=by
 have hi:=h i aaz;have hn:aJ d i=aJ d' i:=eR fun j hj=>h j U;have hc:canon all d s0 i=canon all d' s0 i:=lH fun j hj=>h j U;obtain⟨a,b,c,e,f⟩:=g;refine⟨?_,?_,?_,?_,?_⟩
 ·rw[<- hi,<- hn,<- hc];exact a
 ·rw[<- hi,<- hn];exact b
 ·rw[<- hi,<- hn];exact c
 ·rw[<- hi,<- hn];exact e
 ·intro j hj hb;rw[<- hi,<- h j U];exact f j hj hb
def jJ (d:Nat->Dt)(m:Nat)(acc:List (Nat × FP)):Prop:=∀j,j<m->(d j).f=⟨[],[]⟩\/(j,(d j).f)∈acc
def jJ.add {d:Nat->Dt}{m:Nat}{acc:List (Nat × FP)}(h:jJ d m acc)(x:Dt):jJ (bM d m x) (m+1) (dH m x.f acc):=by
 intro j hj;have key:∀p,p∈acc->p∈dH m x.f acc:=by
  intro p hp;unfold dH;split
  ·exact hp
  ·exact X5 _ hp
 by_cases hjm:j=m
 ·subst hjm;rw[cJ];by_cases hf:x.f=⟨[],[]⟩
  ·exact .inl hf
  ·refine .inr ?_;unfold dH;split
   ·rename_i h0;exact absurd h0 hf
   ·exact YA
 ·rw[<- fM (x:=x) U];exact(h j U).imp id (key _)
def rL {d:Nat->Dt}{m:Nat}{acc:List (Nat × FP)}{b:Nat}{f:FP}(hc:jJ d m acc)(h:fP b f acc):∀j,j<m->b.testBit j=false->(∀r,r∈f.nw->r ∉ (d j).f.rs)/\(∀r,r∈(d j).f.nw->r ∉ f.rs):=by
 intro j hj hb;rcases hc j hj with h0|h1
 ·rw[h0];exact⟨fun r _ h=>(by cases h),fun r h=>(by cases h)⟩
 ·exact h _ h1 hb
def nT {all:Array Oper}{d:Nat->Dt}{s0:St}{m:Nat}{x:Dt}{o:Oper}(ho:all[m]?=some o):
  canon all (bM d m x) s0 (m+1)=⟨aF (canon all d s0 m).ρ o.dst x.v,⟨bK x.e (canon all d s0 m).H.get,(canon all d s0 m).H.C+x.al⟩⟩:=by
 have hb:∀j,j<m->d j=bM d m x j:=fun j hj=>fM hj;unfold canon lG;simp only[bf,aX,aJ,if_true,cJ];rw[<- rJ hb,<- rK hb,<- eR hb];simp only[fG,ho,Option.bind_some,YQ]
def nU {all:Array Oper}{bs:List Nat}{s0:St}{d:Nat->Dt}{m:Nat}{x:Dt}(hg:∀i,i<m->nno P G all bs s0 d i)(hx:nno P G all bs s0 (bM d m x) m):
  ∀i,i<m+1->nno P G all bs s0 (bM d m x) i:=by
 intro i hi;by_cases him:i=m
 ·subst him;exact hx
 ·exact(hg i U).below fun j hj=>fM (U)
def trace {all:Array Oper}{bs:List Nat}{s0:St}{tail:St->Prop}{K:Nat}(hbs:bs.length=K)(hK:K<=all.size):∀(k m:Nat) (d:Nat->Dt) (acc:List (Nat × FP)),k+m=K ->
  (∀i,i<m->nno P G all bs s0 d i)->jJ d m acc->fm (canon all d s0 m).H->cZ P G all tail (bs.drop m) m acc ((all.toList.take K).drop m) (canon all d s0 m) ->
  ∃d',(∀i,i<K->nno P G all bs s0 d' i)/\tail (canon all d' s0 K):=by
 intro k
 induction k with
 |zero =>
  intro m d acc hm hg hc wf h;obtain rfl:m=K:=U
  refine⟨d,hg,?_⟩;have:(all.toList.take m).drop m=[]:=by
   apply ZI;simp only[Xm];omega
  rw[this]at h;cases hb:bs.drop m with
  |nil=>rw[hb]at h;simpa only[cZ] using h
  |cons b bs'=>rw[hb]at h;simpa only[cZ] using h
 |succ k ih =>
  intro m d acc hm hg hc wf h;have hmK:m<K:=U
  have hms:m<all.size:=U
  have ho:all[m]?=some all[m]:=Xk hms;have hbm:bs.drop m=dw bs m :: bs.drop (m+1):=by
   rw[XS U];congr 1;simp[dw,W5 (show m<bs.length by omega)]
  have hom:(all.toList.take K).drop m=all[m] :: (all.toList.take K).drop (m+1):=by
   rw[XS (by simp only[Xm,YO];omega)];congr 1;simp
  rw[hbm,hom]at h;simp only[cZ]at h;obtain⟨t,ht,h⟩:=h;have hnext:(canon all d s0 m).H.C=s0.H.C+aJ d m:=rfl;cases t with
  |false =>
   simp only[Bool.false_eq_true,if_false]at h
   let x:Dt:=⟨.lit undef,fun _=>none,0,⟨[],[]⟩⟩
   have hb:∀j,j<m->d j=bM d m x j:=fun j hj=>fM hj;have hcan:canon all (bM d m x) s0 (m+1)=⟨aF (canon all d s0 m).ρ all[m].dst (.lit undef),(canon all d s0 m).H⟩:=nT ho;have hgx:nno P G all bs s0 (bM d m x) m:=by
    refine⟨?_,?_,?_,?_,?_⟩
    ·rw[cJ,<- lH hb];intro o ho' ρ2 H2 h1 h2 h3 _;rw[ho]at ho';cases ho';refine .inl ⟨?_,rfl⟩;simp only;rw[qd h1,ht]
    ·rw[cJ];intro k he;cases he
    ·rw[cJ];intro c he;exact absurd he (Xo _)
    ·rw[cJ];intro r hr;cases hr
    ·rw[cJ];intro j hj hbit;exact⟨fun r hr=>(by cases hr),fun r hr hr'=>(by cases hr')⟩
   refine ih (m+1) (bM d m x) acc U (nU hg hgx) (hc.add x) ?_ ?_
   ·rw[hcan];exact wf
   ·rw[hcan];exact h
  |true =>
   simp only[if_true]at h;unfold bA at h;split at h
   ·rename_i fv args ats hop;obtain⟨v,e,k,f,⟨hlt,heff,hnew,hcall⟩,hap,h⟩:=h
    let x:Dt:=⟨v,e,k,f⟩
    have hb:∀j,j<m->d j=bM d m x j:=fun j hj=>fM hj;have hcan:canon all (bM d m x) s0 (m+1)=⟨aF (canon all d s0 m).ρ all[m].dst v,⟨bK e (canon all d s0 m).H.get,(canon all d s0 m).H.C+k⟩⟩:=nT ho;have hgx:nno P G all bs s0 (bM d m x) m:=by
     refine⟨?_,?_,?_,?_,?_⟩
     ·rw[cJ,<- lH hb,<- eR hb];intro o ho' ρ2 H2 h1 h2 h3 h4;rw[ho]at ho';cases ho';refine .inr ⟨?_,v,rfl,.inr ⟨fv,args,ats,hop,?_,?_⟩⟩
      ·simp only;rw[qd h1,ht]
      ·intro id st pend q env ps asg body hid;refine mv fun hs=>?_;rcases(heff id hs).2 with ⟨hrs,g,t,c,hg⟩|⟨g1,g2⟩
       ·have e9:=h2 id hrs;simp only at hid;rw[hid,hg]at e9;cases e9
       ·obtain⟨c,rfl⟩:∃c,id=(canon all d s0 m).H.C+c:=⟨id-(canon all d s0 m).H.C,U⟩
        have e9:H2.get ((canon all d s0 m).H.C+c)=some .nj:=h3 c (show c<k by omega);simp only at hid;rw[hid]at e9;cases e9
      ·have hev:=ue (G:=G) h1;have e1:ak G ρ2 fv=ak G (canon all d s0 m).ρ fv:=hev fv (by simp[hop,Op.operands,Call.operands]);have e2:args.toList.map (ak G ρ2)=args.toList.map (ak G (canon all d s0 m).ρ) :=
        Yk fun y hy=>hev y (by simp only[hop,Op.operands,Call.operands];simp;exact .inr (by simpa using hy))
       simp only;rw[e1,e2];exact hcall H2 h2 h3 h4
     ·rw[cJ,<- eR hb];intro r hr;exact⟨(heff r hr).1,(heff r hr).2.imp (fun h=>h.1) id⟩
     ·rw[cJ,<- eR hb];exact hnew
     ·rw[cJ,<- eR hb];exact hlt
     ·rw[cJ];intro j hj hbit;rw[<- fM hj];exact rL hc hap j hj hbit
    refine ih (m+1) (bM d m x) _ U (nU hg hgx) (hc.add x) ?_ ?_
    ·rw[hcan];intro id b hid;show id<(canon all d s0 m).H.C+k;simp only at hid;by_cases hs:(e id).isSome=true
     ·rcases(heff id hs).2 with ⟨hrs,_⟩|⟨_,g2⟩
      ·have:=hlt id hrs;omega
      ·exact g2
     ·rw[mv hs]at hid;have:=wf id b hid;omega
    ·rw[hcan];exact h
   ·obtain⟨⟨v,H'⟩,hop,hap,h⟩:=h;obtain⟨e,al,hget,hnx,heff,hal,hlt,hloc⟩:=yx wf hop
    let x:Dt:=⟨v,mu e,(if al=true then 1 else 0),bz P G (canon all d s0 m).ρ (canon all d s0 m).H.C all[m].op⟩
    have hb:∀j,j<m->d j=bM d m x j:=fun j hj=>fM hj;have hcan:canon all (bM d m x) s0 (m+1)=⟨aF (canon all d s0 m).ρ all[m].dst v,H'⟩:=by
     rw[nT ho];congr 1;cases H';simp only at hget hnx;simp only[nnl.mk.injEq];refine⟨(Bq _ _).trans hget.symm,?_⟩;rw[hnx];simp only[x];cases al<;>simp
    have hgx:nno P G all bs s0 (bM d m x) m:=by
     refine⟨?_,?_,?_,?_,?_⟩
     ·rw[cJ,<- lH hb,<- eR hb];intro o ho' ρ2 H2 h1 h2 h3 h4;rw[ho]at ho';cases ho';refine .inr ⟨?_,v,rfl,.inl ?_⟩
      ·simp only;rw[qd h1,ht]
      ·simp only;rw[B7 (ρ':=(canon all d s0 m).ρ) (ue h1),Bq];refine hloc H2 h2 fun ha=>?_;subst ha;have h5:=h3 0 (by simp[x]);simp only[x,if_true]at h4;refine⟨h5,?_⟩;rw[hnext];omega
     ·rw[cJ,<- eR hb];intro r hr;unfold dv at hr;simp only[x,mu]at hr;cases he:e with
      |none=>rw[he]at hr;cases hr
      |some kb =>
       obtain⟨k0,b0⟩:=kb;rw[he]at hr;simp only at hr;by_cases hrk:r=k0
       ·subst hrk;obtain⟨h1,h2⟩:=heff r b0 he;refine⟨h1,?_⟩;cases hal2:al with
        |false=>exact .inl (h2 hal2)
        |true =>
         obtain⟨b1,hb1⟩:=hal hal2;rw[he]at hb1;simp only[Option.some.injEq,Prod.mk.injEq]at hb1;refine .inr ?_;simp only[x,hal2,if_true];rw[hnext]at hb1;omega
       ·rw[W7 hrk]at hr;cases hr
     ·rw[cJ,<- eR hb];intro c hc2;cases hal2:al with
      |false=>simp[x,hal2]at hc2
      |true =>
       simp only[x,hal2,if_true]at hc2;obtain⟨b1,hb1⟩:=hal hal2;obtain rfl:c=0:=U;unfold dv;simp only[x,mu,hb1,Nat.add_zero];rw[hnext];simp
     ·rw[cJ,<- eR hb];exact hlt
     ·rw[cJ];intro j hj hbit;rw[<- fM hj];exact rL hc hap j hj hbit
    have wf':fm H':=by
     intro id b hid;rw[hget]at hid;rw[hnx];cases e with
     |none =>
      have:=wf id b hid;split<;>omega
     |some kb =>
      obtain⟨k0,b0⟩:=kb;simp only[dO]at hid;split at hid
      ·rename_i hk;subst hk;cases al with
       |true =>
        obtain⟨b1,hb1⟩:=hal rfl;simp only[Option.some.injEq,Prod.mk.injEq]at hb1;simp only[if_true];omega
       |false =>
        have:=hlt _ ((heff id b0 rfl).2 rfl);simpa using this
      ·have:=wf id b hid;split<;>omega
    refine ih (m+1) (bM d m x) _ U (nU hg hgx) (hc.add x) ?_ ?_
    ·rw[hcan];exact wf'
    ·rw[hcan];exact h
end Go.Hx.Ev
namespace Go.Hx.Ev
open Go.Hx
variable {P:Program} {G:Nat->Option (List nnn)} {Γ Γ':aA} {H H':nnl} {w w':World}
variable {D:Nat->Bool}{d:Nat->Dt}{s0:St}
def ed (all:Array Oper)(d:Nat->Dt)(s0:St)(K:Nat)(D:Nat->Bool):St :=
 ⟨bf all d s0.ρ K D,⟨aX d (bF s0.H (aJ d K)).get K D,s0.H.C+aJ d K⟩⟩
def xJ {all:Array Oper}{bs:List Nat}{K:Nat}(S:nnE all bs K)(hg:∀i,i<K->nno P G all bs s0 d i){i:Nat}{o:Oper}(hi:i<K)(ho:all[i]?=some o)(hDi:D i=false)
  (hdown:∀j,j<i->(dw bs i).testBit j=true->D j=true) (hup:∀j,i<j->j<K->D j=true->(dw bs j).testBit i=false):
  ExecOk P G all o (s0.H.C+aJ d i) (ed all d s0 K D) (ed all d s0 K (bJ D i)):=by
 have hget:∀j,j<K->∃oj,all[j]?=some oj:=fun j hj=>⟨_,Xk (Xd hj S.le)⟩
 have hgi:=hg i hi;have tgtE:∀j r,j<K->dv (d j) r->r∈(d j).f.nw/\(r∈(d j).f.rs\/(s0.H.C+aJ d j<=r/\r<s0.H.C+aJ d j+(d j).al)):=fun j r hj ht=>(hg j hj).nw r ht;have rangeK:∀r,r<s0.H.C+aJ d i->((bF s0.H (aJ d K)).get r=s0.H.get r\/∃j,j<i/\(fun _:Nat=>true) j=true/\dv (d j) r):=by
  intro r hr;by_cases h:s0.H.C<=r
  ·obtain⟨j,h1,h2,h3⟩:=rI (d:=d) (n:=i) (c:=r-s0.H.C) U;have:=(hg j U).al (r-s0.H.C-aJ d j) U;rw[show s0.H.C+aJ d j+(r-s0.H.C-aJ d j)=r by omega]at this;exact .inr ⟨j,h1,rfl,this⟩
  ·left;simp only[bF];rw[W7 U]
 have henv:∀t,t∈o.looksAt all->bf all d s0.ρ K D t=(canon all d s0 i).ρ t:=by
  intro t ht;show _=bf all d s0.ρ i (fun _=>true) t;rw[<- xD (all:=all) (d:=d) (ρ0:=s0.ρ) (m:=i) (n:=K) U];refine nP fun j hj hdj=>?_;obtain⟨oj,hoj⟩:=hget j hj;rw[mA hoj]at hdj;rcases YV j i with h|rfl|h
  ·cases hb:(dw bs i).testBit j with
   |true=>rw[hdown j h hb];simp[h]
   |false=>exact absurd ht ((qh (S.apart i j o oj hi h ho hoj hb)).1 t hdj)
  ·rw[hDi];simp
  ·cases hD:D j with
   |false=>symm;simp;omega
   |true=>exact absurd ht ((qh (S.apart j i oj o hj h hoj ho (hup j h hj hD))).2.1 t hdj)
 have hheap:∀r,r∈(d i).f.rs->aX d (bF s0.H (aJ d K)).get K D r=(canon all d s0 i).H.get r:=by
  intro r hr;show _=aX d s0.H.get i (fun _=>true) r;rw[<- rH (g0:=(bF s0.H (aJ d K)).get) (rangeK r (hgi.lt r hr)),<- xE (m:=i) (n:=K) U];refine nS fun j hj ht=>?_;obtain⟨he,_⟩:=tgtE j r hj ht;rcases YV j i with h|rfl|h
  ·cases hb:(dw bs i).testBit j with
   |true=>rw[hdown j h hb];simp[h]
   |false=>exact absurd hr ((hgi.apart j h hb).2 r he)
  ·rw[hDi];simp
  ·cases hD:D j with
   |false=>symm;simp;omega
   |true=>exact absurd hr (((hg j hj).apart i h (hup j h hj hD)).1 r he)
 have hal:∀c,c<(d i).al->aX d (bF s0.H (aJ d K)).get K D (s0.H.C+aJ d i+c)=some .nj:=by
  intro c hc;have hlt:=kG (d:=d) hi;have heff:=(hgi.nw _ (hgi.al c hc)).1;rw[xF]
  ·simp only[bF];rw[W8 U]
  ·intro j hj hD ht;obtain⟨h1,h2⟩:=tgtE j _ hj ht;rcases YV j i with h|rfl|h
   ·rcases h2 with h3|⟨h2,h3⟩
    ·have:=(hg j hj).lt _ h3;have:=pR (d:=d) (ZA h);omega
    ·have:=kG (d:=d) h;omega
   ·rw[hDi]at hD;cases hD
   ·rcases h2 with h3|⟨h2,h3⟩
    ·exact absurd h3 (((hg j hj).apart i h (hup j h hj hD)).2 _ heff)
    ·have:=kG (d:=d) h;omega
 have:=hgi.step o ho (bf all d s0.ρ K D) ⟨aX d (bF s0.H (aJ d K)).get K D,s0.H.C+aJ d K⟩ henv hheap hal (by have:=kG (d:=d) hi;simp only;omega);have e1:bf all d s0.ρ K (bJ D i)=aF (bf all d s0.ρ K D) o.dst (d i).v:=by
  rw[xG hDi hi,mA ho];intro j h hj hD t hti;obtain⟨oj,hoj⟩:=hget j hj;rw[mA ho]at hti;rw[mA hoj];exact(qh (S.apart j i oj o hj h hoj ho (hup j h hj hD))).2.2 t hti
 have e2:aX d (bF s0.H (aJ d K)).get K (bJ D i)=bK (d i).e (aX d (bF s0.H (aJ d K)).get K D):=by
  refine xH hDi hi fun j h hj hD r hti htj=>?_;obtain⟨a1,a2⟩:=tgtE i r hi hti;obtain⟨b1,b2⟩:=tgtE j r hj htj;obtain⟨c1,c2⟩:=(hg j hj).apart i h (hup j h hj hD);rcases b2 with b3|⟨b2,b3⟩
  ·exact c2 r a1 b3
  ·rcases a2 with a3|⟨a2,a3⟩
   ·exact c1 r b1 a3
   ·have:=kG (d:=d) h;omega
 unfold ed;rw[e1,e2];exact this
def rN {all:Array Oper}{bs:List Nat}{K:Nat}(hg:∀i,i<K->nno P G all bs s0 d i)(hD:∀j,j<K->D j=true):ed all d s0 K D=canon all d s0 K:=by
 unfold ed canon lG;have e1:bf all d s0.ρ K D=bf all d s0.ρ K fun _=>true:=funext fun t=>nP fun j hj _=>hD j hj;have e2:aX d (bF s0.H (aJ d K)).get K D=aX d s0.H.get K fun _=>true:=by
  funext r
  rw[nS (D':=fun _=>true) fun j hj _=>hD j hj];refine rH ?_;by_cases h:s0.H.C<=r/\r<s0.H.C+aJ d K
  ·obtain⟨j,h1,h2,h3⟩:=rI (d:=d) (n:=K) (c:=r-s0.H.C) U;have:=(hg j h1).al (r-s0.H.C-aJ d j) U;rw[show s0.H.C+aJ d j+(r-s0.H.C-aJ d j)=r by omega]at this;exact .inr ⟨j,h1,rfl,this⟩
  ·left;simp only[bF];rw[W7 h]
 rw[e1,e2]
def xK {all:Array Oper}{K:Nat}(hD:∀j,j<K->D j=false):ed all d s0 K D=⟨s0.ρ,bF s0.H (aJ d K)⟩:=by
 unfold ed;have e1:∀n,n<=K->bf all d s0.ρ n D=s0.ρ:=by
  intro n
  induction n with
  |zero=>intro _;rfl
  |succ n ih=>intro h;simp only[bf];rw[W7 (by simp[hD n h])];exact ih (U)
 have e2:∀n,n<=K->aX d (bF s0.H (aJ d K)).get n D=(bF s0.H (aJ d K)).get:=by
  intro n
  induction n with
  |zero=>intro _;rfl
  |succ n ih=>intro h;simp only[aX];rw[W7 (by simp[hD n h])];exact ih (U)
 rw[e1 K aaz,e2 K aaz];rfl
variable {n:Nat} {wb:nnA} {rd rb:Option Nat} {Q:AX->St->Prop} {all:Array Oper} {bs:List Nat} {K:Nat} {id:Nat} {dr:Bool}
def xL (S:nnE all bs K)(hfit:∀o,o∈all.toList->dM n o=true)(hg:∀i,i<K->nno P G all bs s0 d i)(htail:opsV P G rd Q all (all.toList.drop K) (canon all d s0 K)):
  ∀(r:Nat) (listed:Array Bool) (D:Nat->Bool) (Γ:aA) (a:Act) (w:World),listed.size=all.size->eI listed all.size=r->(∀j,j<all.size->listed.getD j true=D j)->(∀j,D j=true->j<K)->ui all D ->
  nnr P G n wb Γ (ed all d s0 K D) a w->dp Γ (ed all d s0 K D).H rd rb ->
  ∀(Q':Exit->Act->World->Prop),(∀e a' w',fN P G n wb rd rb (wr (.region id all dr)) Γ (ed all d s0 K D).H a w Q e a' w'->Q' e a' w')->wpAnyIn (da rb) 0 P .any all Q' r listed a w:=by
 intro r
 induction r with
 |zero =>
  intro listed D Γ a w hsz hc hl hlow hL hs hr Q' hq;have hall:∀j,j<K->D j=true:=fun j hj=>by rw[<- hl j (Xd hj S.le)];exact uj hc j (Xd hj S.le)
  have hKs:K=all.size:=by
   rcases Xu K all.size with h|h
   ·have h1:=uj hc K h;rw[hl K h]at h1;have:=hlow K h1;omega
   ·have:=S.le;omega
  rw[rN hg hall]at hs hr hq;exact uk S hfit 0 K listed _ Γ a w U aaz hsz hc (fun j hj=>by rw[hl j hj];exact⟨hlow j,hall j⟩) htail hs hr Q' hq
 |succ r ih =>
  intro listed D Γ a w hsz hc hl hlow hL hs hr Q' hq;by_cases hall:∀j,j<K->D j=true
  ·rw[rN hg hall]at hs hr hq;have hcount:∀m,m<=all.size->eI listed m=m-K:=by
    intro m
    induction m with
    |zero=>intro _;simp[eI]
    |succ m ihm =>
     intro hm;simp only[eI];rw[ihm U,hl m U];by_cases hmK:m<K
     ·rw[hall m hmK];simp;omega
     ·have:D m=false:=by
       cases hD:D m with
       |false=>rfl
       |true=>exact absurd (hlow m hD) hmK
      rw[this];simp;omega
   have h1:=hcount all.size aaz;exact uk S hfit (r+1) K listed _ Γ a w (by have:=S.le;omega) aaz hsz hc (fun j hj=>by rw[hl j hj];exact⟨hlow j,hall j⟩) htail hs hr Q' hq
  ·have hex:∃j,j<K/\D j=false:=by
    by_cases h:∃j,j<K/\D j=false
    ·exact h
    ·refine absurd (fun j hj=>?_) hall;cases hD:D j with
     |true=>rfl
     |false=>exact absurd ⟨j,hj,hD⟩ h
   have least:∀k,(∃j,j<k/\j<K/\D j=false)->∃j,j<K/\D j=false/\∀i,i<j->D i=true:=by
    intro k
    induction k with
    |zero=>rintro⟨j,hj,_⟩;omega
    |succ k ihk =>
     rintro⟨j,h1,h2,h3⟩;by_cases h:∃j,j<k/\j<K/\D j=false
     ·exact ihk h
     ·refine⟨j,h2,h3,fun i hi=>?_⟩;cases hD:D i with
      |true=>rfl
      |false=>exact absurd ⟨i,U,U,hD⟩ h
   obtain⟨j0,hj0K,hj0,hbelow⟩:=least K (let ⟨j,h1,h2⟩:=hex;⟨j,h1,h1,h2⟩);have hj0s:j0<all.size:=Xd hj0K S.le;have hr0:j0∈Region.ready .any all listed:=by
    refine mem_ready.2 ⟨by rw[hl j0 hj0s];exact hj0,_,Xk hj0s,fun e he hb=>?_⟩;have hlt:=S.down j0 _ (Xk hj0s) e he hb;rw[nZ U false true,hl e.on U];exact hbelow _ hlt
   refine⟨fun h0=>(by rw[h0]at hr0;cases hr0),fun i hi=>?_⟩;obtain⟨hiun,oi,hoi,hdir⟩:=mem_ready.1 hi;have his:=(XY.1 hoi).1;have hdirD:∀e,e∈oi.after->Region.binds .any e=true->D e.on=true:=fun e he hb=>by
    have:=S.down i oi hoi e he hb;rw[<- hl e.on U,<- nZ U false true];exact hdir e he hb
   have hahead:=S.ahead hL i oi;have hiK:i<K:=by
    rcases Xu i K with h|h
    ·exact h
    ·have:=hahead j0 hoi hdirD (by rw[W7 U];omega);rw[hj0]at this;cases this
   have hDi:D i=false:=(by rw[<- hl i his];exact hiun);have hex:=xJ (P:=P) (G:=G) S hg hiK hoi hDi (fun j hj hb=>hahead j hoi hdirD (by rw[W8 hiK];exact hb)) (fun j h1 h2 hD=>by
    cases hb:(dw bs j).testBit i with
    |false=>rfl
    |true =>
     have hjs:j<all.size:=Xd h2 S.le;have:=S.ahead hL j _ i (Xk hjs) (fun e he hbe=>hL j _ hD (Xk hjs) e he hbe) (by rw[W8 h2];exact hb);rw[hDi]at this;cases this)
   have hoi':oi=all[i]:=by
    rw[Xk his]at hoi;exact(Option.some.inj hoi).symm
   refine xI hoi (hfit oi (by rw[hoi'];simp)) hs hr hex ?_;rintro Γ' a' w' hs' E hn hr' ⟨cv,rfl⟩;have hc':eI (listed.setIfInBounds i true) all.size=r:=by
    have:=yF hiun all.size;rw[W8 his]at this;omega
   refine ih (listed.setIfInBounds i true) (bJ D i) Γ' _ w' (by simpa using hsz) hc' ?_ ?_ ?_ hs' hr' Q' fun e a'' w'' hp=>hq _ _ _ (hp.step E hn (by rw[hoi'];exact mw his cv) fun _ h=>h)
   ·intro j hj;by_cases hji:j=i
    ·subst hji;simp[bJ]
    ·rw[getD_set_ne true (Ne.symm hji),hl j hj];simp[bJ,hji]
   ·intro j hj;by_cases hji:j=i
    ·subst hji;exact hiK
    ·simp only[bJ,W7 hji]at hj;exact hlow j hj
   ·intro k ok hk hok e he hb;by_cases hki:k=i
    ·subst hki;rw[hoi]at hok;cases hok;have:=hdirD e he hb;simp only[bJ];split
     ·rfl
     ·exact this
    ·simp only[bJ,W7 hki]at hk;have:=hL k ok hk hok e he hb;simp only[bJ];split
     ·rfl
     ·exact this
def W.xM {s:St}(K:Nat)(bs:List Nat)(hm:P.follows .mixedOrders=true)(hfit:all.toList.all (dM n)=true)(hst:pY all bs K=true)
  (h:cZ P G all (opsV P G rd Q all (all.toList.drop K)) bs 0 [] (all.toList.take K) s):W P G n rd (.region id all true) Q s:=by
 intro wb Γ a w rb hs hr;have S:=Cp hst;have hfit':∀o,o∈all.toList->dM n o=true:=fun o ho=>XK.1 hfit o ho;have wf:fm s.H:=fun id b hb=>hs.heap.C id b hb;have hcan0:canon all (fun _=>⟨.lit undef,fun _=>none,0,⟨[],[]⟩⟩) s 0=s:=rfl;obtain⟨d,hg,htail⟩:=trace (P:=P) (G:=G) (all:=all) (bs:=bs) (s0:=s) (tail:=opsV P G rd Q all (all.toList.drop K)) S.len S.le K 0 (fun _=>⟨.lit undef,fun _=>none,0,⟨[],[]⟩⟩) [] (U)
  (fun i hi=>U) (fun j hj=>U) (by rw[hcan0];exact wf) (by rw[hcan0];exact h)
 refine wpIn_region_any hm ?_
 let w1:World:={ w with drawn:=w.drawn+1 }
 have R1:nng P G Γ s.H w1:=hs.heap.move rfl (qi w) aaz (fun id b hb=>.inl hb) fun id b hb=>hb;have hs1:nnr P G n wb Γ s a w1:=hs.move (qi w) aaz R1;have hs2:nnr P G n wb Γ ⟨s.ρ,bF s.H (aJ d K)⟩ a w1:=hs1.move (rV _ _) (by simp[bF]) (Cr R1 _);have hr2:dp Γ (bF s.H (aJ d K)) rd rb:=hr.move fun id b hb=>by
  simp only[bF];rw[W7]
  ·exact hb
  ·have:=hs.heap.C id b hb;omega
 have e0:ed all d s K (fun _=>false)=⟨s.ρ,bF s.H (aJ d K)⟩:=xK fun _ _=>rfl;refine xL (wb:=wb) (id:=id) (dr:=true) S hfit' hg htail all.size _ (fun _=>false) Γ a w1 aaw (Cs _ aaz) ?_ ?_ ?_ ?_ ?_ _ ?_
 ·intro j hj;rw[XM,Y0,W8 hj];rfl
 ·intro j hj;cases hj
 ·intro i o hi;cases hi
 ·rw[e0];exact hs2
 ·rw[e0];exact hr2
 ·rw[e0];intro e a' w' hp;refine hp.step ?_ (by simp[bF]) (.refl _ _) fun _ h=>h;exact Evo.trans (qi w) aaz (rV _ _)
end Go.Hx.Ev
namespace Go.Hx.Ev
open Go.Hx
variable {P:Program} {G:Nat->Option (List nnn)} {Γ Γ':aA} {H H':nnl} {w w':World}
variable {K:Nat->Prop}{v:nnn}
inductive Cln (K:Nat->Prop):nnn->Prop
 |lit (v:Value):Cln K (.lit v)
 |nil:Cln K (.L 0 [])
 |agg {c:List nnn} (h:∀i (h:i<c.length),Cln K c[i]):Cln K (.agg c)
 |nc {c:List nnn} (h:∀i (h:i<c.length),Cln K c[i]):Cln K (.nc c)
 |nb {f:FuncId} {a b:List nnn} (h1:∀i (h:i<a.length),Cln K a[i]) (h2:∀i (h:i<b.length),Cln K b[i]):Cln K (.nb f a b)
 |Z {id g o l z:Nat} (h:K id):Cln K (.Z id g o l z)
 |Y {id g o:Nat} (h:K id):Cln K (.Y id g o)
def Cln.mono {K':Nat->Prop}(h:Cln K v)(hk:∀id,K id->K' id):Cln K' v:=by
 induction h with
 |lit v=>exact .lit v
 |nil=>exact .nil
 |agg _ ih=>exact .agg ih
 |nc _ ih=>exact .nc ih
 |nb _ _ ih1 ih2=>exact .nb ih1 ih2
 |Z h=>exact .Z (hk _ h)
 |Y h=>exact .Y (hk _ h)
def Cln.fz {S:Nat->Prop}{nx:Nat}(h:Cln (fun id=>¬S id/\id<nx) v):Fz S H nx v v:=by
 induction h with
 |lit v=>exact .lit v
 |nil=>exact .L rfl fun i h=>absurd h (Xo _)
 |agg _ ih=>exact .agg rfl fun i h _=>ih i h
 |nc _ ih=>exact .nc rfl fun i h _=>ih i h
 |nb _ _ ih1 ih2=>exact .nb rfl rfl (fun i h _=>ih1 i h) fun i h _=>ih2 i h
 |Z h=>exact .Z h.2 h.1
 |Y h=>exact .Y h.2 h.1
def Cln.sound {Γ₁ Γ₂:aA}{H₁ H₂:nnl}(hK:∀id,K id->H₂.get id=H₁.get id/\Γ₂ id=Γ₁ id)(hn:H₁.C<=H₂.C)(h:Cln K v):
  ∀ {cv:Value},nnc P Γ₁ H₁ w v cv->nnc P Γ₂ H₂ w v cv:=by
 induction h with
 |lit v=>intro cv h;cases h;exact .lit _
 |nil =>
  intro cv h;cases h with
  |nu a cap=>exact .nu a cap
  |L hb hlt hlen hcs hcell hrel=>exact .nu _ _
 |agg _ ih=>intro cv h;cases h with|agg hcs hrel=>exact .agg hcs fun i h1 h2=>ih i h1 (hrel i h1 h2)
 |nc _ ih=>intro cv h;cases h with|nc hcs hrel=>exact .nc hcs fun i h1 h2=>ih i h1 (hrel i h1 h2)
 |nb _ _ ih1 ih2=>intro cv h;cases h with|nb hfs hcs hf hc=>exact .nb hfs hcs (fun i h1 h2=>ih1 i h1 (hf i h1 h2)) fun i h1 h2=>ih2 i h1 (hc i h1 h2)
 |Z h =>
  intro cv hv;cases hv with
  |Z hv =>
   obtain⟨a,b,c,d⟩:=hv;obtain⟨e1,e2⟩:=hK _ h;refine .Z ⟨U,b,by rw[e1];exact c,fun g e cells hg=>?_⟩;rw[e1]at hg;rw[e2];exact d g e cells hg
 |Y h =>
  intro cv hv;cases hv with
  |Y hv =>
   obtain⟨a,b,c,d⟩:=hv;obtain⟨e1,e2⟩:=hK _ h;refine .Y ⟨U,b,by rw[e1];exact c,fun g e cells hg=>?_⟩;rw[e1]at hg;rw[e2];exact d g e cells hg
def dG (lo hi:Nat)(lv:Nat->Bool)(g:Nat->Option Blk):Nat->Option Blk:=fun id=>if lo<=id/\id<hi then (if lv id=true then g id else some (.O 0 0 [])) else none
def lI (lo hi:Nat):List Nat:=(List.range (hi-lo)).map (·+lo)
def xN {lo hi r:Nat}(h1:lo<=r)(h2:r<hi):r∈lI lo hi:=by
 unfold lI;rw[Xx];exact⟨r-lo,by rw[XJ];omega,U⟩
open Classical in
def jg.mk {f:FuncId}{first cap args args':List nnn}(Hs Hs':nnl)(kp:Nat->Prop)(lv:Nat->Bool)(rs:List Nat)(hG:dS G)
  (hrs:∀r,r∈rs->r<H.C) (hnx:Hs.C=H.C) (hle:Hs.C<=Hs'.C)
  (hkp:∀id,kp id->id∈rs/\Hs.get id=H.get id/\Hs'.get id=H.get id/\∃g e c,H.get id=some (.O g e c)/\∀i (h:i<c.length),Cln kp c[i])
  (hgone:∀id,¬kp id->Hs.get id=none)
  (hl:args'.length=(first++args++cap).length)
  (hargs:∀H2:nnl,(∀r,r∈rs->H2.get r=H.get r)->∀i (h:i<(first++args++cap).length) (h':i<args'.length),Fz (fun id=>¬kp id) H2 H.C (first++args++cap)[i] args'[i])
  (hcall:af P G f args' Hs fun r H'=>r=.ret v/\H'=Hs')
  (hv:Cln (fun id=>kp id\/(H.C<=id/\id<Hs'.C/\lv id=true)) v)
  (hnew:∀id,H.C<=id->id<Hs'.C->lv id=true->∃g e c,Hs'.get id=some (.O g e c)/\∀i (h:i<c.length),Cln (fun id=>kp id\/(H.C<=id/\id<Hs'.C/\lv id=true)) c[i]):
  jg P G (.nb f first cap) args H v (dG H.C Hs'.C lv Hs'.get) (Hs'.C-H.C) ⟨lI H.C Hs'.C,rs⟩:=by
 have hsome:∀id,H.C<=id->id<Hs'.C->(dG H.C Hs'.C lv Hs'.get id).isSome=true:=by
  intro id h1 h2;unfold dG;rw[W8 ⟨h1,h2⟩];split
  ·rename_i h3;obtain⟨g,e,c,h4,_⟩:=hnew id h1 h2 h3;rw[h4];rfl
  ·rfl
 have hout:∀id,(dG H.C Hs'.C lv Hs'.get id).isSome=true->H.C<=id/\id<Hs'.C:=by
  intro id h;unfold dG at h;split at h
  ·assumption
  ·cases h
 refine⟨hrs,fun r hr=>?_,fun c hc=>hsome _ U U,?_⟩
 ·obtain⟨h1,h2⟩:=hout r hr;exact⟨xN h1 h2,.inr ⟨h1,U⟩⟩
 intro H2 hag hres hn2;refine aC.nb ⟨hcall.1,fun Γ w cargs R hr=>?_⟩
 let S:Nat->Prop:=fun id=>¬kp id
 have kpO:∀id,¬S id->kp id:=fun id h=>Xw h;have hkH2:∀id,kp id->H2.get id=H.get id:=fun id h=>hag id (hkp id h).1;have hlow:∀id,kp id->id<H.C:=fun id h=>hrs id (hkp id h).1;have F:FzH S H2 Hs:=by
  refine⟨fun id hs=>hgone id hs,fun id b hs hb=>?_,fun id hs hb=>?_⟩
  ·have hk:=kpO id hs;obtain⟨h1,h2,h3,g,e,c,h4,h5⟩:=hkp id hk;rw[hkH2 id hk,h4]at hb;cases hb;refine⟨by rw[hnx];exact hlow id hk,.O g e c,by rw[h2,h4],rfl,rfl,rfl,fun i hi _=>?_⟩;exact((h5 i hi).mono fun id hk=>⟨fun hs=>hs hk,by rw[hnx];exact hlow id hk⟩).fz
  ·have hk:=kpO id hs;obtain⟨h1,h2,h3,g,e,c,h4,h5⟩:=hkp id hk;rw[hkH2 id hk,h4]at hb;cases hb
 have R0:nng P G (dP S Γ) Hs w:=F.rel hG R;have hr0:cU P (dP S Γ) Hs w args' cargs:=⟨by have:=hr.1;omega,fun i h1 h2=>(by
  have:=hargs H2 hag i U h1;rw[<- hnx]at this;exact this.sound R F (hr.2 i U h2))⟩
 refine(hcall.2 _ w cargs R0 hr0).mono ?_;rintro e w' ⟨r,H',Γ',hend,⟨rfl,rfl⟩,R',E,hn⟩
 let nw:Nat->Prop:=fun id=>H.C<=id/\id<H'.C
 let lw:Nat->Prop:=fun id=>H.C<=id/\id<H'.C/\lv id=true
 let Γ3:aA:=fun id=>if lw id then Γ' id else Γ id
 let H3:nnl:=⟨bK (dG H.C H'.C lv H'.get) H2.get,H2.C⟩
 have hnle:H'.C<=H2.C:=U
 have g3l:∀id,lw id->Γ3 id=Γ' id:=fun id h=>W8 h;have g3o:∀id,¬lw id->Γ3 id=Γ id:=fun id h=>W7 h;have kold:∀id,kp id->¬nw id:=fun id h hn=>by have:=hlow id h;have:=hn.1;omega
 have koldl:∀id,kp id->¬lw id:=fun id h hn=>kold id h ⟨hn.1,hn.2.1⟩;have gk:∀id,kp id->Γ' id=Γ id:=by
  intro id hk;obtain⟨h1,h2,h3,g,e,c,h4,h5⟩:=hkp id hk;have hlo:=hlow id hk;obtain⟨x,hx,hle'⟩:=E.na id U U (.O g e c) (by rw[h3,h4]);rw[h2,h4]at hx;cases hx;rw[(hle'.2 rfl).1];exact iI fun hs=>hs hk
 have h3new:∀id,nw id->H3.get id=dG H.C H'.C lv H'.get id:=by
  intro id h;show bK _ _ id=_;unfold bK;have:=hsome id h.1 h.2;split
  ·rename_i b hb;rw[hb]
  ·rename_i hb;rw[hb]at this;cases this
 have h3live:∀id,lw id->H3.get id=H'.get id:=by
  intro id h;rw[h3new id ⟨h.1,h.2.1⟩];unfold dG;rw[W8 ⟨h.1,h.2.1⟩,W8 h.2.2]
 have h3dead:∀id,nw id->¬lw id->H3.get id=some (.O 0 0 []):=by
  intro id h hl;rw[h3new id h];unfold dG;rw[W8 h,W7 fun h2=>hl ⟨h.1,h.2,h2⟩]
 have h3old:∀id,¬nw id->H3.get id=H2.get id:=by
  intro id h;show bK _ _ id=_;exact mv fun h'=>h (hout id h')
 have hrsv:∀id,nw id->H2.get id=some .nj:=by
  intro id h;have:=hres (id-H.C) (by have:=h.1;have:=h.2;omega)
  rwa [show H.C+(id-H.C)=id by have:=h.1;omega]at this
 have hΓnew:∀id,nw id->Γ id=none:=fun id h=>R.nj id (hrsv id h);have hfar:∀id b base n,lw id->Γ' id=some (b,base,n)->w.heap.size<=b:=by
  intro id b base n hid hb;refine ZG fun hlt=>?_;have hown:(dP S Γ).dD b:=Xw fun hno=>(E.nf b hlt hno).2 ⟨id,base,n,hb⟩;obtain⟨id0,base0,n0,h0⟩:=hown;obtain⟨hs0,h0⟩:=ji h0;have hk0:=kpO id0 hs0;rw[<- gk id0 hk0]at h0;have:=R'.inj _ _ _ _ _ _ _ h0 hb;subst this;exact koldl _ hk0 hid
 have EE:Evo Γ H2 w Γ3 H3 w':=by
  refine⟨E.os,E.tape,E.output,E.size,fun b hb ho=>⟨(E.nf b hb fun h=>ho (um h)).1,?_⟩,fun id h1 h2 x' hx'=>?_,E.nq,E.kind,fun id b x y hb hlt=>?_⟩
  ·rintro⟨id,base,n,h⟩;by_cases hl:lw id
   ·rw[g3l id hl]at h;have:=hfar id b base n hl h;omega
   ·rw[g3o id hl]at h;exact ho ⟨id,base,n,h⟩
  ·by_cases hnw:nw id
   ·exact⟨.nj,hrsv id hnw,trivial⟩
   ·rw[h3old id hnw]at hx';refine⟨x',hx',?_⟩;have hg:Γ3 id=Γ id:=g3o id fun h=>hnw ⟨h.1,h.2.1⟩;cases x' with
    |O g e c=>exact⟨aaz,fun _=>⟨hg,rfl,rfl⟩⟩
    |loop=>exact⟨hg,rfl,rfl,rfl,rfl,rfl⟩
    |nj=>trivial
    |mp=>exact hg
  ·by_cases hl:lw id
   ·rw[g3l id hl]at hb;have:=hfar id b x y hl hb;omega
   ·rw[g3o id hl]at hb;exact⟨x,y,hb⟩
 have hn3:H2.C<=H3.C:=Nat.le_refl _;have hK:∀id,(kp id\/lw id)->H3.get id=H'.get id/\Γ3 id=Γ' id:=by
  rintro id (h|h)
  ·refine⟨?_,?_⟩
   ·rw[h3old id (kold id h),hkH2 id h,(hkp id h).2.2.1]
   ·rw[g3o id (koldl id h),gk id h]
  ·exact⟨h3live id h,g3l id h⟩
 have hle3:H'.C<=H3.C:=hnle;have hidden:∀id b base n,¬kp id->Γ id=some (b,base,n)->w'.heap[b]?=w.heap[b]?:=by
  intro id b base n hk h;refine(E.nf b (R.lt _ _ _ _ h) ?_).1;rintro⟨id0,base0,n0,h0⟩;obtain⟨hs0,h0⟩:=ji h0;have:=R.inj _ _ _ _ _ _ _ h h0;subst this;exact hs0 hk
 have R3:nng P G Γ3 H3 w':=by
  refine⟨?_,?_,?_,?_,?_,?_,?_,?_,?_,?_⟩
  ·intro id g e cells hg;have main : (kp id∨lw id)→(∀ i (h : i<cells.length),Cln (fun id=>kp id∨lw id) cells[i])→H'.get id=some (.O g e cells)→_:=fun hid hc hg'=>R'.O id g e cells hg';have fin : (kp id∨lw id)→(∀ i (h : i<cells.length),Cln (fun id=>kp id∨lw id) cells[i])→H'.get id=some (.O g e cells)→(match Γ3 id with
     |some (b,base,n)=>∃c,w'.heap[b]?=some (.cells c e (0,0))/\c.size=n/\base+cells.length<=n /\
      ∀i (h:i<cells.length),∃cv,c[base+i]?=some cv/\nnc P Γ3 H3 w' cells[i] cv
     |none=>cells=[]):=by
    intro hid hc hg';have h1:=R'.O id g e cells hg';rw[(hK id hid).2];cases hΓ:Γ' id with
    |none=>rw[hΓ]at h1;exact h1
    |some y =>
     obtain⟨b,base,n⟩:=y;rw[hΓ]at h1;obtain⟨c,a1,a2,a3,a4⟩:=h1;refine⟨c,a1,a2,a3,fun i hi=>?_⟩;obtain⟨cv,b1,b2⟩:=a4 i hi;exact⟨cv,b1,(hc i hi).sound hK hle3 b2⟩
   by_cases hl:lw id
   ·have hg':=hg;rw[h3live id hl]at hg';obtain⟨g0,e0,c0,h4,h5⟩:=hnew id hl.1 hl.2.1 hl.2.2;rw[h4]at hg';cases hg';exact fin (.inr hl) h5 h4
   ·by_cases hnw:nw id
    ·rw[h3dead id hnw hl]at hg;cases hg;rw[g3o id hl,hΓnew id hnw]
    ·rw[h3old id hnw]at hg;by_cases hk:kp id
     ·obtain⟨h1,h2,h3,g0,e0,c0,h4,h5⟩:=hkp id hk;rw[hkH2 id hk,h4]at hg;cases hg;exact fin (.inl hk) (fun i hi=>(h5 i hi).mono fun _ h=>.inl h) (by rw[h3,h4])
     ·have h1:=R.O id g e cells hg;rw[g3o id hl];cases hΓ:Γ id with
      |none=>rw[hΓ]at h1;exact h1
      |some y =>
       obtain⟨b,base,n⟩:=y;rw[hΓ]at h1;obtain⟨c,a1,a2,a3,a4⟩:=h1;refine⟨c,by rw[hidden id b base n hk hΓ];exact a1,a2,a3,fun i hi=>?_⟩;obtain⟨cv,b1,b2⟩:=a4 i hi;exact⟨cv,b1,b2.aU EE hn3⟩
  ·intro id st pend n env ps asg body hg;by_cases hl:lw id
   ·rw[h3live id hl]at hg;obtain⟨g0,e0,c0,h4,h5⟩:=hnew id hl.1 hl.2.1 hl.2.2;rw[h4]at hg;cases hg
   ·by_cases hnw:nw id
    ·rw[h3dead id hnw hl]at hg;cases hg
    ·rw[h3old id hnw]at hg;have hk:¬kp id:=fun hk=>by
      obtain⟨h1,h2,h3,g0,e0,c0,h4,h5⟩:=hkp id hk;rw[hkH2 id hk,h4]at hg;cases hg
     obtain⟨b,r,a1,a2,a3,a4,a5,a6,a7,a8,a9⟩:=R.loop id st pend n env ps asg body hg;exact⟨b,r,by rw[g3o id hl];exact a1,by rw[hidden id b 0 0 hk a1];exact a2,a3,a4,a5,a6,a7,a8,fun t ht=>(a9 t ht).aU EE hn3⟩
  ·intro id es hg;by_cases hl:lw id
   ·rw[h3live id hl]at hg;obtain⟨g0,e0,c0,h4,h5⟩:=hnew id hl.1 hl.2.1 hl.2.2;rw[h4]at hg;cases hg
   ·by_cases hnw:nw id
    ·rw[h3dead id hnw hl]at hg;cases hg
    ·rw[h3old id hnw]at hg;have hk:¬kp id:=fun hk=>by
      obtain⟨h1,h2,h3,g0,e0,c0,h4,h5⟩:=hkp id hk;rw[hkH2 id hk,h4]at hg;cases hg
     obtain⟨b,a1,a2⟩:=R.mp id es hg;exact⟨b,by rw[g3o id hl];exact a1,by rw[hidden id b 0 0 hk a1];exact a2⟩
  ·intro id hg;have hnw:¬nw id:=fun hnw=>by
    by_cases hl:lw id
    ·rw[h3live id hl]at hg;obtain⟨g0,e0,c0,h4,h5⟩:=hnew id hl.1 hl.2.1 hl.2.2;rw[h4]at hg;cases hg
    ·rw[h3dead id hnw hl]at hg;cases hg
   rw[h3old id hnw]at hg;rw[g3o id fun h=>hnw ⟨h.1,h.2.1⟩];exact R.nj id hg
  ·intro id id' b base n base' n' h h';by_cases hl:lw id<;>by_cases hl':lw id'
   ·rw[g3l id hl]at h;rw[g3l id' hl']at h';exact R'.inj _ _ _ _ _ _ _ h h'
   ·rw[g3l id hl]at h;rw[g3o id' hl']at h';have:=hfar id b base n hl h;have:=R.lt _ _ _ _ h';omega
   ·rw[g3o id hl]at h;rw[g3l id' hl']at h';have:=hfar id' b base' n' hl' h';have:=R.lt _ _ _ _ h;omega
   ·rw[g3o id hl]at h;rw[g3o id' hl']at h';exact R.inj _ _ _ _ _ _ _ h h'
  ·intro id x h;by_cases hl:lw id
   ·obtain⟨g0,e0,c0,h4,h5⟩:=hnew id hl.1 hl.2.1 hl.2.2;exact⟨_,by rw[h3live id hl];exact h4⟩
   ·rw[g3o id hl]at h;by_cases hnw:nw id
    ·exact⟨_,h3dead id hnw hl⟩
    ·obtain⟨y,hy⟩:=R.nB id x h;exact⟨y,by rw[h3old id hnw];exact hy⟩
  ·intro id b base n h;by_cases hl:lw id
   ·rw[g3l id hl]at h;exact R'.lt _ _ _ _ h
   ·rw[g3o id hl]at h;exact Xd (R.lt _ _ _ _ h) E.size
  ·intro id y h;by_cases hnw:nw id
   ·have:=hnw.2;exact Xd this hnle
   ·rw[h3old id hnw]at h;exact R.C id y h
  ·intro g cells h;exact(R.nz g cells h).aU EE hn3
  ·exact R.nK EE
 refine⟨.ret v,H3,Γ3,?_,⟨rfl,rfl⟩,R3,EE,hn3⟩;cases e with
 |returned cv=>exact hv.sound hK hle3 hend
 |panicked chain=>exact hend.elim
 |outgrown=>exact hend.elim
end Go.Hx.Ev
