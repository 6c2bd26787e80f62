/-
  Regions that draw their order. Own work: no program stands in this text.
-/
import Derived.Test.YteolcdbjdgimhaaGreatLibA
import Derived.OrdersIn
import Derived.KernelRfl
import Derived.ProofKit
import Derived.SevenTiedAt
import Derived.RecoverIn
import Derived.MakeChecks
import Derived.OpenShut
set_option linter.all false
namespace Go.Hx
variable {P:Program} {G:Nat->Option (List AVal)} {Γ Γ':aK} {H H':AHeap} {w w':World}
def aQ:AVal->List Nat
 |.own id _ _ _ _=>[id]
 |.ptr id _ _=>[id]
 |_=>[]
def eG:AVal->List Nat
 |.yld id=>[id]
 |_=>[]
structure FP where
 eff:List Nat
 rs:List Nat
def kA:AVal->Bool
 |.own ..=>true
 |_=>false
def kB (P:Program)(t:TypeId)(x:AVal):List Nat:=match P.underlying t with
 |some (.slice _)=>aQ x
 |_=>[]
def kD (P:Program)(id:Nat)(b:Builtin)(ats:List TypeId)(args:List AVal):FP :=
 match b,ats,args with
 |.append,_,[s,x]=>if kA s then ⟨aQ s,aQ s++aQ x⟩ else ⟨[id],aQ x⟩
 |.copy,_,[d,x]=>⟨aQ d,aQ d++aQ x⟩
 |.clear,_,[d]=>⟨aQ d,aQ d⟩
 |.len,[t],[x]=>⟨[],kB P t x⟩
 |_,_,_=>⟨[],[]⟩
def cL (P:Program)(G:Nat->Option (List AVal))(ρ:Env)(id:Nat):Op->FP
 |.load _ a=>⟨[],aQ (aB G ρ a)⟩
 |.nilCheck a=>⟨[],aQ (aB G ρ a)⟩
 |.slice _ a _ _ _=>⟨[],aQ (aB G ρ a)⟩
 |.fieldAddr _ a _=>⟨[],aQ (aB G ρ a)⟩
 |.indexAddr _ a _=>⟨[],aQ (aB G ρ a)⟩
 |.convert _ _ a=>⟨[],aQ (aB G ρ a)⟩
 |.store _ a _=>⟨aQ (aB G ρ a),aQ (aB G ρ a)⟩
 |.alloc _=>⟨[id],[]⟩
 |.box _ _=>⟨[id],[]⟩
 |.buildSlice _ _ _=>⟨[id],[]⟩
 |.makeSlice _ _ _=>⟨[id],[]⟩
 |.makeMap _ _=>⟨[id],[]⟩
 |.lookup _ x _ _=>⟨[],eG (aB G ρ x)⟩
 |.mapUpdate _ m _ _|.insert _ m _ _|.mapEntry _ m _|.entryStore _ m _ _=>⟨eG (aB G ρ m),eG (aB G ρ m)⟩
 |.call c=>match c.callee with
  |.builtin b=>kD P id b c.argTypes.toList (c.args.toList.map (aB G ρ))
  |_=>⟨[],[]⟩
 |_=>⟨[],[]⟩
def fU (e:Option (Nat × Blk))(g:Nat->Option Blk):Nat->Option Blk :=
 match e with
 |none=>g
 |some (k,b)=>fun j=>if j=k then some b else g j
def iY (H:AHeap):Prop:=∀id b,H.get id=some b->id<H.next
theorem kE (wf:iY H){id gen:Nat}{ec:TypeId × List AVal}(h:H.live id gen=some ec):id<H.next:=wf id _ (jC (e:=ec.1) (cells:=ec.2) h)
theorem jT {H2:AHeap}{id:Nat}(h:H2.get id=H.get id)(gen:Nat):H2.live id gen=H.live id gen:=by unfold AHeap.live;rw[h]
def Local (P:Program)(G:Nat->Option (List AVal))(ρ:Env)(H:AHeap)(o:Op)(v:AVal)(H':AHeap)(f:FP):Prop :=
 ∃(e:Option (Nat × Blk)) (al:Bool),H'.get=fU e H.get/\H'.next=(if al then H.next+1 else H.next) /\
  (∀k b,e=some (k,b)->k∈f.eff/\(al=false->k∈f.rs))/\(al=true->∃b,e=some (H.next,b))/\(∀r,r∈f.rs->r<H.next) /\
  ∀H2:AHeap,(∀r,r∈f.rs->H2.get r=H.get r)->(al=true->H2.get H.next=some .rsv/\H.next≠H2.next)->av P G ρ H2 H.next o=some (v,⟨fU e H2.get,H2.next⟩)
theorem dD {ρ:Env}{o:Op}{v:AVal}{f:FP}(hrs:∀r,r∈f.rs->r<H.next)(h:∀H2:AHeap,(∀r,r∈f.rs->H2.get r=H.get r)->av P G ρ H2 H.next o=some (v,H2)):Local P G ρ H o v H f:=by
 refine⟨none,false,rfl,rfl,?_,?_,hrs,fun H2 ha _=>h H2 ha⟩
 ·intro k b h;cases h
 ·intro h;cases h
theorem pW {ρ:Env}{o:Op}{v:AVal}{f:FP}{b:Blk}(hl:H.lay H.next b=some H')(hta:H.next∈f.eff)(hrs:∀r,r∈f.rs->r<H.next)
  (h:∀H2:AHeap,(∀r,r∈f.rs->H2.get r=H.get r)->∀H2',H2.lay H.next b=some H2'->av P G ρ H2 H.next o=some (v,H2')):Local P G ρ H o v H' f:=by
 obtain⟨h1,h2⟩:=jR hl;have h2':H'.next=H.next+1:=by
  unfold AHeap.lay at hl;rw[SK rfl]at hl;simp only[Option.some.injEq]at hl;rw[<- hl]
 refine⟨some (H.next,b),true,funext h1,by simp[h2'],?_,?_,hrs,fun H2 ha hr=>?_⟩
 ·intro k b' hk;simp only[Option.some.injEq,Prod.mk.injEq]at hk;exact⟨hk.1 ▸ hta,fun h=>by cases h⟩
 ·exact fun _=>⟨b,rfl⟩
 ·obtain⟨hr1,hr2⟩:=hr rfl;refine h H2 ha _ ?_;unfold AHeap.lay;rw[SI hr2,hr1];rfl
theorem ni {ρ:Env}{o:Op}{v:AVal}{f:FP}{id:Nat}{b:Blk}(hid:id∈f.eff)(hid':id∈f.rs)(hrs:∀r,r∈f.rs->r<H.next)
  (h:∀H2:AHeap,(∀r,r∈f.rs->H2.get r=H.get r)->av P G ρ H2 H.next o=some (v,H2.upd id b)):Local P G ρ H o v (H.upd id b) f:=by
 refine⟨some (id,b),false,rfl,rfl,?_,?_,hrs,fun H2 ha _=>h H2 ha⟩
 ·intro k b' hk;simp only[Option.some.injEq,Prod.mk.injEq]at hk;exact⟨hk.1 ▸ hid,fun _=>hk.1 ▸ hid'⟩
 ·intro h;cases h
theorem de {n:Nat}:∀r,r∈([]:List Nat)->r<n:=fun _ h=>by cases h
theorem gM {n id:Nat}(h:id<n):∀r,r∈[id]->r<n:=fun r hr=>by
 simp only[List.mem_singleton]at hr;omega
theorem FS {H2:AHeap}{t:TypeId}{a:AVal}(h:∀r,r∈aQ a->H2.get r=H.get r):gY P H2 t a=gY P H t a:=by
 cases a with
 |ptr id gen off=>simp only[gY];rw[h id (by simp[aQ])]
 |_=>rfl
theorem FT (wf:iY H){t:TypeId}{a v:AVal}(h:gY P H t a=some v):∀r,r∈aQ a->r<H.next:=by
 cases a with
 |ptr id gen off =>
  refine gM ?_;simp only[gY]at h;split at h
  ·rename_i hg;exact wf _ _ hg
  ·cases h
 |own=>simp[gY]at h
 |_=>exact de
theorem FU {t:TypeId}{a v:AVal}(h:jO P H t a v=some H'):∃id gen off g e cells,a=.ptr id gen off/\H.get id=some (.arr g e cells)/\∃cells',H'=H.upd id (.arr g e cells') /\
  ∀H2:AHeap,H2.get id=H.get id->jO P H2 t a v=some (H2.upd id (.arr g e cells')):=by
 cases a with
 |ptr id gen off =>
  simp only[jO]at h;split at h
  ·rename_i g e cells hg;split at h
   ·rename_i hc;simp only[Option.some.injEq]at h;refine⟨id,gen,off,g,e,cells,rfl,hg,_,h.symm,fun H2 h2=>?_⟩;simp only[jO];rw[h2,hg];simp only;rw[SK hc]
   ·cases h
  ·cases h
 |_=>simp[jO]at h
theorem FV (wf:iY H){t:TypeId}{x v:AVal}{i:Int}(h:mT P H t x i=some v):(∀r,r∈aQ x->r<H.next)/\∀H2:AHeap,(∀r,r∈aQ x->H2.get r=H.get r)->mT P H2 t x i=some v:=by
 unfold mT at h ⊢;split at h
 ·split at h
  ·rename_i hc;split at h
   ·rename_i id gen off;simp only[SG]at h;obtain⟨ec,hl,hv⟩:=h;refine⟨gM (kE wf hl),fun H2 h2=>?_⟩;rw[SK hc];simp only[jT (h2 id (by simp[aQ])),hl,Option.map_some,hv]
   ·refine⟨de,fun H2 _=>?_⟩;rw[SK hc];exact h
   ·cases h
  ·cases h
 ·split at h
  ·rename_i hc;split at h
   ·rename_i id gen off len sz;split at h
    ·rename_i hi;simp only[SG]at h;obtain⟨ec,hl,hv⟩:=h;refine⟨gM (kE wf hl),fun H2 h2=>?_⟩;rw[SK hc,SK hi];simp only[jT (h2 id (by simp[aQ])),hl,Option.map_some,hv]
    ·cases h
   ·refine⟨de,fun H2 _=>?_⟩;rw[SK hc];exact h
   ·cases h
  ·cases h
 ·cases h
theorem FW (wf:iY H){t:TypeId}{x v:AVal}{lo hi:Option AVal}(h:mU P H t x lo hi=some v):(∀r,r∈aQ x->r<H.next)/\∀H2:AHeap,(∀r,r∈aQ x->H2.get r=H.get r)->mU P H2 t x lo hi=some v:=by
 unfold mU at h ⊢;split at h
 ·split at h
  ·rename_i hc;split at h
   ·rename_i id gen off;split at h
    ·rename_i e' cells hl;refine⟨gM (kE wf hl),fun H2 h2=>?_⟩;rw[SK hc];simp only[jT (h2 id (by simp[aQ])),hl];exact h
    ·cases h
   ·refine⟨de,fun H2 _=>?_⟩;rw[SK hc];exact h
   ·cases h
  ·cases h
 ·split at h
  ·rename_i hc;split at h
   ·rename_i id gen off len sz;split at h
    ·rename_i hi;have h0:=h;simp only[SL]at h;obtain⟨ec,hl,_⟩:=h;refine⟨gM (kE wf hl),fun H2 h2=>?_⟩;rw[SK hc,SK hi,jT (h2 id (by simp[aQ]))];exact h0
    ·cases h
   ·refine⟨de,fun H2 _=>?_⟩;rw[SK hc];exact h
   ·refine⟨de,fun H2 _=>?_⟩;rw[SK hc];exact h
   ·cases h
  ·cases h
 ·split at h
  ·exact⟨de,fun H2 _=>h⟩
  ·cases h
 ·cases h
theorem FX (wf:iY H){t:TypeId}{x v:AVal}(h:mh P H t x=some v):(∀r,r∈kB P t x->r<H.next)/\∀H2:AHeap,(∀r,r∈kB P t x->H2.get r=H.get r)->mh P H2 t x=some v:=by
 unfold mh kB at *
 cases hu:P.underlying t with
 |none=>rw[hu]at h;cases h
 |some d =>
  rw[hu]at h;cases d with
  |slice e =>
   simp only at h ⊢;split at h
   ·exact⟨de,fun _ _=>h⟩
   ·rename_i id gen off len sz;simp only[SG]at h;obtain⟨ec,hl,hv⟩:=h;refine⟨gM (kE wf hl),fun H2 h2=>?_⟩;simp only[jT (h2 id (by simp[aQ])),hl,Option.map_some,hv]
   ·exact⟨de,fun _ _=>h⟩
   ·cases h
  |string=>exact⟨de,fun _ _=>h⟩
  |array n e=>exact⟨de,fun _ _=>h⟩
  |_=>cases h
theorem wH (wf:iY H){sz:Nat}{x:AVal}{r:Nat × List AVal}(h:cV H sz x=some r):(∀r,r∈aQ x->r<H.next)/\∀H2:AHeap,(∀r,r∈aQ x->H2.get r=H.get r)->cV H2 sz x=some r:=by
 unfold cV at h ⊢;split at h
 ·exact⟨de,fun _ _=>h⟩
 ·rename_i id gen off len sz';split at h
  ·rename_i hsz;simp only[SG]at h;obtain⟨ec,hl,hv⟩:=h;refine⟨gM (kE wf hl),fun H2 h2=>?_⟩;rw[SK hsz];simp only[jT (h2 id (by simp[aQ])),hl,Option.map_some,hv]
  ·cases h
 ·exact⟨de,fun _ _=>h⟩
 ·cases h
theorem AL {a b:List Nat}{p:Nat->Prop}(h1:∀r,r∈a->p r)(h2:∀r,r∈b->p r):∀r,r∈a++b->p r:=fun r hr=>(S5.1 hr).elim (h1 r) (h2 r)
theorem FY (wf:iY H){ρ:Env}{c:Call}{t u:TypeId}{s x v:AVal}(hb:c.callee=.builtin .append)(hats:c.argTypes.toList=[t,u])(hargs:c.args.toList.map (aB G ρ)=[s,x])
  (h:bM P H H.next t u s x=some (v,H')):Local P G ρ H (.call c) v H' (cL P G ρ H.next (.call c)):=by
 have hfp:cL P G ρ H.next (.call c)=if kA s then ⟨aQ s,aQ s++aQ x⟩ else ⟨[H.next],aQ x⟩:=by
  simp only[cL,hb,hats,hargs,kD]
 have hop:∀H2:AHeap,av P G ρ H2 H.next (.call c)=bM P H2 H.next t u s x:=fun H2=>by
  simp only[av,hb,hats,hargs,gZ]
 rw[hfp];unfold bM at h;split at h
 ·rename_i e he;split at h
  ·rename_i e' he';simp only[SL]at h;obtain⟨z,hz,nx,hsrc,h⟩:=h;obtain⟨hxlt,hxl⟩:=wH wf hsrc;split at h
   ·simp only[kA,Bool.false_eq_true,if_false];split at h
    ·rename_i hn0;simp only[Option.some.injEq,Prod.mk.injEq]at h;obtain⟨rfl,rfl⟩:=h;refine dD hxlt fun H2 h2=>?_;rw[hop];simp only[bM,he,he',hz,hxl H2 h2,Option.bind_some,SK hn0]
    ·rename_i hn0;split at h
     ·rename_i hb;simp only[SG,Prod.mk.injEq]at h;obtain⟨H3,hl,rfl,rfl⟩:=h;refine pW hl (by simp) hxlt fun H2 h2 H2' hl2=>?_;rw[hop];simp only[bM,he,he',hz,hxl H2 h2,Option.bind_some,SI hn0,SK hb,hl2,Option.map_some]
     ·cases h
   ·rename_i id' gen off len sz;simp only[kA,if_true];simp only[SL]at h;obtain⟨ec,hl,h⟩:=h;have hlt:∀r,r∈aQ (.own id' gen off len sz)++aQ x->r<H.next:=AL (gM (kE wf hl)) hxlt;have hl2:∀H2:AHeap,(∀r,r∈aQ (.own id' gen off len sz)++aQ x->H2.get r=H.get r)->H2.live id' gen=some ec:=fun H2 h2=>by
     rw[jT (h2 id' (by simp[aQ]))];exact hl
    have hx2:∀H2:AHeap,(∀r,r∈aQ (.own id' gen off len sz)++aQ x->H2.get r=H.get r)->cV H2 (P.cellsOf e) x=some nx:=fun H2 h2 =>
     hxl H2 fun r hr=>h2 r (Vn _ hr)
    split at h
    ·rename_i hc;split at h
     ·rename_i hn0;simp only[Option.some.injEq,Prod.mk.injEq]at h;obtain⟨rfl,rfl⟩:=h;refine dD hlt fun H2 h2=>?_;rw[hop];simp only[bM,he,he',hz,hx2 H2 h2,hl2 H2 h2,Option.bind_some];rw[SK hc,SK hn0]
     ·rename_i hn0;simp only[Option.some.injEq,Prod.mk.injEq]at h;obtain⟨rfl,rfl⟩:=h;refine ni (by simp[aQ]) (by simp[aQ]) hlt fun H2 h2=>?_;rw[hop];simp only[bM,he,he',hz,hx2 H2 h2,hl2 H2 h2,Option.bind_some];rw[SK hc,SI hn0]
    ·cases h
   ·cases h
  ·cases h
 ·cases h
theorem FZ (wf:iY H){ρ:Env}{c:Call}{t u:TypeId}{s x v:AVal}(hb:c.callee=.builtin .copy)(hats:c.argTypes.toList=[t,u])(hargs:c.args.toList.map (aB G ρ)=[s,x])
  (h:lk P H t s x=some (v,H')):Local P G ρ H (.call c) v H' (cL P G ρ H.next (.call c)):=by
 have hfp:cL P G ρ H.next (.call c)=⟨aQ s,aQ s++aQ x⟩:=by
  simp only[cL,hb,hats,hargs,kD]
 have hop:∀H2:AHeap,av P G ρ H2 H.next (.call c)=lk P H2 t s x:=fun H2=>by
  simp only[av,hb,hats,hargs,gZ]
 rw[hfp];unfold lk at h;split at h
 ·rename_i e he;split at h
  ·rename_i hs;simp only[SL]at h;obtain⟨nx,hsrc,h⟩:=h;obtain⟨hxlt,hxl⟩:=wH wf hsrc;split at h
   ·rename_i id' gen off len sz;simp only[SL]at h;obtain⟨ec,hl,h⟩:=h;have hlt:∀r,r∈aQ (.own id' gen off len sz)++aQ x->r<H.next:=AL (gM (kE wf hl)) hxlt;split at h
    ·rename_i hc;simp only[Option.some.injEq,Prod.mk.injEq]at h;obtain⟨rfl,rfl⟩:=h;refine ni (by simp[aQ]) (by simp[aQ]) hlt fun H2 h2=>?_;have hl2:H2.live id' gen=some ec:=by
      rw[jT (h2 id' (by simp[aQ]))];exact hl
     rw[hop];simp only[lk,he,hs,if_true,hxl H2 fun r hr=>h2 r (Vn _ hr),hl2,Option.bind_some];rw[SK hc]
    ·cases h
   ·cases h
  ·cases h
 ·cases h
theorem F1 (wf:iY H){ρ:Env}{c:Call}{t:TypeId}{s v:AVal}(hb:c.callee=.builtin .clear)(hats:c.argTypes.toList=[t])(hargs:c.args.toList.map (aB G ρ)=[s])
  (h:lu P H t s=some (v,H')):Local P G ρ H (.call c) v H' (cL P G ρ H.next (.call c)):=by
 have hfp:cL P G ρ H.next (.call c)=⟨aQ s,aQ s⟩:=by
  simp only[cL,hb,hats,hargs,kD]
 have hop:∀H2:AHeap,av P G ρ H2 H.next (.call c)=lu P H2 t s:=fun H2=>by
  simp only[av,hb,hats,hargs,gZ]
 rw[hfp];unfold lu at h;split at h
 ·rename_i e he;split at h
  ·simp only[Option.some.injEq,Prod.mk.injEq]at h;obtain⟨rfl,rfl⟩:=h;refine dD (fun r hr=>by cases hr) fun H2 h2=>?_;rw[hop];simp only[lu,he]
  ·rename_i id' gen off len sz;simp only[SL]at h;obtain⟨ec,hl,h⟩:=h;have hlt:∀r,r∈aQ (.own id' gen off len sz)->r<H.next:=gM (kE wf hl);have hl2:∀H2:AHeap,(∀r,r∈aQ (.own id' gen off len sz)->H2.get r=H.get r)->H2.live id' gen=some ec:=fun H2 h2=>by
    rw[jT (h2 id' (by simp[aQ]))];exact hl
   split at h
   ·rename_i h0;simp only[Option.some.injEq,Prod.mk.injEq]at h;obtain⟨rfl,rfl⟩:=h;refine dD hlt fun H2 h2=>?_;rw[hop];simp only[lu,he,hl2 H2 h2,Option.bind_some];rw[SK h0]
   ·rename_i h0;simp only[SL]at h;obtain⟨z,hz,h⟩:=h;split at h
    ·rename_i hc;simp only[Option.some.injEq,Prod.mk.injEq]at h;obtain⟨rfl,rfl⟩:=h;refine ni (by simp[aQ]) (by simp[aQ]) hlt fun H2 h2=>?_;rw[hop];simp only[lu,he,hl2 H2 h2,hz,Option.bind_some];rw[SI h0,SK hc]
    ·cases h
  ·cases h
 ·cases h
theorem AM (wf:iY H){ρ:Env}{o:Op}{t:TypeId}{m k x:Operand}{v:AVal}(h:jA P H t (aB G ρ m) (aB G ρ k) (aB G ρ x)=some (v,H'))(hfp:cL P G ρ H.next o=⟨eG (aB G ρ m),eG (aB G ρ m)⟩)
  (hop:∀H2:AHeap,av P G ρ H2 H.next o=jA P H2 t (aB G ρ m) (aB G ρ k) (aB G ρ x)):Local P G ρ H o v H' (cL P G ρ H.next o):=by
 rw[hfp];unfold jA at h;split at h
 ·rename_i hm;split at h
  ·rename_i id k' u hx hk hu;split at h
   ·rename_i es hg;simp only[Option.some.injEq,Prod.mk.injEq]at h;obtain⟨rfl,rfl⟩:=h;refine ni (by rw[hx];simp[eG]) (by rw[hx];simp[eG]) (by rw[hx];exact gM (wf _ _ hg)) fun H2 h2=>?_;have hg2:H2.get id=some (.mp es):=(by rw[h2 id (by rw[hx];simp[eG])];exact hg);rw[hop];simp only[jA,hm,if_true,hx,hk,hu,hg2]
   ·cases h
  ·cases h
 ·cases h
theorem F2 (wf:iY H){s d:TypeId}{x v:AVal}(h:lD P H s d x=some v):(∀r,r∈aQ x->r<H.next)/\∀H2:AHeap,(∀r,r∈aQ x->H2.get r=H.get r)->lD P H2 s d x=some v:=by
 have bytes:∀y:AVal,mX P H s d y=some v->(∀r,r∈aQ y->r<H.next)/\∀H2:AHeap,(∀r,r∈aQ y->H2.get r=H.get r)->mX P H2 s d y=some v:=by
  intro y h;unfold mX at h;split at h
  ·rename_i hsb;simp only[SL]at h;obtain⟨nl,hs,h⟩:=h;obtain⟨h1,h2⟩:=wH wf hs;refine⟨h1,fun H2 ha=>?_⟩;unfold mX;rw[SK hsb,h2 H2 ha];exact h
  ·cases h
 unfold lD at h;split at h
 ·exact bytes _ h
 ·exact bytes _ h
 ·rename_i hne1 hne2;refine⟨fun r hr=>?_,fun H2 _=>?_⟩
  ·unfold lz at h;split at h
   ·rename_i a ha;cases x<;>simp_all[aQ,AVal.cZ]
   ·cases h
  ·unfold lD;split
   ·exact absurd rfl (hne1 _ _ _ _ _)
   ·exact absurd rfl (hne2 _ _)
   ·exact h
theorem F3 (wf:iY H){ρ:Env}{o:Op}{v:AVal}(h:av P G ρ H H.next o=some (v,H')):Local P G ρ H o v H' (cL P G ρ H.next o):=by
 cases o with
 |makeMap t r =>
  simp only[av]at h;split at h
  ·simp only[SG,Prod.mk.injEq]at h;obtain⟨H3,hl,rfl,rfl⟩:=h;refine pW hl (by simp[cL]) de fun H2 _ H2' hl2=>?_;simp only[av,hl2,Option.map_some]
  ·cases h
 |lookup t x i ok =>
  simp only[av,SG,Prod.mk.injEq]at h;obtain⟨v',hv,rfl,rfl⟩:=h;have hfp:cL P G ρ H.next (.lookup t x i ok)=⟨[],eG (aB G ρ x)⟩:=rfl;rw[hfp];unfold mi at hv;split at hv
  ·rename_i hm;split at hv
   ·rename_i hx hi;refine dD (by rw[hx];exact de) fun H2 _=>?_;simp only[av,mi,hm,if_true,hx,hi];simp only[Option.some.injEq]at hv;simp[hv]
   ·rename_i id k hx hi;split at hv
    ·rename_i es hg;refine dD (by rw[hx];exact gM (wf _ _ hg)) fun H2 h2=>?_;have hg2:H2.get id=some (.mp es):=(by rw[h2 id (by rw[hx];simp[eG])];exact hg);simp only[av,mi,hm,if_true,hx,hi,hg2];simp only[Option.some.injEq]at hv;simp[hv]
    ·cases hv
   ·cases hv
  ·cases hv
 |mapUpdate t m k x=>exact AM wf (by simp only[av]at h;exact h) (by rfl) fun H2=>rfl
 |insert t m k x=>exact AM wf (by simp only[av]at h;exact h) (by rfl) fun H2=>rfl
 |mapEntry t m k =>
  simp only[av]at h;have hfp:cL P G ρ H.next (.mapEntry t m k)=⟨eG (aB G ρ m),eG (aB G ρ m)⟩:=rfl;rw[hfp];unfold oF at h;split at h
  ·rename_i hm;split at h
   ·rename_i id k' hx hk;split at h
    ·rename_i es hg;have hg2:∀H2:AHeap,(∀r,r∈eG (aB G ρ m)->H2.get r=H.get r)->H2.get id=some (.mp es):=fun H2 h2=>by rw[h2 id (by rw[hx];simp[eG])];exact hg
     split at h
     ·rename_i n u hf;simp only[Option.some.injEq,Prod.mk.injEq]at h;obtain⟨rfl,rfl⟩:=h;refine ni (by rw[hx];simp[eG]) (by rw[hx];simp[eG]) (by rw[hx];exact gM (wf _ _ hg)) fun H2 h2=>?_;simp only[av,oF,hm,if_true,hx,hk,hg2 H2 h2,hf]
     ·rename_i hf;simp only[Option.some.injEq,Prod.mk.injEq]at h;obtain⟨rfl,rfl⟩:=h;refine ni (by rw[hx];simp[eG]) (by rw[hx];simp[eG]) (by rw[hx];exact gM (wf _ _ hg)) fun H2 h2=>?_;simp only[av,oF,hm,if_true,hx,hk,hg2 H2 h2,hf]
    ·cases h
   ·cases h
  ·cases h
 |entryStore t m s x =>
  simp only[av]at h;have hfp:cL P G ρ H.next (.entryStore t m s x)=⟨eG (aB G ρ m),eG (aB G ρ m)⟩:=rfl;rw[hfp];unfold pI at h;split at h
  ·rename_i id s' u hx hs hu;split at h
   ·rename_i es hg;split at h
    ·rename_i hlt;simp only[Option.some.injEq,Prod.mk.injEq]at h;obtain⟨rfl,rfl⟩:=h;refine ni (by rw[hx];simp[eG]) (by rw[hx];simp[eG]) (by rw[hx];exact gM (wf _ _ hg)) fun H2 h2=>?_;have hg2:H2.get id=some (.mp es):=(by rw[h2 id (by rw[hx];simp[eG])];exact hg);simp only[av,pI,hx,hs,hu,hg2];rw[SK hlt]
    ·cases h
   ·cases h
  ·cases h
 |alloc e =>
  simp only[av,SL,SG,Prod.mk.injEq]at h;obtain⟨z,hz,H3,hl,rfl,rfl⟩:=h;refine pW hl (by simp[cL]) de fun H2 _ H2' hl2=>?_;simp only[av,hz,hl2,Option.bind_some,Option.map_some]
 |box e x =>
  simp only[av,SG,Prod.mk.injEq]at h;obtain⟨H3,hl,rfl,rfl⟩:=h;refine pW hl (by simp[cL]) de fun H2 _ H2' hl2=>?_;simp only[av,hl2,Option.map_some]
 |buildSlice t len parts =>
  simp only[av,mW]at h;split at h
  ·rename_i e he;split at h
   ·rename_i hc;simp only[SL,SG,Prod.mk.injEq]at h;obtain⟨z,hz,cells,hcl,H3,hl,rfl,rfl⟩:=h;refine pW hl (by simp[cL]) de fun H2 _ H2' hl2=>?_;simp only[av,mW,he];rw[SK hc];simp only[hz,hcl,hl2,Option.bind_some,Option.map_some]
   ·cases h
  ·cases h
 |makeSlice t l c =>
  simp only[av,mj]at h;split at h
  ·rename_i e k l' k' c' he hl' hc';split at h
   ·rename_i hc;simp only[SL,SG,Prod.mk.injEq]at h;obtain⟨cells,hz,H3,hl,rfl,rfl⟩:=h;refine pW hl (by simp[cL]) de fun H2 _ H2' hl2=>?_;simp only[av,mj,he,hl',hc'];rw[SK hc];simp only[hz,hl2,Option.bind_some,Option.map_some]
   ·cases h
  ·cases h
 |store t a x =>
  simp only[av]at h;split at h
  ·rename_i hu;simp only[SG,Prod.mk.injEq]at h;obtain⟨H3,hst,rfl,rfl⟩:=h;obtain⟨id,gen,off,g,e,cells,ha,hg,cells',rfl,hall⟩:=FU hst;have hfp:cL P G ρ H.next (.store t a x)=⟨[id],[id]⟩:=(by simp only[cL,ha,aQ]);rw[hfp];refine ni (by simp) (by simp) (gM (wf _ _ hg)) fun H2 h2=>?_;simp only[av,hu,if_true,hall H2 (h2 id (by simp)),Option.map_some]
  ·cases h
 |load t p =>
  simp only[av,SG,Prod.mk.injEq]at h;obtain⟨v',hv,rfl,rfl⟩:=h;refine dD (FT wf hv) fun H2 h2=>?_;simp only[av,FS h2,hv,Option.map_some]
 |nilCheck p =>
  simp only[av,SG,Prod.mk.injEq]at h;obtain⟨v',hv,rfl,rfl⟩:=h;have hv0:=hv;unfold lE at hv;split at hv
  ·rename_i id gen off hp;simp only[SG]at hv;obtain⟨ec,hl,hv⟩:=hv;have hfp:cL P G ρ H.next (.nilCheck p)=⟨[],[id]⟩:=(by simp only[cL,hp,aQ]);rw[hfp];refine dD (gM (kE wf hl)) fun H2 h2=>?_;subst hv;simp only[av,hp,lE,jT (h2 id (by simp)),hl,Option.map_some]
  ·rename_i hp;have hfp:cL P G ρ H.next (.nilCheck p)=⟨[],[]⟩:=(by simp only[cL,hp,aQ]);rw[hfp];refine dD de fun H2 _=>?_;simp only[av,hp,lE,Option.map_some,Option.some.injEq]at hv ⊢;rw[hv]
  ·rename_i hp;have hfp:cL P G ρ H.next (.nilCheck p)=⟨[],[]⟩:=(by simp only[cL,hp,aQ]);rw[hfp];refine dD de fun H2 _=>?_;simp only[av,hp,lE,Option.map_some,Option.some.injEq]at hv ⊢;rw[hv]
  ·cases hv
 |slice t x lo hi mx =>
  simp only[av]at h;split at h
  ·simp only[SG,Prod.mk.injEq]at h;obtain⟨v',hv,rfl,rfl⟩:=h;obtain⟨h1,h2⟩:=FW wf hv;refine dD h1 fun H2 h3=>?_;simp only[av,h2 H2 h3,Option.map_some]
  ·cases h
 |indexAddr t x i =>
  simp only[av]at h;split at h
  ·rename_i k i' hi;simp only[SG,Prod.mk.injEq]at h;obtain⟨v',hv,rfl,rfl⟩:=h;obtain⟨h1,h2⟩:=FV wf hv;refine dD h1 fun H2 h3=>?_;simp only[av,hi,h2 H2 h3,Option.map_some]
  ·cases h
 |fieldAddr s x f =>
  simp only[av,SL]at h;obtain⟨of,hof,h⟩:=h;split at h
  ·rename_i id gen off hx;simp only[SG,Prod.mk.injEq]at h;obtain⟨ec,hl,rfl,rfl⟩:=h;have hfp:cL P G ρ H.next (.fieldAddr s x f)=⟨[],[id]⟩:=(by simp only[cL,hx,aQ]);rw[hfp];refine dD (gM (kE wf hl)) fun H2 h2=>?_;simp only[av,hof,Option.bind_some,hx,jT (h2 id (by simp)),hl,Option.map_some]
  ·rename_i cells off hx;simp only[Option.some.injEq,Prod.mk.injEq]at h;obtain⟨rfl,rfl⟩:=h;have hfp:cL P G ρ H.next (.fieldAddr s x f)=⟨[],[]⟩:=(by simp only[cL,hx,aQ]);rw[hfp];refine dD de fun H2 _=>?_;simp only[av,hof,Option.bind_some,hx]
  ·cases h
 |call c =>
  have h0:=h;simp only[av]at h;split at h
  ·rename_i b hb;unfold gZ at h;split at h
   ·rename_i t x hats hargs;simp only[SG,Prod.mk.injEq]at h;obtain⟨v',hv,rfl,rfl⟩:=h;obtain⟨h1,h2⟩:=FX wf hv;have hfp:cL P G ρ H.next (.call c)=⟨[],kB P t x⟩:=(by simp only[cL,hb,hats,hargs,kD]);rw[hfp];refine dD h1 fun H2 h3=>?_;simp only[av,hb,hats,hargs,gZ,h2 H2 h3,Option.map_some]
   ·rename_i hats hargs;exact FY wf hb hats hargs h
   ·rename_i hats hargs;exact FZ wf hb hats hargs h
   ·rename_i hats hargs;exact F1 wf hb hats hargs h
   ·rename_i hats;simp only[SL,SG,Prod.mk.injEq]at h;obtain⟨vs,h1,v',h2,rfl,rfl⟩:=h;have hfp:cL P G ρ H.next (.call c)=⟨[],[]⟩:=(by simp only[cL,hb,kD]);rw[hfp];refine dD de fun H2 _=>?_;simp only[av,hb,gZ,h1,h2,Option.bind_some,Option.map_some]
   ·rename_i hats;simp only[SL,SG,Prod.mk.injEq]at h;obtain⟨vs,h1,v',h2,rfl,rfl⟩:=h;have hfp:cL P G ρ H.next (.call c)=⟨[],[]⟩:=(by simp only[cL,hb,kD]);rw[hfp];refine dD de fun H2 _=>?_;simp only[av,hb,gZ,h1,h2,Option.bind_some,Option.map_some]
   ·cases h
  ·cases h
 |pick c a b =>
  simp only[av]at h;split at h
  ·rename_i t ht;simp only[Option.some.injEq,Prod.mk.injEq]at h;obtain⟨rfl,rfl⟩:=h;refine dD de fun H2 _=>?_;simp only[av,ht]
  ·cases h
 |makeFunc fn f c =>
  simp only[av]at h;split at h
  ·simp only[Option.some.injEq,Prod.mk.injEq]at h;obtain⟨rfl,rfl⟩:=h;exact dD de fun H2 _=>by simp only[av]
  ·cases h
 |makeInterface t x =>
  simp only[av]at h;split at h
  ·rename_i y hy;simp only[SG,Prod.mk.injEq]at h;obtain⟨v',hv,rfl,rfl⟩:=h;refine dD de fun H2 _=>?_;simp only[av,hy,hv,Option.map_some]
  ·cases h
 |field s x f =>
  simp only[av,SL]at h;obtain⟨of,hof,h⟩:=h;split at h
  ·rename_i hx;simp only[SG,Prod.mk.injEq]at h;obtain⟨v',hv,rfl,rfl⟩:=h;refine dD de fun H2 _=>?_;simp only[av,hof,Option.bind_some,hx,hv,Option.map_some]
  ·rename_i hx;simp only[SG,Prod.mk.injEq]at h;obtain⟨v',hv,rfl,rfl⟩:=h;refine dD de fun H2 _=>?_;simp only[av,hof,Option.bind_some,hx,hv,Option.map_some]
  ·cases h
 |move x=>simp only[av,Option.some.injEq,Prod.mk.injEq]at h;obtain⟨rfl,rfl⟩:=h;exact dD de fun H2 _=>by simp only[av]
 |assign x=>simp only[av,Option.some.injEq,Prod.mk.injEq]at h;obtain⟨rfl,rfl⟩:=h;exact dD de fun H2 _=>by simp only[av]
 |build t p=>simp only[av,SG,Prod.mk.injEq]at h;obtain⟨v',hv,rfl,rfl⟩:=h;exact dD de fun H2 _=>by simp only[av,hv,Option.map_some]
 |binOp a b c d e=>simp only[av,SG,Prod.mk.injEq]at h;obtain⟨v',hv,rfl,rfl⟩:=h;exact dD de fun H2 _=>by simp only[av,hv,Option.map_some]
 |unOp a b c=>simp only[av,SG,Prod.mk.injEq]at h;obtain⟨v',hv,rfl,rfl⟩:=h;exact dD de fun H2 _=>by simp only[av,hv,Option.map_some]
 |convert a b c =>
  simp only[av,SG,Prod.mk.injEq]at h;obtain⟨v',hv,rfl,rfl⟩:=h;obtain⟨h1,h2⟩:=F2 wf hv;refine dD h1 fun H2 ha=>?_;simp only[av,h2 H2 ha,Option.map_some]
 |index a b c=>simp only[av,SG,Prod.mk.injEq]at h;obtain⟨v',hv,rfl,rfl⟩:=h;exact dD de fun H2 _=>by simp only[av,hv,Option.map_some]
 |extract a b=>simp only[av,SG,Prod.mk.injEq]at h;obtain⟨v',hv,rfl,rfl⟩:=h;exact dD de fun H2 _=>by simp only[av,hv,Option.map_some]
 |_=>simp[av]at h
theorem F4 {ρ ρ':Env}{o:Op}{id:Nat}(h:∀x,x∈o.operands->aB G ρ x=aB G ρ' x):av P G ρ H id o=av P G ρ' H id o:=by
 have hparts:∀(ps:Array (Nat × Operand)),(∀x,x∈(ps.toList.map (·.2)).toArray->aB G ρ x=aB G ρ' x)->ps.toList.map (fun p=>(p.1,aB G ρ p.2))=ps.toList.map (fun p=>(p.1,aB G ρ' p.2)):=by
  intro ps hp;refine Th fun p hpm=>?_;rw[hp p.2 (by simpa using ⟨p.1,by simpa using hpm⟩)]
 have hlist:∀(ps:Array Operand),(∀x,x∈ps->aB G ρ x=aB G ρ' x)->ps.toList.map (aB G ρ)=ps.toList.map (aB G ρ'):=by
  intro ps hp;exact Th fun p hpm=>hp p (by simpa using hpm)
 cases o with
 |build t ps=>simp only[av];rw[hparts ps h]
 |buildSlice t len ps=>simp only[av];rw[hparts ps h]
 |makeFunc fn f c =>
  simp only[av];rw[hlist f fun x hx=>h x (by simp[Op.operands,hx]),hlist c fun x hx=>h x (by simp[Op.operands,hx])]
 |slice t x lo hi mx =>
  have hx:=h x (by simp[Op.operands]);have hlo:lo.map (aB G ρ)=lo.map (aB G ρ'):=by
   cases lo with
   |none=>rfl
   |some l=>simp only[Option.map_some];rw[h l (by simp[Op.operands])]
  have hhi:hi.map (aB G ρ)=hi.map (aB G ρ'):=by
   cases hi with
   |none=>rfl
   |some l=>simp only[Option.map_some];rw[h l (by simp[Op.operands])]
  simp only[av,hx,hlo,hhi]
 |call c =>
  simp only[av];rw[hlist c.args fun x hx=>h x (by
   simp only[Op.operands,Call.operands];split<;>simp[hx])]
 |pick c a b=>simp only[av,h c (by simp[Op.operands]),h a (by simp[Op.operands]),h b (by simp[Op.operands])]
 |store t a x=>simp only[av,h a (by simp[Op.operands]),h x (by simp[Op.operands])]
 |binOp op t x y u=>simp only[av,h x (by simp[Op.operands]),h y (by simp[Op.operands])]
 |makeSlice t l c=>simp only[av,h l (by simp[Op.operands]),h c (by simp[Op.operands])]
 |indexAddr t x i=>simp only[av,h x (by simp[Op.operands]),h i (by simp[Op.operands])]
 |index t x i=>simp only[av,h x (by simp[Op.operands]),h i (by simp[Op.operands])]
 |move x=>simp only[av,h x (by simp[Op.operands])]
 |assign x=>simp only[av,h x (by simp[Op.operands])]
 |box e x=>simp only[av,h x (by simp[Op.operands])]
 |load e x=>simp only[av,h x (by simp[Op.operands])]
 |nilCheck x=>simp only[av,h x (by simp[Op.operands])]
 |unOp a b x=>simp only[av,h x (by simp[Op.operands])]
 |convert a b x=>simp only[av,h x (by simp[Op.operands])]
 |makeInterface t x=>simp only[av,h x (by simp[Op.operands])]
 |fieldAddr s x f=>simp only[av,h x (by simp[Op.operands])]
 |field s x f=>simp only[av,h x (by simp[Op.operands])]
 |extract x i=>simp only[av,h x (by simp[Op.operands])]
 |lookup t x i ok=>simp only[av,h x (by simp[Op.operands]),h i (by simp[Op.operands])]
 |mapUpdate t m k x=>simp only[av,h m (by simp[Op.operands]),h k (by simp[Op.operands]),h x (by simp[Op.operands])]
 |insert t m k x=>simp only[av,h m (by simp[Op.operands]),h k (by simp[Op.operands]),h x (by simp[Op.operands])]
 |mapEntry t m k=>simp only[av,h m (by simp[Op.operands]),h k (by simp[Op.operands])]
 |entryStore t m s x=>simp only[av,h m (by simp[Op.operands]),h s (by simp[Op.operands]),h x (by simp[Op.operands])]
 |_=>rfl
end Go.Hx
namespace Go.Hx
variable {P:Program} {G:Nat->Option (List AVal)} {Γ Γ':aK} {H H':AHeap} {w w':World}
def bf (P:Program)(G:Nat->Option (List AVal))(fv:AVal)(args:List AVal)(H:AHeap)(v:AVal)(rs:List Nat):Prop :=
 (∀r,r∈rs->r<H.next)/\∀H2:AHeap,(∀r,r∈rs->H2.get r=H.get r)->H.next<=H2.next->aw P G fv args H2 fun r H3=>r=.ret v/\H3=H2
def dE (P:Program)(G:Nat->Option (List AVal))(o:Oper)(K:FP->St->Prop)(s:St):Prop :=
 match o.op with
 |.call { callee:=.value fv,args,.. }=>∃v rs,bf P G (aB G s.ρ fv) (args.toList.map (aB G s.ρ)) s.H v rs/\K ⟨[],rs⟩ ⟨aX s.ρ o.dst v,s.H⟩
 |op=>bz (av P G s.ρ s.H s.H.next op) fun vH=>K (cL P G s.ρ s.H.next op) ⟨aX s.ρ o.dst vH.1,vH.2⟩
def lH (i:Nat)(f:FP)(acc:List (Nat × FP)):List (Nat × FP) :=
 match f with
 |⟨[],[]⟩=>acc
 |f=>(i,f) :: acc
def kF (b:Nat)(f:FP)(acc:List (Nat × FP)):Prop :=
 ∀p,p∈acc->b.testBit p.1=false->(∀r,r∈f.eff->r ∉ p.2.rs)/\(∀r,r∈p.2.eff->r ∉ f.rs)
def iD (P:Program)(G:Nat->Option (List AVal))(all:Array Oper)(tail:St->Prop):List Nat->Nat->List (Nat × FP)->List Oper->St->Prop
 |b :: bs,i,acc,o :: rest,s=>bz (iB all s.ρ o) fun t=>if t=true then dE P G o (fun f s'=>kF b f acc/\iD P G all tail bs (i+1) (lH i f acc) rest s') s
   else iD P G all tail bs (i+1) acc rest ⟨aX s.ρ o.dst (.lit undef),s.H⟩
 |_,_,_,[],s=>tail s
 | [],_,_,_ :: _,_=>False
def wI (o:Oper):List Nat:=(o.after.toList.filter fun e=>Region.binds .any e).map (·.on)
def tT (x:Option Tmp)(l:List Tmp):Bool:=match x with|some d=>!l.contains d|none=>true
def tU (all:Array Oper)(x y:Oper):Bool :=
 tT x.dst (y.looksAt all) && tT y.dst (x.looksAt all) && (match x.dst with|some d=>y.dst != some d|none=>true)
def gj (bs:List Nat)(i:Nat):Nat:=(bs[i]?).getD 0
def wK (bs:List Nat)(i:Nat)(o:Oper):Bool :=
 let es:=wI o
 let b:=gj bs i
 es.all (fun e=>decide (e<i)) && decide (b<2 ^ i) &&
 (List.range i).all (fun j=>!b.testBit j ||es.any fun e=>e == j ||(gj bs e).testBit j)
def tV (all:Array Oper)(bs:List Nat)(K:Nat):Bool :=
 decide (bs.length=K) && decide (K<=all.size) &&
 (List.range all.size).all (fun i=>match all[i]? with|some o=>wK (bs++(List.range' K (all.size-K)).map fun m=>2 ^ m-1) i o|none=>false) &&
 (List.range K).all fun i=>match all[i]? with
  |some o=>(List.range i).all fun j=>(gj bs i).testBit j ||(match all[j]? with|some o'=>tU all o' o|none=>false)
  |none=>false
structure Dt where
 v:AVal
 e:Option (Nat × Blk)
 al:Bool
 f:FP
def kG (all:Array Oper)(i:Nat):Option Tmp:=(all[i]?).bind (·.dst)
def da (all:Array Oper)(d:Nat->Dt)(ρ0:Env):Nat->(Nat->Bool)->Env
 |0,_=>ρ0
 |n+1,D=>if D n then aX (da all d ρ0 n D) (kG all n) (d n).v else da all d ρ0 n D
def cH (d:Nat->Dt)(g0:Nat->Option Blk):Nat->(Nat->Bool)->Nat->Option Blk
 |0,_=>g0
 |n+1,D=>if D n then fU (d n).e (cH d g0 n D) else cH d g0 n D
def bC (d:Nat->Dt):Nat->Nat
 |0=>0
 |n+1=>bC d n+(if (d n).al then 1 else 0)
def ic (x:Dt):Option Nat:=x.e.map (·.1)
theorem pX {e:Option (Nat × Blk)}{g:Nat->Option Blk}{r:Nat}(h:e.map (·.1)≠some r):fU e g r=g r:=by
 cases e with
 |none=>rfl
 |some kb =>
  simp only[fU];rw[SI];rintro rfl;exact h rfl
theorem rB {ρ:Env}{x:Option Tmp}{v:AVal}{t:Tmp}(h:x≠some t):aX ρ x v t=ρ t:=by
 cases x with
 |none=>rfl
 |some d =>
  simp only[aX];rw[SI];rintro rfl;exact h rfl
theorem wL {ρ ρ':Env}{x:Option Tmp}{v:AVal}{t:Tmp}(h:ρ t=ρ' t):aX ρ x v t=aX ρ' x v t:=by
 cases x with
 |none=>exact h
 |some d=>simp only[aX,h]
theorem tW {e:Option (Nat × Blk)}{g g':Nat->Option Blk}{r:Nat}(h:g r=g' r):fU e g r=fU e g' r:=by
 cases e with
 |none=>exact h
 |some kb=>simp only[fU,h]
theorem F5 {ρ:Env}{x y:Option Tmp}{v u:AVal}(h:∀d,x=some d->y≠some d):aX (aX ρ x v) y u=aX (aX ρ y u) x v:=by
 funext t
 by_cases hx:x=some t
 ·rw[rB (h t hx)];exact wL (rB (h t hx)).symm
 ·rw[rB (ρ:=aX ρ y u) hx];exact wL (rB hx)
theorem F6 {e e':Option (Nat × Blk)}{g:Nat->Option Blk}(h:∀r,e.map (·.1)=some r->e'.map (·.1)≠some r):fU e' (fU e g)=fU e (fU e' g):=by
 funext r
 by_cases hx:e.map (·.1)=some r
 ·rw[pX (h r hx)];exact tW (pX (h r hx)).symm
 ·rw[pX (g:=fU e' g) hx];exact tW (pX hx)
section
variable {all:Array Oper} {d d':Nat->Dt} {ρ0:Env} {g0 g0':Nat->Option Blk} {D D':Nat->Bool}
theorem wM {t:Tmp}:∀ {n:Nat},(∀j,j<n->kG all j=some t->D j=D' j)->da all d ρ0 n D t=da all d ρ0 n D' t:=by
 intro n
 induction n with
 |zero=>intro _;rfl
 |succ n ih =>
  intro h;have h0:=ih fun j hj=>h j (by omega);simp only[da];by_cases hd:kG all n=some t
  ·rw[h n (by omega) hd];split
   ·exact wL h0
   ·exact h0
  ·have:∀(b:Bool) (ρ:Env),(if b=true then aX ρ (kG all n) (d n).v else ρ) t=ρ t:=by
    intro b ρ;split
    ·exact rB hd
    ·rfl
   rw[this,this];exact h0
theorem F7 {m:Nat}:∀ {n:Nat},m<=n->da all d ρ0 n (fun j=>decide (j<m))=da all d ρ0 m fun _=>true:=by
 have low:∀k,k<=m->da all d ρ0 k (fun j=>decide (j<m))=da all d ρ0 k fun _=>true:=by
  intro k
  induction k with
  |zero=>intro _;rfl
  |succ k ih =>
   intro hk;simp only[da];rw[ih (by omega),SK (by simp;omega)];simp
 intro n
 induction n with
 |zero =>
  intro hm;obtain rfl:m=0:=by omega
  exact low 0 (by omega)
 |succ n ih =>
  intro hm;by_cases h:m=n+1
  ·subst h;exact low (n+1) (by omega)
  ·simp only[da];rw[SI (by simp;omega)];exact ih (by omega)
theorem wO {r:Nat}:∀ {n:Nat},(∀j,j<n->ic (d j)=some r->D j=D' j)->cH d g0 n D r=cH d g0 n D' r:=by
 intro n
 induction n with
 |zero=>intro _;rfl
 |succ n ih =>
  intro h;have h0:=ih fun j hj=>h j (by omega);simp only[cH];by_cases hd:ic (d n)=some r
  ·rw[h n (by omega) hd];split
   ·exact tW h0
   ·exact h0
  ·have:∀(b:Bool) (g:Nat->Option Blk),(if b=true then fU (d n).e g else g) r=g r:=by
    intro b g;split
    ·exact pX hd
    ·rfl
   rw[this,this];exact h0
theorem F8 {m:Nat}:∀ {n:Nat},m<=n->cH d g0 n (fun j=>decide (j<m))=cH d g0 m fun _=>true:=by
 have low:∀k,k<=m->cH d g0 k (fun j=>decide (j<m))=cH d g0 k fun _=>true:=by
  intro k
  induction k with
  |zero=>intro _;rfl
  |succ k ih =>
   intro hk;simp only[cH];rw[ih (by omega),SK (by simp;omega)];simp
 intro n
 induction n with
 |zero =>
  intro hm;obtain rfl:m=0:=by omega
  exact low 0 (by omega)
 |succ n ih =>
  intro hm;by_cases h:m=n+1
  ·subst h;exact low (n+1) (by omega)
  ·simp only[cH];rw[SI (by simp;omega)];exact ih (by omega)
theorem AN {r:Nat}:∀ {n:Nat},(g0 r=g0' r\/∃j,j<n/\D j=true/\ic (d j)=some r)->cH d g0 n D r=cH d g0' n D r:=by
 intro n
 induction n with
 |zero =>
  rintro(h|⟨j,hj,_⟩)
  ·exact h
  ·omega
 |succ n ih =>
  intro h;simp only[cH];by_cases hD:D n=true
  ·rw[SK hD,SK hD];by_cases ht:ic (d n)=some r
   ·cases he:(d n).e with
    |none=>simp[ic,he]at ht
    |some kb =>
     simp only[ic,he,Option.map_some,Option.some.injEq]at ht;simp only[fU];rw[SK ht.symm,SK ht.symm]
   ·refine tW (ih ?_);rcases h with h|⟨j,hj,h1,h2⟩
    ·exact .inl h
    ·by_cases hjn:j=n
     ·subst hjn;exact absurd h2 ht
     ·exact .inr ⟨j,by omega,h1,h2⟩
  ·rw[SI hD,SI hD];refine ih ?_;rcases h with h|⟨j,hj,h1,h2⟩
   ·exact .inl h
   ·by_cases hjn:j=n
    ·subst hjn;exact absurd h1 hD
    ·exact .inr ⟨j,by omega,h1,h2⟩
theorem F9 {r:Nat}:∀ {n:Nat},(∀j,j<n->D j=true->ic (d j)≠some r)->cH d g0 n D r=g0 r:=by
 intro n
 induction n with
 |zero=>intro _;rfl
 |succ n ih =>
  intro h;simp only[cH];split
  ·rename_i hD;rw[pX (h n (by omega) hD)];exact ih fun j hj=>h j (by omega)
  ·exact ih fun j hj=>h j (by omega)
def fk (D:Nat->Bool)(i:Nat):Nat->Bool:=fun j=>if j=i then true else D j
theorem Ga {i:Nat}(hD:D i=false):∀ {n:Nat},i<n->(∀j,i<j->j<n->D j=true->∀t,kG all i=some t->kG all j≠some t) ->
  da all d ρ0 n (fk D i)=aX (da all d ρ0 n D) (kG all i) (d i).v:=by
 intro n
 induction n with
 |zero=>intro h;omega
 |succ n ih =>
  intro hi h;by_cases hin:i=n
  ·subst hin;have h0:da all d ρ0 i (fk D i)=da all d ρ0 i D:=funext fun t=>wM fun j hj _=>by simp[fk,V1 hj]
   simp only[da];rw[SK (by simp[fk]),SI (by simp[hD]),h0]
  ·have hw:fk D i n=D n:=(by simp[fk,Ne.symm hin]);have h0:=ih (by omega) fun j h1 h2=>h j h1 (by omega);simp only[da,hw];split
   ·rename_i hDn;rw[h0];exact F5 (h n (by omega) (by omega) hDn)
   ·exact h0
theorem Gb {i:Nat}(hD:D i=false):∀ {n:Nat},i<n->(∀j,i<j->j<n->D j=true->∀t,ic (d i)=some t->ic (d j)≠some t) ->
  cH d g0 n (fk D i)=fU (d i).e (cH d g0 n D):=by
 intro n
 induction n with
 |zero=>intro h;omega
 |succ n ih =>
  intro hi h;by_cases hin:i=n
  ·subst hin;have h0:cH d g0 i (fk D i)=cH d g0 i D:=funext fun t=>wO fun j hj _=>by simp[fk,V1 hj]
   simp only[cH];rw[SK (by simp[fk]),SI (by simp[hD]),h0]
  ·have hw:fk D i n=D n:=(by simp[fk,Ne.symm hin]);have h0:=ih (by omega) fun j h1 h2=>h j h1 (by omega);simp only[cH,hw];split
   ·rename_i hDn;rw[h0];exact F6 (h n (by omega) (by omega) hDn)
   ·exact h0
theorem wQ {m n:Nat}(h:m<=n):bC d m<=bC d n:=by
 induction n with
 |zero =>
  have:m=0:=by omega
  subst this;exact Nat.le_refl _
 |succ n ih =>
  by_cases hm:m=n+1
  ·subst hm;exact Nat.le_refl _
  ·exact Tt (ih (by omega)) (by simp[bC])
theorem AO {n c:Nat}(h:c<bC d n):∃j,j<n/\(d j).al=true/\bC d j=c:=by
 induction n with
 |zero=>simp[bC]at h
 |succ n ih =>
  by_cases hc:c<bC d n
  ·obtain⟨j,h1,h2⟩:=ih hc;exact⟨j,by omega,h2⟩
  ·simp only[bC]at h;cases hal:(d n).al with
   |false=>simp[hal]at h;omega
   |true =>
    simp only[hal,if_true]at h;exact⟨n,by omega,hal,by omega⟩
theorem tX {i n:Nat}(h:i<n)(hal:(d i).al=true):bC d i<bC d n:=by
 have:=wQ (d:=d) (m:=i+1) (n:=n) h;simp only[bC,hal,if_true]at this;omega
theorem AP {n:Nat}(h:∀j,j<n->d j=d' j):da all d ρ0 n D=da all d' ρ0 n D:=by
 induction n with
 |zero=>rfl
 |succ n ih=>simp only[da];rw[ih fun j hj=>h j (by omega),h n (by omega)]
theorem AQ {n:Nat}(h:∀j,j<n->d j=d' j):cH d g0 n D=cH d' g0 n D:=by
 induction n with
 |zero=>rfl
 |succ n ih=>simp only[cH];rw[ih fun j hj=>h j (by omega),h n (by omega)]
theorem nj {n:Nat}(h:∀j,j<n->d j=d' j):bC d n=bC d' n:=by
 induction n with
 |zero=>rfl
 |succ n ih=>simp only[bC];rw[ih fun j hj=>h j (by omega),h n (by omega)]
end
def ExecOk (P:Program)(G:Nat->Option (List AVal))(all:Array Oper)(o:Oper)(id:Nat)(s s':St):Prop :=
 (iB all s.ρ o=some false/\s'=⟨aX s.ρ o.dst (.lit undef),s.H⟩) \/
 (iB all s.ρ o=some true/\∃v,s'.ρ=aX s.ρ o.dst v /\
  (av P G s.ρ s.H id o.op=some (v,s'.H) \/
   ∃fv args ats,o.op=.call ⟨.value fv,args,ats⟩/\s'.H=s.H/\aw P G (aB G s.ρ fv) (args.toList.map (aB G s.ρ)) s.H fun r H3=>r=.ret v/\H3=s.H))
theorem Gc {n:Nat}{wb:Base}{rd rb:Option Nat}{all:Array Oper}{o:Oper}{id i:Nat}{s s':St}{a:Act}{next:Act->World->Prop}{Q':Exit->Act->World->Prop}(ho:all[i]?=some o)(hd:jn n o=true)
  (hs:RelS P G n wb Γ s a w) (hr:fh Γ s.H rd rb) (h:ExecOk P G all o id s s')
  (hnext:∀ Γ' a' w',RelS P G n wb Γ' s' a' w'->Evo Γ s.H w Γ' s'.H w'->s.H.next<=s'.H.next->fh Γ' s'.H rd rb->(∃cv,a'=a.put o.dst cv)->next a' w'):
  wpOpIn (gh rb) 0 P all Q' i next a w:=by
 have hdst:∀d,o.dst=some d->d<n:=by
  intro d hd';unfold jn at hd;rw[hd']at hd;simpa using hd
 unfold wpOpIn;rw[ho];simp only;rcases h with ⟨hw,rfl⟩|⟨hw,v,hρ,h⟩
 ·rw[tR hs hw];simp only[Bool.false_eq_true,if_false];refine⟨fun _ _=>trivial,?_⟩;have hs':=mZ (v:=.lit undef) (cv:=undef) hs hdst (Evo.refl Γ s.H w) (Nat.le_refl _) hs.heap (.lit _);exact hnext Γ _ w hs' (Evo.refl _ _ _) (Nat.le_refl _) hr ⟨_,rfl⟩
 ·rw[tR hs hw];simp only[if_true];obtain⟨ρ',H'⟩:=s';simp only at hρ;subst hρ;refine⟨fun _ _=>trivial,?_⟩;rcases h with hop|⟨fv,args,ats,hop,hH,hap⟩
  ·simp only at hop;rw[Oper.semAt_eq _ _ _ (fun c hc=>by rw[hc]at hop;simp[av]at hop)];obtain⟨nx,cv,Γ',w',hrun,hnx,E,hn,R,hv⟩:=At hs.heap (kz hs) hop;rw[hrun];have hri:=Aw hr (Ax hs.heap hop);have hs':=mZ hs hdst E hn R hv;have hr':=hr.bE E hn hs.heap hri;rcases hnx with rfl|⟨rfl,rfl⟩
   ·exact hnext Γ' _ w' hs' E hn hr' ⟨_,rfl⟩
   ·exact hnext Γ' _ w' hs' E hn hr' ⟨_,rfl⟩
  ·simp only at hH;subst hH;rw[Oper.semAt_eq _ _ _ (fun c hc=>by rw[hc]at hop;cases hop)];obtain⟨d,h1,h2⟩:=hap Γ w (a.eval fv) (args.map a.eval) hs.heap (kz hs fv) ⟨by simp,fun i h1 h2=>by simp only[SV,UV,TV];exact kz hs _⟩;have hex:(execOp a.eval o).run P w=(invoke d.target d.args).run P w:=by
    unfold execOp;simp only[hop];unfold resolve;simp only;rw[aA h1]
   have hri:fT s.H rd:=by
    cases rd with
    |none=>trivial
    |some id =>
     obtain⟨b,st,pend,n,env,ps,asg,body,_,_,h3⟩:=hr;exact⟨_,_,_,_,_,_,_,h3⟩
   have cont:∀e w',jD P G Γ s.H w (fun r H3=>r=.ret v/\H3=s.H) e w'->(match e with
     |.returned v=>next (a.put o.dst v) w'
     |.panicked chain=>Q' (.panic chain) a w'
     |.outgrown=>LetsOut Q'):=by
    rintro e w' ⟨r,H',Γ',hend,⟨rfl,rfl⟩,R,E,hn⟩;have hr':=hr.bE E hn hs.heap hri;cases e with
    |returned cv=>exact hnext Γ' _ w' (mZ hs hdst E hn R hend) E hn hr' ⟨_,rfl⟩
    |panicked chain=>exact hend.elim
    |outgrown=>exact hend.elim
   rw[hex];rcases h2 with ⟨f,as,h3,h4⟩|⟨l,f,tm,asg,body,h3,h4⟩|⟨cv,w',h3,h4⟩
   ·rw[h3];refine⟨fun hc=>by simp[Fence.wide]at hc,?_⟩;have h4':CallsIn (gh rb) 0 P f as w _:=h4;refine h4'.mono ?_;intro e w' hp;have:=cont e w' hp;cases e<;>exact this
   ·rw[h3];refine⟨fun hc=>by simp[Fence.wide]at hc,?_⟩;have h4':RoundIn (gh rb) 0 P l f tm asg body w _:=h4;refine h4'.mono ?_;intro e w' hp;have:=cont e w' hp;cases e<;>exact this
   ·rw[h3];exact cont (.returned cv) w' h4
def pO (d:Nat->Dt)(H0:AHeap)(m:Nat):AHeap:=⟨cH d H0.get m fun _=>true,H0.next+bC d m⟩
def canon (all:Array Oper)(d:Nat->Dt)(s0:St)(m:Nat):St:=⟨da all d s0.ρ m fun _=>true,pO d s0.H m⟩
structure GoodAt (P:Program)(G:Nat->Option (List AVal))(all:Array Oper)(bs:List Nat)(s0:St)(d:Nat->Dt)(i:Nat):Prop where
 step:∀o,all[i]?=some o->∀ ρ2 H2,(∀t,t∈o.looksAt all->ρ2 t=(canon all d s0 i).ρ t)->(∀r,r∈(d i).f.rs->H2.get r=(canon all d s0 i).H.get r) ->
  ((d i).al=true->H2.get (s0.H.next+bC d i)=some .rsv/\s0.H.next+bC d i≠H2.next)->s0.H.next+bC d i<=H2.next ->
  ExecOk P G all o (s0.H.next+bC d i) ⟨ρ2,H2⟩ ⟨aX ρ2 o.dst (d i).v,⟨fU (d i).e H2.get,H2.next⟩⟩
 eff:∀k b,(d i).e=some (k,b)->k∈(d i).f.eff/\((d i).al=false->k∈(d i).f.rs)
 al:(d i).al=true->∃b,(d i).e=some (s0.H.next+bC d i,b)
 lt:∀r,r∈(d i).f.rs->r<s0.H.next+bC d i
 apart:∀j,j<i->(gj bs i).testBit j=false->(∀r,r∈(d i).f.eff->r ∉ (d j).f.rs)/\(∀r,r∈(d j).f.eff->r ∉ (d i).f.rs)
theorem wS {all:Array Oper}{o:Oper}{ρ ρ':Env}(h:∀t,t∈o.looksAt all->ρ' t=ρ t):iB all ρ' o=iB all ρ o:=by
 unfold iB;cases hg:o.guard with
 |none=>rfl
 |some gw =>
  obtain⟨j,want⟩:=gw;simp only;cases hd:(all[j]?).bind (·.dst) with
  |none=>rfl
  |some d =>
   simp only;rw[h d (by simp[Oper.looksAt,hg,hd])]
theorem AR {all:Array Oper}{o:Oper}{ρ ρ':Env}(h:∀t,t∈o.looksAt all->ρ' t=ρ t):∀x,x∈o.op.operands->aB G ρ' x=aB G ρ x:=by
 intro x hx;cases x with
 |tmp t=>exact h t (V9 _ (List.mem_filterMap.2 ⟨.tmp t,by simpa using hx,rfl⟩))
 |_=>rfl
def fH (d:Nat->Dt)(m:Nat)(x:Dt):Nat->Dt:=fun j=>if j=m then x else d j
theorem nk {d:Nat->Dt}{m:Nat}{x:Dt}{i:Nat}(h:i<m):d i=fH d m x i:=by simp[fH,V1 h]
theorem ig {d:Nat->Dt}{m:Nat}{x:Dt}:fH d m x m=x:=by simp[fH]
theorem tY {all:Array Oper}{d d':Nat->Dt}{s0:St}{m:Nat}(h:∀j,j<m->d j=d' j):canon all d s0 m=canon all d' s0 m:=by
 unfold canon pO;rw[AP h,AQ h,nj h]
theorem GoodAt.below {all:Array Oper}{bs:List Nat}{s0:St}{d d':Nat->Dt}{i:Nat}(g:GoodAt P G all bs s0 d i)(h:∀j,j<=i->d j=d' j):GoodAt P G all bs s0 d' i:=by
 have hi:=h i (Nat.le_refl _);have hn:bC d i=bC d' i:=nj fun j hj=>h j (by omega);have hc:canon all d s0 i=canon all d' s0 i:=tY fun j hj=>h j (by omega);obtain⟨a,b,c,e,f⟩:=g;refine⟨?_,?_,?_,?_,?_⟩
 ·rw[<- hi,<- hn,<- hc];exact a
 ·rw[<- hi];exact b
 ·rw[<- hi,<- hn];exact c
 ·rw[<- hi,<- hn];exact e
 ·intro j hj hb;rw[<- hi,<- h j (by omega)];exact f j hj hb
def rC (d:Nat->Dt)(m:Nat)(acc:List (Nat × FP)):Prop:=∀j,j<m->(d j).f=⟨[],[]⟩\/(j,(d j).f)∈acc
theorem rC.add {d:Nat->Dt}{m:Nat}{acc:List (Nat × FP)}(h:rC d m acc)(x:Dt):rC (fH d m x) (m+1) (lH m x.f acc):=by
 intro j hj;have key:∀p,p∈acc->p∈lH m x.f acc:=by
  intro p hp;unfold lH;split
  ·exact hp
  ·exact UN _ hp
 by_cases hjm:j=m
 ·subst hjm;rw[ig];by_cases hf:x.f=⟨[],[]⟩
  ·exact .inl hf
  ·refine .inr ?_;unfold lH;split
   ·rename_i h0;exact absurd h0 hf
   ·exact List.mem_cons_self
 ·rw[<- nk (x:=x) (by omega)];exact(h j (by omega)).imp id (key _)
theorem AS {d:Nat->Dt}{m:Nat}{acc:List (Nat × FP)}{b:Nat}{f:FP}(hc:rC d m acc)(h:kF b f acc):∀j,j<m->b.testBit j=false->(∀r,r∈f.eff->r ∉ (d j).f.rs)/\(∀r,r∈(d j).f.eff->r ∉ f.rs):=by
 intro j hj hb;rcases hc j hj with h0|h1
 ·rw[h0];exact⟨fun r _ h=>(by cases h),fun r h=>(by cases h)⟩
 ·exact h _ h1 hb
theorem wT {all:Array Oper}{d:Nat->Dt}{s0:St}{m:Nat}{x:Dt}{o:Oper}(ho:all[m]?=some o):
  canon all (fH d m x) s0 (m+1)=⟨aX (canon all d s0 m).ρ o.dst x.v,⟨fU x.e (canon all d s0 m).H.get,(canon all d s0 m).H.next+(if x.al then 1 else 0)⟩⟩:=by
 have hb:∀j,j<m->d j=fH d m x j:=fun j hj=>nk hj;unfold canon pO;simp only[da,cH,bC,if_true,ig];rw[<- AP hb,<- AQ hb,<- nj hb];simp only[kG,ho,Option.bind_some,Uk]
theorem wU {all:Array Oper}{bs:List Nat}{s0:St}{d:Nat->Dt}{m:Nat}{x:Dt}(hg:∀i,i<m->GoodAt P G all bs s0 d i)(hx:GoodAt P G all bs s0 (fH d m x) m):
  ∀i,i<m+1->GoodAt P G all bs s0 (fH d m x) i:=by
 intro i hi;by_cases him:i=m
 ·subst him;exact hx
 ·exact(hg i (by omega)).below fun j hj=>nk (by omega)
theorem trace {all:Array Oper}{bs:List Nat}{s0:St}{tail:St->Prop}{K:Nat}(hbs:bs.length=K)(hK:K<=all.size):∀(k m:Nat) (d:Nat->Dt) (acc:List (Nat × FP)),k+m=K ->
  (∀i,i<m->GoodAt P G all bs s0 d i)->rC d m acc->iY (canon all d s0 m).H->iD P G all tail (bs.drop m) m acc ((all.toList.take K).drop m) (canon all d s0 m) ->
  ∃d',(∀i,i<K->GoodAt P G all bs s0 d' i)/\tail (canon all d' s0 K):=by
 intro k
 induction k with
 |zero =>
  intro m d acc hm hg hc wf h;obtain rfl:m=K:=by omega
  refine⟨d,hg,?_⟩;have:(all.toList.take m).drop m=[]:=by
   apply VZ;simp only[SN];omega
  rw[this]at h;cases hb:bs.drop m with
  |nil=>rw[hb]at h;simpa only[iD] using h
  |cons b bs'=>rw[hb]at h;simpa only[iD] using h
 |succ k ih =>
  intro m d acc hm hg hc wf h;have hmK:m<K:=by omega
  have hms:m<all.size:=by omega
  have ho:all[m]?=some all[m]:=S7 hms;have hbm:bs.drop m=gj bs m :: bs.drop (m+1):=by
   rw[TB (by omega)];congr 1;simp[gj,SJ (show m<bs.length by omega)]
  have hom:(all.toList.take K).drop m=all[m] :: (all.toList.take K).drop (m+1):=by
   rw[TB (by simp only[SN,UG];omega)];congr 1;simp
  rw[hbm,hom]at h;simp only[iD]at h;obtain⟨t,ht,h⟩:=h;have hnext:(canon all d s0 m).H.next=s0.H.next+bC d m:=rfl;cases t with
  |false =>
   simp only[Bool.false_eq_true,if_false]at h
   let x:Dt:=⟨.lit undef,none,false,⟨[],[]⟩⟩
   have hb:∀j,j<m->d j=fH d m x j:=fun j hj=>nk hj;have hcan:canon all (fH d m x) s0 (m+1)=⟨aX (canon all d s0 m).ρ all[m].dst (.lit undef),(canon all d s0 m).H⟩:=wT ho;have hgx:GoodAt P G all bs s0 (fH d m x) m:=by
    refine⟨?_,?_,?_,?_,?_⟩
    ·rw[ig,<- tY hb];intro o ho' ρ2 H2 h1 h2 h3 _;rw[ho]at ho';cases ho';refine .inl ⟨?_,rfl⟩;simp only;rw[wS h1,ht]
    ·rw[ig];intro k b he;cases he
    ·rw[ig];intro he;cases he
    ·rw[ig];intro r hr;cases hr
    ·rw[ig];intro j hj hbit;exact⟨fun r hr=>(by cases hr),fun r hr hr'=>(by cases hr')⟩
   refine ih (m+1) (fH d m x) acc (by omega) (wU hg hgx) (hc.add x) ?_ ?_
   ·rw[hcan];exact wf
   ·rw[hcan];exact h
  |true =>
   simp only[if_true]at h;unfold dE at h;split at h
   ·rename_i fv args ats hop;obtain⟨v,rs,⟨hlt,hcall⟩,hap,h⟩:=h
    let x:Dt:=⟨v,none,false,⟨[],rs⟩⟩
    have hb:∀j,j<m->d j=fH d m x j:=fun j hj=>nk hj;have hcan:canon all (fH d m x) s0 (m+1)=⟨aX (canon all d s0 m).ρ all[m].dst v,(canon all d s0 m).H⟩:=wT ho;have hgx:GoodAt P G all bs s0 (fH d m x) m:=by
     refine⟨?_,?_,?_,?_,?_⟩
     ·rw[ig,<- tY hb];intro o ho' ρ2 H2 h1 h2 h3 h4;rw[ho]at ho';cases ho';refine .inr ⟨?_,v,rfl,.inr ⟨fv,args,ats,hop,rfl,?_⟩⟩
      ·simp only;rw[wS h1,ht]
      ·have hev:=AR (G:=G) h1;have e1:aB G ρ2 fv=aB G (canon all d s0 m).ρ fv:=hev fv (by simp[hop,Op.operands,Call.operands]);have e2:args.toList.map (aB G ρ2)=args.toList.map (aB G (canon all d s0 m).ρ) :=
        Th fun y hy=>hev y (by simp only[hop,Op.operands,Call.operands];simp;exact .inr (by simpa using hy))
       simp only;rw[e1,e2];exact hcall H2 h2 (by rw[hnext,nj hb];exact h4)
     ·rw[ig];intro k b he;cases he
     ·rw[ig];intro he;cases he
     ·rw[ig,<- nj hb];exact hlt
     ·rw[ig];intro j hj hbit;rw[<- nk hj];exact AS hc hap j hj hbit
    refine ih (m+1) (fH d m x) _ (by omega) (wU hg hgx) (hc.add x) ?_ ?_
    ·rw[hcan];exact wf
    ·rw[hcan];exact h
   ·obtain⟨⟨v,H'⟩,hop,hap,h⟩:=h;obtain⟨e,al,hget,hnx,heff,hal,hlt,hloc⟩:=F3 wf hop
    let x:Dt:=⟨v,e,al,cL P G (canon all d s0 m).ρ (canon all d s0 m).H.next all[m].op⟩
    have hb:∀j,j<m->d j=fH d m x j:=fun j hj=>nk hj;have hcan:canon all (fH d m x) s0 (m+1)=⟨aX (canon all d s0 m).ρ all[m].dst v,H'⟩:=by
     rw[wT ho];congr 1;cases H';simp only at hget hnx;simp only[AHeap.mk.injEq];refine⟨hget.symm,?_⟩;rw[hnx];simp only[x];cases al<;>simp
    have hgx:GoodAt P G all bs s0 (fH d m x) m:=by
     refine⟨?_,?_,?_,?_,?_⟩
     ·rw[ig,<- tY hb,<- nj hb];intro o ho' ρ2 H2 h1 h2 h3 h4;rw[ho]at ho';cases ho';refine .inr ⟨?_,v,rfl,.inl ?_⟩
      ·simp only;rw[wS h1,ht]
      ·simp only;rw[F4 (ρ':=(canon all d s0 m).ρ) (AR h1)];exact hloc H2 h2 h3
     ·rw[ig];exact heff
     ·rw[ig,<- nj hb];exact hal
     ·rw[ig,<- nj hb];exact hlt
     ·rw[ig];intro j hj hbit;rw[<- nk hj];exact AS hc hap j hj hbit
    have wf':iY H':=by
     intro id b hid;rw[hget]at hid;rw[hnx];cases e with
     |none =>
      have:=wf id b hid;split<;>omega
     |some kb =>
      obtain⟨k0,b0⟩:=kb;simp only[fU]at hid;split at hid
      ·rename_i hk;subst hk;cases al with
       |true =>
        obtain⟨b1,hb1⟩:=hal rfl;simp only[Option.some.injEq,Prod.mk.injEq]at hb1;simp only[if_true];omega
       |false =>
        have:=hlt _ ((heff id b0 rfl).2 rfl);simpa using this
      ·have:=wf id b hid;split<;>omega
    refine ih (m+1) (fH d m x) _ (by omega) (wU hg hgx) (hc.add x) ?_ ?_
    ·rw[hcan];exact wf'
    ·rw[hcan];exact h
end Go.Hx
namespace Go.Hx
variable {P:Program} {G:Nat->Option (List AVal)} {Γ Γ':aK} {H H':AHeap} {w w':World}
structure Static (all:Array Oper)(bs:List Nat)(K:Nat):Prop where
 len:bs.length=K
 le:K<=all.size
 down:∀i o,all[i]?=some o->∀e,e∈o.after->Region.binds .any e=true->e.on<i
 just:∀i o j,all[i]?=some o->(if i<K then (gj bs i).testBit j=true else j<i)->∃e,e∈o.after/\Region.binds .any e=true/\(e.on=j\/(if e.on<K then (gj bs e.on).testBit j=true else j<e.on))
 apart:∀i j oi oj,i<K->j<i->all[i]?=some oi->all[j]?=some oj->(gj bs i).testBit j=false->tU all oj oi=true
theorem AY {o:Oper}{k:Nat}:k∈wI o↔∃e,e∈o.after/\Region.binds .any e=true/\e.on=k:=by
 simp[wI,and_assoc]
theorem AZ {bs:List Nat}{K N i j:Nat}(hl:bs.length=K)(hi:i<N)(hK:K<=N):
  (gj (bs++(List.range' K (N-K)).map fun m=>2 ^ m-1) i).testBit j=true↔(if i<K then (gj bs i).testBit j=true else j<i):=by
 unfold gj;by_cases h:i<K
 ·rw[SK h,SU (by omega)]
 ·rw[SI h,SZ (by omega),List.getElem?_map,List.getElem?_range' (by omega)];simp only[Option.map_some,Option.getD_some,Up,decide_eq_true_eq];have:K+1*(i-bs.length)=i:=by omega
  rw[this]
theorem Io {all:Array Oper}{bs:List Nat}{K:Nat}(h:tV all bs K=true):Static all bs K:=by
 unfold tV at h;simp only[TQ,decide_eq_true_eq,Td,Tn]at h;obtain⟨⟨⟨hlen,hle⟩,hone⟩,hap⟩:=h;have hlt:∀i o,all[i]?=some o->i<all.size:=fun i o ho=>(Ua.1 ho).1;have hdown:∀i o,all[i]?=some o->∀e,e∈o.after->Region.binds .any e=true->e.on<i:=by
  intro i o ho e he hb;have h1:=hone i (hlt i o ho);rw[ho]at h1;simp only[wK,TQ,Td,decide_eq_true_eq]at h1;exact h1.1.1 e.on (AY.2 ⟨e,he,hb,rfl⟩)
 refine⟨hlen,hle,hdown,?_,?_⟩
 ·intro i o j ho hj;have hi:=hlt i o ho;have h1:=hone i hi;rw[ho]at h1;simp only[wK,TQ,Td,decide_eq_true_eq,Tn]at h1;obtain⟨⟨_,hb⟩,h2⟩:=h1;have hbit:=(AZ (j:=j) hlen hi hle).2 hj;have hji:j<i:=by
   rcases S9 j i with h|h
   ·exact h
   ·have:=Vi (S1 hb (Te (by omega) h));rw[hbit]at this;cases this
  have h3:=h2 j hji;rw[hbit]at h3;simp only[Bool.not_true,Bool.false_or,List.any_eq_true,T7,beq_iff_eq]at h3;obtain⟨k,hk,h4⟩:=h3;obtain⟨e,he,hbe,rfl⟩:=AY.1 hk;refine⟨e,he,hbe,h4.imp id fun h5=>?_⟩;exact(AZ (j:=j) hlen (Nat.lt_trans (hdown i o ho e he hbe) hi) hle).1 h5
 ·intro i j oi oj hi hj hoi hoj hbit;have h1:=hap i hi;rw[hoi]at h1;simp only[Td,Tn]at h1;have h2:=h1 j hj;rw[hbit,hoj]at h2;simpa using h2
theorem A0 {x:Option Tmp}{l:List Tmp}{t:Tmp}(h:tT x l=true)(hx:x=some t):t ∉ l:=by
 subst hx;simpa[tT] using h
theorem wZ {all:Array Oper}{x y:Oper}(h:tU all x y=true):(∀t,x.dst=some t->t ∉ y.looksAt all)/\(∀t,y.dst=some t->t ∉ x.looksAt all)/\(∀t,x.dst=some t->y.dst≠some t):=by
 simp only[tU,TQ]at h;obtain⟨⟨h1,h2⟩,h3⟩:=h;refine⟨fun t ht=>A0 h1 ht,fun t ht=>A0 h2 ht,fun t ht=>?_⟩;rw[ht]at h3;simpa using h3
def xa (all:Array Oper)(L:Nat->Bool):Prop:=∀i o,L i=true->all[i]?=some o->∀e,e∈o.after->Region.binds .any e=true->L e.on=true
theorem Static.ahead {all:Array Oper}{bs:List Nat}{K:Nat}(S:Static all bs K){L:Nat->Bool}(hL:xa all L):∀i o j,all[i]?=some o->(∀e,e∈o.after->Region.binds .any e=true->L e.on=true) ->
  (if i<K then (gj bs i).testBit j=true else j<i)->L j=true:=by
 intro i
 induction i using Nat.strongRecOn with
 |_ i ih =>
  intro o j ho hdir hj;obtain⟨e,he,hb,h⟩:=S.just i o j ho hj;have hon:=hdir e he hb;rcases h with rfl|h
  ·exact hon
  ·have hlt:=S.down i o ho e he hb;have hi:=(Ua.1 ho).1;exact ih e.on hlt all[e.on] j (S7 (by omega)) (hL e.on _ hon (S7 (by omega))) h
def dX (H:AHeap)(k:Nat):AHeap:=⟨fun j=>if H.next<=j/\j<H.next+k then some .rsv else H.get j,H.next+k⟩
theorem xc (H:AHeap)(k:Nat):Evo Γ H w Γ (dX H k) w where
 os:=rfl
 tape:=rfl
 output:=rfl
 size:=Nat.le_refl _
 keep:=fun _ _ h=>⟨rfl,h⟩
 live:=fun id h1 _ x' hx=>by
  refine⟨x',?_,Blk.le_refl _ _ _⟩;simp only[dX]at hx;rw[SI (by omega)]at hx;exact hx
 frz:=fun _ _=>rfl
theorem xd (w:World):Evo Γ H w Γ H { w with drawn:=w.drawn+1 } where
 os:=rfl
 tape:=rfl
 output:=rfl
 size:=Nat.le_refl _
 keep:=fun _ _ h=>⟨rfl,h⟩
 live:=fun _ _ _ x' hx=>⟨x',hx,Blk.le_refl _ _ _⟩
 frz:=fun _ _=>rfl
theorem RelH.move (R:RelH P G Γ H w)(hheap:w'.heap=w.heap)(E:Evo Γ H w Γ H' w')(hn:H.next<=H'.next)(hget:∀id b,H'.get id=some b->H.get id=some b\/(b=.rsv/\H.get id=none/\id<H'.next))(hsame:∀id b,H.get id=some b->H'.get id=some b):RelH P G Γ H' w' where
 arr id g e cells hg:=by
  rcases hget _ _ hg with h|h
  ·have h1:=R.arr id g e cells h;cases hΓ:Γ id with
   |none=>rw[hΓ]at h1;exact h1
   |some y =>
    obtain⟨b,base,n⟩:=y;rw[hΓ]at h1;obtain⟨c,a1,a2,a3,a4⟩:=h1;exact⟨c,by rw[hheap];exact a1,a2,a3,fun i hi=>let ⟨cv,b1,b2⟩:=a4 i hi;⟨cv,b1,b2.bE E hn⟩⟩
  ·cases h.1
 loop id st pend n env ps asg body hg:=by
  rcases hget _ _ hg with h|h
  ·obtain⟨b,rr,a1,a2,a3,a4,a5,a6,a7,a8,a9⟩:=R.loop id st pend n env ps asg body h;exact⟨b,rr,a1,by rw[hheap];exact a2,a3,a4,a5,a6,a7,a8,fun t ht=>(a9 t ht).bE E hn⟩
  ·cases h.1
 mp id es hg:=by
  rcases hget _ _ hg with h|h
  ·obtain⟨b,a1,a2⟩:=R.mp id es h;exact⟨b,a1,by rw[hheap];exact a2⟩
  ·cases h.1
 rsv id hg:=by
  rcases hget _ _ hg with h|h
  ·exact R.rsv id h
  ·cases hΓ:Γ id with
   |none=>rfl
   |some x =>
    obtain⟨y,hy⟩:=R.dom id x hΓ;rw[h.2.1]at hy;cases hy
 inj:=R.inj
 dom id x h:=let ⟨y,hy⟩:=R.dom id x h;⟨y,hsame _ _ hy⟩
 lt id b base n h:=by rw[hheap];exact R.lt id b base n h
 next id y h:=by
  rcases hget _ _ h with h|h
  ·exact S1 (R.next id y h) hn
  ·exact h.2.2
 glob g cells h:=(R.glob g cells h).bE E hn
 gsz:=R.qS E
theorem Ip (R:RelH P G Γ H w)(k:Nat):RelH P G Γ (dX H k) w:=by
 have hnone:∀id,H.next<=id->H.get id=none:=by
  intro id h;cases hg:H.get id with
  |none=>rfl
  |some y=>have:=R.next id y hg;omega
 refine R.move rfl (xc H k) (by simp[dX]) (fun id b hb=>?_) (fun id b hb=>?_)
 ·simp only[dX]at hb;split at hb
  ·rename_i hc;simp only[Option.some.injEq]at hb;exact .inr ⟨hb.symm,hnone id hc.1,hc.2⟩
  ·exact .inl hb
 ·simp only[dX];rw[SI]
  ·exact hb
  ·have:=R.next id b hb;omega
theorem RelS.move {n:Nat}{wb:Base}{s:St}{a:Act}(hs:RelS P G n wb Γ s a w){H':AHeap}(E:Evo Γ s.H w Γ H' w')(hn:s.H.next<=H'.next)(R:RelH P G Γ H' w'):RelS P G n wb Γ ⟨s.ρ,H'⟩ a w' :=
 ⟨hs.size,fun t=>(hs.env t).bE E hn,R,hs.defers.bE E,Tt hs.low E.size⟩
theorem fh.move {rd rb:Option Nat}(h:fh Γ H rd rb)(hk:∀id b,H.get id=some b->H'.get id=some b):fh Γ H' rd rb:=by
 cases rd with
 |none=>exact h
 |some id =>
  obtain⟨b,st,pend,n,env,ps,asg,body,h1,h2,h3⟩:=h;exact⟨b,_,_,_,_,_,_,_,h1,h2,hk _ _ h3⟩
def cD (all:Array Oper)(d:Nat->Dt)(s0:St)(K:Nat)(D:Nat->Bool):St :=
 ⟨da all d s0.ρ K D,⟨cH d (dX s0.H (bC d K)).get K D,s0.H.next+bC d K⟩⟩
theorem uf {all:Array Oper}{j:Nat}{o:Oper}(h:all[j]?=some o):kG all j=o.dst:=by simp[kG,h]
theorem Iq {all:Array Oper}{bs:List Nat}{K:Nat}(S:Static all bs K){d:Nat->Dt}{s0:St}(hg:∀i,i<K->GoodAt P G all bs s0 d i){D:Nat->Bool}{i:Nat}{o:Oper}(hi:i<K)(ho:all[i]?=some o)(hDi:D i=false)
  (hdown:∀j,j<i->(gj bs i).testBit j=true->D j=true) (hup:∀j,i<j->j<K->D j=true->(gj bs j).testBit i=false):
  ExecOk P G all o (s0.H.next+bC d i) (cD all d s0 K D) (cD all d s0 K (fk D i)):=by
 have hget:∀j,j<K->∃oj,all[j]?=some oj:=fun j hj=>⟨_,S7 (S1 hj S.le)⟩
 have hgi:=hg i hi;have tgtE:∀j r,j<K->ic (d j)=some r->r∈(d j).f.eff/\(((d j).al=true/\r=s0.H.next+bC d j)\/((d j).al=false/\r∈(d j).f.rs)):=by
  intro j r hj ht;unfold ic at ht;cases he:(d j).e with
  |none=>rw[he]at ht;cases ht
  |some kb =>
   obtain⟨k,b⟩:=kb;rw[he]at ht;simp only[Option.map_some,Option.some.injEq]at ht;subst ht;obtain⟨h1,h2⟩:=(hg j hj).eff k b he;refine⟨h1,?_⟩;cases hal:(d j).al with
   |true =>
    obtain⟨b',hb'⟩:=(hg j hj).al hal;rw[he]at hb';simp only[Option.some.injEq,Prod.mk.injEq]at hb';exact .inl ⟨rfl,hb'.1⟩
   |false=>exact .inr ⟨rfl,h2 hal⟩
 have rangeK:∀r,r<s0.H.next+bC d i->((dX s0.H (bC d K)).get r=s0.H.get r\/∃j,j<i/\(fun _:Nat=>true) j=true/\ic (d j)=some r):=by
  intro r hr;by_cases h:s0.H.next<=r
  ·obtain⟨j,h1,h2,h3⟩:=AO (d:=d) (n:=i) (c:=r-s0.H.next) (by omega);obtain⟨b,hb⟩:=(hg j (by omega)).al h2;refine .inr ⟨j,h1,rfl,?_⟩;unfold ic;rw[hb,h3];simp only[Option.map_some,Option.some.injEq];omega
  ·left;simp only[dX];rw[SI (by omega)]
 have henv:∀t,t∈o.looksAt all->da all d s0.ρ K D t=(canon all d s0 i).ρ t:=by
  intro t ht;show _=da all d s0.ρ i (fun _=>true) t;rw[<- F7 (all:=all) (d:=d) (ρ0:=s0.ρ) (m:=i) (n:=K) (by omega)];refine wM fun j hj hdj=>?_;obtain⟨oj,hoj⟩:=hget j hj;rw[uf hoj]at hdj;rcases Vc j i with h|rfl|h
  ·cases hb:(gj bs i).testBit j with
   |true=>rw[hdown j h hb];simp[h]
   |false=>exact absurd ht ((wZ (S.apart i j o oj hi h ho hoj hb)).1 t hdj)
  ·rw[hDi];simp
  ·cases hD:D j with
   |false=>symm;simp;omega
   |true=>exact absurd ht ((wZ (S.apart j i oj o hj h hoj ho (hup j h hj hD))).2.1 t hdj)
 have hheap:∀r,r∈(d i).f.rs->cH d (dX s0.H (bC d K)).get K D r=(canon all d s0 i).H.get r:=by
  intro r hr;show _=cH d s0.H.get i (fun _=>true) r;rw[<- AN (g0:=(dX s0.H (bC d K)).get) (rangeK r (hgi.lt r hr)),<- F8 (m:=i) (n:=K) (by omega)];refine wO fun j hj ht=>?_;obtain⟨he,_⟩:=tgtE j r hj ht;rcases Vc j i with h|rfl|h
  ·cases hb:(gj bs i).testBit j with
   |true=>rw[hdown j h hb];simp[h]
   |false=>exact absurd hr ((hgi.apart j h hb).2 r he)
  ·rw[hDi];simp
  ·cases hD:D j with
   |false=>symm;simp;omega
   |true=>exact absurd hr (((hg j hj).apart i h (hup j h hj hD)).1 r he)
 have hal:(d i).al=true->cH d (dX s0.H (bC d K)).get K D (s0.H.next+bC d i)=some .rsv/\s0.H.next+bC d i≠s0.H.next+bC d K:=by
  intro hal;have hlt:=tX hi hal;refine⟨?_,by omega⟩;obtain⟨b,hb⟩:=hgi.al hal;have heff:=(hgi.eff _ _ hb).1;rw[F9]
  ·simp only[dX];rw[SK (by omega)]
  ·intro j hj hD ht;obtain⟨h1,h2⟩:=tgtE j _ hj ht;rcases Vc j i with h|rfl|h
   ·rcases h2 with ⟨h2,h3⟩|⟨h2,h3⟩
    ·have:=tX h h2;omega
    ·have:=(hg j hj).lt _ h3;have:=wQ (d:=d) (Vk h);omega
   ·rw[hDi]at hD;cases hD
   ·rcases h2 with ⟨h2,h3⟩|⟨h2,h3⟩
    ·have:=tX h hal;omega
    ·exact absurd h3 (((hg j hj).apart i h (hup j h hj hD)).2 _ heff)
 have:=hgi.step o ho (da all d s0.ρ K D) ⟨cH d (dX s0.H (bC d K)).get K D,s0.H.next+bC d K⟩ henv hheap hal (by have:=wQ (d:=d) (Vk hi);simp only;omega);have e1:da all d s0.ρ K (fk D i)=aX (da all d s0.ρ K D) o.dst (d i).v:=by
  rw[Ga hDi hi,uf ho];intro j h hj hD t hti;obtain⟨oj,hoj⟩:=hget j hj;rw[uf ho]at hti;rw[uf hoj];exact(wZ (S.apart j i oj o hj h hoj ho (hup j h hj hD))).2.2 t hti
 have e2:cH d (dX s0.H (bC d K)).get K (fk D i)=fU (d i).e (cH d (dX s0.H (bC d K)).get K D):=by
  refine Gb hDi hi fun j h hj hD r hti htj=>?_;obtain⟨a1,a2⟩:=tgtE i r hi hti;obtain⟨b1,b2⟩:=tgtE j r hj htj;obtain⟨c1,c2⟩:=(hg j hj).apart i h (hup j h hj hD);rcases b2 with ⟨b2,b3⟩|⟨b2,b3⟩
  ·rcases a2 with ⟨a2,a3⟩|⟨a2,a3⟩
   ·have:=tX h a2;omega
   ·exact c1 r b1 a3
  ·exact c2 r a1 b3
 unfold cD;rw[e1,e2];exact this
theorem A1 {all:Array Oper}{bs:List Nat}{K:Nat}{d:Nat->Dt}{s0:St}(hg:∀i,i<K->GoodAt P G all bs s0 d i){D:Nat->Bool}(hD:∀j,j<K->D j=true):cD all d s0 K D=canon all d s0 K:=by
 unfold cD canon pO;have e1:da all d s0.ρ K D=da all d s0.ρ K fun _=>true:=funext fun t=>wM fun j hj _=>hD j hj;have e2:cH d (dX s0.H (bC d K)).get K D=cH d s0.H.get K fun _=>true:=by
  funext r
  rw[wO (D':=fun _=>true) fun j hj _=>hD j hj];refine AN ?_;by_cases h:s0.H.next<=r/\r<s0.H.next+bC d K
  ·obtain⟨j,h1,h2,h3⟩:=AO (d:=d) (n:=K) (c:=r-s0.H.next) (by omega);obtain⟨b,hb⟩:=(hg j h1).al h2;refine .inr ⟨j,h1,rfl,?_⟩;unfold ic;rw[hb,h3];simp only[Option.map_some,Option.some.injEq];omega
  ·left;simp only[dX];rw[SI h]
 rw[e1,e2]
theorem Ir {all:Array Oper}{K:Nat}{d:Nat->Dt}{s0:St}{D:Nat->Bool}(hD:∀j,j<K->D j=false):cD all d s0 K D=⟨s0.ρ,dX s0.H (bC d K)⟩:=by
 unfold cD;have e1:∀n,n<=K->da all d s0.ρ n D=s0.ρ:=by
  intro n
  induction n with
  |zero=>intro _;rfl
  |succ n ih=>intro h;simp only[da];rw[SI (by simp[hD n h])];exact ih (by omega)
 have e2:∀n,n<=K->cH d (dX s0.H (bC d K)).get n D=(dX s0.H (bC d K)).get:=by
  intro n
  induction n with
  |zero=>intro _;rfl
  |succ n ih=>intro h;simp only[cH];rw[SI (by simp[hD n h])];exact ih (by omega)
 rw[e1 K (Nat.le_refl _),e2 K (Nat.le_refl _)];rfl
end Go.Hx
namespace Go.Hx
variable {P:Program} {G:Nat->Option (List AVal)} {Γ Γ':aK} {H H':AHeap} {w w':World}
def iE (listed:Array Bool):Nat->Nat
 |0=>0
 |n+1=>iE listed n+(if listed.getD n true=false then 1 else 0)
theorem A2 {listed:Array Bool}{i:Nat}(hi:listed.getD i true=false):∀n,iE (listed.setIfInBounds i true) n+(if i<n then 1 else 0)=iE listed n:=by
 have hsz:i<listed.size:=by
  rcases S9 i listed.size with h|h
  ·exact h
  ·rw[TE,T6 h]at hi;cases hi
 intro n
 induction n with
 |zero=>simp[iE]
 |succ n ih =>
  simp only[iE];by_cases hin:n=i
  ·subst hin;have:(listed.setIfInBounds n true).getD n true=true:=(by simp[hsz]);have h2:(if n<n then 1 else 0)=0:=SI (UK n);have h3:(if n<n+1 then 1 else 0)=1:=SK (Vg n);rw[h2]at ih;rw[this,h3,hi];simp;omega
  ·rw[getD_set_ne true (Ne.symm hin)];have h4:(if i<n+1 then 1 else 0)=(if i<n then 1 else 0):=by
    by_cases h:i<n
    ·rw[SK h,SK (show i<n+1 by omega)]
    ·rw[SI h,SI (show ¬i<n+1 by omega)]
   rw[h4];generalize (if i<n then 1 else 0)=x at ih ⊢;omega
theorem A3 {listed:Array Bool}{n:Nat}(h:iE listed n=0):∀j,j<n->listed.getD j true=true:=by
 induction n with
 |zero=>intro j hj;omega
 |succ n ih =>
  simp only[iE]at h;intro j hj;by_cases hjn:j=n
  ·subst hjn;cases hl:listed.getD j true with
   |true=>rfl
   |false=>rw[hl]at h;simp at h
  ·exact ih (by omega) j (by omega)
theorem Is {n:Nat}:∀m,m<=n->iE (Array.replicate n false) m=m:=by
 intro m
 induction m with
 |zero=>intro _;rfl
 |succ m ih =>
  intro h;simp only[iE];rw[ih (by omega),SK];rw[TE,Ve,SK (by omega)];rfl
theorem rE {listed:Array Bool}{i:Nat}(h:i<listed.size)(x y:Bool):listed.getD i x=listed.getD i y:=by
 simp[TE,S7 h]
section
variable {n:Nat} {wb:Base} {rd rb:Option Nat} {Q:AX->St->Prop} {all:Array Oper} {bs:List Nat} {K:Nat} {id:Nat} {dr:Bool}
theorem A4 (S:Static all bs K)(hfit:∀o,o∈all.toList->jn n o=true):∀(r m:Nat) (listed:Array Bool) (s:St) (Γ:aK) (a:Act) (w:World),r+m=all.size->K<=m->listed.size=all.size->iE listed all.size=r ->
  (∀j,j<all.size->(listed.getD j true=true↔j<m))->fj P G rd Q all (all.toList.drop m) s->RelS P G n wb Γ s a w->fh Γ s.H rd rb ->
  ∀(Q':Exit->Act->World->Prop),(∀e a' w',iW P G n wb rd rb (wr (.region id all dr)) Γ s.H a w Q e a' w'->Q' e a' w')->wpAnyIn (gh rb) 0 P .any all Q' r listed a w:=by
 intro r
 induction r with
 |zero =>
  intro m listed s Γ a w hm hKm hsz hc hl h hs hr Q' hq;have:all.toList.drop m=[]:=VZ (by simp;omega);rw[this]at h;refine⟨?_,hq _ _ _ (.here (x:=.normal) trivial h hs hr)⟩;rw[List.eq_nil_iff_forall_not_mem];intro j hj;obtain⟨h1,o,ho,_⟩:=mem_ready.1 hj;have hjs:=(Ua.1 ho).1;rw[(hl j hjs).2 (by omega)]at h1;cases h1
 |succ r ih =>
  intro m listed s Γ a w hm hKm hsz hc hl h hs hr Q' hq;have hms:m<all.size:=by omega
  have ho:all[m]?=some all[m]:=S7 hms;have hmun:listed.getD m true=false:=by
   cases hx:listed.getD m true with
   |false=>rfl
   |true=>have:=(hl m hms).1 hx;omega
  have hready:m∈Region.ready .any all listed:=by
   refine mem_ready.2 ⟨hmun,_,ho,fun e he hb=>?_⟩;have:=S.down m _ ho e he hb;rw[rE (by omega) false true];exact(hl e.on (by omega)).2 this
  refine⟨fun h0=>(by rw[h0]at hready;cases hready),fun i hi=>?_⟩;obtain⟨hiun,oi,hoi,hall⟩:=mem_ready.1 hi;have his:=(Ua.1 hoi).1;have him:m<=i:=by
   rcases S9 i m with h|h
   ·rw[(hl i his).2 h]at hiun;cases hiun
   ·exact h
  have hL:xa all fun j=>listed.getD j false:=by
   intro k ok hk hok e he hb;have hks:=(Ua.1 hok).1;have h1:=S.down k ok hok e he hb;simp only at hk ⊢;rw[rE (by omega) false true]at hk ⊢;have:=(hl k hks).1 hk;exact(hl _ (by omega)).2 (by omega)
  have hieq:i=m:=by
   rcases S9 m i with h|h
   ·have h1:=S.ahead hL i oi m hoi hall (by rw[SI (by omega)];exact h);rw[rE (by omega) false true,hmun]at h1;cases h1
   ·omega
  subst hieq;have hlist:all.toList.drop i=all[i] :: all.toList.drop (i+1):=by
   rw[TB (by simpa using hms)];simp
  rw[hlist]at h;simp only[fj]at h;have hl':∀j,j<all.size->((listed.setIfInBounds i true).getD j true=true↔j<i+1):=by
   intro j hj;by_cases hji:j=i
   ·subst hji;simp
   ·rw[getD_set_ne true (Ne.symm hji),hl j hj];omega
  have hc':iE (listed.setIfInBounds i true) all.size=r:=by
   have:=A2 hmun all.size;rw[SK hms]at this;omega
  have hd:=hfit all[i] (by simp);obtain⟨t,ht,h⟩:=h;unfold wpOpIn;rw[ho];simp only;rw[tR hs ht];cases t with
  |true =>
   simp only[if_true]at h ⊢;refine AB hd hs hr h ?_ ?_
   ·rintro Γ' s' a' w' hk hs' E hn hr' ⟨cv,rfl⟩;exact ih (i+1) _ s' Γ' _ w' (by omega) (by omega) (by simpa using hsz) hc' hl' hk hs' hr' Q' fun e a'' w'' hp=>hq _ _ _ (hp.step E hn (ry hms cv) fun _ h=>h)
   ·rintro Γ' s' a' w' chain hp hc hs' E hn hr' rfl;exact hq _ _ _ ⟨.panic,s',Γ',hc,hp,hs',E,hn,hr',.refl _ _⟩
  |false =>
   simp only[Bool.false_eq_true,if_false]at h ⊢;refine⟨fun _ _=>trivial,?_⟩;have hdst:∀d,all[i].dst=some d->d<n:=by
    intro d hd';unfold jn at hd;rw[hd']at hd;simpa using hd
   have hs':=mZ (v:=.lit undef) (cv:=undef) hs hdst (Evo.refl Γ s.H w) (Nat.le_refl _) hs.heap (.lit _);exact ih (i+1) _ ⟨aX s.ρ all[i].dst (.lit undef),s.H⟩ Γ _ w (by omega) (by omega) (by simpa using hsz) hc' hl' h hs' hr Q' fun e a'' w'' hp=>hq _ _ _ (hp.step (Evo.refl _ _ _) (Nat.le_refl _) (ry hms _) fun _ h=>h)
theorem It (S:Static all bs K)(hfit:∀o,o∈all.toList->jn n o=true){d:Nat->Dt}{s0:St}(hg:∀i,i<K->GoodAt P G all bs s0 d i)(htail:fj P G rd Q all (all.toList.drop K) (canon all d s0 K)):
  ∀(r:Nat) (listed:Array Bool) (D:Nat->Bool) (Γ:aK) (a:Act) (w:World),listed.size=all.size->iE listed all.size=r->(∀j,j<all.size->listed.getD j true=D j)->(∀j,D j=true->j<K)->xa all D ->
  RelS P G n wb Γ (cD all d s0 K D) a w->fh Γ (cD all d s0 K D).H rd rb ->
  ∀(Q':Exit->Act->World->Prop),(∀e a' w',iW P G n wb rd rb (wr (.region id all dr)) Γ (cD all d s0 K D).H a w Q e a' w'->Q' e a' w')->wpAnyIn (gh rb) 0 P .any all Q' r listed a w:=by
 intro r
 induction r with
 |zero =>
  intro listed D Γ a w hsz hc hl hlow hL hs hr Q' hq;have hall:∀j,j<K->D j=true:=fun j hj=>by rw[<- hl j (S1 hj S.le)];exact A3 hc j (S1 hj S.le)
  have hKs:K=all.size:=by
   rcases S9 K all.size with h|h
   ·have h1:=A3 hc K h;rw[hl K h]at h1;have:=hlow K h1;omega
   ·have:=S.le;omega
  rw[A1 hg hall]at hs hr hq;exact A4 S hfit 0 K listed _ Γ a w (by omega) (Nat.le_refl _) hsz hc (fun j hj=>by rw[hl j hj];exact⟨hlow j,hall j⟩) htail hs hr Q' hq
 |succ r ih =>
  intro listed D Γ a w hsz hc hl hlow hL hs hr Q' hq;by_cases hall:∀j,j<K->D j=true
  ·rw[A1 hg hall]at hs hr hq;have hcount:∀m,m<=all.size->iE listed m=m-K:=by
    intro m
    induction m with
    |zero=>intro _;simp[iE]
    |succ m ihm =>
     intro hm;simp only[iE];rw[ihm (by omega),hl m (by omega)];by_cases hmK:m<K
     ·rw[hall m hmK];simp;omega
     ·have:D m=false:=by
       cases hD:D m with
       |false=>rfl
       |true=>exact absurd (hlow m hD) hmK
      rw[this];simp;omega
   have h1:=hcount all.size (Nat.le_refl _);exact A4 S hfit (r+1) K listed _ Γ a w (by have:=S.le;omega) (Nat.le_refl _) hsz hc (fun j hj=>by rw[hl j hj];exact⟨hlow j,hall j⟩) htail hs hr Q' hq
  ·have hex:∃j,j<K/\D j=false:=by
    by_cases h:∃j,j<K/\D j=false
    ·exact h
    ·refine absurd (fun j hj=>?_) hall;cases hD:D j with
     |true=>rfl
     |false=>exact absurd ⟨j,hj,hD⟩ h
   have least:∀k,(∃j,j<k/\j<K/\D j=false)->∃j,j<K/\D j=false/\∀i,i<j->D i=true:=by
    intro k
    induction k with
    |zero=>rintro⟨j,hj,_⟩;omega
    |succ k ihk =>
     rintro⟨j,h1,h2,h3⟩;by_cases h:∃j,j<k/\j<K/\D j=false
     ·exact ihk h
     ·refine⟨j,h2,h3,fun i hi=>?_⟩;cases hD:D i with
      |true=>rfl
      |false=>exact absurd ⟨i,by omega,by omega,hD⟩ h
   obtain⟨j0,hj0K,hj0,hbelow⟩:=least K (let ⟨j,h1,h2⟩:=hex;⟨j,h1,h1,h2⟩);have hj0s:j0<all.size:=S1 hj0K S.le;have hr0:j0∈Region.ready .any all listed:=by
    refine mem_ready.2 ⟨by rw[hl j0 hj0s];exact hj0,_,S7 hj0s,fun e he hb=>?_⟩;have hlt:=S.down j0 _ (S7 hj0s) e he hb;rw[rE (by omega) false true,hl e.on (by omega)];exact hbelow _ hlt
   refine⟨fun h0=>(by rw[h0]at hr0;cases hr0),fun i hi=>?_⟩;obtain⟨hiun,oi,hoi,hdir⟩:=mem_ready.1 hi;have his:=(Ua.1 hoi).1;have hdirD:∀e,e∈oi.after->Region.binds .any e=true->D e.on=true:=fun e he hb=>by
    have:=S.down i oi hoi e he hb;rw[<- hl e.on (by omega),<- rE (by omega) false true];exact hdir e he hb
   have hahead:=S.ahead hL i oi;have hiK:i<K:=by
    rcases S9 i K with h|h
    ·exact h
    ·have:=hahead j0 hoi hdirD (by rw[SI (by omega)];omega);rw[hj0]at this;cases this
   have hDi:D i=false:=(by rw[<- hl i his];exact hiun);have hex:=Iq (P:=P) (G:=G) S hg hiK hoi hDi (fun j hj hb=>hahead j hoi hdirD (by rw[SK hiK];exact hb)) (fun j h1 h2 hD=>by
    cases hb:(gj bs j).testBit i with
    |false=>rfl
    |true =>
     have hjs:j<all.size:=S1 h2 S.le;have:=S.ahead hL j _ i (S7 hjs) (fun e he hbe=>hL j _ hD (S7 hjs) e he hbe) (by rw[SK h2];exact hb);rw[hDi]at this;cases this)
   have hoi':oi=all[i]:=by
    rw[S7 his]at hoi;exact(Option.some.inj hoi).symm
   refine Gc hoi (hfit oi (by rw[hoi'];simp)) hs hr hex ?_;rintro Γ' a' w' hs' E hn hr' ⟨cv,rfl⟩;have hc':iE (listed.setIfInBounds i true) all.size=r:=by
    have:=A2 hiun all.size;rw[SK his]at this;omega
   refine ih (listed.setIfInBounds i true) (fk D i) Γ' _ w' (by simpa using hsz) hc' ?_ ?_ ?_ hs' hr' Q' fun e a'' w'' hp=>hq _ _ _ (hp.step E hn (by rw[hoi'];exact ry his cv) fun _ h=>h)
   ·intro j hj;by_cases hji:j=i
    ·subst hji;simp[fk]
    ·rw[getD_set_ne true (Ne.symm hji),hl j hj];simp[fk,hji]
   ·intro j hj;by_cases hji:j=i
    ·subst hji;exact hiK
    ·simp only[fk,SI hji]at hj;exact hlow j hj
   ·intro k ok hk hok e he hb;by_cases hki:k=i
    ·subst hki;rw[hoi]at hok;cases hok;have:=hdirD e he hb;simp only[fk];split
     ·rfl
     ·exact this
    ·simp only[fk,SI hki]at hk;have:=hL k ok hk hok e he hb;simp only[fk];split
     ·rfl
     ·exact this
theorem W.draw {s:St}(K:Nat)(bs:List Nat)(hm:P.follows .mixedOrders=true)(hfit:all.toList.all (jn n)=true)(hst:tV all bs K=true)
  (h:iD P G all (fj P G rd Q all (all.toList.drop K)) bs 0 [] (all.toList.take K) s):W P G n rd (.region id all true) Q s:=by
 intro wb Γ a w rb hs hr;have S:=Io hst;have hfit':∀o,o∈all.toList->jn n o=true:=fun o ho=>Td.1 hfit o ho;have wf:iY s.H:=fun id b hb=>hs.heap.next id b hb;have hcan0:canon all (fun _=>⟨.lit undef,none,false,⟨[],[]⟩⟩) s 0=s:=rfl;obtain⟨d,hg,htail⟩:=trace (P:=P) (G:=G) (all:=all) (bs:=bs) (s0:=s) (tail:=fj P G rd Q all (all.toList.drop K)) S.len S.le K 0 (fun _=>⟨.lit undef,none,false,⟨[],[]⟩⟩) [] (by omega)
  (fun i hi=>by omega) (fun j hj=>by omega) (by rw[hcan0];exact wf) (by rw[hcan0];exact h)
 refine wpIn_region_any hm ?_
 let w1:World:={ w with drawn:=w.drawn+1 }
 have R1:RelH P G Γ s.H w1:=hs.heap.move rfl (xd w) (Nat.le_refl _) (fun id b hb=>.inl hb) fun id b hb=>hb;have hs1:RelS P G n wb Γ s a w1:=hs.move (xd w) (Nat.le_refl _) R1;have hs2:RelS P G n wb Γ ⟨s.ρ,dX s.H (bC d K)⟩ a w1:=hs1.move (xc _ _) (by simp[dX]) (Ip R1 _);have hr2:fh Γ (dX s.H (bC d K)) rd rb:=hr.move fun id b hb=>by
  simp only[dX];rw[SI]
  ·exact hb
  ·have:=hs.heap.next id b hb;omega
 have e0:cD all d s K (fun _=>false)=⟨s.ρ,dX s.H (bC d K)⟩:=Ir fun _ _=>rfl;refine It (wb:=wb) (id:=id) (dr:=true) S hfit' hg htail all.size _ (fun _=>false) Γ a w1 (by simp) (Is _ (Nat.le_refl _)) ?_ ?_ ?_ ?_ ?_ _ ?_
 ·intro j hj;rw[TE,Ve,SK hj];rfl
 ·intro j hj;cases hj
 ·intro i o hi;cases hi
 ·rw[e0];exact hs2
 ·rw[e0];exact hr2
 ·rw[e0];intro e a' w' hp;refine hp.step ?_ (by simp[dX]) (.refl _ _) fun _ h=>h;exact Evo.trans (xd w) (Nat.le_refl _) (xc _ _)
end
end Go.Hx
namespace Go.Hx
variable {P:Program} {G:Nat->Option (List AVal)}
theorem oJ {α:Type}(a:α)(K:α->Prop):bz (some a) K=K a:=by simp[bz]
theorem tZ {α:Type}(K:α->Prop):bz none K=False:=by simp[bz]
theorem wV {α β:Type}(o:Option α)(f:α->Option β)(K:β->Prop):bz (o.bind f) K=bz o fun a=>bz (f a) K:=by
 cases o<;>simp[bz]
theorem gO {α β:Type}(o:Option α)(f:α->β)(K:β->Prop):bz (o.map f) K=bz o fun a=>K (f a):=by
 cases o<;>simp[bz]
theorem AT {α:Type}(c:Prop)[Decidable c](a:Option α)(K:α->Prop):bz (if c then a else none) K=(c/\bz a K):=by
 by_cases h:c<;>simp[h,bz]
theorem ua {α:Type}{o:Option α}{K K':α->Prop}(h:∀a,K a=K' a):bz o K=bz o K':=by
 have:K=K':=funext h;subst this;rfl
theorem Gd (p q:Prop):iX true p q=p:=by simp[iX]
theorem Ge (p q:Prop):iX false p q=q:=by simp[iX]
theorem iX.mk {t:Bool}{p q:Prop}(h1:t=true->p)(h2:t=false->q):iX t p q:=⟨h1,h2⟩
theorem Gf {f:FuncId}{args args':List AVal}{H H':AHeap}{K:ARes->AHeap->Prop}(h2:args=args')(h3:H=H'):ag P G f args H K=ag P G f args' H' K:=by
 rw[h2,h3]
theorem Gg {n:Nat}{rd:Option Nat}{c:Code}{Q:AX->St->Prop}{s s':St}(h:s=s'):W P G n rd c Q s=W P G n rd c Q s':=by rw[h]
attribute [congr] Gf Gg
theorem Gh (K:St->Prop)(Q:AX->St->Prop)(s:St):kv K Q .normal s=K s:=(rfl)
theorem Gi (K:St->Prop)(Q:AX->St->Prop)(i:Nat)(s:St):kv K Q (.exit i) s=Q (.exit i) s:=(rfl)
theorem Gj (K:St->Prop)(Q:AX->St->Prop)(i:Nat)(s:St):kv K Q (.goto i) s=Q (.goto i) s:=(rfl)
theorem Gk (K:St->Prop)(Q:AX->St->Prop)(s:St):kv K Q .ret s=Q .ret s:=(rfl)
theorem Gl (K:St->Prop)(Q:AX->St->Prop)(s:St):kv K Q .panic s=Q .panic s:=(rfl)
theorem Gm (i:Nat)(Q:AX->St->Prop)(s:St):mq i Q .normal s=Q .normal s:=(rfl)
theorem Gn (i j:Nat)(Q:AX->St->Prop)(s:St):mq i Q (.exit j) s=if j=i then Q .normal s else Q (.exit j) s:=(rfl)
theorem Gp (i j:Nat)(Q:AX->St->Prop)(s:St):mq i Q (.goto j) s=Q (.goto j) s:=(rfl)
theorem Gq (i:Nat)(Q:AX->St->Prop)(s:St):mq i Q .ret s=Q .ret s:=(rfl)
theorem Gr (i:Nat)(Q:AX->St->Prop)(s:St):mq i Q .panic s=Q .panic s:=(rfl)
theorem Gs (Q:AX->St->Prop)(s:St):oH Q .normal s=Q .normal s:=(rfl)
theorem Gt (i:Nat)(Q:AX->St->Prop)(s:St):oH Q (.exit i) s=Q (.exit i) s:=(rfl)
theorem Gu (Q:AX->St->Prop)(s:St):oH Q .ret s=Q .ret s:=(rfl)
theorem Gv (Q:AX->St->Prop)(s:St):oH Q .panic s=Q .panic s:=(rfl)
section code
variable {n:Nat} {rd:Option Nat} {Q:AX->St->Prop} {s:St}
theorem Gw:vc P G n rd .skip Q s=Q .normal s:=(rfl)
theorem Gx (l:Nat):vc P G n rd (.label l) Q s=Q .normal s:=(rfl)
theorem Gy (id:Nat)(ops:Array Oper):vc P G n rd (.region id ops false) Q s=fj P G rd Q ops ops.toList s:=(rfl)
theorem Gz (id:Nat)(ops:Array Oper):vc P G n rd (.region id ops true) Q s=W P G n rd (.region id ops true) Q s:=(rfl)
theorem GA (a b:Code):vc P G n rd (.seq a b) Q s=vc P G n rd a (kv (vc P G n rd b Q) Q) s:=(rfl)
theorem GB (id:Nat)(c:Code):vc P G n rd (.block id c) Q s=vc P G n rd c (mq id Q) s:=(rfl)
theorem GC (c:Code):vc P G n rd (.loop c) Q s=W P G n rd (.loop c) Q s:=(rfl)
theorem GE (f:Operand)(ps:Array Tmp)(asg c:Code):vc P G n rd (.rangeFunc f ps asg c) Q s=W P G n rd (.rangeFunc f ps asg c) Q s:=(rfl)
theorem GF (i:Nat):vc P G n rd (.exit i) Q s=Q (.exit i) s:=(rfl)
theorem GG (c:Code):vc P G n rd (.scope c) Q s=vc P G n rd c (oH Q) s:=(rfl)
theorem GH (i:Nat):vc P G n rd (.goto i) Q s=Q (.goto i) s:=(rfl)
theorem GI:vc P G n rd .ret Q s=Q .ret s:=(rfl)
def AU:AVal->Option Bool
 |.lit (.bool t)=>some t
 |_=>none
theorem GJ (t:Bool):AU (.lit (.bool t))=some t:=rfl
theorem GK (c:Operand)(a b:Code):vc P G n rd (.cond c a b) Q s=bz (AU (aB G s.ρ c)) fun t=>iX t (vc P G n rd a Q s) (vc P G n rd b Q s):=by
 simp only[vc];congr 1
end code
theorem GL (ρ:Env)(t:Tmp):aB G ρ (.tmp t)=ρ t:=rfl
theorem GM (ρ:Env)(v:Value):aB G ρ (.const v)=.lit v:=rfl
theorem GN (ρ:Env)(f:FuncId):aB G ρ (.func f)=.clo f [] []:=rfl
theorem GO (ρ:Env)(d:Tmp)(v:AVal)(t:Tmp):aX ρ (some d) v t=if t=d then v else ρ t:=rfl
theorem GP (ρ:Env)(v:AVal):aX ρ none v=ρ:=rfl
theorem GQ (ws:Nat)(ρ ρ₀:Env)(t:Nat):mask ws ρ ρ₀ t=if ws / 2 ^ t % 2=1 then ρ t else ρ₀ t:=rfl
def iv:AVal->Int
 |.lit (.int _ n)=>n
 |_=>0
theorem aM (k:IntKind)(n:Int):iv (.lit (.int k n))=n:=rfl
theorem wW (l:List AVal)(t:Nat):iC l t=(l[t]?).getD (.lit undef):=rfl
theorem GR (rs:List ResultVar)(H:AHeap)(K:ARes->AHeap->Prop)(s:St):pU P G rs H K .ret s=bz (ie P s.H s.ρ rs) fun vs=>ar P G H K (m9 vs) s.H:=(rfl)
theorem GS (rs:List ResultVar)(H:AHeap)(K:ARes->AHeap->Prop)(s:St):pU P G rs H K .normal s=bz (ie P s.H s.ρ rs) fun vs=>ar P G H K (m9 vs) s.H:=(rfl)
theorem GT (H:AHeap)(ρ:Env):ie P H ρ []=some []:=rfl
theorem GU (H:AHeap)(ρ:Env)(t:Tmp)(r:List ResultVar):ie P H ρ (.tmp t :: r)=(ie P H ρ r).map (ρ t :: ·):=rfl
theorem GV (H:AHeap)(ρ:Env)(a:Tmp)(t:TypeId)(r:List ResultVar):ie P H ρ (.cell a t :: r)=(gY P H t (ρ a)).bind fun v=>(ie P H ρ r).map (v :: ·):=rfl
theorem GW (v:AVal):m9 [v]=v:=rfl
theorem GX (v u:AVal)(r:List AVal):m9 (v :: u :: r)=.tup (v :: u :: r):=rfl
theorem GY:m9 []=.tup []:=rfl
section ops
variable {rd:Option Nat} {Q:AX->St->Prop} {K:St->Prop} {s:St} {d:Option Tmp} {ty:TypeId} {pos:String} {aft:Array Edge} {g:Option (Nat × Bool)}
theorem GZ (all:Array Oper):fj P G rd Q all [] s=Q .normal s:=(rfl)
theorem G1 (all:Array Oper)(op:Op)(rest:List Oper):fj P G rd Q all (⟨d,op,ty,pos,aft,none⟩ :: rest) s=aZ P G rd Q ⟨d,op,ty,pos,aft,none⟩ (fj P G rd Q all rest) s:=by
 simp[fj,iB,oJ]
theorem G2 (all:Array Oper)(op:Op)(rest:List Oper)(j:Nat)(want:Bool):fj P G rd Q all (⟨d,op,ty,pos,aft,some (j,want)⟩ :: rest) s =
  bz (iB all s.ρ ⟨d,op,ty,pos,aft,some (j,want)⟩) fun t=>if t=true then aZ P G rd Q ⟨d,op,ty,pos,aft,some (j,want)⟩ (fj P G rd Q all rest) s else fj P G rd Q all rest ⟨aX s.ρ d (.lit undef),s.H⟩:=(rfl)
def G3 (P:Program)(G:Nat->Option (List AVal))(fv:AVal)(args:List AVal)(H:AHeap)(K:ARes->AHeap->Prop)(_d:TagR K:=.mk):Prop:=aw P G fv args H K
theorem G4 (fv:Operand)(args:Array Operand)(ats:Array TypeId):aZ P G rd Q ⟨d,.call ⟨.value fv,args,ats⟩,ty,pos,aft,g⟩ K s =
  G3 P G (aB G s.ρ fv) (args.toList.map (aB G s.ρ)) s.H fun r H'=>fT H' rd/\match r with
   |.ret v=>K ⟨aX s.ρ d v,H'⟩
   |.panic=>Q .panic ⟨s.ρ,H'⟩:=(rfl)
theorem G5 (x:Operand):aZ P G rd Q ⟨d,.panic x,ty,pos,aft,g⟩ K s=((∃t v,(aB G s.ρ x)=.lit (.iface t v))/\Q .panic s):=(rfl)
theorem G6 (x:Operand):aZ P G rd Q ⟨d,.move x,ty,pos,aft,g⟩ K s=K ⟨aX s.ρ d (aB G s.ρ x),s.H⟩:=by simp[aZ,av,oJ]
theorem G7 (x:Operand):aZ P G rd Q ⟨d,.assign x,ty,pos,aft,g⟩ K s=K ⟨aX s.ρ d (aB G s.ρ x),s.H⟩:=by simp[aZ,av,oJ]
theorem G8 (c a b:Operand):aZ P G rd Q ⟨d,.pick c a b,ty,pos,aft,g⟩ K s=bz (match aB G s.ρ c with|.lit (.bool t)=>some t|_=>none) fun t=>K ⟨aX s.ρ d (if t then aB G s.ρ a else aB G s.ρ b),s.H⟩:=by
 simp only[aZ,av];split<;>simp_all[oJ,tZ]
theorem G9 (e:TypeId):aZ P G rd Q ⟨d,.alloc e,ty,pos,aft,g⟩ K s=bz (bR P e) fun z=>bz (s.H.lay s.H.next (.arr 0 e z)) fun H'=>K ⟨aX s.ρ d (.ptr s.H.next 0 0),H'⟩:=by
 simp only[aZ,av,wV];exact ua fun _=>gO ..
theorem Hh (e:TypeId)(x:Operand):aZ P G rd Q ⟨d,.box e x,ty,pos,aft,g⟩ K s=bz (s.H.lay s.H.next (.arr 0 e (aB G s.ρ x).cells)) fun H'=>K ⟨aX s.ρ d (.ptr s.H.next 0 0),H'⟩:=by
 simp[aZ,av,gO]
theorem Hi (t:TypeId)(parts:Array (Nat × Operand)):aZ P G rd Q ⟨d,.build t parts,ty,pos,aft,g⟩ K s=bz (re P t (parts.toList.map fun p=>(p.1,aB G s.ρ p.2))) fun v=>K ⟨aX s.ρ d v,s.H⟩:=by
 simp[aZ,av,gO]
theorem Hl (t:TypeId)(len:Nat)(parts:Array (Nat × Operand)):aZ P G rd Q ⟨d,.buildSlice t len parts,ty,pos,aft,g⟩ K s =
  bz (mW P s.H s.H.next t len (parts.toList.map fun p=>(p.1,aB G s.ρ p.2))) fun vH=>K ⟨aX s.ρ d vH.1,vH.2⟩:=by
 simp[aZ,av]
theorem Ho (t:TypeId)(a:Operand):aZ P G rd Q ⟨d,.load t a,ty,pos,aft,g⟩ K s=bz (gY P s.H t (aB G s.ρ a)) fun v=>K ⟨aX s.ρ d v,s.H⟩:=by
 simp[aZ,av,gO]
theorem Ht (t:TypeId)(a x:Operand):aZ P G rd Q ⟨d,.store t a x,ty,pos,aft,g⟩ K s=((P.underlying t).isSome=true/\bz (jO P s.H t (aB G s.ρ a) (aB G s.ρ x)) fun H'=>K ⟨aX s.ρ d (.lit undef),H'⟩):=by
 simp[aZ,av,AT,gO]
theorem Hv (x:Operand):aZ P G rd Q ⟨d,.nilCheck x,ty,pos,aft,g⟩ K s=bz (lE s.H (aB G s.ρ x)) fun v=>K ⟨aX s.ρ d v,s.H⟩:=by
 simp[aZ,av,gO]
theorem HA (op:BinOp)(t:TypeId)(x y:Operand)(u:TypeId):aZ P G rd Q ⟨d,.binOp op t x y u,ty,pos,aft,g⟩ K s =
  ru P op t (lF s.H op (aB G s.ρ x) (aB G s.ρ y)) (fun v=>K ⟨aX s.ρ d v,s.H⟩) (bz (bx P op t x y (aB G s.ρ x) (aB G s.ρ y)) fun v=>K ⟨aX s.ρ d v,s.H⟩):=by
 simp[aZ,av,gO]
theorem HB (op:BinOp)(t:TypeId)(Kb:AVal->Prop)(p:Prop):ru P op t none Kb p=p:=rfl
theorem HC (op:BinOp)(t:TypeId)(k:Bool)(Kb:AVal->Prop)(p:Prop):ru P op t (some k) Kb p=(pS (P.underlying t)=true/\∀b:Bool,(k=true->b=false)->Kb (.lit (.bool (if op == .neq then !b else b)))):=rfl
theorem HD (e:TypeId):pS (some (.slice e))=true:=rfl
theorem HE (H:AHeap)(op:BinOp)(v:Value)(y:AVal):lF H op (.lit v) y=none:=by
 unfold lF;split<;>rfl
theorem HF (H:AHeap)(n:Nat)(cells:List AVal):lF H .eql (.vec n cells) (.lit (.slice none 0 0))=some (decide (0<n)):=rfl
theorem HG (H:AHeap)(n:Nat)(cells:List AVal):lF H .neq (.vec n cells) (.lit (.slice none 0 0))=some (decide (0<n)):=rfl
theorem HH:(BinOp.eql == BinOp.neq)=false:=rfl
theorem HI:(BinOp.neq == BinOp.neq)=true:=rfl
theorem HJ (op:UnOp)(t:TypeId)(x:Operand):aZ P G rd Q ⟨d,.unOp op t x,ty,pos,aft,g⟩ K s=bz (pK P op (aB G s.ρ x)) fun v=>K ⟨aX s.ρ d v,s.H⟩:=by
 simp[aZ,av,gO]
theorem HK (a b:TypeId)(x:Operand):aZ P G rd Q ⟨d,.convert a b x,ty,pos,aft,g⟩ K s=bz (lD P s.H a b (aB G s.ρ x)) fun v=>K ⟨aX s.ρ d v,s.H⟩:=by
 simp[aZ,av,gO]
theorem HL (f:FuncId)(first cap:Array Operand):aZ P G rd Q ⟨d,.makeFunc (.func f) first cap,ty,pos,aft,g⟩ K s=K ⟨aX s.ρ d (.clo f (first.toList.map (aB G s.ρ)) (cap.toList.map (aB G s.ρ))),s.H⟩:=by
 simp[aZ,av,oJ]
theorem HM (t:TypeId)(l c:Operand):aZ P G rd Q ⟨d,.makeSlice t l c,ty,pos,aft,g⟩ K s=bz (mj P s.H s.H.next t (aB G s.ρ l) (aB G s.ρ c)) fun vH=>K ⟨aX s.ρ d vH.1,vH.2⟩:=by
 simp[aZ,av]
theorem HN (t:TypeId)(x:Operand)(lo hi:Option Operand):aZ P G rd Q ⟨d,.slice t x lo hi none,ty,pos,aft,g⟩ K s =
  bz (mU P s.H t (aB G s.ρ x) (lo.map (aB G s.ρ)) (hi.map (aB G s.ρ))) fun v=>K ⟨aX s.ρ d v,s.H⟩:=by
 simp[aZ,av,gO]
def uc (P:Program)(H:AHeap)(s:TypeId)(f:Nat)(x:AVal):Option AVal :=
 (bU P s f).bind fun of=>match x with
  |.ptr id gen off=>(H.live id gen).map fun _=>.ptr id gen (off+of.1)
  |.vptr cells off=>some (.vptr cells (off+of.1))
  |_=>none
theorem HO (t:TypeId)(x:Operand)(f:Nat):aZ P G rd Q ⟨d,.fieldAddr t x f,ty,pos,aft,g⟩ K s=bz (uc P s.H t f (aB G s.ρ x)) fun v=>K ⟨aX s.ρ d v,s.H⟩:=by
 simp only[aZ,av,uc,wV];refine ua fun of=>?_;split<;>simp_all[tZ,gO,oJ]
def ud (P:Program)(H:AHeap)(t:TypeId)(x i:AVal):Option AVal:=match i with
 |.lit (.int _ i)=>mT P H t x i
 |_=>none
theorem HP (t:TypeId)(x i:Operand):aZ P G rd Q ⟨d,.indexAddr t x i,ty,pos,aft,g⟩ K s=bz (ud P s.H t (aB G s.ρ x) (aB G s.ρ i)) fun v=>K ⟨aX s.ρ d v,s.H⟩:=by
 simp only[aZ,av,ud];split<;>simp_all[tZ,gO]
theorem HQ (t:TypeId)(x i:Operand):aZ P G rd Q ⟨d,.index t x i,ty,pos,aft,g⟩ K s=bz (tG P t (aB G s.ρ x) (aB G s.ρ i)) fun v=>K ⟨aX s.ρ d v,s.H⟩:=by
 simp[aZ,av,gO]
theorem HR (t:Operand)(i:Nat):aZ P G rd Q ⟨d,.extract t i,ty,pos,aft,g⟩ K s=bz (mY (aB G s.ρ t) i) fun v=>K ⟨aX s.ρ d v,s.H⟩:=by
 simp[aZ,av,gO]
theorem HS (b:Builtin)(args:Array Operand)(ats:Array TypeId):aZ P G rd Q ⟨d,.call ⟨.builtin b,args,ats⟩,ty,pos,aft,g⟩ K s =
  bz (gZ P s.H s.H.next b ats.toList (args.toList.map (aB G s.ρ))) fun vH=>K ⟨aX s.ρ d vH.1,vH.2⟩:=by
 simp[aZ,av]
end ops
theorem builtin_len (H:AHeap)(id:Nat)(t:TypeId)(x:AVal):gZ P H id .len [t] [x]=(mh P H t x).map fun v=>(v,H):=rfl
theorem builtin_append (H:AHeap)(id:Nat)(t u:TypeId)(s x:AVal):gZ P H id .append [t,u] [s,x]=bM P H id t u s x:=rfl
theorem builtin_copy (H:AHeap)(id:Nat)(t u:TypeId)(s x:AVal):gZ P H id .copy [t,u] [s,x]=lk P H t s x:=rfl
theorem builtin_min (H:AHeap)(id:Nat)(ts:List TypeId)(k:IntKind)(a b:Int):gZ P H id .min ts [.lit (.int k a),.lit (.int k b)]=some (.lit (.int k (if b<a then b else a)),H):=by
 cases ts with
 |nil=>rfl
 |cons t ts=>rfl
theorem builtin_max (H:AHeap)(id:Nat)(ts:List TypeId)(k:IntKind)(a b:Int):gZ P H id .max ts [.lit (.int k a),.lit (.int k b)]=some (.lit (.int k (if b > a then b else a)),H):=by
 cases ts with
 |nil=>rfl
 |cons t ts=>rfl
section nums
variable {t:TypeId} {x y:Operand} {k:IntKind} {a b:Int}
theorem HT:bx P .add t x y (.lit (.int k a)) (.lit (.int k b))=some (.lit (.int k (k.wrap (a+b)))):=by
 simp[bx,AVal.cZ,eqGuard,binOp,Op.intArith,bF,bind,Sem.bind,pure]
theorem HU:bx P .sub t x y (.lit (.int k a)) (.lit (.int k b))=some (.lit (.int k (k.wrap (a-b)))):=by
 simp[bx,AVal.cZ,eqGuard,binOp,Op.intArith,bF,bind,Sem.bind,pure]
theorem HV:bx P .mul t x y (.lit (.int k a)) (.lit (.int k b))=some (.lit (.int k (k.wrap (a*b)))):=by
 simp[bx,AVal.cZ,eqGuard,binOp,Op.intArith,bF,bind,Sem.bind,pure]
theorem HW:bx P .quo t x y (.lit (.int k a)) (.lit (.int k b))=if b≠0 then some (.lit (.int k (k.wrap (a.tdiv b)))) else none:=by
 by_cases h:b=0<;>simp[h,bx,AVal.cZ,eqGuard,binOp,Op.intDiv,runtimePanic,program,goPanic,bF,bind,Sem.bind,pure]
theorem HX:bx P .rem t x y (.lit (.int k a)) (.lit (.int k b))=if b≠0 then some (.lit (.int k (a.tmod b))) else none:=by
 by_cases h:b=0<;>simp[h,bx,AVal.cZ,eqGuard,binOp,Op.intDiv,runtimePanic,program,goPanic,bF,bind,Sem.bind,pure]
theorem HY:bx P .lss t x y (.lit (.int k a)) (.lit (.int k b))=some (.lit (.bool (decide (a<b)))):=by
 simp[bx,AVal.cZ,eqGuard,binOp,Op.intCmp,bF,bind,Sem.bind,pure]
theorem HZ:bx P .leq t x y (.lit (.int k a)) (.lit (.int k b))=some (.lit (.bool (decide (a<=b)))):=by
 simp[bx,AVal.cZ,eqGuard,binOp,Op.intCmp,bF,bind,Sem.bind,pure]
theorem Ia:bx P .gtr t x y (.lit (.int k a)) (.lit (.int k b))=some (.lit (.bool (decide (b<a)))):=by
 simp[bx,AVal.cZ,eqGuard,binOp,Op.intCmp,bF,bind,Sem.bind,pure]
theorem Ib:bx P .geq t x y (.lit (.int k a)) (.lit (.int k b))=some (.lit (.bool (decide (b<=a)))):=by
 simp[bx,AVal.cZ,eqGuard,binOp,Op.intCmp,bF,bind,Sem.bind,pure]
theorem Ic:bx P .eql t x y (.lit (.int k a)) (.lit (.int k b))=some (.lit (.bool (decide (a=b)))):=by
 simp[bx,AVal.cZ,eqGuard,binOp,Op.intCmp,bF,bind,Sem.bind,pure];rfl
theorem Ie:bx P .neq t x y (.lit (.int k a)) (.lit (.int k b))=some (.lit (.bool (!decide (a=b)))):=by
 simp[bx,AVal.cZ,eqGuard,binOp,Op.intCmp,bF,bind,Sem.bind,pure];rfl
theorem If {op:UnOp}(h:op=.neg):pK P op (.lit (.int k a))=some (.lit (.int k (k.wrap (0-a)))):=by
 subst h;rfl
theorem Ig (v:Bool):pK P .not (.lit (.bool v))=some (.lit (.bool (!v))):=rfl
theorem Ih (H:AHeap)(s d:TypeId)(v:Value):lD P H s d (.lit v)=lz P s d (.lit v):=rfl
theorem Ii (H:AHeap)(s d:TypeId)(c:List AVal):lD P H s d (.agg c)=lz P s d (.agg c):=rfl
theorem Ij {s d:TypeId}{k':IntKind}(hs:(P.underlying s).isSome=true)(hd:P.underlying d=some (.int k')):lz P s d (.lit (.int k a))=some (.lit (.int k' (k'.wrap a))):=by
 obtain⟨ds,hs⟩:=Tv.1 hs;simp only[lz,AVal.cZ];have:bF P (convert s d (.int k a))=some (.int k' (k'.wrap a)):=by
  simp[convert,underlying,program,hs,hd,bF,bind,Sem.bind,pure,Conv.intToInt]
 rw[this];rfl
end nums
def ext (H:AHeap)(L:List Blk):AHeap :=
 { get:=fun j=>if H.next<=j/\j<H.next+L.length then L[j-H.next]? else H.get j,next:=H.next+L.length }
theorem ext_nil (H:AHeap):ext H []=H:=by
 unfold ext;have:(fun j=>if H.next<=j/\j<H.next+([]:List Blk).length then ([]:List Blk)[j-H.next]? else H.get j)=H.get:=by
  funext j
  rw[SI];simp only[List.length_nil];omega
 rw[this];rfl
theorem aS (H:AHeap)(L:List Blk):(ext H L).next=H.next+L.length:=rfl
theorem ue (H:AHeap)(b:Blk):H.lay H.next b=some (ext H [b]):=by
 unfold AHeap.lay ext;rw[SK rfl];congr 2
 funext j
 by_cases h:j=H.next
 ·subst h;simp
 ·rw[SI h,SI];simp only[List.length_cons,List.length_nil];omega
theorem AV (H:AHeap)(L:List Blk)(b:Blk):(ext H L).lay (H.next+L.length) b=some (ext H (L++[b])):=by
 unfold AHeap.lay;rw[SK (aS H L).symm];unfold ext;congr 2
 ·funext j
  simp only[List.length_append,List.length_cons,List.length_nil];by_cases h:j=H.next+L.length
  ·subst h;rw[SK rfl,SK (by omega),UP];simp
  ·rw[SI h];by_cases h2:H.next<=j/\j<H.next+L.length
   ·rw[SK h2,SK (by omega),SU (by omega)]
   ·rw[SI h2,SI (by omega)]
 ·simp only[List.length_append,List.length_cons,List.length_nil];omega
theorem AW (H:AHeap)(L:List Blk)(i:Nat)(b:Blk)(h:L.length=i):(ext H L).lay (H.next+i) b=some (ext H (L++[b])):=by subst h;exact AV H L b
theorem bD (H:AHeap)(L:List Blk)(i:Nat)(h:i<L.length):(ext H L).get (H.next+i)=L[i]?:=by
 unfold ext;simp only;rw[SK (by omega),UP]
theorem dv (H:AHeap)(L:List Blk)(i:Nat)(h:i<H.next):(ext H L).get i=H.get i:=by
 unfold ext;simp only;rw[SI (by omega)]
theorem wX (H:AHeap)(L:List Blk)(i:Nat)(b:Blk)(h:i<L.length):(ext H L).upd (H.next+i) b=ext H (L.set i b):=by
 unfold ext AHeap.upd;simp only[SO];congr 1
 funext j
 by_cases hj:j=H.next+i
 ·subst hj;rw[SK rfl,SK (by omega),UP,SX h]
 ·rw[SI hj];by_cases h2:H.next<=j/\j<H.next+L.length
  ·rw[SK h2,SK h2,S3 (by omega)]
  ·rw[SI h2,SI h2]
def rD (b:Option Blk)(gen:Nat):Option (TypeId × List AVal) :=
 match b with
 |some (.arr g e cells)=>if g=gen then some (e,cells) else none
 |_=>none
theorem Ik (g gen:Nat)(e:TypeId)(cells:List AVal):rD (some (.arr g e cells)) gen=if g=gen then some (e,cells) else none:=rfl
theorem wY (H:AHeap)(L:List Blk)(i gen:Nat)(h:i<L.length):(ext H L).live (H.next+i) gen=rD L[i]? gen:=by
 unfold AHeap.live rD;rw[bD H L i h];rfl
theorem Il (H:AHeap)(b:Blk)(L:List Blk)(gen:Nat):(ext H (b :: L)).live H.next gen=rD (some b) gen:=wY H (b :: L) 0 gen (by simp)
theorem Im (H:AHeap)(c:Blk)(L:List Blk)(b:Blk):(ext H (c :: L)).upd H.next b=ext H (b :: L):=wX H (c :: L) 0 b (by simp)
theorem gE {H R:AHeap}{L:List Blk}(h:R=ext H L)(i:Nat){b:Blk}(hb:L[i]? = some b):R.get (H.next + i)=some b := by
  rw[h,bD H L i (by
    rcases S9 i L.length with g |g
    · exact g
    · rw[SQ g] at hb;cases hb)]
  exact hb
theorem df {H R:AHeap}{b:Blk}{L:List Blk}(h:R=ext H (b :: L)):R.get H.next=some b := gE h 0 rfl
end Go.Hx
namespace Go.Hx
variable {P:Program} {G:Nat->Option (List AVal)}
def rF (want:Bool):Option AVal->Option Bool
 |some (.lit (.bool b))=>some (b == want)
 |some (.lit _)=>some false
 |none=>some false
 |_=>none
theorem Iu (want b:Bool):rF want (some (.lit (.bool b)))=some (b == want):=rfl
theorem Iv (b:Bool):(b == true)=b:=by cases b<;>rfl
theorem Iw (b:Bool):(b == false)=!b:=by cases b<;>rfl
theorem Ix (b:Bool)(p q:Prop):iX (!b) p q=iX b q p:=by cases b<;>simp[iX]
theorem A5 (t:Bool)(p q:Prop):(if t=true then p else q)=iX t p q:=by cases t<;>simp[iX]
theorem A6 (all:Array Oper)(ρ:Env)(d:Option Tmp)(op:Op)(ty:TypeId)(pos:String)(aft:Array Edge)(j:Nat)(want:Bool):
  iB all ρ ⟨d,op,ty,pos,aft,some (j,want)⟩=rF want (((all[j]?).bind (·.dst)).map ρ):=by
 unfold iB;simp only;cases (all[j]?).bind (·.dst) with
 |none=>rfl
 |some d =>
  simp only[Option.map_some];cases ρ d with
  |lit v=>cases v<;>rfl
  |_=>rfl
section
variable {rd:Option Nat} {Q:AX->St->Prop} {s:St} {d:Option Tmp} {ty:TypeId} {pos:String} {aft:Array Edge} {g:Option (Nat × Bool)}
theorem Iy (all:Array Oper)(op:Op)(rest:List Oper)(j:Nat)(want:Bool):fj P G rd Q all (⟨d,op,ty,pos,aft,some (j,want)⟩ :: rest) s =
  bz (rF want (((all[j]?).bind (·.dst)).map s.ρ)) fun t=>iX t (aZ P G rd Q ⟨d,op,ty,pos,aft,some (j,want)⟩ (fj P G rd Q all rest) s) (fj P G rd Q all rest ⟨aX s.ρ d (.lit undef),s.H⟩):=by
 rw[G2,A6];exact ua fun _=>A5 ..
variable {all:Array Oper} {tail:St->Prop} {b i:Nat} {bs:List Nat} {acc:List (Nat × FP)} {K:FP->St->Prop}
theorem Iz (bs:List Nat):iD P G all tail bs i acc [] s=tail s:=by cases bs<;>rfl
theorem IA (op:Op)(rest:List Oper):iD P G all tail (b :: bs) i acc (⟨d,op,ty,pos,aft,none⟩ :: rest) s =
  dE P G ⟨d,op,ty,pos,aft,none⟩ (fun f s'=>kF b f acc/\iD P G all tail bs (i+1) (lH i f acc) rest s') s:=by
 simp[iD,iB,bz]
theorem IB (op:Op)(rest:List Oper)(j:Nat)(want:Bool):iD P G all tail (b :: bs) i acc (⟨d,op,ty,pos,aft,some (j,want)⟩ :: rest) s =
  bz (rF want (((all[j]?).bind (·.dst)).map s.ρ)) fun t =>
   iX t (dE P G ⟨d,op,ty,pos,aft,some (j,want)⟩ (fun f s'=>kF b f acc/\iD P G all tail bs (i+1) (lH i f acc) rest s') s)
    (iD P G all tail bs (i+1) acc rest ⟨aX s.ρ d (.lit undef),s.H⟩):=by
 simp only[iD,A6];exact ua fun _=>A5 ..
theorem IC (fv:Operand)(args:Array Operand)(ats:Array TypeId):dE P G ⟨d,.call ⟨.value fv,args,ats⟩,ty,pos,aft,g⟩ K s =
  ∃v rs,bf P G (aB G s.ρ fv) (args.toList.map (aB G s.ρ)) s.H v rs/\K ⟨[],rs⟩ ⟨aX s.ρ d v,s.H⟩:=(rfl)
abbrev QF:AX->St->Prop:=fun _ _=>False
theorem ID (x:Operand):dE P G ⟨d,.move x,ty,pos,aft,g⟩ K s=aZ P G none QF ⟨d,.move x,ty,pos,aft,g⟩ (K ⟨[],[]⟩) s:=(rfl)
theorem IE (x:Operand):dE P G ⟨d,.assign x,ty,pos,aft,g⟩ K s=aZ P G none QF ⟨d,.assign x,ty,pos,aft,g⟩ (K ⟨[],[]⟩) s:=(rfl)
theorem IF (c x y:Operand):dE P G ⟨d,.pick c x y,ty,pos,aft,g⟩ K s=aZ P G none QF ⟨d,.pick c x y,ty,pos,aft,g⟩ (K ⟨[],[]⟩) s:=(rfl)
theorem IG (e:TypeId):dE P G ⟨d,.alloc e,ty,pos,aft,g⟩ K s=aZ P G none QF ⟨d,.alloc e,ty,pos,aft,g⟩ (K ⟨[s.H.next],[]⟩) s:=(rfl)
theorem IH (e:TypeId)(x:Operand):dE P G ⟨d,.box e x,ty,pos,aft,g⟩ K s=aZ P G none QF ⟨d,.box e x,ty,pos,aft,g⟩ (K ⟨[s.H.next],[]⟩) s:=(rfl)
theorem II (t:TypeId)(p:Array (Nat × Operand)):dE P G ⟨d,.build t p,ty,pos,aft,g⟩ K s=aZ P G none QF ⟨d,.build t p,ty,pos,aft,g⟩ (K ⟨[],[]⟩) s:=(rfl)
theorem IJ (t:TypeId)(l:Nat)(p:Array (Nat × Operand)):dE P G ⟨d,.buildSlice t l p,ty,pos,aft,g⟩ K s=aZ P G none QF ⟨d,.buildSlice t l p,ty,pos,aft,g⟩ (K ⟨[s.H.next],[]⟩) s:=(rfl)
theorem IK (t:TypeId)(x:Operand):dE P G ⟨d,.load t x,ty,pos,aft,g⟩ K s=aZ P G none QF ⟨d,.load t x,ty,pos,aft,g⟩ (K ⟨[],aQ (aB G s.ρ x)⟩) s:=(rfl)
theorem IL (t:TypeId)(x y:Operand):dE P G ⟨d,.store t x y,ty,pos,aft,g⟩ K s=aZ P G none QF ⟨d,.store t x y,ty,pos,aft,g⟩ (K ⟨aQ (aB G s.ρ x),aQ (aB G s.ρ x)⟩) s:=(rfl)
theorem IM (x:Operand):dE P G ⟨d,.nilCheck x,ty,pos,aft,g⟩ K s=aZ P G none QF ⟨d,.nilCheck x,ty,pos,aft,g⟩ (K ⟨[],aQ (aB G s.ρ x)⟩) s:=(rfl)
theorem IN (op:BinOp)(t:TypeId)(x y:Operand)(u:TypeId):dE P G ⟨d,.binOp op t x y u,ty,pos,aft,g⟩ K s=bz (bx P op t x y (aB G s.ρ x) (aB G s.ρ y)) fun v=>K ⟨[],[]⟩ ⟨aX s.ρ d v,s.H⟩:=by
 simp only[dE,av,gO];rfl
theorem IP (op:UnOp)(t:TypeId)(x:Operand):dE P G ⟨d,.unOp op t x,ty,pos,aft,g⟩ K s=aZ P G none QF ⟨d,.unOp op t x,ty,pos,aft,g⟩ (K ⟨[],[]⟩) s:=(rfl)
theorem IQ (t u:TypeId)(x:Operand):dE P G ⟨d,.convert t u x,ty,pos,aft,g⟩ K s=aZ P G none QF ⟨d,.convert t u x,ty,pos,aft,g⟩ (K ⟨[],aQ (aB G s.ρ x)⟩) s:=(rfl)
theorem IR (t:TypeId)(x:Operand):dE P G ⟨d,.makeInterface t x,ty,pos,aft,g⟩ K s=aZ P G none QF ⟨d,.makeInterface t x,ty,pos,aft,g⟩ (K ⟨[],[]⟩) s:=(rfl)
theorem IS (f:Fn)(x y:Array Operand):dE P G ⟨d,.makeFunc f x y,ty,pos,aft,g⟩ K s=aZ P G none QF ⟨d,.makeFunc f x y,ty,pos,aft,g⟩ (K ⟨[],[]⟩) s:=(rfl)
theorem IT (t:TypeId)(x y:Operand):dE P G ⟨d,.makeSlice t x y,ty,pos,aft,g⟩ K s=aZ P G none QF ⟨d,.makeSlice t x y,ty,pos,aft,g⟩ (K ⟨[s.H.next],[]⟩) s:=(rfl)
theorem IU (t:TypeId)(x:Operand)(lo hi mx:Option Operand):dE P G ⟨d,.slice t x lo hi mx,ty,pos,aft,g⟩ K s=aZ P G none QF ⟨d,.slice t x lo hi mx,ty,pos,aft,g⟩ (K ⟨[],aQ (aB G s.ρ x)⟩) s:=(rfl)
theorem IV (t:TypeId)(x:Operand)(f:Nat):dE P G ⟨d,.fieldAddr t x f,ty,pos,aft,g⟩ K s=aZ P G none QF ⟨d,.fieldAddr t x f,ty,pos,aft,g⟩ (K ⟨[],aQ (aB G s.ρ x)⟩) s:=(rfl)
theorem IW (t:TypeId)(x:Operand)(f:Nat):dE P G ⟨d,.field t x f,ty,pos,aft,g⟩ K s=aZ P G none QF ⟨d,.field t x f,ty,pos,aft,g⟩ (K ⟨[],[]⟩) s:=(rfl)
theorem IX (t:TypeId)(x y:Operand):dE P G ⟨d,.indexAddr t x y,ty,pos,aft,g⟩ K s=aZ P G none QF ⟨d,.indexAddr t x y,ty,pos,aft,g⟩ (K ⟨[],aQ (aB G s.ρ x)⟩) s:=(rfl)
theorem IY (t:TypeId)(x y:Operand):dE P G ⟨d,.index t x y,ty,pos,aft,g⟩ K s=aZ P G none QF ⟨d,.index t x y,ty,pos,aft,g⟩ (K ⟨[],[]⟩) s:=(rfl)
theorem IZ (x:Operand)(f:Nat):dE P G ⟨d,.extract x f,ty,pos,aft,g⟩ K s=aZ P G none QF ⟨d,.extract x f,ty,pos,aft,g⟩ (K ⟨[],[]⟩) s:=(rfl)
theorem I0 (f:Builtin)(args:Array Operand)(ats:Array TypeId):dE P G ⟨d,.call ⟨.builtin f,args,ats⟩,ty,pos,aft,g⟩ K s =
  aZ P G none QF ⟨d,.call ⟨.builtin f,args,ats⟩,ty,pos,aft,g⟩ (K (kD P s.H.next f ats.toList (args.toList.map (aB G s.ρ)))) s:=rfl
end
theorem I1 (v:Value):aQ (.lit v)=[]:=rfl
theorem I2 (n:Nat)(l:List AVal):aQ (.vec n l)=[]:=rfl
theorem I3 (l:List AVal)(o:Nat):aQ (.vptr l o)=[]:=rfl
theorem I4 (l:List AVal):aQ (.agg l)=[]:=rfl
theorem I5 (id g o l z:Nat):aQ (.own id g o l z)=[id]:=rfl
theorem I6 (id g o:Nat):aQ (.ptr id g o)=[id]:=rfl
theorem I7 (id g o l z:Nat):kA (.own id g o l z)=true:=rfl
theorem I9 (v:Value):kA (.lit v)=false:=rfl
theorem Ja (n:Nat)(l:List AVal):kA (.vec n l)=false:=rfl
theorem Jb (id:Nat)(t:TypeId)(x:AVal):kD P id .len [t] [x]=⟨[],kB P t x⟩:=rfl
theorem Jc (id:Nat)(ts:List TypeId)(x y:AVal):kD P id .append ts [x,y]=if kA x=true then ⟨aQ x,aQ x++aQ y⟩ else ⟨[id],aQ y⟩:=by
 cases ts with
 |nil=>rfl
 |cons t ts=>cases ts<;>rfl
theorem Jd (id:Nat)(ts:List TypeId)(x y:AVal):kD P id .copy ts [x,y]=⟨aQ x,aQ x++aQ y⟩:=by
 cases ts with
 |nil=>rfl
 |cons t ts=>cases ts<;>rfl
theorem Je (t:TypeId)(x:AVal)(h:aQ x=[]):kB P t x=[]:=by unfold kB;split<;>first|exact h|rfl
theorem Jf (t:TypeId)(n:Nat)(l:List AVal):kB P t (.vec n l)=[]:=Je _ _ rfl
def mu (f f':FP):Prop:=(∀r,r∈f.eff->r ∉ f'.rs)/\(∀r,r∈f'.eff->r ∉ f.rs)
theorem Jg (b:Nat)(f:FP):kF b f []=True:=by simp[kF]
theorem Jh (b:Nat)(f:FP)(j:Nat)(f':FP)(acc:List (Nat × FP)):kF b f ((j,f') :: acc)=((b / 2 ^ j % 2=1\/mu f f')/\kF b f acc):=by
 simp only[kF,List.forall_mem_cons,Nat.testBit_eq_decide_div_mod_eq,VW,eq_iff_iff];refine and_congr ⟨fun h=>?_,fun h hb=>?_⟩ Iff.rfl
 ·by_cases hb:b / 2 ^ j % 2=1
  ·exact .inl hb
  ·exact .inr (h hb)
 ·rcases h with h|h
  ·exact absurd h hb
  ·exact h
theorem Ji (b:Nat)(acc:List (Nat × FP)):kF b ⟨[],[]⟩ acc=True:=by
 simp[kF]
theorem Jj (e r e' r':List Nat):mu ⟨e,r⟩ ⟨e',r'⟩=((∀x,x∈e->x ∉ r')/\∀x,x∈e'->x ∉ r):=rfl
theorem Jk (i:Nat)(acc:List (Nat × FP)):lH i ⟨[],[]⟩ acc=acc:=rfl
theorem Jl (i x:Nat)(e r:List Nat)(acc:List (Nat × FP)):lH i ⟨x :: e,r⟩ acc=(i,⟨x :: e,r⟩) :: acc:=rfl
theorem Jm (i x:Nat)(e r:List Nat)(acc:List (Nat × FP)):lH i ⟨e,x :: r⟩ acc=(i,⟨e,x :: r⟩) :: acc:=by cases e<;>rfl
theorem bf.mk {f:FuncId}{first cap args:List AVal}{H:AHeap}{v:AVal}{rs:List Nat}(hlt:∀r,r∈rs->r<H.next)
  (h:∀H2:AHeap,(∀r,r∈rs->H2.get r=H.get r)->H.next<=H2.next->ag P G f (first++args++cap) H2 fun r H3=>r=.ret v/\H3=H2):bf P G (.clo f first cap) args H v rs :=
 ⟨hlt,fun H2 h1 h2=>aw.clo (h H2 h1 h2)⟩
theorem bf.pure {f:FuncId}{args:List AVal}{H:AHeap}{v:AVal}(h:∀H2:AHeap,ag P G f args H2 fun r H3=>r=.ret v/\H3=H2):bf P G (.clo f [] []) args H v [] :=
 bf.mk (fun _ h=>by cases h) fun H2 _ _=>by simpa using h H2
theorem ag.pure {f:FuncId}{args:List AVal}{H:AHeap}{v:AVal}{K:ARes->AHeap->Prop}(h:∀H2:AHeap,ag P G f args H2 fun r H3=>r=.ret v/\H3=H2)(hk:K (.ret v) H):ag P G f args H K :=
 (h H).mono fun r H3 ⟨h1,h2⟩=>by rw[h1,h2];exact hk
theorem W.dr {n:Nat}{id:Nat}{all:Array Oper}{rd:Option Nat}{Q:AX -> St -> Prop}{s:St}(K:Nat)(bs:List Nat)(hm:P.follows .mixedOrders=true)(h:iD P G all (fj P G rd Q all (all.toList.drop K)) bs 0 [] (all.toList.take K) s)(hfit:all.toList.all (jn n)=true := by kernel_rfl)(hst:tV all bs K=true := by kernel_rfl):W P G n rd (.region id all true) Q s := W.draw K bs hm hfit hst h
theorem ag.st {H : AHeap} {f : FuncId} {fn : Func} {c : Code} {args : List AVal} {K : ARes → AHeap → Prop} {rs : List ResultVar} {n : Nat} (hf : P.funcs[f]? = some fn) (h : vc P G n none c (pU P G rs H K) ⟨iC args, H⟩) (hb : fn.body = some c := by exact rfl) (hres : fn.results.toList = rs := by exact rfl) (hnt : fn.ntmps = n := by exact rfl) (hname : (fn.name == "runtime.NumGoroutine") = false := by decide) (hfit : fits n c = true := by kernel_rfl) (hargs : args.length ≤ n := by simp) : ag P G f args H K := .FJ hf hb hres hnt hname hfit hargs h
theorem ag.sw {H : AHeap} {f : FuncId} {fn : Func} {c : Code} {args : List AVal} {K : ARes → AHeap → Prop} {rs : List ResultVar} {n : Nat} (hf : P.funcs[f]? = some fn) (h : W P G n none c (pU P G rs H K) ⟨iC args, H⟩) (hb : fn.body = some c := by exact rfl) (hres : fn.results.toList = rs := by exact rfl) (hnt : fn.ntmps = n := by exact rfl) (hname : (fn.name == "runtime.NumGoroutine") = false := by decide) (hargs : args.length ≤ n := by simp) : ag P G f args H K := .AD hf hb hres hnt hname hargs h
end Go.Hx
namespace Go.Hx
variable {P:Program} {G:Nat->Option (List AVal)} {H:AHeap}
def dY (H:AHeap)(x:AVal):Option AVal :=
 match x with
  |.vec len _=>some (.lit (.int .i64 len))
  |.own id gen _ len _=>(H.live id gen).map fun _=>.lit (.int .i64 len)
  |.lit (.slice none 0 0)=>some (.lit (.int .i64 0))
  |_=>none
def xk (x:AVal):Option AVal :=
 match x with
  |.lit (.string s)=>some (.lit (.int .i64 s.size))
  |_=>none
def rJ (d:Option TypeDesc)(H:AHeap)(x:AVal):Option AVal :=
 match d with
 |some (.slice _)=>dY H x
 |some .string=>xk x
 |some (.array n _)=>some (.lit (.int .i64 n))
 |_=>none
theorem Jy (t:TypeId)(x:AVal):mh P H t x=rJ (P.underlying t) H x:=rfl
theorem pY (e:TypeId)(x:AVal):rJ (some (.slice e)) H x=dY H x:=rfl
theorem Jz (x:AVal):rJ (some .string) H x=xk x:=rfl
theorem JA (n:Nat)(e:TypeId)(x:AVal):rJ (some (.array n e)) H x=some (.lit (.int .i64 n)):=rfl
theorem JB (n:Nat)(l:List AVal):dY H (.vec n l)=some (.lit (.int .i64 n)):=rfl
theorem Ba (id g o n z:Nat):dY H (.own id g o n z)=(H.live id g).map fun _=>.lit (.int .i64 n):=rfl
theorem JC:dY H (.lit (.slice none 0 0))=some (.lit (.int .i64 0)):=rfl
theorem JD (s:ByteArray):xk (.lit (.string s))=some (.lit (.int .i64 s.size)):=rfl
def lI (d:Option TypeDesc)(n:Nat)(cells:List AVal)(off:Nat):Option AVal :=
 match d with
 |none=>none
 |some d=>if pC d then (if off+n<=cells.length then some (.agg ((cells.drop off).take n)) else none) else cells[off]?
theorem JE (t:TypeId)(cells:List AVal)(off:Nat):iU P t cells off=lI (P.underlying t) (P.cellsOf t) cells off:=rfl
theorem JF (k:IntKind)(n:Nat)(cells:List AVal)(off:Nat):lI (some (.int k)) n cells off=cells[off]?:=rfl
theorem JG (n:Nat)(cells:List AVal)(off:Nat):lI (some .bool) n cells off=cells[off]?:=rfl
theorem JH (n:Nat)(cells:List AVal)(off:Nat):lI (some .string) n cells off=cells[off]?:=rfl
theorem JI (e:TypeId)(n:Nat)(cells:List AVal)(off:Nat):lI (some (.slice e)) n cells off=cells[off]?:=rfl
theorem JJ (e:TypeId)(n:Nat)(cells:List AVal)(off:Nat):lI (some (.pointer e)) n cells off=cells[off]?:=rfl
theorem JK (fs:Array Field)(n:Nat)(cells:List AVal)(off:Nat):lI (some (.struct fs)) n cells off=if off+n<=cells.length then some (.agg ((cells.drop off).take n)) else none:=rfl
theorem JL (k:Nat)(e:TypeId)(n:Nat)(cells:List AVal)(off:Nat):lI (some (.array k e)) n cells off=if off+n<=cells.length then some (.agg ((cells.drop off).take n)) else none:=rfl
theorem JM (cells vs:List AVal):setAt cells 0 vs=vs++cells.drop vs.length:=by simp[setAt]
theorem JN (c:AVal)(cells vs:List AVal)(off:Nat):setAt (c :: cells) (off+1) vs=c :: setAt cells off vs:=by simp[setAt,Nat.succ_add]
theorem JO (t:TypeId)(cells:List AVal)(off:Nat):gY P H t (.vptr cells off)=iU P t cells off:=rfl
theorem JP (t:TypeId)(id gen off:Nat):gY P H t (.ptr id gen off)=(H.live id gen).bind fun ec=>iU P t ec.2 off:=by
 simp only[AHeap.live,gY];generalize H.get id=x;cases x with
 |none=>rfl
 |some b =>
  cases b with
  |arr g e cells =>
   simp only;by_cases hg:g=gen
   ·rw[SK hg,SK hg];rfl
   ·rw[SI hg,SI hg];rfl
  |_=>rfl
theorem JQ (t:TypeId)(id gen off:Nat)(v:AVal):jO P H t (.ptr id gen off) v =
  (H.live id gen).bind fun ec=>if v.cells.length=P.cellsOf t/\v.cells.all AVal.one=true/\off+v.cells.length<=ec.2.length then some (H.upd id (.arr gen ec.1 (setAt ec.2 off v.cells))) else none:=by
 simp only[AHeap.live,jO];generalize H.get id=x;cases x with
 |none=>rfl
 |some b =>
  cases b with
  |arr g e cells =>
   simp only;by_cases hg:g=gen
   ·subst hg;simp
   ·rw[SI hg,SI (fun h=>hg h.1)];rfl
  |_=>rfl
def uj (H:AHeap)(c:Nat)(x:AVal)(i:Int):Option AVal :=
 match x with
 |.own id gen off len sz=>if 0<=i/\i<(len:Int)/\sz=c then (H.live id gen).map fun _=>.ptr id gen (off+i.toNat*c) else none
 |.vec len cells=>if 0<=i/\i<(len:Int)/\cells≠[] then some (.vptr cells (i.toNat*c)) else none
 |_=>none
def rK (H:AHeap)(c n:Nat)(x:AVal)(i:Int):Option AVal :=
 if 0<=i/\i<(n:Int) then
   match x with
   |.ptr id gen off=>(H.live id gen).map fun _=>.ptr id gen (off+i.toNat*c)
   |.vptr cells off=>some (.vptr cells (off+i.toNat*c))
   |_=>none
 else none
def uk (P:Program)(H:AHeap)(d:Option TypeDesc)(x:AVal)(i:Int):Option AVal :=
 match d with
 |some (.array n e)=>if (P.underlying e).isSome then rK H (P.cellsOf e) n x i else none
 |some (.slice e)=>if (P.underlying e).isSome then uj H (P.cellsOf e) x i else none
 |_=>none
theorem JR (t:TypeId)(x:AVal)(k:IntKind)(i:Int):ud P H t x (.lit (.int k i))=uk P H (P.underlying t) x i:=by
 simp only[ud,mT,uk];cases P.underlying t with
 |none=>rfl
 |some d =>
  cases d with
  |array n e =>
   simp only[rK];by_cases h:(P.underlying e).isSome=true
   ·simp only[h,and_true,if_true];rfl
   ·rw[SI h,SI (fun h'=>h h'.2.2)]
  |slice e=>rfl
  |_=>rfl
theorem JS (e:TypeId)(x:AVal)(i:Int):uk P H (some (.slice e)) x i=if (P.underlying e).isSome=true then uj H (P.cellsOf e) x i else none:=rfl
theorem JT (n:Nat)(e:TypeId)(x:AVal)(i:Int):uk P H (some (.array n e)) x i=if (P.underlying e).isSome=true then rK H (P.cellsOf e) n x i else none:=rfl
theorem JU (c n:Nat)(l:List AVal)(i:Int):uj H c (.vec n l) i=if 0<=i/\i<(n:Int)/\l≠[] then some (.vptr l (i.toNat*c)) else none:=rfl
theorem JV (c id g o n z:Nat)(i:Int):uj H c (.own id g o n z) i=if 0<=i/\i<(n:Int)/\z=c then (H.live id g).map fun _=>.ptr id g (o+i.toNat*c) else none:=rfl
theorem JW (c n:Nat)(l:List AVal)(o:Nat)(i:Int):rK H c n (.vptr l o) i=if 0<=i/\i<(n:Int) then some (.vptr l (o+i.toNat*c)) else none:=rfl
theorem JX (c n id g o:Nat)(i:Int):rK H c n (.ptr id g o) i=if 0<=i/\i<(n:Int) then (H.live id g).map fun _=>.ptr id g (o+i.toNat*c) else none:=rfl
def rL (H:AHeap)(c:Nat)(x:AVal)(lo hi:Option AVal):Option AVal :=
   match x with
   |.own id gen off len sz=>if sz=c then (H.live id gen).bind fun _=>(cw hi len len).bind fun h=>(cw lo 0 h).map fun l=>.own id gen (off+l*sz) (h-l) sz else none
   |.vec len cells=>if cells.length=len*c then (cw hi len len).bind fun h=>(cw lo 0 h).map fun l=>.vec (h-l) ((cells.drop (l*c)).take ((h-l)*c)) else none
   |.lit (.slice none 0 0)=>(cw hi 0 0).bind fun h=>(cw lo 0 h).map fun _=>.lit (.slice none 0 0)
   |_=>none
def rN (H:AHeap)(c n:Nat)(x:AVal)(lo hi:Option AVal):Option AVal :=
   match x with
   |.ptr id gen off =>
    match H.live id gen with
    |some (_,cells) =>
     if off+n*c<=cells.length then
      (cw hi n n).bind fun h=>(cw lo 0 h).map fun l=>.own id gen (off+l*c) (h-l) c
     else none
    |none=>none
   | .vptr cells off=>if off+n*c≤cells.length then
      (cw hi n n).bind fun h=>(cw lo 0 h).map fun l=>.vec (h-l) ((cells.drop (off+l*c)).take ((h-l)*c))
     else none
   |_=>none
def xm (x:AVal)(lo hi:Option AVal):Option AVal :=
  match x with
  |.lit (.string s)=>(cw hi s.size s.size).bind fun h=>(cw lo 0 h).map fun l=>.lit (.string (s.extract l h))
  |_=>none
def um (P:Program)(H:AHeap)(d:Option TypeDesc)(x:AVal)(lo hi:Option AVal):Option AVal :=
 match d with
 |some (.array n e)=>if (P.underlying e).isSome then rN H (P.cellsOf e) n x lo hi else none
 |some (.slice e)=>if (P.underlying e).isSome then rL H (P.cellsOf e) x lo hi else none
 |some .string=>xm x lo hi
 |_=>none
theorem JY (t:TypeId)(x:AVal)(lo hi:Option AVal):mU P H t x lo hi=um P H (P.underlying t) x lo hi:=rfl
theorem JZ (e:TypeId)(x:AVal)(lo hi:Option AVal):um P H (some (.slice e)) x lo hi=if (P.underlying e).isSome=true then rL H (P.cellsOf e) x lo hi else none:=rfl
theorem J0 (n:Nat)(e:TypeId)(x:AVal)(lo hi:Option AVal):um P H (some (.array n e)) x lo hi=if (P.underlying e).isSome=true then rN H (P.cellsOf e) n x lo hi else none:=rfl
theorem J1 (x:AVal)(lo hi:Option AVal):um P H (some .string) x lo hi=xm x lo hi:=rfl
theorem J2 (c id g o n z:Nat)(lo hi:Option AVal):rL H c (.own id g o n z) lo hi=if z=c then (H.live id g).bind fun _=>(cw hi n n).bind fun h=>(cw lo 0 h).map fun l=>.own id g (o+l*z) (h-l) z else none:=rfl
theorem J3 (c n:Nat)(cells:List AVal)(lo hi:Option AVal):rL H c (.vec n cells) lo hi=if cells.length=n*c then (cw hi n n).bind fun h=>(cw lo 0 h).map fun l=>.vec (h-l) ((cells.drop (l*c)).take ((h-l)*c)) else none:=rfl
theorem J4 (c:Nat)(lo hi:Option AVal):rL H c (.lit (.slice none 0 0)) lo hi=(cw hi 0 0).bind fun h=>(cw lo 0 h).map fun _=>.lit (.slice none 0 0):=rfl
theorem J5 (c n:Nat)(cells:List AVal)(off:Nat)(lo hi:Option AVal):rN H c n (.vptr cells off) lo hi=if off+n*c<=cells.length then
      (cw hi n n).bind fun h=>(cw lo 0 h).map fun l=>.vec (h-l) ((cells.drop (off+l*c)).take ((h-l)*c)) else none:=rfl
theorem J6 (c n id g off:Nat)(lo hi:Option AVal):rN H c n (.ptr id g off) lo hi=(H.live id g).bind fun ec=>if off+n*c<=ec.2.length then
      (cw hi n n).bind fun h=>(cw lo 0 h).map fun l=>.own id g (off+l*c) (h-l) c else none:=by
 simp only[rN];cases H.live id g<;>rfl
theorem J7 (s:ByteArray)(lo hi:Option AVal):xm (.lit (.string s)) lo hi=(cw hi s.size s.size).bind fun h=>(cw lo 0 h).map fun l=>.lit (.string (s.extract l h)):=rfl
theorem J8 (d m:Nat):cw none d m=some d:=rfl
theorem J9 (k:IntKind)(i:Int)(d m:Nat):cw (some (.lit (.int k i))) d m=if 0<=i/\i<=(m:Int) then some i.toNat else none:=rfl
theorem Ka (sz n:Nat)(l:List AVal):cV H sz (.vec n l)=if l.length=n*sz then some (n,l) else none:=rfl
theorem rO (sz id g o n z:Nat):cV H sz (.own id g o n z)=if z=sz then (H.live id g).map fun x=>(n,(x.2.drop o).take (n*sz)) else none:=rfl
theorem xq (sz:Nat):cV H sz (.lit (.slice none 0 0))=some (0,[]):=rfl
def uq (P:Program)(H:AHeap)(id:Nat)(d0 d1:Option TypeDesc)(s x:AVal):Option (AVal × AHeap) :=
 match d0,d1 with
 | some (.slice e),some (.slice _)=>(bR P e).bind fun _=>(cV H (P.cellsOf e) x).bind fun nx =>
    match s with
    |.lit (.slice none 0 0) =>
     if nx.1=0 then some (s,H)
     else if nx.1*P.bytesOf e<=2 ^ 46/\nx.1<=2 ^ 46 then (H.lay id (.arr 0 e nx.2)).map fun H'=>(.own id 0 0 nx.1 (P.cellsOf e),H')
     else none
    |.own id' gen off len sz =>
     (H.live id' gen).bind fun ec =>
      if ec.1=e/\sz=P.cellsOf e/\off+len*sz=ec.2.length/\(len+nx.1)*P.bytesOf e<=2 ^ 46/\len+nx.1<=2 ^ 46/\nx.2.all AVal.one=true then
       if nx.1=0 then some (s,H)
       else some (.own id' (gen+1) 0 (len+nx.1) sz,H.upd id' (.arr (gen+1) e (ec.2.drop off++nx.2)))
      else none
    |_=>none
 |_,_=>none
theorem bd (id:Nat)(t u:TypeId)(s x:AVal):bM P H id t u s x=uq P H id (P.underlying t) (P.underlying u) s x:=by
 unfold bM uq;cases P.underlying t with
 |none=>rfl
 |some d =>
  cases d with
  |slice e =>
   cases P.underlying u with
   |none=>rfl
   |some d'=>cases d'<;>rfl
  |_=>rfl
theorem Kc (id:Nat)(e u:TypeId)(x:AVal):uq P H id (some (.slice e)) (some (.slice u)) (.lit (.slice none 0 0)) x=(bR P e).bind fun _=>(cV H (P.cellsOf e) x).bind fun nx =>
  if nx.1=0 then some (.lit (.slice none 0 0),H) else if nx.1*P.bytesOf e<=2 ^ 46/\nx.1<=2 ^ 46 then (H.lay id (.arr 0 e nx.2)).map fun H'=>(.own id 0 0 nx.1 (P.cellsOf e),H') else none:=rfl
theorem Kd (id:Nat)(e u:TypeId)(x:AVal)(id' gen off len sz:Nat):uq P H id (some (.slice e)) (some (.slice u)) (.own id' gen off len sz) x=(bR P e).bind fun _=>(cV H (P.cellsOf e) x).bind fun nx =>
  (H.live id' gen).bind fun ec =>
      if ec.1=e/\sz=P.cellsOf e/\off+len*sz=ec.2.length/\(len+nx.1)*P.bytesOf e<=2 ^ 46/\len+nx.1<=2 ^ 46/\nx.2.all AVal.one=true then
       if nx.1=0 then some (.own id' gen off len sz,H)
       else some (.own id' (gen+1) 0 (len+nx.1) sz,H.upd id' (.arr (gen+1) e (ec.2.drop off++nx.2)))
      else none:=rfl
def Bc (P:Program)(H:AHeap)(d0:Option TypeDesc)(d x:AVal):Option (AVal × AHeap) :=
 match d0 with
 |some (.slice e) =>
  if (P.underlying e).isSome then
   (cV H (P.cellsOf e) x).bind fun nx =>
    match d with
    |.own id gen off len sz =>
     (H.live id gen).bind fun ec =>
      if sz=P.cellsOf e/\off+len*sz<=ec.2.length/\nx.2.all AVal.one=true then
       some (.lit (.int .i64 (min nx.1 len:Nat)),H.upd id (.arr gen ec.1 (setAt ec.2 off (nx.2.take (min nx.1 len*sz)))))
      else none
    |_=>none
  else none
 |_=>none
theorem Ke (t:TypeId)(d x:AVal):lk P H t d x=Bc P H (P.underlying t) d x:=rfl
theorem Kf (e:TypeId)(id gen off len sz:Nat)(x:AVal):Bc P H (some (.slice e)) (.own id gen off len sz) x=if (P.underlying e).isSome=true then
   (cV H (P.cellsOf e) x).bind fun nx=>(H.live id gen).bind fun ec =>
      if sz=P.cellsOf e/\off+len*sz<=ec.2.length/\nx.2.all AVal.one=true then
       some (.lit (.int .i64 (min nx.1 len:Nat)),H.upd id (.arr gen ec.1 (setAt ec.2 off (nx.2.take (min nx.1 len*sz)))))
      else none
   else none:=rfl
def xt (P:Program)(H:AHeap)(id:Nat)(d:Option TypeDesc)(l c:AVal):Option (AVal × AHeap) :=
 match d,l,c with
 |some (.slice e),.lit (.int _ l),.lit (.int _ c) =>
  if 0<=l/\l<=c/\c*P.bytesOf e<=2 ^ 46/\c<=2 ^ 46 then
   (kr P e l.toNat).bind fun cells=>(H.lay id (.arr 0 e cells)).map fun H'=>(.own id 0 0 l.toNat (P.cellsOf e),H')
  else none
 |_,_,_=>none
theorem Kg (id:Nat)(t:TypeId)(l c:AVal):mj P H id t l c=xt P H id (P.underlying t) l c:=by
 unfold mj xt;cases P.underlying t with
 |none=>rfl
 |some d=>rfl
theorem Kh (id:Nat)(e:TypeId)(k k':IntKind)(l c:Int):xt P H id (some (.slice e)) (.lit (.int k l)) (.lit (.int k' c))=if 0<=l/\l<=c/\c*P.bytesOf e<=2 ^ 46/\c<=2 ^ 46 then
   (kr P e l.toNat).bind fun cells=>(H.lay id (.arr 0 e cells)).map fun H'=>(.own id 0 0 l.toNat (P.cellsOf e),H')
  else none:=rfl
theorem Ki (e:TypeId)(n:Nat):kr P e n=(bR P e).map fun z=>(List.replicate n z).flatten:=rfl
theorem Kj (n:Nat)(v:AVal):(List.replicate n [v]).flatten=List.replicate n v:=by
 induction n with
 |zero=>rfl
 |succ n ih=>rw[TI,List.flatten_cons,ih,TI];rfl
def Bd (P:Program)(H:AHeap)(id:Nat)(d:Option TypeDesc)(len:Nat)(parts:List (Nat × AVal)):Option (AVal × AHeap) :=
 match d with
 |some (.slice e) =>
  if len*P.cellsOf e<=2 ^ 24 then
   (kr P e len).bind fun z=>(fR (fun i=>some (i*P.cellsOf e,P.cellsOf e)) z parts).bind fun cells =>
    (H.lay id (.arr 0 e cells)).map fun H'=>(.own id 0 0 len (P.cellsOf e),H')
  else none
 |_=>none
theorem Kk (id:Nat)(t:TypeId)(len:Nat)(parts:List (Nat × AVal)):mW P H id t len parts=Bd P H id (P.underlying t) len parts:=rfl
theorem Kl (id:Nat)(e:TypeId)(len:Nat)(parts:List (Nat × AVal)):Bd P H id (some (.slice e)) len parts=if len*P.cellsOf e<=2 ^ 24 then
   (kr P e len).bind fun z=>(fR (fun i=>some (i*P.cellsOf e,P.cellsOf e)) z parts).bind fun cells =>
    (H.lay id (.arr 0 e cells)).map fun H'=>(.own id 0 0 len (P.cellsOf e),H')
  else none:=rfl
def xu (P:Program)(t:TypeId)(d:Option TypeDesc)(parts:List (Nat × AVal)):Option AVal :=
 (bR P t).bind fun z =>
  match d with
  |some (.struct _)=>(iV P t).bind fun pl=>(fR (fun i=>pl[i]?) z parts).map .agg
  |some (.array _ e)=>if (P.underlying e).isSome then (fR (fun i=>some (i*P.cellsOf e,P.cellsOf e)) z parts).map .agg else none
  |_=>none
theorem Km (t:TypeId)(parts:List (Nat × AVal)):re P t parts=xu P t (P.underlying t) parts:=rfl
theorem Kn (t:TypeId)(fs:Array Field)(parts:List (Nat × AVal)):xu P t (some (.struct fs)) parts=(bR P t).bind fun z=>(iV P t).bind fun pl=>(fR (fun i=>pl[i]?) z parts).map .agg:=rfl
theorem Ko (t:TypeId)(n:Nat)(e:TypeId)(parts:List (Nat × AVal)):xu P t (some (.array n e)) parts=(bR P t).bind fun z=>if (P.underlying e).isSome=true then (fR (fun i=>some (i*P.cellsOf e,P.cellsOf e)) z parts).map .agg else none:=rfl
theorem Kp (pl:Nat->Option (Nat × Nat))(cells:List AVal):fR pl cells []=some cells:=rfl
theorem Kq (pl:Nat->Option (Nat × Nat))(cells:List AVal)(i:Nat)(v:AVal)(rest:List (Nat × AVal)):fR pl cells ((i,v) :: rest)=(pl i).bind fun os =>
  if v.cells.length=os.2/\os.1+v.cells.length<=cells.length then fR pl (setAt cells os.1 v.cells) rest else none:=by
 simp only[fR];cases pl i<;>rfl
theorem Kr (k:IntKind)(n:Int):(AVal.lit (.int k n)).cells=[.lit (.int k n)]:=rfl
theorem Ks (b:Bool):(AVal.lit (.bool b)).cells=[.lit (.bool b)]:=rfl
theorem Kt (s:ByteArray):(AVal.lit (.string s)).cells=[.lit (.string s)]:=rfl
theorem Ku (a:Option Addr)(n c:Nat):(AVal.lit (.slice a n c)).cells=[.lit (.slice a n c)]:=rfl
theorem Kv (l:List AVal):(AVal.agg l).cells=l:=rfl
theorem Kw (n:Nat)(l:List AVal):(AVal.vec n l).cells=[.vec n l]:=rfl
theorem Kx (a b c d e:Nat):(AVal.own a b c d e).cells=[.own a b c d e]:=rfl
theorem Ky (a b c:Nat):(AVal.ptr a b c).cells=[.ptr a b c]:=rfl
theorem Kz (k:IntKind)(n:Int):(AVal.lit (.int k n)).one=true:=rfl
theorem KA (b:Bool):(AVal.lit (.bool b)).one=true:=rfl
theorem KB (s:ByteArray):(AVal.lit (.string s)).one=true:=rfl
theorem KC (a:Option Addr)(n c:Nat):(AVal.lit (.slice a n c)).one=true:=rfl
theorem KD (n:Nat)(l:List AVal):(AVal.vec n l).one=true:=rfl
theorem KE (a b c d e:Nat):(AVal.own a b c d e).one=true:=rfl
theorem KF (a b c:Nat):(AVal.ptr a b c).one=true:=rfl
def aa (n:Int):AVal:=.lit (.int .i64 n)
def ints (l:List Int):List AVal:=l.map aa
def af (l:List Int):AVal:=.vec l.length (ints l)
theorem aH (l:List Int):(ints l).length=l.length:=SM ..
theorem ij (l:List Int)(i:Nat):(ints l)[i]?=(l[i]?).map aa:=List.getElem?_map ..
theorem ug (l:List Int):ints l=[]↔l=[]:=List.map_eq_nil_iff
end Go.Hx
namespace Go.Hx
variable {P:Program} {G:Nat->Option (List AVal)} {Γ Γ':aK} {H H':AHeap} {w w':World}
inductive Below (n:Nat):AVal->Prop
 |lit (v:Value):Below n (.lit v)
 |vec {len:Nat} {cells:List AVal} (h:∀i (h:i<cells.length),Below n cells[i]):Below n (.vec len cells)
 |vptr {off:Nat} {cells:List AVal} (h:∀i (h:i<cells.length),Below n cells[i]):Below n (.vptr cells off)
 |agg {cells:List AVal} (h:∀i (h:i<cells.length),Below n cells[i]):Below n (.agg cells)
 |tup {cells:List AVal} (h:∀i (h:i<cells.length),Below n cells[i]):Below n (.tup cells)
 |clo {f:FuncId} {a b:List AVal} (h1:∀i (h:i<a.length),Below n a[i]) (h2:∀i (h:i<b.length),Below n b[i]):Below n (.clo f a b)
 |own {id g o l z:Nat} (h:id<n):Below n (.own id g o l z)
 |ptr {id g o:Nat} (h:id<n):Below n (.ptr id g o)
 |yld {id:Nat} (h:id<n):Below n (.yld id)
theorem RelV.nt {v:AVal}{cv:Value}(h:RelV P Γ H w v cv):Below H.next v:=by
 induction h with
 |lit v=>exact .lit v
 |vec0 a cap=>exact .vec fun i h=>absurd h (S4 _)
 |vec hb hlt hlen hcs hcell hrel ih=>exact .vec fun i h=>ih i h (by omega)
 |own h=>exact .own h.1
 |ptr h=>exact .ptr h.1
 |vptr hb hlt hcs hcell hrel ih=>exact .vptr fun i h=>ih i h (by omega)
 |agg hcs hrel ih=>exact .agg fun i h=>ih i h (by omega)
 |tup hcs hrel ih=>exact .tup fun i h=>ih i h (by omega)
 |clo hfs hcs hf hc ih1 ih2=>exact .clo (fun i h=>ih1 i h (by omega)) fun i h=>ih2 i h (by omega)
 |yld h=>exact .yld h.1
def rG (n:Nat):Blk->Prop
 |.arr _ _ cells=>∀i (h:i<cells.length),Below n cells[i]
 |.loop _ _ m env _ _ _=>∀t,t<m->Below n (env t)
 |.mp _=>True
 |.rsv=>True
structure Clo (H:AHeap):Prop where
 lt:∀id b,H.get id=some b->id<H.next
 below:∀id b,H.get id=some b->rG H.next b
theorem RelH.clo (R:RelH P G Γ H w):Clo H:=by
 refine⟨fun id b h=>R.next id b h,fun id b h=>?_⟩;cases b with
 |rsv=>trivial
 |mp=>trivial
 |arr g e cells =>
  intro i hi;have h1:=R.arr id g e cells h;split at h1
  ·obtain⟨c,_,_,_,h5⟩:=h1;obtain⟨cv,_,h6⟩:=h5 i hi;exact h6.nt
  ·subst h1;exact absurd hi (S4 _)
 |loop st pend n env ps asg body =>
  intro t ht;obtain⟨b,r,_,_,_,_,_,_,_,h8,h9⟩:=R.loop id st pend n env ps asg body h;exact(h9 t (by omega)).nt
inductive Fz (S:Nat->Prop)(H:AHeap)(nx:Nat):AVal->AVal->Prop
 |lit (v:Value):Fz S H nx (.lit v) (.lit v)
 |vec {len:Nat} {c c':List AVal} (hl:c'.length=c.length) (h:∀i (h:i<c.length) (h':i<c'.length),Fz S H nx c[i] c'[i]):Fz S H nx (.vec len c) (.vec len c')
 |vptr {off:Nat} {c c':List AVal} (hl:c'.length=c.length) (h:∀i (h:i<c.length) (h':i<c'.length),Fz S H nx c[i] c'[i]):Fz S H nx (.vptr c off) (.vptr c' off)
 |agg {c c':List AVal} (hl:c'.length=c.length) (h:∀i (h:i<c.length) (h':i<c'.length),Fz S H nx c[i] c'[i]):Fz S H nx (.agg c) (.agg c')
 |tup {c c':List AVal} (hl:c'.length=c.length) (h:∀i (h:i<c.length) (h':i<c'.length),Fz S H nx c[i] c'[i]):Fz S H nx (.tup c) (.tup c')
 |clo {f:FuncId} {a a' b b':List AVal} (ha:a'.length=a.length) (hb:b'.length=b.length) (h1:∀i (h:i<a.length) (h':i<a'.length),Fz S H nx a[i] a'[i]) (h2:∀i (h:i<b.length) (h':i<b'.length),Fz S H nx b[i] b'[i]):Fz S H nx (.clo f a b) (.clo f a' b')
 |own {id g o l z:Nat} (h:id<nx) (hs:¬S id):Fz S H nx (.own id g o l z) (.own id g o l z)
 |ptr {id g o:Nat} (h:id<nx) (hs:¬S id):Fz S H nx (.ptr id g o) (.ptr id g o)
 |yld {id:Nat} (h:id<nx) (hs:¬S id):Fz S H nx (.yld id) (.yld id)
 |deadOwn {id g o l z:Nat} (h:id<nx) (hs:S id):Fz S H nx (.own id g o l z) (.own id g o l z)
 |deadPtr {id g o:Nat} (h:id<nx) (hs:S id):Fz S H nx (.ptr id g o) (.ptr id g o)
 |deadYld {id:Nat} (h:id<nx) (hs:S id):Fz S H nx (.yld id) (.yld id)
 |nil:Fz S H nx (.lit (.slice none 0 0)) (.vec 0 [])
 |frz {id g o l z:Nat} {e:TypeId} {cells c':List AVal} (hs:S id) (hg:H.get id=some (.arr g e cells)) (hl:c'.length=l*z)
   (h:∀i (h:i<l*z) (h2:o+i<cells.length) (h':i<c'.length),Fz S H nx cells[o+i] c'[i]):Fz S H nx (.own id g o l z) (.vec l c')
 |pfrz {id g o:Nat} {e:TypeId} {cells c':List AVal} (hs:S id) (hg:H.get id=some (.arr g e cells)) (hne:cells≠[]) (hl:c'.length=cells.length)
   (h:∀i (h:i<cells.length) (h':i<c'.length),Fz S H nx cells[i] c'[i]):Fz S H nx (.ptr id g o) (.vptr c' o)
theorem Fz.refl {S:Nat->Prop}{H:AHeap}{nx:Nat}{v:AVal}(h:Below nx v)(hs:∀id,id<nx->¬S id):Fz S H nx v v:=by
 induction h with
 |lit v=>exact .lit v
 |vec _ ih=>exact .vec rfl fun i h _=>ih i h
 |vptr _ ih=>exact .vptr rfl fun i h _=>ih i h
 |agg _ ih=>exact .agg rfl fun i h _=>ih i h
 |tup _ ih=>exact .tup rfl fun i h _=>ih i h
 |clo _ _ ih1 ih2=>exact .clo rfl rfl (fun i h _=>ih1 i h) fun i h _=>ih2 i h
 |own h=>exact .own h (hs _ h)
 |ptr h=>exact .ptr h (hs _ h)
 |yld h=>exact .yld h (hs _ h)
def A7 (S:Nat->Prop)(H:AHeap)(nx:Nat):Blk->Blk->Prop
 |.arr g e c,.arr g' e' c'=>g'=g/\e'=e/\c'.length=c.length/\∀i (_:i<c.length) (_:i<c'.length),Fz S H nx c[i] c'[i]
 |.loop st pend n env ps asg body,.loop st' pend' n' env' ps' asg' body'=>st'=st/\pend'=pend/\n'=n/\env'=env/\ps'=ps/\asg'=asg/\body'=body/\∀t,t<n->Fz S H nx (env t) (env t)
 |.mp es,.mp es'=>es'=es
 |.rsv,.rsv=>True
 |_,_=>False
structure FzH (S:Nat->Prop)(H H':AHeap):Prop where
 gone:∀id,S id->H'.get id=none
 kept:∀id b,¬S id->H.get id=some b->id<H'.next/\∃b',H'.get id=some b'/\A7 S H H'.next b b'
 none:∀id,¬S id->H.get id=none->H'.get id=none
open Classical in
noncomputable def iF (S:Nat->Prop)(Γ:aK):aK:=fun id=>if S id then none else Γ id
theorem jU {S:Nat->Prop}{id:Nat}(h:¬S id):iF S Γ id=Γ id:=by simp[iF,h]
theorem nC {S:Nat->Prop}{id:Nat}{x:Nat × Nat × Nat}(h:iF S Γ id=some x):¬S id/\Γ id=some x:=by
 unfold iF at h;split at h
 ·cases h
 ·exact⟨by assumption,h⟩
theorem xe {S:Nat->Prop}{b:Nat}(h:(iF S Γ).iz b):Γ.iz b:=by
 obtain⟨id,base,n,h⟩:=h;exact⟨id,base,n,(nC h).2⟩
theorem FzH.back {S:Nat->Prop}(F:FzH S H H'){id:Nat}{b':Blk}(h:H'.get id=some b'):¬S id/\∃b,H.get id=some b/\A7 S H H'.next b b'/\id<H'.next:=by
 have hs:¬S id:=fun hs=>by rw[F.gone id hs]at h;cases h
 refine⟨hs,?_⟩;cases hg:H.get id with
 |none=>rw[F.none id hs hg]at h;cases h
 |some b =>
  obtain⟨h1,b1,h2,h3⟩:=F.kept id b hs hg;rw[h]at h2;cases h2;exact⟨b,rfl,h3,h1⟩
theorem Fz.sound {S:Nat->Prop}(R:RelH P G Γ H w)(F:FzH S H H'){v v':AVal}(hf:Fz S H H'.next v v'):∀ {cv:Value},RelV P Γ H w v cv->RelV P (iF S Γ) H' w v' cv:=by
 induction hf with
 |lit v=>intro cv h;cases h;exact .lit _
 |nil=>intro cv h;cases h;exact .vec0 none 0
 |deadOwn hlt hs =>
  intro cv h;cases h with
  |own h=>exact .own ⟨hlt,h.2.1,fun hr=>(by rw[F.gone _ hs]at hr;cases hr),fun _ _ _ hg=>(by rw[F.gone _ hs]at hg;cases hg)⟩
 |deadPtr hlt hs =>
  intro cv h;cases h with
  |ptr h=>exact .ptr ⟨hlt,h.2.1,fun hr=>(by rw[F.gone _ hs]at hr;cases hr),fun _ _ _ hg=>(by rw[F.gone _ hs]at hg;cases hg)⟩
 |deadYld hlt hs =>
  intro cv h;cases h with
  |yld h=>exact .yld ⟨hlt,h.2.1,fun hr=>(by rw[F.gone _ hs]at hr;cases hr),fun _ _ _ _ _ _ _ hg=>(by rw[F.gone _ hs]at hg;cases hg),fun _ hg=>(by rw[F.gone _ hs]at hg;cases hg)⟩
 |vec hl hc ih =>
  intro cv h;cases h with
  |vec0 a cap =>
   rename_i c';have:c'=[]:=SP hl;subst this;exact .vec0 a cap
  |vec hb hlt hlen hcs hcell hrel=>exact .vec (fun h=>hb (xe h)) hlt hlen (by omega) hcell fun i h1 h2=>ih i (by omega) h1 (hrel i (by omega) h2)
 |vptr hl hc ih =>
  intro cv h;cases h with
  |vptr hb hlt hcs hcell hrel=>exact .vptr (fun h=>hb (xe h)) hlt (by omega) hcell fun i h1 h2=>ih i (by omega) h1 (hrel i (by omega) h2)
 |agg hl hc ih =>
  intro cv h;cases h with
  |agg hcs hrel=>exact .agg (by omega) fun i h1 h2=>ih i (by omega) h1 (hrel i (by omega) h2)
 |tup hl hc ih =>
  intro cv h;cases h with
  |tup hcs hrel=>exact .tup (by omega) fun i h1 h2=>ih i (by omega) h1 (hrel i (by omega) h2)
 |clo ha hb h1 h2 ih1 ih2 =>
  intro cv h;cases h with
  |clo hfs hcs hf hc=>exact .clo (by omega) (by omega) (fun i a b=>ih1 i (by omega) a (hf i (by omega) b)) fun i a b=>ih2 i (by omega) a (hc i (by omega) b)
 |own hlt hs =>
  intro cv h;cases h with
  |own h =>
   obtain⟨h1,h2,h0,h3⟩:=h;refine .own ⟨hlt,h2,fun hr=>?_,fun g' e' cells' hg'=>?_⟩
   ·obtain⟨_,b,hb,hfb,_⟩:=F.back hr;cases b with
    |rsv=>exact h0 hb
    |_=>exact hfb.elim
   ·obtain⟨_,b,hb,hfb,_⟩:=F.back hg';cases b with
    |arr g e cells =>
     obtain⟨rfl,rfl,hlen,_⟩:=hfb;have:=h3 _ _ _ hb;rw[jU hs,hlen];exact this
    |_=>exact hfb.elim
 |ptr hlt hs =>
  intro cv h;cases h with
  |ptr h =>
   obtain⟨h1,h2,h0,h3⟩:=h;refine .ptr ⟨hlt,h2,fun hr=>?_,fun g' e' cells' hg'=>?_⟩
   ·obtain⟨_,b,hb,hfb,_⟩:=F.back hr;cases b with
    |rsv=>exact h0 hb
    |_=>exact hfb.elim
   ·obtain⟨_,b,hb,hfb,_⟩:=F.back hg';cases b with
    |arr g e cells =>
     obtain⟨rfl,rfl,hlen,_⟩:=hfb;have:=h3 _ _ _ hb;rw[jU hs];exact this
    |_=>exact hfb.elim
 |yld hlt hs =>
  intro cv h;cases h with
  |yld h =>
   obtain⟨h1,h2,h0,h3,h4⟩:=h;refine .yld ⟨hlt,h2,fun hr=>?_,fun st pend n env ps asg body hg'=>?_,fun es hg'=>?_⟩
   ·obtain⟨_,b,hb,hfb,_⟩:=F.back hr;cases b with
    |rsv=>exact h0 hb
    |_=>exact hfb.elim
   ·obtain⟨_,b,hb,hfb,_⟩:=F.back hg';cases b with
    |loop st0 pend0 n0 env0 ps0 asg0 body0 =>
     have:=h3 _ _ _ _ _ _ _ hb;rw[jU hs];exact this
    |_=>exact hfb.elim
   ·obtain⟨_,b,hb,hfb,_⟩:=F.back hg';cases b with
    |mp es0 =>
     have:=h4 _ hb;rw[jU hs];exact this
    |_=>exact hfb.elim
 | @frz id g o l z e cells c' hs hg hl hc ih =>
  intro cv h;cases h with
  |own h =>
   obtain⟨h1,h2,h0,h3⟩:=h;have h4:=(h3 _ _ _ hg).2 rfl;have harr:=R.arr id g e cells hg;cases hΓ:Γ id with
   |none =>
    rw[hΓ]at h4;obtain⟨rfl,rfl,rfl⟩:=h4;have:c'=[]:=SP (by simpa using hl);subst this;exact .vec0 _ _
   |some y =>
    obtain⟨b,base,n⟩:=y;rw[hΓ]at h4 harr;obtain⟨a,cap,rfl,hcap,hoff,hor⟩:=h4;obtain⟨c,a1,a2,a3,a4⟩:=harr;rcases hor with ⟨rfl,hn⟩|⟨rfl,rfl⟩
    ·have hcell:∀i,i<l*z->∃cv,c[base+(o+i)]?=some cv/\∀(h:o+i<cells.length),RelV P Γ H w cells[o+i] cv:=fun i hi=>by
      obtain⟨cv,b1,b2⟩:=a4 (o+i) (by omega);exact⟨cv,b1,fun _=>b2⟩
     let cs:List Value:=(List.range (l*z)).map fun i=>(c[base+(o+i)]?).getD undef
     have hcs:cs.length=c'.length:=(by simp[cs,hl]);refine .vec (cs:=cs) (fun ho=>?_) (R.lt _ _ _ _ hΓ) hcap hcs (fun i hi=>?_) fun i hi hi'=>?_
     ·obtain⟨id',base',n',h'⟩:=ho;obtain⟨hns,h''⟩:=nC h';have:=R.inj _ _ _ _ _ _ _ h'' hΓ;subst this;exact hns hs
     ·have hi2:i<l*z:=(by rw[hcs,hl]at hi;exact hi);obtain⟨cv,b1,_⟩:=hcell i hi2;have:cs[i]=cv:=(by simp[cs,b1]);rw[this];have he:base+o+i=base+(o+i):=(by omega);simp only[World.cell?,a1,he];exact b1
     ·have hi2:i<l*z:=(by rw[hl]at hi;exact hi);obtain⟨cv,b1,b2⟩:=hcell i hi2;have:cs[i]=cv:=(by simp[cs,b1]);rw[this];exact ih i hi2 (by omega) hi (b2 (by omega))
    ·have:c'=[]:=SP (by simpa using hl);subst this;exact .vec0 _ _
 | @pfrz id g o e cells c' hs hg hne hl hc ih =>
  intro cv h;cases h with
  |ptr h =>
   obtain⟨h1,h2,h0,h3⟩:=h;obtain⟨b,base,n,hΓ,rfl⟩:=(h3 _ _ _ hg).2 rfl;have harr:=R.arr id g e cells hg;rw[hΓ]at harr;obtain⟨c,a1,a2,a3,a4⟩:=harr
   let cs:List Value:=(List.range cells.length).map fun i=>(c[base+i]?).getD undef
   have hcs:cs.length=c'.length:=(by simp[cs,hl]);have hcell:∀i (hi:i<cells.length) (hi':i<cs.length),c[base+i]?=some cs[i]/\RelV P Γ H w cells[i] cs[i]:=fun i hi hi'=>by
    obtain⟨cv,b1,b2⟩:=a4 i hi;have:cs[i]=cv:=(by simp[cs,b1]);rw[this];exact⟨b1,b2⟩
   refine .vptr (cs:=cs) (fun ho=>?_) (R.lt _ _ _ _ hΓ) hcs (fun i hi=>?_) fun i hi hi'=>?_
   ·obtain⟨id',base',n',h'⟩:=ho;obtain⟨hns,h''⟩:=nC h';have:=R.inj _ _ _ _ _ _ _ h'' hΓ;subst this;exact hns hs
   ·simp only[World.cell?,a1];exact(hcell i (by omega) hi).1
   ·exact ih i (by omega) hi (hcell i (by omega) hi').2
theorem Fz.plain {S:Nat->Prop}{H:AHeap}{nx:Nat}{v:AVal}(h:Below 0 v):Fz S H nx v v:=by
 induction h with
 |lit v=>exact .lit v
 |vec _ ih=>exact .vec rfl fun i h _=>ih i h
 |vptr _ ih=>exact .vptr rfl fun i h _=>ih i h
 |agg _ ih=>exact .agg rfl fun i h _=>ih i h
 |tup _ ih=>exact .tup rfl fun i h _=>ih i h
 |clo _ _ ih1 ih2=>exact .clo rfl rfl (fun i h _=>ih1 i h) fun i h _=>ih2 i h
 |own h=>exact absurd h (S4 _)
 |ptr h=>exact absurd h (S4 _)
 |yld h=>exact absurd h (S4 _)
theorem Fz.ints {S:Nat->Prop}{H:AHeap}{nx id g o:Nat}{e:TypeId}{cells:List AVal}{x:List Int}{n:Nat}(hs:S id)(hg:H.get id=some (.arr g e cells))(hn:n=x.length)(hx:∀i (h:i<x.length),cells[o+i]?=some (aa x[i])):
  Fz S H nx (.own id g o n 1) (af x):=by
 subst hn;refine .frz hs hg (by simp[Go.Hx.ints]) fun i hi h2 h'=>?_;have h1:=hx i (by omega);rw[SJ h2]at h1;rw[Option.some.inj h1];have:(Go.Hx.ints x)[i]=aa x[i]:=by simp[Go.Hx.ints]
 rw[this];exact .lit _
theorem Fz.ug {S:Nat->Prop}{H:AHeap}{nx:Nat}:Fz S H nx (.lit (.slice none 0 0)) (af []):=.nil
theorem Fz.cI {S:Nat->Prop}{H:AHeap}{nx:Nat}(x:List Int):Fz S H nx (af x) (af x) :=
 .plain (.vec fun i h=>by simp only[Go.Hx.ints,SV];exact .lit _)
theorem gQ (x:List Int):(Go.Hx.ints x).all AVal.one=true:=by simp[Go.Hx.ints,aa,AVal.one,Value.oneCell]
def fm (G:Nat->Option (List AVal)):Prop:=∀g cells,G g=some cells->Below 0 (.vptr cells 0)
theorem FzH.bE {S:Nat->Prop}(F:FzH S H H'):Evo Γ H w (iF S Γ) H' w where
 os:=rfl
 tape:=rfl
 output:=rfl
 size:=Nat.le_refl _
 keep:=fun _ _ h=>⟨rfl,fun h'=>h (xe h')⟩
 live:=fun id _ _ x' hx=>by
  obtain⟨hs,b,hb,hfb,_⟩:=F.back hx;refine⟨b,hb,?_⟩;cases b<;>cases x'<;>first|exact hfb.elim|skip
  ·obtain⟨rfl,rfl,hl,_⟩:=hfb;exact⟨Nat.le_refl _,fun _=>⟨jU hs,rfl,hl⟩⟩
  ·obtain⟨rfl,rfl,rfl,rfl,rfl,rfl,rfl,_⟩:=hfb;exact⟨jU hs,rfl,rfl,rfl,rfl,rfl⟩
  ·exact jU hs
  ·trivial
 frz:=fun _ _=>rfl
theorem FzH.rel {S:Nat->Prop}(hG:fm G)(R:RelH P G Γ H w)(F:FzH S H H'):RelH P G (iF S Γ) H' w where
 arr id g e cells hg:=by
  obtain⟨hs,b,hb,hfb,_⟩:=F.back hg;cases b with
  |arr g0 e0 c0 =>
   obtain⟨rfl,rfl,hl,hc⟩:=hfb;have h1:=R.arr _ _ _ _ hb;rw[jU hs];cases hΓ:Γ id with
   |none =>
    rw[hΓ]at h1;simp only at h1 ⊢;subst h1;exact SP hl
   |some y =>
    obtain⟨b,base,n⟩:=y;rw[hΓ]at h1;obtain⟨c,a1,a2,a3,a4⟩:=h1;refine⟨c,a1,a2,by omega,fun i hi=>?_⟩;obtain⟨cv,b1,b2⟩:=a4 i (by omega);exact⟨cv,b1,(hc i (by omega) hi).sound R F b2⟩
  |_=>exact hfb.elim
 loop id st pend n env ps asg body hg:=by
  obtain⟨hs,b,hb,hfb,_⟩:=F.back hg;cases b with
  |loop =>
   obtain⟨rfl,rfl,rfl,rfl,rfl,rfl,rfl,hf⟩:=hfb;obtain⟨b,rr,a1,a2,a3,a4,a5,a6,a7,a8,a9⟩:=R.loop _ _ _ _ _ _ _ _ hb;exact⟨b,rr,by rw[jU hs];exact a1,a2,a3,a4,a5,a6,a7,a8,fun t ht=>(hf t (by omega)).sound R F (a9 t ht)⟩
  |_=>exact hfb.elim
 mp id es hg:=by
  obtain⟨hs,b,hb,hfb,_⟩:=F.back hg;cases b with
  |mp es0 =>
   have hfb':es=es0:=hfb;subst hfb';obtain⟨b,a1,a2⟩:=R.mp _ _ hb;exact⟨b,by rw[jU hs];exact a1,a2⟩
  |_=>exact hfb.elim
 rsv id hg:=by
  obtain⟨hs,b,hb,hfb,_⟩:=F.back hg;cases b with
  |rsv=>rw[jU hs];exact R.rsv id hb
  |_=>exact hfb.elim
 inj id id' b base n base' n' h h':=R.inj id id' b base n base' n' (nC h).2 (nC h').2
 dom id x h:=by
  obtain⟨hs,h⟩:=nC h;obtain⟨y,hy⟩:=R.dom id x h;obtain⟨_,b',hb',_⟩:=F.kept id y hs hy;exact⟨b',hb'⟩
 lt id b base n h:=R.lt id b base n (nC h).2
 next id y h:=by
  obtain⟨_,_,_,_,h⟩:=F.back h;exact h
 glob g cells h:=(Fz.plain (hG g cells h)).sound R F (R.glob g cells h)
 gsz:=R.gsz
theorem oI.freeze {S:Nat->Prop}(hG:fm G){v v':AVal}(F:FzH S H H')(hv:Fz S H H'.next v v'):oI P G H v H' v' :=
 fun Γ _ R=>⟨iF S Γ,F.rel hG R,F.bE,fun _ h=>hv.sound R F h⟩
theorem cJ.freeze {S:Nat->Prop}(hG:fm G){s s':St}(F:FzH S s.H s'.H)(hv:∀t,Fz S s.H s'.H.next (s.ρ t) (s'.ρ t)):cJ P G s s':=by
 intro n wb Γ a w hs;have E:Evo Γ s.H w (iF S Γ) s'.H w:=F.bE;refine⟨iF S Γ,⟨hs.size,fun t=>(hv t).sound hs.heap F (hs.env t),F.rel hG hs.heap,hs.defers.bE E,hs.low⟩,E,fun rd rb hr hri=>?_⟩;cases rd with
 |none=>exact hr
 |some id =>
  obtain⟨b,st,pend,n,env,ps,asg,body,h1,h2,h3⟩:=hr;obtain⟨st',pend',n',env',ps',asg',body',h4⟩:=hri;obtain⟨hns,_⟩:=F.back h4;exact⟨b,_,_,_,_,_,_,_,h1,by rw[jU hns];exact h2,h4⟩
theorem Jn (hc:Clo H)(L:List Blk):FzH (fun id=>H.next<=id) (ext H L) H where
 gone id hs:=by
  cases h:H.get id with
  |none=>rfl
  |some b=>have:=hc.lt id b h;omega
 kept id b hs hb:=by
  have hlt:id<H.next:=Uq hs;rw[dv H L id hlt]at hb;have hbb:=hc.below id b hb;refine⟨hlt,b,hb,?_⟩;have hno:∀i,i<H.next->¬H.next<=i:=fun i h=>Nat.not_le_of_lt h;cases b with
  |rsv=>trivial
  |mp=>rfl
  |arr g e cells=>exact⟨rfl,rfl,rfl,fun i h _=>.refl (hbb i h) hno⟩
  |loop st pend n env ps asg body=>exact⟨rfl,rfl,rfl,rfl,rfl,rfl,rfl,fun t ht=>.refl (hbb t ht) hno⟩
 none id hs hb:=by
  rw[dv H L id (Uq hs)]at hb;exact hb
theorem ar.drop (hG:fm G)(hc:Clo H){L:List Blk}{K:ARes->AHeap->Prop}{v v':AVal}(hv:Fz (fun id=>H.next<=id) (ext H L) H.next v v')(hk:K (.ret v') H):ar P G H K v (ext H L) :=
 ⟨v',H,.freeze hG (Jn hc L) hv,Nat.le_refl _,hk⟩
theorem ar.A8 (hG:fm G)(hc:Clo H){K:ARes->AHeap->Prop}{v v':AVal}(hv:Fz (fun id=>H.next<=id) (ext H []) H.next v v')(hk:K (.ret v') H):ar P G H K v H:=by
 have:=ar.drop (P:=P) hG hc hv hk;rw[ext_nil]at this;exact this
theorem ag.clo {f : FuncId} {args : List AVal} {K : ARes → AHeap → Prop} (hf : ∃ fn, P.funcs[f]? = some fn ∧ fn.body.isNone = false ∧ (fn.name == "runtime.NumGoroutine") = false) (h : Clo H → ag P G f args H K) : ag P G f args H K :=
 ⟨hf,fun Γ w cargs R hr=>(h R.clo).2 Γ w cargs R hr⟩
theorem ag.Jo {f : FuncId} {args : List AVal} {K : ARes → AHeap → Prop} (hf : ∃ fn, P.funcs[f]? = some fn ∧ fn.body.isNone = false ∧ (fn.name == "runtime.NumGoroutine") = false) (h : Clo H → (∀ v, v ∈ args → Below H.next v) → ag P G f args H K) : ag P G f args H K :=
 ⟨hf,fun Γ w cargs R hr=>(h R.clo (fun v hv=>by
  obtain⟨i,hi,rfl⟩:=V8.1 hv;exact(hr.2 i hi (by have:=hr.1;omega)).nt)).2 Γ w cargs R hr⟩
end Go.Hx
namespace Go.Hx
variable {P:Program} {G:Nat->Option (List AVal)} {Γ Γ':aK} {H H':AHeap} {w w':World}
theorem ui (R:RelH P G Γ H w){id:Nat}{st:LoopState}{pend:Option Code}{n:Nat}{env:Env}{ps:Array Tmp}{asg body:Code}(hg:H.get id=some (.loop st pend n env ps asg body)):
    ∃b r,Γ id=some (b,0,0)/\w.heap[b]?=some (.loop r)/\r.state=st/\r.pending=pend/\r.params=ps/\r.assign=asg/\r.body=body/\r.tmps.size=n/\(∀t (h:t<r.tmps.size),RelV P Γ H w (env t) r.tmps[t]) /\
      ∀st' pend',RelH P G Γ (H.upd id (.loop st' pend' n env ps asg body)) (bY w b (.loop { r with state:=st',pending:=pend' })) /\
        Evo Γ H w Γ (H.upd id (.loop st' pend' n env ps asg body)) (bY w b (.loop { r with state:=st',pending:=pend' })):=by
  obtain⟨b,r,hΓ,hb,h1,h2,h3,h4,h5,h6,h7⟩:=R.loop id st pend n env ps asg body hg;refine⟨b,r,hΓ,hb,h1,h2,h3,h4,h5,h6,h7,fun st' pend'=>?_⟩;have hlt:=R.lt id b 0 0 hΓ;have E:Evo Γ H w Γ (H.upd id (.loop st' pend' n env ps asg body)) (bY w b (.loop { r with state:=st',pending:=pend' })) :=
    { os:=rfl,tape:=rfl,output:=rfl
      size:=by rw[jN];exact Nat.le_refl _
      keep:=fun c hc ho=>⟨by
        rw[fg,SI];rintro⟨rfl,_⟩;exact ho ⟨id,0,0,hΓ⟩,ho⟩
      live:=fun i hi _ x' hx=>by
        rw[ae]at hx;split at hx
        · rename_i hii;subst hii;simp only[Option.some.injEq]at hx;subst hx;exact⟨_,hg,rfl,rfl,rfl,rfl,rfl,rfl⟩
        · exact⟨x',hx,Blk.le_refl _ _ _⟩
      frz:=fun a _=>qT hb (fun _ _ _ h=>by cases h) (fun _ _ _ h=>by cases h) a }
  refine⟨?_,E⟩;have hne:∀i b' base n',Γ i=some (b',base,n')->i≠id->b'≠b:=fun i b' base n' hi hii hbb=>by
    subst hbb;exact hii (R.inj _ _ _ _ _ _ _ hi hΓ)
  exact
    { arr:=fun i g e cells hgi=>by
        rw[ae]at hgi;split at hgi
        · simp at hgi
        · rename_i hii;have h:=R.arr i g e cells hgi;cases hi:Γ i with
          |none=>rw[hi]at h;exact h
          |some y =>
            obtain⟨b',base,n'⟩:=y;rw[hi]at h;obtain⟨c,a1,a2,a3,a4⟩:=h;refine⟨c,?_,a2,a3,fun j hj=>let ⟨cv,b1,b2⟩:=a4 j hj;⟨cv,b1,b2.bE E (Nat.le_refl _)⟩⟩;rw[fg,SI]
            · exact a1
            · rintro⟨h,_⟩;exact hne i b' base n' hi hii h
      loop:=fun i st2 pend2 n2 env2 ps2 asg2 body2 hgi=>by
        rw[ae]at hgi;split at hgi
        · rename_i hii;subst hii;simp only[Option.some.injEq,Blk.loop.injEq]at hgi;obtain⟨rfl,rfl,rfl,rfl,rfl,rfl,rfl⟩:=hgi;refine⟨b,{ r with state:=st',pending:=pend' },hΓ,by rw[fg,SK ⟨rfl,hlt⟩],rfl,rfl,h3,h4,h5,h6,fun t ht=>(h7 t ht).bE E (Nat.le_refl _)⟩
        · rename_i hii;obtain⟨b2,r2,a1,a2,a3,a4,a5,a6,a7,a8,a9⟩:=R.loop i _ _ _ _ _ _ _ hgi;refine⟨b2,r2,a1,?_,a3,a4,a5,a6,a7,a8,fun t ht=>(a9 t ht).bE E (Nat.le_refl _)⟩;rw[fg,SI]
          · exact a2
          · rintro⟨h,_⟩;exact hne i b2 0 0 a1 hii h
      mp:=fun i es hgi=>by
        rw[ae]at hgi;split at hgi
        · simp at hgi
        · rename_i hii;obtain⟨b2,a1,a2⟩:=R.mp i _ hgi;refine⟨b2,a1,?_⟩;rw[fg,SI]
          · exact a2
          · rintro⟨h,_⟩;exact hne i b2 0 0 a1 hii h
      rsv:=fun i hgi=>by
        rw[ae]at hgi;split at hgi
        · simp at hgi
        · exact R.rsv i hgi
      inj:=R.inj
      dom:=fun i x hi=>by
        obtain⟨y,hy⟩:=R.dom i x hi;rw[ae];split
        · exact⟨_,rfl⟩
        · exact⟨y,hy⟩
      lt:=fun i b' base n' hi=>by rw[jN];exact R.lt i b' base n' hi
      next:=fun i y hy=>by
        rw[ae]at hy;split at hy
        · rename_i hii;subst hii;exact R.next _ _ hg
        · exact R.next i y hy
      glob:=fun g cells h=>(R.glob g cells h).bE E (Nat.le_refl _)
      gsz:=R.qS E }
theorem rH {b:Nat}{r:Loop}(h:w.heap[b]?=some (.loop r)):(Instr.getLoop b).run P w=.ok r w:=by
  have hg:(getObj b).run P w=.ok (.loop r) w:=by simp[getObj,Sem.run,h]
  unfold Instr.getLoop;rw[aA hg];rfl
theorem xf {b:Nat}{r:Loop}{o':Obj}(h:w.heap[b]?=some (.loop r)):(setObj b o').run P w=.ok () (bY w b o'):=by
  simp[setObj,Sem.run,h,bY]
theorem Jp {b:Nat}{r:Loop}(h:w.heap[b]?=some (.loop r))(hs:r.state=.ready):(Instr.beginRound b).run P w=.ok () (bY w b (.loop { r with state:=.busy,pending:=r.pending })):=by
  unfold Instr.beginRound;rw[aA (rH h),aA (xf h)];simp only[hs];rfl
theorem Jq {b:Nat}{r:Loop}(h:w.heap[b]?=some (.loop r))(j:Option Code):
    (Instr.endRound b j).run P w=.ok (.bool j.isNone) (bY w b (.loop { r with state:=if j.isNone then .ready else .done,pending:=j })):=by
  unfold Instr.endRound;rw[aA (rH h),aA (xf h)];rfl
theorem Jr {b:Nat}{r:Loop}(h:w.heap[b]?=some (.loop r))(hs:(r.state == .busy)=false):(Instr.endLoop b).run P w=.ok r.pending (bY w b (.loop { r with state:=.exhausted,pending:=r.pending })):=by
  unfold Instr.endLoop;rw[aA (rH h)];simp only[hs,Bool.false_eq_true,if_false];rw[aA (xf h)];rfl
def fV (ρ:Env)(l:List (Tmp × AVal)):Env:=l.foldl (fun ρ p=>aX ρ (some p.1) p.2) ρ
def bA (env:Env)(n:Nat):Env:=fun t=>if t<n then env t else .lit undef
def oL (st:LoopState)(pend:Option Code):Option Blk->Option Blk
  |some (.loop _ _ n env ps asg body)=>some (.loop st pend n env ps asg body)
  |_=>none
def A9:Option Blk->Option Blk
  |some (.loop .ready pend n env ps asg body)=>some (.loop .busy pend n env ps asg body)
  |_=>none
def Js (id:Nat)(K:ARes->AHeap->Prop):AX->St->Prop
  |.normal,s=>bz (oL .ready none (s.H.get id)) fun b=>K (.ret (.lit (.bool true))) (s.H.upd id b)
  |.ret,s=>bz (oL .done (some .ret) (s.H.get id)) fun b=>K (.ret (.lit (.bool false))) (s.H.upd id b)
  |.exit i,s=>bz (oL .done (some (.exit i)) (s.H.get id)) fun b=>K (.ret (.lit (.bool false))) (s.H.upd id b)
  |.goto i,s=>bz (oL .done (some (.goto i)) (s.H.get id)) fun b=>K (.ret (.lit (.bool false))) (s.H.upd id b)
  |.panic,_=>False
def Jt (P:Program)(G:Nat->Option (List AVal))(n id:Nat)(body:Code)(K:ARes->AHeap->Prop):AX->St->Prop
  |.normal,s=>bz (A9 (s.H.get id)) fun b=>W P G n (some id) body (Js id K) ⟨s.ρ,s.H.upd id b⟩
  |_,_=>False
theorem Ju:∀(l:List (Tmp × AVal)) (cl:List (Tmp × Value)) (ρ:Env) (tmps:Array Value),l.length=cl.length->(∀i (h:i<l.length) (h':i<cl.length),l[i].1=cl[i].1/\l[i].1<tmps.size/\RelV P Γ H w l[i].2 cl[i].2) ->
    (∀t,RelV P Γ H w (ρ t) (tmps.getD t undef)) ->
    ((cl.foldl (fun tmps (p:Tmp × Value)=>tmps.setIfInBounds p.1 p.2) tmps).size=tmps.size)/\∀t,RelV P Γ H w (fV ρ l t) ((cl.foldl (fun tmps (p:Tmp × Value)=>tmps.setIfInBounds p.1 p.2) tmps).getD t undef):=by
  intro l
  induction l with
  |nil =>
    intro cl ρ tmps hl _ he;cases cl with
    |nil=>exact⟨rfl,he⟩
    |cons=>simp at hl
  |cons x l ih =>
    intro cl ρ tmps hl h he;cases cl with
    |nil=>simp at hl
    |cons y cl =>
      obtain⟨h1,h2,h3⟩:=h 0 (by simp) (by simp);simp only[Tp]at h1 h2 h3;have:=ih cl (aX ρ (some x.1) x.2) (tmps.setIfInBounds y.1 y.2) (by simpa using hl) (fun i a b=>by
        have:=h (i+1) (by simpa using a) (by simpa using b);simp only[T5]at this;simpa using this) (fun t=>by
          by_cases ht:t=x.1
          · subst ht;have e1:aX ρ (some x.1) x.2 x.1=x.2:=(by simp[aX]);have e2:(tmps.setIfInBounds y.1 y.2).getD x.1 undef=y.2:=(by rw[<- h1];simp[h2]);rw[e1,e2];exact h3
          · have e1 : aX ρ (some x.1) x.2 t=ρ t:=(by simp [aX,ht]);have e2 : (tmps.setIfInBounds y.1 y.2).getD t undef=tmps.getD t undef:=by
              simp only[TE];rw[TA,SI (by rw[<- h1];exact fun h=>ht h.symm)]
            rw[e1,e2];exact he t)
      refine⟨?_,this.2⟩;have h4:=this.1;simp only[Array.size_setIfInBounds]at h4;exact h4
theorem Jv {st:LoopState}{pend:Option Code}{x:Option Blk}{b:Blk}(h:oL st pend x=some b):∃st0 p0 n env ps asg body,x=some (.loop st0 p0 n env ps asg body)/\b=.loop st pend n env ps asg body:=by
  unfold oL at h;split at h
  · cases h;exact⟨_,_,_,_,_,_,_,rfl,rfl⟩
  · cases h
theorem aw.yld {id:Nat}{args:List AVal}{K:ARes->AHeap->Prop}{pend:Option Code}{n:Nat}{env:Env}{ps:Array Tmp}{asg body:Code}(hg:H.get id=some (.loop .ready pend n env ps asg body))(hl:args.length=ps.size)
    (hps:ps.toList.all (fun t=>decide (t<n))=true) (h:W P G n (some id) asg (Jt P G n id body K) ⟨fV (bA env n) (ps.toList.zip args),H⟩):aw P G (.yld id) args H K:=by
  intro Γ w cfv cargs R hv hr;cases hv with
  |yld hy =>
    obtain⟨b,hΓ,rfl⟩:=hy.2.2.2.1 _ _ _ _ _ _ _ hg;obtain⟨b',r,hΓ',hb,h1,h2,h3,h4,h5,h6,h7,_⟩:=ui R hg;rw[hΓ]at hΓ';simp only[Option.some.injEq,Prod.mk.injEq]at hΓ';obtain⟨rfl,_⟩:=hΓ';have hsz:cargs.size=r.params.size:=(by rw[hr.1,hl,h3]);refine⟨{ target:=.fn (.yield b) #[],args:=#[]++cargs },rfl,.inr (.inl ⟨b,r.fn,(r.params.zip (#[]++cargs)).foldl (fun tmps (t,a)=>tmps.setIfInBounds t a) r.tmps,r.assign,r.body,?_,?_⟩)⟩
    · show (Instr.yield b (#[]++cargs)).run P w=_;unfold Instr.yield;rw[aA (rH hb)];have:¬((#[]++cargs).size≠r.params.size):=(by simp[hsz]);rw[SI this];rfl
    · refine roundIn_of_wpIn (F:=Fence.wide) trivial ?_;have hfold : (r.params.zip (#[]++cargs)).foldl (fun tmps (t,a)=>tmps.setIfInBounds t a) r.tmps=(r.params.toList.zip cargs.toList).foldl (fun tmps (p : Tmp × Value)=>tmps.setIfInBounds p.1 p.2) r.tmps:=by
        rw[<- Array.foldl_toList];simp
      rw [hfold,h4,h5];have hset:=Ju (P:=P) (Γ:=Γ) (H:=H) (w:=w) (ps.toList.zip args) (r.params.toList.zip cargs.toList) (bA env n) r.tmps (by simp [hr.1,h3]) (fun i a c=>by
          simp only[List.length_zip,UG]at a c;simp only[List.getElem_zip,TV];refine⟨by simp only[h3],?_,hr.2 i (by omega) (by omega)⟩;rw[h6];have:=Td.1 hps (ps[i]'(by omega)) (by simp);simpa using this) (fun t=>by
          unfold bA;by_cases ht:t<n
          · rw[SK ht];have:r.tmps.getD t undef=r.tmps[t]'(by omega):=(by simp[h6,ht]);rw[this];exact h7 t (by omega)
          · rw[SI ht];have:r.tmps.getD t undef=undef:=(by simp[h6,ht]);rw[this];exact .lit _)
      have hs:RelS P G n ⟨0,[]⟩ Γ ⟨fV (bA env n) (ps.toList.zip args),H⟩ { tmps:=(r.params.toList.zip cargs.toList).foldl (fun tmps (p:Tmp × Value)=>tmps.setIfInBounds p.1 p.2) r.tmps,defers:=[] } w :=
        ⟨by rw[hset.1,h6],hset.2,R,⟨[],rfl,Marks.nil⟩,UF _⟩
      refine wpIn_mono (h ⟨0,[]⟩ Γ _ w (some b) hs ⟨b,_,_,_,_,_,_,_,rfl,hΓ,hg⟩) ?_;rintro e a₁ w₁ ⟨x,s₁,Γ₁,hx,hq,hs₁,E₁,hn₁,hr₁,_⟩;cases x with
      |normal =>
        cases e with
        |normal =>
          obtain⟨blk,hbg,hW⟩:=hq;obtain⟨b1,st1,p1,n1,env1,ps1,asg1,body1,hb1,hΓ₁,hg₁⟩:=hr₁;simp only[Option.some.injEq]at hb1;subst hb1;rw[hg₁]at hbg;have hst:st1=.ready/\blk=.loop .busy p1 n1 env1 ps1 asg1 body1:=by
            cases st1<;>simp[A9]at hbg
            exact⟨rfl,hbg.symm⟩
          obtain ⟨rfl,rfl⟩:=hst;obtain ⟨b2,r1,hΓ₂,hb2,k1,k2,k3,k4,k5,k6,k7,kset⟩:=ui hs₁.heap hg₁;rw [hΓ₁] at hΓ₂;simp only [Option.some.injEq,Prod.mk.injEq] at hΓ₂;obtain ⟨rfl,_⟩:=hΓ₂;obtain ⟨R2,E2⟩:=kset .busy r1.pending;rw [k2] at R2 E2;have hb3 : Γ₁ id=some (b,0,0):=hΓ₁;refine ⟨_,Jp hb2 k1,?_⟩;rw [k2];refine wpIn_mono (hW ⟨0,[]⟩ Γ₁ a₁ _ (some b) (hs₁.move E2 (Nat.le_refl _) R2) ⟨b,_,_,_,_,_,_,_,rfl,hΓ₁,by rw [ae,SK rfl]⟩) ?_;rintro e a₂ w₂ ⟨x,s₂,Γ₂,hx,hq,hs₂,E3,hn₂,hr₂,_⟩;obtain ⟨b4,st4,p4,n4,env4,ps4,asg4,body4,hb4,hΓ₄,hg₄⟩:=hr₂;simp only [Option.some.injEq] at hb4;subst hb4;obtain ⟨b5,r5,hΓ₅,hb5,l1,l2,l3,l4,l5,l6,l7,lset⟩:=ui hs₂.heap hg₄;rw [hΓ₄] at hΓ₅;simp only [Option.some.injEq,Prod.mk.injEq] at hΓ₅;obtain ⟨rfl,_⟩:=hΓ₅;have E4 : Evo Γ H w Γ₂ s₂.H w₂:=(E₁.trans hn₁ E2).trans hn₁ E3;have hn4 : H.next≤s₂.H.next:=Tt hn₁ hn₂;have fin : ∀ (j : Option Code) (v : Bool),v=j.isNone→bz (oL (if j.isNone then .ready else .done) j (s₂.H.get id)) (fun bl=>K (.ret (.lit (.bool v))) (s₂.H.upd id bl)) →
              ∃cv w',(Instr.endRound b j).run P w₂=.ok cv w'/\jD P G Γ H w K (.returned cv) w':=by
            rintro j v rfl ⟨bl,hbl,hk⟩;obtain⟨R6,E6⟩:=lset (if j.isNone then .ready else .done) j;rw[hg₄]at hbl;obtain⟨_,_,_,_,_,_,_,heq,rfl⟩:=Jv hbl;simp only[Option.some.injEq,Blk.loop.injEq]at heq;obtain⟨rfl,rfl,rfl,rfl,rfl,rfl,rfl⟩:=heq;exact⟨_,_,Jq hb5 j,.ret (.lit (.bool j.isNone)),_,Γ₂,RelV.lit _,hk,R6,E4.trans hn4 E6,hn4⟩
          cases e with
          |normal=>cases x with
            |normal=>exact fin none true rfl hq
            |_=>exact hx.elim
          |ret=>cases x with
            |ret=>exact fin (some .ret) false rfl hq
            |_=>exact hx.elim
          |exit i=>cases x with
            |exit i' =>
              obtain rfl:i=i':=hx;exact fin (some (.exit i)) false rfl hq
            |_=>exact hx.elim
          |goto i=>cases x with
            |goto i' =>
              obtain rfl:i=i':=hx;exact fin (some (.goto i)) false rfl hq
            |_=>exact hx.elim
          |panic c=>cases x with
            |panic=>exact hq.elim
            |_=>exact hx.elim
          |outgrown=>cases x<;>exact hx.elim
        |_=>exact hx.elim
      |_=>exact hq.elim
theorem xh (hos:w'.os=w.os)(ht:w'.tape=w.tape)(ho:w'.output=w.output)(hs:w.heap.size<=w'.heap.size)(hk:∀b,b<w.heap.size->w'.heap[b]?=w.heap[b]?)(hz:∀a,a.block<w.heap.size->w'.frozen? a=w.frozen? a)(R:RelH P G Γ H w):Evo Γ H w Γ H w'/\RelH P G Γ H w':=by
  have E:Evo Γ H w Γ H w':=⟨hos,ht,ho,hs,fun b hb h=>⟨hk b hb,h⟩,fun _ _ _ x' hx=>⟨x',hx,Blk.le_refl _ _ _⟩,hz⟩
  refine⟨E,?_⟩;exact
    { arr:=fun id g e cells hg=>by
        have h1:=R.arr id g e cells hg;cases hΓ:Γ id with
        |none=>rw[hΓ]at h1;exact h1
        |some y =>
          obtain⟨b,base,n⟩:=y;rw[hΓ]at h1;obtain⟨c,a1,a2,a3,a4⟩:=h1;exact⟨c,by rw[hk b (R.lt _ _ _ _ hΓ)];exact a1,a2,a3,fun i hi=>let ⟨cv,b1,b2⟩:=a4 i hi;⟨cv,b1,b2.bE E (Nat.le_refl _)⟩⟩
      loop:=fun id st pend n env ps asg body hg=>by
        obtain⟨b,rr,a1,a2,a3,a4,a5,a6,a7,a8,a9⟩:=R.loop id st pend n env ps asg body hg;exact⟨b,rr,a1,by rw[hk b (R.lt _ _ _ _ a1)];exact a2,a3,a4,a5,a6,a7,a8,fun t ht=>(a9 t ht).bE E (Nat.le_refl _)⟩
      mp:=fun id es hg=>by
        obtain⟨b,a1,a2⟩:=R.mp id es hg;exact⟨b,a1,by rw[hk b (R.lt _ _ _ _ a1)];exact a2⟩
      rsv:=R.rsv
      inj:=R.inj
      dom:=R.dom
      lt:=fun id b base n h=>S1 (R.lt id b base n h) hs
      next:=R.next
      glob:=fun g cells h=>(R.glob g cells h).bE E (Nat.le_refl _)
      gsz:=R.qS E }
def xi:Option Blk->Option (Option Code × Blk)
  |some (.loop .busy ..)=>none
  |some (.loop _ pend n env ps asg body)=>some (pend,.loop .exhausted pend n env ps asg body)
  |_=>none
def Jw (Q:AX->St->Prop)(s:St):Option Code->Prop
  |none=>Q .normal s
  |some .ret=>Q .ret s
  |some (.exit i)=>Q (.exit i) s
  |some (.goto i)=>Q (.goto i) s
  |_=>False
def xj (rd:Option Nat)(Q:AX->St->Prop)(ρ:Env)(id:Nat):ARes->AHeap->Prop
  |.ret _,H'=>fT H' rd/\bz (xi (H'.get id)) fun pb=>Jw Q ⟨ρ,H'.upd id pb.2⟩ pb.1
  |.panic,H'=>fT H' rd/\Q .panic ⟨ρ,H'⟩
theorem Jx {x:Option Blk}{pb:Option Code × Blk}(h:xi x=some pb):∃st pend n env ps asg body,x=some (.loop st pend n env ps asg body)/\(st == .busy)=false/\pb=(pend,.loop .exhausted pend n env ps asg body):=by
  unfold xi at h;split at h
  · cases h
  · rename_i st pend n env ps asg body hne;cases h;refine⟨_,_,_,_,_,_,_,rfl,?_,rfl⟩;cases st with
    |busy=>exact absurd rfl (by first|exact hne|exact fun h=>hne _ _ _ _ _ _ h)
    |_=>rfl
  · cases h
section
variable {n:Nat} {rd:Option Nat} {Q:AX->St->Prop}
theorem W.rangeFunc {g:Operand}{ps:Array Tmp}{asg body:Code}{s:St}{f:FuncId}{first cap:List AVal}(hg:aB G s.ρ g=.clo f first cap)
    (h:bz (s.H.lay s.H.next (.loop .ready none n s.ρ ps asg body)) fun H1=>ag P G f (first++[.yld s.H.next]++cap) H1 (xj rd Q s.ρ s.H.next)):W P G n rd (.rangeFunc g ps asg body) Q s:=by
  intro wb Γ a w rb hs hr;obtain⟨H1,hlay,hcall⟩:=h;have hlay2:H1=⟨fun j=>if j=s.H.next then some (.loop .ready none n s.ρ ps asg body) else s.H.get j,s.H.next+1⟩:=by
    unfold AHeap.lay at hlay;rw[SK rfl]at hlay;exact(Option.some.inj hlay).symm
  subst hlay2;refine wpIn_rangeFunc fun fn _=>?_;have he:=kz hs g;rw[hg]at he
  -- the world with the record
  have key : ∀ (w0 : World) (mark : List Deferred) (dblk : Nat),Evo Γ s.H w Γ s.H w0→RelH P G Γ s.H w0 →
      rp wb Γ w0 (mark++a.defers) ->
      ∀w1,w1={ w0 with heap:=w0.heap.push (.loop { state:=.ready,pending:=none,fn:=fn,tmps:=a.tmps,params:=ps,assign:=asg,body:=body,defers:=dblk }) } ->
      (Instr.enterLoop fn a.tmps ps asg body (gh rb).round).run P w=.ok (w0.heap.size,mark) w1 ->
      ∃(l:Nat) (mark:List Deferred) (w₁:World) (d:Deferred) (w₁':World) (f:FuncId) (args:Array Value) (w₂:World),
      (Instr.enterLoop fn a.tmps ps asg body (gh rb).round).run P w=.ok (l,mark) w₁ /\
      (resolve a.eval (rangeCall g l) 0).run P w₁=.ok d w₁' /\
      (∀f',Target.leads P w₁' d.target d.args=some f'->(gh rb).fn f') /\
      (invoke d.target d.args).run P w₁'=.ok (.enter f args) w₂ /\
      ((gh rb).depth.isSome=true->1<=0) /\
      CallsIn (gh rb) (0-1) P f args w₂ (rangePost (gh rb) 0 P l (iW P G n wb rd rb (wr (.rangeFunc g ps asg body)) Γ s.H a w Q) { a with defers:=mark++a.defers }):=by
    intro w0 mark dblk E0 R0 hdef w1 hw1 hent
    let rec':Loop:={ state:=.ready,pending:=none,fn:=fn,tmps:=a.tmps,params:=ps,assign:=asg,body:=body,defers:=dblk }
    have hheap:w1.heap=w0.heap.push (.loop rec'):=(by rw[hw1]);have hsz1:w1.heap.size=w0.heap.size+1:=(by rw[hheap];simp);have hk1:∀b,b<w0.heap.size->w1.heap[b]?=w0.heap[b]?:=fun b hb=>by
      rw[hheap,U7];rw[SI (by omega)]
    have hget1:w1.heap[w0.heap.size]?=some (.loop rec'):=(by rw[hheap];simp);obtain⟨E1,R1⟩:=xh (w':=w1) (by rw[hw1]) (by rw[hw1]) (by rw[hw1]) (by omega) hk1 (fun a _=>pE hheap (fun _ _ _ h=>by cases h) a) R0
    let Γ1:aK:=fun i=>if i=s.H.next then some (w0.heap.size,0,0) else Γ i
    let H1:AHeap:=⟨fun j=>if j=s.H.next then some (.loop .ready none n s.ρ ps asg body) else s.H.get j,s.H.next+1⟩
    have hfresh:∀i y,s.H.get i=some y->i≠s.H.next:=fun i y hy h=>by have:=R0.next i y hy;omega
    have hΓfresh:∀i x,Γ i=some x->i≠s.H.next:=fun i x hx=>let ⟨y,hy⟩:=R0.dom i x hx;hfresh i y hy
    have hΓ1:∀i,i≠s.H.next->Γ1 i=Γ i:=fun i hi=>by simp only[Γ1];rw[SI hi]
    have hH1:∀i,i≠s.H.next->H1.get i=s.H.get i:=fun i hi=>by simp only[H1];rw[SI hi]
    have E2:Evo Γ s.H w0 Γ1 H1 w1 :=
      { os:=by rw[hw1],tape:=by rw[hw1],output:=by rw[hw1],size:=by omega
        keep:=fun b hb ho=>⟨hk1 b hb,by
          rintro⟨i,base,m,hi⟩;simp only[Γ1]at hi;split at hi
          · simp only[Option.some.injEq,Prod.mk.injEq]at hi;omega
          · exact ho ⟨i,base,m,hi⟩⟩
        live:=fun i hi _ x' hx=>by
          rw[hH1 i (by omega)]at hx;refine⟨x',hx,?_⟩;have hΓi:Γ1 i=Γ i:=hΓ1 i (by omega);cases x' with
          |arr=>exact⟨Nat.le_refl _,fun _=>⟨hΓi,rfl,rfl⟩⟩
          |loop=>exact⟨hΓi,rfl,rfl,rfl,rfl,rfl⟩
          |mp=>exact hΓi
          |rsv=>trivial
        frz:=fun a _=>pE hheap (fun _ _ _ h=>by cases h) a }
    have hn1:s.H.next<=H1.next:=Uc _;have tr:∀v cv,RelV P Γ s.H w0 v cv->RelV P Γ1 H1 w1 v cv:=fun v cv h=>h.bE E2 hn1;have R2:RelH P G Γ1 H1 w1 :=
      { arr:=fun i g e cells hi=>by
          by_cases hii:i=s.H.next
          · simp only[H1]at hi;rw[SK hii]at hi;simp at hi
          · rw[hH1 i hii]at hi;have h:=R0.arr i g e cells hi;rw[hΓ1 i hii];cases hΓ:Γ i with
            |none=>rw[hΓ]at h;exact h
            |some y =>
              obtain⟨b,base,m⟩:=y;rw[hΓ]at h;obtain⟨c,a1,a2,a3,a4⟩:=h;exact⟨c,by rw[hk1 b (R0.lt _ _ _ _ hΓ)];exact a1,a2,a3,fun j hj=>let ⟨cv,b1,b2⟩:=a4 j hj;⟨cv,b1,tr _ _ b2⟩⟩
        loop:=fun i st2 pend2 n2 env2 ps2 asg2 body2 hi=>by
          by_cases hii:i=s.H.next
          · simp only [H1] at hi;rw [SK hii] at hi;simp only [Option.some.injEq,Blk.loop.injEq] at hi;obtain ⟨rfl,rfl,rfl,rfl,rfl,rfl,rfl⟩:=hi;refine ⟨w0.heap.size,rec',by simp only [Γ1];rw [SK hii],hget1,rfl,rfl,rfl,rfl,rfl,hs.size,fun t ht=>?_⟩;have:=((hs.env t).bE E0 (Nat.le_refl _)).bE E2 hn1;have e1 : a.tmps.getD t undef=a.tmps[t]'ht:=by
              have:t<a.tmps.size:=ht;simp[this]
            rw[e1]at this;exact this
          · rw[hH1 i hii]at hi;obtain⟨b2,r2,a1,a2,a3,a4,a5,a6,a7,a8,a9⟩:=R0.loop i _ _ _ _ _ _ _ hi;exact⟨b2,r2,by rw[hΓ1 i hii];exact a1,by rw[hk1 b2 (R0.lt _ _ _ _ a1)];exact a2,a3,a4,a5,a6,a7,a8,fun t ht=>tr _ _ (a9 t ht)⟩
        mp:=fun i es hi=>by
          by_cases hii:i=s.H.next
          · simp only[H1]at hi;rw[SK hii]at hi;simp at hi
          · rw[hH1 i hii]at hi;obtain⟨b2,a1,a2⟩:=R0.mp i _ hi;exact⟨b2,by rw[hΓ1 i hii];exact a1,by rw[hk1 b2 (R0.lt _ _ _ _ a1)];exact a2⟩
        rsv:=fun i hi=>by
          by_cases hii:i=s.H.next
          · simp only[H1]at hi;rw[SK hii]at hi;simp at hi
          · rw[hH1 i hii]at hi;rw[hΓ1 i hii];exact R0.rsv i hi
        inj:=fun i i' b base m base' m' h h'=>by
          by_cases h1:i=s.H.next
          · by_cases h2:i'=s.H.next
            · rw[h1,h2]
            · rw[hΓ1 i' h2]at h';simp only[Γ1]at h;rw[SK h1]at h;simp only[Option.some.injEq,Prod.mk.injEq]at h;have:=R0.lt _ _ _ _ h';omega
          · by_cases h2:i'=s.H.next
            · rw[hΓ1 i h1]at h;simp only[Γ1]at h';rw[SK h2]at h';simp only[Option.some.injEq,Prod.mk.injEq]at h';have:=R0.lt _ _ _ _ h;omega
            · rw[hΓ1 i h1]at h;rw[hΓ1 i' h2]at h';exact R0.inj _ _ _ _ _ _ _ h h'
        dom:=fun i x hi=>by
          by_cases hii:i=s.H.next
          · simp only[H1];rw[SK hii];exact⟨_,rfl⟩
          · rw[hΓ1 i hii]at hi;rw[hH1 i hii];exact R0.dom i x hi
        lt:=fun i b base m hi=>by
          by_cases hii:i=s.H.next
          · simp only[Γ1]at hi;rw[SK hii]at hi;simp only[Option.some.injEq,Prod.mk.injEq]at hi;omega
          · rw[hΓ1 i hii]at hi;have:=R0.lt _ _ _ _ hi;omega
        next:=fun i y hi=>by
          by_cases hii:i=s.H.next
          · show i<s.H.next+1;omega
          · rw[hH1 i hii]at hi;have:=R0.next i y hi;show i<s.H.next+1;omega
        glob:=fun g cells h=>tr _ _ (R0.glob g cells h)
        gsz:=R0.qS E2 }
    have E3:Evo Γ s.H w Γ1 H1 w1:=E0.trans (Nat.le_refl _) E2;generalize hcg:a.eval g=cg at he;cases he with
    | @clo _ _ _ fs cs hfs hcs hf hc =>
      obtain⟨⟨fn',hfn',hb',hname'⟩,hcall⟩:=hcall;have hyld:RelV P Γ1 H1 w1 (.yld s.H.next) (.func (.yield w0.heap.size) #[] #[]) :=
        .yld ⟨Vg _,rfl,by simp[H1],fun st pend n env ps asg body hgi=>⟨w0.heap.size,by simp[Γ1],rfl⟩,fun es hgi=>by simp[H1]at hgi⟩
      have hargs:dW P Γ1 H1 w1 (first++[.yld s.H.next]++cap) (fs.toArray++#[.func (.yield w0.heap.size) #[] #[]]++cs.toArray):=by
        refine tQ (tQ ⟨by simpa using hfs,fun i h1 h2=>?_⟩ ⟨rfl,fun i h1 h2=>?_⟩) ⟨by simpa using hcs,fun i h1 h2=>?_⟩
        · exact(by simpa using hf i h1 (by simpa using h2):RelV P Γ s.H w first[i] (fs.toArray[i])).bE E3 hn1
        · have:i=0:=(by simp at h1;omega);subst this;exact hyld
        · exact(by simpa using hc i h1 (by simpa using h2):RelV P Γ s.H w cap[i] (cs.toArray[i])).bE E3 hn1
      refine⟨w0.heap.size,mark,w1,{ target:=.fn (.func f) cs.toArray,args:=fs.toArray++#[.func (.yield w0.heap.size) #[] #[]] },w1,f,fs.toArray++#[.func (.yield w0.heap.size) #[] #[]]++cs.toArray,w1,hent,?_,fun _ _=>trivial,?_,fun hc=>by simp[Fence.wide]at hc,?_⟩
      · have hm:Array.map a.eval #[Operand.const (.func (.yield w0.heap.size) #[] #[])]=#[.func (.yield w0.heap.size) #[] #[]]:=(by simp[Act.eval]);unfold resolve;simp only[hcg,hm];rfl
      · show (callFunc f (fs.toArray++#[.func (.yield w0.heap.size) #[] #[]]++cs.toArray)).run P w1=_;unfold callFunc;rw[aA (run_program P w1)];simp only[hfn'];rw[hname',hb'];rfl
      · have h4 : CallsIn (gh rb) 0 P f (fs.toArray++#[.func (.yield w0.heap.size) #[] #[]]++cs.toArray) w1 _:=hcall Γ1 w1 _ R2 hargs;refine h4.mono ?_;rintro e w3 ⟨r,H',Γ',hend,hk,R',E',hn'⟩;have E5 : Evo Γ s.H w Γ' H' w3:=E3.trans hn1 E';have hn5 : s.H.next≤H'.next:=Tt hn1 hn';have mkS : ∀ (H'' : AHeap) (w4 : World),RelH P G Γ' H'' w4→Evo Γ s.H w Γ' H'' w4→Evo Γ s.H w0 Γ' H'' w4→s.H.next≤H''.next→RelS P G n wb Γ' ⟨s.ρ,H''⟩ { a with defers:=mark++a.defers } w4 :=
          fun H'' w4 R'' E'' E0'' hn''=>⟨hs.size,fun t=>(hs.env t).bE E'' hn'',R'',hdef.bE E0'',Tt hs.low E''.size⟩
        cases e with
        |returned cv =>
          cases r with
          |panic=>exact hend.elim
          |ret v =>
            obtain⟨hri,pb,hpb,hj⟩:=hk;obtain⟨st,pend,n2,env2,ps2,asg2,body2,hgl,hbusy,rfl⟩:=Jx hpb;obtain⟨b,r2,hΓb,hb,l1,l2,l3,l4,l5,l6,l7,lset⟩:=ui R' hgl;obtain⟨R6,E6⟩:=lset .exhausted r2.pending;have hbl:b=w0.heap.size:=by
              obtain⟨x,hx,hle⟩:=E'.live s.H.next (Vg _) (S1 (Vg _) hn') _ hgl;have hx':H1.get s.H.next=some (.loop .ready none n s.ρ ps asg body):=(by simp[H1]);rw[hx']at hx;cases hx;have h1:=hle.1;rw[hΓb]at h1;simp only[Γ1,if_true,Option.some.injEq,Prod.mk.injEq]at h1;exact h1.1
            subst hbl;have hend':=Jr (P:=P) hb (by rw[l1];exact hbusy);rw[l2]at R6 E6 hend';refine⟨pend,_,hend',?_⟩;have E7:=E5.trans hn5 E6;have hS:=mkS _ _ R6 E7 ((E2.trans hn1 E').trans hn5 E6) hn5;have hri':fT (H'.upd s.H.next (.loop .exhausted pend n2 env2 ps2 asg2 body2)) rd:=by
              cases rd with
              |none=>trivial
              |some i =>
                obtain⟨st3,pend3,n3,env3,ps3,asg3,body3,h3⟩:=hri;by_cases hii:i=s.H.next
                · exact⟨_,_,_,_,_,_,_,by rw[ae,SK hii]⟩
                · exact⟨_,_,_,_,_,_,_,by rw[ae,SI hii];exact h3⟩
            have hR:=hr.bE E7 hn5 hs.heap hri';have post:∀(e:Exit) (x:AX),wB e x->Q x ⟨s.ρ,H'.upd s.H.next (.loop .exhausted pend n2 env2 ps2 asg2 body2)⟩->iW P G n wb rd rb (wr (.rangeFunc g ps asg body)) Γ s.H a w Q e { a with defers:=mark++a.defers } _ :=
              fun e x hx hq=>⟨x,_,Γ',hx,hq,hS,E7,hn5,hR,fun t _=>rfl⟩
            simp only at hj;cases pend with
            |none=>exact post .normal .normal trivial hj
            |some c =>
              cases c with
              |ret=>exact wpIn_ret (post .ret .ret trivial hj)
              |exit i=>exact wpIn_exit (post (.exit i) (.exit i) rfl hj)
              |goto i=>exact wpIn_goto (post (.goto i) (.goto i) rfl hj)
              |_=>exact hj.elim
        |panicked chain =>
          cases r with
          |ret v=>exact hend.elim
          |panic =>
            exact⟨.panic,_,Γ',hend,hk.2,mkS _ _ R' E5 (E2.trans hn1 E') hn5,E5,hn5,hr.bE E5 hn5 hs.heap hk.1,fun t _=>rfl⟩
        |outgrown=>cases r<;>exact hend.elim
  cases rb with
  |none =>
    let w0:World:={ w with heap:=w.heap.push (.deferred (some [])) }
    have hk0:∀b,b<w.heap.size->w0.heap[b]?=w.heap[b]?:=fun b hb=>by
      show (w.heap.push _)[b]?=_;rw[U7,SI (by omega)]
    obtain⟨E0,R0⟩:=xh (w:=w) (w':=w0) rfl rfl rfl (by simp[w0]) hk0 (fun a _=>pE (o:=.deferred (some [])) rfl (fun _ _ _ h=>by cases h) a) hs.heap;refine key w0 [{ target:=.collected w.heap.size,args:=#[] }] w.heap.size E0 R0 ?_ _ rfl rfl;obtain⟨m,hm,hmk⟩:=hs.defers;refine⟨{ target:=.collected w.heap.size,args:=#[] } :: m,by rw[hm];rfl,fun d hd=>?_,?_⟩
    · simp only[List.mem_cons]at hd;rcases hd with rfl|hd
      · refine⟨w.heap.size,rfl,hs.low,?_,by simp[w0]⟩;rintro⟨i,base,m,hi⟩;have:=hs.heap.lt _ _ _ _ hi;omega
      · obtain⟨r,h1,h2,h3⟩:=hmk.1 d hd;exact⟨r,h1,h2,h3.bE E0⟩
    · refine Vy.2 ⟨fun d hd=>?_,hmk.2⟩;obtain⟨r,h1,h2,h3⟩:=hmk.1 d hd;rw[h1];intro he;simp only[Target.collected.injEq]at he;have h4:=h3.2;rw[<- he,T6 (Nat.le_refl _)]at h4;cases h4
  |some b0 =>
    have hlr:∃r,w.heap[b0]?=some (.loop r):=by
      cases rd with
      |none=>cases hr
      |some id =>
        obtain⟨b,st,pend,n',env,ps',asg',body',h1,h2,h3⟩:=hr;obtain⟨b',r,h4,h5,_⟩:=hs.heap.loop _ _ _ _ _ _ _ _ h3;rw[h2]at h4;simp only[Option.some.injEq,Prod.mk.injEq]at h4 h1;rw[h1,h4.1];exact⟨r,h5⟩
    obtain⟨r,hlr⟩:=hlr;refine key w [] r.defers (Evo.refl _ _ _) hs.heap (by simpa using hs.defers) _ rfl ?_;show (Instr.enterLoop fn a.tmps ps asg body (some b0)).run P w=_;unfold Instr.enterLoop;simp only[bind_assoc,pure_bind];rw[aA (rH hlr)];rfl
end
end Go.Hx
namespace Go.Hx
variable {P:Program} {G:Nat->Option (List AVal)} {Γ Γ':aK} {H H':AHeap} {w w':World}
def cz:AHeap:=⟨fun _=>none,0⟩
inductive Fresh (H:AHeap):AVal->AVal->Prop
 |lit (v:Value):Fresh H (.lit v) (.lit v)
 |nil:Fresh H (.lit (.slice none 0 0)) (.vec 0 [])
 |vec0:Fresh H (.vec 0 []) (.vec 0 [])
 |agg {c c':List AVal} (hl:c'.length=c.length) (h:∀i (h:i<c.length) (h':i<c'.length),Fresh H c[i] c'[i]):Fresh H (.agg c) (.agg c')
 |tup {c c':List AVal} (hl:c'.length=c.length) (h:∀i (h:i<c.length) (h':i<c'.length),Fresh H c[i] c'[i]):Fresh H (.tup c) (.tup c')
 |own {id g o l z:Nat} {e:TypeId} {cells c':List AVal} (hg:H.get id=some (.arr g e cells)) (hl:c'.length=l*z)
   (h:∀i (h:i<l*z) (h2:o+i<cells.length) (h':i<c'.length),Fresh H cells[o+i] c'[i]):Fresh H (.own id g o l z) (.vec l c')
theorem Fresh.sound (R:RelH P G Γ' H' w){N:Nat}(h1:∀b,Γ'.iz b->N<=b)(h2:∀b,Γ.iz b->b<N){v v':AVal}(hf:Fresh H' v v'):∀ {cv:Value},RelV P Γ' H' w v cv->RelV P Γ H w v' cv:=by
 induction hf with
 |lit v=>intro cv h;cases h;exact .lit _
 |nil=>intro cv h;cases h;exact .vec0 none 0
 |vec0 =>
  intro cv h;cases h with
  |vec0 a cap=>exact .vec0 a cap
  |vec hb hlt hlen hcs hcell hrel=>exact .vec0 _ _
 |agg hl hc ih =>
  intro cv h;cases h with
  |agg hcs hrel=>exact .agg (by omega) fun i a b=>ih i (by omega) a (hrel i (by omega) b)
 |tup hl hc ih =>
  intro cv h;cases h with
  |tup hcs hrel=>exact .tup (by omega) fun i a b=>ih i (by omega) a (hrel i (by omega) b)
 | @own id g o l z e cells c' hg hl hc ih =>
  intro cv h;cases h with
  |own h =>
   obtain⟨_,_,h0,h3⟩:=h;have h4:=(h3 _ _ _ hg).2 rfl;have harr:=R.arr id g e cells hg;cases hΓ:Γ' id with
   |none =>
    rw[hΓ]at h4;obtain⟨rfl,rfl,rfl⟩:=h4;have:c'=[]:=SP (by simpa using hl);subst this;exact .vec0 _ _
   |some y =>
    obtain⟨b,base,n⟩:=y;rw[hΓ]at h4 harr;obtain⟨a,cap,rfl,hcap,hoff,hor⟩:=h4;obtain⟨c,a1,a2,a3,a4⟩:=harr;rcases hor with ⟨rfl,hn⟩|⟨rfl,rfl⟩
    ·have hcell:∀i,i<l*z->∃cv,c[base+(o+i)]?=some cv/\∀(h:o+i<cells.length),RelV P Γ' H' w cells[o+i] cv:=fun i hi=>by
      obtain⟨cv,b1,b2⟩:=a4 (o+i) (by omega);exact⟨cv,b1,fun _=>b2⟩
     let cs:List Value:=(List.range (l*z)).map fun i=>(c[base+(o+i)]?).getD undef
     have hcs:cs.length=c'.length:=(by simp[cs,hl]);refine .vec (cs:=cs) (fun ho=>?_) (R.lt _ _ _ _ hΓ) hcap hcs (fun i hi=>?_) fun i hi hi'=>?_
     ·have:=h2 b ho;have:=h1 b ⟨id,base,n,hΓ⟩;omega
     ·have hi2:i<l*z:=(by rw[hcs,hl]at hi;exact hi);obtain⟨cv,b1,_⟩:=hcell i hi2;have:cs[i]=cv:=(by simp[cs,b1]);rw[this];have he:base+o+i=base+(o+i):=(by omega);simp only[World.cell?,a1,he];exact b1
     ·have hi2:i<l*z:=(by rw[hl]at hi;exact hi);obtain⟨cv,b1,b2⟩:=hcell i hi2;have:cs[i]=cv:=(by simp[cs,b1]);rw[this];exact ih i hi2 (by omega) hi (b2 (by omega))
    ·have:c'=[]:=SP (by simpa using hl);subst this;exact .vec0 _ _
theorem ET (H:AHeap):FzH (fun _=>True) H cz:=⟨fun _ _=>rfl,fun _ _ h=>absurd trivial h,fun _ h=>absurd trivial h⟩
theorem zS (b:Nat):¬(iF (fun _=>True) Γ).iz b:=by
 rintro⟨id,base,n,h⟩;exact(nC h).1 trivial
def zT (o:Option AVal)(r:ARes)(H':AHeap):Prop:=match o with
 |some v'=>∃v,r=.ret v/\Fresh H' v v'
 |none=>r=.panic
def zU:Option AVal->ARes
 |some v=>.ret v
 |none=>.panic
theorem ag.EU {f:FuncId}{args args':List AVal}{o:Option AVal}(hG:fm G)(hl:args'.length=args.length)(hv:∀i (h:i<args.length) (h':i<args'.length),Fz (fun _=>True) H 0 args[i] args'[i])
  (h:ag P G f args' cz (zT o)):ag P G f args H fun r H'=>r=zU o/\H'=H:=by
 refine⟨h.1,fun Γ w cargs R hr=>?_⟩;have F:=ET H;have R0:RelH P G (iF (fun _=>True) Γ) cz w:=F.rel hG R;have hr0:dW P (iF (fun _=>True) Γ) cz w args' cargs:=⟨by have:=hr.1;omega,fun i h1 h2=>(hv i (by omega) h1).sound R F (hr.2 i (by omega) h2)⟩
 refine(h.2 _ w cargs R0 hr0).mono ?_;rintro e w' ⟨r,H',Γ',hend,hg,R',E,hn⟩;have hown:∀b,Γ'.iz b->w.heap.size<=b:=fun b hb=>Nat.le_of_not_lt fun hlt=>(E.keep b hlt (zS b)).2 hb;have hown2:∀b,Γ.iz b->b<w.heap.size:=fun b ⟨id,base,n,hb⟩=>R.lt _ _ _ _ hb;obtain⟨E2,R2⟩:=xh E.os E.tape E.output E.size (fun b hb=>(E.keep b hb (zS b)).1) E.frz R;refine⟨zU o,H,Γ,?_,⟨rfl,rfl⟩,R2,E2,Nat.le_refl _⟩;cases o with
 |some v' =>
  obtain⟨v,rfl,hf⟩:=hg;cases e with
  |returned cv=>exact hf.sound R' hown hown2 hend
  |_=>exact hend.elim
 |none =>
  have hg':r=.panic:=hg;subst hg';cases e with
  |panicked chain=>exact hend
  |_=>exact hend.elim
theorem ag.frame {f:FuncId}{args args':List AVal}{v':AVal}(hG:fm G)(hl:args'.length=args.length)(hv:∀i (h:i<args.length) (h':i<args'.length),Fz (fun _=>True) H 0 args[i] args'[i])
  (h:ag P G f args' cz fun r H'=>∃v,r=.ret v/\Fresh H' v v'):ag P G f args H fun r H'=>r=.ret v'/\H'=H:=ag.EU (o:=some v') hG hl hv h
end Go.Hx
namespace Go.Hx.Ev
open Go.Hx
variable {P:Program} {G:Nat->Option (List AVal)} {Γ Γ':aK} {H H':AHeap} {w w':World}
def zQ (e g:Nat->Option Blk):Nat->Option Blk:=fun j=>match e j with
 |some b=>some b
 |none=>g j
structure Dt where
 v:AVal
 e:Nat->Option Blk
 al:Nat
 f:FP
def da (all:Array Oper)(d:Nat->Dt)(ρ0:Env):Nat->(Nat->Bool)->Env
 |0,_=>ρ0
 |n+1,D=>if D n then aX (da all d ρ0 n D) (kG all n) (d n).v else da all d ρ0 n D
def cH (d:Nat->Dt)(g0:Nat->Option Blk):Nat->(Nat->Bool)->Nat->Option Blk
 |0,_=>g0
 |n+1,D=>if D n then zQ (d n).e (cH d g0 n D) else cH d g0 n D
def bC (d:Nat->Dt):Nat->Nat
 |0=>0
 |n+1=>bC d n+(d n).al
def ic (x:Dt)(r:Nat):Prop:=(x.e r).isSome=true
section
variable {all:Array Oper} {d d':Nat->Dt} {ρ0:Env} {g0 g0':Nat->Option Blk} {D D':Nat->Bool}
end
def ExecOk (P:Program)(G:Nat->Option (List AVal))(all:Array Oper)(o:Oper)(id:Nat)(s s':St):Prop :=
 (iB all s.ρ o=some false/\s'=⟨aX s.ρ o.dst (.lit undef),s.H⟩) \/
 (iB all s.ρ o=some true/\∃v,s'.ρ=aX s.ρ o.dst v /\
  (av P G s.ρ s.H id o.op=some (v,s'.H) \/
   ∃fv args ats,o.op=.call ⟨.value fv,args,ats⟩/\(∀id st pend m env ps asg body,s.H.get id=some (.loop st pend m env ps asg body)->s'.H.get id=s.H.get id)/\aw P G (aB G s.ρ fv) (args.toList.map (aB G s.ρ)) s.H fun r H3=>r=.ret v/\H3=s'.H))
def pO (d:Nat->Dt)(H0:AHeap)(m:Nat):AHeap:=⟨cH d H0.get m fun _=>true,H0.next+bC d m⟩
def canon (all:Array Oper)(d:Nat->Dt)(s0:St)(m:Nat):St:=⟨da all d s0.ρ m fun _=>true,pO d s0.H m⟩
structure GoodAt (P:Program)(G:Nat->Option (List AVal))(all:Array Oper)(bs:List Nat)(s0:St)(d:Nat->Dt)(i:Nat):Prop where
 step:∀o,all[i]?=some o->∀ ρ2 H2,(∀t,t∈o.looksAt all->ρ2 t=(canon all d s0 i).ρ t)->(∀r,r∈(d i).f.rs->H2.get r=(canon all d s0 i).H.get r) ->
  (∀c,c<(d i).al->H2.get (s0.H.next+bC d i+c)=some .rsv)->s0.H.next+bC d i+(d i).al<=H2.next ->
  ExecOk P G all o (s0.H.next+bC d i) ⟨ρ2,H2⟩ ⟨aX ρ2 o.dst (d i).v,⟨zQ (d i).e H2.get,H2.next⟩⟩
 eff:∀r,ic (d i) r->r∈(d i).f.eff/\(r∈(d i).f.rs\/(s0.H.next+bC d i<=r/\r<s0.H.next+bC d i+(d i).al))
 al:∀c,c<(d i).al->ic (d i) (s0.H.next+bC d i+c)
 lt:∀r,r∈(d i).f.rs->r<s0.H.next+bC d i
 apart:∀j,j<i->(gj bs i).testBit j=false->(∀r,r∈(d i).f.eff->r ∉ (d j).f.rs)/\(∀r,r∈(d j).f.eff->r ∉ (d i).f.rs)
end Go.Hx.Ev
namespace Go.Hx.Ev
open Go.Hx
variable {P:Program} {G:Nat->Option (List AVal)} {Γ Γ':aK} {H H':AHeap} {w w':World}
variable {n:Nat} {wb:Base} {rd rb:Option Nat} {Q:AX->St->Prop} {all:Array Oper} {bs:List Nat} {K:Nat} {id:Nat} {dr:Bool}
end Go.Hx.Ev
namespace Go.Hx.Ev
open Go.Hx
variable {P:Program} {G:Nat->Option (List AVal)} {Γ Γ':aK} {H H':AHeap} {w w':World}
inductive Cln (K:Nat->Prop):AVal->Prop
 |lit (v:Value):Cln K (.lit v)
 |nil:Cln K (.vec 0 [])
 |agg {c:List AVal} (h:∀i (h:i<c.length),Cln K c[i]):Cln K (.agg c)
 |tup {c:List AVal} (h:∀i (h:i<c.length),Cln K c[i]):Cln K (.tup c)
 |clo {f:FuncId} {a b:List AVal} (h1:∀i (h:i<a.length),Cln K a[i]) (h2:∀i (h:i<b.length),Cln K b[i]):Cln K (.clo f a b)
 |own {id g o l z:Nat} (h:K id):Cln K (.own id g o l z)
 |ptr {id g o:Nat} (h:K id):Cln K (.ptr id g o)
end Go.Hx.Ev
namespace Go.Hx
inductive BT (α:Type) where
 |nil
 |node (v:Option α) (l r:BT α)
inductive EBlk where
 |arr (gen:Nat) (elem:TypeId) (cells:List AVal)
 |loop (st:LoopState) (pend:Option Code) (n:Nat) (env:BT AVal) (ps:Array Tmp) (asg body:Code)
 |mp (es:List (Int × Int))
structure EH where
 hp:BT EBlk
 nx:Nat
inductive RR where
 |ev (x:AX) (env:BT AVal) (h:EH)
 |ret (v:AVal) (h:EH)
 |panic (h:EH)
inductive OR where
 |fail
 |val (v:AVal)
 |eff (v:AVal) (r g:Nat) (e:TypeId) (cells:List AVal) (fresh:Bool)
 |effM (v:AVal) (r:Nat) (es:List (Int × Int)) (fresh:Bool)
structure GD where
 z:AVal
 ok:AVal->Bool
structure EP where
 P:Program
 G:Nat->Option (List AVal)
 gd:FuncId->Option GD
  /-- What is known already of a function's calls. -/
 known:FuncId->Option (List (List AVal × AVal))
  /-- What a call of a function without a body comes to. -/
 ext:FuncId->Option (List AVal->Option AVal):=fun _=>none
section step
end step
section step
end step
end Go.Hx
namespace Go.Hx
variable {P:Program} {G:Nat->Option (List AVal)}
end Go.Hx
namespace Go.Hx
end Go.Hx
namespace Go.Hx
end Go.Hx
namespace Go.Hx
end Go.Hx
namespace Go.Hx
def K0 (z:GD):Option AVal->AVal
 |some u=>.tup [u,.lit (.int .i64 0)]
 |none=>.tup [z.z,.lit (.int .i64 6)]
def K2 (P:Program)(G:Nat->Option (List AVal))(f:FuncId)(z:GD):Prop:=∀g cap cap' (H:AHeap) o,cap'.length=cap.length ->
 (∀H2:AHeap,(∀id,id<H.next->H2.get id=H.get id)->∀i (h:i<cap.length) (h':i<cap'.length),Fz (fun _=>True) H2 0 cap[i] cap'[i]) ->
 (∀u,o=some u->z.ok u=true)->ag P G g cap' cz (zT o)->ag P G f [.clo g [] cap] H fun r H'=>r=.ret (K0 z o)/\H'=H
def K3 (E:EP):Prop:=∀f e,E.ext f=some e->∀args r,e args=some r->∀(H:AHeap) (K:ARes->AHeap->Prop),K (.ret r) H->aw E.P E.G (.clo f [] []) args H K
structure EOk (E:EP):Prop where
 gok:fm E.G
 mixed:E.P.follows .mixedOrders=true
 known:∀f l,E.known f=some l->∀a v,(a,v)∈l->ag E.P E.G f a cz fun r H'=>∃u,r=.ret u/\Fresh H' u v
 gd:∀f z,E.gd f=some z->K2 E.P E.G f z
 ext:K3 E
section
end
end Go.Hx
namespace Go.Hx
open Go.ChangeShapes Go.WideShapes Go.RowKit
variable {P:Program} {G:Nat->Option (List AVal)}
def iA:aK:=fun _=>none
def vY (P:Program)(G:Nat->Option (List AVal))(W:World):Prop:=∀g cells,G g=some cells->RelV P iA cz W (.vptr cells 0) (.pointer (some ⟨g,0,none⟩))/\∃c e f,W.heap[g]?=some (.cells c e f)/\c.size=cells.length
theorem Ey {W:World}(hg:vY P G W):RelH P G iA cz W where
 arr _ _ _ _ h:=by cases h
 loop _ _ _ _ _ _ _ _ h:=by cases h
 mp _ _ h:=by cases h
 rsv _ h:=by cases h
 inj _ _ _ _ _ _ _ h:=by cases h
 dom _ _ h:=by cases h
 lt _ _ _ _ h:=by cases h
 next _ _ h:=by cases h
 glob g cells h:=(hg g cells h).1
 gsz g cells h:=(hg g cells h).2
theorem zK (b:Nat):¬iA.iz b:=fun ⟨_,_,_,h⟩=>by cases h
theorem Ez {f:FuncId}{args:List AVal}{cargs:Array Value}{W:World}(hA:ag P G f args cz fun r H'=>∃u,r=.ret u/\Fresh H' u (.lit (.bool true)))(hg:vY P G W)(hr:dW P iA cz W args cargs):
  Calls P f cargs W fun e W'=>e=.returned (.bool true)/\RowKit.Below W.heap.size W W'/\∀a,a.block<W.heap.size->W'.frozen? a=W.frozen? a:=by
 refine callsIn_wide.1 ((hA.2 iA W cargs (Ey hg) hr).mono ?_);rintro e W' ⟨r,H',Γ',hend,⟨u,rfl,hf⟩,_,E,_⟩;cases e with
 |returned cv =>
  have hu:u=.lit (.bool true):=by cases hf;rfl
  subst hu;cases hend;exact⟨rfl,⟨E.os,E.tape,E.output,E.size,fun k hk=>(E.keep k hk (zK k)).1⟩,E.frz⟩
 |panicked=>exact hend.elim
 |outgrown=>exact hend.elim
theorem EA {W W':World}(hb:RowKit.Below W.heap.size W W')(may:MemPlace->Prop):W.keptBut W' may:=by
 refine⟨hb.os,hb.output,fun i hi=>?_⟩;rw[hb.block i hi];cases h:W.heap[i]? with
 |none=>rfl
 |some o=>cases o<;>first|exact rfl|exact⟨rfl,rfl,rfl,fun _ _=>rfl⟩|exact .inr ⟨rfl,rfl⟩
theorem EB {H:Type}{enc:TypeId × Value->H}(hl:laidOutB P=true){W W':World}(hb:RowKit.Below W.heap.size W W'){sp:Nat->Bool}:∀ {ts:List TypeId} {vs:List Value} {ds:List (DataW H)} {ps:List MemPlace},
  ts.all (fun t=>P.readableRec t && decide (t<P.types.size))=true->DataW.TrodAll enc P W 0 (fun _=>true) true ts vs ds ps->(∀x∈ps,x.block<W.heap.size)->(∀x∈ps,sp x.block=true)->DataW.TrodAll enc P W' 0 sp true ts vs ds ps:=by
 intro ts
 induction ts with
 |nil =>
  intro vs ds ps _ h _ _;cases vs<;>cases ds<;>first|exact h|exact h.elim
 |cons t ts ih =>
  intro vs ds ps hok h hlt hsp;simp only[List.all_cons,TQ,decide_eq_true_eq]at hok;cases vs with
  |nil=>cases ds<;>exact h.elim
  |cons v vs=>cases ds with
   |nil=>exact h.elim
   |cons d ds =>
    obtain⟨p,q,h1,h2,rfl⟩:=h;refine⟨p,q,?_,ih hok.2 h2 (fun x hx=>hlt x (by simp[hx])) (fun x hx=>hsp x (by simp[hx])),rfl⟩;exact WideElems.Trod_stays hl hok.1.1 hok.1.2 h1 (fun x hx=>hb.same (hlt x (by simp[hx]))) (fun x hx=>hsp x (by simp[hx]))
theorem EC {H:Type}{enc:TypeId × Value->H}{W:World}{base:Nat}{sp:Nat->Bool}{held:Bool}:∀ {ts:List TypeId} {vs:List Value} {ds:List (DataW H)} {ps:List MemPlace},
  DataW.TrodAll enc P W base sp held ts vs ds ps->vs.length=ts.length/\ds.length=ts.length:=by
 intro ts
 induction ts with
 |nil =>
  intro vs ds ps h;cases vs<;>cases ds<;>first|exact⟨rfl,rfl⟩|exact h.elim
 |cons t ts ih =>
  intro vs ds ps h;cases vs with
  |nil=>cases ds<;>exact h.elim
  |cons v vs=>cases ds with
   |nil=>exact h.elim
   |cons d ds =>
    obtain⟨p,q,_,h2,_⟩:=h;obtain⟨h3,h4⟩:=ih h2;exact⟨by simp[h3],by simp[h4]⟩
theorem ED {H:Type}{enc:TypeId × Value->H}{f:Func}{s:ChangeSpec}{apart fresh handsOn again:Bool}{W W':World}{args:Array Value}{ds gs:List (DataW H)}{before:List MemPlace}{t:TypeId}
  (hl:laidOutB P=true) (hok:f.params.toList.all (fun t=>P.readableRec t && decide (t<P.types.size))=true) (hvars:s.vars=[]) (hrt:f.resultTypes=#[t]) (ht:P.underlying t=some .bool)
  (hs:∀ds:List (DataW H),ds.length=f.params.toList.length->s.fn H (ds++[])={ results:=[.lit (.bool true)],args:=ds })
  (hW:DataW.Whole enc P f.params.toList s.vars apart W args.toList ds gs before) (hb:RowKit.Below W.heap.size W W') (hfz:∀a,a.block<W.heap.size->W'.frozen? a=W.frozen? a):s.post enc P f apart fresh handsOn again W args (.bool true) W':=by
 have hW':=hW;obtain⟨p,q,hA,hV,rfl,hz,hn⟩:=hW;have hgs:gs=[]/\q=[]:=by
  rw[hvars]at hV;cases gs with
  |nil=>exact⟨rfl,hV⟩
  |cons=>exact hV.elim
 obtain⟨rfl,rfl⟩:=hgs;have hfn:=hs ds (EC hA).2;have hlt:∀x∈p,x.block<W.heap.size:=fun x hx=>by simpa using hW'.lt x (by simp[hx])
 have hres:∀(b:Nat) (sp:Nat->Bool) (hd:Bool),DataW.TrodAll enc P W' b sp hd f.resultTypes.toList ((Value.bool true).resultList f.resultTypes.size) (s.fn H (ds++[])).results []:=fun b sp hd=>by
  rw[hfn,hrt];exact trodAll_mk1 (shut_bool ht true)
 have hargs:∀sp:Nat->Bool,(∀x∈p,sp x.block=true)->DataW.TrodAll enc P W' 0 sp true f.params.toList args.toList (s.fn H (ds++[])).args p:=fun sp hsp=>by
  rw[hfn];exact EB hl hb hok hA hlt hsp
 have hva:∀sp:Nat->Bool,DataW.TrodVars enc P W' sp s.vars (s.fn H (ds++[])).vars []:=fun sp=>by
  rw[hfn,hvars];exact rfl
 have hpp:p++[]=p:=List.append_nil p;have hold:∀x∈p,(fun b=>decide (b<W.heap.size)) x.block=true:=fun x hx=>by simpa using hlt x hx
 rw[hpp]at hW' hz hn;refine⟨ds,[],p,[],p,[],hW',hres _ _ _,hargs _ hold,hva _,World.keptBut_mono (fun x hx=>⟨hx,.inr (.inl hx)⟩) (EA hb _),fun _=>⟨ok_one hrt rfl (okWide_bool_mk ht true),(s.fn H (ds++[])).results++(s.fn H (ds++[])).args,(s.fn H (ds++[])).vars,p,?_,fun x hx _=>hx⟩⟩;have hall:=trodAll_append (hargs (fun _=>true) fun _ _=>rfl) (hres 0 (fun _=>true) true);refine⟨p,[],by simpa using hall,hva _,by simp,fun b off hx=>?_,fun ha=>by simpa using hn ha⟩;rw[hfz _ (hlt _ hx)];exact hz b off hx
end Go.Hx
namespace Go.Hx
variable {P:Program} {G:Nat->Option (List AVal)}
def xx:Nat->Option (List AVal):=fun _=>none
theorem K4:fm xx:=fun _ _ h=>by cases h
theorem K5 (W:World):vY P xx W:=fun _ _ h=>by cases h
end Go.Hx
namespace Go.Hx
variable {P:Program} {G:Nat->Option (List AVal)} {Γ Γ':aK} {H H':AHeap} {w w':World}
section
variable {n:Nat} {wb:Base} {rd rb:Option Nat} {Q:AX->St->Prop}
end
end Go.Hx
namespace Go.Hx
open Go.ChangeShapes Go.WideShapes Go.RowKit
variable {P:Program} {W:World} {H:Type} {enc:TypeId × Value->H} {spare:Nat->Bool} {held:Bool}
def jq (P:Program)(W:World)(as:List AVal)(cs:List Value):Prop:=cs.length=as.length/\∀i (h:i<as.length) (h':i<cs.length),RelV P iA cz W as[i] cs[i]
def fG (enc:TypeId × Value->H)(P:Program)(W:World)(spare:Nat->Bool)(held:Bool)(t:TypeId)(φ:DataW H->List AVal->Prop):Prop :=
 ∀fuel cs x,DataW.trod enc P W 0 spare held fuel t cs=some x->∃as,jq P W as cs/\φ x.1 as
theorem jq.nil:jq P W [] []:=⟨rfl,fun i h _=>absurd h (S4 _)⟩
theorem jq.one {a:AVal}{c:Value}(h:RelV P iA cz W a c):jq P W [a] [c]:=⟨rfl,fun i hi _=>by
 match i,hi with
 |0,_=>exact h⟩
theorem jq.append {as bs:List AVal}{cs ds:List Value}(h1:jq P W as cs)(h2:jq P W bs ds):jq P W (as++bs) (cs++ds):=by
 refine⟨by simp[h1.1,h2.1],fun i h h'=>?_⟩;by_cases hi:i<as.length
 ·rw[TL hi,TL (by rw[h1.1];exact hi)];exact h1.2 i hi _
 ·have e:=h1.1;rw[TR (by omega),TR (by omega)];have:=h2.2 (i-as.length) (by simp at h;omega) (by rw[h2.1];simp at h;omega);simpa[e] using this
theorem FK {t:TypeId}(ht:P.underlying t=some .bool):fG enc P W spare held t fun d as=>∃b,d=.lit (.bool b)/\as=[.lit (.bool b)]:=by
 intro fuel cs x h;cases fuel with
 |zero=>simp[DataW.trod]at h
 |succ n =>
  unfold DataW.trod at h;rw[ht]at h;split at h
  ·cases h;exact⟨_,.one (.lit _),_,rfl,rfl⟩
  all_goals simp_all
theorem jE {t:TypeId}{k:IntKind}(ht:P.underlying t=some (.int k)):fG enc P W spare held t fun d as=>∃n,d=.lit (.int k n)/\as=[.lit (.int k n)]/\(Lit.int k n).wf=true:=by
 intro fuel cs x h;cases fuel with
 |zero=>simp[DataW.trod]at h
 |succ n =>
  unfold DataW.trod at h;rw[ht]at h;split at h<;>simp_all
  rename_i k' n' _ _;obtain⟨⟨rfl,hw⟩,rfl⟩:=h;exact⟨_,.one (.lit _),_,rfl,rfl,hw⟩
theorem AE:∀ {rows:List (List AVal)} {css:List (List Value)},css.length=rows.length->(∀i (h:i<rows.length) (h':i<css.length),jq P W rows[i] css[i])->jq P W rows.flatten css.flatten:=by
 intro rows
 induction rows with
 |nil=>intro css h _;obtain rfl:=SP h;exact .nil
 |cons r rows ih =>
  intro css h h'
  match css,h with
  |c :: css,h =>
   simp only[List.flatten_cons];exact(h' 0 (by simp) (by simp)).append (ih (by simpa using h) fun i hi hi'=>h' (i+1) (by simpa using hi) (by simpa using hi'))
theorem AF {α:Type}{Q:Nat->α->Prop}:∀n,(∀i,i<n->∃a,Q i a)->∃l:List α,l.length=n/\∀i (h:i<l.length),Q i l[i]:=by
 intro n
 induction n with
 |zero=>intro _;exact⟨[],rfl,fun i h=>absurd h (S4 _)⟩
 |succ n ih =>
  intro h;obtain⟨l,hl,hq⟩:=ih fun i hi=>h i (by omega);obtain⟨a,ha⟩:=h n (by omega);refine⟨l++[a],by simp[hl],fun i hi=>?_⟩;by_cases hi':i<l.length
  ·rw[TL hi'];exact hq i hi'
  ·have:i=l.length:=(by simp at hi;omega);subst this;simp only[List.getElem_concat_length];rw[hl];exact ha
theorem FL {α:Type}{z:Nat}:∀ {rows:List (List α)},(∀i (h:i<rows.length),rows[i].length=z)->rows.flatten.length=rows.length*z:=by
 intro rows
 induction rows with
 |nil=>intro _;simp
 |cons r rows ih =>
  intro h;have h0:=h 0 (by simp);have:=ih fun i hi=>h (i+1) (by simpa using hi);simp only[Tp]at h0;simp only[List.flatten_cons,List.length_append,List.length_cons,this,h0,VA];omega
theorem FM {α:Type}{z:Nat}:∀ {rows:List (List α)},(∀i (h:i<rows.length),rows[i].length=z)->∀i j (hi:i<rows.length) (hj:j<z),rows.flatten[i*z+j]?=(rows[i])[j]?:=by
 intro rows
 induction rows with
 |nil=>intro _ i j hi;exact absurd hi (S4 _)
 |cons r rows ih =>
  intro h i j hi hj;have h0:=h 0 (by simp);simp only[Tp]at h0;cases i with
  |zero=>simp only[List.flatten_cons,Tp,UB,Nat.zero_add];rw[SU (by omega)]
  |succ i =>
   simp only[List.flatten_cons,T5];rw[SZ (by rw[h0,VA];omega),<- ih (fun i hi=>h (i+1) (by simpa using hi)) i j (by simpa using hi) hj];congr 1;rw[h0,VA];omega
def AG (φ:DataW H->List AVal->Prop)(ds:List (DataW H))(rows:List (List AVal)):Prop:=ds.length=rows.length/\∀i (h:i<rows.length) (h':i<ds.length),φ ds[i] rows[i]
theorem wD {t e:TypeId}{φ:DataW H->List AVal->Prop}(ht:P.underlying t=some (.slice e))(hz:0<P.cellsOf e)(he:fG enc P W spare held e φ):
  fG enc P W spare held t fun d as=>(d=.nil/\as=[.vec 0 []])\/∃ds rest rows,d=.slice ds rest/\as=[.vec rows.length rows.flatten]/\AG φ ds rows/\(∀i (h:i<rows.length),rows[i].length=P.cellsOf e)/\rows.length<=maxLen:=by
 intro fuel cs x h;rcases DataW.trod_slice ht h with ⟨rfl,rfl⟩|⟨a,len,cap,elems,rest,n,rfl,rfl,rfl,_,hl,hm,hlen,hel,_,_⟩
 ·exact⟨_,.one (.vec0 _ _),.inl ⟨rfl,rfl⟩⟩
 have hrow:∀i,i<len->∃p:List Value × List AVal,W.cells? 0 (a.add (i*P.cellsOf e)) (P.cellsOf e)=some p.1/\jq P W p.2 p.1/\∃x,elems[i]?=some x/\φ x.1 p.2:=by
  intro i hi;have:=hel i hi;rw[SJ (by omega),SL]at this;obtain⟨cs,hc,hx⟩:=this;obtain⟨as,ha,hφ⟩:=he _ _ _ hx;exact⟨(cs,as),hc,ha,_,SJ (by omega),hφ⟩
 obtain⟨l,hll,hQ⟩:=AF len hrow;have hzr:∀i (h:i<(l.map Prod.snd).length),(l.map Prod.snd)[i].length=P.cellsOf e:=by
  intro i h;simp only[SM]at h;simp only[SV];obtain⟨hc,hr,_⟩:=hQ i h;rw[<- hr.1];exact(World.cells?_some hc).2.1
 have hzc:∀i (h:i<(l.map Prod.fst).length),(l.map Prod.fst)[i].length=P.cellsOf e:=by
  intro i h;simp only[SM]at h;simp only[SV];exact(World.cells?_some (hQ i h).1).2.1
 refine⟨[.vec (l.map Prod.snd).length (l.map Prod.snd).flatten],.one ?_,.inr ⟨_,_,l.map Prod.snd,rfl,rfl,⟨by simp[hll,hlen],fun i h h'=>?_⟩,hzr,by simp only[SM];omega⟩⟩
 ·rcases TG len with h0|h0
  ·subst h0;obtain rfl:=SP hll;exact .vec0 _ _
  have hrc:jq P W (l.map Prod.snd).flatten (l.map Prod.fst).flatten:=AE (by simp) fun i h h'=>by
   simp only[SM]at h;simp only[SV];exact(hQ i h).2.1
  have hla:(l.map Prod.snd).length=len:=by simp[hll]
  have hsp:∀i,i<len->∀j,j<P.cellsOf e->∃v,W.cell? ((a.add (i*P.cellsOf e)).add j)=some v/\(l.map Prod.fst).flatten[i*P.cellsOf e+j]?=some v:=by
   intro i hi j hj;obtain⟨hc,_⟩:=hQ i (by omega);obtain⟨_,hcl,hcell⟩:=World.cells?_some hc;refine⟨(l[i]'(by omega)).1[j]'(by omega),?_,?_⟩
   ·rw[hcell j hj,SJ]
   ·rw[FM hzc i j (by simp;omega) hj];simp only[SV];rw[SJ]
  have hspot:a.spot=none:=by
   obtain⟨v,hv,_⟩:=hsp 0 h0 0 hz;unfold World.cell? at hv;split at hv
   ·split at hv
    ·cases hv
    ·rename_i hs;simpa[Addr.add] using hs
   ·cases hv
  obtain⟨b,off,spot⟩:=a;simp only at hspot;subst hspot;have hadd:∀(b off n:Nat),(⟨b,off,none⟩:Addr).add n=⟨b,off+n,none⟩:=by
   intro b off n;unfold Addr.add;by_cases hn:n=0
   ·subst hn;simp
   ·simp[hn]
  have hlt:b<W.heap.size:=by
   obtain⟨v,hv,_⟩:=hsp 0 h0 0 hz;rw[hadd,hadd]at hv;unfold World.cell? at hv;rcases S9 b W.heap.size with h|h
   ·exact h
   ·rw[T6 h]at hv;cases hv
  rw[hla];refine .vec (zK b) hlt hl hrc.1 (fun i hi=>?_) fun i h h'=>hrc.2 i h h';have hlc:=FL hzc;simp only[SM,hll]at hlc;have hi':i<len*P.cellsOf e:=by omega
  obtain⟨v,hv,hg⟩:=hsp (i / P.cellsOf e) (Uj (by rw[UC];exact hi')) (i % P.cellsOf e) (U0 _ hz);have hdm:i / P.cellsOf e*P.cellsOf e+i % P.cellsOf e=i:=by rw[UC];exact VM _ _
  rw[hdm]at hg;rw[SJ hi]at hg;rw[Option.some.inj hg,<- hv,hadd,hadd];congr 2;omega
 ·simp only[SM]at h h';obtain⟨_,_,y,hy,hφ⟩:=hQ i h;simp only[SV];rw[SJ h']at hy;rw[Option.some.inj hy];exact hφ
theorem pV {t:TypeId}{fs:Array Field}{φ:Nat->DataW H->List AVal->Prop}(ht:P.underlying t=some (.struct fs))
  (hlay:∀cs:List Value,cs.length=P.cellsOf t->(fs.toList.map fun f=>(cs.drop f.offset).take (P.cellsOf f.type)).flatten=cs)
  (he:∀i (h:i<fs.size),fG enc P W spare held fs[i].type (φ i)):
  fG enc P W spare held t fun d as=>∃(ds:List (DataW H)) (rows:List (List AVal)),d=.agg ds/\as=rows.flatten/\ds.length=fs.size/\rows.length=fs.size/\∀i (h:i<rows.length) (h':i<ds.length),φ i ds[i] rows[i]:=by
 intro fuel cs x h;obtain⟨xs,m,rfl,rfl,hcl,hxl,hel⟩:=DataW.trod_struct ht h;have hrow:∀i,i<fs.size->∃as:List AVal,(∀h:i<fs.size,jq P W as ((cs.drop fs[i].offset).take (P.cellsOf fs[i].type)))/\∃x,xs[i]?=some x/\φ i x.1 as:=by
  intro i hi;have:=hel i fs[i] (S7 hi);rw[SJ (by omega)]at this;obtain⟨as,ha,hφ⟩:=he i hi _ _ _ this;exact⟨as,fun _=>ha,_,SJ (by omega),hφ⟩
 obtain⟨l,hll,hQ⟩:=AF fs.size hrow;refine⟨l.flatten,?_,_,l,rfl,rfl,by simp[hxl],hll,fun i h h'=>?_⟩
 ·rw[<- hlay cs hcl];refine AE (by simp[hll]) fun i h h'=>?_;simp only[SV,TV];exact(hQ i h).1 (by omega)
 ·obtain⟨_,y,hy,hφ⟩:=hQ i h;simp only[SM]at h';simp only[SV];rw[SJ h']at hy;rw[Option.some.inj hy];exact hφ
end Go.Hx
namespace Go.Hx
variable {P:Program} {G:Nat->Option (List AVal)} {H:AHeap}
theorem KG:(1=0)=False:=by simp
theorem KH (l:List AVal)(i:Nat):mY (.tup l) i=l[i]?:=rfl
theorem KI (cells:List AVal)(off:Nat):lE H (.vptr cells off)=some (.vptr cells off):=rfl
theorem KJ (id gen off:Nat):lE H (.ptr id gen off)=(H.live id gen).map fun _=>.ptr id gen off:=by
 simp only[lE]
theorem KK (t:TypeId)(f:Nat)(id gen off:Nat):uc P H t f (.ptr id gen off)=(bU P t f).bind fun of=>(H.live id gen).map fun _=>.ptr id gen (off+of.1):=rfl
theorem KL (t:TypeId)(f:Nat)(cells:List AVal)(off:Nat):uc P H t f (.vptr cells off)=(bU P t f).bind fun of=>some (.vptr cells (off+of.1)):=rfl
def dA (H:AHeap)(L:List Blk)(e:TypeId)(lo hi:Nat)(v:AVal)(cs:List AVal):Prop :=
 (v=.lit (.slice none 0 0)/\cs=[])\/∃i g,lo<=i/\i<hi/\v=.own (H.next+i) g 0 cs.length 1/\L[i]?=some (.arr g e cs)
theorem dA.nil {L:List Blk}{e:TypeId}{lo hi:Nat}:dA H L e lo hi (.lit (.slice none 0 0)) []:=.inl ⟨rfl,rfl⟩
theorem dA.keep {L L':List Blk}{e:TypeId}{lo hi lo' hi':Nat}{v:AVal}{cs:List AVal}(h:dA H L e lo hi v cs)(hl:lo'<=lo)(hh:hi<=hi')(hk:∀i g,lo<=i->i<hi->L[i]?=some (.arr g e cs)->L'[i]?=L[i]?):
  dA H L' e lo' hi' v cs:=by
 rcases h with h|⟨i,g,h1,h2,h3,h4⟩
 ·exact .inl h
 ·exact .inr ⟨i,g,by omega,by omega,h3,by rw[hk i g h1 h2 h4];exact h4⟩
theorem Be {L:List Blk}{i g:Nat}{e:TypeId}{cs:List AVal}(h:L[i]?=some (.arr g e cs)):(ext H L).live (H.next+i) g=some (e,cs):=by
 have hi:i<L.length:=by
  rcases S9 i L.length with h'|h'
  ·exact h'
  ·rw[SQ h']at h;cases h
 rw[wY H L i g hi,h];simp[rD]
theorem KM {L:List Blk}{t e:TypeId}{lo hi:Nat}{v x:AVal}{cs:List AVal}{z:List AVal}(ht:P.underlying t=some (.slice e))(hz:P.cellsOf e=1)(hzero:bR P e=some z)(hx:x.one=true)
  (hb:(cs.length+1)*P.bytesOf e<=2 ^ 46/\cs.length+1<=2 ^ 46) (ho:dA H L e lo hi v cs) (hlo:lo<=L.length) (hhi:hi<=L.length):
  ∃v' L',bM P (ext H (L++[.arr 0 e [x]])) (H.next+(L.length+1)) t t v (.own (H.next+L.length) 0 0 1 1)=some (v',ext H L')/\dA H L' e lo L'.length v' (cs++[x])/\L.length<=L'.length /\
   (∀k,k<L.length->(∀g n,v≠.own (H.next+k) g 0 n 1)->L'[k]?=L[k]?):=by
 have hsrc:cV (ext H (L++[.arr 0 e [x]])) 1 (.own (H.next+L.length) 0 0 1 1)=some (1,[x]):=by
  unfold cV;have:=Be (H:=H) (L:=L++[Blk.arr 0 e [x]]) (i:=L.length) (g:=0) (e:=e) (cs:=[x]) (by simp);simp[this]
 rcases ho with ⟨rfl,rfl⟩|⟨i,g,h1,h2,rfl,h4⟩
 ·refine⟨.own (H.next+(L.length+1)) 0 0 1 1,L++[.arr 0 e [x]]++[.arr 0 e [x]],?_,.inr ⟨L.length+1,0,by omega,by simp,by simp,by simp⟩,by simp,fun k hk _=>?_⟩
  ·unfold bM;rw[ht];simp only[hzero,hz,Option.bind_some,hsrc,KG,if_false];have h1:1*P.bytesOf e<=2 ^ 46/\1<=2 ^ 46:=(by simpa using hb);rw[SK h1,AW H _ (L.length+1) _ (by simp)];rfl
  ·rw[List.append_assoc,SU hk]
 ·have hi':i<L.length:=by omega
  refine⟨.own (H.next+i) (g+1) 0 (cs.length+1) 1,(L++[Blk.arr 0 e [x]]).set i (Blk.arr (g+1) e (cs++[x])),?_,.inr ⟨i,g+1,h1,by simp;omega,by simp,?_⟩,by simp,fun k hk hne=>?_⟩
  ·unfold bM;rw[ht];simp only[hzero,hz,Option.bind_some,hsrc];have hl:=Be (H:=H) (L:=L++[Blk.arr 0 e [x]]) (i:=i) (g:=g) (e:=e) (cs:=cs) (by rw[SU hi'];exact h4);simp only[hl,Option.bind_some];rw[SK ⟨trivial,trivial,by omega,hb.1,hb.2,by simp[hx]⟩];rw[wX H _ i _ (by simp;omega)];simp
  ·rw[SX (by simp;omega)]
  ·have:i≠k:=(by rintro rfl;exact hne _ _ rfl);rw[S3 this,SU hk]
theorem dA.fz {S:Nat->Prop}{L:List Blk}{e:TypeId}{lo hi:Nat}{v:AVal}{cs cs':List AVal}{nx:Nat}(h:dA H L e lo hi v cs)(hS:∀i,S (H.next+i))(hl:cs'.length=cs.length)
  (hc:∀i (h:i<cs.length) (h':i<cs'.length),Fz S (ext H L) nx cs[i] cs'[i]):Fz S (ext H L) nx v (.vec cs'.length cs'):=by
 rcases h with ⟨rfl,rfl⟩|⟨i,g,_,_,rfl,h4⟩
 ·obtain rfl:=SP hl;exact .nil
 ·rw[hl];have hi:i<L.length:=by
   rcases S9 i L.length with h'|h'
   ·exact h'
   ·rw[SQ h']at h4;cases h4
  refine .frz (hS i) (by rw[bD H L i hi];exact h4) (by omega) fun j hj h2 h'=>?_;simp only[Nat.zero_add]at h2 ⊢;exact hc j h2 h'
end Go.Hx
namespace Go.Hx
variable {P:Program} {G:Nat->Option (List AVal)} {H:AHeap}
def xv (P:Program)(s d:TypeId)(x:Bool)(y:Option TypeDesc)(v:AVal):Option AVal :=
 if x=true then (match y,v with
  |some (.int k'),.lit (.int _ a)=>some (.lit (.int k' (k'.wrap a)))
  |_,_=>lz P s d v) else lz P s d v
theorem KN (s d:TypeId)(v:AVal):lz P s d v=xv P s d (P.underlying s).isSome (P.underlying d) v:=by
 unfold xv;split
 ·rename_i hs;split
  ·rename_i k' k a hd;exact Ij hs hd
  ·rfl
 ·rfl
theorem KO (s d:TypeId)(k k':IntKind)(a:Int):xv P s d true (some (.int k')) (.lit (.int k a))=some (.lit (.int k' (k'.wrap a))):=rfl
def Bf (P:Program)(d:Option TypeDesc)(cells:List AVal)(i:Int):Option AVal:=match d with
 |some (.array n e)=>if 0<=i/\i<(n:Int) then iU P e cells (i.toNat*P.cellsOf e) else none
 |_=>none
theorem KP (t:TypeId)(cells:List AVal)(k:IntKind)(i:Int):tG P t (.agg cells) (.lit (.int k i))=Bf P (P.underlying t) cells i:=rfl
theorem KQ (n:Nat)(e:TypeId)(cells:List AVal)(i:Int):Bf P (some (.array n e)) cells i=if 0<=i/\i<(n:Int) then iU P e cells (i.toNat*P.cellsOf e) else none:=rfl
theorem KR {k:IntKind}{a:Int}:pK P .neg (.lit (.int k a))=some (.lit (.int k (k.wrap (0-a)))):=If rfl
theorem ah {id g:Nat}{e:TypeId}{c:List AVal}(h:H.get id=some (.arr g e c)):H.live id g=some (e,c):=by
 unfold AHeap.live;rw[h];simp
theorem au (a:Nat)(x:Blk):(H.upd a x).next=H.next:=rfl
theorem dh {L:List Blk}{id g:Nat}(h:id<H.next):(ext H L).live id g=H.live id g:=by
 unfold AHeap.live;rw[dv H L id h]
def lJ (H:AHeap)(L:List Blk)(e1 e0:TypeId)(v:AVal)(rows:List (List AVal)):Prop :=
 ∃cs:List AVal,dA H L e1 0 L.length v cs/\cs.length=rows.length/\∀(j:Nat) (r:List AVal) (c:AVal),rows[j]?=some r->cs[j]?=some c->dA H L e0 0 L.length c r
theorem lJ.nil {L:List Blk}{e1 e0:TypeId}:lJ H L e1 e0 (.lit (.slice none 0 0)) []:=⟨[],.nil,rfl,fun j r c h=>by simp at h⟩
theorem dA.lt {L:List Blk}{e:TypeId}{lo hi i g n z:Nat}{cs:List AVal}(h:dA H L e lo hi (.own (H.next+i) g 0 n z) cs):i<L.length/\L[i]?=some (.arr g e cs)/\n=cs.length/\z=1:=by
 rcases h with ⟨h,_⟩|⟨j,g2,_,_,h3,h4⟩
 ·cases h
 ·have:=AVal.own.inj h3;obtain rfl:i=j:=by omega
  obtain⟨_,rfl,_,rfl,rfl⟩:=this;refine⟨?_,h4,rfl,rfl⟩;rcases S9 i L.length with h|h
  ·exact h
  ·rw[SQ h]at h4;cases h4
theorem dA.rP {L L':List Blk}{e e':TypeId}{lo hi lo' hi':Nat}{v u:AVal}{cs cs':List AVal}(hv:dA H L e lo hi v cs)(hu:dA H L e' lo' hi' u cs')(hne:e≠e')(hh:hi'<=L.length)
  (hp:∀k,k<L.length->(∀g n,v≠.own (H.next+k) g 0 n 1)->L'[k]?=L[k]?):dA H L' e' lo' hi' u cs':=by
 refine hu.keep (Nat.le_refl _) (Nat.le_refl _) fun i g h1 h2 h3=>hp i (by omega) fun g' n he=>?_;rcases hv with ⟨rfl,_⟩|⟨j,g2,_,_,rfl,h4⟩
 ·cases he
 ·have hj:j=i:=by
   have:=AVal.own.inj he;omega
  subst hj;rw[h3]at h4;cases h4;exact hne rfl
theorem dA.Bg {L:List Blk}{e:TypeId}{lo hi:Nat}{v:AVal}{cs:List AVal}(hv:dA H L e lo hi v cs):v.one=true:=by
 rcases hv with ⟨rfl,_⟩|⟨_,_,_,_,rfl,_⟩<;>rfl
theorem dA.gk {L:List Blk}{e:TypeId}{lo hi:Nat}{v:AVal}{cs:List AVal}(hv:dA H L e lo hi v cs):v.cells=[v]:=by
 rcases hv with ⟨rfl,_⟩|⟨_,_,_,_,rfl,_⟩<;>rfl
theorem dA.other {L L':List Blk}{e e':TypeId}{lo hi lo' hi':Nat}{v u:AVal}{cs cs':List AVal}(hv:dA H L e lo hi v cs)(hu:dA H L e' lo' hi' u cs')(hne:e≠e')(hh:hi'<=L.length)
  (hp:∀k,k<L.length->(∀g n,v≠.own (H.next+k) g 0 n 1)->L'[k]?=L[k]?):dA H L' e' lo' hi' u cs':=hv.rP hu hne hh hp
theorem dA.one {L:List Blk}{e:TypeId}{lo hi:Nat}{v:AVal}{cs:List AVal}(hv:dA H L e lo hi v cs):v.one=true:=hv.Bg
theorem dA.cells {L:List Blk}{e:TypeId}{lo hi:Nat}{v:AVal}{cs:List AVal}(hv:dA H L e lo hi v cs):v.cells=[v]:=hv.gk
theorem lJ.keep {L L':List Blk}{e1 e0:TypeId}{v:AVal}{rows:List (List AVal)}(h:lJ H L e1 e0 v rows)(hl:L.length<=L'.length)(hk:∀i,i<L.length->L'[i]?=L[i]?):lJ H L' e1 e0 v rows:=by
 obtain⟨cs,c1,c2,c3⟩:=h;exact⟨cs,c1.keep (Nat.le_refl _) hl fun i _ _ hi _=>hk i hi,c2,fun j r c hr hc=>(c3 j r c hr hc).keep (Nat.le_refl _) hl fun i _ _ hi _=>hk i hi⟩
theorem lJ.fz {S:Nat->Prop}{L:List Blk}{e1 e0:TypeId}{v:AVal}{rows rows':List (List AVal)}{nx:Nat}(h:lJ H L e1 e0 v rows)(hS:∀i,S (H.next+i))(hl:rows'.length=rows.length)
  (hr:∀(j:Nat) (r r':List AVal),rows[j]?=some r->rows'[j]?=some r'->r'.length=r.length/\∀i (h:i<r.length) (h':i<r'.length),Fz S (ext H L) nx r[i] r'[i]):
  Fz S (ext H L) nx v (.vec rows'.length (rows'.map fun r=>.vec r.length r)):=by
 obtain⟨cs,h1,h2,h3⟩:=h;have:=h1.fz (S:=S) (nx:=nx) (cs':=rows'.map fun r=>.vec r.length r) hS (by simp[h2,hl]) fun i hi hi'=>by
  simp only[SV];have hi2:i<rows.length:=by omega
  have hi3:i<rows'.length:=by omega
  obtain⟨a1,a2⟩:=hr i rows[i] rows'[i] (SJ hi2) (SJ hi3);exact(h3 i rows[i] cs[i] (SJ hi2) (SJ hi)).fz (S:=S) (nx:=nx) (cs':=rows'[i]) hS a1 a2
 rw[SM]at this;exact this
theorem lJ.app {L:List Blk}{e1 e0:TypeId}{v x:AVal}{rows:List (List AVal)}{r:List AVal}{t:TypeId}{z:List AVal}(ht:P.underlying t=some (.slice e1))(hz:P.cellsOf e1=1)(hzero:bR P e1=some z)(hby:P.bytesOf e1=24)(hne:e1≠e0)
  (hb:rows.length<2 ^ 40) (h:lJ H L e1 e0 v rows) (hx:dA H L e0 0 L.length x r):
  ∃v' L',bM P (ext H (L++[.arr 0 e1 [x]])) (H.next+(L.length+1)) t t v (.own (H.next+L.length) 0 0 1 1)=some (v',ext H L')/\lJ H L' e1 e0 v' (rows++[r])/\L.length<=L'.length:=by
 obtain⟨cs,h1,h2,h3⟩:=h;obtain⟨v',L',hA,hO,hL,hp⟩:=KM (t:=t) ht hz hzero hx.Bg (by rw[hby,h2];omega) h1 (UF _) (Nat.le_refl _);refine⟨v',L',hA,⟨cs++[x],hO,by simp[h2],fun j r' c hr hc=>?_⟩,hL⟩;have key:∀u l,dA H L e0 0 L.length u l->dA H L' e0 0 L'.length u l:=fun u l hu=>(h1.rP hu hne (Nat.le_refl _) hp).keep (Nat.le_refl _) hL fun _ _ _ _ _=>rfl;rcases S9 j rows.length with hj|hj
 ·rw[SU hj]at hr;rw[SU (by omega)]at hc;exact key _ _ (h3 j r' c hr hc)
 ·rw[SZ hj]at hr;rw[SZ (by omega)]at hc;have hj0:j-rows.length=0:=by
   rcases TG (j-rows.length) with h|h
   ·exact h
   ·rw[SQ (by simp;omega)]at hr;cases hr
  have hj1:j-cs.length=0:=by omega
  rw[hj0]at hr;rw[hj1]at hc;cases hr;cases hc;exact key _ _ hx
theorem dp (H:AHeap)(L L':List Blk):ext (ext H L) L'=ext H (L++L'):=by
 unfold ext;simp only[List.length_append];congr 1
 ·funext j
  by_cases h1:H.next+L.length<=j/\j<H.next+L.length+L'.length
  ·rw[SK h1,SK (by omega),SZ (by omega)];congr 1;omega
  ·rw[SI h1];by_cases h2:H.next<=j/\j<H.next+L.length
   ·rw[SK h2,SK (by omega),SU (by omega)]
   ·rw[SI h2,SI (by omega)]
 ·omega
theorem KS (t:TypeId)(id g o l z:Nat):kB P t (.own id g o l z)=if pS (P.underlying t)=true then [id] else []:=by
 unfold kB;cases h:P.underlying t with
 |none=>rfl
 |some d=>cases d<;>rfl
structure Over (H H2:AHeap):Prop where
 next:H.next<=H2.next
 old:∀id,id<H.next->H2.get id=H.get id
theorem Over.refl (H:AHeap):Over H H:=⟨Nat.le_refl _,fun _ _=>rfl⟩
theorem Over.trans {H H2 H3:AHeap}(a:Over H H2)(b:Over H2 H3):Over H H3 :=
 ⟨Tt a.next b.next,fun id h=>(b.old id (S1 h a.next)).trans (a.old id h)⟩
theorem Over.ext (H:AHeap)(L:List Blk):Over H (ext H L):=⟨by simp[aS],fun id h=>dv H L id h⟩
def js (H:AHeap)(n:Nat):AHeap:=⟨fun j=>if j<H.next then H.get j else none,H.next+n⟩
theorem rQ (H:AHeap)(n:Nat):(js H n).next=H.next+n:=rfl
theorem xw {H:AHeap}{n id:Nat}(h:id<H.next):(js H n).get id=H.get id:=by simp[js,h]
theorem Over.js (H:AHeap)(n:Nat):Over H (js H n):=⟨by simp[rQ],fun id h=>xw h⟩
theorem KT {H H2:AHeap}(hc:Clo H)(ho:Over H H2):FzH (fun id=>H.next<=id) H2 H where
 gone id hs:=by
  cases h:H.get id with
  |none=>rfl
  |some b=>have:=hc.lt id b h;omega
 kept id b hs hb:=by
  have hlt:id<H.next:=Uq hs;rw[ho.old id hlt]at hb;have hbb:=hc.below id b hb;refine⟨hlt,b,hb,?_⟩;have hno:∀i,i<H.next->¬H.next<=i:=fun i h=>Nat.not_le_of_lt h;cases b with
  |rsv=>trivial
  |mp=>rfl
  |arr g e cells=>exact⟨rfl,rfl,rfl,fun i h _=>.refl (hbb i h) hno⟩
  |loop st pend n env ps asg body=>exact⟨rfl,rfl,rfl,rfl,rfl,rfl,rfl,fun t ht=>.refl (hbb t ht) hno⟩
 none id hs hb:=by
  rw[ho.old id (Uq hs)]at hb;exact hb
theorem ar.aV {H2:AHeap}(hG:fm G)(hc:Clo H)(ho:Over H H2){K:ARes->AHeap->Prop}{v v':AVal}(hv:Fz (fun id=>H.next<=id) H2 H.next v v')(hk:K (.ret v') H):ar P G H K v H2 :=
 ⟨v',H,.freeze hG (KT hc ho) hv,Nat.le_refl _,hk⟩
theorem Fz.old {H H2:AHeap}{nx:Nat}{v:AVal}(h:Below H.next v)(hn:H.next<=nx):Fz (fun id=>H.next<=id) H2 nx v v:=by
 induction h with
 |lit v=>exact .lit v
 |vec _ ih=>exact .vec rfl fun i h _=>ih i h
 |vptr _ ih=>exact .vptr rfl fun i h _=>ih i h
 |agg _ ih=>exact .agg rfl fun i h _=>ih i h
 |tup _ ih=>exact .tup rfl fun i h _=>ih i h
 |clo _ _ ih1 ih2=>exact .clo rfl rfl (fun i h _=>ih1 i h) fun i h _=>ih2 i h
 |own h=>exact .own (by omega) (by omega)
 |ptr h=>exact .ptr (by omega) (by omega)
 |yld h=>exact .yld (by omega) (by omega)
theorem KU {H H2:AHeap}(hc:Clo H)(ho:Over H H2):FzH (fun id=>H.next<=id) H2 (js H (H2.next-H.next)) where
 gone id hs:=by simp[js,Nat.not_lt.2 hs]
 kept id b hs hb:=by
  have hlt:id<H.next:=Uq hs;rw[ho.old id hlt]at hb;have hbb:=hc.below id b hb;refine⟨by rw[rQ];omega,b,by rw[xw hlt];exact hb,?_⟩;cases b with
  |rsv=>trivial
  |mp=>rfl
  |arr g e cells=>exact⟨rfl,rfl,rfl,fun i h _=>.old (hbb i h) (by rw[rQ];omega)⟩
  |loop st pend n env ps asg body=>exact⟨rfl,rfl,rfl,rfl,rfl,rfl,rfl,fun t ht=>.old (hbb t ht) (by rw[rQ];omega)⟩
 none id hs hb:=by
  have hlt:=Uq hs;rw[ho.old id hlt]at hb;rw[xw hlt];exact hb
theorem W.KV {n:Nat}{rd:Option Nat}{Q:AX->St->Prop}{c:Code}{ρ ρ':Env}{H H2:AHeap}(hG:fm G)(hc:Clo H)(ho:Over H H2)(hv:∀t,Fz (fun id=>H.next<=id) H2 H2.next (ρ t) (ρ' t))
  (hri:fT (js H (H2.next-H.next)) rd) (h:W P G n rd c Q ⟨ρ',js H (H2.next-H.next)⟩):W P G n rd c Q ⟨ρ,H2⟩:=by
 have hnx:(js H (H2.next-H.next)).next=H2.next:=by rw[rQ];have:=ho.next;omega
 refine W.wC (s:=⟨ρ,H2⟩) (s':=⟨ρ',js H (H2.next-H.next)⟩) (cJ.freeze hG (KU hc ho) fun t=>?_) (Nat.le_of_eq hnx.symm) hri h;show Fz _ H2 (js H (H2.next-H.next)).next _ _;rw[hnx];exact hv t
theorem Fz.put {S:Nat->Prop}{H:AHeap}{nx d:Nat}{ρ ρ':Env}{v v':AVal}(h:∀t,Fz S H nx (ρ t) (ρ' t))(hv:Fz S H nx v v'):∀t,Fz S H nx (aX ρ (some d) v t) (aX ρ' (some d) v' t):=by
 intro t;simp only[aX];split
 ·exact hv
 ·exact h t
theorem Fz.KW {S:Nat->Prop}{H:AHeap}{nx d:Nat}{ρ ρ':Env}{v v':AVal}(hv:Fz S H nx v v')(h:∀t,Fz S H nx (ρ t) (ρ' t)):∀t,Fz S H nx (aX ρ (some d) v t) (aX ρ' (some d) v' t):=.put h hv
theorem Fz.aj {S:Nat->Prop}{H:AHeap}{nx:Nat}(rows:List (List Int)):Fz S H nx (.vec rows.length (rows.map af)) (.vec rows.length (rows.map af)) :=
 .vec rfl fun i h _=>by simp only[SV];exact .cI _
theorem Fz.env {S:Nat->Prop}{H:AHeap}{nx:Nat}{args args':List AVal}(hl:args'.length=args.length)(h:∀i (h:i<args.length) (h':i<args'.length),Fz S H nx args[i] args'[i]):∀t,Fz S H nx (iC args t) (iC args' t):=by
 intro t;rw[wW,wW];by_cases ht:t<args.length
 ·rw[SJ ht,SJ (by omega)];exact h t ht (by omega)
 ·rw[SQ (by omega),SQ (by omega)];exact .lit _
theorem Fz.KX {H H2:AHeap}{nx:Nat}{args:List AVal}(h:∀v,v∈args->Below H.next v)(hn:H.next<=nx):∀t,Fz (fun id=>H.next<=id) H2 nx (iC args t) (iC args t) :=
 .env rfl fun i hi _=>.old (h _ (Tk _)) hn
end Go.Hx
namespace Go.Hx
open Go.ChangeShapes Go.WideShapes Go.RowKit
variable {P:Program} {W:World} {H:Type} {enc:TypeId × Value->H} {spare:Nat->Bool} {held:Bool}
theorem fG.mono {t:TypeId}{φ ψ:DataW H->List AVal->Prop}(h:fG enc P W spare held t φ)(hm:∀d as,φ d as->ψ d as):fG enc P W spare held t ψ:=fun fuel cs x hx =>
 let ⟨as,h1,h2⟩:=h fuel cs x hx;⟨as,h1,hm _ _ h2⟩
def lG (k:IntKind)(l:List Int):List AVal:=l.map fun n=>.lit (.int k n)
theorem wE {α:Type}{φ:DataW H->List AVal->Prop}{f:α->List AVal}{q:α->Prop}(hφ:∀d as,φ d as->∃a,as=f a/\q a):∀ {rows:List (List AVal)} {ds:List (DataW H)},AG φ ds rows ->
  ∃l:List α,rows=l.map f/\∀a,a∈l->q a:=by
 intro rows
 induction rows with
 |nil=>intro ds _;exact⟨[],rfl,fun a h=>by cases h⟩
 |cons r rows ih =>
  intro ds h;obtain⟨h1,h2⟩:=h;cases ds with
  |nil=>simp at h1
  |cons d ds =>
   obtain⟨a,ha,hq⟩:=hφ _ _ (h2 0 (by simp) (by simp));obtain⟨l,hl,hq2⟩:=ih (ds:=ds) ⟨by simpa using h1,fun i hi hi'=>h2 (i+1) (by simpa using hi) (by simpa using hi')⟩;refine⟨a :: l,by simp only[List.map_cons,<- hl];simp only[Tp]at ha;rw[ha],fun b hb=>?_⟩;rcases List.mem_cons.1 hb with rfl|hb
   ·exact hq
   ·exact hq2 b hb
theorem AH {α β:Type}(f:α->β)(l:List α):(l.map fun a=>[f a]).flatten=l.map f:=by
 induction l with
 |nil=>rfl
 |cons a l ih=>simp only[List.map_cons,List.flatten_cons,ih];rfl
theorem rA {t e:TypeId}{k:IntKind}(ht:P.underlying t=some (.slice e))(he:P.underlying e=some (.int k))(hc:P.cellsOf e=1):
  fG enc P W spare held t fun _ as=>∃l:List Int,as=[.vec l.length (lG k l)]/\l.length<=maxLen/\∀c,c∈l->(Lit.int k c).wf=true :=
 (wD ht (by omega) (jE he)).mono fun d as h=>by
  rcases h with ⟨_,rfl⟩|⟨ds,rest,rows,_,rfl,hr,_,hl⟩
  ·exact⟨[],rfl,by decide,fun c h=>by cases h⟩
  ·obtain⟨l,rfl,hq⟩:=wE (f:=fun n=>[AVal.lit (.int k n)]) (q:=fun n=>(Lit.int k n).wf=true) (fun d as ⟨n,_,h2,h3⟩=>⟨n,h2,h3⟩) hr;refine⟨l,?_,by simpa using hl,hq⟩;rw[SM];congr 2;exact AH _ l
theorem FN {t u e:TypeId}{k:IntKind}(ht:P.underlying t=some (.slice u))(hu:P.underlying u=some (.slice e))(he:P.underlying e=some (.int k))(hc:P.cellsOf e=1)(hcu:P.cellsOf u=1):
  fG enc P W spare held t fun _ as=>∃l:List (List Int),as=[.vec l.length (l.map fun r=>.vec r.length (lG k r))]/\l.length<=maxLen/\∀r,r∈l->r.length<=maxLen/\∀c,c∈r->(Lit.int k c).wf=true :=
 (wD ht (by omega) (rA hu he hc)).mono fun d as h=>by
  rcases h with ⟨_,rfl⟩|⟨ds,rest,rows,_,rfl,hr,_,hl⟩
  ·exact⟨[],rfl,by decide,fun c h=>by cases h⟩
  ·obtain⟨l,rfl,hq⟩:=wE (f:=fun r=>[AVal.vec r.length (lG k r)]) (q:=fun r=>r.length<=maxLen/\∀c,c∈r->(Lit.int k c).wf=true) (fun d as ⟨n,h2,h3⟩=>⟨n,h2,h3⟩) hr;refine⟨l,?_,by simpa using hl,hq⟩;rw[SM];congr 2;exact AH _ l
theorem AI {r:Reach}{b:Nat}{t:TypeId}{v:Value}{d:DataW H}{ps:List MemPlace}{φ:DataW H->List AVal->Prop}(hop:fG enc P W spare held t φ)
  (ht:(∃fs,P.underlying t=some (.struct fs))\/∃n e,P.underlying t=some (.array n e)) (hval:Value.okWide P W r b t v) (hd:DataW.Trod enc P W 0 spare held t v d ps):
  ∃as,RelV P iA cz W (.agg as) v/\φ d as:=by
 obtain⟨cs,rfl⟩:∃cs,v=.agg cs:=by
  unfold Value.okWide at hval;rcases ht with ⟨fs,ht⟩|⟨n,e,ht⟩
  ·rw[ht]at hval;obtain⟨cs,h,_⟩:=hval;exact⟨cs,h⟩
  ·rw[ht]at hval;obtain⟨cs,h,_⟩:=hval;exact⟨cs,h⟩
 obtain⟨fuel,hf⟩:=hd;obtain⟨as,hr,hφ⟩:=hop _ _ _ hf;refine⟨as,?_,hφ⟩;have:=RelV.agg (P:=P) (Γ:=iA) (H:=cz) (w:=W) (cells:=as) (cs:=cs.toList) hr.1 hr.2;simpa using this
theorem wG {r:Reach}{b:Nat}{t:TypeId}{v:Value}{d:DataW H}{ps:List MemPlace}{φ:DataW H->List AVal->Prop}{ψ:AVal->Prop}(hop:fG enc P W spare held t φ)(h1:∀d as,φ d as->∃a,as=[a]/\ψ a)
  (hno:∀cs,¬Value.okWide P W r b t (.agg cs)) (hval:Value.okWide P W r b t v) (hd:DataW.Trod enc P W 0 spare held t v d ps):∃a,RelV P iA cz W a v/\ψ a:=by
 have hc:v.cells.toList=[v]:=by
  cases v with
  |agg cs=>exact absurd hval (hno cs)
  |_=>rfl
 obtain⟨fuel,hf⟩:=hd;rw[hc]at hf;obtain⟨as,hr,hφ⟩:=hop _ _ _ hf;obtain⟨a,rfl,hψ⟩:=h1 _ _ hφ;exact⟨a,hr.2 0 (by simp) (by simp),hψ⟩
theorem FO {r:Reach}{b:Nat}{t:TypeId}{k:IntKind}(ht:P.underlying t=some (.int k))(cs:Array Value):¬Value.okWide P W r b t (.agg cs):=fun h=>by
 obtain⟨n,hn⟩:=okWide_int ht h;cases hn
theorem AJ {r:Reach}{b:Nat}{t e:TypeId}(ht:P.underlying t=some (.slice e))(cs:Array Value):¬Value.okWide P W r b t (.agg cs):=fun h=>by
 simp[Value.okWide,ht,Cell.okWide,Cell.ok]at h
theorem AK {r:Reach}{b:Nat}{t:TypeId}{k:IntKind}{v:Value}{d:DataW H}{ps:List MemPlace}(ht:P.underlying t=some (.int k))(hval:Value.okWide P W r b t v)(hd:DataW.Trod enc P W 0 spare held t v d ps):
  ∃n,RelV P iA cz W (.lit (.int k n)) v/\(Lit.int k n).wf=true:=by
 obtain⟨a,h1,n,rfl,h2⟩:=wG (ψ:=fun a=>∃n,a=.lit (.int k n)/\(Lit.int k n).wf=true) (jE ht) (fun d as ⟨n,_,h2,h3⟩=>⟨_,h2,n,rfl,h3⟩) (FO ht) hval hd;exact⟨n,h1,h2⟩
theorem FQ {r:Reach}{b:Nat}{t e:TypeId}{k:IntKind}{v:Value}{d:DataW H}{ps:List MemPlace}(ht:P.underlying t=some (.slice e))(he:P.underlying e=some (.int k))(hc:P.cellsOf e=1)
  (hval:Value.okWide P W r b t v) (hd:DataW.Trod enc P W 0 spare held t v d ps):∃l:List Int,RelV P iA cz W (.vec l.length (lG k l)) v/\l.length<=maxLen/\∀c,c∈l->(Lit.int k c).wf=true:=by
 obtain⟨a,h1,n,rfl,h2⟩:=wG (ψ:=fun a=>∃l:List Int,a=.vec l.length (lG k l)/\l.length<=maxLen/\∀c,c∈l->(Lit.int k c).wf=true) (rA ht he hc) (fun d as ⟨n,h2,h3⟩=>⟨_,h2,n,rfl,h3⟩) (AJ ht) hval hd;exact⟨n,h1,h2⟩
theorem FR {r:Reach}{b:Nat}{t u e:TypeId}{k:IntKind}{v:Value}{d:DataW H}{ps:List MemPlace}(ht:P.underlying t=some (.slice u))(hu:P.underlying u=some (.slice e))(he:P.underlying e=some (.int k))(hc:P.cellsOf e=1)(hcu:P.cellsOf u=1)
  (hval:Value.okWide P W r b t v) (hd:DataW.Trod enc P W 0 spare held t v d ps):∃l:List (List Int),RelV P iA cz W (.vec l.length (l.map fun r=>.vec r.length (lG k r))) v/\l.length<=maxLen/\∀r,r∈l->r.length<=maxLen/\∀c,c∈r->(Lit.int k c).wf=true:=by
 obtain⟨a,h1,n,rfl,h2⟩:=wG (ψ:=fun a=>∃l:List (List Int),a=.vec l.length (l.map fun r=>.vec r.length (lG k r))/\l.length<=maxLen/\∀r,r∈l->r.length<=maxLen/\∀c,c∈r->(Lit.int k c).wf=true) (FN ht hu he hc hcu) (fun d as ⟨n,h2,h3⟩=>⟨_,h2,n,rfl,h3⟩) (AJ ht) hval hd;exact⟨n,h1,h2⟩
theorem wf_u8 {n:Int}(h:(Lit.int .u8 n).wf=true):0<=n/\n<=255:=by
 simpa[Lit.wf,IntKind.min,IntKind.max,IntKind.signed,IntKind.bits] using h
end Go.Hx
namespace Go.Hx
attribute [go_sem] List.replicate_one List.flatten_cons List.flatten_nil List.length_append List.append_nil Nat.sub_zero Bool.not_true Bool.not_false
attribute [go_sem] Bool.true_eq_false List.map_eq_nil_iff ug Int.le_refl decide_true decide_false eq_self List.getElem?_map
attribute [go_sem] Gw Gx Gy Gz GA GB GC GE
attribute [go_sem] GF GG GH GI GK GJ GL GM
attribute [go_sem] GN GO GP GQ Gh Gi Gj Gk
attribute [go_sem] Gl Gm Gn Gp Gq Gr Gs Gt
attribute [go_sem] Gu Gv oJ tZ wV gO AT Gd
attribute [go_sem] Ge GZ G1 Iy Iu Iv Iw Ix
attribute [go_sem] List.getElem?_toArray Option.bind_some Iz IA IB IC ID IE
attribute [go_sem] IF IG IH II IJ IK IL IM
attribute [go_sem] IN IP IQ IR IS IT IU IV
attribute [go_sem] IW IX IY IZ I0 Jy pY Jz
attribute [go_sem] JA JB Ba JC JD JE JF JG
attribute [go_sem] JH JI JJ JK JL JM JN List.set_cons_zero
attribute [go_sem] List.set_cons_succ JO JP JQ JR JS JT JU
attribute [go_sem] JV JW JX JY JZ J0 J1 J2
attribute [go_sem] J3 J4 J5 J6 J7 J8 J9 Ka
attribute [go_sem] rO xq Kc Kd Ke Kf Kg
attribute [go_sem] Kh Ki Kj Kk Kl Km Kn Ko
attribute [go_sem] Kp Kq Kr Ks Kt Ku Kv Kw
attribute [go_sem] Kx Ky Kz KA KB KC KD KE
attribute [go_sem] KF ij aH aa Int.toNat_natCast Int.natCast_nonneg af List.all_cons
attribute [go_sem] List.all_nil Bool.and_true Nat.mul_one I1 I2 I3 I4 I5
attribute [go_sem] I6 I7 I9 Ja Jb Jc Jd
attribute [go_sem] Jf Jg Ji Jh
attribute [go_sem] Jj Jk Jl Jm List.take_succ_cons List.take_zero
attribute [go_sem] List.take_nil List.drop_succ_cons List.drop_zero List.drop_nil List.forall_mem_cons List.not_mem_nil List.mem_cons List.mem_singleton
attribute [go_sem] or_false false_or or_true true_or not_or false_implies implies_true forall_const
attribute [go_sem] G4 G5 G6 G7 G8 G9 Hh Hi
attribute [go_sem] Hl Ho Ht Hv HA HB HC HD
attribute [go_sem] HE HF HG HH HI Bool.false_eq_true HJ HK
attribute [go_sem] HL HM HN HO HP HQ
attribute [go_sem] HR HS builtin_len builtin_append builtin_copy builtin_min builtin_max HT
attribute [go_sem] HU HV HW HX HY HZ Ia Ib
attribute [go_sem] Ic Ie Ig aS ue AV AW wY
attribute [go_sem] Il wX Im Ik List.map_cons List.map_nil if_true if_false
attribute [go_sem] ne_eq not_false_eq_true not_true_eq_false true_and and_true false_and and_false List.length_cons
attribute [go_sem] List.length_nil Nat.zero_add Nat.add_zero Option.isSome_some List.append_assoc List.cons_append List.nil_append Option.map_some
attribute [go_sem] Option.map_none fT wW List.getElem?_cons_zero List.getElem?_cons_succ List.getElem?_nil Option.getD_some Option.getD_none
attribute [go_sem] GR GS GT GU GV GW GX GY
attribute [go_sem] KH KI KJ Int.natCast_zero Int.cast_ofNat_Int KP KQ KS
attribute [go_sem] Ih Ii KN KO KR KK KL aM Nat.le_refl
end Go.Hx
namespace Go.Hx
variable {P:Program} {G:Nat->Option (List AVal)} {H H':AHeap}
def AHeap.cut (H:AHeap)(n:Nat):AHeap:=⟨fun j=>if j<n then H.get j else none,H.next⟩
theorem ur {n id:Nat}(h:id<n):(H.cut n).get id=H.get id:=by simp[AHeap.cut,h]
theorem KY {n id:Nat}(h:n<=id):(H.cut n).get id=none:=by simp[AHeap.cut,Nat.not_lt.2 h]
theorem Over.cut {B:AHeap}(h:Over B H):Over B (H.cut B.next):=⟨h.next,fun id hi=>(ur hi).trans (h.old id hi)⟩
open Classical in
theorem Fz.dead {S:Nat->Prop}{H:AHeap}{nx:Nat}{v:AVal}(h:Below nx v):Fz S H nx v v:=by
 induction h with
 |lit v=>exact .lit v
 |vec _ ih=>exact .vec rfl fun i h _=>ih i h
 |vptr _ ih=>exact .vptr rfl fun i h _=>ih i h
 |agg _ ih=>exact .agg rfl fun i h _=>ih i h
 |tup _ ih=>exact .tup rfl fun i h _=>ih i h
 |clo _ _ ih1 ih2=>exact .clo rfl rfl (fun i h _=>ih1 i h) fun i h _=>ih2 i h
 | @own id _ _ _ _ h=>by_cases hs:S id;exact .deadOwn h hs;exact .own h hs
 | @ptr id _ _ h=>by_cases hs:S id;exact .deadPtr h hs;exact .ptr h hs
 | @yld id h=>by_cases hs:S id;exact .deadYld h hs;exact .yld h hs
theorem KZ (hc:Clo H)(n:Nat):FzH (fun id=>n<=id) H (H.cut n) where
 gone id hs:=KY hs
 kept id b hs hb:=by
  have hlt:id<n:=Uq hs;have hbb:=hc.below id b hb;refine⟨hc.lt id b hb,b,by rw[ur hlt];exact hb,?_⟩;cases b with
  |rsv=>trivial
  |mp=>rfl
  |arr g e cells=>exact⟨rfl,rfl,rfl,fun i h _=>.dead (hbb i h)⟩
  |loop st pend n env ps asg body=>exact⟨rfl,rfl,rfl,rfl,rfl,rfl,rfl,fun t ht=>.dead (hbb t ht)⟩
 none id hs hb:=by rw[ur (Uq hs)];exact hb
theorem ag.mv {f:FuncId}{args args':List AVal}{K:ARes->AHeap->Prop}(n:Nat)(hG:fm G)(hl:args'.length=args.length)(hv:∀i (h:i<args.length) (h':i<args'.length),Fz (fun id=>n<=id) H H.next args[i] args'[i])
  (h:ag P G f args' (H.cut n) K):ag P G f args H K:=by
 refine⟨h.1,fun Γ w cargs R hr=>?_⟩;have F:=KZ R.clo n;have R0:=F.rel hG R;have E0:Evo Γ H w (iF (fun id=>n<=id) Γ) (H.cut n) w:=F.bE;refine(h.2 _ w cargs R0 ⟨by have:=hr.1;omega,fun i h1 h2=>(hv i (by omega) h1).sound R F (hr.2 i (by omega) h2)⟩).mono ?_;rintro e w' ⟨r,H',Γ',h1,h2,h3,h4,h5⟩;exact⟨r,H',Γ',h1,h2,h3,E0.trans (Nat.le_refl _) h4,h5⟩
theorem aw.mv {f:FuncId}{args args':List AVal}{K:ARes->AHeap->Prop}(n:Nat)(hG:fm G)(hl:args'.length=args.length)(hv:∀i (h:i<args.length) (h':i<args'.length),Fz (fun id=>n<=id) H H.next args[i] args'[i])
  (h:ag P G f args' (H.cut n) K):aw P G (.clo f [] []) args H K:=by
 refine aw.clo (by simpa using ag.mv n hG hl hv h)
def ay (lo:Nat)(H:AHeap)(e:TypeId)(v:AVal)(cs:List AVal):Prop :=
 (v=.lit (.slice none 0 0)/\cs=[])\/∃id g,lo<=id/\id<H.next/\v=.own id g 0 cs.length 1/\H.get id=some (.arr g e cs)
theorem ay.nil {lo:Nat}{e:TypeId}:ay lo H e (.lit (.slice none 0 0)) []:=.inl ⟨rfl,rfl⟩
theorem ay.keep {lo lo':Nat}{e:TypeId}{v:AVal}{cs:List AVal}(h:ay lo H e v cs)(hl:lo'<=lo)(hn:H.next<=H'.next)(hk:∀id g,lo<=id->id<H.next->H.get id=some (.arr g e cs)->v=.own id g 0 cs.length 1->H'.get id=H.get id):ay lo' H' e v cs:=by
 rcases h with h|⟨id,g,h1,h2,h3,h4⟩
 ·exact .inl h
 ·exact .inr ⟨id,g,by omega,by omega,h3,by rw[hk id g h1 h2 h4 h3];exact h4⟩
theorem ay.over {lo:Nat}{e:TypeId}{v:AVal}{cs:List AVal}(h:ay lo H e v cs)(ho:Over H H'):ay lo H' e v cs:=h.keep (Nat.le_refl _) ho.next fun id _ _ h2 _ _=>ho.old id h2
theorem ay.one {lo:Nat}{e:TypeId}{v:AVal}{cs:List AVal}(h:ay lo H e v cs):v.one=true:=by
 rcases h with ⟨rfl,_⟩|⟨_,_,_,_,rfl,_⟩<;>rfl
theorem ay.cells {lo:Nat}{e:TypeId}{v:AVal}{cs:List AVal}(h:ay lo H e v cs):v.cells=[v]:=by
 rcases h with ⟨rfl,_⟩|⟨_,_,_,_,rfl,_⟩<;>rfl
theorem ay.fz {S:Nat->Prop}{lo nx:Nat}{e:TypeId}{v:AVal}{cs cs':List AVal}(h:ay lo H e v cs)(hS:∀i,lo<=i->S i)(hl:cs'.length=cs.length)
  (hc:∀i (h:i<cs.length) (h':i<cs'.length),Fz S H nx cs[i] cs'[i]):Fz S H nx v (.vec cs'.length cs'):=by
 rcases h with ⟨rfl,rfl⟩|⟨id,g,h1,_,rfl,h4⟩
 ·obtain rfl:=SP hl;exact .nil
 ·rw[hl];refine .frz (hS id h1) h4 (by omega) fun j hj h2 h'=>?_;simp only[Nat.zero_add]at h2 ⊢;exact hc j h2 h'
theorem ay.dG {S:Nat->Prop}{lo nx:Nat}{e:TypeId}{v:AVal}{l:List Int}(h:ay lo H e v (ints l))(hS:∀i,lo<=i->S i):Fz S H nx v (af l):=by
 have:=h.fz (S:=S) (nx:=nx) (cs':=ints l) hS rfl fun i hi _=>by simp only[ints,SV];exact .lit _
 rw[aH]at this;exact this
theorem ay.new {e:TypeId}{cs:List AVal}:ay H.next (ext H [.arr 0 e cs]) e (.own H.next 0 0 cs.length 1) cs :=
 .inr ⟨H.next,0,Nat.le_refl _,by simp[aS],rfl,by simpa using bD H [.arr 0 e cs] 0 (by simp)⟩
theorem bb {b:Blk}{id:Nat}(h:id<H.next):(ext H [b]).get id=H.get id:=dv H [b] id h
theorem bX {b:Blk}:(ext H [b]).get H.next=some b:=by simpa using bD H [b] 0 (by simp)
theorem rR {n:Nat}{b:Blk}(h:n=H.next):H.lay n b=some (ext H [b]):=by subst h;exact ue H b
theorem lK {t e:TypeId}{lo n:Nat}{v:AVal}{cs src:List AVal}{z:List AVal}(ht:P.underlying t=some (.slice e))(hz:P.cellsOf e=1)(hzero:bR P e=some z)(hx:src.all AVal.one=true)
  (hb:(cs.length+src.length)*P.bytesOf e<=2 ^ 46/\cs.length+src.length<=2 ^ 46) (ho:ay lo H e v cs) (hlo:lo<=H.next) (hn:n=H.next):
  ∃v' H',bM P H n t t v (.vec src.length src)=some (v',H')/\ay lo H' e v' (cs++src)/\H.next<=H'.next/\(∀k,k<H.next->(∀g n,v≠.own k g 0 n 1)->H'.get k=H.get k):=by
 have hsrc:cV H 1 (.vec src.length src)=some (src.length,src):=by
  unfold cV;simp
 by_cases h0:src.length=0
 ·have e0:src=[]:=SP h0;subst e0;refine⟨v,H,?_,?_,Nat.le_refl _,fun _ _ _=>rfl⟩
  ·rcases ho with ⟨rfl,rfl⟩|⟨i,g,h1,h2,rfl,h4⟩
   ·unfold bM;rw[ht];simp only[hzero,hz,Option.bind_some];rw[hsrc];rfl
   ·unfold bM;rw[ht];have hl:=ah h4;simp only[hzero,hz,Option.bind_some,hsrc,hl];rw[SK ⟨trivial,trivial,by omega,hb.1,hb.2,rfl⟩];simp
  ·rw[List.append_nil];exact ho
 rcases ho with ⟨rfl,rfl⟩|⟨i,g,h1,h2,rfl,h4⟩
 ·refine⟨.own H.next 0 0 src.length 1,ext H [.arr 0 e src],?_,.inr ⟨H.next,0,hlo,by simp[aS],by simp,by simpa using bX⟩,by simp[aS],fun k hk _=>bb hk⟩;unfold bM;rw[ht];simp only[hzero,hz,Option.bind_some,hsrc];rw[SI h0,SK (by simpa using hb),rR hn,hn];rfl
 ·refine⟨.own i (g+1) 0 (cs.length+src.length) 1,H.upd i (.arr (g+1) e (cs++src)),?_,.inr ⟨i,g+1,h1,h2,by simp,by rw[ae,SK rfl]⟩,Nat.le_refl _,fun k hk hne=>?_⟩
  ·unfold bM;rw[ht];have hl:=ah h4;simp only[hzero,hz,Option.bind_some,hsrc,hl];rw[SK ⟨trivial,trivial,by omega,hb.1,hb.2,hx⟩,SI h0];simp
  ·rw[ae,SI];rintro rfl;exact hne _ _ rfl
theorem fW {t e:TypeId}{lo n:Nat}{v x:AVal}{cs:List AVal}{z:List AVal}(ht:P.underlying t=some (.slice e))(hz:P.cellsOf e=1)(hzero:bR P e=some z)(hx:x.one=true)
  (hb:(cs.length+1)*P.bytesOf e<=2 ^ 46/\cs.length+1<=2 ^ 46) (ho:ay lo H e v cs) (hlo:lo<=H.next) (hn:n=H.next+1):
  ∃v' H',bM P (ext H [.arr 0 e [x]]) n t t v (.own H.next 0 0 1 1)=some (v',H')/\ay lo H' e v' (cs++[x])/\H.next<=H'.next/\(∀k,k<H.next->(∀g n,v≠.own k g 0 n 1)->H'.get k=H.get k):=by
 have hsrc:cV (ext H [.arr 0 e [x]]) 1 (.own H.next 0 0 1 1)=some (1,[x]):=by
  unfold cV;have:=ah (H:=ext H [.arr 0 e [x]]) (g:=0) (bX (b:=.arr 0 e [x]));simp[this]
 have hne:(ext H [Blk.arr 0 e [x]]).next=H.next+1:=rfl;rcases ho with ⟨rfl,rfl⟩|⟨i,g,h1,h2,rfl,h4⟩
 ·refine⟨.own (H.next+1) 0 0 1 1,ext (ext H [.arr 0 e [x]]) [.arr 0 e [x]],?_,.inr ⟨H.next+1,0,by omega,by simp[aS],by simp,?_⟩,by simp[aS];omega,fun k hk _=>?_⟩
  ·unfold bM;rw[ht];simp only[hzero,hz,Option.bind_some,hsrc];rw[SI (by decide),SK (by simpa using hb),rR (by rw[hn,hne]),hn];rfl
  ·rw[<- hne];exact bX
  ·rw[bb (by rw[hne];omega),bb hk]
 ·have h4':(ext H [.arr 0 e [x]]).get i=some (.arr g e cs):=by rw[bb h2];exact h4
  refine⟨.own i (g+1) 0 (cs.length+1) 1,(ext H [.arr 0 e [x]]).upd i (.arr (g+1) e (cs++[x])),?_,.inr ⟨i,g+1,h1,by rw[au,hne];omega,by simp,by rw[ae,SK rfl]⟩,by rw[au,hne];omega,fun k hk hne=>?_⟩
  ·unfold bM;rw[ht];have hl:=ah h4';simp only[hzero,hz,Option.bind_some,hsrc,hl];rw[SK ⟨trivial,trivial,by omega,hb.1,hb.2,by simp[hx]⟩];simp
  ·rw[ae,SI,bb hk];rintro rfl;exact hne _ _ rfl
def eY (lo:Nat)(H:AHeap)(e1 e0:TypeId)(v:AVal)(rows:List (List AVal)):Prop :=
 ∃cs:List AVal,ay lo H e1 v cs/\cs.length=rows.length/\∀(j:Nat) (r:List AVal) (c:AVal),rows[j]?=some r->cs[j]?=some c->ay lo H e0 c r
theorem eY.nil {lo:Nat}{e1 e0:TypeId}:eY lo H e1 e0 (.lit (.slice none 0 0)) []:=⟨[],.nil,rfl,fun j r c h=>by simp at h⟩
theorem eY.over {lo:Nat}{e1 e0:TypeId}{v:AVal}{rows:List (List AVal)}(h:eY lo H e1 e0 v rows)(ho:Over H H'):eY lo H' e1 e0 v rows:=by
 obtain⟨cs,c1,c2,c3⟩:=h;exact⟨cs,c1.over ho,c2,fun j r c hr hc=>(c3 j r c hr hc).over ho⟩
theorem eY.fz {S:Nat->Prop}{lo nx:Nat}{e1 e0:TypeId}{v:AVal}{rows rows':List (List AVal)}(h:eY lo H e1 e0 v rows)(hS:∀i,lo<=i->S i)(hl:rows'.length=rows.length)
  (hr:∀(j:Nat) (r r':List AVal),rows[j]?=some r->rows'[j]?=some r'->r'.length=r.length/\∀i (h:i<r.length) (h':i<r'.length),Fz S H nx r[i] r'[i]):
  Fz S H nx v (.vec rows'.length (rows'.map fun r=>.vec r.length r)):=by
 obtain⟨cs,h1,h2,h3⟩:=h;have:=h1.fz (S:=S) (nx:=nx) (cs':=rows'.map fun r=>.vec r.length r) hS (by simp[h2,hl]) fun i hi hi'=>by
  simp only[SV];have hi2:i<rows.length:=by omega
  have hi3:i<rows'.length:=by omega
  obtain⟨a1,a2⟩:=hr i rows[i] rows'[i] (SJ hi2) (SJ hi3);exact(h3 i rows[i] cs[i] (SJ hi2) (SJ hi)).fz (S:=S) (nx:=nx) (cs':=rows'[i]) hS a1 a2
 rw[SM]at this;exact this
theorem ay.rP {lo lo':Nat}{e e':TypeId}{v u:AVal}{cs cs':List AVal}(hv:ay lo H e v cs)(hu:ay lo' H e' u cs')(hne:e≠e')(hn:H.next<=H'.next)
  (hp:∀k,k<H.next->(∀g n,v≠.own k g 0 n 1)->H'.get k=H.get k):ay lo' H' e' u cs':=by
 refine hu.keep (Nat.le_refl _) hn fun i g h1 h2 h3 _=>hp i h2 fun g' n he=>?_;rcases hv with ⟨rfl,_⟩|⟨j,g2,_,_,rfl,h4⟩
 ·cases he
 ·have:=AVal.own.inj he;obtain rfl:j=i:=this.1;rw[h3]at h4;cases h4;exact hne rfl
theorem eY.app {lo n:Nat}{e1 e0:TypeId}{v x:AVal}{rows:List (List AVal)}{r:List AVal}{t:TypeId}{z:List AVal}(ht:P.underlying t=some (.slice e1))(hz:P.cellsOf e1=1)(hzero:bR P e1=some z)(hby:P.bytesOf e1=24)(hne:e1≠e0)
  (hb:rows.length<2 ^ 40) (h:eY lo H e1 e0 v rows) (hlo:lo<=H.next) (hx:ay lo H e0 x r) (hn:n=H.next+1):
  ∃v' H',bM P (ext H [.arr 0 e1 [x]]) n t t v (.own H.next 0 0 1 1)=some (v',H')/\eY lo H' e1 e0 v' (rows++[r])/\H.next<=H'.next/\(∀k,k<H.next->k<lo->H'.get k=H.get k):=by
 obtain⟨cs,h1,h2,h3⟩:=h;obtain⟨v',H',hA,hO,hL,hp⟩:=fW (t:=t) ht hz hzero hx.one (by rw[hby,h2];omega) h1 hlo hn;refine⟨v',H',hA,⟨cs++[x],hO,by simp[h2],fun j r' c hr hc=>?_⟩,hL,fun k hk hkl=>hp k hk fun g n he=>?_⟩
 ·have key:∀u l,ay lo H e0 u l->ay lo H' e0 u l:=fun u l hu=>h1.rP hu hne hL hp;rcases S9 j rows.length with hj|hj
  ·rw[SU hj]at hr;rw[SU (by omega)]at hc;exact key _ _ (h3 j r' c hr hc)
  ·rw[SZ hj]at hr;rw[SZ (by omega)]at hc;have hj0:j-rows.length=0:=by
    rcases TG (j-rows.length) with h|h
    ·exact h
    ·rw[SQ (by simp;omega)]at hr;cases hr
   have hj1:j-cs.length=0:=(by omega);rw[hj0]at hr;rw[hj1]at hc;cases hr;cases hc;exact key _ _ hx
 ·rcases h1 with ⟨rfl,_⟩|⟨i,g2,a1,_,rfl,_⟩
  ·cases he
  ·have:=AVal.own.inj he;omega
attribute [go_sem] Int.reduceToNat Int.reduceLE Int.reduceLT Int.reduceAdd Int.reduceSub Int.reduceMul Int.reduceEq Int.reduceNe Nat.reduceEqDiff Nat.reducePow Nat.reduceDiv Nat.reduceMod Nat.reduceAdd Nat.reduceMul Nat.reduceSub Nat.reduceLT Nat.reduceLeDiff reduceIte reduceCtorEq
end Go.Hx
