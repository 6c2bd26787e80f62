/-
  Regions that draw their order. Own work: no program stands in this text.
-/
import Derived.Test.YtebhdkihcdmmjaaGreatLibA
import Derived.OrdersIn
import Derived.KernelRfl
import Derived.ProofKit
import Derived.SevenTiedAt
set_option linter.all false
namespace Go.Hx
variable {P:Program} {G:Nat->Option (List ZI)} {Γ Γ':aE} {H H':ZH} {w w':World}
variable {c:Call}{ρ:Env}{id n:Nat}{o:Op}{t u:TypeId}{H2:ZH}{a v x:ZI}
def aS:ZI->List Nat
 |.U id _ _ _ _=>[id]
 |.O id _ _=>[id]
 |_=>[]
def fm:ZI->List Nat
 |.nk id=>[id]
 |_=>[]
structure FP where
 nD:List Nat
 rs:List Nat
def ma:ZI->Bool
 |.U ..=>true
 |_=>false
def mM (P:Program)(t:TypeId)(x:ZI):List Nat:=match P.underlying t with
 |some (.slice _)=>aS x
 |_=>[]
def kR (P:Program)(id:Nat)(b:Builtin)(ats:List TypeId)(args:List ZI):FP :=
 match b,ats,args with
 |.append,_,[s,x]=>if ma s then ⟨aS s,aS s++aS x⟩ else ⟨[id],aS x⟩
 |.copy,_,[d,x]=>⟨aS d,aS d++aS x⟩
 |.clear,_,[d]=>⟨aS d,aS d⟩
 |.len,[t],[x]=>⟨[],mM P t x⟩
 |_,_,_=>⟨[],[]⟩
def cC (P:Program)(G:Nat->Option (List ZI))(ρ:Env)(id:Nat):Op->FP
 |.load _ a=>⟨[],aS (au G ρ a)⟩
 |.nilCheck a=>⟨[],aS (au G ρ a)⟩
 |.slice _ a _ _ _=>⟨[],aS (au G ρ a)⟩
 |.fieldAddr _ a _=>⟨[],aS (au G ρ a)⟩
 |.indexAddr _ a _=>⟨[],aS (au G ρ a)⟩
 |.convert _ _ a=>⟨[],aS (au G ρ a)⟩
 |.store _ a _=>⟨aS (au G ρ a),aS (au G ρ a)⟩
 |.alloc _=>⟨[id],[]⟩
 |.box _ _=>⟨[id],[]⟩
 |.buildSlice _ _ _=>⟨[id],[]⟩
 |.makeSlice _ _ _=>⟨[id],[]⟩
 |.makeMap _ _=>⟨[id],[]⟩
 |.lookup _ x _ _=>⟨[],fm (au G ρ x)⟩
 |.mapUpdate _ m _ _|.insert _ m _ _|.mapEntry _ m _|.entryStore _ m _ _=>⟨fm (au G ρ m),fm (au G ρ m)⟩
 |.call c=>match c.callee with
  |.builtin b=>kR P id b c.argTypes.toList (c.args.toList.map (au G ρ))
  |_=>⟨[],[]⟩
 |_=>⟨[],[]⟩
def fq (e:Option (Nat × ZO))(g:Nat->Option ZO):Nat->Option ZO :=
 match e with
 |none=>g
 |some (k,b)=>fun j=>if j=k then some b else g j
def gV (H:ZH):Prop:=∀id b,H.get id=some b->id<H.A
def kS (wf:gV H){gen:Nat}{ec:TypeId × List ZI}(h:H.na id gen=some ec):id<H.A:=wf id _ (jK (e:=ec.1) (cells:=ec.2) h)
def kT (h:H2.get id=H.get id)(gen:Nat):H2.na id gen=H.na id gen:=by unfold ZH.na;rw[h]
def Local (P:Program)(G:Nat->Option (List ZI))(ρ:Env)(H:ZH)(o:Op)(v:ZI)(H':ZH)(f:FP):Prop :=
 ∃(e:Option (Nat × ZO)) (al:Bool),H'.get=fq e H.get/\H'.A=(if al then H.A+1 else H.A) /\
  (∀k b,e=some (k,b)->k∈f.nD/\(al=false->k∈f.rs))/\(al=true->∃b,e=some (H.A,b))/\(∀r,r∈f.rs->r<H.A) /\
  ∀H2:ZH,(∀r,r∈f.rs->H2.get r=H.get r)->(al=true->H2.get H.A=some .nq/\H.A≠H2.A)->aq P G ρ H2 H.A o=some (v,⟨fq e H2.get,H2.A⟩)
variable {f:FP}
def dH (hrs:∀r,r∈f.rs->r<H.A)(h:∀H2:ZH,(∀r,r∈f.rs->H2.get r=H.get r)->aq P G ρ H2 H.A o=some (v,H2)):Local P G ρ H o v H f:=by
 refine⟨none,false,rfl,rfl,?_,?_,hrs,fun H2 ha _=>h H2 ha⟩
 ·intro k b h;cases h
 ·intro h;cases h
def qG {b:ZO}(hl:H.lay H.A b=some H')(hta:H.A∈f.nD)(hrs:∀r,r∈f.rs->r<H.A)
  (h:∀H2:ZH,(∀r,r∈f.rs->H2.get r=H.get r)->∀H2',H2.lay H.A b=some H2'->aq P G ρ H2 H.A o=some (v,H2')):Local P G ρ H o v H' f:=by
 obtain⟨h1,h2⟩:=ka hl;have h2':H'.A=H.A+1:=by
  unfold ZH.lay at hl;rw[Vf rfl]at hl;simp only[Option.some.injEq]at hl;rw[<- hl]
 refine⟨some (H.A,b),true,funext h1,by simp[h2'],?_,?_,hrs,fun H2 ha hr=>?_⟩
 ·intro k b' hk;simp only[Option.some.injEq,Prod.mk.injEq]at hk;exact⟨hk.1 ▸ hta,fun h=>by cases h⟩
 ·exact fun _=>⟨b,rfl⟩
 ·obtain⟨hr1,hr2⟩:=hr rfl;refine h H2 ha _ ?_;unfold ZH.lay;rw[Ve hr2,hr1];rfl
def oa {b:ZO}(hid:id∈f.nD)(hid':id∈f.rs)(hrs:∀r,r∈f.rs->r<H.A)
  (h:∀H2:ZH,(∀r,r∈f.rs->H2.get r=H.get r)->aq P G ρ H2 H.A o=some (v,H2.upd id b)):Local P G ρ H o v (H.upd id b) f:=by
 refine⟨some (id,b),false,rfl,rfl,?_,?_,hrs,fun H2 ha _=>h H2 ha⟩
 ·intro k b' hk;simp only[Option.some.injEq,Prod.mk.injEq]at hk;exact⟨hk.1 ▸ hid,fun _=>hk.1 ▸ hid'⟩
 ·intro h;cases h
def da :∀r,r∈([]:List Nat)->r<n:=fun _ h=>by cases h
def gW (h:id<n):∀r,r∈[id]->r<n:=fun r hr=>by
 simp only[List.mem_singleton]at hr;omega
def Ie (h:∀r,r∈aS a->H2.get r=H.get r):ir P H2 t a=ir P H t a:=by
 cases a with
 |O id gen off=>simp only[ir];rw[h id (by simp[aS])]
 |_=>rfl
def If (wf:gV H)(h:ir P H t a=some v):∀r,r∈aS a->r<H.A:=by
 cases a with
 |O id gen off =>
  refine gW ?_;simp only[ir]at h;split at h
  ·rename_i hg;exact wf _ _ hg
  ·cases h
 |U=>simp[ir]at h
 |_=>exact da
def Ig (h:j9 P H t a v=some H'):∃id gen off g e cells,a=.O id gen off/\H.get id=some (.J g e cells)/\∃cells',H'=H.upd id (.J g e cells') /\
  ∀H2:ZH,H2.get id=H.get id->j9 P H2 t a v=some (H2.upd id (.J g e cells')):=by
 cases a with
 |O id gen off =>
  simp only[j9]at h;split at h
  ·rename_i g e cells hg;split at h
   ·rename_i hc;simp only[Option.some.injEq]at h;refine⟨id,gen,off,g,e,cells,rfl,hg,_,h.symm,fun H2 h2=>?_⟩;simp only[j9];rw[h2,hg];simp only;rw[Vf hc]
   ·cases h
  ·cases h
 |_=>simp[j9]at h
def Ih (wf:gV H){i:Int}(h:nM P H t x i=some v):(∀r,r∈aS x->r<H.A)/\∀H2:ZH,(∀r,r∈aS x->H2.get r=H.get r)->nM P H2 t x i=some v:=by
 unfold nM at h ⊢;split at h
 ·split at h
  ·rename_i hc;split at h
   ·rename_i id gen off;simp only[Vc]at h;obtain⟨ec,hl,hv⟩:=h;refine⟨gW (kS wf hl),fun H2 h2=>?_⟩;rw[Vf hc];simp only[kT (h2 id (by simp[aS])),hl,Option.map_some,hv]
   ·refine⟨da,fun H2 _=>?_⟩;rw[Vf hc];exact h
   ·cases h
  ·cases h
 ·split at h
  ·rename_i hc;split at h
   ·rename_i id gen off len sz;split at h
    ·rename_i hi;simp only[Vc]at h;obtain⟨ec,hl,hv⟩:=h;refine⟨gW (kS wf hl),fun H2 h2=>?_⟩;rw[Vf hc,Vf hi];simp only[kT (h2 id (by simp[aS])),hl,Option.map_some,hv]
    ·cases h
   ·refine⟨da,fun H2 _=>?_⟩;rw[Vf hc];exact h
   ·cases h
  ·cases h
 ·cases h
def Ii (wf:gV H){lo hi:Option ZI}(h:nN P H t x lo hi=some v):(∀r,r∈aS x->r<H.A)/\∀H2:ZH,(∀r,r∈aS x->H2.get r=H.get r)->nN P H2 t x lo hi=some v:=by
 unfold nN at h ⊢;split at h
 ·split at h
  ·rename_i hc;split at h
   ·rename_i id gen off;split at h
    ·rename_i e' cells hl;refine⟨gW (kS wf hl),fun H2 h2=>?_⟩;rw[Vf hc];simp only[kT (h2 id (by simp[aS])),hl];exact h
    ·cases h
   ·refine⟨da,fun H2 _=>?_⟩;rw[Vf hc];exact h
   ·cases h
  ·cases h
 ·split at h
  ·rename_i hc;split at h
   ·rename_i id gen off len sz;split at h
    ·rename_i hi;have h0:=h;simp only[Vi]at h;obtain⟨ec,hl,_⟩:=h;refine⟨gW (kS wf hl),fun H2 h2=>?_⟩;rw[Vf hc,Vf hi,kT (h2 id (by simp[aS]))];exact h0
    ·cases h
   ·refine⟨da,fun H2 _=>?_⟩;rw[Vf hc];exact h
   ·refine⟨da,fun H2 _=>?_⟩;rw[Vf hc];exact h
   ·cases h
  ·cases h
 ·split at h
  ·exact⟨da,fun H2 _=>h⟩
  ·cases h
 ·cases h
def Ij (wf:gV H)(h:nO P H t x=some v):(∀r,r∈mM P t x->r<H.A)/\∀H2:ZH,(∀r,r∈mM P t x->H2.get r=H.get r)->nO P H2 t x=some v:=by
 unfold nO mM at *
 cases hu:P.underlying t with
 |none=>rw[hu]at h;cases h
 |some d =>
  rw[hu]at h;cases d with
  |slice e =>
   simp only at h ⊢;split at h
   ·exact⟨da,fun _ _=>h⟩
   ·rename_i id gen off len sz;simp only[Vc]at h;obtain⟨ec,hl,hv⟩:=h;refine⟨gW (kS wf hl),fun H2 h2=>?_⟩;simp only[kT (h2 id (by simp[aS])),hl,Option.map_some,hv]
   ·exact⟨da,fun _ _=>h⟩
   ·cases h
  |string=>exact⟨da,fun _ _=>h⟩
  |array n e=>exact⟨da,fun _ _=>h⟩
  |_=>cases h
def yj (wf:gV H){sz:Nat}{r:Nat × List ZI}(h:de H sz x=some r):(∀r,r∈aS x->r<H.A)/\∀H2:ZH,(∀r,r∈aS x->H2.get r=H.get r)->de H2 sz x=some r:=by
 unfold de at h ⊢;split at h
 ·exact⟨da,fun _ _=>h⟩
 ·rename_i id gen off len sz';split at h
  ·rename_i hsz;simp only[Vc]at h;obtain⟨ec,hl,hv⟩:=h;refine⟨gW (kS wf hl),fun H2 h2=>?_⟩;rw[Vf hsz];simp only[kT (h2 id (by simp[aS])),hl,Option.map_some,hv]
  ·cases h
 ·exact⟨da,fun _ _=>h⟩
 ·cases h
def BO {a b:List Nat}{p:Nat->Prop}(h1:∀r,r∈a->p r)(h2:∀r,r∈b->p r):∀r,r∈a++b->p r:=fun r hr=>(VC.1 hr).elim (h1 r) (h2 r)
def Ik (wf:gV H){s:ZI}(hb:c.callee=.builtin .append)(hats:c.argTypes.toList=[t,u])(hargs:c.args.toList.map (au G ρ)=[s,x])
  (h:bU P H H.A t u s x=some (v,H')):Local P G ρ H (.call c) v H' (cC P G ρ H.A (.call c)):=by
 have hfp:cC P G ρ H.A (.call c)=if ma s then ⟨aS s,aS s++aS x⟩ else ⟨[H.A],aS x⟩:=by
  simp only[cC,hb,hats,hargs,kR]
 have hop:∀H2:ZH,aq P G ρ H2 H.A (.call c)=bU P H2 H.A t u s x:=fun H2=>by
  simp only[aq,hb,hats,hargs,gT]
 rw[hfp];unfold bU at h;split at h
 ·rename_i e he;split at h
  ·rename_i e' he';simp only[Vi]at h;obtain⟨z,hz,nx,hsrc,h⟩:=h;obtain⟨hxlt,hxl⟩:=yj wf hsrc;split at h
   ·simp only[ma,Bool.false_eq_true,if_false];split at h
    ·rename_i hn0;simp only[Option.some.injEq,Prod.mk.injEq]at h;obtain⟨rfl,rfl⟩:=h;refine dH hxlt fun H2 h2=>?_;rw[hop];simp only[bU,he,he',hz,hxl H2 h2,Option.bind_some,Vf hn0]
    ·rename_i hn0;split at h
     ·rename_i hb;simp only[Vc,Prod.mk.injEq]at h;obtain⟨H3,hl,rfl,rfl⟩:=h;refine qG hl ZD hxlt fun H2 h2 H2' hl2=>?_;rw[hop];simp only[bU,he,he',hz,hxl H2 h2,Option.bind_some,Ve hn0,Vf hb,hl2,Option.map_some]
     ·cases h
   ·rename_i id' gen off len sz;simp only[ma,if_true];simp only[Vi]at h;obtain⟨ec,hl,h⟩:=h;have hlt:∀r,r∈aS (.U id' gen off len sz)++aS x->r<H.A:=BO (gW (kS wf hl)) hxlt;have hl2:∀H2:ZH,(∀r,r∈aS (.U id' gen off len sz)++aS x->H2.get r=H.get r)->H2.na id' gen=some ec:=fun H2 h2=>by
     rw[kT (h2 id' (by simp[aS]))];exact hl
    have hx2:∀H2:ZH,(∀r,r∈aS (.U id' gen off len sz)++aS x->H2.get r=H.get r)->de H2 (P.cellsOf e) x=some nx:=fun H2 h2 =>
     hxl H2 fun r hr=>h2 r (YG _ hr)
    split at h
    ·rename_i hc;split at h
     ·rename_i hn0;simp only[Option.some.injEq,Prod.mk.injEq]at h;obtain⟨rfl,rfl⟩:=h;refine dH hlt fun H2 h2=>?_;rw[hop];simp only[bU,he,he',hz,hx2 H2 h2,hl2 H2 h2,Option.bind_some];rw[Vf hc,Vf hn0]
     ·rename_i hn0;simp only[Option.some.injEq,Prod.mk.injEq]at h;obtain⟨rfl,rfl⟩:=h;refine oa (by simp[aS]) (by simp[aS]) hlt fun H2 h2=>?_;rw[hop];simp only[bU,he,he',hz,hx2 H2 h2,hl2 H2 h2,Option.bind_some];rw[Vf hc,Ve hn0]
    ·cases h
   ·cases h
  ·cases h
 ·cases h
def Il (wf:gV H){s:ZI}(hb:c.callee=.builtin .copy)(hats:c.argTypes.toList=[t,u])(hargs:c.args.toList.map (au G ρ)=[s,x])
  (h:lU P H t s x=some (v,H')):Local P G ρ H (.call c) v H' (cC P G ρ H.A (.call c)):=by
 have hfp:cC P G ρ H.A (.call c)=⟨aS s,aS s++aS x⟩:=by
  simp only[cC,hb,hats,hargs,kR]
 have hop:∀H2:ZH,aq P G ρ H2 H.A (.call c)=lU P H2 t s x:=fun H2=>by
  simp only[aq,hb,hats,hargs,gT]
 rw[hfp];unfold lU at h;split at h
 ·rename_i e he;split at h
  ·rename_i hs;simp only[Vi]at h;obtain⟨nx,hsrc,h⟩:=h;obtain⟨hxlt,hxl⟩:=yj wf hsrc;split at h
   ·rename_i id' gen off len sz;simp only[Vi]at h;obtain⟨ec,hl,h⟩:=h;have hlt:∀r,r∈aS (.U id' gen off len sz)++aS x->r<H.A:=BO (gW (kS wf hl)) hxlt;split at h
    ·rename_i hc;simp only[Option.some.injEq,Prod.mk.injEq]at h;obtain⟨rfl,rfl⟩:=h;refine oa (by simp[aS]) (by simp[aS]) hlt fun H2 h2=>?_;have hl2:H2.na id' gen=some ec:=by
      rw[kT (h2 id' (by simp[aS]))];exact hl
     rw[hop];simp only[lU,he,hs,if_true,hxl H2 fun r hr=>h2 r (YG _ hr),hl2,Option.bind_some];rw[Vf hc]
    ·cases h
   ·cases h
  ·cases h
 ·cases h
def Im (wf:gV H){s:ZI}(hb:c.callee=.builtin .clear)(hats:c.argTypes.toList=[t])(hargs:c.args.toList.map (au G ρ)=[s])
  (h:js P H t s=some (v,H')):Local P G ρ H (.call c) v H' (cC P G ρ H.A (.call c)):=by
 have hfp:cC P G ρ H.A (.call c)=⟨aS s,aS s⟩:=by
  simp only[cC,hb,hats,hargs,kR]
 have hop:∀H2:ZH,aq P G ρ H2 H.A (.call c)=js P H2 t s:=fun H2=>by
  simp only[aq,hb,hats,hargs,gT]
 rw[hfp];unfold js at h;split at h
 ·rename_i e he;split at h
  ·simp only[Option.some.injEq,Prod.mk.injEq]at h;obtain⟨rfl,rfl⟩:=h;refine dH (fun r hr=>by cases hr) fun H2 h2=>?_;rw[hop];simp only[js,he]
  ·rename_i id' gen off len sz;simp only[Vi]at h;obtain⟨ec,hl,h⟩:=h;have hlt:∀r,r∈aS (.U id' gen off len sz)->r<H.A:=gW (kS wf hl);have hl2:∀H2:ZH,(∀r,r∈aS (.U id' gen off len sz)->H2.get r=H.get r)->H2.na id' gen=some ec:=fun H2 h2=>by
    rw[kT (h2 id' (by simp[aS]))];exact hl
   split at h
   ·rename_i h0;simp only[Option.some.injEq,Prod.mk.injEq]at h;obtain⟨rfl,rfl⟩:=h;refine dH hlt fun H2 h2=>?_;rw[hop];simp only[js,he,hl2 H2 h2,Option.bind_some];rw[Vf h0]
   ·rename_i h0;simp only[Vi]at h;obtain⟨z,hz,h⟩:=h;split at h
    ·rename_i hc;simp only[Option.some.injEq,Prod.mk.injEq]at h;obtain⟨rfl,rfl⟩:=h;refine oa (by simp[aS]) (by simp[aS]) hlt fun H2 h2=>?_;rw[hop];simp only[js,he,hl2 H2 h2,hz,Option.bind_some];rw[Ve h0,Vf hc]
    ·cases h
  ·cases h
 ·cases h
def BP (wf:gV H){m k x:Operand}(h:mE P H t (au G ρ m) (au G ρ k) (au G ρ x)=some (v,H'))(hfp:cC P G ρ H.A o=⟨fm (au G ρ m),fm (au G ρ m)⟩)
  (hop:∀H2:ZH,aq P G ρ H2 H.A o=mE P H2 t (au G ρ m) (au G ρ k) (au G ρ x)):Local P G ρ H o v H' (cC P G ρ H.A o):=by
 rw[hfp];unfold mE at h;split at h
 ·rename_i hm;split at h
  ·rename_i id k' u hx hk hu;split at h
   ·rename_i es hg;simp only[Option.some.injEq,Prod.mk.injEq]at h;obtain⟨rfl,rfl⟩:=h;refine oa (by rw[hx];simp[fm]) (by rw[hx];simp[fm]) (by rw[hx];exact gW (wf _ _ hg)) fun H2 h2=>?_;have hg2:H2.get id=some (.mp es):=(by rw[h2 id (by rw[hx];simp[fm])];exact hg);rw[hop];simp only[mE,hm,if_true,hx,hk,hu,hg2]
   ·cases h
  ·cases h
 ·cases h
def Io (wf:gV H){s d:TypeId}(h:lW P H s d x=some v):(∀r,r∈aS x->r<H.A)/\∀H2:ZH,(∀r,r∈aS x->H2.get r=H.get r)->lW P H2 s d x=some v:=by
 have bytes:∀y:ZI,nS P H s d y=some v->(∀r,r∈aS y->r<H.A)/\∀H2:ZH,(∀r,r∈aS y->H2.get r=H.get r)->nS P H2 s d y=some v:=by
  intro y h;unfold nS at h;split at h
  ·rename_i hsb;simp only[Vi]at h;obtain⟨nl,hs,h⟩:=h;obtain⟨h1,h2⟩:=yj wf hs;refine⟨h1,fun H2 ha=>?_⟩;unfold nS;rw[Vf hsb,h2 H2 ha];exact h
  ·cases h
 unfold lW at h;split at h
 ·exact bytes _ h
 ·exact bytes _ h
 ·rename_i hne1 hne2;refine⟨fun r hr=>?_,fun H2 _=>?_⟩
  ·unfold lV at h;split at h
   ·rename_i a ha;cases x<;>simp_all[aS,ZI.cX]
   ·cases h
  ·unfold lW;split
   ·exact absurd rfl (hne1 _ _ _ _ _)
   ·exact absurd rfl (hne2 _ _)
   ·exact h
def BQ (wf:gV H)(h:aq P G ρ H H.A o=some (v,H')):Local P G ρ H o v H' (cC P G ρ H.A o):=by
 cases o with
 |makeMap t r =>
  simp only[aq]at h;split at h
  ·simp only[Vc,Prod.mk.injEq]at h;obtain⟨H3,hl,rfl,rfl⟩:=h;refine qG hl (by simp[cC]) da fun H2 _ H2' hl2=>?_;simp only[aq,hl2,Option.map_some]
  ·cases h
 |lookup t x i ok =>
  simp only[aq,Vc,Prod.mk.injEq]at h;obtain⟨v',hv,rfl,rfl⟩:=h;have hfp:cC P G ρ H.A (.lookup t x i ok)=⟨[],fm (au G ρ x)⟩:=rfl;rw[hfp];unfold qt at hv;split at hv
  ·rename_i hm;split at hv
   ·rename_i hx hi;refine dH (by rw[hx];exact da) fun H2 _=>?_;simp only[aq,qt,hm,if_true,hx,hi];simp only[Option.some.injEq]at hv;simp[hv]
   ·rename_i id k hx hi;split at hv
    ·rename_i es hg;refine dH (by rw[hx];exact gW (wf _ _ hg)) fun H2 h2=>?_;have hg2:H2.get id=some (.mp es):=(by rw[h2 id (by rw[hx];simp[fm])];exact hg);simp only[aq,qt,hm,if_true,hx,hi,hg2];simp only[Option.some.injEq]at hv;simp[hv]
    ·cases hv
   ·cases hv
  ·cases hv
 |mapUpdate t m k x=>exact BP wf (by simp only[aq]at h;exact h) (by rfl) fun H2=>rfl
 |insert t m k x=>exact BP wf (by simp only[aq]at h;exact h) (by rfl) fun H2=>rfl
 |mapEntry t m k =>
  simp only[aq]at h;have hfp:cC P G ρ H.A (.mapEntry t m k)=⟨fm (au G ρ m),fm (au G ρ m)⟩:=rfl;rw[hfp];unfold oY at h;split at h
  ·rename_i hm;split at h
   ·rename_i id k' hx hk;split at h
    ·rename_i es hg;have hg2:∀H2:ZH,(∀r,r∈fm (au G ρ m)->H2.get r=H.get r)->H2.get id=some (.mp es):=fun H2 h2=>by rw[h2 id (by rw[hx];simp[fm])];exact hg
     split at h
     ·rename_i n u hf;simp only[Option.some.injEq,Prod.mk.injEq]at h;obtain⟨rfl,rfl⟩:=h;refine oa (by rw[hx];simp[fm]) (by rw[hx];simp[fm]) (by rw[hx];exact gW (wf _ _ hg)) fun H2 h2=>?_;simp only[aq,oY,hm,if_true,hx,hk,hg2 H2 h2,hf]
     ·rename_i hf;simp only[Option.some.injEq,Prod.mk.injEq]at h;obtain⟨rfl,rfl⟩:=h;refine oa (by rw[hx];simp[fm]) (by rw[hx];simp[fm]) (by rw[hx];exact gW (wf _ _ hg)) fun H2 h2=>?_;simp only[aq,oY,hm,if_true,hx,hk,hg2 H2 h2,hf]
    ·cases h
   ·cases h
  ·cases h
 |entryStore t m s x =>
  simp only[aq]at h;have hfp:cC P G ρ H.A (.entryStore t m s x)=⟨fm (au G ρ m),fm (au G ρ m)⟩:=rfl;rw[hfp];unfold qu at h;split at h
  ·rename_i id s' u hx hs hu;split at h
   ·rename_i es hg;split at h
    ·rename_i hlt;simp only[Option.some.injEq,Prod.mk.injEq]at h;obtain⟨rfl,rfl⟩:=h;refine oa (by rw[hx];simp[fm]) (by rw[hx];simp[fm]) (by rw[hx];exact gW (wf _ _ hg)) fun H2 h2=>?_;have hg2:H2.get id=some (.mp es):=(by rw[h2 id (by rw[hx];simp[fm])];exact hg);simp only[aq,qu,hx,hs,hu,hg2];rw[Vf hlt]
    ·cases h
   ·cases h
  ·cases h
 |alloc e =>
  simp only[aq,Vi,Vc,Prod.mk.injEq]at h;obtain⟨z,hz,H3,hl,rfl,rfl⟩:=h;refine qG hl (by simp[cC]) da fun H2 _ H2' hl2=>?_;simp only[aq,hz,hl2,Option.bind_some,Option.map_some]
 |box e x =>
  simp only[aq,Vc,Prod.mk.injEq]at h;obtain⟨H3,hl,rfl,rfl⟩:=h;refine qG hl (by simp[cC]) da fun H2 _ H2' hl2=>?_;simp only[aq,hl2,Option.map_some]
 |buildSlice t len parts =>
  simp only[aq,nP]at h;split at h
  ·rename_i e he;split at h
   ·rename_i hc;simp only[Vi,Vc,Prod.mk.injEq]at h;obtain⟨z,hz,cells,hcl,H3,hl,rfl,rfl⟩:=h;refine qG hl (by simp[cC]) da fun H2 _ H2' hl2=>?_;simp only[aq,nP,he];rw[Vf hc];simp only[hz,hcl,hl2,Option.bind_some,Option.map_some]
   ·cases h
  ·cases h
 |makeSlice t l c =>
  simp only[aq,mF]at h;split at h
  ·rename_i e k l' k' c' he hl' hc';split at h
   ·rename_i hc;simp only[Vi,Vc,Prod.mk.injEq]at h;obtain⟨cells,hz,H3,hl,rfl,rfl⟩:=h;refine qG hl (by simp[cC]) da fun H2 _ H2' hl2=>?_;simp only[aq,mF,he,hl',hc'];rw[Vf hc];simp only[hz,hl2,Option.bind_some,Option.map_some]
   ·cases h
  ·cases h
 |store t a x =>
  simp only[aq]at h;split at h
  ·rename_i hu;simp only[Vc,Prod.mk.injEq]at h;obtain⟨H3,hst,rfl,rfl⟩:=h;obtain⟨id,gen,off,g,e,cells,ha,hg,cells',rfl,hall⟩:=Ig hst;have hfp:cC P G ρ H.A (.store t a x)=⟨[id],[id]⟩:=(by simp only[cC,ha,aS]);rw[hfp];refine oa ZD ZD (gW (wf _ _ hg)) fun H2 h2=>?_;simp only[aq,hu,if_true,hall H2 (h2 id ZD),Option.map_some]
  ·cases h
 |load t p =>
  simp only[aq,Vc,Prod.mk.injEq]at h;obtain⟨v',hv,rfl,rfl⟩:=h;refine dH (If wf hv) fun H2 h2=>?_;simp only[aq,Ie h2,hv,Option.map_some]
 |nilCheck p =>
  simp only[aq,Vc,Prod.mk.injEq]at h;obtain⟨v',hv,rfl,rfl⟩:=h;have hv0:=hv;unfold lX at hv;split at hv
  ·rename_i id gen off hp;simp only[Vc]at hv;obtain⟨ec,hl,hv⟩:=hv;have hfp:cC P G ρ H.A (.nilCheck p)=⟨[],[id]⟩:=(by simp only[cC,hp,aS]);rw[hfp];refine dH (gW (kS wf hl)) fun H2 h2=>?_;subst hv;simp only[aq,hp,lX,kT (h2 id ZD),hl,Option.map_some]
  ·rename_i hp;have hfp:cC P G ρ H.A (.nilCheck p)=⟨[],[]⟩:=(by simp only[cC,hp,aS]);rw[hfp];refine dH da fun H2 _=>?_;simp only[aq,hp,lX,Option.map_some,Option.some.injEq]at hv ⊢;rw[hv]
  ·rename_i hp;have hfp:cC P G ρ H.A (.nilCheck p)=⟨[],[]⟩:=(by simp only[cC,hp,aS]);rw[hfp];refine dH da fun H2 _=>?_;simp only[aq,hp,lX,Option.map_some,Option.some.injEq]at hv ⊢;rw[hv]
  ·cases hv
 |slice t x lo hi mx =>
  simp only[aq]at h;split at h
  ·simp only[Vc,Prod.mk.injEq]at h;obtain⟨v',hv,rfl,rfl⟩:=h;obtain⟨h1,h2⟩:=Ii wf hv;refine dH h1 fun H2 h3=>?_;simp only[aq,h2 H2 h3,Option.map_some]
  ·cases h
 |indexAddr t x i =>
  simp only[aq]at h;split at h
  ·rename_i k i' hi;simp only[Vc,Prod.mk.injEq]at h;obtain⟨v',hv,rfl,rfl⟩:=h;obtain⟨h1,h2⟩:=Ih wf hv;refine dH h1 fun H2 h3=>?_;simp only[aq,hi,h2 H2 h3,Option.map_some]
  ·cases h
 |fieldAddr s x f =>
  simp only[aq,Vi]at h;obtain⟨of,hof,h⟩:=h;split at h
  ·rename_i id gen off hx;simp only[Vc,Prod.mk.injEq]at h;obtain⟨ec,hl,rfl,rfl⟩:=h;have hfp:cC P G ρ H.A (.fieldAddr s x f)=⟨[],[id]⟩:=(by simp only[cC,hx,aS]);rw[hfp];refine dH (gW (kS wf hl)) fun H2 h2=>?_;simp only[aq,hof,Option.bind_some,hx,kT (h2 id ZD),hl,Option.map_some]
  ·rename_i cells off hx;simp only[Option.some.injEq,Prod.mk.injEq]at h;obtain⟨rfl,rfl⟩:=h;have hfp:cC P G ρ H.A (.fieldAddr s x f)=⟨[],[]⟩:=(by simp only[cC,hx,aS]);rw[hfp];refine dH da fun H2 _=>?_;simp only[aq,hof,Option.bind_some,hx]
  ·cases h
 |call c =>
  have h0:=h;simp only[aq]at h;split at h
  ·rename_i b hb;unfold gT at h;split at h
   ·rename_i t x hats hargs;simp only[Vc,Prod.mk.injEq]at h;obtain⟨v',hv,rfl,rfl⟩:=h;obtain⟨h1,h2⟩:=Ij wf hv;have hfp:cC P G ρ H.A (.call c)=⟨[],mM P t x⟩:=(by simp only[cC,hb,hats,hargs,kR]);rw[hfp];refine dH h1 fun H2 h3=>?_;simp only[aq,hb,hats,hargs,gT,h2 H2 h3,Option.map_some]
   ·rename_i hats hargs;exact Ik wf hb hats hargs h
   ·rename_i hats hargs;exact Il wf hb hats hargs h
   ·rename_i hats hargs;exact Im wf hb hats hargs h
   ·rename_i hats;simp only[Vi,Vc,Prod.mk.injEq]at h;obtain⟨vs,h1,v',h2,rfl,rfl⟩:=h;have hfp:cC P G ρ H.A (.call c)=⟨[],[]⟩:=(by simp only[cC,hb,kR]);rw[hfp];refine dH da fun H2 _=>?_;simp only[aq,hb,gT,h1,h2,Option.bind_some,Option.map_some]
   ·rename_i hats;simp only[Vi,Vc,Prod.mk.injEq]at h;obtain⟨vs,h1,v',h2,rfl,rfl⟩:=h;have hfp:cC P G ρ H.A (.call c)=⟨[],[]⟩:=(by simp only[cC,hb,kR]);rw[hfp];refine dH da fun H2 _=>?_;simp only[aq,hb,gT,h1,h2,Option.bind_some,Option.map_some]
   ·cases h
  ·cases h
 |pick c a b =>
  simp only[aq]at h;split at h
  ·rename_i t ht;simp only[Option.some.injEq,Prod.mk.injEq]at h;obtain⟨rfl,rfl⟩:=h;refine dH da fun H2 _=>?_;simp only[aq,ht]
  ·cases h
 |makeFunc fn f c =>
  simp only[aq]at h;split at h
  ·simp only[Option.some.injEq,Prod.mk.injEq]at h;obtain⟨rfl,rfl⟩:=h;exact dH da fun H2 _=>by simp only[aq]
  ·cases h
 |makeInterface t x =>
  simp only[aq]at h;split at h
  ·rename_i y hy;simp only[Vc,Prod.mk.injEq]at h;obtain⟨v',hv,rfl,rfl⟩:=h;refine dH da fun H2 _=>?_;simp only[aq,hy,hv,Option.map_some]
  ·cases h
 |field s x f =>
  simp only[aq,Vi]at h;obtain⟨of,hof,h⟩:=h;split at h
  ·rename_i hx;simp only[Vc,Prod.mk.injEq]at h;obtain⟨v',hv,rfl,rfl⟩:=h;refine dH da fun H2 _=>?_;simp only[aq,hof,Option.bind_some,hx,hv,Option.map_some]
  ·rename_i hx;simp only[Vc,Prod.mk.injEq]at h;obtain⟨v',hv,rfl,rfl⟩:=h;refine dH da fun H2 _=>?_;simp only[aq,hof,Option.bind_some,hx,hv,Option.map_some]
  ·cases h
 |move x=>simp only[aq,Option.some.injEq,Prod.mk.injEq]at h;obtain⟨rfl,rfl⟩:=h;exact dH da fun H2 _=>by simp only[aq]
 |assign x=>simp only[aq,Option.some.injEq,Prod.mk.injEq]at h;obtain⟨rfl,rfl⟩:=h;exact dH da fun H2 _=>by simp only[aq]
 |build t p=>simp only[aq,Vc,Prod.mk.injEq]at h;obtain⟨v',hv,rfl,rfl⟩:=h;exact dH da fun H2 _=>by simp only[aq,hv,Option.map_some]
 |binOp a b c d e=>simp only[aq,Vc,Prod.mk.injEq]at h;obtain⟨v',hv,rfl,rfl⟩:=h;exact dH da fun H2 _=>by simp only[aq,hv,Option.map_some]
 |unOp a b c=>simp only[aq,Vc,Prod.mk.injEq]at h;obtain⟨v',hv,rfl,rfl⟩:=h;exact dH da fun H2 _=>by simp only[aq,hv,Option.map_some]
 |convert a b c =>
  simp only[aq,Vc,Prod.mk.injEq]at h;obtain⟨v',hv,rfl,rfl⟩:=h;obtain⟨h1,h2⟩:=Io wf hv;refine dH h1 fun H2 ha=>?_;simp only[aq,h2 H2 ha,Option.map_some]
 |index a b c=>simp only[aq,Vc,Prod.mk.injEq]at h;obtain⟨v',hv,rfl,rfl⟩:=h;exact dH da fun H2 _=>by simp only[aq,hv,Option.map_some]
 |extract a b=>simp only[aq,Vc,Prod.mk.injEq]at h;obtain⟨v',hv,rfl,rfl⟩:=h;exact dH da fun H2 _=>by simp only[aq,hv,Option.map_some]
 |_=>simp[aq]at h
def BR {ρ':Env}(h:∀x,x∈o.operands->au G ρ x=au G ρ' x):aq P G ρ H id o=aq P G ρ' H id o:=by
 have hparts:∀(ps:Array (Nat × Operand)),(∀x,x∈(ps.toList.map (·.2)).toArray->au G ρ x=au G ρ' x)->ps.toList.map (fun p=>(p.1,au G ρ p.2))=ps.toList.map (fun p=>(p.1,au G ρ' p.2)):=by
  intro ps hp;refine VF fun p hpm=>?_;rw[hp p.2 (by simpa using ⟨p.1,by simpa using hpm⟩)]
 have hlist:∀(ps:Array Operand),(∀x,x∈ps->au G ρ x=au G ρ' x)->ps.toList.map (au G ρ)=ps.toList.map (au G ρ'):=by
  intro ps hp;exact VF fun p hpm=>hp p (by simpa using hpm)
 cases o with
 |build t ps=>simp only[aq];rw[hparts ps h]
 |buildSlice t len ps=>simp only[aq];rw[hparts ps h]
 |makeFunc fn f c =>
  simp only[aq];rw[hlist f fun x hx=>h x (by simp[Op.operands,hx]),hlist c fun x hx=>h x (by simp[Op.operands,hx])]
 |slice t x lo hi mx =>
  have hx:=h x (by simp[Op.operands]);have hlo:lo.map (au G ρ)=lo.map (au G ρ'):=by
   cases lo with
   |none=>rfl
   |some l=>simp only[Option.map_some];rw[h l (by simp[Op.operands])]
  have hhi:hi.map (au G ρ)=hi.map (au G ρ'):=by
   cases hi with
   |none=>rfl
   |some l=>simp only[Option.map_some];rw[h l (by simp[Op.operands])]
  simp only[aq,hx,hlo,hhi]
 |call c =>
  simp only[aq];rw[hlist c.args fun x hx=>h x (by
   simp only[Op.operands,Call.operands];split<;>simp[hx])]
 |pick c a b=>simp only[aq,h c (by simp[Op.operands]),h a (by simp[Op.operands]),h b (by simp[Op.operands])]
 |store t a x=>simp only[aq,h a (by simp[Op.operands]),h x (by simp[Op.operands])]
 |binOp op t x y u=>simp only[aq,h x (by simp[Op.operands]),h y (by simp[Op.operands])]
 |makeSlice t l c=>simp only[aq,h l (by simp[Op.operands]),h c (by simp[Op.operands])]
 |indexAddr t x i=>simp only[aq,h x (by simp[Op.operands]),h i (by simp[Op.operands])]
 |index t x i=>simp only[aq,h x (by simp[Op.operands]),h i (by simp[Op.operands])]
 |move x=>simp only[aq,h x (by simp[Op.operands])]
 |assign x=>simp only[aq,h x (by simp[Op.operands])]
 |box e x=>simp only[aq,h x (by simp[Op.operands])]
 |load e x=>simp only[aq,h x (by simp[Op.operands])]
 |nilCheck x=>simp only[aq,h x (by simp[Op.operands])]
 |unOp a b x=>simp only[aq,h x (by simp[Op.operands])]
 |convert a b x=>simp only[aq,h x (by simp[Op.operands])]
 |makeInterface t x=>simp only[aq,h x (by simp[Op.operands])]
 |fieldAddr s x f=>simp only[aq,h x (by simp[Op.operands])]
 |field s x f=>simp only[aq,h x (by simp[Op.operands])]
 |extract x i=>simp only[aq,h x (by simp[Op.operands])]
 |lookup t x i ok=>simp only[aq,h x (by simp[Op.operands]),h i (by simp[Op.operands])]
 |mapUpdate t m k x=>simp only[aq,h m (by simp[Op.operands]),h k (by simp[Op.operands]),h x (by simp[Op.operands])]
 |insert t m k x=>simp only[aq,h m (by simp[Op.operands]),h k (by simp[Op.operands]),h x (by simp[Op.operands])]
 |mapEntry t m k=>simp only[aq,h m (by simp[Op.operands]),h k (by simp[Op.operands])]
 |entryStore t m s x=>simp only[aq,h m (by simp[Op.operands]),h s (by simp[Op.operands]),h x (by simp[Op.operands])]
 |_=>rfl
end Go.Hx
namespace Go.Hx
variable {P:Program} {G:Nat->Option (List ZI)} {Γ Γ':aE} {H H':ZH} {w w':World}
variable {ρ:Env}{r:Nat}{g:Nat->Option ZO}{e:Option (Nat × ZO)}{x:Option Tmp}{t:Tmp}{v:ZI}
def bD (P:Program)(G:Nat->Option (List ZI))(fv:ZI)(args:List ZI)(H:ZH)(v:ZI)(rs:List Nat):Prop :=
 (∀r,r∈rs->r<H.A)/\∀H2:ZH,(∀r,r∈rs->H2.get r=H.get r)->H.A<=H2.A->ao P G fv args H2 fun r H3=>r=.ret v/\H3=H2
def bF (P:Program)(G:Nat->Option (List ZI))(o:Oper)(K:FP->St->Prop)(s:St):Prop :=
 match o.op with
 |.call { callee:=.value fv,args,.. }=>∃v rs,bD P G (au G s.ρ fv) (args.toList.map (au G s.ρ)) s.H v rs/\K ⟨[],rs⟩ ⟨aJ s.ρ o.dst v,s.H⟩
 |op=>bj (aq P G s.ρ s.H s.H.A op) fun vH=>K (cC P G s.ρ s.H.A op) ⟨aJ s.ρ o.dst vH.1,vH.2⟩
def fP (i:Nat)(f:FP)(acc:List (Nat × FP)):List (Nat × FP) :=
 match f with
 |⟨[],[]⟩=>acc
 |f=>(i,f) :: acc
def ju (b:Nat)(f:FP)(acc:List (Nat × FP)):Prop :=
 ∀p,p∈acc->b.testBit p.1=false->(∀r,r∈f.nD->r ∉ p.2.rs)/\(∀r,r∈p.2.nD->r ∉ f.rs)
def dY (P:Program)(G:Nat->Option (List ZI))(all:Array Oper)(tail:St->Prop):List Nat->Nat->List (Nat × FP)->List Oper->St->Prop
 |b :: bs,i,acc,o :: rest,s=>bj (gU all s.ρ o) fun t=>if t=true then bF P G o (fun f s'=>ju b f acc/\dY P G all tail bs (i+1) (fP i f acc) rest s') s
   else dY P G all tail bs (i+1) acc rest ⟨aJ s.ρ o.dst (.lit undef),s.H⟩
 |_,_,_,[],s=>tail s
 | [],_,_,_ :: _,_=>False
def yk (o:Oper):List Nat:=(o.after.toList.filter fun e=>Region.binds .any e).map (·.on)
def uz (x:Option Tmp)(l:List Tmp):Bool:=match x with|some d=>!l.contains d|none=>true
def uA (all:Array Oper)(x y:Oper):Bool :=
 uz x.dst (y.looksAt all) && uz y.dst (x.looksAt all) && (match x.dst with|some d=>y.dst != some d|none=>true)
def eJ (bs:List Nat)(i:Nat):Nat:=(bs[i]?).getD 0
def ym (bs:List Nat)(i:Nat)(o:Oper):Bool :=
 let es:=yk o
 let b:=eJ bs i
 es.all (fun e=>decide (e<i)) && decide (b<2 ^ i) &&
 (List.range i).all (fun j=>!b.testBit j ||es.any fun e=>e == j ||(eJ bs e).testBit j)
def sJ (all:Array Oper)(bs:List Nat)(K:Nat):Bool :=
 decide (bs.length=K) && decide (K<=all.size) &&
 (List.range all.size).all (fun i=>match all[i]? with|some o=>ym (bs++(List.range' K (all.size-K)).map fun m=>2 ^ m-1) i o|none=>false) &&
 (List.range K).all fun i=>match all[i]? with
  |some o=>(List.range i).all fun j=>(eJ bs i).testBit j ||(match all[j]? with|some o'=>uA all o' o|none=>false)
  |none=>false
structure Dt where
 v:ZI
 e:Option (Nat × ZO)
 al:Bool
 f:FP
def gX (all:Array Oper)(i:Nat):Option Tmp:=(all[i]?).bind (·.dst)
def bq (all:Array Oper)(d:Nat->Dt)(ρ0:Env):Nat->(Nat->Bool)->Env
 |0,_=>ρ0
 |n+1,D=>if D n then aJ (bq all d ρ0 n D) (gX all n) (d n).v else bq all d ρ0 n D
def aW (d:Nat->Dt)(g0:Nat->Option ZO):Nat->(Nat->Bool)->Nat->Option ZO
 |0,_=>g0
 |n+1,D=>if D n then fq (d n).e (aW d g0 n D) else aW d g0 n D
def aO (d:Nat->Dt):Nat->Nat
 |0=>0
 |n+1=>aO d n+(if (d n).al then 1 else 0)
def dZ (x:Dt):Option Nat:=x.e.map (·.1)
def qH (h:e.map (·.1)≠some r):fq e g r=g r:=by
 cases e with
 |none=>rfl
 |some kb =>
  simp only[fq];rw[Ve];rintro rfl;exact h rfl
def qI (h:x≠some t):aJ ρ x v t=ρ t:=by
 cases x with
 |none=>rfl
 |some d =>
  simp only[aJ];rw[Ve];rintro rfl;exact h rfl
def uB {ρ':Env}(h:ρ t=ρ' t):aJ ρ x v t=aJ ρ' x v t:=by
 cases x with
 |none=>exact h
 |some d=>simp only[aJ,h]
def uC {g':Nat->Option ZO}(h:g r=g' r):fq e g r=fq e g' r:=by
 cases e with
 |none=>exact h
 |some kb=>simp only[fq,h]
def BS {y:Option Tmp}{u:ZI}(h:∀d,x=some d->y≠some d):aJ (aJ ρ x v) y u=aJ (aJ ρ y u) x v:=by
 funext t
 by_cases hx:x=some t
 ·rw[qI (h t hx)];exact uB (qI (h t hx)).symm
 ·rw[qI (ρ:=aJ ρ y u) hx];exact uB (qI hx)
def Ip {e':Option (Nat × ZO)}(h:∀r,e.map (·.1)=some r->e'.map (·.1)≠some r):fq e' (fq e g)=fq e (fq e' g):=by
 funext r
 by_cases hx:e.map (·.1)=some r
 ·rw[qH (h r hx)];exact uC (qH (h r hx)).symm
 ·rw[qH (g:=fq e' g) hx];exact uC (qH hx)
section
variable {all:Array Oper} {d d':Nat->Dt} {ρ0:Env} {g0 g0':Nat->Option ZO} {D D':Nat->Bool}
def o9 {t:Tmp}:∀ {n:Nat},(∀j,j<n->gX all j=some t->D j=D' j)->bq all d ρ0 n D t=bq all d ρ0 n D' t:=by
 intro n
 induction n with
 |zero=>intro _;rfl
 |succ n ih =>
  intro h;have h0:=ih fun j hj=>h j V;simp only[bq];by_cases hd:gX all n=some t
  ·rw[h n V hd];split
   ·exact uB h0
   ·exact h0
  ·have:∀(b:Bool) (ρ:Env),(if b=true then aJ ρ (gX all n) (d n).v else ρ) t=ρ t:=by
    intro b ρ;split
    ·exact qI hd
    ·rfl
   rw[this,this];exact h0
def xG {m:Nat}:∀ {n:Nat},m<=n->bq all d ρ0 n (fun j=>decide (j<m))=bq all d ρ0 m fun _=>true:=by
 have low:∀k,k<=m->bq all d ρ0 k (fun j=>decide (j<m))=bq all d ρ0 k fun _=>true:=by
  intro k
  induction k with
  |zero=>intro _;rfl
  |succ k ih =>
   intro hk;simp only[bq];rw[ih V,Vf (by simp;omega)];simp
 intro n
 induction n with
 |zero =>
  intro hm;obtain rfl:m=0:=V
  exact low 0 (V)
 |succ n ih =>
  intro hm;by_cases h:m=n+1
  ·subst h;exact low (n+1) (V)
  ·simp only[bq];rw[Ve (by simp;omega)];exact ih (V)
def pe {r:Nat}:∀ {n:Nat},(∀j,j<n->dZ (d j)=some r->D j=D' j)->aW d g0 n D r=aW d g0 n D' r:=by
 intro n
 induction n with
 |zero=>intro _;rfl
 |succ n ih =>
  intro h;have h0:=ih fun j hj=>h j V;simp only[aW];by_cases hd:dZ (d n)=some r
  ·rw[h n V hd];split
   ·exact uC h0
   ·exact h0
  ·have:∀(b:Bool) (g:Nat->Option ZO),(if b=true then fq (d n).e g else g) r=g r:=by
    intro b g;split
    ·exact qH hd
    ·rfl
   rw[this,this];exact h0
def xH {m:Nat}:∀ {n:Nat},m<=n->aW d g0 n (fun j=>decide (j<m))=aW d g0 m fun _=>true:=by
 have low:∀k,k<=m->aW d g0 k (fun j=>decide (j<m))=aW d g0 k fun _=>true:=by
  intro k
  induction k with
  |zero=>intro _;rfl
  |succ k ih =>
   intro hk;simp only[aW];rw[ih V,Vf (by simp;omega)];simp
 intro n
 induction n with
 |zero =>
  intro hm;obtain rfl:m=0:=V
  exact low 0 (V)
 |succ n ih =>
  intro hm;by_cases h:m=n+1
  ·subst h;exact low (n+1) (V)
  ·simp only[aW];rw[Ve (by simp;omega)];exact ih (V)
def sk {r:Nat}:∀ {n:Nat},(g0 r=g0' r\/∃j,j<n/\D j=true/\dZ (d j)=some r)->aW d g0 n D r=aW d g0' n D r:=by
 intro n
 induction n with
 |zero =>
  rintro(h|⟨j,hj,_⟩)
  ·exact h
  ·omega
 |succ n ih =>
  intro h;simp only[aW];by_cases hD:D n=true
  ·rw[Vf hD,Vf hD];by_cases ht:dZ (d n)=some r
   ·cases he:(d n).e with
    |none=>simp[dZ,he]at ht
    |some kb =>
     simp only[dZ,he,Option.map_some,Option.some.injEq]at ht;simp only[fq];rw[Vf ht.symm,Vf ht.symm]
   ·refine uC (ih ?_);rcases h with h|⟨j,hj,h1,h2⟩
    ·exact .inl h
    ·by_cases hjn:j=n
     ·subst hjn;exact absurd h2 ht
     ·exact .inr ⟨j,V,h1,h2⟩
  ·rw[Ve hD,Ve hD];refine ih ?_;rcases h with h|⟨j,hj,h1,h2⟩
   ·exact .inl h
   ·by_cases hjn:j=n
    ·subst hjn;exact absurd h1 hD
    ·exact .inr ⟨j,V,h1,h2⟩
def xI {r:Nat}:∀ {n:Nat},(∀j,j<n->D j=true->dZ (d j)≠some r)->aW d g0 n D r=g0 r:=by
 intro n
 induction n with
 |zero=>intro _;rfl
 |succ n ih =>
  intro h;simp only[aW];split
  ·rename_i hD;rw[qH (h n V hD)];exact ih fun j hj=>h j (V)
  ·exact ih fun j hj=>h j (V)
def bW (D:Nat->Bool)(i:Nat):Nat->Bool:=fun j=>if j=i then true else D j
def xJ {i:Nat}(hD:D i=false):∀ {n:Nat},i<n->(∀j,i<j->j<n->D j=true->∀t,gX all i=some t->gX all j≠some t) ->
  bq all d ρ0 n (bW D i)=aJ (bq all d ρ0 n D) (gX all i) (d i).v:=by
 intro n
 induction n with
 |zero=>intro h;omega
 |succ n ih =>
  intro hi h;by_cases hin:i=n
  ·subst hin;have h0:bq all d ρ0 i (bW D i)=bq all d ρ0 i D:=funext fun t=>o9 fun j hj _=>by simp[bW,Yo hj]
   simp only[bq];rw[Vf (by simp[bW]),Ve (by simp[hD]),h0]
  ·have hw:bW D i n=D n:=(by simp[bW,Ne.symm hin]);have h0:=ih V fun j h1 h2=>h j h1 V;simp only[bq,hw];split
   ·rename_i hDn;rw[h0];exact BS (h n V V hDn)
   ·exact h0
def xK {i:Nat}(hD:D i=false):∀ {n:Nat},i<n->(∀j,i<j->j<n->D j=true->∀t,dZ (d i)=some t->dZ (d j)≠some t) ->
  aW d g0 n (bW D i)=fq (d i).e (aW d g0 n D):=by
 intro n
 induction n with
 |zero=>intro h;omega
 |succ n ih =>
  intro hi h;by_cases hin:i=n
  ·subst hin;have h0:aW d g0 i (bW D i)=aW d g0 i D:=funext fun t=>pe fun j hj _=>by simp[bW,Yo hj]
   simp only[aW];rw[Vf (by simp[bW]),Ve (by simp[hD]),h0]
  ·have hw:bW D i n=D n:=(by simp[bW,Ne.symm hin]);have h0:=ih V fun j h1 h2=>h j h1 V;simp only[aW,hw];split
   ·rename_i hDn;rw[h0];exact Ip (h n V V hDn)
   ·exact h0
def qB {m n:Nat}(h:m<=n):aO d m<=aO d n:=by
 induction n with
 |zero =>
  have:m=0:=V
  subst this;exact Nat.le_refl _
 |succ n ih =>
  by_cases hm:m=n+1
  ·subst hm;exact Nat.le_refl _
  ·exact VO (ih V) (by simp[aO])
def sr {n c:Nat}(h:c<aO d n):∃j,j<n/\(d j).al=true/\aO d j=c:=by
 induction n with
 |zero=>simp[aO]at h
 |succ n ih =>
  by_cases hc:c<aO d n
  ·obtain⟨j,h1,h2⟩:=ih hc;exact⟨j,V,h2⟩
  ·simp only[aO]at h;cases hal:(d n).al with
   |false=>simp[hal]at h;omega
   |true =>
    simp only[hal,if_true]at h;exact⟨n,V,hal,V⟩
def lY {i n:Nat}(h:i<n)(hal:(d i).al=true):aO d i<aO d n:=by
 have:=qB (d:=d) (m:=i+1) (n:=n) h;simp only[aO,hal,if_true]at this;omega
def ss {n:Nat}(h:∀j,j<n->d j=d' j):bq all d ρ0 n D=bq all d' ρ0 n D:=by
 induction n with
 |zero=>rfl
 |succ n ih=>simp only[bq];rw[ih fun j hj=>h j V,h n V]
def su {n:Nat}(h:∀j,j<n->d j=d' j):aW d g0 n D=aW d' g0 n D:=by
 induction n with
 |zero=>rfl
 |succ n ih=>simp only[aW];rw[ih fun j hj=>h j V,h n V]
def fW {n:Nat}(h:∀j,j<n->d j=d' j):aO d n=aO d' n:=by
 induction n with
 |zero=>rfl
 |succ n ih=>simp only[aO];rw[ih fun j hj=>h j V,h n V]
end
def ExecOk (P:Program)(G:Nat->Option (List ZI))(all:Array Oper)(o:Oper)(id:Nat)(s s':St):Prop :=
 (gU all s.ρ o=some false/\s'=⟨aJ s.ρ o.dst (.lit undef),s.H⟩) \/
 (gU all s.ρ o=some true/\∃v,s'.ρ=aJ s.ρ o.dst v /\
  (aq P G s.ρ s.H id o.op=some (v,s'.H) \/
   ∃fv args ats,o.op=.call ⟨.value fv,args,ats⟩/\s'.H=s.H/\ao P G (au G s.ρ fv) (args.toList.map (au G s.ρ)) s.H fun r H3=>r=.ret v/\H3=s.H))
def xL {n:Nat}{wb:nnl}{rd rb:Option Nat}{all:Array Oper}{o:Oper}{id i:Nat}{s s':St}{a:Act}{A:Act->World->Prop}{Q':Exit->Act->World->Prop}(ho:all[i]?=some o)(hd:eP n o=true)
  (hs:ZY P G n wb Γ s a w) (hr:dP Γ s.H rd rb) (h:ExecOk P G all o id s s')
  (hnext:∀ Γ' a' w',ZY P G n wb Γ' s' a' w'->ZS Γ s.H w Γ' s'.H w'->s.H.A<=s'.H.A->dP Γ' s'.H rd rb->(∃cv,a'=a.put o.dst cv)->A a' w'):
  wpOpIn (ea rb) 0 P all Q' i A a w:=by
 have hdst:∀d,o.dst=some d->d<n:=by
  intro d hd';unfold eP at hd;rw[hd']at hd;simpa using hd
 unfold wpOpIn;rw[ho];simp only;rcases h with ⟨hw,rfl⟩|⟨hw,v,hρ,h⟩
 ·rw[po hs hw];simp only[Bool.false_eq_true,if_false];refine⟨fun _ _=>trivial,?_⟩;have hs':=jb (v:=.lit undef) (cv:=undef) hs hdst (ZS.refl Γ s.H w) ZG hs.heap (.lit _);exact hnext Γ _ w hs' (ZS.refl _ _ _) ZG hr ⟨_,rfl⟩
 ·rw[po hs hw];simp only[if_true];obtain⟨ρ',H'⟩:=s';simp only at hρ;subst hρ;refine⟨fun _ _=>trivial,?_⟩;rcases h with hop|⟨fv,args,ats,hop,hH,hap⟩
  ·simp only at hop;rw[Oper.semAt_eq _ _ _ (fun c hc=>by rw[hc]at hop;simp[aq]at hop)];obtain⟨nx,cv,Γ',w',hrun,hnx,E,hn,R,hv⟩:=xZ hs.heap (jt hs) hop;rw[hrun];have hri:=x9 hr (ya hs.heap hop);have hs':=jb hs hdst E hn R hv;have hr':=hr.aZ E hn hs.heap hri;rcases hnx with rfl|⟨rfl,rfl⟩
   ·exact hnext Γ' _ w' hs' E hn hr' ⟨_,rfl⟩
   ·exact hnext Γ' _ w' hs' E hn hr' ⟨_,rfl⟩
  ·simp only at hH;subst hH;rw[Oper.semAt_eq _ _ _ (fun c hc=>by rw[hc]at hop;cases hop)];obtain⟨d,h1,h2⟩:=hap Γ w (a.eval fv) (args.map a.eval) hs.heap (jt hs fv) ⟨ZD,fun i h1 h2=>by simp only[Vt,XQ,Wk];exact jt hs _⟩;have hex:(execOp a.eval o).run P w=(invoke d.target d.args).run P w:=by
    unfold execOp;simp only[hop];unfold resolve;simp only;rw[ar h1]
   have hri:fK s.H rd:=by
    cases rd with
    |none=>trivial
    |some id =>
     obtain⟨b,st,pend,n,env,ps,asg,body,_,_,h3⟩:=hr;exact⟨_,_,_,_,_,_,_,h3⟩
   have cont:∀e w',fL P G Γ s.H w (fun r H3=>r=.ret v/\H3=s.H) e w'->(match e with
     |.returned v=>A (a.put o.dst v) w'
     |.panicked chain=>Q' (.panic chain) a w'
     |.outgrown=>LetsOut Q'):=by
    rintro e w' ⟨r,H',Γ',hend,⟨rfl,rfl⟩,R,E,hn⟩;have hr':=hr.aZ E hn hs.heap hri;cases e with
    |returned cv=>exact hnext Γ' _ w' (jb hs hdst E hn R hend) E hn hr' ⟨_,rfl⟩
    |panicked chain=>exact hend.elim
    |outgrown=>exact hend.elim
   rw[hex];rcases h2 with ⟨f,as,h3,h4⟩|⟨l,f,tm,asg,body,h3,h4⟩|⟨cv,w',h3,h4⟩
   ·rw[h3];refine⟨fun hc=>by simp[Fence.wide]at hc,?_⟩;have h4':CallsIn (ea rb) 0 P f as w _:=h4;refine h4'.mono ?_;intro e w' hp;have:=cont e w' hp;cases e<;>exact this
   ·rw[h3];refine⟨fun hc=>by simp[Fence.wide]at hc,?_⟩;have h4':RoundIn (ea rb) 0 P l f tm asg body w _:=h4;refine h4'.mono ?_;intro e w' hp;have:=cont e w' hp;cases e<;>exact this
   ·rw[h3];exact cont (.returned cv) w' h4
def mG (d:Nat->Dt)(H0:ZH)(m:Nat):ZH:=⟨aW d H0.get m fun _=>true,H0.A+aO d m⟩
def canon (all:Array Oper)(d:Nat->Dt)(s0:St)(m:Nat):St:=⟨bq all d s0.ρ m fun _=>true,mG d s0.H m⟩
structure ZW (P:Program)(G:Nat->Option (List ZI))(all:Array Oper)(bs:List Nat)(s0:St)(d:Nat->Dt)(i:Nat):Prop where
 step:∀o,all[i]?=some o->∀ ρ2 H2,(∀t,t∈o.looksAt all->ρ2 t=(canon all d s0 i).ρ t)->(∀r,r∈(d i).f.rs->H2.get r=(canon all d s0 i).H.get r) ->
  ((d i).al=true->H2.get (s0.H.A+aO d i)=some .nq/\s0.H.A+aO d i≠H2.A)->s0.H.A+aO d i<=H2.A ->
  ExecOk P G all o (s0.H.A+aO d i) ⟨ρ2,H2⟩ ⟨aJ ρ2 o.dst (d i).v,⟨fq (d i).e H2.get,H2.A⟩⟩
 nD:∀k b,(d i).e=some (k,b)->k∈(d i).f.nD/\((d i).al=false->k∈(d i).f.rs)
 al:(d i).al=true->∃b,(d i).e=some (s0.H.A+aO d i,b)
 lt:∀r,r∈(d i).f.rs->r<s0.H.A+aO d i
 apart:∀j,j<i->(eJ bs i).testBit j=false->(∀r,r∈(d i).f.nD->r ∉ (d j).f.rs)/\(∀r,r∈(d j).f.nD->r ∉ (d i).f.rs)
def qJ {all:Array Oper}{o:Oper}{ρ ρ':Env}(h:∀t,t∈o.looksAt all->ρ' t=ρ t):gU all ρ' o=gU all ρ o:=by
 unfold gU;cases hg:o.guard with
 |none=>rfl
 |some gw =>
  obtain⟨j,want⟩:=gw;simp only;cases hd:(all[j]?).bind (·.dst) with
  |none=>rfl
  |some d =>
   simp only;rw[h d (by simp[Oper.looksAt,hg,hd])]
def uD {all:Array Oper}{o:Oper}{ρ ρ':Env}(h:∀t,t∈o.looksAt all->ρ' t=ρ t):∀x,x∈o.op.operands->au G ρ' x=au G ρ x:=by
 intro x hx;cases x with
 |tmp t=>exact h t (Yf _ (List.mem_filterMap.2 ⟨.tmp t,by simpa using hx,rfl⟩))
 |_=>rfl
def cB (d:Nat->Dt)(m:Nat)(x:Dt):Nat->Dt:=fun j=>if j=m then x else d j
def iw {d:Nat->Dt}{m:Nat}{x:Dt}{i:Nat}(h:i<m):d i=cB d m x i:=by simp[cB,Yo h]
def df {d:Nat->Dt}{m:Nat}{x:Dt}:cB d m x m=x:=by simp[cB]
def mH {all:Array Oper}{d d':Nat->Dt}{s0:St}{m:Nat}(h:∀j,j<m->d j=d' j):canon all d s0 m=canon all d' s0 m:=by
 unfold canon mG;rw[ss h,su h,fW h]
def ZW.below {all:Array Oper}{bs:List Nat}{s0:St}{d d':Nat->Dt}{i:Nat}(g:ZW P G all bs s0 d i)(h:∀j,j<=i->d j=d' j):ZW P G all bs s0 d' i:=by
 have hi:=h i ZG;have hn:aO d i=aO d' i:=fW fun j hj=>h j V;have hc:canon all d s0 i=canon all d' s0 i:=mH fun j hj=>h j V;obtain⟨a,b,c,e,f⟩:=g;refine⟨?_,?_,?_,?_,?_⟩
 ·rw[<- hi,<- hn,<- hc];exact a
 ·rw[<- hi];exact b
 ·rw[<- hi,<- hn];exact c
 ·rw[<- hi,<- hn];exact e
 ·intro j hj hb;rw[<- hi,<- h j V];exact f j hj hb
def kO (d:Nat->Dt)(m:Nat)(acc:List (Nat × FP)):Prop:=∀j,j<m->(d j).f=⟨[],[]⟩\/(j,(d j).f)∈acc
def kO.add {d:Nat->Dt}{m:Nat}{acc:List (Nat × FP)}(h:kO d m acc)(x:Dt):kO (cB d m x) (m+1) (fP m x.f acc):=by
 intro j hj;have key:∀p,p∈acc->p∈fP m x.f acc:=by
  intro p hp;unfold fP;split
  ·exact hp
  ·exact Xj _ hp
 by_cases hjm:j=m
 ·subst hjm;rw[df];by_cases hf:x.f=⟨[],[]⟩
  ·exact .inl hf
  ·refine .inr ?_;unfold fP;split
   ·rename_i h0;exact absurd h0 hf
   ·exact List.mem_cons_self
 ·rw[<- iw (x:=x) V];exact(h j V).imp id (key _)
def sv {d:Nat->Dt}{m:Nat}{acc:List (Nat × FP)}{b:Nat}{f:FP}(hc:kO d m acc)(h:ju b f acc):∀j,j<m->b.testBit j=false->(∀r,r∈f.nD->r ∉ (d j).f.rs)/\(∀r,r∈(d j).f.nD->r ∉ f.rs):=by
 intro j hj hb;rcases hc j hj with h0|h1
 ·rw[h0];exact⟨fun r _ h=>(by cases h),fun r h=>(by cases h)⟩
 ·exact h _ h1 hb
def pf {all:Array Oper}{d:Nat->Dt}{s0:St}{m:Nat}{x:Dt}{o:Oper}(ho:all[m]?=some o):
  canon all (cB d m x) s0 (m+1)=⟨aJ (canon all d s0 m).ρ o.dst x.v,⟨fq x.e (canon all d s0 m).H.get,(canon all d s0 m).H.A+(if x.al then 1 else 0)⟩⟩:=by
 have hb:∀j,j<m->d j=cB d m x j:=fun j hj=>iw hj;unfold canon mG;simp only[bq,aW,aO,if_true,df];rw[<- ss hb,<- su hb,<- fW hb];simp only[gX,ho,Option.bind_some,Xf]
def ph {all:Array Oper}{bs:List Nat}{s0:St}{d:Nat->Dt}{m:Nat}{x:Dt}(hg:∀i,i<m->ZW P G all bs s0 d i)(hx:ZW P G all bs s0 (cB d m x) m):
  ∀i,i<m+1->ZW P G all bs s0 (cB d m x) i:=by
 intro i hi;by_cases him:i=m
 ·subst him;exact hx
 ·exact(hg i V).below fun j hj=>iw (V)
def trace {all:Array Oper}{bs:List Nat}{s0:St}{tail:St->Prop}{K:Nat}(hbs:bs.length=K)(hK:K<=all.size):∀(k m:Nat) (d:Nat->Dt) (acc:List (Nat × FP)),k+m=K ->
  (∀i,i<m->ZW P G all bs s0 d i)->kO d m acc->gV (canon all d s0 m).H->dY P G all tail (bs.drop m) m acc ((all.toList.take K).drop m) (canon all d s0 m) ->
  ∃d',(∀i,i<K->ZW P G all bs s0 d' i)/\tail (canon all d' s0 K):=by
 intro k
 induction k with
 |zero =>
  intro m d acc hm hg hc wf h;obtain rfl:m=K:=V
  refine⟨d,hg,?_⟩;have:(all.toList.take m).drop m=[]:=by
   apply YC;simp only[Vr];omega
  rw[this]at h;cases hb:bs.drop m with
  |nil=>rw[hb]at h;simpa only[dY] using h
  |cons b bs'=>rw[hb]at h;simpa only[dY] using h
 |succ k ih =>
  intro m d acc hm hg hc wf h;have hmK:m<K:=V
  have hms:m<all.size:=V
  have ho:all[m]?=some all[m]:=Vo hms;have hbm:bs.drop m=eJ bs m :: bs.drop (m+1):=by
   rw[V9 V];congr 1;simp[eJ,Vd (show m<bs.length by omega)]
  have hom:(all.toList.take K).drop m=all[m] :: (all.toList.take K).drop (m+1):=by
   rw[V9 (by simp only[Vr,Xa];omega)];congr 1;simp
  rw[hbm,hom]at h;simp only[dY]at h;obtain⟨t,ht,h⟩:=h;have hnext:(canon all d s0 m).H.A=s0.H.A+aO d m:=rfl;cases t with
  |false =>
   simp only[Bool.false_eq_true,if_false]at h
   let x:Dt:=⟨.lit undef,none,false,⟨[],[]⟩⟩
   have hb:∀j,j<m->d j=cB d m x j:=fun j hj=>iw hj;have hcan:canon all (cB d m x) s0 (m+1)=⟨aJ (canon all d s0 m).ρ all[m].dst (.lit undef),(canon all d s0 m).H⟩:=pf ho;have hgx:ZW P G all bs s0 (cB d m x) m:=by
    refine⟨?_,?_,?_,?_,?_⟩
    ·rw[df,<- mH hb];intro o ho' ρ2 H2 h1 h2 h3 _;rw[ho]at ho';cases ho';refine .inl ⟨?_,rfl⟩;simp only;rw[qJ h1,ht]
    ·rw[df];intro k b he;cases he
    ·rw[df];intro he;cases he
    ·rw[df];intro r hr;cases hr
    ·rw[df];intro j hj hbit;exact⟨fun r hr=>(by cases hr),fun r hr hr'=>(by cases hr')⟩
   refine ih (m+1) (cB d m x) acc V (ph hg hgx) (hc.add x) ?_ ?_
   ·rw[hcan];exact wf
   ·rw[hcan];exact h
  |true =>
   simp only[if_true]at h;unfold bF at h;split at h
   ·rename_i fv args ats hop;obtain⟨v,rs,⟨hlt,hcall⟩,hap,h⟩:=h
    let x:Dt:=⟨v,none,false,⟨[],rs⟩⟩
    have hb:∀j,j<m->d j=cB d m x j:=fun j hj=>iw hj;have hcan:canon all (cB d m x) s0 (m+1)=⟨aJ (canon all d s0 m).ρ all[m].dst v,(canon all d s0 m).H⟩:=pf ho;have hgx:ZW P G all bs s0 (cB d m x) m:=by
     refine⟨?_,?_,?_,?_,?_⟩
     ·rw[df,<- mH hb];intro o ho' ρ2 H2 h1 h2 h3 h4;rw[ho]at ho';cases ho';refine .inr ⟨?_,v,rfl,.inr ⟨fv,args,ats,hop,rfl,?_⟩⟩
      ·simp only;rw[qJ h1,ht]
      ·have hev:=uD (G:=G) h1;have e1:au G ρ2 fv=au G (canon all d s0 m).ρ fv:=hev fv (by simp[hop,Op.operands,Call.operands]);have e2:args.toList.map (au G ρ2)=args.toList.map (au G (canon all d s0 m).ρ) :=
        VF fun y hy=>hev y (by simp only[hop,Op.operands,Call.operands];simp;exact .inr (by simpa using hy))
       simp only;rw[e1,e2];exact hcall H2 h2 (by rw[hnext,fW hb];exact h4)
     ·rw[df];intro k b he;cases he
     ·rw[df];intro he;cases he
     ·rw[df,<- fW hb];exact hlt
     ·rw[df];intro j hj hbit;rw[<- iw hj];exact sv hc hap j hj hbit
    refine ih (m+1) (cB d m x) _ V (ph hg hgx) (hc.add x) ?_ ?_
    ·rw[hcan];exact wf
    ·rw[hcan];exact h
   ·obtain⟨⟨v,H'⟩,hop,hap,h⟩:=h;obtain⟨e,al,hget,hnx,heff,hal,hlt,hloc⟩:=BQ wf hop
    let x:Dt:=⟨v,e,al,cC P G (canon all d s0 m).ρ (canon all d s0 m).H.A all[m].op⟩
    have hb:∀j,j<m->d j=cB d m x j:=fun j hj=>iw hj;have hcan:canon all (cB d m x) s0 (m+1)=⟨aJ (canon all d s0 m).ρ all[m].dst v,H'⟩:=by
     rw[pf ho];congr 1;cases H';simp only at hget hnx;simp only[ZH.mk.injEq];refine⟨hget.symm,?_⟩;rw[hnx];simp only[x];cases al<;>simp
    have hgx:ZW P G all bs s0 (cB d m x) m:=by
     refine⟨?_,?_,?_,?_,?_⟩
     ·rw[df,<- mH hb,<- fW hb];intro o ho' ρ2 H2 h1 h2 h3 h4;rw[ho]at ho';cases ho';refine .inr ⟨?_,v,rfl,.inl ?_⟩
      ·simp only;rw[qJ h1,ht]
      ·simp only;rw[BR (ρ':=(canon all d s0 m).ρ) (uD h1)];exact hloc H2 h2 h3
     ·rw[df];exact heff
     ·rw[df,<- fW hb];exact hal
     ·rw[df,<- fW hb];exact hlt
     ·rw[df];intro j hj hbit;rw[<- iw hj];exact sv hc hap j hj hbit
    have wf':gV H':=by
     intro id b hid;rw[hget]at hid;rw[hnx];cases e with
     |none =>
      have:=wf id b hid;split<;>omega
     |some kb =>
      obtain⟨k0,b0⟩:=kb;simp only[fq]at hid;split at hid
      ·rename_i hk;subst hk;cases al with
       |true =>
        obtain⟨b1,hb1⟩:=hal rfl;simp only[Option.some.injEq,Prod.mk.injEq]at hb1;simp only[if_true];omega
       |false =>
        have:=hlt _ ((heff id b0 rfl).2 rfl);simpa using this
      ·have:=wf id b hid;split<;>omega
    refine ih (m+1) (cB d m x) _ V (ph hg hgx) (hc.add x) ?_ ?_
    ·rw[hcan];exact wf'
    ·rw[hcan];exact h
end Go.Hx
namespace Go.Hx
variable {P:Program} {G:Nat->Option (List ZI)} {Γ Γ':aE} {H H':ZH} {w w':World}
variable {bs:List Nat}{K i j:Nat}{D:Nat->Bool}{d:Nat->Dt}{o:Oper}{s0:St}
structure nnd (all:Array Oper)(bs:List Nat)(K:Nat):Prop where
 len:bs.length=K
 le:K<=all.size
 down:∀i o,all[i]?=some o->∀e,e∈o.after->Region.binds .any e=true->e.on<i
 just:∀i o j,all[i]?=some o->(if i<K then (eJ bs i).testBit j=true else j<i)->∃e,e∈o.after/\Region.binds .any e=true/\(e.on=j\/(if e.on<K then (eJ bs e.on).testBit j=true else j<e.on))
 apart:∀i j oi oj,i<K->j<i->all[i]?=some oi->all[j]?=some oj->(eJ bs i).testBit j=false->uA all oj oi=true
def BX {k:Nat}:k∈yk o↔∃e,e∈o.after/\Region.binds .any e=true/\e.on=k:=by
 simp[yk,and_assoc]
def BY {N:Nat}(hl:bs.length=K)(hi:i<N)(hK:K<=N):
  (eJ (bs++(List.range' K (N-K)).map fun m=>2 ^ m-1) i).testBit j=true↔(if i<K then (eJ bs i).testBit j=true else j<i):=by
 unfold eJ;by_cases h:i<K
 ·rw[Vf h,Vv V]
 ·rw[Ve h,VR V,List.getElem?_map,List.getElem?_range' V];simp only[Option.map_some,Option.getD_some,WX,decide_eq_true_eq];have:K+1*(i-bs.length)=i:=V
  rw[this]
def BZ {all:Array Oper}(h:sJ all bs K=true):nnd all bs K:=by
 unfold sJ at h;simp only[VI,decide_eq_true_eq,VG,Vp]at h;obtain⟨⟨⟨hlen,hle⟩,hone⟩,hap⟩:=h;have hlt:∀i o,all[i]?=some o->i<all.size:=fun i o ho=>(Wc.1 ho).1;have hdown:∀i o,all[i]?=some o->∀e,e∈o.after->Region.binds .any e=true->e.on<i:=by
  intro i o ho e he hb;have h1:=hone i (hlt i o ho);rw[ho]at h1;simp only[ym,VI,VG,decide_eq_true_eq]at h1;exact h1.1.1 e.on (BX.2 ⟨e,he,hb,rfl⟩)
 refine⟨hlen,hle,hdown,?_,?_⟩
 ·intro i o j ho hj;have hi:=hlt i o ho;have h1:=hone i hi;rw[ho]at h1;simp only[ym,VI,VG,decide_eq_true_eq,Vp]at h1;obtain⟨⟨_,hb⟩,h2⟩:=h1;have hbit:=(BY (j:=j) hlen hi hle).2 hj;have hji:j<i:=by
   rcases VA j i with h|h
   ·exact h
   ·have:=Wu (Vl hb (Vq V h));rw[hbit]at this;cases this
  have h3:=h2 j hji;rw[hbit]at h3;simp only[Bool.not_true,Bool.false_or,Yd,VM,beq_iff_eq]at h3;obtain⟨k,hk,h4⟩:=h3;obtain⟨e,he,hbe,rfl⟩:=BX.1 hk;refine⟨e,he,hbe,h4.imp id fun h5=>?_⟩;exact(BY (j:=j) hlen (Nat.lt_trans (hdown i o ho e he hbe) hi) hle).1 h5
 ·intro i j oi oj hi hj hoi hoj hbit;have h1:=hap i hi;rw[hoi]at h1;simp only[VG,Vp]at h1;have h2:=h1 j hj;rw[hbit,hoj]at h2;simpa using h2
def B1 {x:Option Tmp}{l:List Tmp}{t:Tmp}(h:uz x l=true)(hx:x=some t):t ∉ l:=by
 subst hx;simpa[uz] using h
def qK {all:Array Oper}{x y:Oper}(h:uA all x y=true):(∀t,x.dst=some t->t ∉ y.looksAt all)/\(∀t,y.dst=some t->t ∉ x.looksAt all)/\(∀t,x.dst=some t->y.dst≠some t):=by
 simp only[uA,VI]at h;obtain⟨⟨h1,h2⟩,h3⟩:=h;refine⟨fun t ht=>B1 h1 ht,fun t ht=>B1 h2 ht,fun t ht=>?_⟩;rw[ht]at h3;simpa using h3
def uI (all:Array Oper)(L:Nat->Bool):Prop:=∀i o,L i=true->all[i]?=some o->∀e,e∈o.after->Region.binds .any e=true->L e.on=true
def nnd.ahead {all:Array Oper}(S:nnd all bs K){L:Nat->Bool}(hL:uI all L):∀i o j,all[i]?=some o->(∀e,e∈o.after->Region.binds .any e=true->L e.on=true) ->
  (if i<K then (eJ bs i).testBit j=true else j<i)->L j=true:=by
 intro i
 induction i using Nat.strongRecOn with
 |_ i ih =>
  intro o j ho hdir hj;obtain⟨e,he,hb,h⟩:=S.just i o j ho hj;have hon:=hdir e he hb;rcases h with rfl|h
  ·exact hon
  ·have hlt:=S.down i o ho e he hb;have hi:=(Wc.1 ho).1;exact ih e.on hlt all[e.on] j (Vo V) (hL e.on _ hon (Vo V)) h
def bO (H:ZH)(k:Nat):ZH:=⟨fun j=>if H.A<=j/\j<H.A+k then some .nq else H.get j,H.A+k⟩
def sM (H:ZH)(k:Nat):ZS Γ H w Γ (bO H k) w where
 os:=rfl
 tape:=rfl
 output:=rfl
 size:=ZG
 ng:=fun _ _ h=>⟨rfl,h⟩
 na:=fun id h1 _ x' hx=>by
  refine⟨x',?_,ZO.le_refl _ _ _⟩;simp only[bO]at hx;rw[Ve V]at hx;exact hx
 nz:=fun _ _=>rfl
 kind:=.refl _
 newb:=.refl _ _
def qL (w:World):ZS Γ H w Γ H { w with drawn:=w.drawn+1 } where
 os:=rfl
 tape:=rfl
 output:=rfl
 size:=ZG
 ng:=fun _ _ h=>⟨rfl,h⟩
 na:=fun _ _ _ x' hx=>⟨x',hx,ZO.le_refl _ _ _⟩
 nz:=fun _ _=>rfl
 kind:=.refl _
 newb:=.refl _ _
def ZQ.move (R:ZQ P G Γ H w)(hheap:w'.heap=w.heap)(E:ZS Γ H w Γ H' w')(hn:H.A<=H'.A)(hget:∀id b,H'.get id=some b->H.get id=some b\/(b=.nq/\H.get id=none/\id<H'.A))(hsame:∀id b,H.get id=some b->H'.get id=some b):ZQ P G Γ H' w' where
 J id g e cells hg:=by
  rcases hget _ _ hg with h|h
  ·have h1:=R.J id g e cells h;cases hΓ:Γ id with
   |none=>rw[hΓ]at h1;exact h1
   |some y =>
    obtain⟨b,base,n⟩:=y;rw[hΓ]at h1;obtain⟨c,a1,a2,a3,a4⟩:=h1;exact⟨c,by rw[hheap];exact a1,a2,a3,fun i hi=>let ⟨cv,b1,b2⟩:=a4 i hi;⟨cv,b1,b2.aZ E hn⟩⟩
  ·cases h.1
 loop id st pend n env ps asg body hg:=by
  rcases hget _ _ hg with h|h
  ·obtain⟨b,rr,a1,a2,a3,a4,a5,a6,a7,a8,a9⟩:=R.loop id st pend n env ps asg body h;exact⟨b,rr,a1,by rw[hheap];exact a2,a3,a4,a5,a6,a7,a8,fun t ht=>(a9 t ht).aZ E hn⟩
  ·cases h.1
 mp id es hg:=by
  rcases hget _ _ hg with h|h
  ·obtain⟨b,a1,a2⟩:=R.mp id es h;exact⟨b,a1,by rw[hheap];exact a2⟩
  ·cases h.1
 nq id hg:=by
  rcases hget _ _ hg with h|h
  ·exact R.nq id h
  ·cases hΓ:Γ id with
   |none=>rfl
   |some x =>
    obtain⟨y,hy⟩:=R.nF id x hΓ;rw[h.2.1]at hy;cases hy
 inj:=R.inj
 nF id x h:=let ⟨y,hy⟩:=R.nF id x h;⟨y,hsame _ _ hy⟩
 lt id b base n h:=by rw[hheap];exact R.lt id b base n h
 A id y h:=by
  rcases hget _ _ h with h|h
  ·exact Vl (R.A id y h) hn
  ·exact h.2.2
 nE g cells h:=(R.nE g cells h).aZ E hn
 gsz:=R.qh E
def B2 (R:ZQ P G Γ H w)(k:Nat):ZQ P G Γ (bO H k) w:=by
 have hnone:∀id,H.A<=id->H.get id=none:=by
  intro id h;cases hg:H.get id with
  |none=>rfl
  |some y=>have:=R.A id y hg;omega
 refine R.move rfl (sM H k) (by simp[bO]) (fun id b hb=>?_) (fun id b hb=>?_)
 ·simp only[bO]at hb;split at hb
  ·rename_i hc;simp only[Option.some.injEq]at hb;exact .inr ⟨hb.symm,hnone id hc.1,hc.2⟩
  ·exact .inl hb
 ·simp only[bO];rw[Ve]
  ·exact hb
  ·have:=R.A id b hb;omega
def ZY.move {n:Nat}{wb:nnl}{s:St}{a:Act}(hs:ZY P G n wb Γ s a w){H':ZH}(E:ZS Γ s.H w Γ H' w')(hn:s.H.A<=H'.A)(R:ZQ P G Γ H' w'):ZY P G n wb Γ ⟨s.ρ,H'⟩ a w' :=
 ⟨hs.size,fun t=>(hs.env t).aZ E hn,R,hs.defers.aZ E,VO hs.low E.size⟩
def dP.move {rd rb:Option Nat}(h:dP Γ H rd rb)(hk:∀id b,H.get id=some b->H'.get id=some b):dP Γ H' rd rb:=by
 cases rd with
 |none=>exact h
 |some id =>
  obtain⟨b,st,pend,n,env,ps,asg,body,h1,h2,h3⟩:=h;exact⟨b,_,_,_,_,_,_,_,h1,h2,hk _ _ h3⟩
def fk (all:Array Oper)(d:Nat->Dt)(s0:St)(K:Nat)(D:Nat->Bool):St :=
 ⟨bq all d s0.ρ K D,⟨aW d (bO s0.H (aO d K)).get K D,s0.H.A+aO d K⟩⟩
def oe {all:Array Oper}(h:all[j]?=some o):gX all j=o.dst:=by simp[gX,h]
def xM {all:Array Oper}(S:nnd all bs K)(hg:∀i,i<K->ZW P G all bs s0 d i)(hi:i<K)(ho:all[i]?=some o)(hDi:D i=false)
  (hdown:∀j,j<i->(eJ bs i).testBit j=true->D j=true) (hup:∀j,i<j->j<K->D j=true->(eJ bs j).testBit i=false):
  ExecOk P G all o (s0.H.A+aO d i) (fk all d s0 K D) (fk all d s0 K (bW D i)):=by
 have hget:∀j,j<K->∃oj,all[j]?=some oj:=fun j hj=>⟨_,Vo (Vl hj S.le)⟩
 have hgi:=hg i hi;have tgtE:∀j r,j<K->dZ (d j)=some r->r∈(d j).f.nD/\(((d j).al=true/\r=s0.H.A+aO d j)\/((d j).al=false/\r∈(d j).f.rs)):=by
  intro j r hj ht;unfold dZ at ht;cases he:(d j).e with
  |none=>rw[he]at ht;cases ht
  |some kb =>
   obtain⟨k,b⟩:=kb;rw[he]at ht;simp only[Option.map_some,Option.some.injEq]at ht;subst ht;obtain⟨h1,h2⟩:=(hg j hj).nD k b he;refine⟨h1,?_⟩;cases hal:(d j).al with
   |true =>
    obtain⟨b',hb'⟩:=(hg j hj).al hal;rw[he]at hb';simp only[Option.some.injEq,Prod.mk.injEq]at hb';exact .inl ⟨rfl,hb'.1⟩
   |false=>exact .inr ⟨rfl,h2 hal⟩
 have rangeK:∀r,r<s0.H.A+aO d i->((bO s0.H (aO d K)).get r=s0.H.get r\/∃j,j<i/\(fun _:Nat=>true) j=true/\dZ (d j)=some r):=by
  intro r hr;by_cases h:s0.H.A<=r
  ·obtain⟨j,h1,h2,h3⟩:=sr (d:=d) (n:=i) (c:=r-s0.H.A) V;obtain⟨b,hb⟩:=(hg j V).al h2;refine .inr ⟨j,h1,rfl,?_⟩;unfold dZ;rw[hb,h3];simp only[Option.map_some,Option.some.injEq];omega
  ·left;simp only[bO];rw[Ve V]
 have henv:∀t,t∈o.looksAt all->bq all d s0.ρ K D t=(canon all d s0 i).ρ t:=by
  intro t ht;show _=bq all d s0.ρ i (fun _=>true) t;rw[<- xG (all:=all) (d:=d) (ρ0:=s0.ρ) (m:=i) (n:=K) V];refine o9 fun j hj hdj=>?_;obtain⟨oj,hoj⟩:=hget j hj;rw[oe hoj]at hdj;rcases WD j i with h|rfl|h
  ·cases hb:(eJ bs i).testBit j with
   |true=>rw[hdown j h hb];simp[h]
   |false=>exact absurd ht ((qK (S.apart i j o oj hi h ho hoj hb)).1 t hdj)
  ·rw[hDi];simp
  ·cases hD:D j with
   |false=>symm;simp;omega
   |true=>exact absurd ht ((qK (S.apart j i oj o hj h hoj ho (hup j h hj hD))).2.1 t hdj)
 have hheap:∀r,r∈(d i).f.rs->aW d (bO s0.H (aO d K)).get K D r=(canon all d s0 i).H.get r:=by
  intro r hr;show _=aW d s0.H.get i (fun _=>true) r;rw[<- sk (g0:=(bO s0.H (aO d K)).get) (rangeK r (hgi.lt r hr)),<- xH (m:=i) (n:=K) V];refine pe fun j hj ht=>?_;obtain⟨he,_⟩:=tgtE j r hj ht;rcases WD j i with h|rfl|h
  ·cases hb:(eJ bs i).testBit j with
   |true=>rw[hdown j h hb];simp[h]
   |false=>exact absurd hr ((hgi.apart j h hb).2 r he)
  ·rw[hDi];simp
  ·cases hD:D j with
   |false=>symm;simp;omega
   |true=>exact absurd hr (((hg j hj).apart i h (hup j h hj hD)).1 r he)
 have hal:(d i).al=true->aW d (bO s0.H (aO d K)).get K D (s0.H.A+aO d i)=some .nq/\s0.H.A+aO d i≠s0.H.A+aO d K:=by
  intro hal;have hlt:=lY hi hal;refine⟨?_,V⟩;obtain⟨b,hb⟩:=hgi.al hal;have heff:=(hgi.nD _ _ hb).1;rw[xI]
  ·simp only[bO];rw[Vf V]
  ·intro j hj hD ht;obtain⟨h1,h2⟩:=tgtE j _ hj ht;rcases WD j i with h|rfl|h
   ·rcases h2 with ⟨h2,h3⟩|⟨h2,h3⟩
    ·have:=lY h h2;omega
    ·have:=(hg j hj).lt _ h3;have:=qB (d:=d) (X7 h);omega
   ·rw[hDi]at hD;cases hD
   ·rcases h2 with ⟨h2,h3⟩|⟨h2,h3⟩
    ·have:=lY h hal;omega
    ·exact absurd h3 (((hg j hj).apart i h (hup j h hj hD)).2 _ heff)
 have:=hgi.step o ho (bq all d s0.ρ K D) ⟨aW d (bO s0.H (aO d K)).get K D,s0.H.A+aO d K⟩ henv hheap hal (by have:=qB (d:=d) (X7 hi);simp only;omega);have e1:bq all d s0.ρ K (bW D i)=aJ (bq all d s0.ρ K D) o.dst (d i).v:=by
  rw[xJ hDi hi,oe ho];intro j h hj hD t hti;obtain⟨oj,hoj⟩:=hget j hj;rw[oe ho]at hti;rw[oe hoj];exact(qK (S.apart j i oj o hj h hoj ho (hup j h hj hD))).2.2 t hti
 have e2:aW d (bO s0.H (aO d K)).get K (bW D i)=fq (d i).e (aW d (bO s0.H (aO d K)).get K D):=by
  refine xK hDi hi fun j h hj hD r hti htj=>?_;obtain⟨a1,a2⟩:=tgtE i r hi hti;obtain⟨b1,b2⟩:=tgtE j r hj htj;obtain⟨c1,c2⟩:=(hg j hj).apart i h (hup j h hj hD);rcases b2 with ⟨b2,b3⟩|⟨b2,b3⟩
  ·rcases a2 with ⟨a2,a3⟩|⟨a2,a3⟩
   ·have:=lY h a2;omega
   ·exact c1 r b1 a3
  ·exact c2 r a1 b3
 unfold fk;rw[e1,e2];exact this
def sy {all:Array Oper}(hg:∀i,i<K->ZW P G all bs s0 d i)(hD:∀j,j<K->D j=true):fk all d s0 K D=canon all d s0 K:=by
 unfold fk canon mG;have e1:bq all d s0.ρ K D=bq all d s0.ρ K fun _=>true:=funext fun t=>o9 fun j hj _=>hD j hj;have e2:aW d (bO s0.H (aO d K)).get K D=aW d s0.H.get K fun _=>true:=by
  funext r
  rw[pe (D':=fun _=>true) fun j hj _=>hD j hj];refine sk ?_;by_cases h:s0.H.A<=r/\r<s0.H.A+aO d K
  ·obtain⟨j,h1,h2,h3⟩:=sr (d:=d) (n:=K) (c:=r-s0.H.A) V;obtain⟨b,hb⟩:=(hg j h1).al h2;refine .inr ⟨j,h1,rfl,?_⟩;unfold dZ;rw[hb,h3];simp only[Option.map_some,Option.some.injEq];omega
  ·left;simp only[bO];rw[Ve h]
 rw[e1,e2]
def xN {all:Array Oper}(hD:∀j,j<K->D j=false):fk all d s0 K D=⟨s0.ρ,bO s0.H (aO d K)⟩:=by
 unfold fk;have e1:∀n,n<=K->bq all d s0.ρ n D=s0.ρ:=by
  intro n
  induction n with
  |zero=>intro _;rfl
  |succ n ih=>intro h;simp only[bq];rw[Ve (by simp[hD n h])];exact ih (V)
 have e2:∀n,n<=K->aW d (bO s0.H (aO d K)).get n D=(bO s0.H (aO d K)).get:=by
  intro n
  induction n with
  |zero=>intro _;rfl
  |succ n ih=>intro h;simp only[aW];rw[Ve (by simp[hD n h])];exact ih (V)
 rw[e1 K ZG,e2 K ZG];rfl
end Go.Hx
namespace Go.Hx
variable {P:Program} {G:Nat->Option (List ZI)} {Γ Γ':aE} {H H':ZH} {w w':World}
variable {listed:Array Bool}{i n:Nat}
def fQ (listed:Array Bool):Nat->Nat
 |0=>0
 |n+1=>fQ listed n+(if listed.getD n true=false then 1 else 0)
def yt (hi:listed.getD i true=false):∀n,fQ (listed.setIfInBounds i true) n+(if i<n then 1 else 0)=fQ listed n:=by
 have hsz:i<listed.size:=by
  rcases VA i listed.size with h|h
  ·exact h
  ·rw[V0,WM h]at hi;cases hi
 intro n
 induction n with
 |zero=>simp[fQ]
 |succ n ih =>
  simp only[fQ];by_cases hin:n=i
  ·subst hin;have:(listed.setIfInBounds n true).getD n true=true:=(by simp[hsz]);have h2:(if n<n then 1 else 0)=0:=Ve (Yg n);have h3:(if n<n+1 then 1 else 0)=1:=Vf (Wg n);rw[h2]at ih;rw[this,h3,hi];simp;omega
  ·rw[getD_set_ne true (Ne.symm hin)];have h4:(if i<n+1 then 1 else 0)=(if i<n then 1 else 0):=by
    by_cases h:i<n
    ·rw[Vf h,Vf (show i<n+1 by omega)]
    ·rw[Ve h,Ve (show ¬i<n+1 by omega)]
   rw[h4];generalize (if i<n then 1 else 0)=x at ih ⊢;omega
def uJ (h:fQ listed n=0):∀j,j<n->listed.getD j true=true:=by
 induction n with
 |zero=>intro j hj;omega
 |succ n ih =>
  simp only[fQ]at h;intro j hj;by_cases hjn:j=n
  ·subst hjn;cases hl:listed.getD j true with
   |true=>rfl
   |false=>rw[hl]at h;simp at h
  ·exact ih V j (V)
def uK :∀m,m<=n->fQ (Array.replicate n false) m=m:=by
 intro m
 induction m with
 |zero=>intro _;rfl
 |succ m ih =>
  intro h;simp only[fQ];rw[ih V,Vf];rw[V0,Xp,Vf V];rfl
def pq (h:i<listed.size)(x y:Bool):listed.getD i x=listed.getD i y:=by
 simp[V0,Vo h]
section
variable {n:Nat} {wb:nnl} {rd rb:Option Nat} {Q:AX->St->Prop} {all:Array Oper} {bs:List Nat} {K:Nat} {id:Nat} {dr:Bool}
def uL (S:nnd all bs K)(hfit:∀o,o∈all.toList->eP n o=true):∀(r m:Nat) (listed:Array Bool) (s:St) (Γ:aE) (a:Act) (w:World),r+m=all.size->K<=m->listed.size=all.size->fQ listed all.size=r ->
  (∀j,j<all.size->(listed.getD j true=true↔j<m))->opsV P G rd Q all (all.toList.drop m) s->ZY P G n wb Γ s a w->dP Γ s.H rd rb ->
  ∀(Q':Exit->Act->World->Prop),(∀e a' w',iy P G n wb rd rb (wr (.region id all dr)) Γ s.H a w Q e a' w'->Q' e a' w')->wpAnyIn (ea rb) 0 P .any all Q' r listed a w:=by
 intro r
 induction r with
 |zero =>
  intro m listed s Γ a w hm hKm hsz hc hl h hs hr Q' hq;have:all.toList.drop m=[]:=YC (by simp;omega);rw[this]at h;refine⟨?_,hq _ _ _ (.here (x:=.normal) trivial h hs hr)⟩;rw[List.eq_nil_iff_forall_not_mem];intro j hj;obtain⟨h1,o,ho,_⟩:=mem_ready.1 hj;have hjs:=(Wc.1 ho).1;rw[(hl j hjs).2 V]at h1;cases h1
 |succ r ih =>
  intro m listed s Γ a w hm hKm hsz hc hl h hs hr Q' hq;have hms:m<all.size:=V
  have ho:all[m]?=some all[m]:=Vo hms;have hmun:listed.getD m true=false:=by
   cases hx:listed.getD m true with
   |false=>rfl
   |true=>have:=(hl m hms).1 hx;omega
  have hready:m∈Region.ready .any all listed:=by
   refine mem_ready.2 ⟨hmun,_,ho,fun e he hb=>?_⟩;have:=S.down m _ ho e he hb;rw[pq V false true];exact(hl e.on V).2 this
  refine⟨fun h0=>(by rw[h0]at hready;cases hready),fun i hi=>?_⟩;obtain⟨hiun,oi,hoi,hall⟩:=mem_ready.1 hi;have his:=(Wc.1 hoi).1;have him:m<=i:=by
   rcases VA i m with h|h
   ·rw[(hl i his).2 h]at hiun;cases hiun
   ·exact h
  have hL:uI all fun j=>listed.getD j false:=by
   intro k ok hk hok e he hb;have hks:=(Wc.1 hok).1;have h1:=S.down k ok hok e he hb;simp only at hk ⊢;rw[pq V false true]at hk ⊢;have:=(hl k hks).1 hk;exact(hl _ V).2 (V)
  have hieq:i=m:=by
   rcases VA m i with h|h
   ·have h1:=S.ahead hL i oi m hoi hall (by rw[Ve V];exact h);rw[pq V false true,hmun]at h1;cases h1
   ·omega
  subst hieq;have hlist:all.toList.drop i=all[i] :: all.toList.drop (i+1):=by
   rw[V9 (by simpa using hms)];simp
  rw[hlist]at h;simp only[opsV]at h;have hl':∀j,j<all.size->((listed.setIfInBounds i true).getD j true=true↔j<i+1):=by
   intro j hj;by_cases hji:j=i
   ·subst hji;simp
   ·rw[getD_set_ne true (Ne.symm hji),hl j hj];omega
  have hc':fQ (listed.setIfInBounds i true) all.size=r:=by
   have:=yt hmun all.size;rw[Vf hms]at this;omega
  have hd:=hfit all[i] ZD;obtain⟨t,ht,h⟩:=h;unfold wpOpIn;rw[ho];simp only;rw[po hs ht];cases t with
  |true =>
   simp only[if_true]at h ⊢;refine yb hd hs hr h ?_ ?_
   ·rintro Γ' s' a' w' hk hs' E hn hr' ⟨cv,rfl⟩;exact ih (i+1) _ s' Γ' _ w' V V (by simpa using hsz) hc' hl' hk hs' hr' Q' fun e a'' w'' hp=>hq _ _ _ (hp.step E hn (nZ hms cv) fun _ h=>h)
   ·rintro Γ' s' a' w' chain hp hc hs' E hn hr' rfl;exact hq _ _ _ ⟨.panic,s',Γ',hc,hp,hs',E,hn,hr',.refl _ _⟩
  |false =>
   simp only[Bool.false_eq_true,if_false]at h ⊢;refine⟨fun _ _=>trivial,?_⟩;have hdst:∀d,all[i].dst=some d->d<n:=by
    intro d hd';unfold eP at hd;rw[hd']at hd;simpa using hd
   have hs':=jb (v:=.lit undef) (cv:=undef) hs hdst (ZS.refl Γ s.H w) ZG hs.heap (.lit _);exact ih (i+1) _ ⟨aJ s.ρ all[i].dst (.lit undef),s.H⟩ Γ _ w V V (by simpa using hsz) hc' hl' h hs' hr Q' fun e a'' w'' hp=>hq _ _ _ (hp.step (ZS.refl _ _ _) ZG (nZ hms _) fun _ h=>h)
def xO (S:nnd all bs K)(hfit:∀o,o∈all.toList->eP n o=true){d:Nat->Dt}{s0:St}(hg:∀i,i<K->ZW P G all bs s0 d i)(htail:opsV P G rd Q all (all.toList.drop K) (canon all d s0 K)):
  ∀(r:Nat) (listed:Array Bool) (D:Nat->Bool) (Γ:aE) (a:Act) (w:World),listed.size=all.size->fQ listed all.size=r->(∀j,j<all.size->listed.getD j true=D j)->(∀j,D j=true->j<K)->uI all D ->
  ZY P G n wb Γ (fk all d s0 K D) a w->dP Γ (fk all d s0 K D).H rd rb ->
  ∀(Q':Exit->Act->World->Prop),(∀e a' w',iy P G n wb rd rb (wr (.region id all dr)) Γ (fk all d s0 K D).H a w Q e a' w'->Q' e a' w')->wpAnyIn (ea rb) 0 P .any all Q' r listed a w:=by
 intro r
 induction r with
 |zero =>
  intro listed D Γ a w hsz hc hl hlow hL hs hr Q' hq;have hall:∀j,j<K->D j=true:=fun j hj=>by rw[<- hl j (Vl hj S.le)];exact uJ hc j (Vl hj S.le)
  have hKs:K=all.size:=by
   rcases VA K all.size with h|h
   ·have h1:=uJ hc K h;rw[hl K h]at h1;have:=hlow K h1;omega
   ·have:=S.le;omega
  rw[sy hg hall]at hs hr hq;exact uL S hfit 0 K listed _ Γ a w V ZG hsz hc (fun j hj=>by rw[hl j hj];exact⟨hlow j,hall j⟩) htail hs hr Q' hq
 |succ r ih =>
  intro listed D Γ a w hsz hc hl hlow hL hs hr Q' hq;by_cases hall:∀j,j<K->D j=true
  ·rw[sy hg hall]at hs hr hq;have hcount:∀m,m<=all.size->fQ listed m=m-K:=by
    intro m
    induction m with
    |zero=>intro _;simp[fQ]
    |succ m ihm =>
     intro hm;simp only[fQ];rw[ihm V,hl m V];by_cases hmK:m<K
     ·rw[hall m hmK];simp;omega
     ·have:D m=false:=by
       cases hD:D m with
       |false=>rfl
       |true=>exact absurd (hlow m hD) hmK
      rw[this];simp;omega
   have h1:=hcount all.size ZG;exact uL S hfit (r+1) K listed _ Γ a w (by have:=S.le;omega) ZG hsz hc (fun j hj=>by rw[hl j hj];exact⟨hlow j,hall j⟩) htail hs hr Q' hq
  ·have hex:∃j,j<K/\D j=false:=by
    by_cases h:∃j,j<K/\D j=false
    ·exact h
    ·refine absurd (fun j hj=>?_) hall;cases hD:D j with
     |true=>rfl
     |false=>exact absurd ⟨j,hj,hD⟩ h
   have least:∀k,(∃j,j<k/\j<K/\D j=false)->∃j,j<K/\D j=false/\∀i,i<j->D i=true:=by
    intro k
    induction k with
    |zero=>rintro⟨j,hj,_⟩;omega
    |succ k ihk =>
     rintro⟨j,h1,h2,h3⟩;by_cases h:∃j,j<k/\j<K/\D j=false
     ·exact ihk h
     ·refine⟨j,h2,h3,fun i hi=>?_⟩;cases hD:D i with
      |true=>rfl
      |false=>exact absurd ⟨i,V,V,hD⟩ h
   obtain⟨j0,hj0K,hj0,hbelow⟩:=least K (let ⟨j,h1,h2⟩:=hex;⟨j,h1,h1,h2⟩);have hj0s:j0<all.size:=Vl hj0K S.le;have hr0:j0∈Region.ready .any all listed:=by
    refine mem_ready.2 ⟨by rw[hl j0 hj0s];exact hj0,_,Vo hj0s,fun e he hb=>?_⟩;have hlt:=S.down j0 _ (Vo hj0s) e he hb;rw[pq V false true,hl e.on V];exact hbelow _ hlt
   refine⟨fun h0=>(by rw[h0]at hr0;cases hr0),fun i hi=>?_⟩;obtain⟨hiun,oi,hoi,hdir⟩:=mem_ready.1 hi;have his:=(Wc.1 hoi).1;have hdirD:∀e,e∈oi.after->Region.binds .any e=true->D e.on=true:=fun e he hb=>by
    have:=S.down i oi hoi e he hb;rw[<- hl e.on V,<- pq V false true];exact hdir e he hb
   have hahead:=S.ahead hL i oi;have hiK:i<K:=by
    rcases VA i K with h|h
    ·exact h
    ·have:=hahead j0 hoi hdirD (by rw[Ve V];omega);rw[hj0]at this;cases this
   have hDi:D i=false:=(by rw[<- hl i his];exact hiun);have hex:=xM (P:=P) (G:=G) S hg hiK hoi hDi (fun j hj hb=>hahead j hoi hdirD (by rw[Vf hiK];exact hb)) (fun j h1 h2 hD=>by
    cases hb:(eJ bs j).testBit i with
    |false=>rfl
    |true =>
     have hjs:j<all.size:=Vl h2 S.le;have:=S.ahead hL j _ i (Vo hjs) (fun e he hbe=>hL j _ hD (Vo hjs) e he hbe) (by rw[Vf h2];exact hb);rw[hDi]at this;cases this)
   have hoi':oi=all[i]:=by
    rw[Vo his]at hoi;exact(Option.some.inj hoi).symm
   refine xL hoi (hfit oi (by rw[hoi'];simp)) hs hr hex ?_;rintro Γ' a' w' hs' E hn hr' ⟨cv,rfl⟩;have hc':fQ (listed.setIfInBounds i true) all.size=r:=by
    have:=yt hiun all.size;rw[Vf his]at this;omega
   refine ih (listed.setIfInBounds i true) (bW D i) Γ' _ w' (by simpa using hsz) hc' ?_ ?_ ?_ hs' hr' Q' fun e a'' w'' hp=>hq _ _ _ (hp.step E hn (by rw[hoi'];exact nZ his cv) fun _ h=>h)
   ·intro j hj;by_cases hji:j=i
    ·subst hji;simp[bW]
    ·rw[getD_set_ne true (Ne.symm hji),hl j hj];simp[bW,hji]
   ·intro j hj;by_cases hji:j=i
    ·subst hji;exact hiK
    ·simp only[bW,Ve hji]at hj;exact hlow j hj
   ·intro k ok hk hok e he hb;by_cases hki:k=i
    ·subst hki;rw[hoi]at hok;cases hok;have:=hdirD e he hb;simp only[bW];split
     ·rfl
     ·exact this
    ·simp only[bW,Ve hki]at hk;have:=hL k ok hk hok e he hb;simp only[bW];split
     ·rfl
     ·exact this
def W.draw {s:St}(K:Nat)(bs:List Nat)(hm:P.follows .mixedOrders=true)(hfit:all.toList.all (eP n)=true)(hst:sJ all bs K=true)
  (h:dY P G all (opsV P G rd Q all (all.toList.drop K)) bs 0 [] (all.toList.take K) s):W P G n rd (.region id all true) Q s:=by
 intro wb Γ a w rb hs hr;have S:=BZ hst;have hfit':∀o,o∈all.toList->eP n o=true:=fun o ho=>VG.1 hfit o ho;have wf:gV s.H:=fun id b hb=>hs.heap.A id b hb;have hcan0:canon all (fun _=>⟨.lit undef,none,false,⟨[],[]⟩⟩) s 0=s:=rfl;obtain⟨d,hg,htail⟩:=trace (P:=P) (G:=G) (all:=all) (bs:=bs) (s0:=s) (tail:=opsV P G rd Q all (all.toList.drop K)) S.len S.le K 0 (fun _=>⟨.lit undef,none,false,⟨[],[]⟩⟩) [] (V)
  (fun i hi=>V) (fun j hj=>V) (by rw[hcan0];exact wf) (by rw[hcan0];exact h)
 refine wpIn_region_any hm ?_
 let w1:World:={ w with drawn:=w.drawn+1 }
 have R1:ZQ P G Γ s.H w1:=hs.heap.move rfl (qL w) ZG (fun id b hb=>.inl hb) fun id b hb=>hb;have hs1:ZY P G n wb Γ s a w1:=hs.move (qL w) ZG R1;have hs2:ZY P G n wb Γ ⟨s.ρ,bO s.H (aO d K)⟩ a w1:=hs1.move (sM _ _) (by simp[bO]) (B2 R1 _);have hr2:dP Γ (bO s.H (aO d K)) rd rb:=hr.move fun id b hb=>by
  simp only[bO];rw[Ve]
  ·exact hb
  ·have:=hs.heap.A id b hb;omega
 have e0:fk all d s K (fun _=>false)=⟨s.ρ,bO s.H (aO d K)⟩:=xN fun _ _=>rfl;refine xO (wb:=wb) (id:=id) (dr:=true) S hfit' hg htail all.size _ (fun _=>false) Γ a w1 ZD (uK _ ZG) ?_ ?_ ?_ ?_ ?_ _ ?_
 ·intro j hj;rw[V0,Xp,Vf hj];rfl
 ·intro j hj;cases hj
 ·intro i o hi;cases hi
 ·rw[e0];exact hs2
 ·rw[e0];exact hr2
 ·rw[e0];intro e a' w' hp;refine hp.step ?_ (by simp[bO]) (.refl _ _) fun _ h=>h;exact ZS.trans (qL w) ZG (sM _ _)
end
end Go.Hx
namespace Go.Hx
variable {P:Program} {G:Nat->Option (List ZI)}
variable {α β:Type}
def od (a:α)(K:α->Prop):bj (some a) K=K a:=by simp[bj]
def sK (K:α->Prop):bj none K=False:=by simp[bj]
def yn (o:Option α)(f:α->Option β)(K:β->Prop):bj (o.bind f) K=bj o fun a=>bj (f a) K:=by
 cases o<;>simp[bj]
def iA (o:Option α)(f:α->β)(K:β->Prop):bj (o.map f) K=bj o fun a=>K (f a):=by
 cases o<;>simp[bj]
def BU (c:Prop)[Decidable c](a:Option α)(K:α->Prop):bj (if c then a else none) K=(c/\bj a K):=by
 by_cases h:c<;>simp[h,bj]
def uE {o:Option α}{K K':α->Prop}(h:∀a,K a=K' a):bj o K=bj o K':=by
 have:K=K':=funext h;subst this;rfl
def Iq (p q:Prop):jc true p q=p:=by simp[jc]
def Ir (p q:Prop):jc false p q=q:=by simp[jc]
def jc.mk {t:Bool}{p q:Prop}(h1:t=true->p)(h2:t=false->q):jc t p q:=⟨h1,h2⟩
def Is {f:FuncId}{args args':List ZI}{H H':ZH}{K:ZN->ZH->Prop}(h2:args=args')(h3:H=H'):ae P G f args H K=ae P G f args' H' K:=by
 rw[h2,h3]
theorem It {n:Nat}{rd:Option Nat}{c:Code}{Q:AX->St->Prop}{s s':St}(h:s=s'):W P G n rd c Q s=W P G n rd c Q s':=by rw[h]
attribute [congr] Is It
def Iu (K:St->Prop)(Q:AX->St->Prop)(s:St):kP K Q .normal s=K s:=(rfl)
def Iv (K:St->Prop)(Q:AX->St->Prop)(i:Nat)(s:St):kP K Q (.exit i) s=Q (.exit i) s:=(rfl)
def Iw (K:St->Prop)(Q:AX->St->Prop)(i:Nat)(s:St):kP K Q (.goto i) s=Q (.goto i) s:=(rfl)
def Ix (K:St->Prop)(Q:AX->St->Prop)(s:St):kP K Q .ret s=Q .ret s:=(rfl)
def Iy (K:St->Prop)(Q:AX->St->Prop)(s:St):kP K Q .panic s=Q .panic s:=(rfl)
def Iz (i:Nat)(Q:AX->St->Prop)(s:St):mK i Q .normal s=Q .normal s:=(rfl)
def IA (i j:Nat)(Q:AX->St->Prop)(s:St):mK i Q (.exit j) s=if j=i then Q .normal s else Q (.exit j) s:=(rfl)
def IB (i j:Nat)(Q:AX->St->Prop)(s:St):mK i Q (.goto j) s=Q (.goto j) s:=(rfl)
def IC (i:Nat)(Q:AX->St->Prop)(s:St):mK i Q .ret s=Q .ret s:=(rfl)
def ID (i:Nat)(Q:AX->St->Prop)(s:St):mK i Q .panic s=Q .panic s:=(rfl)
def noGoto_normal (Q:AX->St->Prop)(s:St):noGoto Q .normal s=Q .normal s:=(rfl)
def noGoto_exit (i:Nat)(Q:AX->St->Prop)(s:St):noGoto Q (.exit i) s=Q (.exit i) s:=(rfl)
def noGoto_ret (Q:AX->St->Prop)(s:St):noGoto Q .ret s=Q .ret s:=(rfl)
def noGoto_panic (Q:AX->St->Prop)(s:St):noGoto Q .panic s=Q .panic s:=(rfl)
section code
variable {n:Nat} {rd:Option Nat} {Q:AX->St->Prop} {s:St}
def IE:vc P G n rd .skip Q s=Q .normal s:=(rfl)
def IF (l:Nat):vc P G n rd (.label l) Q s=Q .normal s:=(rfl)
def IG (id:Nat)(ops:Array Oper):vc P G n rd (.region id ops false) Q s=opsV P G rd Q ops ops.toList s:=(rfl)
def IH (id:Nat)(ops:Array Oper):vc P G n rd (.region id ops true) Q s=W P G n rd (.region id ops true) Q s:=(rfl)
def II (a b:Code):vc P G n rd (.seq a b) Q s=vc P G n rd a (kP (vc P G n rd b Q) Q) s:=(rfl)
def IJ (id:Nat)(c:Code):vc P G n rd (.block id c) Q s=vc P G n rd c (mK id Q) s:=(rfl)
def IK (c:Code):vc P G n rd (.loop c) Q s=W P G n rd (.loop c) Q s:=(rfl)
def IL (f:Operand)(ps:Array Tmp)(asg c:Code):vc P G n rd (.rangeFunc f ps asg c) Q s=W P G n rd (.rangeFunc f ps asg c) Q s:=(rfl)
def IM (i:Nat):vc P G n rd (.exit i) Q s=Q (.exit i) s:=(rfl)
def IN (c:Code):vc P G n rd (.scope c) Q s=vc P G n rd c (noGoto Q) s:=(rfl)
def IP (i:Nat):vc P G n rd (.goto i) Q s=Q (.goto i) s:=(rfl)
def IQ:vc P G n rd .ret Q s=Q .ret s:=(rfl)
def BV:ZI->Option Bool
 |.lit (.bool t)=>some t
 |_=>none
def IR (t:Bool):BV (.lit (.bool t))=some t:=rfl
def IS (c:Operand)(a b:Code):vc P G n rd (.cond c a b) Q s=bj (BV (au G s.ρ c)) fun t=>jc t (vc P G n rd a Q s) (vc P G n rd b Q s):=by
 simp only[vc];congr 1
end code
def IT (ρ:Env)(t:Tmp):au G ρ (.tmp t)=ρ t:=rfl
def IU (ρ:Env)(v:Value):au G ρ (.const v)=.lit v:=rfl
def IV (ρ:Env)(f:FuncId):au G ρ (.func f)=.X f [] []:=rfl
def IW (ρ:Env)(d:Tmp)(v:ZI)(t:Tmp):aJ ρ (some d) v t=if t=d then v else ρ t:=rfl
def IX (ρ:Env)(v:ZI):aJ ρ none v=ρ:=rfl
def IY (ws:Nat)(ρ ρ₀:Env)(t:Nat):mask ws ρ ρ₀ t=if ws / 2 ^ t % 2=1 then ρ t else ρ₀ t:=rfl
def iv:ZI->Int
 |.lit (.int _ n)=>n
 |_=>0
def bf (k:IntKind)(n:Int):iv (.lit (.int k n))=n:=rfl
def yo (l:List ZI)(t:Nat):dD l t=(l[t]?).getD (.lit undef):=rfl
def IZ (rs:List ResultVar)(H:ZH)(K:ZN->ZH->Prop)(s:St):qF P G rs H K .ret s=bj (fY P s.H s.ρ rs) fun vs=>ak P G H K (kQ vs) s.H:=(rfl)
def I0 (rs:List ResultVar)(H:ZH)(K:ZN->ZH->Prop)(s:St):qF P G rs H K .normal s=bj (fY P s.H s.ρ rs) fun vs=>ak P G H K (kQ vs) s.H:=(rfl)
def I1 (H:ZH)(ρ:Env):fY P H ρ []=some []:=rfl
def I3 (H:ZH)(ρ:Env)(t:Tmp)(r:List ResultVar):fY P H ρ (.tmp t :: r)=(fY P H ρ r).map (ρ t :: ·):=rfl
def I4 (H:ZH)(ρ:Env)(a:Tmp)(t:TypeId)(r:List ResultVar):fY P H ρ (.cell a t :: r)=(ir P H t (ρ a)).bind fun v=>(fY P H ρ r).map (v :: ·):=rfl
def I5 (v:ZI):kQ [v]=v:=rfl
def I6 (v u:ZI)(r:List ZI):kQ (v :: u :: r)=.nc (v :: u :: r):=rfl
def I7:kQ []=.nc []:=rfl
section ops
variable {rd:Option Nat} {Q:AX->St->Prop} {K:St->Prop} {s:St} {d:Option Tmp} {ty:TypeId} {pos:String} {aft:Array Edge} {g:Option (Nat × Bool)}
def I9 (all:Array Oper):opsV P G rd Q all [] s=Q .normal s:=(rfl)
def Ja (all:Array Oper)(op:Op)(rest:List Oper):opsV P G rd Q all (⟨d,op,ty,pos,aft,none⟩ :: rest) s=aY P G rd Q ⟨d,op,ty,pos,aft,none⟩ (opsV P G rd Q all rest) s:=by
 simp[opsV,gU,od]
def Jb (all:Array Oper)(op:Op)(rest:List Oper)(j:Nat)(want:Bool):opsV P G rd Q all (⟨d,op,ty,pos,aft,some (j,want)⟩ :: rest) s =
  bj (gU all s.ρ ⟨d,op,ty,pos,aft,some (j,want)⟩) fun t=>if t=true then aY P G rd Q ⟨d,op,ty,pos,aft,some (j,want)⟩ (opsV P G rd Q all rest) s else opsV P G rd Q all rest ⟨aJ s.ρ d (.lit undef),s.H⟩:=(rfl)
def Jc (P:Program)(G:Nat->Option (List ZI))(fv:ZI)(args:List ZI)(H:ZH)(K:ZN->ZH->Prop)(_d:TagR K:=.mk):Prop:=ao P G fv args H K
def Jd (fv:Operand)(args:Array Operand)(ats:Array TypeId):aY P G rd Q ⟨d,.call ⟨.value fv,args,ats⟩,ty,pos,aft,g⟩ K s =
  Jc P G (au G s.ρ fv) (args.toList.map (au G s.ρ)) s.H fun r H'=>fK H' rd/\match r with
   |.ret v=>K ⟨aJ s.ρ d v,H'⟩
   |.panic=>Q .panic ⟨s.ρ,H'⟩:=(rfl)
def Je (x:Operand):aY P G rd Q ⟨d,.panic x,ty,pos,aft,g⟩ K s=((∃t v,(au G s.ρ x)=.lit (.iface t v))/\Q .panic s):=(rfl)
def Jf (x:Operand):aY P G rd Q ⟨d,.move x,ty,pos,aft,g⟩ K s=K ⟨aJ s.ρ d (au G s.ρ x),s.H⟩:=by simp[aY,aq,od]
def Jg (x:Operand):aY P G rd Q ⟨d,.assign x,ty,pos,aft,g⟩ K s=K ⟨aJ s.ρ d (au G s.ρ x),s.H⟩:=by simp[aY,aq,od]
def Jh (c a b:Operand):aY P G rd Q ⟨d,.pick c a b,ty,pos,aft,g⟩ K s=bj (match au G s.ρ c with|.lit (.bool t)=>some t|_=>none) fun t=>K ⟨aJ s.ρ d (if t then au G s.ρ a else au G s.ρ b),s.H⟩:=by
 simp only[aY,aq];split<;>simp_all[od,sK]
def Ji (e:TypeId):aY P G rd Q ⟨d,.alloc e,ty,pos,aft,g⟩ K s=bj (bQ P e) fun z=>bj (s.H.lay s.H.A (.J 0 e z)) fun H'=>K ⟨aJ s.ρ d (.O s.H.A 0 0),H'⟩:=by
 simp only[aY,aq,yn];exact uE fun _=>iA ..
def Jj (e:TypeId)(x:Operand):aY P G rd Q ⟨d,.box e x,ty,pos,aft,g⟩ K s=bj (s.H.lay s.H.A (.J 0 e (au G s.ρ x).cells)) fun H'=>K ⟨aJ s.ρ d (.O s.H.A 0 0),H'⟩:=by
 simp[aY,aq,iA]
def Jk (t:TypeId)(parts:Array (Nat × Operand)):aY P G rd Q ⟨d,.build t parts,ty,pos,aft,g⟩ K s=bj (sh P t (parts.toList.map fun p=>(p.1,au G s.ρ p.2))) fun v=>K ⟨aJ s.ρ d v,s.H⟩:=by
 simp[aY,aq,iA]
def Jl (t:TypeId)(len:Nat)(parts:Array (Nat × Operand)):aY P G rd Q ⟨d,.buildSlice t len parts,ty,pos,aft,g⟩ K s =
  bj (nP P s.H s.H.A t len (parts.toList.map fun p=>(p.1,au G s.ρ p.2))) fun vH=>K ⟨aJ s.ρ d vH.1,vH.2⟩:=by
 simp[aY,aq]
def Jm (t:TypeId)(a:Operand):aY P G rd Q ⟨d,.load t a,ty,pos,aft,g⟩ K s=bj (ir P s.H t (au G s.ρ a)) fun v=>K ⟨aJ s.ρ d v,s.H⟩:=by
 simp[aY,aq,iA]
def Jn (t:TypeId)(a x:Operand):aY P G rd Q ⟨d,.store t a x,ty,pos,aft,g⟩ K s=((P.underlying t).isSome=true/\bj (j9 P s.H t (au G s.ρ a) (au G s.ρ x)) fun H'=>K ⟨aJ s.ρ d (.lit undef),H'⟩):=by
 simp[aY,aq,BU,iA]
def Jo (x:Operand):aY P G rd Q ⟨d,.nilCheck x,ty,pos,aft,g⟩ K s=bj (lX s.H (au G s.ρ x)) fun v=>K ⟨aJ s.ρ d v,s.H⟩:=by
 simp[aY,aq,iA]
def Jp (op:BinOp)(t:TypeId)(x y:Operand)(u:TypeId):aY P G rd Q ⟨d,.binOp op t x y u,ty,pos,aft,g⟩ K s =
  sF P op t (lZ s.H op (au G s.ρ x) (au G s.ρ y)) (fun v=>K ⟨aJ s.ρ d v,s.H⟩) (bj (aV P op t x y (au G s.ρ x) (au G s.ρ y)) fun v=>K ⟨aJ s.ρ d v,s.H⟩):=by
 simp[aY,aq,iA]
def Jq (op:BinOp)(t:TypeId)(Kb:ZI->Prop)(p:Prop):sF P op t none Kb p=p:=rfl
def Jr (op:BinOp)(t:TypeId)(k:Bool)(Kb:ZI->Prop)(p:Prop):sF P op t (some k) Kb p=(sE (P.underlying t)=true/\∀b:Bool,(k=true->b=false)->Kb (.lit (.bool (if op == .neq then !b else b)))):=rfl
def Js (e:TypeId):sE (some (.slice e))=true:=rfl
def Jt (H:ZH)(op:BinOp)(v:Value)(y:ZI):lZ H op (.lit v) y=none:=by
 unfold lZ;split<;>rfl
def Ju (H:ZH)(n:Nat)(cells:List ZI):lZ H .eql (.Q n cells) (.lit (.slice none 0 0))=some (decide (0<n)):=rfl
def Jv (H:ZH)(n:Nat)(cells:List ZI):lZ H .neq (.Q n cells) (.lit (.slice none 0 0))=some (decide (0<n)):=rfl
def Jw:(BinOp.eql == BinOp.neq)=false:=rfl
def Jx:(BinOp.neq == BinOp.neq)=true:=rfl
def Jy (op:UnOp)(t:TypeId)(x:Operand):aY P G rd Q ⟨d,.unOp op t x,ty,pos,aft,g⟩ K s=bj (qw P op (au G s.ρ x)) fun v=>K ⟨aJ s.ρ d v,s.H⟩:=by
 simp[aY,aq,iA]
def Jz (a b:TypeId)(x:Operand):aY P G rd Q ⟨d,.convert a b x,ty,pos,aft,g⟩ K s=bj (lW P s.H a b (au G s.ρ x)) fun v=>K ⟨aJ s.ρ d v,s.H⟩:=by
 simp[aY,aq,iA]
def JA (t:TypeId)(x:Operand):aY P G rd Q ⟨d,.makeInterface t x,ty,pos,aft,g⟩ K s =
  bj (match (au G s.ρ x).cX with|some v=>(aR P (Instr.makeInterface t v)).map ZI.lit|none=>none) fun v=>K ⟨aJ s.ρ d v,s.H⟩:=by
 simp only[aY,aq];split<;>simp_all[sK,iA]
def JB (f:FuncId)(first cap:Array Operand):aY P G rd Q ⟨d,.makeFunc (.func f) first cap,ty,pos,aft,g⟩ K s=K ⟨aJ s.ρ d (.X f (first.toList.map (au G s.ρ)) (cap.toList.map (au G s.ρ))),s.H⟩:=by
 simp[aY,aq,od]
def JC (t:TypeId)(l c:Operand):aY P G rd Q ⟨d,.makeSlice t l c,ty,pos,aft,g⟩ K s=bj (mF P s.H s.H.A t (au G s.ρ l) (au G s.ρ c)) fun vH=>K ⟨aJ s.ρ d vH.1,vH.2⟩:=by
 simp[aY,aq]
def JD (t:TypeId)(x:Operand)(lo hi:Option Operand):aY P G rd Q ⟨d,.slice t x lo hi none,ty,pos,aft,g⟩ K s =
  bj (nN P s.H t (au G s.ρ x) (lo.map (au G s.ρ)) (hi.map (au G s.ρ))) fun v=>K ⟨aJ s.ρ d v,s.H⟩:=by
 simp[aY,aq,iA]
def uF (P:Program)(H:ZH)(s:TypeId)(f:Nat)(x:ZI):Option ZI :=
 (bK P s f).bind fun of=>match x with
  |.O id gen off=>(H.na id gen).map fun _=>.O id gen (off+of.1)
  |.ni cells off=>some (.ni cells (off+of.1))
  |_=>none
def JE (t:TypeId)(x:Operand)(f:Nat):aY P G rd Q ⟨d,.fieldAddr t x f,ty,pos,aft,g⟩ K s=bj (uF P s.H t f (au G s.ρ x)) fun v=>K ⟨aJ s.ρ d v,s.H⟩:=by
 simp only[aY,aq,uF,yn];refine uE fun of=>?_;split<;>simp_all[sK,iA,od]
def uG (P:Program)(H:ZH)(t:TypeId)(x i:ZI):Option ZI:=match i with
 |.lit (.int _ i)=>nM P H t x i
 |_=>none
def JF (t:TypeId)(x i:Operand):aY P G rd Q ⟨d,.indexAddr t x i,ty,pos,aft,g⟩ K s=bj (uG P s.H t (au G s.ρ x) (au G s.ρ i)) fun v=>K ⟨aJ s.ρ d v,s.H⟩:=by
 simp only[aY,aq,uG];split<;>simp_all[sK,iA]
def JG (t:TypeId)(x i:Operand):aY P G rd Q ⟨d,.index t x i,ty,pos,aft,g⟩ K s=bj (oZ P t (au G s.ρ x) (au G s.ρ i)) fun v=>K ⟨aJ s.ρ d v,s.H⟩:=by
 simp[aY,aq,iA]
def JH (t:Operand)(i:Nat):aY P G rd Q ⟨d,.extract t i,ty,pos,aft,g⟩ K s=bj (nU (au G s.ρ t) i) fun v=>K ⟨aJ s.ρ d v,s.H⟩:=by
 simp[aY,aq,iA]
def JI (b:Builtin)(args:Array Operand)(ats:Array TypeId):aY P G rd Q ⟨d,.call ⟨.builtin b,args,ats⟩,ty,pos,aft,g⟩ K s =
  bj (gT P s.H s.H.A b ats.toList (args.toList.map (au G s.ρ))) fun vH=>K ⟨aJ s.ρ d vH.1,vH.2⟩:=by
 simp[aY,aq]
end ops
def builtin_len (H:ZH)(id:Nat)(t:TypeId)(x:ZI):gT P H id .len [t] [x]=(nO P H t x).map fun v=>(v,H):=rfl
def builtin_append (H:ZH)(id:Nat)(t u:TypeId)(s x:ZI):gT P H id .append [t,u] [s,x]=bU P H id t u s x:=rfl
def builtin_copy (H:ZH)(id:Nat)(t u:TypeId)(s x:ZI):gT P H id .copy [t,u] [s,x]=lU P H t s x:=rfl
def builtin_min (H:ZH)(id:Nat)(ts:List TypeId)(k:IntKind)(a b:Int):gT P H id .min ts [.lit (.int k a),.lit (.int k b)]=some (.lit (.int k (if b<a then b else a)),H):=by
 cases ts with
 |nil=>rfl
 |cons t ts=>rfl
def builtin_max (H:ZH)(id:Nat)(ts:List TypeId)(k:IntKind)(a b:Int):gT P H id .max ts [.lit (.int k a),.lit (.int k b)]=some (.lit (.int k (if b > a then b else a)),H):=by
 cases ts with
 |nil=>rfl
 |cons t ts=>rfl
section nums
variable {t:TypeId} {x y:Operand} {k:IntKind} {a b:Int}
def JJ:aV P .add t x y (.lit (.int k a)) (.lit (.int k b))=some (.lit (.int k (k.wrap (a+b)))):=by
 simp[aV,ZI.cX,eqGuard,binOp,Op.intArith,aR,bind,Sem.bind,pure]
def JK:aV P .sub t x y (.lit (.int k a)) (.lit (.int k b))=some (.lit (.int k (k.wrap (a-b)))):=by
 simp[aV,ZI.cX,eqGuard,binOp,Op.intArith,aR,bind,Sem.bind,pure]
def JL:aV P .mul t x y (.lit (.int k a)) (.lit (.int k b))=some (.lit (.int k (k.wrap (a*b)))):=by
 simp[aV,ZI.cX,eqGuard,binOp,Op.intArith,aR,bind,Sem.bind,pure]
def JM:aV P .quo t x y (.lit (.int k a)) (.lit (.int k b))=if b≠0 then some (.lit (.int k (k.wrap (a.tdiv b)))) else none:=by
 by_cases h:b=0<;>simp[h,aV,ZI.cX,eqGuard,binOp,Op.intDiv,runtimePanic,program,goPanic,aR,bind,Sem.bind,pure]
def JN:aV P .rem t x y (.lit (.int k a)) (.lit (.int k b))=if b≠0 then some (.lit (.int k (a.tmod b))) else none:=by
 by_cases h:b=0<;>simp[h,aV,ZI.cX,eqGuard,binOp,Op.intDiv,runtimePanic,program,goPanic,aR,bind,Sem.bind,pure]
def JO:aV P .lss t x y (.lit (.int k a)) (.lit (.int k b))=some (.lit (.bool (decide (a<b)))):=by
 simp[aV,ZI.cX,eqGuard,binOp,Op.intCmp,aR,bind,Sem.bind,pure]
def JP:aV P .leq t x y (.lit (.int k a)) (.lit (.int k b))=some (.lit (.bool (decide (a<=b)))):=by
 simp[aV,ZI.cX,eqGuard,binOp,Op.intCmp,aR,bind,Sem.bind,pure]
def JQ:aV P .gtr t x y (.lit (.int k a)) (.lit (.int k b))=some (.lit (.bool (decide (b<a)))):=by
 simp[aV,ZI.cX,eqGuard,binOp,Op.intCmp,aR,bind,Sem.bind,pure]
def JR:aV P .geq t x y (.lit (.int k a)) (.lit (.int k b))=some (.lit (.bool (decide (b<=a)))):=by
 simp[aV,ZI.cX,eqGuard,binOp,Op.intCmp,aR,bind,Sem.bind,pure]
def JS:aV P .eql t x y (.lit (.int k a)) (.lit (.int k b))=some (.lit (.bool (decide (a=b)))):=by
 simp[aV,ZI.cX,eqGuard,binOp,Op.intCmp,aR,bind,Sem.bind,pure];rfl
def JT:aV P .neq t x y (.lit (.int k a)) (.lit (.int k b))=some (.lit (.bool (!decide (a=b)))):=by
 simp[aV,ZI.cX,eqGuard,binOp,Op.intCmp,aR,bind,Sem.bind,pure];rfl
def JU {op:UnOp}(h:op=.neg):qw P op (.lit (.int k a))=some (.lit (.int k (k.wrap (0-a)))):=by
 subst h;rfl
def JV (v:Bool):qw P .not (.lit (.bool v))=some (.lit (.bool (!v))):=rfl
def JW (H:ZH)(s d:TypeId)(v:Value):lW P H s d (.lit v)=lV P s d (.lit v):=rfl
def JX (H:ZH)(s d:TypeId)(c:List ZI):lW P H s d (.agg c)=lV P s d (.agg c):=rfl
def JY {s d:TypeId}{k':IntKind}(hs:(P.underlying s).isSome=true)(hd:P.underlying d=some (.int k')):lV P s d (.lit (.int k a))=some (.lit (.int k' (k'.wrap a))):=by
 obtain⟨ds,hs⟩:=VJ.1 hs;simp only[lV,ZI.cX];have:aR P (convert s d (.int k a))=some (.int k' (k'.wrap a)):=by
  simp[convert,underlying,program,hs,hd,aR,bind,Sem.bind,pure,Conv.intToInt]
 rw[this];rfl
end nums
def ext (H:ZH)(L:List ZO):ZH :=
 { get:=fun j=>if H.A<=j/\j<H.A+L.length then L[j-H.A]? else H.get j,A:=H.A+L.length }
def ext_nil (H:ZH):ext H []=H:=by
 unfold ext;have:(fun j=>if H.A<=j/\j<H.A+([]:List ZO).length then ([]:List ZO)[j-H.A]? else H.get j)=H.get:=by
  funext j
  rw[Ve];simp only[List.length_nil];omega
 rw[this];rfl
def aX (H:ZH)(L:List ZO):(ext H L).A=H.A+L.length:=rfl
def uH (H:ZH)(b:ZO):H.lay H.A b=some (ext H [b]):=by
 unfold ZH.lay ext;rw[Vf rfl];congr 2
 funext j
 by_cases h:j=H.A
 ·subst h;simp
 ·rw[Ve h,Ve];simp only[List.length_cons,List.length_nil];omega
def yp (H:ZH)(L:List ZO)(b:ZO):(ext H L).lay (H.A+L.length) b=some (ext H (L++[b])):=by
 unfold ZH.lay;rw[Vf (aX H L).symm];unfold ext;congr 2
 ·funext j
  simp only[List.length_append,List.length_cons,List.length_nil];by_cases h:j=H.A+L.length
  ·subst h;rw[Vf rfl,Vf V,X0];simp
  ·rw[Ve h];by_cases h2:H.A<=j/\j<H.A+L.length
   ·rw[Vf h2,Vf V,Vv V]
   ·rw[Ve h2,Ve V]
 ·simp only[List.length_append,List.length_cons,List.length_nil];omega
def BW (H:ZH)(L:List ZO)(i:Nat)(b:ZO)(h:L.length=i):(ext H L).lay (H.A+i) b=some (ext H (L++[b])):=by subst h;exact yp H L b
def bN (H:ZH)(L:List ZO)(i:Nat)(h:i<L.length):(ext H L).get (H.A+i)=L[i]?:=by
 unfold ext;simp only;rw[Vf V,X0]
def dc (H:ZH)(L:List ZO)(i:Nat)(h:i<H.A):(ext H L).get i=H.get i:=by
 unfold ext;simp only;rw[Ve V]
def yq (H:ZH)(L:List ZO)(i:Nat)(b:ZO)(h:i<L.length):(ext H L).upd (H.A+i) b=ext H (L.set i b):=by
 unfold ext ZH.upd;simp only[VE];congr 1
 funext j
 by_cases hj:j=H.A+i
 ·subst hj;rw[Vf rfl,Vf V,X0,Vz h]
 ·rw[Ve hj];by_cases h2:H.A<=j/\j<H.A+L.length
  ·rw[Vf h2,Vf h2,VN V]
  ·rw[Ve h2,Ve h2]
def sL (b:Option ZO)(gen:Nat):Option (TypeId × List ZI) :=
 match b with
 |some (.J g e cells)=>if g=gen then some (e,cells) else none
 |_=>none
def JZ (g gen:Nat)(e:TypeId)(cells:List ZI):sL (some (.J g e cells)) gen=if g=gen then some (e,cells) else none:=rfl
def yr (H:ZH)(L:List ZO)(i gen:Nat)(h:i<L.length):(ext H L).na (H.A+i) gen=sL L[i]? gen:=by
 unfold ZH.na sL;rw[bN H L i h];rfl
def J0 (H:ZH)(b:ZO)(L:List ZO)(gen:Nat):(ext H (b :: L)).na H.A gen=sL (some b) gen:=yr H (b :: L) 0 gen (ZD)
def J1 (H:ZH)(c:ZO)(L:List ZO)(b:ZO):(ext H (c :: L)).upd H.A b=ext H (b :: L):=yq H (c :: L) 0 b (ZD)
def gE {H R:ZH}{L:List ZO}(h:R=ext H L)(i:Nat){b:ZO}(hb:L[i]? = some b):R.get (H.A + i)=some b := by
  rw[h,bN H L i (by
    rcases VA i L.length with g |g
    · exact g
    · rw[Vm g] at hb;cases hb)]
  exact hb
def dI {H R:ZH}{b:ZO}{L:List ZO}(h:R=ext H (b :: L)):R.get H.A=some b := gE h 0 rfl
end Go.Hx
namespace Go.Hx
variable {P:Program} {G:Nat->Option (List ZI)}
def sN (want:Bool):Option ZI->Option Bool
 |some (.lit (.bool b))=>some (b == want)
 |some (.lit _)=>some false
 |none=>some false
 |_=>none
def J2 (want b:Bool):sN want (some (.lit (.bool b)))=some (b == want):=rfl
def J3 (b:Bool):(b == true)=b:=by cases b<;>rfl
def J4 (b:Bool):(b == false)=!b:=by cases b<;>rfl
def J5 (b:Bool)(p q:Prop):jc (!b) p q=jc b q p:=by cases b<;>simp[jc]
def B3 (t:Bool)(p q:Prop):(if t=true then p else q)=jc t p q:=by cases t<;>simp[jc]
def B4 (all:Array Oper)(ρ:Env)(d:Option Tmp)(op:Op)(ty:TypeId)(pos:String)(aft:Array Edge)(j:Nat)(want:Bool):
  gU all ρ ⟨d,op,ty,pos,aft,some (j,want)⟩=sN want (((all[j]?).bind (·.dst)).map ρ):=by
 unfold gU;simp only;cases (all[j]?).bind (·.dst) with
 |none=>rfl
 |some d =>
  simp only[Option.map_some];cases ρ d with
  |lit v=>cases v<;>rfl
  |_=>rfl
section
variable {rd:Option Nat} {Q:AX->St->Prop} {s:St} {d:Option Tmp} {ty:TypeId} {pos:String} {aft:Array Edge} {g:Option (Nat × Bool)}
def J6 (all:Array Oper)(op:Op)(rest:List Oper)(j:Nat)(want:Bool):opsV P G rd Q all (⟨d,op,ty,pos,aft,some (j,want)⟩ :: rest) s =
  bj (sN want (((all[j]?).bind (·.dst)).map s.ρ)) fun t=>jc t (aY P G rd Q ⟨d,op,ty,pos,aft,some (j,want)⟩ (opsV P G rd Q all rest) s) (opsV P G rd Q all rest ⟨aJ s.ρ d (.lit undef),s.H⟩):=by
 rw[Jb,B4];exact uE fun _=>B3 ..
variable {all:Array Oper} {tail:St->Prop} {b i:Nat} {bs:List Nat} {acc:List (Nat × FP)} {K:FP->St->Prop}
def J7 (bs:List Nat):dY P G all tail bs i acc [] s=tail s:=by cases bs<;>rfl
def J8 (op:Op)(rest:List Oper):dY P G all tail (b :: bs) i acc (⟨d,op,ty,pos,aft,none⟩ :: rest) s =
  bF P G ⟨d,op,ty,pos,aft,none⟩ (fun f s'=>ju b f acc/\dY P G all tail bs (i+1) (fP i f acc) rest s') s:=by
 simp[dY,gU,bj]
def J9 (op:Op)(rest:List Oper)(j:Nat)(want:Bool):dY P G all tail (b :: bs) i acc (⟨d,op,ty,pos,aft,some (j,want)⟩ :: rest) s =
  bj (sN want (((all[j]?).bind (·.dst)).map s.ρ)) fun t =>
   jc t (bF P G ⟨d,op,ty,pos,aft,some (j,want)⟩ (fun f s'=>ju b f acc/\dY P G all tail bs (i+1) (fP i f acc) rest s') s)
    (dY P G all tail bs (i+1) acc rest ⟨aJ s.ρ d (.lit undef),s.H⟩):=by
 simp only[dY,B4];exact uE fun _=>B3 ..
def Ka (fv:Operand)(args:Array Operand)(ats:Array TypeId):bF P G ⟨d,.call ⟨.value fv,args,ats⟩,ty,pos,aft,g⟩ K s =
  ∃v rs,bD P G (au G s.ρ fv) (args.toList.map (au G s.ρ)) s.H v rs/\K ⟨[],rs⟩ ⟨aJ s.ρ d v,s.H⟩:=(rfl)
abbrev QF:AX->St->Prop:=fun _ _=>False
def Kc (x:Operand):bF P G ⟨d,.move x,ty,pos,aft,g⟩ K s=aY P G none QF ⟨d,.move x,ty,pos,aft,g⟩ (K ⟨[],[]⟩) s:=(rfl)
def Kd (x:Operand):bF P G ⟨d,.assign x,ty,pos,aft,g⟩ K s=aY P G none QF ⟨d,.assign x,ty,pos,aft,g⟩ (K ⟨[],[]⟩) s:=(rfl)
def Ke (c x y:Operand):bF P G ⟨d,.pick c x y,ty,pos,aft,g⟩ K s=aY P G none QF ⟨d,.pick c x y,ty,pos,aft,g⟩ (K ⟨[],[]⟩) s:=(rfl)
def Kf (e:TypeId):bF P G ⟨d,.alloc e,ty,pos,aft,g⟩ K s=aY P G none QF ⟨d,.alloc e,ty,pos,aft,g⟩ (K ⟨[s.H.A],[]⟩) s:=(rfl)
def Kg (e:TypeId)(x:Operand):bF P G ⟨d,.box e x,ty,pos,aft,g⟩ K s=aY P G none QF ⟨d,.box e x,ty,pos,aft,g⟩ (K ⟨[s.H.A],[]⟩) s:=(rfl)
def Kh (t:TypeId)(p:Array (Nat × Operand)):bF P G ⟨d,.build t p,ty,pos,aft,g⟩ K s=aY P G none QF ⟨d,.build t p,ty,pos,aft,g⟩ (K ⟨[],[]⟩) s:=(rfl)
def Ki (t:TypeId)(l:Nat)(p:Array (Nat × Operand)):bF P G ⟨d,.buildSlice t l p,ty,pos,aft,g⟩ K s=aY P G none QF ⟨d,.buildSlice t l p,ty,pos,aft,g⟩ (K ⟨[s.H.A],[]⟩) s:=(rfl)
def Kj (t:TypeId)(x:Operand):bF P G ⟨d,.load t x,ty,pos,aft,g⟩ K s=aY P G none QF ⟨d,.load t x,ty,pos,aft,g⟩ (K ⟨[],aS (au G s.ρ x)⟩) s:=(rfl)
def Kk (t:TypeId)(x y:Operand):bF P G ⟨d,.store t x y,ty,pos,aft,g⟩ K s=aY P G none QF ⟨d,.store t x y,ty,pos,aft,g⟩ (K ⟨aS (au G s.ρ x),aS (au G s.ρ x)⟩) s:=(rfl)
def Kl (x:Operand):bF P G ⟨d,.nilCheck x,ty,pos,aft,g⟩ K s=aY P G none QF ⟨d,.nilCheck x,ty,pos,aft,g⟩ (K ⟨[],aS (au G s.ρ x)⟩) s:=(rfl)
def Km (op:BinOp)(t:TypeId)(x y:Operand)(u:TypeId):bF P G ⟨d,.binOp op t x y u,ty,pos,aft,g⟩ K s=bj (aV P op t x y (au G s.ρ x) (au G s.ρ y)) fun v=>K ⟨[],[]⟩ ⟨aJ s.ρ d v,s.H⟩:=by
 simp only[bF,aq,iA];rfl
def Kn (op:UnOp)(t:TypeId)(x:Operand):bF P G ⟨d,.unOp op t x,ty,pos,aft,g⟩ K s=aY P G none QF ⟨d,.unOp op t x,ty,pos,aft,g⟩ (K ⟨[],[]⟩) s:=(rfl)
def Ko (t u:TypeId)(x:Operand):bF P G ⟨d,.convert t u x,ty,pos,aft,g⟩ K s=aY P G none QF ⟨d,.convert t u x,ty,pos,aft,g⟩ (K ⟨[],aS (au G s.ρ x)⟩) s:=(rfl)
def Kp (t:TypeId)(x:Operand):bF P G ⟨d,.makeInterface t x,ty,pos,aft,g⟩ K s=aY P G none QF ⟨d,.makeInterface t x,ty,pos,aft,g⟩ (K ⟨[],[]⟩) s:=(rfl)
def Kq (f:Fn)(x y:Array Operand):bF P G ⟨d,.makeFunc f x y,ty,pos,aft,g⟩ K s=aY P G none QF ⟨d,.makeFunc f x y,ty,pos,aft,g⟩ (K ⟨[],[]⟩) s:=(rfl)
def Kr (t:TypeId)(x y:Operand):bF P G ⟨d,.makeSlice t x y,ty,pos,aft,g⟩ K s=aY P G none QF ⟨d,.makeSlice t x y,ty,pos,aft,g⟩ (K ⟨[s.H.A],[]⟩) s:=(rfl)
def Ks (t:TypeId)(x:Operand)(lo hi mx:Option Operand):bF P G ⟨d,.slice t x lo hi mx,ty,pos,aft,g⟩ K s=aY P G none QF ⟨d,.slice t x lo hi mx,ty,pos,aft,g⟩ (K ⟨[],aS (au G s.ρ x)⟩) s:=(rfl)
def Kt (t:TypeId)(x:Operand)(f:Nat):bF P G ⟨d,.fieldAddr t x f,ty,pos,aft,g⟩ K s=aY P G none QF ⟨d,.fieldAddr t x f,ty,pos,aft,g⟩ (K ⟨[],aS (au G s.ρ x)⟩) s:=(rfl)
def Ku (t:TypeId)(x:Operand)(f:Nat):bF P G ⟨d,.field t x f,ty,pos,aft,g⟩ K s=aY P G none QF ⟨d,.field t x f,ty,pos,aft,g⟩ (K ⟨[],[]⟩) s:=(rfl)
def Kv (t:TypeId)(x y:Operand):bF P G ⟨d,.indexAddr t x y,ty,pos,aft,g⟩ K s=aY P G none QF ⟨d,.indexAddr t x y,ty,pos,aft,g⟩ (K ⟨[],aS (au G s.ρ x)⟩) s:=(rfl)
def Kw (t:TypeId)(x y:Operand):bF P G ⟨d,.index t x y,ty,pos,aft,g⟩ K s=aY P G none QF ⟨d,.index t x y,ty,pos,aft,g⟩ (K ⟨[],[]⟩) s:=(rfl)
def Kx (x:Operand)(f:Nat):bF P G ⟨d,.extract x f,ty,pos,aft,g⟩ K s=aY P G none QF ⟨d,.extract x f,ty,pos,aft,g⟩ (K ⟨[],[]⟩) s:=(rfl)
def Ky (f:Builtin)(args:Array Operand)(ats:Array TypeId):bF P G ⟨d,.call ⟨.builtin f,args,ats⟩,ty,pos,aft,g⟩ K s =
  aY P G none QF ⟨d,.call ⟨.builtin f,args,ats⟩,ty,pos,aft,g⟩ (K (kR P s.H.A f ats.toList (args.toList.map (au G s.ρ)))) s:=rfl
end
def Kz (v:Value):aS (.lit v)=[]:=rfl
def KA (n:Nat)(l:List ZI):aS (.Q n l)=[]:=rfl
def KB (l:List ZI)(o:Nat):aS (.ni l o)=[]:=rfl
def KC (l:List ZI):aS (.agg l)=[]:=rfl
def KD (id g o l z:Nat):aS (.U id g o l z)=[id]:=rfl
def KE (id g o:Nat):aS (.O id g o)=[id]:=rfl
def KF (id g o l z:Nat):ma (.U id g o l z)=true:=rfl
def KG (v:Value):ma (.lit v)=false:=rfl
def KH (n:Nat)(l:List ZI):ma (.Q n l)=false:=rfl
def KI (id:Nat)(t:TypeId)(x:ZI):kR P id .len [t] [x]=⟨[],mM P t x⟩:=rfl
def KJ (id:Nat)(ts:List TypeId)(x y:ZI):kR P id .append ts [x,y]=if ma x=true then ⟨aS x,aS x++aS y⟩ else ⟨[id],aS y⟩:=by
 cases ts with
 |nil=>rfl
 |cons t ts=>cases ts<;>rfl
def KK (id:Nat)(ts:List TypeId)(x y:ZI):kR P id .copy ts [x,y]=⟨aS x,aS x++aS y⟩:=by
 cases ts with
 |nil=>rfl
 |cons t ts=>cases ts<;>rfl
def KL (t:TypeId)(x:ZI)(h:aS x=[]):mM P t x=[]:=by unfold mM;split<;>first|exact h|rfl
def KM (t:TypeId)(n:Nat)(l:List ZI):mM P t (.Q n l)=[]:=KL _ _ rfl
def oh (f f':FP):Prop:=(∀r,r∈f.nD->r ∉ f'.rs)/\(∀r,r∈f'.nD->r ∉ f.rs)
def KN (b:Nat)(f:FP):ju b f []=True:=by simp[ju]
def KO (b:Nat)(f:FP)(j:Nat)(f':FP)(acc:List (Nat × FP)):ju b f ((j,f') :: acc)=((b / 2 ^ j % 2=1\/oh f f')/\ju b f acc):=by
 simp only[ju,List.forall_mem_cons,Nat.testBit_eq_decide_div_mod_eq,Yv,eq_iff_iff];refine and_congr ⟨fun h=>?_,fun h hb=>?_⟩ Iff.rfl
 ·by_cases hb:b / 2 ^ j % 2=1
  ·exact .inl hb
  ·exact .inr (h hb)
 ·rcases h with h|h
  ·exact absurd h hb
  ·exact h
def KP (b:Nat)(acc:List (Nat × FP)):ju b ⟨[],[]⟩ acc=True:=by
 simp[ju]
def KQ (e r e' r':List Nat):oh ⟨e,r⟩ ⟨e',r'⟩=((∀x,x∈e->x ∉ r')/\∀x,x∈e'->x ∉ r):=rfl
def KR (i:Nat)(acc:List (Nat × FP)):fP i ⟨[],[]⟩ acc=acc:=rfl
def KS (i x:Nat)(e r:List Nat)(acc:List (Nat × FP)):fP i ⟨x :: e,r⟩ acc=(i,⟨x :: e,r⟩) :: acc:=rfl
def KT (i x:Nat)(e r:List Nat)(acc:List (Nat × FP)):fP i ⟨e,x :: r⟩ acc=(i,⟨e,x :: r⟩) :: acc:=by cases e<;>rfl
def bD.mk {f:FuncId}{first cap args:List ZI}{H:ZH}{v:ZI}{rs:List Nat}(hlt:∀r,r∈rs->r<H.A)
  (h:∀H2:ZH,(∀r,r∈rs->H2.get r=H.get r)->H.A<=H2.A->ae P G f (first++args++cap) H2 fun r H3=>r=.ret v/\H3=H2):bD P G (.X f first cap) args H v rs :=
 ⟨hlt,fun H2 h1 h2=>ao.X (h H2 h1 h2)⟩
def bD.pure {f:FuncId}{args:List ZI}{H:ZH}{v:ZI}(h:∀H2:ZH,ae P G f args H2 fun r H3=>r=.ret v/\H3=H2):bD P G (.X f [] []) args H v [] :=
 bD.mk (fun _ h=>by cases h) fun H2 _ _=>by simpa using h H2
def ae.pure {f:FuncId}{args:List ZI}{H:ZH}{v:ZI}{K:ZN->ZH->Prop}(h:∀H2:ZH,ae P G f args H2 fun r H3=>r=.ret v/\H3=H2)(hk:K (.ret v) H):ae P G f args H K :=
 (h H).mono fun r H3 ⟨h1,h2⟩=>by rw[h1,h2];exact hk
def W.dr {n:Nat}{id:Nat}{all:Array Oper}{rd:Option Nat}{Q:AX -> St -> Prop}{s:St}(K:Nat)(bs:List Nat)(hm:P.follows .mixedOrders=true)(h:dY P G all (opsV P G rd Q all (all.toList.drop K)) bs 0 [] (all.toList.take K) s)(hfit:all.toList.all (eP n)=true := by kernel_rfl)(hst:sJ all bs K=true := by kernel_rfl):W P G n rd (.region id all true) Q s := W.draw K bs hm hfit hst h
def ae.st {H : ZH} {f : FuncId} {fn : Func} {c : Code} {args : List ZI} {K : ZN → ZH → Prop} {rs : List ResultVar} {n : Nat} (hf : P.funcs[f]? = some fn) (h : vc P G n none c (qF P G rs H K) ⟨dD args, H⟩) (hb : fn.body = some c := by exact rfl) (hres : fn.results.toList = rs := by exact rfl) (hnt : fn.ntmps = n := by exact rfl) (hname : (fn.name == "runtime.NumGoroutine") = false := by decide) (hfit : fits n c = true := by kernel_rfl) (hargs : args.length ≤ n := by simp) : ae P G f args H K := .HU hf hb hres hnt hname hfit hargs h
def ae.sw {H : ZH} {f : FuncId} {fn : Func} {c : Code} {args : List ZI} {K : ZN → ZH → Prop} {rs : List ResultVar} {n : Nat} (hf : P.funcs[f]? = some fn) (h : W P G n none c (qF P G rs H K) ⟨dD args, H⟩) (hb : fn.body = some c := by exact rfl) (hres : fn.results.toList = rs := by exact rfl) (hnt : fn.ntmps = n := by exact rfl) (hname : (fn.name == "runtime.NumGoroutine") = false := by decide) (hargs : args.length ≤ n := by simp) : ae P G f args H K := .BJ hf hb hres hnt hname hargs h
end Go.Hx
namespace Go.Hx
variable {P:Program} {G:Nat->Option (List ZI)} {H:ZH}
def iK (H:ZH)(x:ZI):Option ZI :=
 match x with
  |.Q len _=>some (.lit (.int .i64 len))
  |.U id gen _ len _=>(H.na id gen).map fun _=>.lit (.int .i64 len)
  |.lit (.slice none 0 0)=>some (.lit (.int .i64 0))
  |_=>none
def yA (x:ZI):Option ZI :=
 match x with
  |.lit (.string s)=>some (.lit (.int .i64 s.size))
  |_=>none
def sR (d:Option TypeDesc)(H:ZH)(x:ZI):Option ZI :=
 match d with
 |some (.slice _)=>iK H x
 |some .string=>yA x
 |some (.array n _)=>some (.lit (.int .i64 n))
 |_=>none
def K7 (t:TypeId)(x:ZI):nO P H t x=sR (P.underlying t) H x:=rfl
def qM (e:TypeId)(x:ZI):sR (some (.slice e)) H x=iK H x:=rfl
def K8 (x:ZI):sR (some .string) H x=yA x:=rfl
def K9 (n:Nat)(e:TypeId)(x:ZI):sR (some (.array n e)) H x=some (.lit (.int .i64 n)):=rfl
def La (n:Nat)(l:List ZI):iK H (.Q n l)=some (.lit (.int .i64 n)):=rfl
def B7 (id g o n z:Nat):iK H (.U id g o n z)=(H.na id g).map fun _=>.lit (.int .i64 n):=rfl
def Lb:iK H (.lit (.slice none 0 0))=some (.lit (.int .i64 0)):=rfl
def Lc (s:ByteArray):yA (.lit (.string s))=some (.lit (.int .i64 s.size)):=rfl
def mO (d:Option TypeDesc)(n:Nat)(cells:List ZI)(off:Nat):Option ZI :=
 match d with
 |none=>none
 |some d=>if qj d then (if off+n<=cells.length then some (.agg ((cells.drop off).take n)) else none) else cells[off]?
def Ld (t:TypeId)(cells:List ZI)(off:Nat):iZ P t cells off=mO (P.underlying t) (P.cellsOf t) cells off:=rfl
def Le (k:IntKind)(n:Nat)(cells:List ZI)(off:Nat):mO (some (.int k)) n cells off=cells[off]?:=rfl
def Lf (n:Nat)(cells:List ZI)(off:Nat):mO (some .bool) n cells off=cells[off]?:=rfl
def Lg (n:Nat)(cells:List ZI)(off:Nat):mO (some .string) n cells off=cells[off]?:=rfl
def Lh (e:TypeId)(n:Nat)(cells:List ZI)(off:Nat):mO (some (.slice e)) n cells off=cells[off]?:=rfl
def Li (e:TypeId)(n:Nat)(cells:List ZI)(off:Nat):mO (some (.pointer e)) n cells off=cells[off]?:=rfl
def Lj (fs:Array Field)(n:Nat)(cells:List ZI)(off:Nat):mO (some (.struct fs)) n cells off=if off+n<=cells.length then some (.agg ((cells.drop off).take n)) else none:=rfl
def Lk (k:Nat)(e:TypeId)(n:Nat)(cells:List ZI)(off:Nat):mO (some (.array k e)) n cells off=if off+n<=cells.length then some (.agg ((cells.drop off).take n)) else none:=rfl
def Ll (cells vs:List ZI):setAt cells 0 vs=vs++cells.drop vs.length:=by simp[setAt]
def Lm (c:ZI)(cells vs:List ZI)(off:Nat):setAt (c :: cells) (off+1) vs=c :: setAt cells off vs:=by simp[setAt,Nat.succ_add]
def Ln (t:TypeId)(cells:List ZI)(off:Nat):ir P H t (.ni cells off)=iZ P t cells off:=rfl
def Lo (t:TypeId)(id gen off:Nat):ir P H t (.O id gen off)=(H.na id gen).bind fun ec=>iZ P t ec.2 off:=by
 simp only[ZH.na,ir];generalize H.get id=x;cases x with
 |none=>rfl
 |some b =>
  cases b with
  |J g e cells =>
   simp only;by_cases hg:g=gen
   ·rw[Vf hg,Vf hg];rfl
   ·rw[Ve hg,Ve hg];rfl
  |_=>rfl
def Lp (t:TypeId)(id gen off:Nat)(v:ZI):j9 P H t (.O id gen off) v =
  (H.na id gen).bind fun ec=>if v.cells.length=P.cellsOf t/\v.cells.all ZI.one=true/\off+v.cells.length<=ec.2.length then some (H.upd id (.J gen ec.1 (setAt ec.2 off v.cells))) else none:=by
 simp only[ZH.na,j9];generalize H.get id=x;cases x with
 |none=>rfl
 |some b =>
  cases b with
  |J g e cells =>
   simp only;by_cases hg:g=gen
   ·subst hg;simp
   ·rw[Ve hg,Ve (fun h=>hg h.1)];rfl
  |_=>rfl
def uO (H:ZH)(c:Nat)(x:ZI)(i:Int):Option ZI :=
 match x with
 |.U id gen off len sz=>if 0<=i/\i<(len:Int)/\sz=c then (H.na id gen).map fun _=>.O id gen (off+i.toNat*c) else none
 |.Q len cells=>if 0<=i/\i<(len:Int)/\cells≠[] then some (.ni cells (i.toNat*c)) else none
 |_=>none
def sS (H:ZH)(c n:Nat)(x:ZI)(i:Int):Option ZI :=
 if 0<=i/\i<(n:Int) then
   match x with
   |.O id gen off=>(H.na id gen).map fun _=>.O id gen (off+i.toNat*c)
   |.ni cells off=>some (.ni cells (off+i.toNat*c))
   |_=>none
 else none
def uP (P:Program)(H:ZH)(d:Option TypeDesc)(x:ZI)(i:Int):Option ZI :=
 match d with
 |some (.array n e)=>if (P.underlying e).isSome then sS H (P.cellsOf e) n x i else none
 |some (.slice e)=>if (P.underlying e).isSome then uO H (P.cellsOf e) x i else none
 |_=>none
def Lq (t:TypeId)(x:ZI)(k:IntKind)(i:Int):uG P H t x (.lit (.int k i))=uP P H (P.underlying t) x i:=by
 simp only[uG,nM,uP];cases P.underlying t with
 |none=>rfl
 |some d =>
  cases d with
  |array n e =>
   simp only[sS];by_cases h:(P.underlying e).isSome=true
   ·simp only[h,and_true,if_true];rfl
   ·rw[Ve h,Ve (fun h'=>h h'.2.2)]
  |slice e=>rfl
  |_=>rfl
def Lr (e:TypeId)(x:ZI)(i:Int):uP P H (some (.slice e)) x i=if (P.underlying e).isSome=true then uO H (P.cellsOf e) x i else none:=rfl
def Ls (n:Nat)(e:TypeId)(x:ZI)(i:Int):uP P H (some (.array n e)) x i=if (P.underlying e).isSome=true then sS H (P.cellsOf e) n x i else none:=rfl
def Lt (c n:Nat)(l:List ZI)(i:Int):uO H c (.Q n l) i=if 0<=i/\i<(n:Int)/\l≠[] then some (.ni l (i.toNat*c)) else none:=rfl
def Lu (c id g o n z:Nat)(i:Int):uO H c (.U id g o n z) i=if 0<=i/\i<(n:Int)/\z=c then (H.na id g).map fun _=>.O id g (o+i.toNat*c) else none:=rfl
def Lv (c n:Nat)(l:List ZI)(o:Nat)(i:Int):sS H c n (.ni l o) i=if 0<=i/\i<(n:Int) then some (.ni l (o+i.toNat*c)) else none:=rfl
def Lw (c n id g o:Nat)(i:Int):sS H c n (.O id g o) i=if 0<=i/\i<(n:Int) then (H.na id g).map fun _=>.O id g (o+i.toNat*c) else none:=rfl
def sT (H:ZH)(c:Nat)(x:ZI)(lo hi:Option ZI):Option ZI :=
   match x with
   |.U id gen off len sz=>if sz=c then (H.na id gen).bind fun _=>(cz hi len len).bind fun h=>(cz lo 0 h).map fun l=>.U id gen (off+l*sz) (h-l) sz else none
   |.Q len cells=>if cells.length=len*c then (cz hi len len).bind fun h=>(cz lo 0 h).map fun l=>.Q (h-l) ((cells.drop (l*c)).take ((h-l)*c)) else none
   |.lit (.slice none 0 0)=>(cz hi 0 0).bind fun h=>(cz lo 0 h).map fun _=>.lit (.slice none 0 0)
   |_=>none
def yB (H:ZH)(c n:Nat)(x:ZI)(lo hi:Option ZI):Option ZI :=
   match x with
   |.O id gen off =>
    match H.na id gen with
    |some (_,cells) =>
     if off+n*c<=cells.length then
      (cz hi n n).bind fun h=>(cz lo 0 h).map fun l=>.U id gen (off+l*c) (h-l) c
     else none
    |none=>none
   | .ni cells off=>if off+n*c≤cells.length then
      (cz hi n n).bind fun h=>(cz lo 0 h).map fun l=>.Q (h-l) ((cells.drop (off+l*c)).take ((h-l)*c))
     else none
   |_=>none
def yC (x:ZI)(lo hi:Option ZI):Option ZI :=
  match x with
  |.lit (.string s)=>(cz hi s.size s.size).bind fun h=>(cz lo 0 h).map fun l=>.lit (.string (s.extract l h))
  |_=>none
def uQ (P:Program)(H:ZH)(d:Option TypeDesc)(x:ZI)(lo hi:Option ZI):Option ZI :=
 match d with
 |some (.array n e)=>if (P.underlying e).isSome then yB H (P.cellsOf e) n x lo hi else none
 |some (.slice e)=>if (P.underlying e).isSome then sT H (P.cellsOf e) x lo hi else none
 |some .string=>yC x lo hi
 |_=>none
def Lx (t:TypeId)(x:ZI)(lo hi:Option ZI):nN P H t x lo hi=uQ P H (P.underlying t) x lo hi:=rfl
def Ly (e:TypeId)(x:ZI)(lo hi:Option ZI):uQ P H (some (.slice e)) x lo hi=if (P.underlying e).isSome=true then sT H (P.cellsOf e) x lo hi else none:=rfl
def Lz (n:Nat)(e:TypeId)(x:ZI)(lo hi:Option ZI):uQ P H (some (.array n e)) x lo hi=if (P.underlying e).isSome=true then yB H (P.cellsOf e) n x lo hi else none:=rfl
def LA (x:ZI)(lo hi:Option ZI):uQ P H (some .string) x lo hi=yC x lo hi:=rfl
def LB (c id g o n z:Nat)(lo hi:Option ZI):sT H c (.U id g o n z) lo hi=if z=c then (H.na id g).bind fun _=>(cz hi n n).bind fun h=>(cz lo 0 h).map fun l=>.U id g (o+l*z) (h-l) z else none:=rfl
def LC (c n:Nat)(cells:List ZI)(lo hi:Option ZI):sT H c (.Q n cells) lo hi=if cells.length=n*c then (cz hi n n).bind fun h=>(cz lo 0 h).map fun l=>.Q (h-l) ((cells.drop (l*c)).take ((h-l)*c)) else none:=rfl
def LD (c:Nat)(lo hi:Option ZI):sT H c (.lit (.slice none 0 0)) lo hi=(cz hi 0 0).bind fun h=>(cz lo 0 h).map fun _=>.lit (.slice none 0 0):=rfl
def LF (c n:Nat)(cells:List ZI)(off:Nat)(lo hi:Option ZI):yB H c n (.ni cells off) lo hi=if off+n*c<=cells.length then
      (cz hi n n).bind fun h=>(cz lo 0 h).map fun l=>.Q (h-l) ((cells.drop (off+l*c)).take ((h-l)*c)) else none:=rfl
def LG (s:ByteArray)(lo hi:Option ZI):yC (.lit (.string s)) lo hi=(cz hi s.size s.size).bind fun h=>(cz lo 0 h).map fun l=>.lit (.string (s.extract l h)):=rfl
def LH (d m:Nat):cz none d m=some d:=rfl
def LI (k:IntKind)(i:Int)(d m:Nat):cz (some (.lit (.int k i))) d m=if 0<=i/\i<=(m:Int) then some i.toNat else none:=rfl
def LJ (sz n:Nat)(l:List ZI):de H sz (.Q n l)=if l.length=n*sz then some (n,l) else none:=rfl
def sU (sz id g o n z:Nat):de H sz (.U id g o n z)=if z=sz then (H.na id g).map fun x=>(n,(x.2.drop o).take (n*sz)) else none:=rfl
def yD (sz:Nat):de H sz (.lit (.slice none 0 0))=some (0,[]):=rfl
def uR (P:Program)(H:ZH)(id:Nat)(d0 d1:Option TypeDesc)(s x:ZI):Option (ZI × ZH) :=
 match d0,d1 with
 | some (.slice e),some (.slice _)=>(bQ P e).bind fun _=>(de H (P.cellsOf e) x).bind fun nx =>
    match s with
    |.lit (.slice none 0 0) =>
     if nx.1=0 then some (s,H)
     else if nx.1*P.bytesOf e<=2 ^ 46/\nx.1<=2 ^ 46 then (H.lay id (.J 0 e nx.2)).map fun H'=>(.U id 0 0 nx.1 (P.cellsOf e),H')
     else none
    |.U id' gen off len sz =>
     (H.na id' gen).bind fun ec =>
      if ec.1=e/\sz=P.cellsOf e/\off+len*sz=ec.2.length/\(len+nx.1)*P.bytesOf e<=2 ^ 46/\len+nx.1<=2 ^ 46/\nx.2.all ZI.one=true then
       if nx.1=0 then some (s,H)
       else some (.U id' (gen+1) 0 (len+nx.1) sz,H.upd id' (.J (gen+1) e (ec.2.drop off++nx.2)))
      else none
    |_=>none
 |_,_=>none
def aB (id:Nat)(t u:TypeId)(s x:ZI):bU P H id t u s x=uR P H id (P.underlying t) (P.underlying u) s x:=by
 unfold bU uR;cases P.underlying t with
 |none=>rfl
 |some d =>
  cases d with
  |slice e =>
   cases P.underlying u with
   |none=>rfl
   |some d'=>cases d'<;>rfl
  |_=>rfl
def LK (id:Nat)(e u:TypeId)(x:ZI):uR P H id (some (.slice e)) (some (.slice u)) (.lit (.slice none 0 0)) x=(bQ P e).bind fun _=>(de H (P.cellsOf e) x).bind fun nx =>
  if nx.1=0 then some (.lit (.slice none 0 0),H) else if nx.1*P.bytesOf e<=2 ^ 46/\nx.1<=2 ^ 46 then (H.lay id (.J 0 e nx.2)).map fun H'=>(.U id 0 0 nx.1 (P.cellsOf e),H') else none:=rfl
def LL (id:Nat)(e u:TypeId)(x:ZI)(id' gen off len sz:Nat):uR P H id (some (.slice e)) (some (.slice u)) (.U id' gen off len sz) x=(bQ P e).bind fun _=>(de H (P.cellsOf e) x).bind fun nx =>
  (H.na id' gen).bind fun ec =>
      if ec.1=e/\sz=P.cellsOf e/\off+len*sz=ec.2.length/\(len+nx.1)*P.bytesOf e<=2 ^ 46/\len+nx.1<=2 ^ 46/\nx.2.all ZI.one=true then
       if nx.1=0 then some (.U id' gen off len sz,H)
       else some (.U id' (gen+1) 0 (len+nx.1) sz,H.upd id' (.J (gen+1) e (ec.2.drop off++nx.2)))
      else none:=rfl
def B8 (P:Program)(H:ZH)(d0:Option TypeDesc)(d x:ZI):Option (ZI × ZH) :=
 match d0 with
 |some (.slice e) =>
  if (P.underlying e).isSome then
   (de H (P.cellsOf e) x).bind fun nx =>
    match d with
    |.U id gen off len sz =>
     (H.na id gen).bind fun ec =>
      if sz=P.cellsOf e/\off+len*sz<=ec.2.length/\nx.2.all ZI.one=true then
       some (.lit (.int .i64 (min nx.1 len:Nat)),H.upd id (.J gen ec.1 (setAt ec.2 off (nx.2.take (min nx.1 len*sz)))))
      else none
    |_=>none
  else none
 |_=>none
def LM (t:TypeId)(d x:ZI):lU P H t d x=B8 P H (P.underlying t) d x:=rfl
def LN (e:TypeId)(id gen off len sz:Nat)(x:ZI):B8 P H (some (.slice e)) (.U id gen off len sz) x=if (P.underlying e).isSome=true then
   (de H (P.cellsOf e) x).bind fun nx=>(H.na id gen).bind fun ec =>
      if sz=P.cellsOf e/\off+len*sz<=ec.2.length/\nx.2.all ZI.one=true then
       some (.lit (.int .i64 (min nx.1 len:Nat)),H.upd id (.J gen ec.1 (setAt ec.2 off (nx.2.take (min nx.1 len*sz)))))
      else none
   else none:=rfl
def yE (P:Program)(H:ZH)(id:Nat)(d:Option TypeDesc)(l c:ZI):Option (ZI × ZH) :=
 match d,l,c with
 |some (.slice e),.lit (.int _ l),.lit (.int _ c) =>
  if 0<=l/\l<=c/\c*P.bytesOf e<=2 ^ 46/\c<=2 ^ 46 then
   (ke P e l.toNat).bind fun cells=>(H.lay id (.J 0 e cells)).map fun H'=>(.U id 0 0 l.toNat (P.cellsOf e),H')
  else none
 |_,_,_=>none
def LO (id:Nat)(t:TypeId)(l c:ZI):mF P H id t l c=yE P H id (P.underlying t) l c:=by
 unfold mF yE;cases P.underlying t with
 |none=>rfl
 |some d=>rfl
def LP (id:Nat)(e:TypeId)(k k':IntKind)(l c:Int):yE P H id (some (.slice e)) (.lit (.int k l)) (.lit (.int k' c))=if 0<=l/\l<=c/\c*P.bytesOf e<=2 ^ 46/\c<=2 ^ 46 then
   (ke P e l.toNat).bind fun cells=>(H.lay id (.J 0 e cells)).map fun H'=>(.U id 0 0 l.toNat (P.cellsOf e),H')
  else none:=rfl
def B9 (e:TypeId)(n:Nat):ke P e n=(bQ P e).map fun z=>(List.replicate n z).flatten:=rfl
def Ca (n:Nat)(v:ZI):(List.replicate n [v]).flatten=List.replicate n v:=by
 induction n with
 |zero=>rfl
 |succ n ih=>rw[W1,List.flatten_cons,ih,W1];rfl
def Cb (P:Program)(H:ZH)(id:Nat)(d:Option TypeDesc)(len:Nat)(parts:List (Nat × ZI)):Option (ZI × ZH) :=
 match d with
 |some (.slice e) =>
  if len*P.cellsOf e<=2 ^ 24 then
   (ke P e len).bind fun z=>(fV (fun i=>some (i*P.cellsOf e,P.cellsOf e)) z parts).bind fun cells =>
    (H.lay id (.J 0 e cells)).map fun H'=>(.U id 0 0 len (P.cellsOf e),H')
  else none
 |_=>none
def LR (id:Nat)(t:TypeId)(len:Nat)(parts:List (Nat × ZI)):nP P H id t len parts=Cb P H id (P.underlying t) len parts:=rfl
def LS (id:Nat)(e:TypeId)(len:Nat)(parts:List (Nat × ZI)):Cb P H id (some (.slice e)) len parts=if len*P.cellsOf e<=2 ^ 24 then
   (ke P e len).bind fun z=>(fV (fun i=>some (i*P.cellsOf e,P.cellsOf e)) z parts).bind fun cells =>
    (H.lay id (.J 0 e cells)).map fun H'=>(.U id 0 0 len (P.cellsOf e),H')
  else none:=rfl
def yF (P:Program)(t:TypeId)(d:Option TypeDesc)(parts:List (Nat × ZI)):Option ZI :=
 (bQ P t).bind fun z =>
  match d with
  |some (.struct _)=>(ja P t).bind fun pl=>(fV (fun i=>pl[i]?) z parts).map .agg
  |some (.array _ e)=>if (P.underlying e).isSome then (fV (fun i=>some (i*P.cellsOf e,P.cellsOf e)) z parts).map .agg else none
  |_=>none
def LU (t:TypeId)(parts:List (Nat × ZI)):sh P t parts=yF P t (P.underlying t) parts:=rfl
def LV (t:TypeId)(fs:Array Field)(parts:List (Nat × ZI)):yF P t (some (.struct fs)) parts=(bQ P t).bind fun z=>(ja P t).bind fun pl=>(fV (fun i=>pl[i]?) z parts).map .agg:=rfl
def LW (t:TypeId)(n:Nat)(e:TypeId)(parts:List (Nat × ZI)):yF P t (some (.array n e)) parts=(bQ P t).bind fun z=>if (P.underlying e).isSome=true then (fV (fun i=>some (i*P.cellsOf e,P.cellsOf e)) z parts).map .agg else none:=rfl
def LX (pl:Nat->Option (Nat × Nat))(cells:List ZI):fV pl cells []=some cells:=rfl
def LY (pl:Nat->Option (Nat × Nat))(cells:List ZI)(i:Nat)(v:ZI)(rest:List (Nat × ZI)):fV pl cells ((i,v) :: rest)=(pl i).bind fun os =>
  if v.cells.length=os.2/\os.1+v.cells.length<=cells.length then fV pl (setAt cells os.1 v.cells) rest else none:=by
 simp only[fV];cases pl i<;>rfl
def LZ (k:IntKind)(n:Int):(ZI.lit (.int k n)).cells=[.lit (.int k n)]:=rfl
def L1 (b:Bool):(ZI.lit (.bool b)).cells=[.lit (.bool b)]:=rfl
def L3 (s:ByteArray):(ZI.lit (.string s)).cells=[.lit (.string s)]:=rfl
def L4 (a:Option Addr)(n c:Nat):(ZI.lit (.slice a n c)).cells=[.lit (.slice a n c)]:=rfl
def L5 (l:List ZI):(ZI.agg l).cells=l:=rfl
def L6 (n:Nat)(l:List ZI):(ZI.Q n l).cells=[.Q n l]:=rfl
def L7 (a b c d e:Nat):(ZI.U a b c d e).cells=[.U a b c d e]:=rfl
def L8 (a b c:Nat):(ZI.O a b c).cells=[.O a b c]:=rfl
def L9 (k:IntKind)(n:Int):(ZI.lit (.int k n)).one=true:=rfl
def Ma (b:Bool):(ZI.lit (.bool b)).one=true:=rfl
def Mb (s:ByteArray):(ZI.lit (.string s)).one=true:=rfl
def Mc (a:Option Addr)(n c:Nat):(ZI.lit (.slice a n c)).one=true:=rfl
def Md (n:Nat)(l:List ZI):(ZI.Q n l).one=true:=rfl
def Me (a b c d e:Nat):(ZI.U a b c d e).one=true:=rfl
def Mf (a b c:Nat):(ZI.O a b c).one=true:=rfl
def aa (n:Int):ZI:=.lit (.int .i64 n)
def ints (l:List Int):List ZI:=l.map aa
def af (l:List Int):ZI:=.Q l.length (ints l)
def bE (l:List Int):(ints l).length=l.length:=Vx ..
def gY (l:List Int)(i:Nat):(ints l)[i]?=(l[i]?).map aa:=List.getElem?_map ..
def yu (l:List Int):ints l=[]↔l=[]:=List.map_eq_nil_iff
end Go.Hx
namespace Go.Hx
variable {P:Program} {G:Nat->Option (List ZI)} {Γ Γ':aE} {H H':ZH} {w w':World}
variable {f:FuncId}{args:List ZI}{id nx:Nat}{S:Nat->Prop}{v v':ZI}{K:ZN->ZH->Prop}
inductive Below (n:Nat):ZI->Prop
 |lit (v:Value):Below n (.lit v)
 |Q {len:Nat} {cells:List ZI} (h:∀i (h:i<cells.length),Below n cells[i]):Below n (.Q len cells)
 |ni {off:Nat} {cells:List ZI} (h:∀i (h:i<cells.length),Below n cells[i]):Below n (.ni cells off)
 |agg {cells:List ZI} (h:∀i (h:i<cells.length),Below n cells[i]):Below n (.agg cells)
 |nc {cells:List ZI} (h:∀i (h:i<cells.length),Below n cells[i]):Below n (.nc cells)
 |X {f:FuncId} {a b:List ZI} (h1:∀i (h:i<a.length),Below n a[i]) (h2:∀i (h:i<b.length),Below n b[i]):Below n (.X f a b)
 |U {id g o l z:Nat} (h:id<n):Below n (.U id g o l z)
 |O {id g o:Nat} (h:id<n):Below n (.O id g o)
 |nk {id:Nat} (h:id<n):Below n (.nk id)
def ZL.sO {cv:Value}(h:ZL P Γ H w v cv):Below H.A v:=by
 induction h with
 |lit v=>exact .lit v
 |nw a cap=>exact .Q fun i h=>absurd h (Vs _)
 |Q hb hlt hlen hcs hcell hrel ih=>exact .Q fun i h=>ih i h (V)
 |U h=>exact .U h.1
 |O h=>exact .O h.1
 |ni hb hlt hcs hcell hrel ih=>exact .ni fun i h=>ih i h (V)
 |agg hcs hrel ih=>exact .agg fun i h=>ih i h (V)
 |nc hcs hrel ih=>exact .nc fun i h=>ih i h (V)
 |X hfs hcs hf hc ih1 ih2=>exact .X (fun i h=>ih1 i h V) fun i h=>ih2 i h (V)
 |nk h=>exact .nk h.1
def sP (n:Nat):ZO->Prop
 |.J _ _ cells=>∀i (h:i<cells.length),Below n cells[i]
 |.loop _ _ m env _ _ _=>∀t,t<m->Below n (env t)
 |.mp _=>True
 |.nq=>True
structure Clo (H:ZH):Prop where
 lt:∀id b,H.get id=some b->id<H.A
 below:∀id b,H.get id=some b->sP H.A b
theorem ZQ.X (R:ZQ P G Γ H w):Clo H:=by
 refine⟨fun id b h=>R.A id b h,fun id b h=>?_⟩;cases b with
 |nq=>trivial
 |mp=>trivial
 |J g e cells =>
  intro i hi;have h1:=R.J id g e cells h;split at h1
  ·obtain⟨c,_,_,_,h5⟩:=h1;obtain⟨cv,_,h6⟩:=h5 i hi;exact h6.sO
  ·subst h1;exact absurd hi (Vs _)
 |loop st pend n env ps asg body =>
  intro t ht;obtain⟨b,r,_,_,_,_,_,_,_,h8,h9⟩:=R.loop id st pend n env ps asg body h;exact(h9 t V).sO
inductive Fz (S:Nat->Prop)(H:ZH)(nx:Nat):ZI->ZI->Prop
 |lit (v:Value):Fz S H nx (.lit v) (.lit v)
 |Q {len:Nat} {c c':List ZI} (hl:c'.length=c.length) (h:∀i (h:i<c.length) (h':i<c'.length),Fz S H nx c[i] c'[i]):Fz S H nx (.Q len c) (.Q len c')
 |ni {off:Nat} {c c':List ZI} (hl:c'.length=c.length) (h:∀i (h:i<c.length) (h':i<c'.length),Fz S H nx c[i] c'[i]):Fz S H nx (.ni c off) (.ni c' off)
 |agg {c c':List ZI} (hl:c'.length=c.length) (h:∀i (h:i<c.length) (h':i<c'.length),Fz S H nx c[i] c'[i]):Fz S H nx (.agg c) (.agg c')
 |nc {c c':List ZI} (hl:c'.length=c.length) (h:∀i (h:i<c.length) (h':i<c'.length),Fz S H nx c[i] c'[i]):Fz S H nx (.nc c) (.nc c')
 |X {f:FuncId} {a a' b b':List ZI} (ha:a'.length=a.length) (hb:b'.length=b.length) (h1:∀i (h:i<a.length) (h':i<a'.length),Fz S H nx a[i] a'[i]) (h2:∀i (h:i<b.length) (h':i<b'.length),Fz S H nx b[i] b'[i]):Fz S H nx (.X f a b) (.X f a' b')
 |U {id g o l z:Nat} (h:id<nx) (hs:¬S id):Fz S H nx (.U id g o l z) (.U id g o l z)
 |O {id g o:Nat} (h:id<nx) (hs:¬S id):Fz S H nx (.O id g o) (.O id g o)
 |nk {id:Nat} (h:id<nx) (hs:¬S id):Fz S H nx (.nk id) (.nk id)
 |deadOwn {id g o l z:Nat} (h:id<nx) (hs:S id):Fz S H nx (.U id g o l z) (.U id g o l z)
 |deadPtr {id g o:Nat} (h:id<nx) (hs:S id):Fz S H nx (.O id g o) (.O id g o)
 |deadYld {id:Nat} (h:id<nx) (hs:S id):Fz S H nx (.nk id) (.nk id)
 |nil:Fz S H nx (.lit (.slice none 0 0)) (.Q 0 [])
 |nz {id g o l z:Nat} {e:TypeId} {cells c':List ZI} (hs:S id) (hg:H.get id=some (.J g e cells)) (hl:c'.length=l*z)
   (h:∀i (h:i<l*z) (h2:o+i<cells.length) (h':i<c'.length),Fz S H nx cells[o+i] c'[i]):Fz S H nx (.U id g o l z) (.Q l c')
 |nN {id g o:Nat} {e:TypeId} {cells c':List ZI} (hs:S id) (hg:H.get id=some (.J g e cells)) (hne:cells≠[]) (hl:c'.length=cells.length)
   (h:∀i (h:i<cells.length) (h':i<c'.length),Fz S H nx cells[i] c'[i]):Fz S H nx (.O id g o) (.ni c' o)
def Fz.refl {H:ZH}(h:Below nx v)(hs:∀id,id<nx->¬S id):Fz S H nx v v:=by
 induction h with
 |lit v=>exact .lit v
 |Q _ ih=>exact .Q rfl fun i h _=>ih i h
 |ni _ ih=>exact .ni rfl fun i h _=>ih i h
 |agg _ ih=>exact .agg rfl fun i h _=>ih i h
 |nc _ ih=>exact .nc rfl fun i h _=>ih i h
 |X _ _ ih1 ih2=>exact .X rfl rfl (fun i h _=>ih1 i h) fun i h _=>ih2 i h
 |U h=>exact .U h (hs _ h)
 |O h=>exact .O h (hs _ h)
 |nk h=>exact .nk h (hs _ h)
def B5 (S:Nat->Prop)(H:ZH)(nx:Nat):ZO->ZO->Prop
 |.J g e c,.J g' e' c'=>g'=g/\e'=e/\c'.length=c.length/\∀i (_:i<c.length) (_:i<c'.length),Fz S H nx c[i] c'[i]
 |.loop st pend n env ps asg body,.loop st' pend' n' env' ps' asg' body'=>st'=st/\pend'=pend/\n'=n/\env'=env/\ps'=ps/\asg'=asg/\body'=body/\∀t,t<n->Fz S H nx (env t) (env t)
 |.mp es,.mp es'=>es'=es
 |.nq,.nq=>True
 |_,_=>False
structure FzH (S:Nat->Prop)(H H':ZH):Prop where
 gone:∀id,S id->H'.get id=none
 kept:∀id b,¬S id->H.get id=some b->id<H'.A/\∃b',H'.get id=some b'/\B5 S H H'.A b b'
 none:∀id,¬S id->H.get id=none->H'.get id=none
open Classical in
noncomputable def gI (S:Nat->Prop)(Γ:aE):aE:=fun id=>if S id then none else Γ id
def jL (h:¬S id):gI S Γ id=Γ id:=by simp[gI,h]
def kU {x:Nat × Nat × Nat}(h:gI S Γ id=some x):¬S id/\Γ id=some x:=by
 unfold gI at h;split at h
 ·cases h
 ·exact⟨by assumption,h⟩
def uM {b:Nat}(h:(gI S Γ).fJ b):Γ.fJ b:=by
 obtain⟨id,base,n,h⟩:=h;exact⟨id,base,n,(kU h).2⟩
def FzH.back (F:FzH S H H'){b':ZO}(h:H'.get id=some b'):¬S id/\∃b,H.get id=some b/\B5 S H H'.A b b'/\id<H'.A:=by
 have hs:¬S id:=fun hs=>by rw[F.gone id hs]at h;cases h
 refine⟨hs,?_⟩;cases hg:H.get id with
 |none=>rw[F.none id hs hg]at h;cases h
 |some b =>
  obtain⟨h1,b1,h2,h3⟩:=F.kept id b hs hg;rw[h]at h2;cases h2;exact⟨b,rfl,h3,h1⟩
def Fz.sound (R:ZQ P G Γ H w)(F:FzH S H H')(hf:Fz S H H'.A v v'):∀ {cv:Value},ZL P Γ H w v cv->ZL P (gI S Γ) H' w v' cv:=by
 induction hf with
 |lit v=>intro cv h;cases h;exact .lit _
 |nil=>intro cv h;cases h;exact .nw none 0
 |deadOwn hlt hs =>
  intro cv h;cases h with
  |U h=>exact .U ⟨hlt,h.2.1,fun hr=>(by rw[F.gone _ hs]at hr;cases hr),fun _ _ _ hg=>(by rw[F.gone _ hs]at hg;cases hg)⟩
 |deadPtr hlt hs =>
  intro cv h;cases h with
  |O h=>exact .O ⟨hlt,h.2.1,fun hr=>(by rw[F.gone _ hs]at hr;cases hr),fun _ _ _ hg=>(by rw[F.gone _ hs]at hg;cases hg)⟩
 |deadYld hlt hs =>
  intro cv h;cases h with
  |nk h=>exact .nk ⟨hlt,h.2.1,fun hr=>(by rw[F.gone _ hs]at hr;cases hr),fun _ _ _ _ _ _ _ hg=>(by rw[F.gone _ hs]at hg;cases hg),fun _ hg=>(by rw[F.gone _ hs]at hg;cases hg)⟩
 |Q hl hc ih =>
  intro cv h;cases h with
  |nw a cap =>
   rename_i c';have:c'=[]:=Vn hl;subst this;exact .nw a cap
  |Q hb hlt hlen hcs hcell hrel=>exact .Q (fun h=>hb (uM h)) hlt hlen V hcell fun i h1 h2=>ih i V h1 (hrel i V h2)
 |ni hl hc ih =>
  intro cv h;cases h with
  |ni hb hlt hcs hcell hrel=>exact .ni (fun h=>hb (uM h)) hlt V hcell fun i h1 h2=>ih i V h1 (hrel i V h2)
 |agg hl hc ih =>
  intro cv h;cases h with
  |agg hcs hrel=>exact .agg V fun i h1 h2=>ih i V h1 (hrel i V h2)
 |nc hl hc ih =>
  intro cv h;cases h with
  |nc hcs hrel=>exact .nc V fun i h1 h2=>ih i V h1 (hrel i V h2)
 |X ha hb h1 h2 ih1 ih2 =>
  intro cv h;cases h with
  |X hfs hcs hf hc=>exact .X V V (fun i a b=>ih1 i V a (hf i V b)) fun i a b=>ih2 i V a (hc i V b)
 |U hlt hs =>
  intro cv h;cases h with
  |U h =>
   obtain⟨h1,h2,h0,h3⟩:=h;refine .U ⟨hlt,h2,fun hr=>?_,fun g' e' cells' hg'=>?_⟩
   ·obtain⟨_,b,hb,hfb,_⟩:=F.back hr;cases b with
    |nq=>exact h0 hb
    |_=>exact hfb.elim
   ·obtain⟨_,b,hb,hfb,_⟩:=F.back hg';cases b with
    |J g e cells =>
     obtain⟨rfl,rfl,hlen,_⟩:=hfb;have:=h3 _ _ _ hb;rw[jL hs,hlen];exact this
    |_=>exact hfb.elim
 |O hlt hs =>
  intro cv h;cases h with
  |O h =>
   obtain⟨h1,h2,h0,h3⟩:=h;refine .O ⟨hlt,h2,fun hr=>?_,fun g' e' cells' hg'=>?_⟩
   ·obtain⟨_,b,hb,hfb,_⟩:=F.back hr;cases b with
    |nq=>exact h0 hb
    |_=>exact hfb.elim
   ·obtain⟨_,b,hb,hfb,_⟩:=F.back hg';cases b with
    |J g e cells =>
     obtain⟨rfl,rfl,hlen,_⟩:=hfb;have:=h3 _ _ _ hb;rw[jL hs];exact this
    |_=>exact hfb.elim
 |nk hlt hs =>
  intro cv h;cases h with
  |nk h =>
   obtain⟨h1,h2,h0,h3,h4⟩:=h;refine .nk ⟨hlt,h2,fun hr=>?_,fun st pend n env ps asg body hg'=>?_,fun es hg'=>?_⟩
   ·obtain⟨_,b,hb,hfb,_⟩:=F.back hr;cases b with
    |nq=>exact h0 hb
    |_=>exact hfb.elim
   ·obtain⟨_,b,hb,hfb,_⟩:=F.back hg';cases b with
    |loop st0 pend0 n0 env0 ps0 asg0 body0 =>
     have:=h3 _ _ _ _ _ _ _ hb;rw[jL hs];exact this
    |_=>exact hfb.elim
   ·obtain⟨_,b,hb,hfb,_⟩:=F.back hg';cases b with
    |mp es0 =>
     have:=h4 _ hb;rw[jL hs];exact this
    |_=>exact hfb.elim
 | @nz id g o l z e cells c' hs hg hl hc ih =>
  intro cv h;cases h with
  |U h =>
   obtain⟨h1,h2,h0,h3⟩:=h;have h4:=(h3 _ _ _ hg).2 rfl;have harr:=R.J id g e cells hg;cases hΓ:Γ id with
   |none =>
    rw[hΓ]at h4;obtain⟨rfl,rfl,rfl⟩:=h4;have:c'=[]:=Vn (by simpa using hl);subst this;exact .nw _ _
   |some y =>
    obtain⟨b,base,n⟩:=y;rw[hΓ]at h4 harr;obtain⟨a,cap,rfl,hcap,hoff,hor⟩:=h4;obtain⟨c,a1,a2,a3,a4⟩:=harr;rcases hor with ⟨rfl,hn⟩|⟨rfl,rfl⟩
    ·have hcell:∀i,i<l*z->∃cv,c[base+(o+i)]?=some cv/\∀(h:o+i<cells.length),ZL P Γ H w cells[o+i] cv:=fun i hi=>by
      obtain⟨cv,b1,b2⟩:=a4 (o+i) V;exact⟨cv,b1,fun _=>b2⟩
     let cs:List Value:=(List.range (l*z)).map fun i=>(c[base+(o+i)]?).getD undef
     have hcs:cs.length=c'.length:=(by simp[cs,hl]);refine .Q (cs:=cs) (fun ho=>?_) (R.lt _ _ _ _ hΓ) hcap hcs (fun i hi=>?_) fun i hi hi'=>?_
     ·obtain⟨id',base',n',h'⟩:=ho;obtain⟨hns,h''⟩:=kU h';have:=R.inj _ _ _ _ _ _ _ h'' hΓ;subst this;exact hns hs
     ·have hi2:i<l*z:=(by rw[hcs,hl]at hi;exact hi);obtain⟨cv,b1,_⟩:=hcell i hi2;have:cs[i]=cv:=(by simp[cs,b1]);rw[this];have he:base+o+i=base+(o+i):=V;simp only[World.cell?,a1,he];exact b1
     ·have hi2:i<l*z:=(by rw[hl]at hi;exact hi);obtain⟨cv,b1,b2⟩:=hcell i hi2;have:cs[i]=cv:=(by simp[cs,b1]);rw[this];exact ih i hi2 V hi (b2 V)
    ·have:c'=[]:=Vn (by simpa using hl);subst this;exact .nw _ _
 | @nN id g o e cells c' hs hg hne hl hc ih =>
  intro cv h;cases h with
  |O h =>
   obtain⟨h1,h2,h0,h3⟩:=h;obtain⟨b,base,n,hΓ,rfl⟩:=(h3 _ _ _ hg).2 rfl;have harr:=R.J id g e cells hg;rw[hΓ]at harr;obtain⟨c,a1,a2,a3,a4⟩:=harr
   let cs:List Value:=(List.range cells.length).map fun i=>(c[base+i]?).getD undef
   have hcs:cs.length=c'.length:=(by simp[cs,hl]);have hcell:∀i (hi:i<cells.length) (hi':i<cs.length),c[base+i]?=some cs[i]/\ZL P Γ H w cells[i] cs[i]:=fun i hi hi'=>by
    obtain⟨cv,b1,b2⟩:=a4 i hi;have:cs[i]=cv:=(by simp[cs,b1]);rw[this];exact⟨b1,b2⟩
   refine .ni (cs:=cs) (fun ho=>?_) (R.lt _ _ _ _ hΓ) hcs (fun i hi=>?_) fun i hi hi'=>?_
   ·obtain⟨id',base',n',h'⟩:=ho;obtain⟨hns,h''⟩:=kU h';have:=R.inj _ _ _ _ _ _ _ h'' hΓ;subst this;exact hns hs
   ·simp only[World.cell?,a1];exact(hcell i V hi).1
   ·exact ih i V hi (hcell i V hi').2
def Fz.plain {H:ZH}(h:Below 0 v):Fz S H nx v v:=by
 induction h with
 |lit v=>exact .lit v
 |Q _ ih=>exact .Q rfl fun i h _=>ih i h
 |ni _ ih=>exact .ni rfl fun i h _=>ih i h
 |agg _ ih=>exact .agg rfl fun i h _=>ih i h
 |nc _ ih=>exact .nc rfl fun i h _=>ih i h
 |X _ _ ih1 ih2=>exact .X rfl rfl (fun i h _=>ih1 i h) fun i h _=>ih2 i h
 |U h=>exact absurd h (Vs _)
 |O h=>exact absurd h (Vs _)
 |nk h=>exact absurd h (Vs _)
theorem Fz.ints {H:ZH}{g o:Nat}{e:TypeId}{cells:List ZI}{x:List Int}{n:Nat}(hs:S id)(hg:H.get id=some (.J g e cells))(hn:n=x.length)(hx:∀i (h:i<x.length),cells[o+i]?=some (aa x[i])):
  Fz S H nx (.U id g o n 1) (af x):=by
 subst hn;refine .nz hs hg (by simp[Go.Hx.ints]) fun i hi h2 h'=>?_;have h1:=hx i V;rw[Vd h2]at h1;rw[Option.some.inj h1];have:(Go.Hx.ints x)[i]=aa x[i]:=by simp[Go.Hx.ints]
 rw[this];exact .lit _
def Fz.yu {H:ZH}:Fz S H nx (.lit (.slice none 0 0)) (af []):=.nil
def Fz.ee {H:ZH}(x:List Int):Fz S H nx (af x) (af x) :=
 .plain (.Q fun i h=>by simp only[Go.Hx.ints,Vt];exact .lit _)
def kV (x:List Int):(Go.Hx.ints x).all ZI.one=true:=by simp[Go.Hx.ints,aa,ZI.one,Value.oneCell]
def fB (G:Nat->Option (List ZI)):Prop:=∀g cells,G g=some cells->Below 0 (.ni cells 0)
def FzH.aZ (F:FzH S H H'):ZS Γ H w (gI S Γ) H' w where
 os:=rfl
 tape:=rfl
 output:=rfl
 size:=ZG
 ng:=fun _ _ h=>⟨rfl,fun h'=>h (uM h')⟩
 na:=fun id _ _ x' hx=>by
  obtain⟨hs,b,hb,hfb,_⟩:=F.back hx;refine⟨b,hb,?_⟩;cases b<;>cases x'<;>first|exact hfb.elim|skip
  ·obtain⟨rfl,rfl,hl,_⟩:=hfb;exact⟨ZG,fun _=>⟨jL hs,rfl,hl⟩⟩
  ·obtain⟨rfl,rfl,rfl,rfl,rfl,rfl,rfl,_⟩:=hfb;exact⟨jL hs,rfl,rfl,rfl,rfl,rfl⟩
  ·exact jL hs
  ·trivial
 nz:=fun _ _=>rfl
 kind:=.refl _
 newb:=fun _ _ x y h _=>⟨x,y,(kU h).2⟩
def FzH.rel (hG:fB G)(R:ZQ P G Γ H w)(F:FzH S H H'):ZQ P G (gI S Γ) H' w where
 J id g e cells hg:=by
  obtain⟨hs,b,hb,hfb,_⟩:=F.back hg;cases b with
  |J g0 e0 c0 =>
   obtain⟨rfl,rfl,hl,hc⟩:=hfb;have h1:=R.J _ _ _ _ hb;rw[jL hs];cases hΓ:Γ id with
   |none =>
    rw[hΓ]at h1;simp only at h1 ⊢;subst h1;exact Vn hl
   |some y =>
    obtain⟨b,base,n⟩:=y;rw[hΓ]at h1;obtain⟨c,a1,a2,a3,a4⟩:=h1;refine⟨c,a1,a2,V,fun i hi=>?_⟩;obtain⟨cv,b1,b2⟩:=a4 i V;exact⟨cv,b1,(hc i V hi).sound R F b2⟩
  |_=>exact hfb.elim
 loop id st pend n env ps asg body hg:=by
  obtain⟨hs,b,hb,hfb,_⟩:=F.back hg;cases b with
  |loop =>
   obtain⟨rfl,rfl,rfl,rfl,rfl,rfl,rfl,hf⟩:=hfb;obtain⟨b,rr,a1,a2,a3,a4,a5,a6,a7,a8,a9⟩:=R.loop _ _ _ _ _ _ _ _ hb;exact⟨b,rr,by rw[jL hs];exact a1,a2,a3,a4,a5,a6,a7,a8,fun t ht=>(hf t V).sound R F (a9 t ht)⟩
  |_=>exact hfb.elim
 mp id es hg:=by
  obtain⟨hs,b,hb,hfb,_⟩:=F.back hg;cases b with
  |mp es0 =>
   have hfb':es=es0:=hfb;subst hfb';obtain⟨b,a1,a2⟩:=R.mp _ _ hb;exact⟨b,by rw[jL hs];exact a1,a2⟩
  |_=>exact hfb.elim
 nq id hg:=by
  obtain⟨hs,b,hb,hfb,_⟩:=F.back hg;cases b with
  |nq=>rw[jL hs];exact R.nq id hb
  |_=>exact hfb.elim
 inj id id' b base n base' n' h h':=R.inj id id' b base n base' n' (kU h).2 (kU h').2
 nF id x h:=by
  obtain⟨hs,h⟩:=kU h;obtain⟨y,hy⟩:=R.nF id x h;obtain⟨_,b',hb',_⟩:=F.kept id y hs hy;exact⟨b',hb'⟩
 lt id b base n h:=R.lt id b base n (kU h).2
 A id y h:=by
  obtain⟨_,_,_,_,h⟩:=F.back h;exact h
 nE g cells h:=(Fz.plain (hG g cells h)).sound R F (R.nE g cells h)
 gsz:=R.gsz
def iz.freeze (hG:fB G)(F:FzH S H H')(hv:Fz S H H'.A v v'):iz P G H v H' v' :=
 fun Γ _ R=>⟨gI S Γ,F.rel hG R,F.aZ,fun _ h=>hv.sound R F h⟩
def eZ.freeze (hG:fB G){s s':St}(F:FzH S s.H s'.H)(hv:∀t,Fz S s.H s'.H.A (s.ρ t) (s'.ρ t)):eZ P G s s':=by
 intro n wb Γ a w hs;have E:ZS Γ s.H w (gI S Γ) s'.H w:=F.aZ;refine⟨gI S Γ,⟨hs.size,fun t=>(hv t).sound hs.heap F (hs.env t),F.rel hG hs.heap,hs.defers.aZ E,hs.low⟩,E,fun rd rb hr hri=>?_⟩;cases rd with
 |none=>exact hr
 |some id =>
  obtain⟨b,st,pend,n,env,ps,asg,body,h1,h2,h3⟩:=hr;obtain⟨st',pend',n',env',ps',asg',body',h4⟩:=hri;obtain⟨hns,_⟩:=F.back h4;exact⟨b,_,_,_,_,_,_,_,h1,by rw[jL hns];exact h2,h4⟩
def KU (hc:Clo H)(L:List ZO):FzH (fun id=>H.A<=id) (ext H L) H where
 gone id hs:=by
  cases h:H.get id with
  |none=>rfl
  |some b=>have:=hc.lt id b h;omega
 kept id b hs hb:=by
  have hlt:id<H.A:=Wo hs;rw[dc H L id hlt]at hb;have hbb:=hc.below id b hb;refine⟨hlt,b,hb,?_⟩;have hno:∀i,i<H.A->¬H.A<=i:=fun i h=>Nat.not_le_of_lt h;cases b with
  |nq=>trivial
  |mp=>rfl
  |J g e cells=>exact⟨rfl,rfl,rfl,fun i h _=>.refl (hbb i h) hno⟩
  |loop st pend n env ps asg body=>exact⟨rfl,rfl,rfl,rfl,rfl,rfl,rfl,fun t ht=>.refl (hbb t ht) hno⟩
 none id hs hb:=by
  rw[dc H L id (Wo hs)]at hb;exact hb
def ak.drop (hG:fB G)(hc:Clo H){L:List ZO}(hv:Fz (fun id=>H.A<=id) (ext H L) H.A v v')(hk:K (.ret v') H):ak P G H K v (ext H L) :=
 ⟨v',H,.freeze hG (KU hc L) hv,ZG,hk⟩
def ak.KV (hG:fB G)(hc:Clo H)(hv:Fz (fun id=>H.A<=id) (ext H []) H.A v v')(hk:K (.ret v') H):ak P G H K v H:=by
 have:=ak.drop (P:=P) hG hc hv hk;rw[ext_nil]at this;exact this
theorem ae.X {f : FuncId} {args : List ZI} {K : ZN → ZH → Prop} (hf : ∃ fn, P.funcs[f]? = some fn ∧ fn.body.isNone = false ∧ (fn.name == "runtime.NumGoroutine") = false) (h : Clo H → ae P G f args H K) : ae P G f args H K :=
 ⟨hf,fun Γ w cargs R hr=>(h R.X).2 Γ w cargs R hr⟩
def ae.KW   {K : ZN → ZH → Prop} (hf : ∃ fn, P.funcs[f]? = some fn ∧ fn.body.isNone = false ∧ (fn.name == "runtime.NumGoroutine") = false) (h : Clo H → (∀ v, v ∈ args → Below H.A v) → ae P G f args H K) : ae P G f args H K :=
 ⟨hf,fun Γ w cargs R hr=>(h R.X (fun v hv=>by
  obtain⟨i,hi,rfl⟩:=Zp.1 hv;exact(hr.2 i hi (by have:=hr.1;omega)).sO)).2 Γ w cargs R hr⟩
end Go.Hx
namespace Go.Hx
variable {P:Program} {G:Nat->Option (List ZI)} {Γ Γ':aE} {H H':ZH} {w w':World}
variable {r:Loop}{b:Nat}{pend:Option Code}{x:Option ZO}
def uN (R:ZQ P G Γ H w){id:Nat}{st:LoopState}{n:Nat}{env:Env}{ps:Array Tmp}{asg body:Code}(hg:H.get id=some (.loop st pend n env ps asg body)):
    ∃b r,Γ id=some (b,0,0)/\w.heap[b]?=some (.loop r)/\r.state=st/\r.pending=pend/\r.params=ps/\r.assign=asg/\r.body=body/\r.tmps.size=n/\(∀t (h:t<r.tmps.size),ZL P Γ H w (env t) r.tmps[t]) /\
      ∀st' pend',ZQ P G Γ (H.upd id (.loop st' pend' n env ps asg body)) (bI w b (.loop { r with state:=st',pending:=pend' })) /\
        ZS Γ H w Γ (H.upd id (.loop st' pend' n env ps asg body)) (bI w b (.loop { r with state:=st',pending:=pend' })):=by
  obtain⟨b,r,hΓ,hb,h1,h2,h3,h4,h5,h6,h7⟩:=R.loop id st pend n env ps asg body hg;refine⟨b,r,hΓ,hb,h1,h2,h3,h4,h5,h6,h7,fun st' pend'=>?_⟩;have hlt:=R.lt id b 0 0 hΓ;have E:ZS Γ H w Γ (H.upd id (.loop st' pend' n env ps asg body)) (bI w b (.loop { r with state:=st',pending:=pend' })) :=
    { os:=rfl,tape:=rfl,output:=rfl
      size:=by rw[j8];exact Nat.le_refl _
      ng:=fun c hc ho=>⟨by
        rw[eO,Ve];rintro⟨rfl,_⟩;exact ho ⟨id,0,0,hΓ⟩,ho⟩
      na:=fun i hi _ x' hx=>by
        rw[aj]at hx;split at hx
        · rename_i hii;subst hii;simp only[Option.some.injEq]at hx;subst hx;exact⟨_,hg,rfl,rfl,rfl,rfl,rfl,rfl⟩
        · exact⟨x',hx,ZO.le_refl _ _ _⟩
      nz:=fun a _=>r8 hb (fun _ _ _ h=>by cases h) (fun _ _ _ h=>by cases h) a
      kind:=xx hb fun _ _ _ h=>by cases h
      newb:=.refl _ _ }
  refine⟨?_,E⟩;have hne:∀i b' base n',Γ i=some (b',base,n')->i≠id->b'≠b:=fun i b' base n' hi hii hbb=>by
    subst hbb;exact hii (R.inj _ _ _ _ _ _ _ hi hΓ)
  exact
    { J:=fun i g e cells hgi=>by
        rw[aj]at hgi;split at hgi
        · simp at hgi
        · rename_i hii;have h:=R.J i g e cells hgi;cases hi:Γ i with
          |none=>rw[hi]at h;exact h
          |some y =>
            obtain⟨b',base,n'⟩:=y;rw[hi]at h;obtain⟨c,a1,a2,a3,a4⟩:=h;refine⟨c,?_,a2,a3,fun j hj=>let ⟨cv,b1,b2⟩:=a4 j hj;⟨cv,b1,b2.aZ E ZG⟩⟩;rw[eO,Ve]
            · exact a1
            · rintro⟨h,_⟩;exact hne i b' base n' hi hii h
      loop:=fun i st2 pend2 n2 env2 ps2 asg2 body2 hgi=>by
        rw[aj]at hgi;split at hgi
        · rename_i hii;subst hii;simp only[Option.some.injEq,ZO.loop.injEq]at hgi;obtain⟨rfl,rfl,rfl,rfl,rfl,rfl,rfl⟩:=hgi;refine⟨b,{ r with state:=st',pending:=pend' },hΓ,by rw[eO,Vf ⟨rfl,hlt⟩],rfl,rfl,h3,h4,h5,h6,fun t ht=>(h7 t ht).aZ E ZG⟩
        · rename_i hii;obtain⟨b2,r2,a1,a2,a3,a4,a5,a6,a7,a8,a9⟩:=R.loop i _ _ _ _ _ _ _ hgi;refine⟨b2,r2,a1,?_,a3,a4,a5,a6,a7,a8,fun t ht=>(a9 t ht).aZ E ZG⟩;rw[eO,Ve]
          · exact a2
          · rintro⟨h,_⟩;exact hne i b2 0 0 a1 hii h
      mp:=fun i es hgi=>by
        rw[aj]at hgi;split at hgi
        · simp at hgi
        · rename_i hii;obtain⟨b2,a1,a2⟩:=R.mp i _ hgi;refine⟨b2,a1,?_⟩;rw[eO,Ve]
          · exact a2
          · rintro⟨h,_⟩;exact hne i b2 0 0 a1 hii h
      nq:=fun i hgi=>by
        rw[aj]at hgi;split at hgi
        · simp at hgi
        · exact R.nq i hgi
      inj:=R.inj
      nF:=fun i x hi=>by
        obtain⟨y,hy⟩:=R.nF i x hi;rw[aj];split
        · exact⟨_,rfl⟩
        · exact⟨y,hy⟩
      lt:=fun i b' base n' hi=>by rw[j8];exact R.lt i b' base n' hi
      A:=fun i y hy=>by
        rw[aj]at hy;split at hy
        · rename_i hii;subst hii;exact R.A _ _ hg
        · exact R.A i y hy
      nE:=fun g cells h=>(R.nE g cells h).aZ E (Nat.le_refl _)
      gsz:=R.qh E }
def sQ (h:w.heap[b]?=some (.loop r)):(Instr.getLoop b).run P w=.ok r w:=by
  have hg:(getObj b).run P w=.ok (.loop r) w:=by simp[getObj,Sem.run,h]
  unfold Instr.getLoop;rw[ar hg];rfl
def yw {o':Obj}(h:w.heap[b]?=some (.loop r)):(setObj b o').run P w=.ok () (bI w b o'):=by
  simp[setObj,Sem.run,h,bI]
def KX (h:w.heap[b]?=some (.loop r))(hs:r.state=.ready):(Instr.beginRound b).run P w=.ok () (bI w b (.loop { r with state:=.busy,pending:=r.pending })):=by
  unfold Instr.beginRound;rw[ar (sQ h),ar (yw h)];simp only[hs];rfl
def KY (h:w.heap[b]?=some (.loop r))(j:Option Code):
    (Instr.endRound b j).run P w=.ok (.bool j.isNone) (bI w b (.loop { r with state:=if j.isNone then .ready else .done,pending:=j })):=by
  unfold Instr.endRound;rw[ar (sQ h),ar (yw h)];rfl
def KZ (h:w.heap[b]?=some (.loop r))(hs:(r.state == .busy)=false):(Instr.endLoop b).run P w=.ok r.pending (bI w b (.loop { r with state:=.exhausted,pending:=r.pending })):=by
  unfold Instr.endLoop;rw[ar (sQ h)];simp only[hs,Bool.false_eq_true,if_false];rw[ar (yw h)];rfl
def jM (ρ:Env)(l:List (Tmp × ZI)):Env:=l.foldl (fun ρ p=>aJ ρ (some p.1) p.2) ρ
def dw (env:Env)(n:Nat):Env:=fun t=>if t<n then env t else .lit undef
def pr (st:LoopState)(pend:Option Code):Option ZO->Option ZO
  |some (.loop _ _ n env ps asg body)=>some (.loop st pend n env ps asg body)
  |_=>none
def B6:Option ZO->Option ZO
  |some (.loop .ready pend n env ps asg body)=>some (.loop .busy pend n env ps asg body)
  |_=>none
def K0 (id:Nat)(K:ZN->ZH->Prop):AX->St->Prop
  |.normal,s=>bj (pr .ready none (s.H.get id)) fun b=>K (.ret (.lit (.bool true))) (s.H.upd id b)
  |.ret,s=>bj (pr .done (some .ret) (s.H.get id)) fun b=>K (.ret (.lit (.bool false))) (s.H.upd id b)
  |.exit i,s=>bj (pr .done (some (.exit i)) (s.H.get id)) fun b=>K (.ret (.lit (.bool false))) (s.H.upd id b)
  |.goto i,s=>bj (pr .done (some (.goto i)) (s.H.get id)) fun b=>K (.ret (.lit (.bool false))) (s.H.upd id b)
  |.panic,_=>False
def K2 (P:Program)(G:Nat->Option (List ZI))(n id:Nat)(body:Code)(K:ZN->ZH->Prop):AX->St->Prop
  |.normal,s=>bj (B6 (s.H.get id)) fun b=>W P G n (some id) body (K0 id K) ⟨s.ρ,s.H.upd id b⟩
  |_,_=>False
def K3:∀(l:List (Tmp × ZI)) (cl:List (Tmp × Value)) (ρ:Env) (tmps:Array Value),l.length=cl.length->(∀i (h:i<l.length) (h':i<cl.length),l[i].1=cl[i].1/\l[i].1<tmps.size/\ZL P Γ H w l[i].2 cl[i].2) ->
    (∀t,ZL P Γ H w (ρ t) (tmps.getD t undef)) ->
    ((cl.foldl (fun tmps (p:Tmp × Value)=>tmps.setIfInBounds p.1 p.2) tmps).size=tmps.size)/\∀t,ZL P Γ H w (jM ρ l t) ((cl.foldl (fun tmps (p:Tmp × Value)=>tmps.setIfInBounds p.1 p.2) tmps).getD t undef):=by
  intro l
  induction l with
  |nil =>
    intro cl ρ tmps hl _ he;cases cl with
    |nil=>exact⟨rfl,he⟩
    |cons=>simp at hl
  |cons x l ih =>
    intro cl ρ tmps hl h he;cases cl with
    |nil=>simp at hl
    |cons y cl =>
      obtain⟨h1,h2,h3⟩:=h 0 ZD ZD;simp only[V7]at h1 h2 h3;have:=ih cl (aJ ρ (some x.1) x.2) (tmps.setIfInBounds y.1 y.2) (by simpa using hl) (fun i a b=>by
        have:=h (i+1) (by simpa using a) (by simpa using b);simp only[Xb]at this;simpa using this) (fun t=>by
          by_cases ht:t=x.1
          · subst ht;have e1:aJ ρ (some x.1) x.2 x.1=x.2:=(by simp[aJ]);have e2:(tmps.setIfInBounds y.1 y.2).getD x.1 undef=y.2:=(by rw[<- h1];simp[h2]);rw[e1,e2];exact h3
          · have e1 : aJ ρ (some x.1) x.2 t=ρ t:=(by simp [aJ,ht]);have e2 : (tmps.setIfInBounds y.1 y.2).getD t undef=tmps.getD t undef:=by
              simp only[V0];rw[We,Ve (by rw[<- h1];exact fun h=>ht h.symm)]
            rw[e1,e2];exact he t)
      refine⟨?_,this.2⟩;have h4:=this.1;simp only[Array.size_setIfInBounds]at h4;exact h4
def K4 {st:LoopState}{b:ZO}(h:pr st pend x=some b):∃st0 p0 n env ps asg body,x=some (.loop st0 p0 n env ps asg body)/\b=.loop st pend n env ps asg body:=by
  unfold pr at h;split at h
  · cases h;exact⟨_,_,_,_,_,_,_,rfl,rfl⟩
  · cases h
theorem ao.nk {id:Nat}{args:List ZI}{K:ZN->ZH->Prop}{pend:Option Code}{n:Nat}{env:Env}{ps:Array Tmp}{asg body:Code}(hg:H.get id=some (.loop .ready pend n env ps asg body))(hl:args.length=ps.size)
    (hps:ps.toList.all (fun t=>decide (t<n))=true) (h:W P G n (some id) asg (K2 P G n id body K) ⟨jM (dw env n) (ps.toList.zip args),H⟩):ao P G (.nk id) args H K:=by
  intro Γ w cfv cargs R hv hr;cases hv with
  |nk hy =>
    obtain⟨b,hΓ,rfl⟩:=hy.2.2.2.1 _ _ _ _ _ _ _ hg;obtain⟨b',r,hΓ',hb,h1,h2,h3,h4,h5,h6,h7,_⟩:=uN R hg;rw[hΓ]at hΓ';simp only[Option.some.injEq,Prod.mk.injEq]at hΓ';obtain⟨rfl,_⟩:=hΓ';have hsz:cargs.size=r.params.size:=(by rw[hr.1,hl,h3]);refine⟨{ target:=.fn (.yield b) #[],args:=#[]++cargs },rfl,.inr (.inl ⟨b,r.fn,(r.params.zip (#[]++cargs)).foldl (fun tmps (t,a)=>tmps.setIfInBounds t a) r.tmps,r.assign,r.body,?_,?_⟩)⟩
    · show (Instr.yield b (#[]++cargs)).run P w=_;unfold Instr.yield;rw[ar (sQ hb)];have:¬((#[]++cargs).size≠r.params.size):=(by simp[hsz]);rw[Ve this];rfl
    · refine roundIn_of_wpIn (F:=Fence.wide) trivial ?_;have hfold : (r.params.zip (#[]++cargs)).foldl (fun tmps (t,a)=>tmps.setIfInBounds t a) r.tmps=(r.params.toList.zip cargs.toList).foldl (fun tmps (p : Tmp × Value)=>tmps.setIfInBounds p.1 p.2) r.tmps:=by
        rw[<- Array.foldl_toList];simp
      rw [hfold,h4,h5];have hset:=K3 (P:=P) (Γ:=Γ) (H:=H) (w:=w) (ps.toList.zip args) (r.params.toList.zip cargs.toList) (dw env n) r.tmps (by simp [hr.1,h3]) (fun i a c=>by
          simp only[List.length_zip,Xa]at a c;simp only[List.getElem_zip,Wk];refine⟨by simp only[h3],?_,hr.2 i V V⟩;rw[h6];have:=VG.1 hps (ps[i]' V) ZD;simpa using this) (fun t=>by
          unfold dw;by_cases ht:t<n
          · rw[Vf ht];have:r.tmps.getD t undef=r.tmps[t]' V:=(by simp[h6,ht]);rw[this];exact h7 t (V)
          · rw[Ve ht];have:r.tmps.getD t undef=undef:=(by simp[h6,ht]);rw[this];exact .lit _)
      have hs:ZY P G n ⟨0,[]⟩ Γ ⟨jM (dw env n) (ps.toList.zip args),H⟩ { tmps:=(r.params.toList.zip cargs.toList).foldl (fun tmps (p:Tmp × Value)=>tmps.setIfInBounds p.1 p.2) r.tmps,defers:=[] } w :=
        ⟨by rw[hset.1,h6],hset.2,R,⟨[],rfl,Marks.nil⟩,WH _⟩
      refine wpIn_mono (h ⟨0,[]⟩ Γ _ w (some b) hs ⟨b,_,_,_,_,_,_,_,rfl,hΓ,hg⟩) ?_;rintro e a₁ w₁ ⟨x,s₁,Γ₁,hx,hq,hs₁,E₁,hn₁,hr₁,_⟩;cases x with
      |normal =>
        cases e with
        |normal =>
          obtain⟨blk,hbg,hW⟩:=hq;obtain⟨b1,st1,p1,n1,env1,ps1,asg1,body1,hb1,hΓ₁,hg₁⟩:=hr₁;simp only[Option.some.injEq]at hb1;subst hb1;rw[hg₁]at hbg;have hst:st1=.ready/\blk=.loop .busy p1 n1 env1 ps1 asg1 body1:=by
            cases st1<;>simp[B6]at hbg
            exact⟨rfl,hbg.symm⟩
          obtain ⟨rfl,rfl⟩:=hst;obtain ⟨b2,r1,hΓ₂,hb2,k1,k2,k3,k4,k5,k6,k7,kset⟩:=uN hs₁.heap hg₁;rw [hΓ₁] at hΓ₂;simp only [Option.some.injEq,Prod.mk.injEq] at hΓ₂;obtain ⟨rfl,_⟩:=hΓ₂;obtain ⟨R2,E2⟩:=kset .busy r1.pending;rw [k2] at R2 E2;have hb3 : Γ₁ id=some (b,0,0):=hΓ₁;refine ⟨_,KX hb2 k1,?_⟩;rw [k2];refine wpIn_mono (hW ⟨0,[]⟩ Γ₁ a₁ _ (some b) (hs₁.move E2 ZG R2) ⟨b,_,_,_,_,_,_,_,rfl,hΓ₁,by rw [aj,Vf rfl]⟩) ?_;rintro e a₂ w₂ ⟨x,s₂,Γ₂,hx,hq,hs₂,E3,hn₂,hr₂,_⟩;obtain ⟨b4,st4,p4,n4,env4,ps4,asg4,body4,hb4,hΓ₄,hg₄⟩:=hr₂;simp only [Option.some.injEq] at hb4;subst hb4;obtain ⟨b5,r5,hΓ₅,hb5,l1,l2,l3,l4,l5,l6,l7,lset⟩:=uN hs₂.heap hg₄;rw [hΓ₄] at hΓ₅;simp only [Option.some.injEq,Prod.mk.injEq] at hΓ₅;obtain ⟨rfl,_⟩:=hΓ₅;have E4 : ZS Γ H w Γ₂ s₂.H w₂:=(E₁.trans hn₁ E2).trans hn₁ E3;have hn4 : H.A≤s₂.H.A:=VO hn₁ hn₂;have fin : ∀ (j : Option Code) (v : Bool),v=j.isNone→bj (pr (if j.isNone then .ready else .done) j (s₂.H.get id)) (fun bl=>K (.ret (.lit (.bool v))) (s₂.H.upd id bl)) →
              ∃cv w',(Instr.endRound b j).run P w₂=.ok cv w'/\fL P G Γ H w K (.returned cv) w':=by
            rintro j v rfl ⟨bl,hbl,hk⟩;obtain⟨R6,E6⟩:=lset (if j.isNone then .ready else .done) j;rw[hg₄]at hbl;obtain⟨_,_,_,_,_,_,_,heq,rfl⟩:=K4 hbl;simp only[Option.some.injEq,ZO.loop.injEq]at heq;obtain⟨rfl,rfl,rfl,rfl,rfl,rfl,rfl⟩:=heq;exact⟨_,_,KY hb5 j,.ret (.lit (.bool j.isNone)),_,Γ₂,ZL.lit _,hk,R6,E4.trans hn4 E6,hn4⟩
          cases e with
          |normal=>cases x with
            |normal=>exact fin none true rfl hq
            |_=>exact hx.elim
          |ret=>cases x with
            |ret=>exact fin (some .ret) false rfl hq
            |_=>exact hx.elim
          |exit i=>cases x with
            |exit i' =>
              obtain rfl:i=i':=hx;exact fin (some (.exit i)) false rfl hq
            |_=>exact hx.elim
          |goto i=>cases x with
            |goto i' =>
              obtain rfl:i=i':=hx;exact fin (some (.goto i)) false rfl hq
            |_=>exact hx.elim
          |panic c=>cases x with
            |panic=>exact hq.elim
            |_=>exact hx.elim
          |outgrown=>cases x<;>exact hx.elim
        |_=>exact hx.elim
      |_=>exact hq.elim
def yx (hos:w'.os=w.os)(ht:w'.tape=w.tape)(ho:w'.output=w.output)(hs:w.heap.size<=w'.heap.size)(hk:∀b,b<w.heap.size->w'.heap[b]?=w.heap[b]?)(hz:∀a,a.block<w.heap.size->w'.frozen? a=w.frozen? a)(R:ZQ P G Γ H w):ZS Γ H w Γ H w'/\ZQ P G Γ H w':=by
  have E:ZS Γ H w Γ H w':=⟨hos,ht,ho,hs,fun b hb h=>⟨hk b hb,h⟩,fun _ _ _ x' hx=>⟨x',hx,ZO.le_refl _ _ _⟩,hz,GE hk,.refl _ _⟩
  refine⟨E,?_⟩;exact
    { J:=fun id g e cells hg=>by
        have h1:=R.J id g e cells hg;cases hΓ:Γ id with
        |none=>rw[hΓ]at h1;exact h1
        |some y =>
          obtain⟨b,base,n⟩:=y;rw[hΓ]at h1;obtain⟨c,a1,a2,a3,a4⟩:=h1;exact⟨c,by rw[hk b (R.lt _ _ _ _ hΓ)];exact a1,a2,a3,fun i hi=>let ⟨cv,b1,b2⟩:=a4 i hi;⟨cv,b1,b2.aZ E ZG⟩⟩
      loop:=fun id st pend n env ps asg body hg=>by
        obtain⟨b,rr,a1,a2,a3,a4,a5,a6,a7,a8,a9⟩:=R.loop id st pend n env ps asg body hg;exact⟨b,rr,a1,by rw[hk b (R.lt _ _ _ _ a1)];exact a2,a3,a4,a5,a6,a7,a8,fun t ht=>(a9 t ht).aZ E ZG⟩
      mp:=fun id es hg=>by
        obtain⟨b,a1,a2⟩:=R.mp id es hg;exact⟨b,a1,by rw[hk b (R.lt _ _ _ _ a1)];exact a2⟩
      nq:=R.nq
      inj:=R.inj
      nF:=R.nF
      lt:=fun id b base n h=>Vl (R.lt id b base n h) hs
      A:=R.A
      nE:=fun g cells h=>(R.nE g cells h).aZ E (Nat.le_refl _)
      gsz:=R.qh E }
def yy:Option ZO->Option (Option Code × ZO)
  |some (.loop .busy ..)=>none
  |some (.loop _ pend n env ps asg body)=>some (pend,.loop .exhausted pend n env ps asg body)
  |_=>none
def K5 (Q:AX->St->Prop)(s:St):Option Code->Prop
  |none=>Q .normal s
  |some .ret=>Q .ret s
  |some (.exit i)=>Q (.exit i) s
  |some (.goto i)=>Q (.goto i) s
  |_=>False
def yz (rd:Option Nat)(Q:AX->St->Prop)(ρ:Env)(id:Nat):ZN->ZH->Prop
  |.ret _,H'=>fK H' rd/\bj (yy (H'.get id)) fun pb=>K5 Q ⟨ρ,H'.upd id pb.2⟩ pb.1
  |.panic,H'=>fK H' rd/\Q .panic ⟨ρ,H'⟩
def K6 {pb:Option Code × ZO}(h:yy x=some pb):∃st pend n env ps asg body,x=some (.loop st pend n env ps asg body)/\(st == .busy)=false/\pb=(pend,.loop .exhausted pend n env ps asg body):=by
  unfold yy at h;split at h
  · cases h
  · rename_i st pend n env ps asg body hne;cases h;refine⟨_,_,_,_,_,_,_,rfl,?_,rfl⟩;cases st with
    |busy=>exact absurd rfl (by first|exact hne|exact fun h=>hne _ _ _ _ _ _ h)
    |_=>rfl
  · cases h
section
variable {n:Nat} {rd:Option Nat} {Q:AX->St->Prop}
theorem W.rangeFunc {g:Operand}{ps:Array Tmp}{asg body:Code}{s:St}{f:FuncId}{first cap:List ZI}(hg:au G s.ρ g=.X f first cap)
    (h:bj (s.H.lay s.H.A (.loop .ready none n s.ρ ps asg body)) fun H1=>ae P G f (first++[.nk s.H.A]++cap) H1 (yz rd Q s.ρ s.H.A)):W P G n rd (.rangeFunc g ps asg body) Q s:=by
  intro wb Γ a w rb hs hr;obtain⟨H1,hlay,hcall⟩:=h;have hlay2:H1=⟨fun j=>if j=s.H.A then some (.loop .ready none n s.ρ ps asg body) else s.H.get j,s.H.A+1⟩:=by
    unfold ZH.lay at hlay;rw[Vf rfl]at hlay;exact(Option.some.inj hlay).symm
  subst hlay2;refine wpIn_rangeFunc fun fn _=>?_;have he:=jt hs g;rw[hg]at he
  -- the world with the record
  have key : ∀ (w0 : World) (mark : List Deferred) (dblk : Nat),ZS Γ s.H w Γ s.H w0→ZQ P G Γ s.H w0 →
      sD wb Γ w0 (mark++a.defers) ->
      ∀w1,w1={ w0 with heap:=w0.heap.push (.loop { state:=.ready,pending:=none,fn:=fn,tmps:=a.tmps,params:=ps,assign:=asg,body:=body,defers:=dblk }) } ->
      (Instr.enterLoop fn a.tmps ps asg body (ea rb).round).run P w=.ok (w0.heap.size,mark) w1 ->
      ∃(l:Nat) (mark:List Deferred) (w₁:World) (d:Deferred) (w₁':World) (f:FuncId) (args:Array Value) (w₂:World),
      (Instr.enterLoop fn a.tmps ps asg body (ea rb).round).run P w=.ok (l,mark) w₁ /\
      (resolve a.eval (rangeCall g l) 0).run P w₁=.ok d w₁' /\
      (∀f',Target.leads P w₁' d.target d.args=some f'->(ea rb).fn f') /\
      (invoke d.target d.args).run P w₁'=.ok (.enter f args) w₂ /\
      ((ea rb).depth.isSome=true->1<=0) /\
      CallsIn (ea rb) (0-1) P f args w₂ (rangePost (ea rb) 0 P l (iy P G n wb rd rb (wr (.rangeFunc g ps asg body)) Γ s.H a w Q) { a with defers:=mark++a.defers }):=by
    intro w0 mark dblk E0 R0 hdef w1 hw1 hent
    let rec':Loop:={ state:=.ready,pending:=none,fn:=fn,tmps:=a.tmps,params:=ps,assign:=asg,body:=body,defers:=dblk }
    have hheap:w1.heap=w0.heap.push (.loop rec'):=(by rw[hw1]);have hsz1:w1.heap.size=w0.heap.size+1:=(by rw[hheap];simp);have hk1:∀b,b<w0.heap.size->w1.heap[b]?=w0.heap[b]?:=fun b hb=>by
      rw[hheap,XW];rw[Ve V]
    have hget1:w1.heap[w0.heap.size]?=some (.loop rec'):=(by rw[hheap];simp);obtain⟨E1,R1⟩:=yx (w':=w1) (by rw[hw1]) (by rw[hw1]) (by rw[hw1]) V hk1 (fun a _=>qm hheap (fun _ _ _ h=>by cases h) a) R0
    let Γ1:aE:=fun i=>if i=s.H.A then some (w0.heap.size,0,0) else Γ i
    let H1:ZH:=⟨fun j=>if j=s.H.A then some (.loop .ready none n s.ρ ps asg body) else s.H.get j,s.H.A+1⟩
    have hfresh:∀i y,s.H.get i=some y->i≠s.H.A:=fun i y hy h=>by have:=R0.A i y hy;omega
    have hΓfresh:∀i x,Γ i=some x->i≠s.H.A:=fun i x hx=>let ⟨y,hy⟩:=R0.nF i x hx;hfresh i y hy
    have hΓ1:∀i,i≠s.H.A->Γ1 i=Γ i:=fun i hi=>by simp only[Γ1];rw[Ve hi]
    have hH1:∀i,i≠s.H.A->H1.get i=s.H.get i:=fun i hi=>by simp only[H1];rw[Ve hi]
    have E2:ZS Γ s.H w0 Γ1 H1 w1 :=
      { os:=by rw[hw1],tape:=by rw[hw1],output:=by rw[hw1],size:=V
        ng:=fun b hb ho=>⟨hk1 b hb,by
          rintro⟨i,base,m,hi⟩;simp only[Γ1]at hi;split at hi
          · simp only[Option.some.injEq,Prod.mk.injEq]at hi;omega
          · exact ho ⟨i,base,m,hi⟩⟩
        na:=fun i hi _ x' hx=>by
          rw[hH1 i V]at hx;refine⟨x',hx,?_⟩;have hΓi:Γ1 i=Γ i:=hΓ1 i V;cases x' with
          |J=>exact⟨ZG,fun _=>⟨hΓi,rfl,rfl⟩⟩
          |loop=>exact⟨hΓi,rfl,rfl,rfl,rfl,rfl⟩
          |mp=>exact hΓi
          |nq=>trivial
        nz:=fun a _=>qm hheap (fun _ _ _ h=>by cases h) a
        kind:=ue hheap
        newb:=fun i b x y hi hlt=>by
          simp only[Γ1]at hi;split at hi
          · simp only[Option.some.injEq,Prod.mk.injEq]at hi;omega
          · exact⟨x,y,hi⟩ }
    have hn1:s.H.A<=H1.A:=Xu _;have tr:∀v cv,ZL P Γ s.H w0 v cv->ZL P Γ1 H1 w1 v cv:=fun v cv h=>h.aZ E2 hn1;have R2:ZQ P G Γ1 H1 w1 :=
      { J:=fun i g e cells hi=>by
          by_cases hii:i=s.H.A
          · simp only[H1]at hi;rw[Vf hii]at hi;simp at hi
          · rw[hH1 i hii]at hi;have h:=R0.J i g e cells hi;rw[hΓ1 i hii];cases hΓ:Γ i with
            |none=>rw[hΓ]at h;exact h
            |some y =>
              obtain⟨b,base,m⟩:=y;rw[hΓ]at h;obtain⟨c,a1,a2,a3,a4⟩:=h;exact⟨c,by rw[hk1 b (R0.lt _ _ _ _ hΓ)];exact a1,a2,a3,fun j hj=>let ⟨cv,b1,b2⟩:=a4 j hj;⟨cv,b1,tr _ _ b2⟩⟩
        loop:=fun i st2 pend2 n2 env2 ps2 asg2 body2 hi=>by
          by_cases hii:i=s.H.A
          · simp only [H1] at hi;rw [Vf hii] at hi;simp only [Option.some.injEq,ZO.loop.injEq] at hi;obtain ⟨rfl,rfl,rfl,rfl,rfl,rfl,rfl⟩:=hi;refine ⟨w0.heap.size,rec',by simp only [Γ1];rw [Vf hii],hget1,rfl,rfl,rfl,rfl,rfl,hs.size,fun t ht=>?_⟩;have:=((hs.env t).aZ E0 ZG).aZ E2 hn1;have e1 : a.tmps.getD t undef=a.tmps[t]'ht:=by
              have:t<a.tmps.size:=ht;simp[this]
            rw[e1]at this;exact this
          · rw[hH1 i hii]at hi;obtain⟨b2,r2,a1,a2,a3,a4,a5,a6,a7,a8,a9⟩:=R0.loop i _ _ _ _ _ _ _ hi;exact⟨b2,r2,by rw[hΓ1 i hii];exact a1,by rw[hk1 b2 (R0.lt _ _ _ _ a1)];exact a2,a3,a4,a5,a6,a7,a8,fun t ht=>tr _ _ (a9 t ht)⟩
        mp:=fun i es hi=>by
          by_cases hii:i=s.H.A
          · simp only[H1]at hi;rw[Vf hii]at hi;simp at hi
          · rw[hH1 i hii]at hi;obtain⟨b2,a1,a2⟩:=R0.mp i _ hi;exact⟨b2,by rw[hΓ1 i hii];exact a1,by rw[hk1 b2 (R0.lt _ _ _ _ a1)];exact a2⟩
        nq:=fun i hi=>by
          by_cases hii:i=s.H.A
          · simp only[H1]at hi;rw[Vf hii]at hi;simp at hi
          · rw[hH1 i hii]at hi;rw[hΓ1 i hii];exact R0.nq i hi
        inj:=fun i i' b base m base' m' h h'=>by
          by_cases h1:i=s.H.A
          · by_cases h2:i'=s.H.A
            · rw[h1,h2]
            · rw[hΓ1 i' h2]at h';simp only[Γ1]at h;rw[Vf h1]at h;simp only[Option.some.injEq,Prod.mk.injEq]at h;have:=R0.lt _ _ _ _ h';omega
          · by_cases h2:i'=s.H.A
            · rw[hΓ1 i h1]at h;simp only[Γ1]at h';rw[Vf h2]at h';simp only[Option.some.injEq,Prod.mk.injEq]at h';have:=R0.lt _ _ _ _ h;omega
            · rw[hΓ1 i h1]at h;rw[hΓ1 i' h2]at h';exact R0.inj _ _ _ _ _ _ _ h h'
        nF:=fun i x hi=>by
          by_cases hii:i=s.H.A
          · simp only[H1];rw[Vf hii];exact⟨_,rfl⟩
          · rw[hΓ1 i hii]at hi;rw[hH1 i hii];exact R0.nF i x hi
        lt:=fun i b base m hi=>by
          by_cases hii:i=s.H.A
          · simp only[Γ1]at hi;rw[Vf hii]at hi;simp only[Option.some.injEq,Prod.mk.injEq]at hi;omega
          · rw[hΓ1 i hii]at hi;have:=R0.lt _ _ _ _ hi;omega
        A:=fun i y hi=>by
          by_cases hii:i=s.H.A
          · show i<s.H.A+1;omega
          · rw[hH1 i hii]at hi;have:=R0.A i y hi;show i<s.H.A+1;omega
        nE:=fun g cells h=>tr _ _ (R0.nE g cells h)
        gsz:=R0.qh E2 }
    have E3:ZS Γ s.H w Γ1 H1 w1:=E0.trans ZG E2;generalize hcg:a.eval g=cg at he;cases he with
    | @X _ _ _ fs cs hfs hcs hf hc =>
      obtain⟨⟨fn',hfn',hb',hname'⟩,hcall⟩:=hcall;have hyld:ZL P Γ1 H1 w1 (.nk s.H.A) (.func (.yield w0.heap.size) #[] #[]) :=
        .nk ⟨Wg _,rfl,by simp[H1],fun st pend n env ps asg body hgi=>⟨w0.heap.size,by simp[Γ1],rfl⟩,fun es hgi=>by simp[H1]at hgi⟩
      have hargs:dG P Γ1 H1 w1 (first++[.nk s.H.A]++cap) (fs.toArray++#[.func (.yield w0.heap.size) #[] #[]]++cs.toArray):=by
        refine ux (ux ⟨by simpa using hfs,fun i h1 h2=>?_⟩ ⟨rfl,fun i h1 h2=>?_⟩) ⟨by simpa using hcs,fun i h1 h2=>?_⟩
        · exact(by simpa using hf i h1 (by simpa using h2):ZL P Γ s.H w first[i] (fs.toArray[i])).aZ E3 hn1
        · have:i=0:=(by simp at h1;omega);subst this;exact hyld
        · exact(by simpa using hc i h1 (by simpa using h2):ZL P Γ s.H w cap[i] (cs.toArray[i])).aZ E3 hn1
      refine⟨w0.heap.size,mark,w1,{ target:=.fn (.func f) cs.toArray,args:=fs.toArray++#[.func (.yield w0.heap.size) #[] #[]] },w1,f,fs.toArray++#[.func (.yield w0.heap.size) #[] #[]]++cs.toArray,w1,hent,?_,fun _ _=>trivial,?_,fun hc=>by simp[Fence.wide]at hc,?_⟩
      · have hm:Array.map a.eval #[Operand.const (.func (.yield w0.heap.size) #[] #[])]=#[.func (.yield w0.heap.size) #[] #[]]:=(by simp[Act.eval]);unfold resolve;simp only[hcg,hm];rfl
      · show (callFunc f (fs.toArray++#[.func (.yield w0.heap.size) #[] #[]]++cs.toArray)).run P w1=_;unfold callFunc;rw[ar (run_program P w1)];simp only[hfn'];rw[hname',hb'];rfl
      · have h4 : CallsIn (ea rb) 0 P f (fs.toArray++#[.func (.yield w0.heap.size) #[] #[]]++cs.toArray) w1 _:=hcall Γ1 w1 _ R2 hargs;refine h4.mono ?_;rintro e w3 ⟨r,H',Γ',hend,hk,R',E',hn'⟩;have E5 : ZS Γ s.H w Γ' H' w3:=E3.trans hn1 E';have hn5 : s.H.A≤H'.A:=VO hn1 hn';have mkS : ∀ (H'' : ZH) (w4 : World),ZQ P G Γ' H'' w4→ZS Γ s.H w Γ' H'' w4→ZS Γ s.H w0 Γ' H'' w4→s.H.A≤H''.A→ZY P G n wb Γ' ⟨s.ρ,H''⟩ { a with defers:=mark++a.defers } w4 :=
          fun H'' w4 R'' E'' E0'' hn''=>⟨hs.size,fun t=>(hs.env t).aZ E'' hn'',R'',hdef.aZ E0'',VO hs.low E''.size⟩
        cases e with
        |returned cv =>
          cases r with
          |panic=>exact hend.elim
          |ret v =>
            obtain⟨hri,pb,hpb,hj⟩:=hk;obtain⟨st,pend,n2,env2,ps2,asg2,body2,hgl,hbusy,rfl⟩:=K6 hpb;obtain⟨b,r2,hΓb,hb,l1,l2,l3,l4,l5,l6,l7,lset⟩:=uN R' hgl;obtain⟨R6,E6⟩:=lset .exhausted r2.pending;have hbl:b=w0.heap.size:=by
              obtain⟨x,hx,hle⟩:=E'.na s.H.A (Wg _) (Vl (Wg _) hn') _ hgl;have hx':H1.get s.H.A=some (.loop .ready none n s.ρ ps asg body):=(by simp[H1]);rw[hx']at hx;cases hx;have h1:=hle.1;rw[hΓb]at h1;simp only[Γ1,if_true,Option.some.injEq,Prod.mk.injEq]at h1;exact h1.1
            subst hbl;have hend':=KZ (P:=P) hb (by rw[l1];exact hbusy);rw[l2]at R6 E6 hend';refine⟨pend,_,hend',?_⟩;have E7:=E5.trans hn5 E6;have hS:=mkS _ _ R6 E7 ((E2.trans hn1 E').trans hn5 E6) hn5;have hri':fK (H'.upd s.H.A (.loop .exhausted pend n2 env2 ps2 asg2 body2)) rd:=by
              cases rd with
              |none=>trivial
              |some i =>
                obtain⟨st3,pend3,n3,env3,ps3,asg3,body3,h3⟩:=hri;by_cases hii:i=s.H.A
                · exact⟨_,_,_,_,_,_,_,by rw[aj,Vf hii]⟩
                · exact⟨_,_,_,_,_,_,_,by rw[aj,Ve hii];exact h3⟩
            have hR:=hr.aZ E7 hn5 hs.heap hri';have post:∀(e:Exit) (x:AX),x8 e x->Q x ⟨s.ρ,H'.upd s.H.A (.loop .exhausted pend n2 env2 ps2 asg2 body2)⟩->iy P G n wb rd rb (wr (.rangeFunc g ps asg body)) Γ s.H a w Q e { a with defers:=mark++a.defers } _ :=
              fun e x hx hq=>⟨x,_,Γ',hx,hq,hS,E7,hn5,hR,fun t _=>rfl⟩
            simp only at hj;cases pend with
            |none=>exact post .normal .normal trivial hj
            |some c =>
              cases c with
              |ret=>exact wpIn_ret (post .ret .ret trivial hj)
              |exit i=>exact wpIn_exit (post (.exit i) (.exit i) rfl hj)
              |goto i=>exact wpIn_goto (post (.goto i) (.goto i) rfl hj)
              |_=>exact hj.elim
        |panicked chain =>
          cases r with
          |ret v=>exact hend.elim
          |panic =>
            exact⟨.panic,_,Γ',hend,hk.2,mkS _ _ R' E5 (E2.trans hn1 E') hn5,E5,hn5,hr.aZ E5 hn5 hs.heap hk.1,fun t _=>rfl⟩
        |outgrown=>cases r<;>exact hend.elim
  cases rb with
  |none =>
    let w0:World:={ w with heap:=w.heap.push (.deferred (some [])) }
    have hk0:∀b,b<w.heap.size->w0.heap[b]?=w.heap[b]?:=fun b hb=>by
      show (w.heap.push _)[b]?=_;rw[XW,Ve V]
    obtain⟨E0,R0⟩:=yx (w:=w) (w':=w0) rfl rfl rfl (by simp[w0]) hk0 (fun a _=>qm (o:=.deferred (some [])) rfl (fun _ _ _ h=>by cases h) a) hs.heap;refine key w0 [{ target:=.collected w.heap.size,args:=#[] }] w.heap.size E0 R0 ?_ _ rfl rfl;obtain⟨m,hm,hmk⟩:=hs.defers;refine⟨{ target:=.collected w.heap.size,args:=#[] } :: m,by rw[hm];rfl,fun d hd=>?_,?_⟩
    · simp only[List.mem_cons]at hd;rcases hd with rfl|hd
      · refine⟨w.heap.size,rfl,hs.low,?_,by simp[w0]⟩;rintro⟨i,base,m,hi⟩;have:=hs.heap.lt _ _ _ _ hi;omega
      · obtain⟨r,h1,h2,h3⟩:=hmk.1 d hd;exact⟨r,h1,h2,h3.aZ E0⟩
    · refine XF.2 ⟨fun d hd=>?_,hmk.2⟩;obtain⟨r,h1,h2,h3⟩:=hmk.1 d hd;rw[h1];intro he;simp only[Target.collected.injEq]at he;have h4:=h3.2;rw[<- he,WM ZG]at h4;cases h4
  |some b0 =>
    have hlr:∃r,w.heap[b0]?=some (.loop r):=by
      cases rd with
      |none=>cases hr
      |some id =>
        obtain⟨b,st,pend,n',env,ps',asg',body',h1,h2,h3⟩:=hr;obtain⟨b',r,h4,h5,_⟩:=hs.heap.loop _ _ _ _ _ _ _ _ h3;rw[h2]at h4;simp only[Option.some.injEq,Prod.mk.injEq]at h4 h1;rw[h1,h4.1];exact⟨r,h5⟩
    obtain⟨r,hlr⟩:=hlr;refine key w [] r.defers (ZS.refl _ _ _) hs.heap (by simpa using hs.defers) _ rfl ?_;show (Instr.enterLoop fn a.tmps ps asg body (some b0)).run P w=_;unfold Instr.enterLoop;simp only[bind_assoc,pure_bind];rw[ar (sQ hlr)];rfl
end
end Go.Hx
namespace Go.Hx
variable {P:Program} {G:Nat->Option (List ZI)} {Γ Γ':aE} {H H':ZH} {w w':World}
variable {f:FuncId}{args args':List ZI}{v':ZI}
def cR:ZH:=⟨fun _=>none,0⟩
inductive Z3 (H:ZH):ZI->ZI->Prop
 |lit (v:Value):Z3 H (.lit v) (.lit v)
 |nil:Z3 H (.lit (.slice none 0 0)) (.Q 0 [])
 |nw:Z3 H (.Q 0 []) (.Q 0 [])
 |agg {c c':List ZI} (hl:c'.length=c.length) (h:∀i (h:i<c.length) (h':i<c'.length),Z3 H c[i] c'[i]):Z3 H (.agg c) (.agg c')
 |nc {c c':List ZI} (hl:c'.length=c.length) (h:∀i (h:i<c.length) (h':i<c'.length),Z3 H c[i] c'[i]):Z3 H (.nc c) (.nc c')
 |U {id g o l z:Nat} {e:TypeId} {cells c':List ZI} (hg:H.get id=some (.J g e cells)) (hl:c'.length=l*z)
   (h:∀i (h:i<l*z) (h2:o+i<cells.length) (h':i<c'.length),Z3 H cells[o+i] c'[i]):Z3 H (.U id g o l z) (.Q l c')
def Z3.sound (R:ZQ P G Γ' H' w){N:Nat}(h1:∀b,Γ'.fJ b->N<=b)(h2:∀b,Γ.fJ b->b<N){v:ZI}(hf:Z3 H' v v'):∀ {cv:Value},ZL P Γ' H' w v cv->ZL P Γ H w v' cv:=by
 induction hf with
 |lit v=>intro cv h;cases h;exact .lit _
 |nil=>intro cv h;cases h;exact .nw none 0
 |nw =>
  intro cv h;cases h with
  |nw a cap=>exact .nw a cap
  |Q hb hlt hlen hcs hcell hrel=>exact .nw _ _
 |agg hl hc ih =>
  intro cv h;cases h with
  |agg hcs hrel=>exact .agg V fun i a b=>ih i V a (hrel i V b)
 |nc hl hc ih =>
  intro cv h;cases h with
  |nc hcs hrel=>exact .nc V fun i a b=>ih i V a (hrel i V b)
 | @U id g o l z e cells c' hg hl hc ih =>
  intro cv h;cases h with
  |U h =>
   obtain⟨_,_,h0,h3⟩:=h;have h4:=(h3 _ _ _ hg).2 rfl;have harr:=R.J id g e cells hg;cases hΓ:Γ' id with
   |none =>
    rw[hΓ]at h4;obtain⟨rfl,rfl,rfl⟩:=h4;have:c'=[]:=Vn (by simpa using hl);subst this;exact .nw _ _
   |some y =>
    obtain⟨b,base,n⟩:=y;rw[hΓ]at h4 harr;obtain⟨a,cap,rfl,hcap,hoff,hor⟩:=h4;obtain⟨c,a1,a2,a3,a4⟩:=harr;rcases hor with ⟨rfl,hn⟩|⟨rfl,rfl⟩
    ·have hcell:∀i,i<l*z->∃cv,c[base+(o+i)]?=some cv/\∀(h:o+i<cells.length),ZL P Γ' H' w cells[o+i] cv:=fun i hi=>by
      obtain⟨cv,b1,b2⟩:=a4 (o+i) V;exact⟨cv,b1,fun _=>b2⟩
     let cs:List Value:=(List.range (l*z)).map fun i=>(c[base+(o+i)]?).getD undef
     have hcs:cs.length=c'.length:=(by simp[cs,hl]);refine .Q (cs:=cs) (fun ho=>?_) (R.lt _ _ _ _ hΓ) hcap hcs (fun i hi=>?_) fun i hi hi'=>?_
     ·have:=h2 b ho;have:=h1 b ⟨id,base,n,hΓ⟩;omega
     ·have hi2:i<l*z:=(by rw[hcs,hl]at hi;exact hi);obtain⟨cv,b1,_⟩:=hcell i hi2;have:cs[i]=cv:=(by simp[cs,b1]);rw[this];have he:base+o+i=base+(o+i):=V;simp only[World.cell?,a1,he];exact b1
     ·have hi2:i<l*z:=(by rw[hl]at hi;exact hi);obtain⟨cv,b1,b2⟩:=hcell i hi2;have:cs[i]=cv:=(by simp[cs,b1]);rw[this];exact ih i hi2 V hi (b2 V)
    ·have:c'=[]:=Vn (by simpa using hl);subst this;exact .nw _ _
def G2 (H:ZH):FzH (fun _=>True) H cR:=⟨fun _ _=>rfl,fun _ _ h=>absurd trivial h,fun _ h=>absurd trivial h⟩
def A9 (b:Nat):¬(gI (fun _=>True) Γ).fJ b:=by
 rintro⟨id,base,n,h⟩;exact(kU h).1 trivial
def mI (o:Option ZI)(r:ZN)(H':ZH):Prop:=match o with
 |some v'=>∃v,r=.ret v/\Z3 H' v v'
 |none=>r=.panic
def Ba:Option ZI->ZN
 |some v=>.ret v
 |none=>.panic
def ae.sA {o:Option ZI}(hG:fB G)(hl:args'.length=args.length)(hv:∀i (h:i<args.length) (h':i<args'.length),Fz (fun _=>True) H 0 args[i] args'[i])
  (h:ae P G f args' cR (mI o)):ae P G f args H fun r H'=>r=Ba o/\H'=H:=by
 refine⟨h.1,fun Γ w cargs R hr=>?_⟩;have F:=G2 H;have R0:ZQ P G (gI (fun _=>True) Γ) cR w:=F.rel hG R;have hr0:dG P (gI (fun _=>True) Γ) cR w args' cargs:=⟨by have:=hr.1;omega,fun i h1 h2=>(hv i V h1).sound R F (hr.2 i V h2)⟩
 refine(h.2 _ w cargs R0 hr0).mono ?_;rintro e w' ⟨r,H',Γ',hend,hg,R',E,hn⟩;have hown:∀b,Γ'.fJ b->w.heap.size<=b:=fun b hb=>Yy fun hlt=>(E.ng b hlt (A9 b)).2 hb;have hown2:∀b,Γ.fJ b->b<w.heap.size:=fun b ⟨id,base,n,hb⟩=>R.lt _ _ _ _ hb;obtain⟨E2,R2⟩:=yx E.os E.tape E.output E.size (fun b hb=>(E.ng b hb (A9 b)).1) E.nz R;refine⟨Ba o,H,Γ,?_,⟨rfl,rfl⟩,R2,E2,ZG⟩;cases o with
 |some v' =>
  obtain⟨v,rfl,hf⟩:=hg;cases e with
  |returned cv=>exact hf.sound R' hown hown2 hend
  |_=>exact hend.elim
 |none =>
  have hg':r=.panic:=hg;subst hg';cases e with
  |panicked chain=>exact hend
  |_=>exact hend.elim
def ae.frame (hG:fB G)(hl:args'.length=args.length)(hv:∀i (h:i<args.length) (h':i<args'.length),Fz (fun _=>True) H 0 args[i] args'[i])
  (h:ae P G f args' cR fun r H'=>∃v,r=.ret v/\Z3 H' v v'):ae P G f args H fun r H'=>r=.ret v'/\H'=H:=ae.sA (o:=some v') hG hl hv h
end Go.Hx
namespace Go.Hx.Ev
open Go.Hx
variable {P:Program} {G:Nat->Option (List ZI)} {Γ Γ':aE} {H H':ZH} {w w':World}
variable {r:Nat}{e g:Nat->Option ZO}
def cY (e g:Nat->Option ZO):Nat->Option ZO:=fun j=>match e j with
 |some b=>some b
 |none=>g j
def nV (e:Option (Nat × ZO)):Nat->Option ZO:=fun j=>match e with
 |some (k,b)=>if j=k then some b else none
 |none=>none
def A4 (e:Option (Nat × ZO))(g:Nat->Option ZO):cY (nV e) g=fq e g:=by
 funext j
 cases e with
 |none=>rfl
 |some kb =>
  obtain⟨k,b⟩:=kb;simp only[cY,nV,fq];by_cases h:j=k
  ·rw[Vf h,Vf h]
  ·rw[Ve h,Ve h]
def nW (P:Program)(G:Nat->Option (List ZI))(fv:ZI)(args:List ZI)(H:ZH)(v:ZI)(e:Nat->Option ZO)(k:Nat)(f:FP):Prop :=
 (∀r,r∈f.rs->r<H.A)/\(∀r,(e r).isSome=true->r∈f.nD/\((r∈f.rs/\∃g t c,H.get r=some (.J g t c))\/(H.A<=r/\r<H.A+k)))/\(∀c,c<k->(e (H.A+c)).isSome=true) /\
 ∀H2:ZH,(∀r,r∈f.rs->H2.get r=H.get r)->(∀c,c<k->H2.get (H.A+c)=some .nq)->H.A+k<=H2.A->ao P G fv args H2 fun r H3=>r=.ret v/\H3=⟨cY e H2.get,H2.A⟩
def bF (P:Program)(G:Nat->Option (List ZI))(o:Oper)(K:FP->St->Prop)(s:St):Prop :=
 match o.op with
 |.call { callee:=.value fv,args,.. }=>∃v e k f,nW P G (au G s.ρ fv) (args.toList.map (au G s.ρ)) s.H v e k f/\K f ⟨aJ s.ρ o.dst v,⟨cY e s.H.get,s.H.A+k⟩⟩
 |op=>bj (aq P G s.ρ s.H s.H.A op) fun vH=>K (cC P G s.ρ s.H.A op) ⟨aJ s.ρ o.dst vH.1,vH.2⟩
def dY (P:Program)(G:Nat->Option (List ZI))(all:Array Oper)(tail:St->Prop):List Nat->Nat->List (Nat × FP)->List Oper->St->Prop
 |b :: bs,i,acc,o :: rest,s=>bj (gU all s.ρ o) fun t=>if t=true then bF P G o (fun f s'=>ju b f acc/\dY P G all tail bs (i+1) (fP i f acc) rest s') s
   else dY P G all tail bs (i+1) acc rest ⟨aJ s.ρ o.dst (.lit undef),s.H⟩
 |_,_,_,[],s=>tail s
 | [],_,_,_ :: _,_=>False
structure Dt where
 v:ZI
 e:Nat->Option ZO
 al:Nat
 f:FP
def bq (all:Array Oper)(d:Nat->Dt)(ρ0:Env):Nat->(Nat->Bool)->Env
 |0,_=>ρ0
 |n+1,D=>if D n then aJ (bq all d ρ0 n D) (gX all n) (d n).v else bq all d ρ0 n D
def aW (d:Nat->Dt)(g0:Nat->Option ZO):Nat->(Nat->Bool)->Nat->Option ZO
 |0,_=>g0
 |n+1,D=>if D n then cY (d n).e (aW d g0 n D) else aW d g0 n D
def aO (d:Nat->Dt):Nat->Nat
 |0=>0
 |n+1=>aO d n+(d n).al
def dZ (x:Dt)(r:Nat):Prop:=(x.e r).isSome=true
def nX (h:¬(e r).isSome=true):cY e g r=g r:=by
 unfold cY;cases he:e r with
 |none=>rfl
 |some b=>rw[he]at h;exact absurd rfl h
def A5 {g':Nat->Option ZO}(h:(e r).isSome=true):cY e g r=cY e g' r:=by
 unfold cY;cases he:e r with
 |none=>rw[he]at h;cases h
 |some b=>rfl
def xF {g':Nat->Option ZO}(h:g r=g' r):cY e g r=cY e g' r:=by
 unfold cY;rw[h]
def GV {e':Nat->Option ZO}(h:∀r,(e r).isSome=true->¬(e' r).isSome=true):cY e' (cY e g)=cY e (cY e' g):=by
 funext r
 by_cases hx:(e r).isSome=true
 ·rw[nX (h r hx)];exact A5 hx
 ·rw[nX (g:=cY e' g) hx];exact xF (nX hx)
section
variable {all:Array Oper} {d d':Nat->Dt} {ρ0:Env} {g0 g0':Nat->Option ZO} {D D':Nat->Bool}
def o9 {t:Tmp}:∀ {n:Nat},(∀j,j<n->gX all j=some t->D j=D' j)->bq all d ρ0 n D t=bq all d ρ0 n D' t:=by
 intro n
 induction n with
 |zero=>intro _;rfl
 |succ n ih =>
  intro h;have h0:=ih fun j hj=>h j V;simp only[bq];by_cases hd:gX all n=some t
  ·rw[h n V hd];split
   ·exact uB h0
   ·exact h0
  ·have:∀(b:Bool) (ρ:Env),(if b=true then aJ ρ (gX all n) (d n).v else ρ) t=ρ t:=by
    intro b ρ;split
    ·exact qI hd
    ·rfl
   rw[this,this];exact h0
def xG {m:Nat}:∀ {n:Nat},m<=n->bq all d ρ0 n (fun j=>decide (j<m))=bq all d ρ0 m fun _=>true:=by
 have low:∀k,k<=m->bq all d ρ0 k (fun j=>decide (j<m))=bq all d ρ0 k fun _=>true:=by
  intro k
  induction k with
  |zero=>intro _;rfl
  |succ k ih =>
   intro hk;simp only[bq];rw[ih V,Vf (by simp;omega)];simp
 intro n
 induction n with
 |zero =>
  intro hm;obtain rfl:m=0:=V
  exact low 0 (V)
 |succ n ih =>
  intro hm;by_cases h:m=n+1
  ·subst h;exact low (n+1) (V)
  ·simp only[bq];rw[Ve (by simp;omega)];exact ih (V)
def pe {r:Nat}:∀ {n:Nat},(∀j,j<n->dZ (d j) r->D j=D' j)->aW d g0 n D r=aW d g0 n D' r:=by
 intro n
 induction n with
 |zero=>intro _;rfl
 |succ n ih =>
  intro h;have h0:=ih fun j hj=>h j V;simp only[aW];by_cases hd:dZ (d n) r
  ·rw[h n V hd];split
   ·exact xF h0
   ·exact h0
  ·have:∀(b:Bool) (g:Nat->Option ZO),(if b=true then cY (d n).e g else g) r=g r:=by
    intro b g;split
    ·exact nX hd
    ·rfl
   rw[this,this];exact h0
def xH {m:Nat}:∀ {n:Nat},m<=n->aW d g0 n (fun j=>decide (j<m))=aW d g0 m fun _=>true:=by
 have low:∀k,k<=m->aW d g0 k (fun j=>decide (j<m))=aW d g0 k fun _=>true:=by
  intro k
  induction k with
  |zero=>intro _;rfl
  |succ k ih =>
   intro hk;simp only[aW];rw[ih V,Vf (by simp;omega)];simp
 intro n
 induction n with
 |zero =>
  intro hm;obtain rfl:m=0:=V
  exact low 0 (V)
 |succ n ih =>
  intro hm;by_cases h:m=n+1
  ·subst h;exact low (n+1) (V)
  ·simp only[aW];rw[Ve (by simp;omega)];exact ih (V)
def sk {r:Nat}:∀ {n:Nat},(g0 r=g0' r\/∃j,j<n/\D j=true/\dZ (d j) r)->aW d g0 n D r=aW d g0' n D r:=by
 intro n
 induction n with
 |zero =>
  rintro(h|⟨j,hj,_⟩)
  ·exact h
  ·omega
 |succ n ih =>
  intro h;simp only[aW];by_cases hD:D n=true
  ·rw[Vf hD,Vf hD];by_cases ht:dZ (d n) r
   ·exact A5 ht
   ·refine xF (ih ?_);rcases h with h|⟨j,hj,h1,h2⟩
    ·exact .inl h
    ·by_cases hjn:j=n
     ·subst hjn;exact absurd h2 ht
     ·exact .inr ⟨j,V,h1,h2⟩
  ·rw[Ve hD,Ve hD];refine ih ?_;rcases h with h|⟨j,hj,h1,h2⟩
   ·exact .inl h
   ·by_cases hjn:j=n
    ·subst hjn;exact absurd h1 hD
    ·exact .inr ⟨j,V,h1,h2⟩
def xI {r:Nat}:∀ {n:Nat},(∀j,j<n->D j=true->¬dZ (d j) r)->aW d g0 n D r=g0 r:=by
 intro n
 induction n with
 |zero=>intro _;rfl
 |succ n ih =>
  intro h;simp only[aW];split
  ·rename_i hD;rw[nX (h n V hD)];exact ih fun j hj=>h j (V)
  ·exact ih fun j hj=>h j (V)
def bW (D:Nat->Bool)(i:Nat):Nat->Bool:=fun j=>if j=i then true else D j
def xJ {i:Nat}(hD:D i=false):∀ {n:Nat},i<n->(∀j,i<j->j<n->D j=true->∀t,gX all i=some t->gX all j≠some t) ->
  bq all d ρ0 n (bW D i)=aJ (bq all d ρ0 n D) (gX all i) (d i).v:=by
 intro n
 induction n with
 |zero=>intro h;omega
 |succ n ih =>
  intro hi h;by_cases hin:i=n
  ·subst hin;have h0:bq all d ρ0 i (bW D i)=bq all d ρ0 i D:=funext fun t=>o9 fun j hj _=>by simp[bW,Yo hj]
   simp only[bq];rw[Vf (by simp[bW]),Ve (by simp[hD]),h0]
  ·have hw:bW D i n=D n:=(by simp[bW,Ne.symm hin]);have h0:=ih V fun j h1 h2=>h j h1 V;simp only[bq,hw];split
   ·rename_i hDn;rw[h0];exact BS (h n V V hDn)
   ·exact h0
def xK {i:Nat}(hD:D i=false):∀ {n:Nat},i<n->(∀j,i<j->j<n->D j=true->∀t,dZ (d i) t->¬dZ (d j) t) ->
  aW d g0 n (bW D i)=cY (d i).e (aW d g0 n D):=by
 intro n
 induction n with
 |zero=>intro h;omega
 |succ n ih =>
  intro hi h;by_cases hin:i=n
  ·subst hin;have h0:aW d g0 i (bW D i)=aW d g0 i D:=funext fun t=>pe fun j hj _=>by simp[bW,Yo hj]
   simp only[aW];rw[Vf (by simp[bW]),Ve (by simp[hD]),h0]
  ·have hw:bW D i n=D n:=(by simp[bW,Ne.symm hin]);have h0:=ih V fun j h1 h2=>h j h1 V;simp only[aW,hw];split
   ·rename_i hDn;rw[h0];exact GV (h n V V hDn)
   ·exact h0
def qB {m n:Nat}(h:m<=n):aO d m<=aO d n:=by
 induction n with
 |zero =>
  have:m=0:=V
  subst this;exact Nat.le_refl _
 |succ n ih =>
  by_cases hm:m=n+1
  ·subst hm;exact Nat.le_refl _
  ·exact VO (ih V) (by simp[aO])
def sr {n c:Nat}(h:c<aO d n):∃j,j<n/\aO d j<=c/\c<aO d j+(d j).al:=by
 induction n with
 |zero=>simp[aO]at h
 |succ n ih =>
  by_cases hc:c<aO d n
  ·obtain⟨j,h1,h2⟩:=ih hc;exact⟨j,V,h2⟩
  ·simp only[aO]at h;exact⟨n,V,V,V⟩
def lY {i n:Nat}(h:i<n):aO d i+(d i).al<=aO d n:=by
 have:=qB (d:=d) (m:=i+1) (n:=n) h;simpa only[aO] using this
def ss {n:Nat}(h:∀j,j<n->d j=d' j):bq all d ρ0 n D=bq all d' ρ0 n D:=by
 induction n with
 |zero=>rfl
 |succ n ih=>simp only[bq];rw[ih fun j hj=>h j V,h n V]
def su {n:Nat}(h:∀j,j<n->d j=d' j):aW d g0 n D=aW d' g0 n D:=by
 induction n with
 |zero=>rfl
 |succ n ih=>simp only[aW];rw[ih fun j hj=>h j V,h n V]
def fW {n:Nat}(h:∀j,j<n->d j=d' j):aO d n=aO d' n:=by
 induction n with
 |zero=>rfl
 |succ n ih=>simp only[aO];rw[ih fun j hj=>h j V,h n V]
end
def ExecOk (P:Program)(G:Nat->Option (List ZI))(all:Array Oper)(o:Oper)(id:Nat)(s s':St):Prop :=
 (gU all s.ρ o=some false/\s'=⟨aJ s.ρ o.dst (.lit undef),s.H⟩) \/
 (gU all s.ρ o=some true/\∃v,s'.ρ=aJ s.ρ o.dst v /\
  (aq P G s.ρ s.H id o.op=some (v,s'.H) \/
   ∃fv args ats,o.op=.call ⟨.value fv,args,ats⟩/\(∀id st pend m env ps asg body,s.H.get id=some (.loop st pend m env ps asg body)->s'.H.get id=s.H.get id)/\ao P G (au G s.ρ fv) (args.toList.map (au G s.ρ)) s.H fun r H3=>r=.ret v/\H3=s'.H))
def xL {n:Nat}{wb:nnl}{rd rb:Option Nat}{all:Array Oper}{o:Oper}{id i:Nat}{s s':St}{a:Act}{A:Act->World->Prop}{Q':Exit->Act->World->Prop}(ho:all[i]?=some o)(hd:eP n o=true)
  (hs:ZY P G n wb Γ s a w) (hr:dP Γ s.H rd rb) (h:ExecOk P G all o id s s')
  (hnext:∀ Γ' a' w',ZY P G n wb Γ' s' a' w'->ZS Γ s.H w Γ' s'.H w'->s.H.A<=s'.H.A->dP Γ' s'.H rd rb->(∃cv,a'=a.put o.dst cv)->A a' w'):
  wpOpIn (ea rb) 0 P all Q' i A a w:=by
 have hdst:∀d,o.dst=some d->d<n:=by
  intro d hd';unfold eP at hd;rw[hd']at hd;simpa using hd
 unfold wpOpIn;rw[ho];simp only;rcases h with ⟨hw,rfl⟩|⟨hw,v,hρ,h⟩
 ·rw[po hs hw];simp only[Bool.false_eq_true,if_false];refine⟨fun _ _=>trivial,?_⟩;have hs':=jb (v:=.lit undef) (cv:=undef) hs hdst (ZS.refl Γ s.H w) ZG hs.heap (.lit _);exact hnext Γ _ w hs' (ZS.refl _ _ _) ZG hr ⟨_,rfl⟩
 ·rw[po hs hw];simp only[if_true];obtain⟨ρ',H'⟩:=s';simp only at hρ;subst hρ;refine⟨fun _ _=>trivial,?_⟩;rcases h with hop|⟨fv,args,ats,hop,hH,hap⟩
  ·simp only at hop;rw[Oper.semAt_eq _ _ _ (fun c hc=>by rw[hc]at hop;simp[aq]at hop)];obtain⟨nx,cv,Γ',w',hrun,hnx,E,hn,R,hv⟩:=xZ hs.heap (jt hs) hop;rw[hrun];have hri:=x9 hr (ya hs.heap hop);have hs':=jb hs hdst E hn R hv;have hr':=hr.aZ E hn hs.heap hri;rcases hnx with rfl|⟨rfl,rfl⟩
   ·exact hnext Γ' _ w' hs' E hn hr' ⟨_,rfl⟩
   ·exact hnext Γ' _ w' hs' E hn hr' ⟨_,rfl⟩
  ·rw[Oper.semAt_eq _ _ _ (fun c hc=>by rw[hc]at hop;cases hop)];obtain⟨d,h1,h2⟩:=hap Γ w (a.eval fv) (args.map a.eval) hs.heap (jt hs fv) ⟨ZD,fun i h1 h2=>by simp only[Vt,XQ,Wk];exact jt hs _⟩;have hex:(execOp a.eval o).run P w=(invoke d.target d.args).run P w:=by
    unfold execOp;simp only[hop];unfold resolve;simp only;rw[ar h1]
   have hri:fK H' rd:=by
    cases rd with
    |none=>trivial
    |some id =>
     obtain⟨b,st,pend,n,env,ps,asg,body,_,_,h3⟩:=hr;exact⟨_,_,_,_,_,_,_,(hH _ _ _ _ _ _ _ _ h3).trans h3⟩
   have cont:∀e w',fL P G Γ s.H w (fun r H3=>r=.ret v/\H3=H') e w'->(match e with
     |.returned v=>A (a.put o.dst v) w'
     |.panicked chain=>Q' (.panic chain) a w'
     |.outgrown=>LetsOut Q'):=by
    rintro e w' ⟨r,H4,Γ',hend,⟨rfl,rfl⟩,R,E,hn⟩;have hr':=hr.aZ E hn hs.heap hri;cases e with
    |returned cv=>exact hnext Γ' _ w' (jb hs hdst E hn R hend) E hn hr' ⟨_,rfl⟩
    |panicked chain=>exact hend.elim
    |outgrown=>exact hend.elim
   rw[hex];rcases h2 with ⟨f,as,h3,h4⟩|⟨l,f,tm,asg,body,h3,h4⟩|⟨cv,w',h3,h4⟩
   ·rw[h3];refine⟨fun hc=>by simp[Fence.wide]at hc,?_⟩;have h4':CallsIn (ea rb) 0 P f as w _:=h4;refine h4'.mono ?_;intro e w' hp;have:=cont e w' hp;cases e<;>exact this
   ·rw[h3];refine⟨fun hc=>by simp[Fence.wide]at hc,?_⟩;have h4':RoundIn (ea rb) 0 P l f tm asg body w _:=h4;refine h4'.mono ?_;intro e w' hp;have:=cont e w' hp;cases e<;>exact this
   ·rw[h3];exact cont (.returned cv) w' h4
def mG (d:Nat->Dt)(H0:ZH)(m:Nat):ZH:=⟨aW d H0.get m fun _=>true,H0.A+aO d m⟩
def canon (all:Array Oper)(d:Nat->Dt)(s0:St)(m:Nat):St:=⟨bq all d s0.ρ m fun _=>true,mG d s0.H m⟩
structure ZW (P:Program)(G:Nat->Option (List ZI))(all:Array Oper)(bs:List Nat)(s0:St)(d:Nat->Dt)(i:Nat):Prop where
 step:∀o,all[i]?=some o->∀ ρ2 H2,(∀t,t∈o.looksAt all->ρ2 t=(canon all d s0 i).ρ t)->(∀r,r∈(d i).f.rs->H2.get r=(canon all d s0 i).H.get r) ->
  (∀c,c<(d i).al->H2.get (s0.H.A+aO d i+c)=some .nq)->s0.H.A+aO d i+(d i).al<=H2.A ->
  ExecOk P G all o (s0.H.A+aO d i) ⟨ρ2,H2⟩ ⟨aJ ρ2 o.dst (d i).v,⟨cY (d i).e H2.get,H2.A⟩⟩
 nD:∀r,dZ (d i) r->r∈(d i).f.nD/\(r∈(d i).f.rs\/(s0.H.A+aO d i<=r/\r<s0.H.A+aO d i+(d i).al))
 al:∀c,c<(d i).al->dZ (d i) (s0.H.A+aO d i+c)
 lt:∀r,r∈(d i).f.rs->r<s0.H.A+aO d i
 apart:∀j,j<i->(eJ bs i).testBit j=false->(∀r,r∈(d i).f.nD->r ∉ (d j).f.rs)/\(∀r,r∈(d j).f.nD->r ∉ (d i).f.rs)
def cB (d:Nat->Dt)(m:Nat)(x:Dt):Nat->Dt:=fun j=>if j=m then x else d j
def iw {d:Nat->Dt}{m:Nat}{x:Dt}{i:Nat}(h:i<m):d i=cB d m x i:=by simp[cB,Yo h]
def df {d:Nat->Dt}{m:Nat}{x:Dt}:cB d m x m=x:=by simp[cB]
def mH {all:Array Oper}{d d':Nat->Dt}{s0:St}{m:Nat}(h:∀j,j<m->d j=d' j):canon all d s0 m=canon all d' s0 m:=by
 unfold canon mG;rw[ss h,su h,fW h]
def ZW.below {all:Array Oper}{bs:List Nat}{s0:St}{d d':Nat->Dt}{i:Nat}(g:ZW P G all bs s0 d i)(h:∀j,j<=i->d j=d' j):ZW P G all bs s0 d' i:=by
 have hi:=h i ZG;have hn:aO d i=aO d' i:=fW fun j hj=>h j V;have hc:canon all d s0 i=canon all d' s0 i:=mH fun j hj=>h j V;obtain⟨a,b,c,e,f⟩:=g;refine⟨?_,?_,?_,?_,?_⟩
 ·rw[<- hi,<- hn,<- hc];exact a
 ·rw[<- hi,<- hn];exact b
 ·rw[<- hi,<- hn];exact c
 ·rw[<- hi,<- hn];exact e
 ·intro j hj hb;rw[<- hi,<- h j V];exact f j hj hb
def kO (d:Nat->Dt)(m:Nat)(acc:List (Nat × FP)):Prop:=∀j,j<m->(d j).f=⟨[],[]⟩\/(j,(d j).f)∈acc
def kO.add {d:Nat->Dt}{m:Nat}{acc:List (Nat × FP)}(h:kO d m acc)(x:Dt):kO (cB d m x) (m+1) (fP m x.f acc):=by
 intro j hj;have key:∀p,p∈acc->p∈fP m x.f acc:=by
  intro p hp;unfold fP;split
  ·exact hp
  ·exact Xj _ hp
 by_cases hjm:j=m
 ·subst hjm;rw[df];by_cases hf:x.f=⟨[],[]⟩
  ·exact .inl hf
  ·refine .inr ?_;unfold fP;split
   ·rename_i h0;exact absurd h0 hf
   ·exact List.mem_cons_self
 ·rw[<- iw (x:=x) V];exact(h j V).imp id (key _)
def sv {d:Nat->Dt}{m:Nat}{acc:List (Nat × FP)}{b:Nat}{f:FP}(hc:kO d m acc)(h:ju b f acc):∀j,j<m->b.testBit j=false->(∀r,r∈f.nD->r ∉ (d j).f.rs)/\(∀r,r∈(d j).f.nD->r ∉ f.rs):=by
 intro j hj hb;rcases hc j hj with h0|h1
 ·rw[h0];exact⟨fun r _ h=>(by cases h),fun r h=>(by cases h)⟩
 ·exact h _ h1 hb
def pf {all:Array Oper}{d:Nat->Dt}{s0:St}{m:Nat}{x:Dt}{o:Oper}(ho:all[m]?=some o):
  canon all (cB d m x) s0 (m+1)=⟨aJ (canon all d s0 m).ρ o.dst x.v,⟨cY x.e (canon all d s0 m).H.get,(canon all d s0 m).H.A+x.al⟩⟩:=by
 have hb:∀j,j<m->d j=cB d m x j:=fun j hj=>iw hj;unfold canon mG;simp only[bq,aW,aO,if_true,df];rw[<- ss hb,<- su hb,<- fW hb];simp only[gX,ho,Option.bind_some,Xf]
def ph {all:Array Oper}{bs:List Nat}{s0:St}{d:Nat->Dt}{m:Nat}{x:Dt}(hg:∀i,i<m->ZW P G all bs s0 d i)(hx:ZW P G all bs s0 (cB d m x) m):
  ∀i,i<m+1->ZW P G all bs s0 (cB d m x) i:=by
 intro i hi;by_cases him:i=m
 ·subst him;exact hx
 ·exact(hg i V).below fun j hj=>iw (V)
def trace {all:Array Oper}{bs:List Nat}{s0:St}{tail:St->Prop}{K:Nat}(hbs:bs.length=K)(hK:K<=all.size):∀(k m:Nat) (d:Nat->Dt) (acc:List (Nat × FP)),k+m=K ->
  (∀i,i<m->ZW P G all bs s0 d i)->kO d m acc->gV (canon all d s0 m).H->dY P G all tail (bs.drop m) m acc ((all.toList.take K).drop m) (canon all d s0 m) ->
  ∃d',(∀i,i<K->ZW P G all bs s0 d' i)/\tail (canon all d' s0 K):=by
 intro k
 induction k with
 |zero =>
  intro m d acc hm hg hc wf h;obtain rfl:m=K:=V
  refine⟨d,hg,?_⟩;have:(all.toList.take m).drop m=[]:=by
   apply YC;simp only[Vr];omega
  rw[this]at h;cases hb:bs.drop m with
  |nil=>rw[hb]at h;simpa only[dY] using h
  |cons b bs'=>rw[hb]at h;simpa only[dY] using h
 |succ k ih =>
  intro m d acc hm hg hc wf h;have hmK:m<K:=V
  have hms:m<all.size:=V
  have ho:all[m]?=some all[m]:=Vo hms;have hbm:bs.drop m=eJ bs m :: bs.drop (m+1):=by
   rw[V9 V];congr 1;simp[eJ,Vd (show m<bs.length by omega)]
  have hom:(all.toList.take K).drop m=all[m] :: (all.toList.take K).drop (m+1):=by
   rw[V9 (by simp only[Vr,Xa];omega)];congr 1;simp
  rw[hbm,hom]at h;simp only[dY]at h;obtain⟨t,ht,h⟩:=h;have hnext:(canon all d s0 m).H.A=s0.H.A+aO d m:=rfl;cases t with
  |false =>
   simp only[Bool.false_eq_true,if_false]at h
   let x:Dt:=⟨.lit undef,fun _=>none,0,⟨[],[]⟩⟩
   have hb:∀j,j<m->d j=cB d m x j:=fun j hj=>iw hj;have hcan:canon all (cB d m x) s0 (m+1)=⟨aJ (canon all d s0 m).ρ all[m].dst (.lit undef),(canon all d s0 m).H⟩:=pf ho;have hgx:ZW P G all bs s0 (cB d m x) m:=by
    refine⟨?_,?_,?_,?_,?_⟩
    ·rw[df,<- mH hb];intro o ho' ρ2 H2 h1 h2 h3 _;rw[ho]at ho';cases ho';refine .inl ⟨?_,rfl⟩;simp only;rw[qJ h1,ht]
    ·rw[df];intro k he;cases he
    ·rw[df];intro c he;exact absurd he (Vs _)
    ·rw[df];intro r hr;cases hr
    ·rw[df];intro j hj hbit;exact⟨fun r hr=>(by cases hr),fun r hr hr'=>(by cases hr')⟩
   refine ih (m+1) (cB d m x) acc V (ph hg hgx) (hc.add x) ?_ ?_
   ·rw[hcan];exact wf
   ·rw[hcan];exact h
  |true =>
   simp only[if_true]at h;unfold bF at h;split at h
   ·rename_i fv args ats hop;obtain⟨v,e,k,f,⟨hlt,heff,hnew,hcall⟩,hap,h⟩:=h
    let x:Dt:=⟨v,e,k,f⟩
    have hb:∀j,j<m->d j=cB d m x j:=fun j hj=>iw hj;have hcan:canon all (cB d m x) s0 (m+1)=⟨aJ (canon all d s0 m).ρ all[m].dst v,⟨cY e (canon all d s0 m).H.get,(canon all d s0 m).H.A+k⟩⟩:=pf ho;have hgx:ZW P G all bs s0 (cB d m x) m:=by
     refine⟨?_,?_,?_,?_,?_⟩
     ·rw[df,<- mH hb,<- fW hb];intro o ho' ρ2 H2 h1 h2 h3 h4;rw[ho]at ho';cases ho';refine .inr ⟨?_,v,rfl,.inr ⟨fv,args,ats,hop,?_,?_⟩⟩
      ·simp only;rw[qJ h1,ht]
      ·intro id st pend q env ps asg body hid;refine nX fun hs=>?_;rcases(heff id hs).2 with ⟨hrs,g,t,c,hg⟩|⟨g1,g2⟩
       ·have e9:=h2 id hrs;simp only at hid;rw[hid,hg]at e9;cases e9
       ·obtain⟨c,rfl⟩:∃c,id=(canon all d s0 m).H.A+c:=⟨id-(canon all d s0 m).H.A,V⟩
        have e9:H2.get ((canon all d s0 m).H.A+c)=some .nq:=h3 c (show c<k by omega);simp only at hid;rw[hid]at e9;cases e9
      ·have hev:=uD (G:=G) h1;have e1:au G ρ2 fv=au G (canon all d s0 m).ρ fv:=hev fv (by simp[hop,Op.operands,Call.operands]);have e2:args.toList.map (au G ρ2)=args.toList.map (au G (canon all d s0 m).ρ) :=
        VF fun y hy=>hev y (by simp only[hop,Op.operands,Call.operands];simp;exact .inr (by simpa using hy))
       simp only;rw[e1,e2];exact hcall H2 h2 h3 h4
     ·rw[df,<- fW hb];intro r hr;exact⟨(heff r hr).1,(heff r hr).2.imp (fun h=>h.1) id⟩
     ·rw[df,<- fW hb];exact hnew
     ·rw[df,<- fW hb];exact hlt
     ·rw[df];intro j hj hbit;rw[<- iw hj];exact sv hc hap j hj hbit
    refine ih (m+1) (cB d m x) _ V (ph hg hgx) (hc.add x) ?_ ?_
    ·rw[hcan];intro id b hid;show id<(canon all d s0 m).H.A+k;simp only at hid;by_cases hs:(e id).isSome=true
     ·rcases(heff id hs).2 with ⟨hrs,_⟩|⟨_,g2⟩
      ·have:=hlt id hrs;omega
      ·exact g2
     ·rw[nX hs]at hid;have:=wf id b hid;omega
    ·rw[hcan];exact h
   ·obtain⟨⟨v,H'⟩,hop,hap,h⟩:=h;obtain⟨e,al,hget,hnx,heff,hal,hlt,hloc⟩:=BQ wf hop
    let x:Dt:=⟨v,nV e,(if al=true then 1 else 0),cC P G (canon all d s0 m).ρ (canon all d s0 m).H.A all[m].op⟩
    have hb:∀j,j<m->d j=cB d m x j:=fun j hj=>iw hj;have hcan:canon all (cB d m x) s0 (m+1)=⟨aJ (canon all d s0 m).ρ all[m].dst v,H'⟩:=by
     rw[pf ho];congr 1;cases H';simp only at hget hnx;simp only[ZH.mk.injEq];refine⟨(A4 _ _).trans hget.symm,?_⟩;rw[hnx];simp only[x];cases al<;>simp
    have hgx:ZW P G all bs s0 (cB d m x) m:=by
     refine⟨?_,?_,?_,?_,?_⟩
     ·rw[df,<- mH hb,<- fW hb];intro o ho' ρ2 H2 h1 h2 h3 h4;rw[ho]at ho';cases ho';refine .inr ⟨?_,v,rfl,.inl ?_⟩
      ·simp only;rw[qJ h1,ht]
      ·simp only;rw[BR (ρ':=(canon all d s0 m).ρ) (uD h1),A4];refine hloc H2 h2 fun ha=>?_;subst ha;have h5:=h3 0 (by simp[x]);simp only[x,if_true]at h4;refine⟨h5,?_⟩;rw[hnext];omega
     ·rw[df,<- fW hb];intro r hr;unfold dZ at hr;simp only[x,nV]at hr;cases he:e with
      |none=>rw[he]at hr;cases hr
      |some kb =>
       obtain⟨k0,b0⟩:=kb;rw[he]at hr;simp only at hr;by_cases hrk:r=k0
       ·subst hrk;obtain⟨h1,h2⟩:=heff r b0 he;refine⟨h1,?_⟩;cases hal2:al with
        |false=>exact .inl (h2 hal2)
        |true =>
         obtain⟨b1,hb1⟩:=hal hal2;rw[he]at hb1;simp only[Option.some.injEq,Prod.mk.injEq]at hb1;refine .inr ?_;simp only[x,hal2,if_true];rw[hnext]at hb1;omega
       ·rw[Ve hrk]at hr;cases hr
     ·rw[df,<- fW hb];intro c hc2;cases hal2:al with
      |false=>simp[x,hal2]at hc2
      |true =>
       simp only[x,hal2,if_true]at hc2;obtain⟨b1,hb1⟩:=hal hal2;obtain rfl:c=0:=V;unfold dZ;simp only[x,nV,hb1,Nat.add_zero];rw[hnext];simp
     ·rw[df,<- fW hb];exact hlt
     ·rw[df];intro j hj hbit;rw[<- iw hj];exact sv hc hap j hj hbit
    have wf':gV H':=by
     intro id b hid;rw[hget]at hid;rw[hnx];cases e with
     |none =>
      have:=wf id b hid;split<;>omega
     |some kb =>
      obtain⟨k0,b0⟩:=kb;simp only[fq]at hid;split at hid
      ·rename_i hk;subst hk;cases al with
       |true =>
        obtain⟨b1,hb1⟩:=hal rfl;simp only[Option.some.injEq,Prod.mk.injEq]at hb1;simp only[if_true];omega
       |false =>
        have:=hlt _ ((heff id b0 rfl).2 rfl);simpa using this
      ·have:=wf id b hid;split<;>omega
    refine ih (m+1) (cB d m x) _ V (ph hg hgx) (hc.add x) ?_ ?_
    ·rw[hcan];exact wf'
    ·rw[hcan];exact h
end Go.Hx.Ev
namespace Go.Hx.Ev
open Go.Hx
variable {P:Program} {G:Nat->Option (List ZI)} {Γ Γ':aE} {H H':ZH} {w w':World}
variable {D:Nat->Bool}{d:Nat->Dt}{s0:St}
def fk (all:Array Oper)(d:Nat->Dt)(s0:St)(K:Nat)(D:Nat->Bool):St :=
 ⟨bq all d s0.ρ K D,⟨aW d (bO s0.H (aO d K)).get K D,s0.H.A+aO d K⟩⟩
def xM {all:Array Oper}{bs:List Nat}{K:Nat}(S:nnd all bs K)(hg:∀i,i<K->ZW P G all bs s0 d i){i:Nat}{o:Oper}(hi:i<K)(ho:all[i]?=some o)(hDi:D i=false)
  (hdown:∀j,j<i->(eJ bs i).testBit j=true->D j=true) (hup:∀j,i<j->j<K->D j=true->(eJ bs j).testBit i=false):
  ExecOk P G all o (s0.H.A+aO d i) (fk all d s0 K D) (fk all d s0 K (bW D i)):=by
 have hget:∀j,j<K->∃oj,all[j]?=some oj:=fun j hj=>⟨_,Vo (Vl hj S.le)⟩
 have hgi:=hg i hi;have tgtE:∀j r,j<K->dZ (d j) r->r∈(d j).f.nD/\(r∈(d j).f.rs\/(s0.H.A+aO d j<=r/\r<s0.H.A+aO d j+(d j).al)):=fun j r hj ht=>(hg j hj).nD r ht;have rangeK:∀r,r<s0.H.A+aO d i->((bO s0.H (aO d K)).get r=s0.H.get r\/∃j,j<i/\(fun _:Nat=>true) j=true/\dZ (d j) r):=by
  intro r hr;by_cases h:s0.H.A<=r
  ·obtain⟨j,h1,h2,h3⟩:=sr (d:=d) (n:=i) (c:=r-s0.H.A) V;have:=(hg j V).al (r-s0.H.A-aO d j) V;rw[show s0.H.A+aO d j+(r-s0.H.A-aO d j)=r by omega]at this;exact .inr ⟨j,h1,rfl,this⟩
  ·left;simp only[bO];rw[Ve V]
 have henv:∀t,t∈o.looksAt all->bq all d s0.ρ K D t=(canon all d s0 i).ρ t:=by
  intro t ht;show _=bq all d s0.ρ i (fun _=>true) t;rw[<- xG (all:=all) (d:=d) (ρ0:=s0.ρ) (m:=i) (n:=K) V];refine o9 fun j hj hdj=>?_;obtain⟨oj,hoj⟩:=hget j hj;rw[oe hoj]at hdj;rcases WD j i with h|rfl|h
  ·cases hb:(eJ bs i).testBit j with
   |true=>rw[hdown j h hb];simp[h]
   |false=>exact absurd ht ((qK (S.apart i j o oj hi h ho hoj hb)).1 t hdj)
  ·rw[hDi];simp
  ·cases hD:D j with
   |false=>symm;simp;omega
   |true=>exact absurd ht ((qK (S.apart j i oj o hj h hoj ho (hup j h hj hD))).2.1 t hdj)
 have hheap:∀r,r∈(d i).f.rs->aW d (bO s0.H (aO d K)).get K D r=(canon all d s0 i).H.get r:=by
  intro r hr;show _=aW d s0.H.get i (fun _=>true) r;rw[<- sk (g0:=(bO s0.H (aO d K)).get) (rangeK r (hgi.lt r hr)),<- xH (m:=i) (n:=K) V];refine pe fun j hj ht=>?_;obtain⟨he,_⟩:=tgtE j r hj ht;rcases WD j i with h|rfl|h
  ·cases hb:(eJ bs i).testBit j with
   |true=>rw[hdown j h hb];simp[h]
   |false=>exact absurd hr ((hgi.apart j h hb).2 r he)
  ·rw[hDi];simp
  ·cases hD:D j with
   |false=>symm;simp;omega
   |true=>exact absurd hr (((hg j hj).apart i h (hup j h hj hD)).1 r he)
 have hal:∀c,c<(d i).al->aW d (bO s0.H (aO d K)).get K D (s0.H.A+aO d i+c)=some .nq:=by
  intro c hc;have hlt:=lY (d:=d) hi;have heff:=(hgi.nD _ (hgi.al c hc)).1;rw[xI]
  ·simp only[bO];rw[Vf V]
  ·intro j hj hD ht;obtain⟨h1,h2⟩:=tgtE j _ hj ht;rcases WD j i with h|rfl|h
   ·rcases h2 with h3|⟨h2,h3⟩
    ·have:=(hg j hj).lt _ h3;have:=qB (d:=d) (X7 h);omega
    ·have:=lY (d:=d) h;omega
   ·rw[hDi]at hD;cases hD
   ·rcases h2 with h3|⟨h2,h3⟩
    ·exact absurd h3 (((hg j hj).apart i h (hup j h hj hD)).2 _ heff)
    ·have:=lY (d:=d) h;omega
 have:=hgi.step o ho (bq all d s0.ρ K D) ⟨aW d (bO s0.H (aO d K)).get K D,s0.H.A+aO d K⟩ henv hheap hal (by have:=lY (d:=d) hi;simp only;omega);have e1:bq all d s0.ρ K (bW D i)=aJ (bq all d s0.ρ K D) o.dst (d i).v:=by
  rw[xJ hDi hi,oe ho];intro j h hj hD t hti;obtain⟨oj,hoj⟩:=hget j hj;rw[oe ho]at hti;rw[oe hoj];exact(qK (S.apart j i oj o hj h hoj ho (hup j h hj hD))).2.2 t hti
 have e2:aW d (bO s0.H (aO d K)).get K (bW D i)=cY (d i).e (aW d (bO s0.H (aO d K)).get K D):=by
  refine xK hDi hi fun j h hj hD r hti htj=>?_;obtain⟨a1,a2⟩:=tgtE i r hi hti;obtain⟨b1,b2⟩:=tgtE j r hj htj;obtain⟨c1,c2⟩:=(hg j hj).apart i h (hup j h hj hD);rcases b2 with b3|⟨b2,b3⟩
  ·exact c2 r a1 b3
  ·rcases a2 with a3|⟨a2,a3⟩
   ·exact c1 r b1 a3
   ·have:=lY (d:=d) h;omega
 unfold fk;rw[e1,e2];exact this
def sy {all:Array Oper}{bs:List Nat}{K:Nat}(hg:∀i,i<K->ZW P G all bs s0 d i)(hD:∀j,j<K->D j=true):fk all d s0 K D=canon all d s0 K:=by
 unfold fk canon mG;have e1:bq all d s0.ρ K D=bq all d s0.ρ K fun _=>true:=funext fun t=>o9 fun j hj _=>hD j hj;have e2:aW d (bO s0.H (aO d K)).get K D=aW d s0.H.get K fun _=>true:=by
  funext r
  rw[pe (D':=fun _=>true) fun j hj _=>hD j hj];refine sk ?_;by_cases h:s0.H.A<=r/\r<s0.H.A+aO d K
  ·obtain⟨j,h1,h2,h3⟩:=sr (d:=d) (n:=K) (c:=r-s0.H.A) V;have:=(hg j h1).al (r-s0.H.A-aO d j) V;rw[show s0.H.A+aO d j+(r-s0.H.A-aO d j)=r by omega]at this;exact .inr ⟨j,h1,rfl,this⟩
  ·left;simp only[bO];rw[Ve h]
 rw[e1,e2]
def xN {all:Array Oper}{K:Nat}(hD:∀j,j<K->D j=false):fk all d s0 K D=⟨s0.ρ,bO s0.H (aO d K)⟩:=by
 unfold fk;have e1:∀n,n<=K->bq all d s0.ρ n D=s0.ρ:=by
  intro n
  induction n with
  |zero=>intro _;rfl
  |succ n ih=>intro h;simp only[bq];rw[Ve (by simp[hD n h])];exact ih (V)
 have e2:∀n,n<=K->aW d (bO s0.H (aO d K)).get n D=(bO s0.H (aO d K)).get:=by
  intro n
  induction n with
  |zero=>intro _;rfl
  |succ n ih=>intro h;simp only[aW];rw[Ve (by simp[hD n h])];exact ih (V)
 rw[e1 K ZG,e2 K ZG];rfl
variable {n:Nat} {wb:nnl} {rd rb:Option Nat} {Q:AX->St->Prop} {all:Array Oper} {bs:List Nat} {K:Nat} {id:Nat} {dr:Bool}
def xO (S:nnd all bs K)(hfit:∀o,o∈all.toList->eP n o=true)(hg:∀i,i<K->ZW P G all bs s0 d i)(htail:opsV P G rd Q all (all.toList.drop K) (canon all d s0 K)):
  ∀(r:Nat) (listed:Array Bool) (D:Nat->Bool) (Γ:aE) (a:Act) (w:World),listed.size=all.size->fQ listed all.size=r->(∀j,j<all.size->listed.getD j true=D j)->(∀j,D j=true->j<K)->uI all D ->
  ZY P G n wb Γ (fk all d s0 K D) a w->dP Γ (fk all d s0 K D).H rd rb ->
  ∀(Q':Exit->Act->World->Prop),(∀e a' w',iy P G n wb rd rb (wr (.region id all dr)) Γ (fk all d s0 K D).H a w Q e a' w'->Q' e a' w')->wpAnyIn (ea rb) 0 P .any all Q' r listed a w:=by
 intro r
 induction r with
 |zero =>
  intro listed D Γ a w hsz hc hl hlow hL hs hr Q' hq;have hall:∀j,j<K->D j=true:=fun j hj=>by rw[<- hl j (Vl hj S.le)];exact uJ hc j (Vl hj S.le)
  have hKs:K=all.size:=by
   rcases VA K all.size with h|h
   ·have h1:=uJ hc K h;rw[hl K h]at h1;have:=hlow K h1;omega
   ·have:=S.le;omega
  rw[sy hg hall]at hs hr hq;exact uL S hfit 0 K listed _ Γ a w V ZG hsz hc (fun j hj=>by rw[hl j hj];exact⟨hlow j,hall j⟩) htail hs hr Q' hq
 |succ r ih =>
  intro listed D Γ a w hsz hc hl hlow hL hs hr Q' hq;by_cases hall:∀j,j<K->D j=true
  ·rw[sy hg hall]at hs hr hq;have hcount:∀m,m<=all.size->fQ listed m=m-K:=by
    intro m
    induction m with
    |zero=>intro _;simp[fQ]
    |succ m ihm =>
     intro hm;simp only[fQ];rw[ihm V,hl m V];by_cases hmK:m<K
     ·rw[hall m hmK];simp;omega
     ·have:D m=false:=by
       cases hD:D m with
       |false=>rfl
       |true=>exact absurd (hlow m hD) hmK
      rw[this];simp;omega
   have h1:=hcount all.size ZG;exact uL S hfit (r+1) K listed _ Γ a w (by have:=S.le;omega) ZG hsz hc (fun j hj=>by rw[hl j hj];exact⟨hlow j,hall j⟩) htail hs hr Q' hq
  ·have hex:∃j,j<K/\D j=false:=by
    by_cases h:∃j,j<K/\D j=false
    ·exact h
    ·refine absurd (fun j hj=>?_) hall;cases hD:D j with
     |true=>rfl
     |false=>exact absurd ⟨j,hj,hD⟩ h
   have least:∀k,(∃j,j<k/\j<K/\D j=false)->∃j,j<K/\D j=false/\∀i,i<j->D i=true:=by
    intro k
    induction k with
    |zero=>rintro⟨j,hj,_⟩;omega
    |succ k ihk =>
     rintro⟨j,h1,h2,h3⟩;by_cases h:∃j,j<k/\j<K/\D j=false
     ·exact ihk h
     ·refine⟨j,h2,h3,fun i hi=>?_⟩;cases hD:D i with
      |true=>rfl
      |false=>exact absurd ⟨i,V,V,hD⟩ h
   obtain⟨j0,hj0K,hj0,hbelow⟩:=least K (let ⟨j,h1,h2⟩:=hex;⟨j,h1,h1,h2⟩);have hj0s:j0<all.size:=Vl hj0K S.le;have hr0:j0∈Region.ready .any all listed:=by
    refine mem_ready.2 ⟨by rw[hl j0 hj0s];exact hj0,_,Vo hj0s,fun e he hb=>?_⟩;have hlt:=S.down j0 _ (Vo hj0s) e he hb;rw[pq V false true,hl e.on V];exact hbelow _ hlt
   refine⟨fun h0=>(by rw[h0]at hr0;cases hr0),fun i hi=>?_⟩;obtain⟨hiun,oi,hoi,hdir⟩:=mem_ready.1 hi;have his:=(Wc.1 hoi).1;have hdirD:∀e,e∈oi.after->Region.binds .any e=true->D e.on=true:=fun e he hb=>by
    have:=S.down i oi hoi e he hb;rw[<- hl e.on V,<- pq V false true];exact hdir e he hb
   have hahead:=S.ahead hL i oi;have hiK:i<K:=by
    rcases VA i K with h|h
    ·exact h
    ·have:=hahead j0 hoi hdirD (by rw[Ve V];omega);rw[hj0]at this;cases this
   have hDi:D i=false:=(by rw[<- hl i his];exact hiun);have hex:=xM (P:=P) (G:=G) S hg hiK hoi hDi (fun j hj hb=>hahead j hoi hdirD (by rw[Vf hiK];exact hb)) (fun j h1 h2 hD=>by
    cases hb:(eJ bs j).testBit i with
    |false=>rfl
    |true =>
     have hjs:j<all.size:=Vl h2 S.le;have:=S.ahead hL j _ i (Vo hjs) (fun e he hbe=>hL j _ hD (Vo hjs) e he hbe) (by rw[Vf h2];exact hb);rw[hDi]at this;cases this)
   have hoi':oi=all[i]:=by
    rw[Vo his]at hoi;exact(Option.some.inj hoi).symm
   refine xL hoi (hfit oi (by rw[hoi'];simp)) hs hr hex ?_;rintro Γ' a' w' hs' E hn hr' ⟨cv,rfl⟩;have hc':fQ (listed.setIfInBounds i true) all.size=r:=by
    have:=yt hiun all.size;rw[Vf his]at this;omega
   refine ih (listed.setIfInBounds i true) (bW D i) Γ' _ w' (by simpa using hsz) hc' ?_ ?_ ?_ hs' hr' Q' fun e a'' w'' hp=>hq _ _ _ (hp.step E hn (by rw[hoi'];exact nZ his cv) fun _ h=>h)
   ·intro j hj;by_cases hji:j=i
    ·subst hji;simp[bW]
    ·rw[getD_set_ne true (Ne.symm hji),hl j hj];simp[bW,hji]
   ·intro j hj;by_cases hji:j=i
    ·subst hji;exact hiK
    ·simp only[bW,Ve hji]at hj;exact hlow j hj
   ·intro k ok hk hok e he hb;by_cases hki:k=i
    ·subst hki;rw[hoi]at hok;cases hok;have:=hdirD e he hb;simp only[bW];split
     ·rfl
     ·exact this
    ·simp only[bW,Ve hki]at hk;have:=hL k ok hk hok e he hb;simp only[bW];split
     ·rfl
     ·exact this
def W.A6 {s:St}(K:Nat)(bs:List Nat)(hm:P.follows .mixedOrders=true)(hfit:all.toList.all (eP n)=true)(hst:sJ all bs K=true)
  (h:dY P G all (opsV P G rd Q all (all.toList.drop K)) bs 0 [] (all.toList.take K) s):W P G n rd (.region id all true) Q s:=by
 intro wb Γ a w rb hs hr;have S:=BZ hst;have hfit':∀o,o∈all.toList->eP n o=true:=fun o ho=>VG.1 hfit o ho;have wf:gV s.H:=fun id b hb=>hs.heap.A id b hb;have hcan0:canon all (fun _=>⟨.lit undef,fun _=>none,0,⟨[],[]⟩⟩) s 0=s:=rfl;obtain⟨d,hg,htail⟩:=trace (P:=P) (G:=G) (all:=all) (bs:=bs) (s0:=s) (tail:=opsV P G rd Q all (all.toList.drop K)) S.len S.le K 0 (fun _=>⟨.lit undef,fun _=>none,0,⟨[],[]⟩⟩) [] (V)
  (fun i hi=>V) (fun j hj=>V) (by rw[hcan0];exact wf) (by rw[hcan0];exact h)
 refine wpIn_region_any hm ?_
 let w1:World:={ w with drawn:=w.drawn+1 }
 have R1:ZQ P G Γ s.H w1:=hs.heap.move rfl (qL w) ZG (fun id b hb=>.inl hb) fun id b hb=>hb;have hs1:ZY P G n wb Γ s a w1:=hs.move (qL w) ZG R1;have hs2:ZY P G n wb Γ ⟨s.ρ,bO s.H (aO d K)⟩ a w1:=hs1.move (sM _ _) (by simp[bO]) (B2 R1 _);have hr2:dP Γ (bO s.H (aO d K)) rd rb:=hr.move fun id b hb=>by
  simp only[bO];rw[Ve]
  ·exact hb
  ·have:=hs.heap.A id b hb;omega
 have e0:fk all d s K (fun _=>false)=⟨s.ρ,bO s.H (aO d K)⟩:=xN fun _ _=>rfl;refine xO (wb:=wb) (id:=id) (dr:=true) S hfit' hg htail all.size _ (fun _=>false) Γ a w1 ZD (uK _ ZG) ?_ ?_ ?_ ?_ ?_ _ ?_
 ·intro j hj;rw[V0,Xp,Vf hj];rfl
 ·intro j hj;cases hj
 ·intro i o hi;cases hi
 ·rw[e0];exact hs2
 ·rw[e0];exact hr2
 ·rw[e0];intro e a' w' hp;refine hp.step ?_ (by simp[bO]) (.refl _ _) fun _ h=>h;exact ZS.trans (qL w) ZG (sM _ _)
end Go.Hx.Ev
namespace Go.Hx.Ev
open Go.Hx
variable {P:Program} {G:Nat->Option (List ZI)} {Γ Γ':aE} {H H':ZH} {w w':World}
variable {K:Nat->Prop}{v:ZI}
inductive Cln (K:Nat->Prop):ZI->Prop
 |lit (v:Value):Cln K (.lit v)
 |nil:Cln K (.Q 0 [])
 |agg {c:List ZI} (h:∀i (h:i<c.length),Cln K c[i]):Cln K (.agg c)
 |nc {c:List ZI} (h:∀i (h:i<c.length),Cln K c[i]):Cln K (.nc c)
 |X {f:FuncId} {a b:List ZI} (h1:∀i (h:i<a.length),Cln K a[i]) (h2:∀i (h:i<b.length),Cln K b[i]):Cln K (.X f a b)
 |U {id g o l z:Nat} (h:K id):Cln K (.U id g o l z)
 |O {id g o:Nat} (h:K id):Cln K (.O id g o)
def Cln.mono {K':Nat->Prop}(h:Cln K v)(hk:∀id,K id->K' id):Cln K' v:=by
 induction h with
 |lit v=>exact .lit v
 |nil=>exact .nil
 |agg _ ih=>exact .agg ih
 |nc _ ih=>exact .nc ih
 |X _ _ ih1 ih2=>exact .X ih1 ih2
 |U h=>exact .U (hk _ h)
 |O h=>exact .O (hk _ h)
def Cln.fz {S:Nat->Prop}{nx:Nat}(h:Cln (fun id=>¬S id/\id<nx) v):Fz S H nx v v:=by
 induction h with
 |lit v=>exact .lit v
 |nil=>exact .Q rfl fun i h=>absurd h (Vs _)
 |agg _ ih=>exact .agg rfl fun i h _=>ih i h
 |nc _ ih=>exact .nc rfl fun i h _=>ih i h
 |X _ _ ih1 ih2=>exact .X rfl rfl (fun i h _=>ih1 i h) fun i h _=>ih2 i h
 |U h=>exact .U h.2 h.1
 |O h=>exact .O h.2 h.1
def Cln.sound {Γ₁ Γ₂:aE}{H₁ H₂:ZH}(hK:∀id,K id->H₂.get id=H₁.get id/\Γ₂ id=Γ₁ id)(hn:H₁.A<=H₂.A)(h:Cln K v):
  ∀ {cv:Value},ZL P Γ₁ H₁ w v cv->ZL P Γ₂ H₂ w v cv:=by
 induction h with
 |lit v=>intro cv h;cases h;exact .lit _
 |nil =>
  intro cv h;cases h with
  |nw a cap=>exact .nw a cap
  |Q hb hlt hlen hcs hcell hrel=>exact .nw _ _
 |agg _ ih=>intro cv h;cases h with|agg hcs hrel=>exact .agg hcs fun i h1 h2=>ih i h1 (hrel i h1 h2)
 |nc _ ih=>intro cv h;cases h with|nc hcs hrel=>exact .nc hcs fun i h1 h2=>ih i h1 (hrel i h1 h2)
 |X _ _ ih1 ih2=>intro cv h;cases h with|X hfs hcs hf hc=>exact .X hfs hcs (fun i h1 h2=>ih1 i h1 (hf i h1 h2)) fun i h1 h2=>ih2 i h1 (hc i h1 h2)
 |U h =>
  intro cv hv;cases hv with
  |U hv =>
   obtain⟨a,b,c,d⟩:=hv;obtain⟨e1,e2⟩:=hK _ h;refine .U ⟨V,b,by rw[e1];exact c,fun g e cells hg=>?_⟩;rw[e1]at hg;rw[e2];exact d g e cells hg
 |O h =>
  intro cv hv;cases hv with
  |O hv =>
   obtain⟨a,b,c,d⟩:=hv;obtain⟨e1,e2⟩:=hK _ h;refine .O ⟨V,b,by rw[e1];exact c,fun g e cells hg=>?_⟩;rw[e1]at hg;rw[e2];exact d g e cells hg
def fX (lo hi:Nat)(lv:Nat->Bool)(g:Nat->Option ZO):Nat->Option ZO:=fun id=>if lo<=id/\id<hi then (if lv id=true then g id else some (.J 0 0 [])) else none
def nY (lo hi:Nat):List Nat:=(List.range (hi-lo)).map (·+lo)
def A7 {lo hi r:Nat}(h1:lo<=r)(h2:r<hi):r∈nY lo hi:=by
 unfold nY;rw[Vu];exact⟨r-lo,by rw[Vp];omega,V⟩
open Classical in
def nW.mk {f:FuncId}{first cap args args':List ZI}(Hs Hs':ZH)(kp:Nat->Prop)(lv:Nat->Bool)(rs:List Nat)(hG:fB G)
  (hrs:∀r,r∈rs->r<H.A) (hnx:Hs.A=H.A) (hle:Hs.A<=Hs'.A)
  (hkp:∀id,kp id->id∈rs/\Hs.get id=H.get id/\Hs'.get id=H.get id/\∃g e c,H.get id=some (.J g e c)/\∀i (h:i<c.length),Cln kp c[i])
  (hgone:∀id,¬kp id->Hs.get id=none)
  (hl:args'.length=(first++args++cap).length)
  (hargs:∀H2:ZH,(∀r,r∈rs->H2.get r=H.get r)->∀i (h:i<(first++args++cap).length) (h':i<args'.length),Fz (fun id=>¬kp id) H2 H.A (first++args++cap)[i] args'[i])
  (hcall:ae P G f args' Hs fun r H'=>r=.ret v/\H'=Hs')
  (hv:Cln (fun id=>kp id\/(H.A<=id/\id<Hs'.A/\lv id=true)) v)
  (hnew:∀id,H.A<=id->id<Hs'.A->lv id=true->∃g e c,Hs'.get id=some (.J g e c)/\∀i (h:i<c.length),Cln (fun id=>kp id\/(H.A<=id/\id<Hs'.A/\lv id=true)) c[i]):
  nW P G (.X f first cap) args H v (fX H.A Hs'.A lv Hs'.get) (Hs'.A-H.A) ⟨nY H.A Hs'.A,rs⟩:=by
 have hsome:∀id,H.A<=id->id<Hs'.A->(fX H.A Hs'.A lv Hs'.get id).isSome=true:=by
  intro id h1 h2;unfold fX;rw[Vf ⟨h1,h2⟩];split
  ·rename_i h3;obtain⟨g,e,c,h4,_⟩:=hnew id h1 h2 h3;rw[h4];rfl
  ·rfl
 have hout:∀id,(fX H.A Hs'.A lv Hs'.get id).isSome=true->H.A<=id/\id<Hs'.A:=by
  intro id h;unfold fX at h;split at h
  ·assumption
  ·cases h
 refine⟨hrs,fun r hr=>?_,fun c hc=>hsome _ V V,?_⟩
 ·obtain⟨h1,h2⟩:=hout r hr;exact⟨A7 h1 h2,.inr ⟨h1,V⟩⟩
 intro H2 hag hres hn2;refine ao.X ⟨hcall.1,fun Γ w cargs R hr=>?_⟩
 let S:Nat->Prop:=fun id=>¬kp id
 have kpO:∀id,¬S id->kp id:=fun id h=>VZ h;have hkH2:∀id,kp id->H2.get id=H.get id:=fun id h=>hag id (hkp id h).1;have hlow:∀id,kp id->id<H.A:=fun id h=>hrs id (hkp id h).1;have F:FzH S H2 Hs:=by
  refine⟨fun id hs=>hgone id hs,fun id b hs hb=>?_,fun id hs hb=>?_⟩
  ·have hk:=kpO id hs;obtain⟨h1,h2,h3,g,e,c,h4,h5⟩:=hkp id hk;rw[hkH2 id hk,h4]at hb;cases hb;refine⟨by rw[hnx];exact hlow id hk,.J g e c,by rw[h2,h4],rfl,rfl,rfl,fun i hi _=>?_⟩;exact((h5 i hi).mono fun id hk=>⟨fun hs=>hs hk,by rw[hnx];exact hlow id hk⟩).fz
  ·have hk:=kpO id hs;obtain⟨h1,h2,h3,g,e,c,h4,h5⟩:=hkp id hk;rw[hkH2 id hk,h4]at hb;cases hb
 have R0:ZQ P G (gI S Γ) Hs w:=F.rel hG R;have hr0:dG P (gI S Γ) Hs w args' cargs:=⟨by have:=hr.1;omega,fun i h1 h2=>(by
  have:=hargs H2 hag i V h1;rw[<- hnx]at this;exact this.sound R F (hr.2 i V h2))⟩
 refine(hcall.2 _ w cargs R0 hr0).mono ?_;rintro e w' ⟨r,H',Γ',hend,⟨rfl,rfl⟩,R',E,hn⟩
 let nw:Nat->Prop:=fun id=>H.A<=id/\id<H'.A
 let lw:Nat->Prop:=fun id=>H.A<=id/\id<H'.A/\lv id=true
 let Γ3:aE:=fun id=>if lw id then Γ' id else Γ id
 let H3:ZH:=⟨cY (fX H.A H'.A lv H'.get) H2.get,H2.A⟩
 have hnle:H'.A<=H2.A:=V
 have g3l:∀id,lw id->Γ3 id=Γ' id:=fun id h=>Vf h;have g3o:∀id,¬lw id->Γ3 id=Γ id:=fun id h=>Ve h;have kold:∀id,kp id->¬nw id:=fun id h hn=>by have:=hlow id h;have:=hn.1;omega
 have koldl:∀id,kp id->¬lw id:=fun id h hn=>kold id h ⟨hn.1,hn.2.1⟩;have gk:∀id,kp id->Γ' id=Γ id:=by
  intro id hk;obtain⟨h1,h2,h3,g,e,c,h4,h5⟩:=hkp id hk;have hlo:=hlow id hk;obtain⟨x,hx,hle'⟩:=E.na id V V (.J g e c) (by rw[h3,h4]);rw[h2,h4]at hx;cases hx;rw[(hle'.2 rfl).1];exact jL fun hs=>hs hk
 have h3new:∀id,nw id->H3.get id=fX H.A H'.A lv H'.get id:=by
  intro id h;show cY _ _ id=_;unfold cY;have:=hsome id h.1 h.2;split
  ·rename_i b hb;rw[hb]
  ·rename_i hb;rw[hb]at this;cases this
 have h3live:∀id,lw id->H3.get id=H'.get id:=by
  intro id h;rw[h3new id ⟨h.1,h.2.1⟩];unfold fX;rw[Vf ⟨h.1,h.2.1⟩,Vf h.2.2]
 have h3dead:∀id,nw id->¬lw id->H3.get id=some (.J 0 0 []):=by
  intro id h hl;rw[h3new id h];unfold fX;rw[Vf h,Ve fun h2=>hl ⟨h.1,h.2,h2⟩]
 have h3old:∀id,¬nw id->H3.get id=H2.get id:=by
  intro id h;show cY _ _ id=_;exact nX fun h'=>h (hout id h')
 have hrsv:∀id,nw id->H2.get id=some .nq:=by
  intro id h;have:=hres (id-H.A) (by have:=h.1;have:=h.2;omega)
  rwa [show H.A+(id-H.A)=id by have:=h.1;omega]at this
 have hΓnew:∀id,nw id->Γ id=none:=fun id h=>R.nq id (hrsv id h);have hfar:∀id b base n,lw id->Γ' id=some (b,base,n)->w.heap.size<=b:=by
  intro id b base n hid hb;refine Yy fun hlt=>?_;have hown:(gI S Γ).fJ b:=VZ fun hno=>(E.ng b hlt hno).2 ⟨id,base,n,hb⟩;obtain⟨id0,base0,n0,h0⟩:=hown;obtain⟨hs0,h0⟩:=kU h0;have hk0:=kpO id0 hs0;rw[<- gk id0 hk0]at h0;have:=R'.inj _ _ _ _ _ _ _ h0 hb;subst this;exact koldl _ hk0 hid
 have EE:ZS Γ H2 w Γ3 H3 w':=by
  refine⟨E.os,E.tape,E.output,E.size,fun b hb ho=>⟨(E.ng b hb fun h=>ho (uM h)).1,?_⟩,fun id h1 h2 x' hx'=>?_,E.nz,E.kind,fun id b x y hb hlt=>?_⟩
  ·rintro⟨id,base,n,h⟩;by_cases hl:lw id
   ·rw[g3l id hl]at h;have:=hfar id b base n hl h;omega
   ·rw[g3o id hl]at h;exact ho ⟨id,base,n,h⟩
  ·by_cases hnw:nw id
   ·exact⟨.nq,hrsv id hnw,trivial⟩
   ·rw[h3old id hnw]at hx';refine⟨x',hx',?_⟩;have hg:Γ3 id=Γ id:=g3o id fun h=>hnw ⟨h.1,h.2.1⟩;cases x' with
    |J g e c=>exact⟨ZG,fun _=>⟨hg,rfl,rfl⟩⟩
    |loop=>exact⟨hg,rfl,rfl,rfl,rfl,rfl⟩
    |nq=>trivial
    |mp=>exact hg
  ·by_cases hl:lw id
   ·rw[g3l id hl]at hb;have:=hfar id b x y hl hb;omega
   ·rw[g3o id hl]at hb;exact⟨x,y,hb⟩
 have hn3:H2.A<=H3.A:=Nat.le_refl _;have hK:∀id,(kp id\/lw id)->H3.get id=H'.get id/\Γ3 id=Γ' id:=by
  rintro id (h|h)
  ·refine⟨?_,?_⟩
   ·rw[h3old id (kold id h),hkH2 id h,(hkp id h).2.2.1]
   ·rw[g3o id (koldl id h),gk id h]
  ·exact⟨h3live id h,g3l id h⟩
 have hle3:H'.A<=H3.A:=hnle;have hidden:∀id b base n,¬kp id->Γ id=some (b,base,n)->w'.heap[b]?=w.heap[b]?:=by
  intro id b base n hk h;refine(E.ng b (R.lt _ _ _ _ h) ?_).1;rintro⟨id0,base0,n0,h0⟩;obtain⟨hs0,h0⟩:=kU h0;have:=R.inj _ _ _ _ _ _ _ h h0;subst this;exact hs0 hk
 have R3:ZQ P G Γ3 H3 w':=by
  refine⟨?_,?_,?_,?_,?_,?_,?_,?_,?_,?_⟩
  ·intro id g e cells hg;have main : (kp id∨lw id)→(∀ i (h : i<cells.length),Cln (fun id=>kp id∨lw id) cells[i])→H'.get id=some (.J g e cells)→_:=fun hid hc hg'=>R'.J id g e cells hg';have fin : (kp id∨lw id)→(∀ i (h : i<cells.length),Cln (fun id=>kp id∨lw id) cells[i])→H'.get id=some (.J g e cells)→(match Γ3 id with
     |some (b,base,n)=>∃c,w'.heap[b]?=some (.cells c e (0,0))/\c.size=n/\base+cells.length<=n /\
      ∀i (h:i<cells.length),∃cv,c[base+i]?=some cv/\ZL P Γ3 H3 w' cells[i] cv
     |none=>cells=[]):=by
    intro hid hc hg';have h1:=R'.J id g e cells hg';rw[(hK id hid).2];cases hΓ:Γ' id with
    |none=>rw[hΓ]at h1;exact h1
    |some y =>
     obtain⟨b,base,n⟩:=y;rw[hΓ]at h1;obtain⟨c,a1,a2,a3,a4⟩:=h1;refine⟨c,a1,a2,a3,fun i hi=>?_⟩;obtain⟨cv,b1,b2⟩:=a4 i hi;exact⟨cv,b1,(hc i hi).sound hK hle3 b2⟩
   by_cases hl:lw id
   ·have hg':=hg;rw[h3live id hl]at hg';obtain⟨g0,e0,c0,h4,h5⟩:=hnew id hl.1 hl.2.1 hl.2.2;rw[h4]at hg';cases hg';exact fin (.inr hl) h5 h4
   ·by_cases hnw:nw id
    ·rw[h3dead id hnw hl]at hg;cases hg;rw[g3o id hl,hΓnew id hnw]
    ·rw[h3old id hnw]at hg;by_cases hk:kp id
     ·obtain⟨h1,h2,h3,g0,e0,c0,h4,h5⟩:=hkp id hk;rw[hkH2 id hk,h4]at hg;cases hg;exact fin (.inl hk) (fun i hi=>(h5 i hi).mono fun _ h=>.inl h) (by rw[h3,h4])
     ·have h1:=R.J id g e cells hg;rw[g3o id hl];cases hΓ:Γ id with
      |none=>rw[hΓ]at h1;exact h1
      |some y =>
       obtain⟨b,base,n⟩:=y;rw[hΓ]at h1;obtain⟨c,a1,a2,a3,a4⟩:=h1;refine⟨c,by rw[hidden id b base n hk hΓ];exact a1,a2,a3,fun i hi=>?_⟩;obtain⟨cv,b1,b2⟩:=a4 i hi;exact⟨cv,b1,b2.aZ EE hn3⟩
  ·intro id st pend n env ps asg body hg;by_cases hl:lw id
   ·rw[h3live id hl]at hg;obtain⟨g0,e0,c0,h4,h5⟩:=hnew id hl.1 hl.2.1 hl.2.2;rw[h4]at hg;cases hg
   ·by_cases hnw:nw id
    ·rw[h3dead id hnw hl]at hg;cases hg
    ·rw[h3old id hnw]at hg;have hk:¬kp id:=fun hk=>by
      obtain⟨h1,h2,h3,g0,e0,c0,h4,h5⟩:=hkp id hk;rw[hkH2 id hk,h4]at hg;cases hg
     obtain⟨b,r,a1,a2,a3,a4,a5,a6,a7,a8,a9⟩:=R.loop id st pend n env ps asg body hg;exact⟨b,r,by rw[g3o id hl];exact a1,by rw[hidden id b 0 0 hk a1];exact a2,a3,a4,a5,a6,a7,a8,fun t ht=>(a9 t ht).aZ EE hn3⟩
  ·intro id es hg;by_cases hl:lw id
   ·rw[h3live id hl]at hg;obtain⟨g0,e0,c0,h4,h5⟩:=hnew id hl.1 hl.2.1 hl.2.2;rw[h4]at hg;cases hg
   ·by_cases hnw:nw id
    ·rw[h3dead id hnw hl]at hg;cases hg
    ·rw[h3old id hnw]at hg;have hk:¬kp id:=fun hk=>by
      obtain⟨h1,h2,h3,g0,e0,c0,h4,h5⟩:=hkp id hk;rw[hkH2 id hk,h4]at hg;cases hg
     obtain⟨b,a1,a2⟩:=R.mp id es hg;exact⟨b,by rw[g3o id hl];exact a1,by rw[hidden id b 0 0 hk a1];exact a2⟩
  ·intro id hg;have hnw:¬nw id:=fun hnw=>by
    by_cases hl:lw id
    ·rw[h3live id hl]at hg;obtain⟨g0,e0,c0,h4,h5⟩:=hnew id hl.1 hl.2.1 hl.2.2;rw[h4]at hg;cases hg
    ·rw[h3dead id hnw hl]at hg;cases hg
   rw[h3old id hnw]at hg;rw[g3o id fun h=>hnw ⟨h.1,h.2.1⟩];exact R.nq id hg
  ·intro id id' b base n base' n' h h';by_cases hl:lw id<;>by_cases hl':lw id'
   ·rw[g3l id hl]at h;rw[g3l id' hl']at h';exact R'.inj _ _ _ _ _ _ _ h h'
   ·rw[g3l id hl]at h;rw[g3o id' hl']at h';have:=hfar id b base n hl h;have:=R.lt _ _ _ _ h';omega
   ·rw[g3o id hl]at h;rw[g3l id' hl']at h';have:=hfar id' b base' n' hl' h';have:=R.lt _ _ _ _ h;omega
   ·rw[g3o id hl]at h;rw[g3o id' hl']at h';exact R.inj _ _ _ _ _ _ _ h h'
  ·intro id x h;by_cases hl:lw id
   ·obtain⟨g0,e0,c0,h4,h5⟩:=hnew id hl.1 hl.2.1 hl.2.2;exact⟨_,by rw[h3live id hl];exact h4⟩
   ·rw[g3o id hl]at h;by_cases hnw:nw id
    ·exact⟨_,h3dead id hnw hl⟩
    ·obtain⟨y,hy⟩:=R.nF id x h;exact⟨y,by rw[h3old id hnw];exact hy⟩
  ·intro id b base n h;by_cases hl:lw id
   ·rw[g3l id hl]at h;exact R'.lt _ _ _ _ h
   ·rw[g3o id hl]at h;exact Vl (R.lt _ _ _ _ h) E.size
  ·intro id y h;by_cases hnw:nw id
   ·have:=hnw.2;exact Vl this hnle
   ·rw[h3old id hnw]at h;exact R.A id y h
  ·intro g cells h;exact(R.nE g cells h).aZ EE hn3
  ·exact R.qh EE
 refine⟨.ret v,H3,Γ3,?_,⟨rfl,rfl⟩,R3,EE,hn3⟩;cases e with
 |returned cv=>exact hv.sound hK hle3 hend
 |panicked chain=>exact hend.elim
 |outgrown=>exact hend.elim
end Go.Hx.Ev
namespace Go.Hx
inductive BT (α:Type) where
 |nil
 |node (v:Option α) (l r:BT α)
inductive EBlk where
 |J (gen:Nat) (elem:TypeId) (cells:List ZI)
 |loop (st:LoopState) (pend:Option Code) (n:Nat) (env:BT ZI) (ps:Array Tmp) (asg body:Code)
 |mp (es:List (Int × Int))
structure EH where
 hp:BT EBlk
 nx:Nat
inductive RR where
 |ev (x:AX) (env:BT ZI) (h:EH)
 |ret (v:ZI) (h:EH)
 |panic (h:EH)
inductive OR where
 |fail
 |val (v:ZI)
 |nD (v:ZI) (r g:Nat) (e:TypeId) (cells:List ZI) (fresh:Bool)
 |effM (v:ZI) (r:Nat) (es:List (Int × Int)) (fresh:Bool)
structure GD where
 z:ZI
 ok:ZI->Bool
structure EP where
 P:Program
 G:Nat->Option (List ZI)
 gd:FuncId->Option GD
  /-- What is known already of a function's calls. -/
 known:FuncId->Option (List (List ZI × ZI))
  /-- What a call of a function without a body comes to. -/
 ext:FuncId->Option (List ZI->Option ZI):=fun _=>none
section step
end step
section step
end step
end Go.Hx
namespace Go.Hx
variable {P:Program} {G:Nat->Option (List ZI)}
end Go.Hx
namespace Go.Hx
end Go.Hx
namespace Go.Hx
end Go.Hx
namespace Go.Hx
end Go.Hx
namespace Go.Hx
def sW (z:GD):Option ZI->ZI
 |some u=>.nc [u,.lit (.int .i64 0)]
 |none=>.nc [z.z,.lit (.int .i64 6)]
def yI (P:Program)(G:Nat->Option (List ZI))(f:FuncId)(z:GD):Prop:=∀g cap cap' (H:ZH) o,cap'.length=cap.length ->
 (∀H2:ZH,(∀id,id<H.A->H2.get id=H.get id)->∀i (h:i<cap.length) (h':i<cap'.length),Fz (fun _=>True) H2 0 cap[i] cap'[i]) ->
 (∀u,o=some u->z.ok u=true)->ae P G g cap' cR (mI o)->ae P G f [.X g [] cap] H fun r H'=>r=.ret (sW z o)/\H'=H
def Mz (E:EP):Prop:=∀f e,E.ext f=some e->∀args r,e args=some r->∀(H:ZH) (K:ZN->ZH->Prop),K (.ret r) H->ao E.P E.G (.X f [] []) args H K
structure EOk (E:EP):Prop where
 gok:fB E.G
 mixed:E.P.follows .mixedOrders=true
 known:∀f l,E.known f=some l->∀a v,(a,v)∈l->ae E.P E.G f a cR fun r H'=>∃u,r=.ret u/\Z3 H' u v
 gd:∀f z,E.gd f=some z->yI E.P E.G f z
 ext:Mz E
section
end
end Go.Hx
namespace Go.Hx
open Go.ChangeShapes Go.WideShapes Go.RowKit
variable {P:Program} {G:Nat->Option (List ZI)}
variable {sp:Nat->Bool}{H:Type}{enc:TypeId × Value->H}
def jI:aE:=fun _=>none
def xz (P:Program)(G:Nat->Option (List ZI))(W:World):Prop:=∀g cells,G g=some cells->ZL P jI cR W (.ni cells 0) (.pointer (some ⟨g,0,none⟩))/\∃c e f,W.heap[g]?=some (.cells c e f)/\c.size=cells.length
def GH {W:World}(hg:xz P G W):ZQ P G jI cR W where
 J _ _ _ _ h:=by cases h
 loop _ _ _ _ _ _ _ _ h:=by cases h
 mp _ _ h:=by cases h
 nq _ h:=by cases h
 inj _ _ _ _ _ _ _ h:=by cases h
 nF _ _ h:=by cases h
 lt _ _ _ _ h:=by cases h
 A _ _ h:=by cases h
 nE g cells h:=(hg g cells h).1
 gsz g cells h:=(hg g cells h).2
def A1 (b:Nat):¬jI.fJ b:=fun ⟨_,_,_,h⟩=>by cases h
def GI {f:FuncId}{args:List ZI}{cargs:Array Value}{W:World}(hA:ae P G f args cR fun r H'=>∃u,r=.ret u/\Z3 H' u (.lit (.bool true)))(hg:xz P G W)(hr:dG P jI cR W args cargs):
  Calls P f cargs W fun e W'=>e=.returned (.bool true)/\RowKit.Below W.heap.size W W'/\∀a,a.block<W.heap.size->W'.frozen? a=W.frozen? a:=by
 refine callsIn_wide.1 ((hA.2 jI W cargs (GH hg) hr).mono ?_);rintro e W' ⟨r,H',Γ',hend,⟨u,rfl,hf⟩,_,E,_⟩;cases e with
 |returned cv =>
  have hu:u=.lit (.bool true):=by cases hf;rfl
  subst hu;cases hend;exact⟨rfl,⟨E.os,E.tape,E.output,E.size,fun k hk=>(E.ng k hk (A1 k)).1⟩,E.nz⟩
 |panicked=>exact hend.elim
 |outgrown=>exact hend.elim
def GJ {W W':World}(hb:RowKit.Below W.heap.size W W')(may:MemPlace->Prop):W.keptBut W' may:=by
 refine⟨hb.os,hb.output,fun i hi=>?_⟩;rw[hb.block i hi];cases h:W.heap[i]? with
 |none=>rfl
 |some o=>cases o<;>first|exact rfl|exact⟨rfl,rfl,rfl,fun _ _=>rfl⟩|exact .inr ⟨rfl,rfl⟩
def GK (hl:laidOutB P=true){W W':World}(hb:RowKit.Below W.heap.size W W'):∀ {ts:List TypeId} {vs:List Value} {ds:List (DataW H)} {ps:List MemPlace},
  ts.all (fun t=>P.readableRec t && decide (t<P.types.size))=true->DataW.TrodAll enc P W 0 (fun _=>true) true ts vs ds ps->(∀x∈ps,x.block<W.heap.size)->(∀x∈ps,sp x.block=true)->DataW.TrodAll enc P W' 0 sp true ts vs ds ps:=by
 intro ts
 induction ts with
 |nil =>
  intro vs ds ps _ h _ _;cases vs<;>cases ds<;>first|exact h|exact h.elim
 |cons t ts ih =>
  intro vs ds ps hok h hlt hsp;simp only[List.all_cons,VI,decide_eq_true_eq]at hok;cases vs with
  |nil=>cases ds<;>exact h.elim
  |cons v vs=>cases ds with
   |nil=>exact h.elim
   |cons d ds =>
    obtain⟨p,q,h1,h2,rfl⟩:=h;refine⟨p,q,?_,ih hok.2 h2 (fun x hx=>hlt x (by simp[hx])) (fun x hx=>hsp x (by simp[hx])),rfl⟩;exact WideElems.Trod_stays hl hok.1.1 hok.1.2 h1 (fun x hx=>hb.same (hlt x (by simp[hx]))) (fun x hx=>hsp x (by simp[hx]))
def GL {W:World}{base:Nat}{held:Bool}:∀ {ts:List TypeId} {vs:List Value} {ds:List (DataW H)} {ps:List MemPlace},
  DataW.TrodAll enc P W base sp held ts vs ds ps->vs.length=ts.length/\ds.length=ts.length:=by
 intro ts
 induction ts with
 |nil =>
  intro vs ds ps h;cases vs<;>cases ds<;>first|exact⟨rfl,rfl⟩|exact h.elim
 |cons t ts ih =>
  intro vs ds ps h;cases vs with
  |nil=>cases ds<;>exact h.elim
  |cons v vs=>cases ds with
   |nil=>exact h.elim
   |cons d ds =>
    obtain⟨p,q,_,h2,_⟩:=h;obtain⟨h3,h4⟩:=ih h2;exact⟨by simp[h3],by simp[h4]⟩
def GM {f:Func}{s:ChangeSpec}{apart fresh handsOn again:Bool}{W W':World}{args:Array Value}{ds gs:List (DataW H)}{before:List MemPlace}{t:TypeId}
  (hl:laidOutB P=true) (hok:f.params.toList.all (fun t=>P.readableRec t && decide (t<P.types.size))=true) (hvars:s.vars=[]) (hrt:f.resultTypes=#[t]) (ht:P.underlying t=some .bool)
  (hs:∀ds:List (DataW H),ds.length=f.params.toList.length->s.fn H (ds++[])={ results:=[.lit (.bool true)],args:=ds })
  (hW:DataW.Whole enc P f.params.toList s.vars apart W args.toList ds gs before) (hb:RowKit.Below W.heap.size W W') (hfz:∀a,a.block<W.heap.size->W'.frozen? a=W.frozen? a):s.post enc P f apart fresh handsOn again W args (.bool true) W':=by
 have hW':=hW;obtain⟨p,q,hA,hV,rfl,hz,hn⟩:=hW;have hgs:gs=[]/\q=[]:=by
  rw[hvars]at hV;cases gs with
  |nil=>exact⟨rfl,hV⟩
  |cons=>exact hV.elim
 obtain⟨rfl,rfl⟩:=hgs;have hfn:=hs ds (GL hA).2;have hlt:∀x∈p,x.block<W.heap.size:=fun x hx=>by simpa using hW'.lt x (by simp[hx])
 have hres:∀(b:Nat) (sp:Nat->Bool) (hd:Bool),DataW.TrodAll enc P W' b sp hd f.resultTypes.toList ((Value.bool true).resultList f.resultTypes.size) (s.fn H (ds++[])).results []:=fun b sp hd=>by
  rw[hfn,hrt];exact trodAll_mk1 (shut_bool ht true)
 have hargs:∀sp:Nat->Bool,(∀x∈p,sp x.block=true)->DataW.TrodAll enc P W' 0 sp true f.params.toList args.toList (s.fn H (ds++[])).args p:=fun sp hsp=>by
  rw[hfn];exact GK hl hb hok hA hlt hsp
 have hva:∀sp:Nat->Bool,DataW.TrodVars enc P W' sp s.vars (s.fn H (ds++[])).vars []:=fun sp=>by
  rw[hfn,hvars];exact rfl
 have hpp:p++[]=p:=List.append_nil p;have hold:∀x∈p,(fun b=>decide (b<W.heap.size)) x.block=true:=fun x hx=>by simpa using hlt x hx
 rw[hpp]at hW' hz hn;refine⟨ds,[],p,[],p,[],hW',hres _ _ _,hargs _ hold,hva _,World.keptBut_mono (fun x hx=>⟨hx,.inr (.inl hx)⟩) (GJ hb _),fun _=>⟨ok_one hrt rfl (okWide_bool_mk ht true),(s.fn H (ds++[])).results++(s.fn H (ds++[])).args,(s.fn H (ds++[])).vars,p,?_,fun x hx _=>hx⟩⟩;have hall:=trodAll_append (hargs (fun _=>true) fun _ _=>rfl) (hres 0 (fun _=>true) true);refine⟨p,[],by simpa using hall,hva _,ZD,fun b off hx=>?_,fun ha=>by simpa using hn ha⟩;rw[hfz _ (hlt _ hx)];exact hz b off hx
end Go.Hx
namespace Go.Hx
variable {P:Program} {G:Nat->Option (List ZI)}
def yJ:Nat->Option (List ZI):=fun _=>none
def MA:fB yJ:=fun _ _ h=>by cases h
def MB (W:World):xz P yJ W:=fun _ _ h=>by cases h
end Go.Hx
