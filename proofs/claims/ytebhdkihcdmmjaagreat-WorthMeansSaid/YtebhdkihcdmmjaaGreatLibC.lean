/-
  A function that defers one call, of a function that recovers. Own work: no program stands in this text.
-/
import Derived.Test.YtebhdkihcdmmjaaGreatLibB
import Derived.RecoverIn
import Derived.MakeChecks
import Derived.OpenShut
set_option linter.all false
namespace Go.Hx
variable {P:Program} {G:Nat->Option (List ZL)} {Γ Γ':aD} {H H':ZK} {w w':World}
def put_defers (a:Act)(d:Option Tmp)(v:Value):(a.put d v).defers=a.defers:=by cases d<;>rfl
section
variable {n:Nat} {wb:nnc} {rd rb:Option Nat} {Q:AX->St->Prop}
def Ho {id:Nat}{dr:Bool}{all:Array Oper}{ds:List Deferred}(hfit:∀o,o∈all.toList->eP n o=true):∀(is:List Nat) (s:St) (Γ:aD) (a:Act) (w:World),(∀i,i∈is->i<all.size) ->
  opsV P G rd Q all (is.filterMap fun i=>all[i]?) s->Z1 P G n wb Γ s a w->dN Γ s.H rd rb->a.defers=ds ->
  ∀(Q':Exit->Act->World->Prop),(∀e a' w',iy P G n wb rd rb (wr (.region id all dr)) Γ s.H a w Q e a' w'->a'.defers=ds->Q' e a' w')->wpOpsIn (dZ rb) 0 P all Q' is a w:=by
 intro is
 induction is with
 |nil =>
  intro s Γ a w _ h hs hr hd Q' hq;exact hq _ _ _ (.here (x:=.normal) trivial h hs hr) hd
 |cons i is ih =>
  intro s Γ a w hi h hs hr had Q' hq;have hlt:=hi i ZG;have ho:all[i]?=some all[i]:=Vq hlt;simp only[YO,ho]at h;unfold wpOpsIn;rw[ho];simp only;obtain⟨t,ht,h⟩:=h;rw[pC hs ht];have hd:=hfit all[i] ZG;cases t with
  |true =>
   simp only[if_true]at h ⊢;refine yu hd hs hr h ?_ ?_
   ·rintro Γ' s' a' w' hk hs' E hn hr' ⟨cv,rfl⟩;exact ih s' Γ' _ w' (fun j hj=>hi j (by simp[hj])) hk hs' hr' (by rw[put_defers];exact had) Q' fun e a'' w'' hp hdd=>hq _ _ _ (hp.step E hn (od hlt cv) fun _ h=>h) hdd
   ·rintro Γ' s' a' w' chain hp hc hs' E hn hr' rfl;exact hq _ _ _ ⟨.panic,s',Γ',hc,hp,hs',E,hn,hr',.refl _ _⟩ had
  |false =>
   simp only[Bool.false_eq_true,if_false]at h ⊢;refine⟨fun _ _=>trivial,?_⟩;have hdst:∀d,all[i].dst=some d->d<n:=by
    intro d hd';unfold eP at hd;rw[hd']at hd;simpa using hd
   have hs':=ja (v:=.lit undef) (cv:=undef) hs hdst (ZV.refl Γ s.H w) ZJ hs.heap (.lit _);exact ih ⟨aH s.ρ all[i].dst (.lit undef),s.H⟩ Γ _ w (fun j hj=>hi j (by simp[hj])) h hs' hr (by rw[put_defers];exact had) Q' fun e a'' w'' hp hdd=>hq _ _ _ (hp.step (ZV.refl _ _ _) ZJ (od hlt _) fun _ h=>h) hdd
def yi {id:Nat}{ops:Array Oper}{s s':St}{a:Act}(hfit:ops.toList.all (eP n)=true)(h:opsV P G rd (fun x t=>x=.normal/\t=s') ops ops.toList s)(hs:Z1 P G n wb Γ s a w)(hr:dN Γ s.H rd rb):
  (Code.region id ops false).wpIn (dZ rb) 0 P (fun e a' w'=>e=.normal/\a'.defers=a.defers/\∃ Γ',Z1 P G n wb Γ' s' a' w'/\ZV Γ s.H w Γ' s'.H w'/\s.H.A<=s'.H.A/\dN Γ' s'.H rd rb) a w:=by
 refine wpIn_region (Ho (id:=id) (dr:=false) (Q:=fun x t=>x=.normal/\t=s') (fun o ho=>VG.1 hfit o ho) _ s Γ a w (fun i hi=>Vs.1 hi) ?_ hs hr rfl _ ?_)
 ·have:(List.range ops.size).filterMap (fun i=>ops[i]?)=ops.toList:=by
   have:=BV ops.toList;simpa using this
  rw[this];exact h
 ·rintro e a' w' ⟨x,s2,Γ',hx,⟨rfl,rfl⟩,hs',E,hn,hr',_⟩ hd;cases e with
  |normal=>exact⟨rfl,hd,Γ',hs',E,hn,hr'⟩
  |_=>exact hx.elim
end
def Hp {fn:Func}{tmps:Array Value}{R:Ending->World->Prop}{u:FrameMode}{ρ:Env}{Γ₀:aD}{H₀:ZK}{w₀:World}{lo:Nat}{tail:List Deferred}(hu:u≠.run)(hlo:w₀.heap.size<=lo):∀(ds:List Deferred) (w:World),
  Marks lo Γ w ds->ZT P G Γ H w->(∀t,ZO P Γ H w (ρ t) (tmps.getD t undef))->ZV Γ₀ H₀ w₀ Γ H w->∀(X:World->Prop),X w->(∀(w:World) (r:Nat),X w->qx Γ w r->X (bH w r (.deferred none))) ->
  (∀w',ZT P G Γ H w'->(∀t,ZO P Γ H w' (ρ t) (tmps.getD t undef))->ZV Γ₀ H₀ w₀ Γ H w'->X w'->LeavesInM Fence.wide 0 P fn tmps R tail u w') ->
  LeavesInM Fence.wide 0 P fn tmps R (ds++tail) u w:=by
 intro ds
 induction ds with
 |nil=>intro w _ R0 he E X hX _ h;exact h w R0 he E hX
 |cons d ds ih =>
  intro w hm R0 he E X hX hXs h;obtain⟨r,rfl,hle,hown,hblk⟩:=hm.1 d ZG;have ho:∀c e f,Obj.deferred none≠.cells c e f:=fun _ _ _ h=>by cases h
  refine⟨hu,.inl ⟨r,bH w r (.deferred none),rfl,?_,?_⟩⟩
  ·unfold Instr.takeDeferred;have hg:(getObj r).run P w=.ok (.deferred (some [])) w:=(by simp[getObj,Sem.run,hblk]);rw[aq hg];simp only;have hset:(setObj r (.deferred none)).run P w=.ok () (bH w r (.deferred none)):=(by simp[setObj,Sem.run,hblk,bH]);rw[aq hset];rfl
  ·refine ih _ ⟨fun e he'=>?_,(XG.1 hm.2).2⟩ (R0.closed hblk hown ho) (fun t=>(he t).closed hblk ho) (E.closed hblk (VM hlo hle) _ ho) X (hXs w r hX ⟨hown,hblk⟩) hXs h;obtain⟨r',rfl,hle',hown',hblk'⟩:=hm.1 e (by simp[he']);refine⟨r',rfl,hle',hown',?_⟩;rw[eO,Vg]
   ·exact hblk'
   ·rintro⟨rfl,_⟩;exact(XG.1 hm.2).1 _ he' rfl
def yj (P:Program)(G:Nat->Option (List ZL))(rs:List ResultVar)(m:Nat)(ca cb:ZL)(r3 r4:Tmp)(o1 o2:Array Oper)(H₀:ZK)(K:ZQ->ZK->Prop):AX->St->Prop
 |.normal,s|.ret,s=>bj (fU P s.H s.ρ rs) fun vs=>aj P G H₀ K (kR vs) s.H
 |.panic,s=>∀t v,∃s1 s2,opsV P G none (fun x t=>x=.normal/\t=s1) o1 o1.toList ⟨aH (aH (dD [ca,cb]) (some r3) (.lit (.iface t v))) (some r4) (.lit (.bool true)),s.H⟩ /\
   opsV P G none (fun x t=>x=.normal/\t=s2) o2 o2.toList s1/\bj (fU P s2.H s.ρ rs) fun vs=>aj P G H₀ K (kR vs) s2.H
 |_,_=>False
def Ht {ρ:Operand->Value}{o:Oper}{ats:Array TypeId}(h:o.op=.call ⟨.builtin .recover,#[],ats⟩):(execOp ρ o).run P w=.ok .recover w:=by
 unfold execOp;rw[h];rfl
def Bs {args:List ZL}{cargs:Array Value}{k:Nat}(hr:dH P Γ H w args cargs)(t:Nat):ZO P Γ H w (dD args t) ((cargs++Array.replicate k undef).getD t undef):=by
 have hsz:=hr.1;by_cases ht:t<args.length
 ·have h1:(cargs++Array.replicate k undef).getD t undef=cargs[t]' V:=by
   simp only[V0];rw[Yl V,Vq V];rfl
  have h2:dD args t=args[t]:=by
   unfold dD;rw[Vf ht];rfl
  rw[h1,h2];exact hr.2 t ht (V)
 ·have h1:(cargs++Array.replicate k undef).getD t undef=undef:=by
   simp only[V0];rw[Y9 V,Xr];split<;>rfl
  have h2:dD args t=.lit undef:=by
   unfold dD;rw[Vo V];rfl
  rw[h1,h2];exact .lit _
def ae.guard {f g:FuncId}{fn gn:Func}{i0 i1 j0 j1 j2:Nat}{o0 o1 o2:Array Oper}{dF p q r3 r4:Tmp}{c2:Code}{T T':TypeId}{ty1 ty2 ty3 ty4:TypeId}{ps1 ps2 ps3 ps4:String}{af1 af2 af3 af4:Array Edge}{ats at3:Array TypeId}
  {args:List ZL} {K:ZQ->ZK->Prop} {rs:List ResultVar} {n m:Nat} {s1:St}
  (hf:P.funcs[f]?=some fn) (hb:fn.body=some (.seq (.region i0 o0 false) (.seq (.region i1 #[⟨some dF,.makeFunc (.func g) #[] #[.tmp p,.tmp q],ty1,ps1,af1,none⟩,⟨none,.defer ⟨.value (.tmp dF),#[],ats⟩,ty2,ps2,af2,none⟩] false) c2)))
    (hres : fn.results.toList = rs) (hnt : fn.ntmps = n) (hname : (fn.name == "runtime.NumGoroutine") = false) (hargs : args.length ≤ n) (hdF : dF < n)
  (hg : P.funcs[g]?=some gn) (hgb : gn.body=some (.seq (.region j0 #[⟨some r3,.call ⟨.builtin .recover,#[],at3⟩,ty3,ps3,af3,none⟩,⟨some r4,.binOp .neq T (.tmp r3) (.const .nilIface) T',ty4,ps4,af4,none⟩] false)
      (.cond (.tmp r4) (.seq (.region j1 o1 false) (.region j2 o2 false)) .skip))) (hgres : gn.results.toList = []) (hgnt : gn.ntmps = m) (hm : 2 ≤ m) (hgname : (gn.name == "runtime.NumGoroutine") = false) (hr3 : r3 < m) (hr4 : r4 < m) (h34 : r3 ≠ r4) (h42 : 2 ≤ r4) (h32 : 2 ≤ r3)
  (hneq0:∀w,(do eqGuard .neq T (.tmp r3) (.const .nilIface) .nilIface .nilIface;binOp .neq T .nilIface .nilIface:Sem Value).run P w=.ok (.bool false) w)
  (hneq1:∀t v w,(do eqGuard .neq T (.tmp r3) (.const .nilIface) (.iface t v) .nilIface;binOp .neq T (.iface t v) .nilIface:Sem Value).run P w=.ok (.bool true) w)
  (hf0:o0.toList.all (eP n)=true) (hf1:o1.toList.all (eP m)=true) (hf2:o2.toList.all (eP m)=true)
  (h0:opsV P G none (fun x t=>x=.normal/\t=s1) o0 o0.toList ⟨dD args,H⟩)
  (h2:W P G n none c2 (yj P G rs m (s1.ρ p) (s1.ρ q) r3 r4 o1 o2 H K) ⟨aH s1.ρ (some dF) (.X g [] [s1.ρ p,s1.ρ q]),s1.H⟩):ae P G f args H K:=by
 subst hres;subst hnt;subst hgnt;refine⟨⟨fn,hf,by rw[hb];rfl,hname⟩,fun Γ w cargs R hr=>?_⟩;refine callsIn_of_wp_marks hf hb trivial ?_;have hs:Z1 P G fn.ntmps ⟨w.heap.size,[]⟩ Γ ⟨dD args,H⟩ { tmps:=cargs++Array.replicate (fn.ntmps-cargs.size) undef,defers:=[] } w :=
  ⟨by have:=hr.1;simp;omega,fun t=>Bs hr t,R,⟨[],rfl,Marks.nil⟩,ZJ⟩
 refine wpIn_seq (wpIn_mono (yi (rb:=none) hf0 h0 hs rfl) ?_);rintro e a₁ w₁ ⟨rfl,hd1,Γ₁,hs₁,E₁,hn₁,hr₁⟩;have hd1':a₁.defers=[]:=hd1
  -- the closure is made,and deferred
 let d:Deferred:={ target:=.fn (.func g) #[a₁.eval (.tmp p),a₁.eval (.tmp q)],args:=#[] }
 let a₂:Act:={ a₁.put (some dF) (.func (.func g) #[] #[a₁.eval (.tmp p),a₁.eval (.tmp q)]) with defers:=[d] }
 have hp:=hs₁.env p;have hq:=hs₁.env q;have hclo:ZO P Γ₁ s1.H w₁ (.X g [] [s1.ρ p,s1.ρ q]) (.func (.func g) #[] #[a₁.eval (.tmp p),a₁.eval (.tmp q)]) :=
  ZO.X (fs:=[]) (cs:=[a₁.eval (.tmp p),a₁.eval (.tmp q)]) rfl rfl (fun i h _=>absurd h (Vt _)) fun i h h'=>by
   match i with
   |0=>exact hp
   |1=>exact hq
 have hs₂':=ja (dst:=some dF) hs₁ (fun x hx=>by cases hx;exact hdF) (ZV.refl Γ₁ s1.H w₁) ZJ hs₁.heap hclo;have hs₂:Z1 P G fn.ntmps ⟨w₁.heap.size,[d]⟩ Γ₁ ⟨aH s1.ρ (some dF) (.X g [] [s1.ρ p,s1.ρ q]),s1.H⟩ a₂ w₁ :=
  ⟨hs₂'.size,hs₂'.env,hs₂'.heap,⟨[],rfl,Marks.nil⟩,ZJ⟩
 refine wpIn_seq (wpIn_region ?_);have hdefer:(execOp a₂.eval ⟨none,.defer ⟨.value (.tmp dF),#[],ats⟩,ty2,ps2,af2,none⟩).run P w₁=.ok (.defer d) w₁:=by
  have hev:a₂.eval (.tmp dF)=.func (.func g) #[] #[a₁.eval (.tmp p),a₁.eval (.tmp q)]:=by
   show ((a₁.tmps.setIfInBounds dF _)).getD dF undef=_;have:=hs₁.size;simp[this,hdF]
  unfold execOp;simp only[resolve,hev];rw[aq (show (Deferred.ofValue (.func (.func g) #[] #[a₁.eval (.tmp p),a₁.eval (.tmp q)]) (Array.map a₂.eval #[])).run P w₁=.ok { target:=.fn (.func g) #[a₁.eval (.tmp p),a₁.eval (.tmp q)],args:=#[]++Array.map a₂.eval #[] } w₁ from rfl)];have e:(#[]++Array.map a₂.eval #[]:Array Value)=#[]:=ZG
  rw[e];rfl
 have hmk:(execOp a₁.eval ⟨some dF,.makeFunc (.func g) #[] #[.tmp p,.tmp q],ty1,ps1,af1,none⟩).run P w₁=.ok (.value (.func (.func g) #[] #[a₁.eval (.tmp p),a₁.eval (.tmp q)])) w₁:=by
  unfold execOp;simp only[List.map_toArray,List.map_cons,List.map_nil];rfl
 have ha2:{ (a₁.put (some dF) (.func (.func g) #[] #[a₁.eval (.tmp p),a₁.eval (.tmp q)])) with defers:=d :: (a₁.put (some dF) (.func (.func g) #[] #[a₁.eval (.tmp p),a₁.eval (.tmp q)])).defers }=a₂:=by
  show _=a₂;rw[put_defers,hd1']
 show wpOpsIn (dZ none) 0 P _ _ [0,1] a₁ w₁;unfold wpOpsIn;simp only[List.getElem?_toArray,List.getElem?_cons_zero,Region.wanted,if_true];refine⟨fun _ _=>trivial,?_⟩;rw[Oper.semAt_eq _ _ _ (fun c hc=>by cases hc),hmk,Oper.uponIn_value];unfold wpOpsIn;simp only[List.getElem?_toArray,List.getElem?_cons_succ,List.getElem?_cons_zero,Region.wanted,if_true];refine⟨fun _ _=>trivial,?_⟩;have hdefer':(execOp (a₁.put (some dF) (.func (.func g) #[] #[a₁.eval (.tmp p),a₁.eval (.tmp q)])).eval ⟨none,.defer ⟨.value (.tmp dF),#[],ats⟩,ty2,ps2,af2,none⟩).run P w₁=.ok (.defer d) w₁:=hdefer;rw[show (dZ none).round=none from rfl,Oper.semAt_none,hdefer',Oper.uponIn_defer,ha2];unfold wpOpsIn;show c2.wpIn (dZ none) 0 P _ a₂ w₁;refine wpIn_mono (h2 ⟨w₁.heap.size,[d]⟩ Γ₁ a₂ w₁ none hs₂ rfl) ?_;rintro e a₃ w₃ ⟨x,s₃,Γ₃,hx,hq₃,hs₃,E₃,hn₃,_,_⟩;have E03:ZV Γ H w Γ₃ s₃.H w₃:=E₁.trans hn₁ E₃;have hn03:H.A<=s₃.H.A:=VM hn₁ hn₃;have hca:ZO P Γ₃ s₃.H w₃ (s1.ρ p) (a₁.eval (.tmp p)):=ZO.ba hp E₃ hn₃;have hcb:ZO P Γ₃ s₃.H w₃ (s1.ρ q) (a₁.eval (.tmp q)):=ZO.ba hq E₃ hn₃;obtain⟨mk,hmks,hmkk⟩:=hs₃.defers;have hmks':a₃.defers=mk++[d]:=hmks;have hinv:∀w,(invoke d.target d.args).run P w=.ok (.enter g #[a₁.eval (.tmp p),a₁.eval (.tmp q)]) w:=fun w=>by
  show (callFunc g (#[]++#[a₁.eval (.tmp p),a₁.eval (.tmp q)])).run P w=_;unfold callFunc;rw[aq (run_program P w)];simp only[hg];rw[hgname,hgb];simp
  -- on the way out: marks,then the deferred call
 have leave:∀(u:FrameMode),u≠.run->(∀w'',ZT P G Γ₃ s₃.H w''->(∀t,ZO P Γ₃ s₃.H w'' (s₃.ρ t) (a₃.tmps.getD t undef))->ZV Γ H w Γ₃ s₃.H w''->ZO P Γ₃ s₃.H w'' (s1.ρ p) (a₁.eval (.tmp p))->ZO P Γ₃ s₃.H w'' (s1.ρ q) (a₁.eval (.tmp q)) ->
   CallsDIn Fence.wide 0 P g #[a₁.eval (.tmp p),a₁.eval (.tmp q)] u w'' fun
    |.returned _,u',w'=>LeavesInM Fence.wide 0 P fn a₃.tmps (fJ P G Γ H w K) [] (settle u') w'
    |.panicked chain,u',w'=>LeavesInM Fence.wide 0 P fn a₃.tmps (fJ P G Γ H w K) [] (raised u' chain) w'
    |.outgrown,_,w'=>fJ P G Γ H w K .outgrown w')->LeavesInM Fence.wide 0 P fn a₃.tmps (fJ P G Γ H w K) a₃.defers u w₃:=by
  intro u hu hcall;rw[hmks'];refine Hp hu E₁.size mk w₃ hmkk hs₃.heap hs₃.env E03 (fun w=>ZO P Γ₃ s₃.H w (s1.ρ p) (a₁.eval (.tmp p))/\ZO P Γ₃ s₃.H w (s1.ρ q) (a₁.eval (.tmp q))) ⟨hca,hcb⟩ (fun w r hX hr=>?_) fun w'' R'' he'' E'' hX=>?_
  ·have ho:∀c e f,Obj.deferred none≠.cells c e f:=fun _ _ _ h=>by cases h
   exact⟨hX.1.closed hr.2 ho,hX.2.closed hr.2 ho⟩
  ·exact⟨hu,.inr ⟨fun h=>by simp[Fence.wide]at h,.func g,_,g,_,rfl,hinv w'',fun _ _=>trivial,hcall w'' R'' he'' E'' hX.1 hX.2⟩⟩
  -- the deferred call's first region
 have first:∀(c₀:Frame) (cs cs':List Frame) (v:Value) (b:Bool) (w'':World) (Q:Exit->Act->List Frame->World->Prop),
   (recoverD (c₀ :: cs)=some (v,cs')\/(recoverD (c₀ :: cs)=none/\v=.nilIface/\cs'=c₀ :: cs)) ->
   (do eqGuard .neq T (.tmp r3) (.const .nilIface) v .nilIface;binOp .neq T v .nilIface:Sem Value).run P w''=.ok (.bool b) w'' ->
   (Code.cond (.tmp r4) (.seq (.region j1 o1 false) (.region j2 o2 false)) .skip).wpSIn Fence.wide 0 P Q ((({ tmps:=#[a₁.eval (.tmp p),a₁.eval (.tmp q)]++Array.replicate (gn.ntmps-2) undef,defers:=[] }:Act).put (some r3) v).put (some r4) (.bool b)) cs' w'' ->
   (Code.seq (.region j0 #[⟨some r3,.call ⟨.builtin .recover,#[],at3⟩,ty3,ps3,af3,none⟩,⟨some r4,.binOp .neq T (.tmp r3) (.const .nilIface) T',ty4,ps4,af4,none⟩] false)
    (.cond (.tmp r4) (.seq (.region j1 o1 false) (.region j2 o2 false)) .skip)).wpSIn Fence.wide 0 P Q { tmps:=#[a₁.eval (.tmp p),a₁.eval (.tmp q)]++Array.replicate (gn.ntmps-2) undef,defers:=[] } (c₀ :: cs) w'':=by
  intro c₀ cs cs' v b w'' Q hrec hneq hcond;refine wpSIn_seq (wpSIn_region ?_);show wpOpsSIn Fence.wide 0 P _ _ [0,1] _ _ _;have hneq':∀a:Act,a.eval (.tmp r3)=v->(execOp a.eval ⟨some r4,.binOp .neq T (.tmp r3) (.const .nilIface) T',ty4,ps4,af4,none⟩).run P w''=.ok (.value (.bool b)) w'':=fun a ha=>by
   unfold execOp;simp only[ha];have h1:a.eval (.const .nilIface)=.nilIface:=rfl;rw[h1,aq hneq];rfl
  have hev:∀a:Act,a.tmps.size=gn.ntmps->(a.put (some r3) v).eval (.tmp r3)=v:=fun a ha=>by
   show (a.tmps.setIfInBounds r3 v).getD r3 undef=v;simp[ha,hr3]
  have hsz:({ tmps:=#[a₁.eval (.tmp p),a₁.eval (.tmp q)]++Array.replicate (gn.ntmps-2) undef,defers:=[] }:Act).tmps.size=gn.ntmps:=by
   simp;omega
  unfold wpOpsSIn;simp only[List.getElem?_toArray,List.getElem?_cons_zero,Region.wanted,if_true];refine⟨fun _ _=>trivial,?_⟩;rw[Ht rfl];simp only;rcases hrec with hrec|⟨hrec,rfl,rfl⟩
  ·rw[hrec];simp only;unfold wpOpsSIn;simp only[List.getElem?_toArray,List.getElem?_cons_succ,List.getElem?_cons_zero,Region.wanted,if_true];refine⟨fun _ _=>trivial,?_⟩;rw[hneq' _ (hev _ hsz)];exact hcond
  ·rw[hrec];simp only;unfold wpOpsSIn;simp only[List.getElem?_toArray,List.getElem?_cons_succ,List.getElem?_cons_zero,Region.wanted,if_true];refine⟨fun _ _=>trivial,?_⟩;rw[hneq' _ (hev _ hsz)];exact hcond
 have hresg:∀(tmps:Array Value) (w:World),(results gn tmps).run P w=.ok (.tuple #[]) w:=fun tmps w=>by
  have h1:gn.results=#[]:=by
   have:=hgres;cases h:gn.results with
   |mk l=>rw[h]at this;simp at this;rw[this]
  unfold results;rw[h1];simp only[Yr,List.mapM_nil];rfl
  -- it ends in no panic: nothing is recovered
 have calm:bj (fU P s₃.H s₃.ρ fn.results.toList) (fun vs=>aj P G H K (kR vs) s₃.H)->LeavesInM Fence.wide 0 P fn a₃.tmps (fJ P G Γ H w K) a₃.defers .returning w₃:=by
  rintro⟨vs,hvs,v',H',hw,hn',hk⟩;refine leave .returning ZG fun w'' R'' he'' E'' _ _=>?_;refine callsDIn_of_wpSIn hg hgb trivial fun c₀ cs hc₀=>?_;have hsame:({ c₀ with mode:=FrameMode.returning }:Frame)=c₀:=by rw[<- hc₀]
  refine first c₀ cs (c₀ :: cs) .nilIface false w'' _ (.inr ⟨by simp[recoverD,hc₀],rfl,rfl⟩) (hneq0 w'') (wpSIn_cond (t:=false) ?_ ?_)
  ·show (((_:Array Value).setIfInBounds r3 Value.nilIface).setIfInBounds r4 (.bool false)).getD r4 undef=.bool false;have h2:2+(gn.ntmps-2)=gn.ntmps:=V;simp[h2,hr4]
  ·refine wpSIn_of_wpIn rfl (wpIn_skip ?_);refine⟨rfl,.returning,by rw[hsame],.tuple #[],hresg _ _,?_⟩;show LeavesInM Fence.wide 0 P fn a₃.tmps (fJ P G Γ H w K) [] (settle .returning) w'';obtain⟨cv,h1,h2⟩:=yw R'' he'' hvs;obtain⟨Γ'',R3,E3,hv3⟩:=hw Γ₃ w'' R'';exact⟨cv,h1,.ret v',H',Γ'',hv3 cv h2,hk,R3,E''.trans hn03 E3,hn'⟩
 cases e with
 |normal=>cases x with
  |normal=>exact calm hq₃
  |_=>exact hx.elim
 |ret=>cases x with
  |ret=>exact calm hq₃
  |_=>exact hx.elim
 |panic chain=>cases x with
  |panic =>
   obtain⟨it,iv,rfl⟩:=hx;obtain⟨t1,t2,hop1,hop2,vs,hvs,v',H',hw,hn',hk⟩:=hq₃ it iv;refine leave _ ZG fun w'' R'' he'' E'' ha'' hb''=>?_;refine callsDIn_of_wpSIn hg hgb trivial fun c₀ cs hc₀=>?_;refine first c₀ cs ({ c₀ with mode:=.panicking [{ v:=.iface it iv,recovered:=true }] } :: cs) (.iface it iv) true w'' _ (.inl (by simp[recoverD,hc₀])) (hneq1 it iv w'') (wpSIn_cond (t:=true) ?_ ?_)
   ·show (((_:Array Value).setIfInBounds r3 (Value.iface it iv)).setIfInBounds r4 (.bool true)).getD r4 undef=.bool true;have h2:2+(gn.ntmps-2)=gn.ntmps:=V;simp[h2,hr4]
   ·simp only[if_true];refine wpSIn_of_wpIn rfl ?_;have hL:dH P Γ₃ s₃.H w'' [s1.ρ p,s1.ρ q] #[a₁.eval (.tmp p),a₁.eval (.tmp q)]:=⟨rfl,fun i h h'=>by
     match i with
     |0=>exact ha''
     |1=>exact hb''⟩
    have hsA:Z1 P G gn.ntmps ⟨w''.heap.size,[]⟩ Γ₃ ⟨dD [s1.ρ p,s1.ρ q],s₃.H⟩ { tmps:=#[a₁.eval (.tmp p),a₁.eval (.tmp q)]++Array.replicate (gn.ntmps-2) undef,defers:=[] } w'' :=
     ⟨by simp;omega,fun t=>Bs hL t,R'',⟨[],rfl,Marks.nil⟩,ZJ⟩
    have hsB:=ja (dst:=some r3) hsA (fun x hx=>by cases hx;exact hr3) (ZV.refl Γ₃ s₃.H w'') ZJ R'' (ZO.lit (.iface it iv));have hsC:=ja (dst:=some r4) hsB (fun x hx=>by cases hx;exact hr4) (ZV.refl Γ₃ s₃.H w'') ZJ R'' (ZO.lit (.bool true));refine wpIn_seq (wpIn_mono (yi (rb:=none) hf1 hop1 hsC rfl) ?_);rintro e a₅ w₅ ⟨rfl,hd5,Γ₅,hs₅,E₅,hn₅,_⟩;refine wpIn_mono (yi (rb:=none) hf2 hop2 hs₅ rfl) ?_;rintro e a₆ w₆ ⟨rfl,hd6,Γ₆,hs₆,E₆,hn₆,_⟩;have E56:ZV Γ₃ s₃.H w'' Γ₆ t2.H w₆:=E₅.trans hn₅ E₆;have hn56:s₃.H.A<=t2.H.A:=VM hn₅ hn₆;refine⟨by rw[hd6,hd5];rfl,.panicking [{ v:=.iface it iv,recovered:=true }],rfl,.tuple #[],hresg _ _,?_⟩;show LeavesInM Fence.wide 0 P fn a₃.tmps (fJ P G Γ H w K) [] .returning w₆;obtain⟨cv,h1,h2⟩:=yw hs₆.heap (fun t=>(he'' t).ba E56 hn56) hvs;obtain⟨Γ'',R3,E3,hv3⟩:=hw Γ₆ w₆ hs₆.heap;exact⟨cv,h1,.ret v',H',Γ'',hv3 cv h2,hk,R3,(E''.trans hn03 E56).trans (VM hn03 hn56) E3,hn'⟩
  |_=>exact hx.elim
 |exit i=>cases x with
  |exit j=>exact hq₃.elim
  |_=>exact hx.elim
 |goto i=>cases x with
  |goto j=>exact hq₃.elim
  |_=>exact hx.elim
 |outgrown=>cases x<;>exact hx.elim
end Go.Hx
namespace Go.Hx
open Go.ChangeShapes Go.WideShapes Go.RowKit
variable {P:Program} {W:World} {H:Type} {enc:TypeId × Value->H} {spare:Nat->Bool} {held:Bool}
variable {z:Nat}{α:Type}{t:TypeId}
def js (P:Program)(W:World)(as:List ZL)(cs:List Value):Prop:=cs.length=as.length/\∀i (h:i<as.length) (h':i<cs.length),ZO P ka cW W as[i] cs[i]
def gV (enc:TypeId × Value->H)(P:Program)(W:World)(spare:Nat->Bool)(held:Bool)(t:TypeId)(φ:DataW H->List ZL->Prop):Prop :=
 ∀fuel cs x,DataW.trod enc P W 0 spare held fuel t cs=some x->∃as,js P W as cs/\φ x.1 as
def js.nil:js P W [] []:=⟨rfl,fun i h _=>absurd h (Vt _)⟩
def js.one {a:ZL}{c:Value}(h:ZO P ka cW W a c):js P W [a] [c]:=⟨rfl,fun i hi _=>by
 match i,hi with
 |0,_=>exact h⟩
def js.append {as bs:List ZL}{cs ds:List Value}(h1:js P W as cs)(h2:js P W bs ds):js P W (as++bs) (cs++ds):=by
 refine⟨by simp[h1.1,h2.1],fun i h h'=>?_⟩;by_cases hi:i<as.length
 ·rw[Wj hi,Wj (by rw[h1.1];exact hi)];exact h1.2 i hi _
 ·have e:=h1.1;rw[Wt V,Wt V];have:=h2.2 (i-as.length) (by simp at h;omega) (by rw[h2.1];simp at h;omega);simpa[e] using this
def Ih (ht:P.underlying t=some .bool):gV enc P W spare held t fun d as=>∃b,d=.lit (.bool b)/\as=[.lit (.bool b)]:=by
 intro fuel cs x h;cases fuel with
 |zero=>simp[DataW.trod]at h
 |succ n =>
  unfold DataW.trod at h;rw[ht]at h;split at h
  ·cases h;exact⟨_,.one (.lit _),_,rfl,rfl⟩
  all_goals simp_all
def pD {k:IntKind}(ht:P.underlying t=some (.int k)):gV enc P W spare held t fun d as=>∃n,d=.lit (.int k n)/\as=[.lit (.int k n)]/\(Lit.int k n).wf=true:=by
 intro fuel cs x h;cases fuel with
 |zero=>simp[DataW.trod]at h
 |succ n =>
  unfold DataW.trod at h;rw[ht]at h;split at h<;>simp_all
  rename_i k' n' _ _;obtain⟨⟨rfl,hw⟩,rfl⟩:=h;exact⟨_,.one (.lit _),_,rfl,rfl,hw⟩
def BY:∀ {nb:List (List ZL)} {css:List (List Value)},css.length=nb.length->(∀i (h:i<nb.length) (h':i<css.length),js P W nb[i] css[i])->js P W nb.flatten css.flatten:=by
 intro nb
 induction nb with
 |nil=>intro css h _;obtain rfl:=Vp h;exact .nil
 |cons r nb ih =>
  intro css h h'
  match css,h with
  |c :: css,h =>
   simp only[List.flatten_cons];exact(h' 0 ZG ZG).append (ih (by simpa using h) fun i hi hi'=>h' (i+1) (by simpa using hi) (by simpa using hi'))
def BZ {Q:Nat->α->Prop}:∀n,(∀i,i<n->∃a,Q i a)->∃l:List α,l.length=n/\∀i (h:i<l.length),Q i l[i]:=by
 intro n
 induction n with
 |zero=>intro _;exact⟨[],rfl,fun i h=>absurd h (Vt _)⟩
 |succ n ih =>
  intro h;obtain⟨l,hl,hq⟩:=ih fun i hi=>h i V;obtain⟨a,ha⟩:=h n V;refine⟨l++[a],by simp[hl],fun i hi=>?_⟩;by_cases hi':i<l.length
  ·rw[Wj hi'];exact hq i hi'
  ·have:i=l.length:=(by simp at hi;omega);subst this;simp only[List.getElem_concat_length];rw[hl];exact ha
def Ii :∀ {nb:List (List α)},(∀i (h:i<nb.length),nb[i].length=z)->nb.flatten.length=nb.length*z:=by
 intro nb
 induction nb with
 |nil=>intro _;simp
 |cons r nb ih =>
  intro h;have h0:=h 0 ZG;have:=ih fun i hi=>h (i+1) (by simpa using hi);simp only[V9]at h0;simp only[List.flatten_cons,List.length_append,List.length_cons,this,h0,YC];omega
def Ij :∀ {nb:List (List α)},(∀i (h:i<nb.length),nb[i].length=z)->∀i j (hi:i<nb.length) (hj:j<z),nb.flatten[i*z+j]?=(nb[i])[j]?:=by
 intro nb
 induction nb with
 |nil=>intro _ i j hi;exact absurd hi (Vt _)
 |cons r nb ih =>
  intro h i j hi hj;have h0:=h 0 ZG;simp only[V9]at h0;cases i with
  |zero=>simp only[List.flatten_cons,V9,Xs,Nat.zero_add];rw[Vx V]
  |succ i =>
   simp only[List.flatten_cons,Xc];rw[VS (by rw[h0,YC];omega),<- ih (fun i hi=>h (i+1) (by simpa using hi)) i j (by simpa using hi) hj];congr 1;rw[h0,YC];omega
def B1 (φ:DataW H->List ZL->Prop)(ds:List (DataW H))(nb:List (List ZL)):Prop:=ds.length=nb.length/\∀i (h:i<nb.length) (h':i<ds.length),φ ds[i] nb[i]
def B2 {e:TypeId}{φ:DataW H->List ZL->Prop}(ht:P.underlying t=some (.slice e))(hz:0<P.cellsOf e)(he:gV enc P W spare held e φ):
  gV enc P W spare held t fun d as=>(d=.nil/\as=[.Q 0 []])\/∃ds rest nb,d=.slice ds rest/\as=[.Q nb.length nb.flatten]/\B1 φ ds nb/\(∀i (h:i<nb.length),nb[i].length=P.cellsOf e)/\nb.length<=maxLen:=by
 intro fuel cs x h;rcases DataW.trod_slice ht h with ⟨rfl,rfl⟩|⟨a,len,cap,elems,rest,n,rfl,rfl,rfl,_,hl,hm,hlen,hel,_,_⟩
 ·exact⟨_,.one (.nu _ _),.inl ⟨rfl,rfl⟩⟩
 have hrow:∀i,i<len->∃p:List Value × List ZL,W.cells? 0 (a.add (i*P.cellsOf e)) (P.cellsOf e)=some p.1/\js P W p.2 p.1/\∃x,elems[i]?=some x/\φ x.1 p.2:=by
  intro i hi;have:=hel i hi;rw[Vf V,Vk]at this;obtain⟨cs,hc,hx⟩:=this;obtain⟨as,ha,hφ⟩:=he _ _ _ hx;exact⟨(cs,as),hc,ha,_,Vf V,hφ⟩
 obtain⟨l,hll,hQ⟩:=BZ len hrow;have hzr:∀i (h:i<(l.map Prod.snd).length),(l.map Prod.snd)[i].length=P.cellsOf e:=by
  intro i h;simp only[VA]at h;simp only[Vw];obtain⟨hc,hr,_⟩:=hQ i h;rw[<- hr.1];exact(World.cells?_some hc).2.1
 have hzc:∀i (h:i<(l.map Prod.fst).length),(l.map Prod.fst)[i].length=P.cellsOf e:=by
  intro i h;simp only[VA]at h;simp only[Vw];exact(World.cells?_some (hQ i h).1).2.1
 refine⟨[.Q (l.map Prod.snd).length (l.map Prod.snd).flatten],.one ?_,.inr ⟨_,_,l.map Prod.snd,rfl,rfl,⟨by simp[hll,hlen],fun i h h'=>?_⟩,hzr,by simp only[VA];omega⟩⟩
 ·rcases Wo len with h0|h0
  ·subst h0;obtain rfl:=Vp hll;exact .nu _ _
  have hrc:js P W (l.map Prod.snd).flatten (l.map Prod.fst).flatten:=BY ZG fun i h h'=>by
   simp only[VA]at h;simp only[Vw];exact(hQ i h).2.1
  have hla:(l.map Prod.snd).length=len:=by simp[hll]
  have hsp:∀i,i<len->∀j,j<P.cellsOf e->∃v,W.cell? ((a.add (i*P.cellsOf e)).add j)=some v/\(l.map Prod.fst).flatten[i*P.cellsOf e+j]?=some v:=by
   intro i hi j hj;obtain⟨hc,_⟩:=hQ i V;obtain⟨_,hcl,hcell⟩:=World.cells?_some hc;refine⟨(l[i]' V).1[j]' V,?_,?_⟩
   ·rw[hcell j hj,Vf]
   ·rw[Ij hzc i j (by simp;omega) hj];simp only[Vw];rw[Vf]
  have hspot:a.spot=none:=by
   obtain⟨v,hv,_⟩:=hsp 0 h0 0 hz;unfold World.cell? at hv;split at hv
   ·split at hv
    ·cases hv
    ·rename_i hs;simpa[Addr.add] using hs
   ·cases hv
  obtain⟨b,off,spot⟩:=a;simp only at hspot;subst hspot;have hadd:∀(b off n:Nat),(⟨b,off,none⟩:Addr).add n=⟨b,off+n,none⟩:=by
   intro b off n;unfold Addr.add;by_cases hn:n=0
   ·subst hn;simp
   ·simp[hn]
  have hlt:b<W.heap.size:=by
   obtain⟨v,hv,_⟩:=hsp 0 h0 0 hz;rw[hadd,hadd]at hv;unfold World.cell? at hv;rcases VC b W.heap.size with h|h
   ·exact h
   ·rw[WN h]at hv;cases hv
  rw[hla];refine .Q (Bf b) hlt hl hrc.1 (fun i hi=>?_) fun i h h'=>hrc.2 i h h';have hlc:=Ii hzc;simp only[VA,hll]at hlc;have hi':i<len*P.cellsOf e:=V
  obtain⟨v,hv,hg⟩:=hsp (i / P.cellsOf e) (W7 (by rw[WL];exact hi')) (i % P.cellsOf e) (XU _ hz);have hdm:i / P.cellsOf e*P.cellsOf e+i % P.cellsOf e=i:=by rw[WL];exact Xo _ _
  rw[hdm]at hg;rw[Vf hi]at hg;rw[Option.some.inj hg,<- hv,hadd,hadd];congr 2;omega
 ·simp only[VA]at h h';obtain⟨_,_,y,hy,hφ⟩:=hQ i h;simp only[Vw];rw[Vf h']at hy;rw[Option.some.inj hy];exact hφ
def uJ {fs:Array Field}{φ:Nat->DataW H->List ZL->Prop}(ht:P.underlying t=some (.struct fs))
  (hlay:∀cs:List Value,cs.length=P.cellsOf t->(fs.toList.map fun f=>(cs.drop f.offset).take (P.cellsOf f.type)).flatten=cs)
  (he:∀i (h:i<fs.size),gV enc P W spare held fs[i].type (φ i)):
  gV enc P W spare held t fun d as=>∃(ds:List (DataW H)) (nb:List (List ZL)),d=.agg ds/\as=nb.flatten/\ds.length=fs.size/\nb.length=fs.size/\∀i (h:i<nb.length) (h':i<ds.length),φ i ds[i] nb[i]:=by
 intro fuel cs x h;obtain⟨xs,m,rfl,rfl,hcl,hxl,hel⟩:=DataW.trod_struct ht h;have hrow:∀i,i<fs.size->∃as:List ZL,(∀h:i<fs.size,js P W as ((cs.drop fs[i].offset).take (P.cellsOf fs[i].type)))/\∃x,xs[i]?=some x/\φ i x.1 as:=by
  intro i hi;have:=hel i fs[i] (Vq hi);rw[Vf V]at this;obtain⟨as,ha,hφ⟩:=he i hi _ _ _ this;exact⟨as,fun _=>ha,_,Vf V,hφ⟩
 obtain⟨l,hll,hQ⟩:=BZ fs.size hrow;refine⟨l.flatten,?_,_,l,rfl,rfl,by simp[hxl],hll,fun i h h'=>?_⟩
 ·rw[<- hlay cs hcl];refine BY (by simp[hll]) fun i h h'=>?_;simp only[Vw,Wm];exact(hQ i h).1 (V)
 ·obtain⟨_,y,hy,hφ⟩:=hQ i h;simp only[VA]at h';simp only[Vw];rw[Vf h']at hy;rw[Option.some.inj hy];exact hφ
end Go.Hx
namespace Go.Hx
variable {P:Program} {G:Nat->Option (List ZL)} {H:ZK}
variable {cs:List ZL}{L:List ZR}{hi lo:Nat}{e:TypeId}{v:ZL}
def Mq:(1=0)=False:=ZG
def Mr (l:List ZL)(i:Nat):nW (.nc l) i=l[i]?:=rfl
def Ms (cells:List ZL)(off:Nat):lW H (.ni cells off)=some (.ni cells off):=rfl
def Mt (id gen off:Nat):lW H (.O id gen off)=(H.na id gen).map fun _=>.O id gen off:=by
 simp only[lW]
def Mu (t:TypeId)(f:Nat)(id gen off:Nat):uR P H t f (.O id gen off)=(bJ P t f).bind fun of=>(H.na id gen).map fun _=>.O id gen (off+of.1):=rfl
def Mv (t:TypeId)(f:Nat)(cells:List ZL)(off:Nat):uR P H t f (.ni cells off)=(bJ P t f).bind fun of=>some (.ni cells (off+of.1)):=rfl
def dw (H:ZK)(L:List ZR)(e:TypeId)(lo hi:Nat)(v:ZL)(cs:List ZL):Prop :=
 (v=.lit (.slice none 0 0)/\cs=[])\/∃i g,lo<=i/\i<hi/\v=.U (H.A+i) g 0 cs.length 1/\L[i]?=some (.J g e cs)
def dw.nil :dw H L e lo hi (.lit (.slice none 0 0)) []:=.inl ⟨rfl,rfl⟩
def dw.ng {L':List ZR}{lo' hi':Nat}(h:dw H L e lo hi v cs)(hl:lo'<=lo)(hh:hi<=hi')(hk:∀i g,lo<=i->i<hi->L[i]?=some (.J g e cs)->L'[i]?=L[i]?):
  dw H L' e lo' hi' v cs:=by
 rcases h with h|⟨i,g,h1,h2,h3,h4⟩
 ·exact .inl h
 ·exact .inr ⟨i,g,V,V,h3,by rw[hk i g h1 h2 h4];exact h4⟩
def Cs {i g:Nat}(h:L[i]?=some (.J g e cs)):(ext H L).na (H.A+i) g=some (e,cs):=by
 have hi:i<L.length:=by
  rcases VC i L.length with h'|h'
  ·exact h'
  ·rw[Vo h']at h;cases h
 rw[yF H L i g hi,h];simp[sX]
def Mw {t:TypeId}{x:ZL}{z:List ZL}(ht:P.underlying t=some (.slice e))(hz:P.cellsOf e=1)(hzero:bQ P e=some z)(hx:x.one=true)
  (hb:(cs.length+1)*P.bytesOf e<=2 ^ 47/\cs.length+1<=2 ^ 47) (ho:dw H L e lo hi v cs) (hlo:lo<=L.length) (hhi:hi<=L.length):
  ∃v' L',bS P (ext H (L++[.J 0 e [x]])) (H.A+(L.length+1)) t t v (.U (H.A+L.length) 0 0 1 1)=some (v',ext H L')/\dw H L' e lo L'.length v' (cs++[x])/\L.length<=L'.length /\
   (∀k,k<L.length->(∀g n,v≠.U (H.A+k) g 0 n 1)->L'[k]?=L[k]?):=by
 have hsrc:dc (ext H (L++[.J 0 e [x]])) 1 (.U (H.A+L.length) 0 0 1 1)=some (1,[x]):=by
  unfold dc;have:=Cs (H:=H) (L:=L++[ZR.J 0 e [x]]) (i:=L.length) (g:=0) (e:=e) (cs:=[x]) ZG;simp[this]
 rcases ho with ⟨rfl,rfl⟩|⟨i,g,h1,h2,rfl,h4⟩
 ·refine⟨.U (H.A+(L.length+1)) 0 0 1 1,L++[.J 0 e [x]]++[.J 0 e [x]],?_,.inr ⟨L.length+1,0,V,ZG,ZG,ZG⟩,ZG,fun k hk _=>?_⟩
  ·unfold bS;rw[ht];simp only[hzero,hz,Option.bind_some,hsrc,Mq,if_false];have h1:1*P.bytesOf e<=2 ^ 47/\1<=2 ^ 47:=(by simpa using hb);rw[Vh h1,Cc H _ (L.length+1) _ ZG];rfl
  ·rw[List.append_assoc,Vx hk]
 ·have hi':i<L.length:=V
  refine⟨.U (H.A+i) (g+1) 0 (cs.length+1) 1,(L++[ZR.J 0 e [x]]).set i (ZR.J (g+1) e (cs++[x])),?_,.inr ⟨i,g+1,h1,by simp;omega,ZG,?_⟩,ZG,fun k hk hne=>?_⟩
  ·unfold bS;rw[ht];simp only[hzero,hz,Option.bind_some,hsrc];have hl:=Cs (H:=H) (L:=L++[ZR.J 0 e [x]]) (i:=i) (g:=g) (e:=e) (cs:=cs) (by rw[Vx hi'];exact h4);simp only[hl,Option.bind_some];rw[Vh ⟨trivial,trivial,V,hb.1,hb.2,by simp[hx]⟩];rw[yE H _ i _ (by simp;omega)];simp
  ·rw[VB (by simp;omega)]
  ·have:i≠k:=(by rintro rfl;exact hne _ _ rfl);rw[VP this,Vx hk]
def dw.fz {S:Nat->Prop}{cs':List ZL}{nx:Nat}(h:dw H L e lo hi v cs)(hS:∀i,S (H.A+i))(hl:cs'.length=cs.length)
  (hc:∀i (h:i<cs.length) (h':i<cs'.length),Fz S (ext H L) nx cs[i] cs'[i]):Fz S (ext H L) nx v (.Q cs'.length cs'):=by
 rcases h with ⟨rfl,rfl⟩|⟨i,g,_,_,rfl,h4⟩
 ·obtain rfl:=Vp hl;exact .nil
 ·rw[hl];have hi:i<L.length:=by
   rcases VC i L.length with h'|h'
   ·exact h'
   ·rw[Vo h']at h4;cases h4
  refine .ny (hS i) (by rw[bM H L i hi];exact h4) V fun j hj h2 h'=>?_;simp only[Nat.zero_add]at h2 ⊢;exact hc j h2 h'
end Go.Hx
namespace Go.Hx
variable {P:Program} {G:Nat->Option (List ZL)} {H:ZK}
variable {ρ ρ':Env}{nb:List (List ZL)}{args cs cs':List ZL}{L L':List ZR}{d g hi id lo n nx:Nat}{S:Nat->Prop}{e e' e0 e1:TypeId}{H2:ZK}{u v v':ZL}
def yU (P:Program)(s d:TypeId)(x:Bool)(y:Option TypeDesc)(v:ZL):Option ZL :=
 if x=true then (match y,v with
  |some (.int k'),.lit (.int _ a)=>some (.lit (.int k' (k'.wrap a)))
  |_,_=>lU P s d v) else lU P s d v
def Mx (s d:TypeId)(v:ZL):lU P s d v=yU P s d (P.underlying s).isSome (P.underlying d) v:=by
 unfold yU;split
 ·rename_i hs;split
  ·rename_i k' k a hd;exact J8 hs hd
  ·rfl
 ·rfl
def My (s d:TypeId)(k k':IntKind)(a:Int):yU P s d true (some (.int k')) (.lit (.int k a))=some (.lit (.int k' (k'.wrap a))):=rfl
def Ct (P:Program)(d:Option TypeDesc)(cells:List ZL)(i:Int):Option ZL:=match d with
 |some (.array n e)=>if 0<=i/\i<(n:Int) then iY P e cells (i.toNat*P.cellsOf e) else none
 |_=>none
def Mz (t:TypeId)(cells:List ZL)(k:IntKind)(i:Int):pr P t (.agg cells) (.lit (.int k i))=Ct P (P.underlying t) cells i:=rfl
def MA (n:Nat)(e:TypeId)(cells:List ZL)(i:Int):Ct P (some (.array n e)) cells i=if 0<=i/\i<(n:Int) then iY P e cells (i.toNat*P.cellsOf e) else none:=rfl
def MB {k:IntKind}{a:Int}:qK P .neg (.lit (.int k a))=some (.lit (.int k (k.wrap (0-a)))):=J4 rfl
def ag {c:List ZL}(h:H.get id=some (.J g e c)):H.na id g=some (e,c):=by
 unfold ZK.na;rw[h];simp
def aQ (a:Nat)(x:ZR):(H.upd a x).A=H.A:=rfl
def eF (h:id<H.A):(ext H L).na id g=H.na id g:=by
 unfold ZK.na;rw[c9 H L id h]
def ma (H:ZK)(L:List ZR)(e1 e0:TypeId)(v:ZL)(nb:List (List ZL)):Prop :=
 ∃cs:List ZL,dw H L e1 0 L.length v cs/\cs.length=nb.length/\∀(j:Nat) (r:List ZL) (c:ZL),nb[j]?=some r->cs[j]?=some c->dw H L e0 0 L.length c r
theorem ma.nil :ma H L e1 e0 (.lit (.slice none 0 0)) []:=⟨[],.nil,rfl,fun j r c h=>by simp at h⟩
def dw.lt {i z:Nat}(h:dw H L e lo hi (.U (H.A+i) g 0 n z) cs):i<L.length/\L[i]?=some (.J g e cs)/\n=cs.length/\z=1:=by
 rcases h with ⟨h,_⟩|⟨j,g2,_,_,h3,h4⟩
 ·cases h
 ·have:=ZL.U.inj h3;obtain rfl:i=j:=V
  obtain⟨_,rfl,_,rfl,rfl⟩:=this;refine⟨?_,h4,rfl,rfl⟩;rcases VC i L.length with h|h
  ·exact h
  ·rw[Vo h]at h4;cases h4
def dw.vd {lo' hi':Nat}(hv:dw H L e lo hi v cs)(hu:dw H L e' lo' hi' u cs')(hne:e≠e')(hh:hi'<=L.length)
  (hp:∀k,k<L.length->(∀g n,v≠.U (H.A+k) g 0 n 1)->L'[k]?=L[k]?):dw H L' e' lo' hi' u cs':=by
 refine hu.ng ZJ ZJ fun i g h1 h2 h3=>hp i V fun g' n he=>?_;rcases hv with ⟨rfl,_⟩|⟨j,g2,_,_,rfl,h4⟩
 ·cases he
 ·have hj:j=i:=by
   have:=ZL.U.inj he;omega
  subst hj;rw[h3]at h4;cases h4;exact hne rfl
def dw.nX (hv:dw H L e lo hi v cs):v.one=true:=by
 rcases hv with ⟨rfl,_⟩|⟨_,_,_,_,rfl,_⟩<;>rfl
def dw.gI (hv:dw H L e lo hi v cs):v.cells=[v]:=by
 rcases hv with ⟨rfl,_⟩|⟨_,_,_,_,rfl,_⟩<;>rfl
def dw.other {lo' hi':Nat}(hv:dw H L e lo hi v cs)(hu:dw H L e' lo' hi' u cs')(hne:e≠e')(hh:hi'<=L.length)
  (hp:∀k,k<L.length->(∀g n,v≠.U (H.A+k) g 0 n 1)->L'[k]?=L[k]?):dw H L' e' lo' hi' u cs':=hv.vd hu hne hh hp
theorem dw.one (hv:dw H L e lo hi v cs):v.one=true:=hv.nX
theorem dw.cells (hv:dw H L e lo hi v cs):v.cells=[v]:=hv.gI
theorem ma.ng (h:ma H L e1 e0 v nb)(hl:L.length<=L'.length)(hk:∀i,i<L.length->L'[i]?=L[i]?):ma H L' e1 e0 v nb:=by
 obtain⟨cs,c1,c2,c3⟩:=h;exact⟨cs,c1.ng ZJ hl fun i _ _ hi _=>hk i hi,c2,fun j r c hr hc=>(c3 j r c hr hc).ng ZJ hl fun i _ _ hi _=>hk i hi⟩
theorem ma.fz {rows':List (List ZL)}(h:ma H L e1 e0 v nb)(hS:∀i,S (H.A+i))(hl:rows'.length=nb.length)
  (hr:∀(j:Nat) (r r':List ZL),nb[j]?=some r->rows'[j]?=some r'->r'.length=r.length/\∀i (h:i<r.length) (h':i<r'.length),Fz S (ext H L) nx r[i] r'[i]):
  Fz S (ext H L) nx v (.Q rows'.length (rows'.map fun r=>.Q r.length r)):=by
 obtain⟨cs,h1,h2,h3⟩:=h;have:=h1.fz (S:=S) (nx:=nx) (cs':=rows'.map fun r=>.Q r.length r) hS (by simp[h2,hl]) fun i hi hi'=>by
  simp only[Vw];have hi2:i<nb.length:=V
  have hi3:i<rows'.length:=V
  obtain⟨a1,a2⟩:=hr i nb[i] rows'[i] (Vf hi2) (Vf hi3);exact(h3 i nb[i] cs[i] (Vf hi2) (Vf hi)).fz (S:=S) (nx:=nx) (cs':=rows'[i]) hS a1 a2
 rw[VA]at this;exact this
def ma.app {x:ZL}{r:List ZL}{t:TypeId}{z:List ZL}(ht:P.underlying t=some (.slice e1))(hz:P.cellsOf e1=1)(hzero:bQ P e1=some z)(hby:P.bytesOf e1=24)(hne:e1≠e0)
  (hb:nb.length<2 ^ 40) (h:ma H L e1 e0 v nb) (hx:dw H L e0 0 L.length x r):
  ∃v' L',bS P (ext H (L++[.J 0 e1 [x]])) (H.A+(L.length+1)) t t v (.U (H.A+L.length) 0 0 1 1)=some (v',ext H L')/\ma H L' e1 e0 v' (nb++[r])/\L.length<=L'.length:=by
 obtain⟨cs,h1,h2,h3⟩:=h;obtain⟨v',L',hA,hO,hL,hp⟩:=Mw (t:=t) ht hz hzero hx.nX (by rw[hby,h2];omega) h1 (WK _) ZJ;refine⟨v',L',hA,⟨cs++[x],hO,by simp[h2],fun j r' c hr hc=>?_⟩,hL⟩;have key:∀u l,dw H L e0 0 L.length u l->dw H L' e0 0 L'.length u l:=fun u l hu=>(h1.vd hu hne ZJ hp).ng ZJ hL fun _ _ _ _ _=>rfl;rcases VC j nb.length with hj|hj
 ·rw[Vx hj]at hr;rw[Vx V]at hc;exact key _ _ (h3 j r' c hr hc)
 ·rw[VS hj]at hr;rw[VS V]at hc;have hj0:j-nb.length=0:=by
   rcases Wo (j-nb.length) with h|h
   ·exact h
   ·rw[Vo (by simp;omega)]at hr;cases hr
  have hj1:j-cs.length=0:=V
  rw[hj0]at hr;rw[hj1]at hc;cases hr;cases hc;exact key _ _ hx
def ee (H:ZK)(L L':List ZR):ext (ext H L) L'=ext H (L++L'):=by
 unfold ext;simp only[List.length_append];congr 1
 ·funext j
  by_cases h1:H.A+L.length<=j/\j<H.A+L.length+L'.length
  ·rw[Vh h1,Vh V,VS V];congr 1;omega
  ·rw[Vg h1];by_cases h2:H.A<=j/\j<H.A+L.length
   ·rw[Vh h2,Vh V,Vx V]
   ·rw[Vg h2,Vg V]
 ·omega
structure ZP (H H2:ZK):Prop where
 A:H.A<=H2.A
 nf:∀id,id<H.A->H2.get id=H.get id
def ZP.refl (H:ZK):ZP H H:=⟨ZJ,fun _ _=>rfl⟩
theorem ZP.trans {H H3:ZK}(a:ZP H H2)(b:ZP H2 H3):ZP H H3 :=
 ⟨VM a.A b.A,fun id h=>(b.nf id (Vn h a.A)).trans (a.nf id h)⟩
theorem ZP.ext (H:ZK)(L:List ZR):ZP H (ext H L):=⟨by simp[aW],fun id h=>c9 H L id h⟩
def ju (H:ZK)(n:Nat):ZK:=⟨fun j=>if j<H.A then H.get j else none,H.A+n⟩
def tp (H:ZK)(n:Nat):(ju H n).A=H.A+n:=rfl
def yV {H:ZK}(h:id<H.A):(ju H n).get id=H.get id:=by simp[ju,h]
theorem ZP.ju (H:ZK)(n:Nat):ZP H (ju H n):=⟨by simp[tp],fun id h=>yV h⟩
def MC {H:ZK}(hc:Clo H)(ho:ZP H H2):FzH (fun id=>H.A<=id) H2 H where
 gone id hs:=by
  cases h:H.get id with
  |none=>rfl
  |some b=>have:=hc.lt id b h;omega
 kept id b hs hb:=by
  have hlt:id<H.A:=Wr hs;rw[ho.nf id hlt]at hb;have hbb:=hc.below id b hb;refine⟨hlt,b,hb,?_⟩;have hno:∀i,i<H.A->¬H.A<=i:=fun i h=>Nat.not_le_of_lt h;cases b with
  |nq=>trivial
  |mp=>rfl
  |J g e cells=>exact⟨rfl,rfl,rfl,fun i h _=>.refl (hbb i h) hno⟩
  |loop st pend n env ps asg body=>exact⟨rfl,rfl,rfl,rfl,rfl,rfl,rfl,fun t ht=>.refl (hbb t ht) hno⟩
 none id hs hb:=by
  rw[ho.nf id (Wr hs)]at hb;exact hb
def aj.bB (hG:fB G)(hc:Clo H)(ho:ZP H H2){K:ZQ->ZK->Prop}(hv:Fz (fun id=>H.A<=id) H2 H.A v v')(hk:K (.ret v') H):aj P G H K v H2 :=
 ⟨v',H,.freeze hG (MC hc ho) hv,ZJ,hk⟩
def Fz.nf {H:ZK}(h:Below H.A v)(hn:H.A<=nx):Fz (fun id=>H.A<=id) H2 nx v v:=by
 induction h with
 |lit v=>exact .lit v
 |Q _ ih=>exact .Q rfl fun i h _=>ih i h
 |ni _ ih=>exact .ni rfl fun i h _=>ih i h
 |agg _ ih=>exact .agg rfl fun i h _=>ih i h
 |nc _ ih=>exact .nc rfl fun i h _=>ih i h
 |X _ _ ih1 ih2=>exact .X rfl rfl (fun i h _=>ih1 i h) fun i h _=>ih2 i h
 |U h=>exact .U V (V)
 |O h=>exact .O V (V)
 |nk h=>exact .nk V (V)
def MD {H:ZK}(hc:Clo H)(ho:ZP H H2):FzH (fun id=>H.A<=id) H2 (ju H (H2.A-H.A)) where
 gone id hs:=by simp[ju,Nat.not_lt.2 hs]
 kept id b hs hb:=by
  have hlt:id<H.A:=Wr hs;rw[ho.nf id hlt]at hb;have hbb:=hc.below id b hb;refine⟨by rw[tp];omega,b,by rw[yV hlt];exact hb,?_⟩;cases b with
  |nq=>trivial
  |mp=>rfl
  |J g e cells=>exact⟨rfl,rfl,rfl,fun i h _=>.nf (hbb i h) (by rw[tp];omega)⟩
  |loop st pend n env ps asg body=>exact⟨rfl,rfl,rfl,rfl,rfl,rfl,rfl,fun t ht=>.nf (hbb t ht) (by rw[tp];omega)⟩
 none id hs hb:=by
  have hlt:=Wr hs;rw[ho.nf id hlt]at hb;rw[yV hlt];exact hb
def W.ME {rd:Option Nat}{Q:AX->St->Prop}{c:Code}{H:ZK}(hG:fB G)(hc:Clo H)(ho:ZP H H2)(hv:∀t,Fz (fun id=>H.A<=id) H2 H2.A (ρ t) (ρ' t))
  (hri:fI (ju H (H2.A-H.A)) rd) (h:W P G n rd c Q ⟨ρ',ju H (H2.A-H.A)⟩):W P G n rd c Q ⟨ρ,H2⟩:=by
 have hnx:(ju H (H2.A-H.A)).A=H2.A:=by rw[tp];have:=ho.A;omega
 refine W.BQ (s:=⟨ρ,H2⟩) (s':=⟨ρ',ju H (H2.A-H.A)⟩) (eV.freeze hG (MD hc ho) fun t=>?_) (Nat.le_of_eq hnx.symm) hri h;show Fz _ H2 (ju H (H2.A-H.A)).A _ _;rw[hnx];exact hv t
def Fz.put {H:ZK}(h:∀t,Fz S H nx (ρ t) (ρ' t))(hv:Fz S H nx v v'):∀t,Fz S H nx (aH ρ (some d) v t) (aH ρ' (some d) v' t):=by
 intro t;simp only[aH];split
 ·exact hv
 ·exact h t
def Fz.MF {H:ZK}(hv:Fz S H nx v v')(h:∀t,Fz S H nx (ρ t) (ρ' t)):∀t,Fz S H nx (aH ρ (some d) v t) (aH ρ' (some d) v' t):=.put h hv
def Fz.bb {H:ZK}(nb:List (List Int)):Fz S H nx (.Q nb.length (nb.map af)) (.Q nb.length (nb.map af)) :=
 .Q rfl fun i h _=>by simp only[Vw];exact .ea _
def Fz.env {H:ZK}{args':List ZL}(hl:args'.length=args.length)(h:∀i (h:i<args.length) (h':i<args'.length),Fz S H nx args[i] args'[i]):∀t,Fz S H nx (dD args t) (dD args' t):=by
 intro t;rw[yC,yC];by_cases ht:t<args.length
 ·rw[Vf ht,Vf V];exact h t ht (V)
 ·rw[Vo V,Vo V];exact .lit _
def Fz.MG {H:ZK}(h:∀v,v∈args->Below H.A v)(hn:H.A<=nx):∀t,Fz (fun id=>H.A<=id) H2 nx (dD args t) (dD args t) :=
 .env rfl fun i hi _=>.nf (h _ (We _)) hn
end Go.Hx
namespace Go.Hx
open Go.ChangeShapes Go.WideShapes Go.RowKit
variable {P:Program} {W:World} {H:Type} {enc:TypeId × Value->H} {spare:Nat->Bool} {held:Bool}
variable {d:DataW H}{φ:DataW H->List ZL->Prop}{k:IntKind}{ps:List MemPlace}{b:Nat}{r:Reach}{α:Type}{t:TypeId}{v:Value}
def gV.mono {ψ:DataW H->List ZL->Prop}(h:gV enc P W spare held t φ)(hm:∀d as,φ d as->ψ d as):gV enc P W spare held t ψ:=fun fuel cs x hx =>
 let ⟨as,h1,h2⟩:=h fuel cs x hx;⟨as,h1,hm _ _ h2⟩
def uK (k:IntKind)(l:List Int):List ZL:=l.map fun n=>.lit (.int k n)
def B3 {f:α->List ZL}{q:α->Prop}(hφ:∀d as,φ d as->∃a,as=f a/\q a):∀ {nb:List (List ZL)} {ds:List (DataW H)},B1 φ ds nb ->
  ∃l:List α,nb=l.map f/\∀a,a∈l->q a:=by
 intro nb
 induction nb with
 |nil=>intro ds _;exact⟨[],rfl,fun a h=>by cases h⟩
 |cons r nb ih =>
  intro ds h;obtain⟨h1,h2⟩:=h;cases ds with
  |nil=>simp at h1
  |cons d ds =>
   obtain⟨a,ha,hq⟩:=hφ _ _ (h2 0 ZG ZG);obtain⟨l,hl,hq2⟩:=ih (ds:=ds) ⟨by simpa using h1,fun i hi hi'=>h2 (i+1) (by simpa using hi) (by simpa using hi')⟩;refine⟨a :: l,by simp only[List.map_cons,<- hl];simp only[V9]at ha;rw[ha],fun b hb=>?_⟩;rcases List.mem_cons.1 hb with rfl|hb
   ·exact hq
   ·exact hq2 b hb
def Ik {β:Type}(f:α->β)(l:List α):(l.map fun a=>[f a]).flatten=l.map f:=by
 induction l with
 |nil=>rfl
 |cons a l ih=>simp only[List.map_cons,List.flatten_cons,ih];rfl
def yx {e:TypeId}(ht:P.underlying t=some (.slice e))(he:P.underlying e=some (.int k))(hc:P.cellsOf e=1):
  gV enc P W spare held t fun _ as=>∃l:List Int,as=[.Q l.length (uK k l)]/\l.length<=maxLen/\∀c,c∈l->(Lit.int k c).wf=true :=
 (B2 ht V (pD he)).mono fun d as h=>by
  rcases h with ⟨_,rfl⟩|⟨ds,rest,nb,_,rfl,hr,_,hl⟩
  ·exact⟨[],rfl,ZH,fun c h=>by cases h⟩
  ·obtain⟨l,rfl,hq⟩:=B3 (f:=fun n=>[ZL.lit (.int k n)]) (q:=fun n=>(Lit.int k n).wf=true) (fun d as ⟨n,_,h2,h3⟩=>⟨n,h2,h3⟩) hr;refine⟨l,?_,by simpa using hl,hq⟩;rw[VA];congr 2;exact Ik _ l
def Il (hop:gV enc P W spare held t φ)
  (ht:(∃fs,P.underlying t=some (.struct fs))\/∃n e,P.underlying t=some (.array n e)) (hval:Value.okWide P W r b t v) (hd:DataW.Trod enc P W 0 spare held t v d ps):
  ∃as,ZO P ka cW W (.agg as) v/\φ d as:=by
 obtain⟨cs,rfl⟩:∃cs,v=.agg cs:=by
  unfold Value.okWide at hval;rcases ht with ⟨fs,ht⟩|⟨n,e,ht⟩
  ·rw[ht]at hval;obtain⟨cs,h,_⟩:=hval;exact⟨cs,h⟩
  ·rw[ht]at hval;obtain⟨cs,h,_⟩:=hval;exact⟨cs,h⟩
 obtain⟨fuel,hf⟩:=hd;obtain⟨as,hr,hφ⟩:=hop _ _ _ hf;refine⟨as,?_,hφ⟩;have:=ZO.agg (P:=P) (Γ:=ka) (H:=cW) (w:=W) (cells:=as) (cs:=cs.toList) hr.1 hr.2;simpa using this
def Im {ψ:ZL->Prop}(hop:gV enc P W spare held t φ)(h1:∀d as,φ d as->∃a,as=[a]/\ψ a)
  (hno:∀cs,¬Value.okWide P W r b t (.agg cs)) (hval:Value.okWide P W r b t v) (hd:DataW.Trod enc P W 0 spare held t v d ps):∃a,ZO P ka cW W a v/\ψ a:=by
 have hc:v.cells.toList=[v]:=by
  cases v with
  |agg cs=>exact absurd hval (hno cs)
  |_=>rfl
 obtain⟨fuel,hf⟩:=hd;rw[hc]at hf;obtain⟨as,hr,hφ⟩:=hop _ _ _ hf;obtain⟨a,rfl,hψ⟩:=h1 _ _ hφ;exact⟨a,hr.2 0 ZG ZG,hψ⟩
def Io (ht:P.underlying t=some (.int k))(cs:Array Value):¬Value.okWide P W r b t (.agg cs):=fun h=>by
 obtain⟨n,hn⟩:=okWide_int ht h;cases hn
def B4 (ht:P.underlying t=some (.int k))(hval:Value.okWide P W r b t v)(hd:DataW.Trod enc P W 0 spare held t v d ps):
  ∃n,ZO P ka cW W (.lit (.int k n)) v/\(Lit.int k n).wf=true:=by
 obtain⟨a,h1,n,rfl,h2⟩:=Im (ψ:=fun a=>∃n,a=.lit (.int k n)/\(Lit.int k n).wf=true) (pD ht) (fun d as ⟨n,_,h2,h3⟩=>⟨_,h2,n,rfl,h3⟩) (Io ht) hval hd;exact⟨n,h1,h2⟩
def wf_u8 {n:Int}(h:(Lit.int .u8 n).wf=true):0<=n/\n<=255:=by
 simpa[Lit.wf,IntKind.min,IntKind.max,IntKind.signed,IntKind.bits] using h
end Go.Hx
namespace Go.Hx
attribute [go_sem] List.replicate_one List.flatten_cons List.flatten_nil List.length_append List.append_nil Nat.sub_zero Bool.not_true Bool.not_false
attribute [go_sem] Bool.true_eq_false List.map_eq_nil_iff yH Int.le_refl decide_true decide_false eq_self List.getElem?_map
attribute [go_sem] IP IQ IR IS IT IU IV IW
attribute [go_sem] IX IY IZ I0 I3 I1 I4 I5
attribute [go_sem] I6 I7 I9 Ja IE IF IG IH
attribute [go_sem] II IJ IK IL IM IN noGoto_normal noGoto_exit
attribute [go_sem] noGoto_ret noGoto_panic oh sW yB iA Ca IA
attribute [go_sem] IB Jj Jk Kh Kd Ke Kf Kg
attribute [go_sem] List.getElem?_toArray Option.bind_some Ki Kj Kk Kl Km Kn
attribute [go_sem] Ko Kp Kq Kr Ks Kt Ku Kv
attribute [go_sem] Kw Kx Ky Kz KA KB KC KD
attribute [go_sem] KE KF KG KH KI Lh rf Li
attribute [go_sem] Lj Lk Cn Ll Lm Ln Lo Lp
attribute [go_sem] Lq Lr Ls Lt Lu Lv Lw List.set_cons_zero
attribute [go_sem] List.set_cons_succ Lx Ly Lz LA LB LC LD
attribute [go_sem] LF LG LH LI LJ LK LL LM
attribute [go_sem] LN LO LP LR LS LU LV
attribute [go_sem] tn yR LW LX LY LZ L1
attribute [go_sem] L3 Cp Cq L4 L5 L6 L7 L8
attribute [go_sem] L9 Ma Mb Mc Md Me Mf Mg
attribute [go_sem] Mh Mi Mj Mk Ml Mm Mn Mo
attribute [go_sem] Mp gZ bD aa Int.toNat_natCast Int.natCast_nonneg af List.all_cons
attribute [go_sem] List.all_nil Bool.and_true Nat.mul_one KJ KK KL KM KN
attribute [go_sem] KO KP KQ KR KS KT KU
attribute [go_sem] KW KX KZ KY
attribute [go_sem] K0 K2 K3 K4 List.take_succ_cons List.take_zero
attribute [go_sem] List.take_nil List.drop_succ_cons List.drop_zero List.drop_nil List.forall_mem_cons List.not_mem_nil List.mem_cons List.mem_singleton
attribute [go_sem] or_false false_or or_true true_or not_or false_implies implies_true forall_const
attribute [go_sem] Jn Jo Jp Jq Jr Js Jt Ju
attribute [go_sem] Jv Jw Jx Jy Jz JA JB JC
attribute [go_sem] JD JE JF JG JH Bool.false_eq_true JI JJ
attribute [go_sem] JK JL JM JN JO JP JQ
attribute [go_sem] JR JS builtin_len builtin_append builtin_copy builtin_min builtin_max JT
attribute [go_sem] JU JV JW JX JY JZ J0 J1
attribute [go_sem] J2 J3 J5 aW uT yD Cc yF
attribute [go_sem] Ka yE Kc J9 List.map_cons List.map_nil if_true if_false
attribute [go_sem] ne_eq not_false_eq_true not_true_eq_false true_and and_true false_and and_false List.length_cons
attribute [go_sem] List.length_nil Nat.zero_add Nat.add_zero Option.isSome_some List.append_assoc List.cons_append List.nil_append Option.map_some
attribute [go_sem] Option.map_none fI yC List.getElem?_cons_zero List.getElem?_cons_succ List.getElem?_nil Option.getD_some Option.getD_none
attribute [go_sem] Jb Jc Jd Je Jf Jg Jh Ji
attribute [go_sem] Mr Ms Mt Int.natCast_zero Int.cast_ofNat_Int Mz MA
attribute [go_sem] J6 J7 Mx My MB Mu Mv bf Nat.le_refl
end Go.Hx
namespace Go.Hx
variable {P:Program} {G:Nat->Option (List ZL)} {H H':ZK}
variable {f:FuncId}{nb:List (List ZL)}{args args' cs cs' z:List ZL}{id lo lo' n nx:Nat}{S:Nat->Prop}{e e0 e1 t:TypeId}{v x:ZL}{b:ZR}
def ZK.cut (H:ZK)(n:Nat):ZK:=⟨fun j=>if j<n then H.get j else none,H.A⟩
def ve (h:id<n):(H.cut n).get id=H.get id:=by simp[ZK.cut,h]
def MH (h:n<=id):(H.cut n).get id=none:=by simp[ZK.cut,Nat.not_lt.2 h]
theorem ZP.cut {B:ZK}(h:ZP B H):ZP B (H.cut B.A):=⟨h.A,fun id hi=>(ve hi).trans (h.nf id hi)⟩
open Classical in
def Fz.dead {H:ZK}(h:Below nx v):Fz S H nx v v:=by
 induction h with
 |lit v=>exact .lit v
 |Q _ ih=>exact .Q rfl fun i h _=>ih i h
 |ni _ ih=>exact .ni rfl fun i h _=>ih i h
 |agg _ ih=>exact .agg rfl fun i h _=>ih i h
 |nc _ ih=>exact .nc rfl fun i h _=>ih i h
 |X _ _ ih1 ih2=>exact .X rfl rfl (fun i h _=>ih1 i h) fun i h _=>ih2 i h
 | @U id _ _ _ _ h=>by_cases hs:S id;exact .deadOwn h hs;exact .U h hs
 | @O id _ _ h=>by_cases hs:S id;exact .deadPtr h hs;exact .O h hs
 | @nk id h=>by_cases hs:S id;exact .deadYld h hs;exact .nk h hs
def MI (hc:Clo H)(n:Nat):FzH (fun id=>n<=id) H (H.cut n) where
 gone id hs:=MH hs
 kept id b hs hb:=by
  have hlt:id<n:=Wr hs;have hbb:=hc.below id b hb;refine⟨hc.lt id b hb,b,by rw[ve hlt];exact hb,?_⟩;cases b with
  |nq=>trivial
  |mp=>rfl
  |J g e cells=>exact⟨rfl,rfl,rfl,fun i h _=>.dead (hbb i h)⟩
  |loop st pend n env ps asg body=>exact⟨rfl,rfl,rfl,rfl,rfl,rfl,rfl,fun t ht=>.dead (hbb t ht)⟩
 none id hs hb:=by rw[ve (Wr hs)];exact hb
variable {K:ZQ->ZK->Prop}
def ae.mb (n:Nat)(hG:fB G)(hl:args'.length=args.length)(hv:∀i (h:i<args.length) (h':i<args'.length),Fz (fun id=>n<=id) H H.A args[i] args'[i])
  (h:ae P G f args' (H.cut n) K):ae P G f args H K:=by
 refine⟨h.1,fun Γ w cargs R hr=>?_⟩;have F:=MI R.X n;have R0:=F.rel hG R;have E0:ZV Γ H w (gH (fun id=>n<=id) Γ) (H.cut n) w:=F.ba;refine(h.2 _ w cargs R0 ⟨by have:=hr.1;omega,fun i h1 h2=>(hv i V h1).sound R F (hr.2 i V h2)⟩).mono ?_;rintro e w' ⟨r,H',Γ',h1,h2,h3,h4,h5⟩;exact⟨r,H',Γ',h1,h2,h3,E0.trans ZJ h4,h5⟩
theorem ak.mb (n:Nat)(hG:fB G)(hl:args'.length=args.length)(hv:∀i (h:i<args.length) (h':i<args'.length),Fz (fun id=>n<=id) H H.A args[i] args'[i])
  (h:ae P G f args' (H.cut n) K):ak P G (.X f [] []) args H K:=by
 refine ak.X (by simpa using ae.mb n hG hl hv h)
def aI (lo:Nat)(H:ZK)(e:TypeId)(v:ZL)(cs:List ZL):Prop :=
 (v=.lit (.slice none 0 0)/\cs=[])\/∃id g,lo<=id/\id<H.A/\v=.U id g 0 cs.length 1/\H.get id=some (.J g e cs)
def aI.nil :aI lo H e (.lit (.slice none 0 0)) []:=.inl ⟨rfl,rfl⟩
def aI.ng (h:aI lo H e v cs)(hl:lo'<=lo)(hn:H.A<=H'.A)(hk:∀id g,lo<=id->id<H.A->H.get id=some (.J g e cs)->v=.U id g 0 cs.length 1->H'.get id=H.get id):aI lo' H' e v cs:=by
 rcases h with h|⟨id,g,h1,h2,h3,h4⟩
 ·exact .inl h
 ·exact .inr ⟨id,g,V,V,h3,by rw[hk id g h1 h2 h4 h3];exact h4⟩
def aI.over (h:aI lo H e v cs)(ho:ZP H H'):aI lo H' e v cs:=h.ng ZJ ho.A fun id _ _ h2 _ _=>ho.nf id h2
theorem aI.one (h:aI lo H e v cs):v.one=true:=by
 rcases h with ⟨rfl,_⟩|⟨_,_,_,_,rfl,_⟩<;>rfl
theorem aI.cells (h:aI lo H e v cs):v.cells=[v]:=by
 rcases h with ⟨rfl,_⟩|⟨_,_,_,_,rfl,_⟩<;>rfl
def aI.fz (h:aI lo H e v cs)(hS:∀i,lo<=i->S i)(hl:cs'.length=cs.length)
  (hc:∀i (h:i<cs.length) (h':i<cs'.length),Fz S H nx cs[i] cs'[i]):Fz S H nx v (.Q cs'.length cs'):=by
 rcases h with ⟨rfl,rfl⟩|⟨id,g,h1,_,rfl,h4⟩
 ·obtain rfl:=Vp hl;exact .nil
 ·rw[hl];refine .ny (hS id h1) h4 V fun j hj h2 h'=>?_;simp only[Nat.zero_add]at h2 ⊢;exact hc j h2 h'
def aI.iB {l:List Int}(h:aI lo H e v (ints l))(hS:∀i,lo<=i->S i):Fz S H nx v (af l):=by
 have:=h.fz (S:=S) (nx:=nx) (cs':=ints l) hS rfl fun i hi _=>by simp only[ints,Vw];exact .lit _
 rw[bD]at this;exact this
def aI.new :aI H.A (ext H [.J 0 e cs]) e (.U H.A 0 0 cs.length 1) cs :=
 .inr ⟨H.A,0,ZJ,by simp[aW],rfl,by simpa using bM H [.J 0 e cs] 0 ZG⟩
def dz (h:id<H.A):(ext H [b]).get id=H.get id:=c9 H [b] id h
def ef :(ext H [b]).get H.A=some b:=by simpa using bM H [b] 0 (ZG)
def vf (h:n=H.A):H.lay n b=some (ext H [b]):=by subst h;exact uT H b
def vg {src:List ZL}(ht:P.underlying t=some (.slice e))(hz:P.cellsOf e=1)(hzero:bQ P e=some z)(hx:src.all ZL.one=true)
  (hb:(cs.length+src.length)*P.bytesOf e<=2 ^ 47/\cs.length+src.length<=2 ^ 47) (ho:aI lo H e v cs) (hlo:lo<=H.A) (hn:n=H.A):
  ∃v' H',bS P H n t t v (.Q src.length src)=some (v',H')/\aI lo H' e v' (cs++src)/\H.A<=H'.A/\(∀k,k<H.A->(∀g n,v≠.U k g 0 n 1)->H'.get k=H.get k):=by
 have hsrc:dc H 1 (.Q src.length src)=some (src.length,src):=by
  unfold dc;simp
 by_cases h0:src.length=0
 ·have e0:src=[]:=Vp h0;subst e0;refine⟨v,H,?_,?_,ZJ,fun _ _ _=>rfl⟩
  ·rcases ho with ⟨rfl,rfl⟩|⟨i,g,h1,h2,rfl,h4⟩
   ·unfold bS;rw[ht];simp only[hzero,hz,Option.bind_some];rw[hsrc];rfl
   ·unfold bS;rw[ht];have hl:=ag h4;simp only[hzero,hz,Option.bind_some,hsrc,hl];rw[Vh ⟨trivial,trivial,V,hb.1,hb.2,rfl⟩];simp
  ·rw[List.append_nil];exact ho
 rcases ho with ⟨rfl,rfl⟩|⟨i,g,h1,h2,rfl,h4⟩
 ·refine⟨.U H.A 0 0 src.length 1,ext H [.J 0 e src],?_,.inr ⟨H.A,0,hlo,by simp[aW],ZG,by simpa using ef⟩,by simp[aW],fun k hk _=>dz hk⟩;unfold bS;rw[ht];simp only[hzero,hz,Option.bind_some,hsrc];rw[Vg h0,Vh (by simpa using hb),vf hn,hn];rfl
 ·refine⟨.U i (g+1) 0 (cs.length+src.length) 1,H.upd i (.J (g+1) e (cs++src)),?_,.inr ⟨i,g+1,h1,h2,ZG,by rw[ah,Vh rfl]⟩,ZJ,fun k hk hne=>?_⟩
  ·unfold bS;rw[ht];have hl:=ag h4;simp only[hzero,hz,Option.bind_some,hsrc,hl];rw[Vh ⟨trivial,trivial,V,hb.1,hb.2,hx⟩,Vg h0];simp
  ·rw[ah,Vg];rintro rfl;exact hne _ _ rfl
def jv (ht:P.underlying t=some (.slice e))(hz:P.cellsOf e=1)(hzero:bQ P e=some z)(hx:x.one=true)
  (hb:(cs.length+1)*P.bytesOf e<=2 ^ 47/\cs.length+1<=2 ^ 47) (ho:aI lo H e v cs) (hlo:lo<=H.A) (hn:n=H.A+1):
  ∃v' H',bS P (ext H [.J 0 e [x]]) n t t v (.U H.A 0 0 1 1)=some (v',H')/\aI lo H' e v' (cs++[x])/\H.A<=H'.A/\(∀k,k<H.A->(∀g n,v≠.U k g 0 n 1)->H'.get k=H.get k):=by
 have hsrc:dc (ext H [.J 0 e [x]]) 1 (.U H.A 0 0 1 1)=some (1,[x]):=by
  unfold dc;have:=ag (H:=ext H [.J 0 e [x]]) (g:=0) (ef (b:=.J 0 e [x]));simp[this]
 have hne:(ext H [ZR.J 0 e [x]]).A=H.A+1:=rfl;rcases ho with ⟨rfl,rfl⟩|⟨i,g,h1,h2,rfl,h4⟩
 ·refine⟨.U (H.A+1) 0 0 1 1,ext (ext H [.J 0 e [x]]) [.J 0 e [x]],?_,.inr ⟨H.A+1,0,V,by simp[aW],ZG,?_⟩,by simp[aW];omega,fun k hk _=>?_⟩
  ·unfold bS;rw[ht];simp only[hzero,hz,Option.bind_some,hsrc];rw[Vg ZH,Vh (by simpa using hb),vf (by rw[hn,hne]),hn];rfl
  ·rw[<- hne];exact ef
  ·rw[dz (by rw[hne];omega),dz hk]
 ·have h4':(ext H [.J 0 e [x]]).get i=some (.J g e cs):=by rw[dz h2];exact h4
  refine⟨.U i (g+1) 0 (cs.length+1) 1,(ext H [.J 0 e [x]]).upd i (.J (g+1) e (cs++[x])),?_,.inr ⟨i,g+1,h1,by rw[aQ,hne];omega,ZG,by rw[ah,Vh rfl]⟩,by rw[aQ,hne];omega,fun k hk hne=>?_⟩
  ·unfold bS;rw[ht];have hl:=ag h4';simp only[hzero,hz,Option.bind_some,hsrc,hl];rw[Vh ⟨trivial,trivial,V,hb.1,hb.2,by simp[hx]⟩];simp
  ·rw[ah,Vg,dz hk];rintro rfl;exact hne _ _ rfl
def jM (lo:Nat)(H:ZK)(e1 e0:TypeId)(v:ZL)(nb:List (List ZL)):Prop :=
 ∃cs:List ZL,aI lo H e1 v cs/\cs.length=nb.length/\∀(j:Nat) (r:List ZL) (c:ZL),nb[j]?=some r->cs[j]?=some c->aI lo H e0 c r
theorem jM.nil :jM lo H e1 e0 (.lit (.slice none 0 0)) []:=⟨[],.nil,rfl,fun j r c h=>by simp at h⟩
theorem jM.over (h:jM lo H e1 e0 v nb)(ho:ZP H H'):jM lo H' e1 e0 v nb:=by
 obtain⟨cs,c1,c2,c3⟩:=h;exact⟨cs,c1.over ho,c2,fun j r c hr hc=>(c3 j r c hr hc).over ho⟩
theorem jM.fz {rows':List (List ZL)}(h:jM lo H e1 e0 v nb)(hS:∀i,lo<=i->S i)(hl:rows'.length=nb.length)
  (hr:∀(j:Nat) (r r':List ZL),nb[j]?=some r->rows'[j]?=some r'->r'.length=r.length/\∀i (h:i<r.length) (h':i<r'.length),Fz S H nx r[i] r'[i]):
  Fz S H nx v (.Q rows'.length (rows'.map fun r=>.Q r.length r)):=by
 obtain⟨cs,h1,h2,h3⟩:=h;have:=h1.fz (S:=S) (nx:=nx) (cs':=rows'.map fun r=>.Q r.length r) hS (by simp[h2,hl]) fun i hi hi'=>by
  simp only[Vw];have hi2:i<nb.length:=V
  have hi3:i<rows'.length:=V
  obtain⟨a1,a2⟩:=hr i nb[i] rows'[i] (Vf hi2) (Vf hi3);exact(h3 i nb[i] cs[i] (Vf hi2) (Vf hi)).fz (S:=S) (nx:=nx) (cs':=rows'[i]) hS a1 a2
 rw[VA]at this;exact this
def aI.vd {e':TypeId}{u:ZL}(hv:aI lo H e v cs)(hu:aI lo' H e' u cs')(hne:e≠e')(hn:H.A<=H'.A)
  (hp:∀k,k<H.A->(∀g n,v≠.U k g 0 n 1)->H'.get k=H.get k):aI lo' H' e' u cs':=by
 refine hu.ng ZJ hn fun i g h1 h2 h3 _=>hp i h2 fun g' n he=>?_;rcases hv with ⟨rfl,_⟩|⟨j,g2,_,_,rfl,h4⟩
 ·cases he
 ·have:=ZL.U.inj he;obtain rfl:j=i:=this.1;rw[h3]at h4;cases h4;exact hne rfl
def jM.app {r:List ZL}(ht:P.underlying t=some (.slice e1))(hz:P.cellsOf e1=1)(hzero:bQ P e1=some z)(hby:P.bytesOf e1=24)(hne:e1≠e0)
  (hb:nb.length<2 ^ 40) (h:jM lo H e1 e0 v nb) (hlo:lo<=H.A) (hx:aI lo H e0 x r) (hn:n=H.A+1):
  ∃v' H',bS P (ext H [.J 0 e1 [x]]) n t t v (.U H.A 0 0 1 1)=some (v',H')/\jM lo H' e1 e0 v' (nb++[r])/\H.A<=H'.A/\(∀k,k<H.A->k<lo->H'.get k=H.get k):=by
 obtain⟨cs,h1,h2,h3⟩:=h;obtain⟨v',H',hA,hO,hL,hp⟩:=jv (t:=t) ht hz hzero hx.one (by rw[hby,h2];omega) h1 hlo hn;refine⟨v',H',hA,⟨cs++[x],hO,by simp[h2],fun j r' c hr hc=>?_⟩,hL,fun k hk hkl=>hp k hk fun g n he=>?_⟩
 ·have key:∀u l,aI lo H e0 u l->aI lo H' e0 u l:=fun u l hu=>h1.vd hu hne hL hp;rcases VC j nb.length with hj|hj
  ·rw[Vx hj]at hr;rw[Vx V]at hc;exact key _ _ (h3 j r' c hr hc)
  ·rw[VS hj]at hr;rw[VS V]at hc;have hj0:j-nb.length=0:=by
    rcases Wo (j-nb.length) with h|h
    ·exact h
    ·rw[Vo (by simp;omega)]at hr;cases hr
   have hj1:j-cs.length=0:=V;rw[hj0]at hr;rw[hj1]at hc;cases hr;cases hc;exact key _ _ hx
 ·rcases h1 with ⟨rfl,_⟩|⟨i,g2,a1,_,rfl,_⟩
  ·cases he
  ·have:=ZL.U.inj he;omega
attribute [go_sem] Int.reduceToNat Int.reduceLE Int.reduceLT Int.reduceAdd Int.reduceSub Int.reduceMul Int.reduceEq Int.reduceNe Nat.reduceEqDiff Nat.reducePow Nat.reduceDiv Nat.reduceMod Nat.reduceAdd Nat.reduceMul Nat.reduceSub Nat.reduceLT Nat.reduceLeDiff reduceIte reduceCtorEq
end Go.Hx
