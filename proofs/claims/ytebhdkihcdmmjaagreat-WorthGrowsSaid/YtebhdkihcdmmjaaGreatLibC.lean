/-
  A function that defers one call, of a function that recovers. Own work: no program stands in this text.
-/
import Derived.Test.YtebhdkihcdmmjaaGreatLibB
import Derived.RecoverIn
import Derived.MakeChecks
import Derived.OpenShut
set_option linter.all false
namespace Go.Hx
variable {P:Program} {G:Nat->Option (List Zo)} {Γ Γ':aC} {H H':Zn} {w w':World}
def put_defers (a:Act)(d:Option Tmp)(v:Value):(a.put d v).defers=a.defers:=by cases d<;>rfl
section
variable {n:Nat} {wb:ZR} {rd rb:Option Nat} {Q:AX->St->Prop}
def GQ {id:Nat}{dr:Bool}{all:Array Oper}{ds:List Deferred}(hfit:∀o,o∈all.toList->eK n o=true):∀(is:List Nat) (s:St) (Γ:aC) (a:Act) (w:World),(∀i,i∈is->i<all.size) ->
  opsV P G rd Q all (is.filterMap fun i=>all[i]?) s->ZE P G n wb Γ s a w->dO Γ s.H rd rb->a.defers=ds ->
  ∀(Q':Exit->Act->World->Prop),(∀e a' w',ir P G n wb rd rb (wr (.region id all dr)) Γ s.H a w Q e a' w'->a'.defers=ds->Q' e a' w')->wpOpsIn (dV rb) 0 P all Q' is a w:=by
 intro is
 induction is with
 |nil =>
  intro s Γ a w _ h hs hr hd Q' hq;exact hq _ _ _ (.here (x:=.normal) trivial h hs hr) hd
 |cons i is ih =>
  intro s Γ a w hi h hs hr had Q' hq;have hlt:=hi i Zj;have ho:all[i]?=some all[i]:=U6 hlt;simp only[Yt,ho]at h;unfold wpOpsIn;rw[ho];simp only;obtain⟨t,ht,h⟩:=h;rw[pf hs ht];have hd:=hfit all[i] Zj;cases t with
  |true =>
   simp only[if_true]at h ⊢;refine xY hd hs hr h ?_ ?_
   ·rintro Γ' s' a' w' hk hs' E hn hr' ⟨cv,rfl⟩;exact ih s' Γ' _ w' (fun j hj=>hi j (by simp[hj])) hk hs' hr' (by rw[put_defers];exact had) Q' fun e a'' w'' hp hdd=>hq _ _ _ (hp.step E hn (nV hlt cv) fun _ h=>h) hdd
   ·rintro Γ' s' a' w' chain hp hc hs' E hn hr' rfl;exact hq _ _ _ ⟨.panic,s',Γ',hc,hp,hs',E,hn,hr',.refl _ _⟩ had
  |false =>
   simp only[Bool.false_eq_true,if_false]at h ⊢;refine⟨fun _ _=>trivial,?_⟩;have hdst:∀d,all[i].dst=some d->d<n:=by
    intro d hd';unfold eK at hd;rw[hd']at hd;simpa using hd
   have hs':=jb (v:=.lit undef) (cv:=undef) hs hdst (Zy.refl Γ s.H w) Zm hs.heap (.lit _);exact ih ⟨aI s.ρ all[i].dst (.lit undef),s.H⟩ Γ _ w (fun j hj=>hi j (by simp[hj])) h hs' hr (by rw[put_defers];exact had) Q' fun e a'' w'' hp hdd=>hq _ _ _ (hp.step (Zy.refl _ _ _) Zm (nV hlt _) fun _ h=>h) hdd
def xO {id:Nat}{ops:Array Oper}{s s':St}{a:Act}(hfit:ops.toList.all (eK n)=true)(h:opsV P G rd (fun x t=>x=.normal/\t=s') ops ops.toList s)(hs:ZE P G n wb Γ s a w)(hr:dO Γ s.H rd rb):
  (Code.region id ops false).wpIn (dV rb) 0 P (fun e a' w'=>e=.normal/\a'.defers=a.defers/\∃ Γ',ZE P G n wb Γ' s' a' w'/\Zy Γ s.H w Γ' s'.H w'/\s.H.A<=s'.H.A/\dO Γ' s'.H rd rb) a w:=by
 refine wpIn_region (GQ (id:=id) (dr:=false) (Q:=fun x t=>x=.normal/\t=s') (fun o ho=>Vo.1 hfit o ho) _ s Γ a w (fun i hi=>U9.1 hi) ?_ hs hr rfl _ ?_)
 ·have:(List.range ops.size).filterMap (fun i=>ops[i]?)=ops.toList:=by
   have:=Bu ops.toList;simpa using this
  rw[this];exact h
 ·rintro e a' w' ⟨x,s2,Γ',hx,⟨rfl,rfl⟩,hs',E,hn,hr',_⟩ hd;cases e with
  |normal=>exact⟨rfl,hd,Γ',hs',E,hn,hr'⟩
  |_=>exact hx.elim
end
def GR {fn:Func}{tmps:Array Value}{R:Ending->World->Prop}{u:FrameMode}{ρ:Env}{Γ₀:aC}{H₀:Zn}{w₀:World}{lo:Nat}{tail:List Deferred}(hu:u≠.run)(hlo:w₀.heap.size<=lo):∀(ds:List Deferred) (w:World),
  Marks lo Γ w ds->Zw P G Γ H w->(∀t,Zr P Γ H w (ρ t) (tmps.getD t undef))->Zy Γ₀ H₀ w₀ Γ H w->∀(X:World->Prop),X w->(∀(w:World) (r:Nat),X w->qe Γ w r->X (bJ w r (.deferred none))) ->
  (∀w',Zw P G Γ H w'->(∀t,Zr P Γ H w' (ρ t) (tmps.getD t undef))->Zy Γ₀ H₀ w₀ Γ H w'->X w'->LeavesInM Fence.wide 0 P fn tmps R tail u w') ->
  LeavesInM Fence.wide 0 P fn tmps R (ds++tail) u w:=by
 intro ds
 induction ds with
 |nil=>intro w _ R0 he E X hX _ h;exact h w R0 he E hX
 |cons d ds ih =>
  intro w hm R0 he E X hX hXs h;obtain⟨r,rfl,hle,hown,hblk⟩:=hm.1 d Zj;have ho:∀c e f,Obj.deferred none≠.cells c e f:=fun _ _ _ h=>by cases h
  refine⟨hu,.inl ⟨r,bJ w r (.deferred none),rfl,?_,?_⟩⟩
  ·unfold Instr.takeDeferred;have hg:(getObj r).run P w=.ok (.deferred (some [])) w:=(by simp[getObj,Sem.run,hblk]);rw[aq hg];simp only;have hset:(setObj r (.deferred none)).run P w=.ok () (bJ w r (.deferred none)):=(by simp[setObj,Sem.run,hblk,bJ]);rw[aq hset];rfl
  ·refine ih _ ⟨fun e he'=>?_,(Xn.1 hm.2).2⟩ (R0.closed hblk hown ho) (fun t=>(he t).closed hblk ho) (E.closed hblk (VC hlo hle) _ ho) X (hXs w r hX ⟨hown,hblk⟩) hXs h;obtain⟨r',rfl,hle',hown',hblk'⟩:=hm.1 e (by simp[he']);refine⟨r',rfl,hle',hown',?_⟩;rw[eJ,UW]
   ·exact hblk'
   ·rintro⟨rfl,_⟩;exact(Xn.1 hm.2).1 _ he' rfl
def xP (P:Program)(G:Nat->Option (List Zo))(rs:List ResultVar)(m:Nat)(ca cb:Zo)(r3 r4:Tmp)(o1 o2:Array Oper)(H₀:Zn)(K:Zt->Zn->Prop):AX->St->Prop
 |.normal,s|.ret,s=>bq (fS P s.H s.ρ rs) fun vs=>aj P G H₀ K (kR vs) s.H
 |.panic,s=>∀t v,∃s1 s2,opsV P G none (fun x t=>x=.normal/\t=s1) o1 o1.toList ⟨aI (aI (dC [ca,cb]) (some r3) (.lit (.iface t v))) (some r4) (.lit (.bool true)),s.H⟩ /\
   opsV P G none (fun x t=>x=.normal/\t=s2) o2 o2.toList s1/\bq (fS P s2.H s.ρ rs) fun vs=>aj P G H₀ K (kR vs) s2.H
 |_,_=>False
def GS {ρ:Operand->Value}{o:Oper}{ats:Array TypeId}(h:o.op=.call ⟨.builtin .recover,#[],ats⟩):(execOp ρ o).run P w=.ok .recover w:=by
 unfold execOp;rw[h];rfl
def A2 {args:List Zo}{cargs:Array Value}{k:Nat}(hr:dG P Γ H w args cargs)(t:Nat):Zr P Γ H w (dC args t) ((cargs++Array.replicate k undef).getD t undef):=by
 have hsz:=hr.1;by_cases ht:t<args.length
 ·have h1:(cargs++Array.replicate k undef).getD t undef=cargs[t]' V:=by
   simp only[VJ];rw[X0 V,U6 V];rfl
  have h2:dC args t=args[t]:=by
   unfold dC;rw[UV ht];rfl
  rw[h1,h2];exact hr.2 t ht (V)
 ·have h1:(cargs++Array.replicate k undef).getD t undef=undef:=by
   simp only[VJ];rw[YQ V,Xa];split<;>rfl
  have h2:dC args t=.lit undef:=by
   unfold dC;rw[U3 V];rfl
  rw[h1,h2];exact .lit _
def ae.guard {f g:FuncId}{fn gn:Func}{i0 i1 j0 j1 j2:Nat}{o0 o1 o2:Array Oper}{dF p q r3 r4:Tmp}{c2:Code}{T T':TypeId}{ty1 ty2 ty3 ty4:TypeId}{ps1 ps2 ps3 ps4:String}{af1 af2 af3 af4:Array Edge}{ats at3:Array TypeId}
  {args:List Zo} {K:Zt->Zn->Prop} {rs:List ResultVar} {n m:Nat} {s1:St}
  (hf:P.funcs[f]?=some fn) (hb:fn.body=some (.seq (.region i0 o0 false) (.seq (.region i1 #[⟨some dF,.makeFunc (.func g) #[] #[.tmp p,.tmp q],ty1,ps1,af1,none⟩,⟨none,.defer ⟨.value (.tmp dF),#[],ats⟩,ty2,ps2,af2,none⟩] false) c2)))
    (hres : fn.results.toList = rs) (hnt : fn.ntmps = n) (hname : (fn.name == "runtime.NumGoroutine") = false) (hargs : args.length ≤ n) (hdF : dF < n)
  (hg : P.funcs[g]?=some gn) (hgb : gn.body=some (.seq (.region j0 #[⟨some r3,.call ⟨.builtin .recover,#[],at3⟩,ty3,ps3,af3,none⟩,⟨some r4,.binOp .neq T (.tmp r3) (.const .nilIface) T',ty4,ps4,af4,none⟩] false)
      (.cond (.tmp r4) (.seq (.region j1 o1 false) (.region j2 o2 false)) .skip))) (hgres : gn.results.toList = []) (hgnt : gn.ntmps = m) (hm : 2 ≤ m) (hgname : (gn.name == "runtime.NumGoroutine") = false) (hr3 : r3 < m) (hr4 : r4 < m) (h34 : r3 ≠ r4) (h42 : 2 ≤ r4) (h32 : 2 ≤ r3)
  (hneq0:∀w,(do eqGuard .neq T (.tmp r3) (.const .nilIface) .nilIface .nilIface;binOp .neq T .nilIface .nilIface:Sem Value).run P w=.ok (.bool false) w)
  (hneq1:∀t v w,(do eqGuard .neq T (.tmp r3) (.const .nilIface) (.iface t v) .nilIface;binOp .neq T (.iface t v) .nilIface:Sem Value).run P w=.ok (.bool true) w)
  (hf0:o0.toList.all (eK n)=true) (hf1:o1.toList.all (eK m)=true) (hf2:o2.toList.all (eK m)=true)
  (h0:opsV P G none (fun x t=>x=.normal/\t=s1) o0 o0.toList ⟨dC args,H⟩)
  (h2:W P G n none c2 (xP P G rs m (s1.ρ p) (s1.ρ q) r3 r4 o1 o2 H K) ⟨aI s1.ρ (some dF) (.Z g [] [s1.ρ p,s1.ρ q]),s1.H⟩):ae P G f args H K:=by
 subst hres;subst hnt;subst hgnt;refine⟨⟨fn,hf,by rw[hb];rfl,hname⟩,fun Γ w cargs R hr=>?_⟩;refine callsIn_of_wp_marks hf hb trivial ?_;have hs:ZE P G fn.ntmps ⟨w.heap.size,[]⟩ Γ ⟨dC args,H⟩ { tmps:=cargs++Array.replicate (fn.ntmps-cargs.size) undef,defers:=[] } w :=
  ⟨by have:=hr.1;simp;omega,fun t=>A2 hr t,R,⟨[],rfl,Marks.nil⟩,Zm⟩
 refine wpIn_seq (wpIn_mono (xO (rb:=none) hf0 h0 hs rfl) ?_);rintro e a₁ w₁ ⟨rfl,hd1,Γ₁,hs₁,E₁,hn₁,hr₁⟩;have hd1':a₁.defers=[]:=hd1
  -- the closure is made,and deferred
 let d:Deferred:={ target:=.fn (.func g) #[a₁.eval (.tmp p),a₁.eval (.tmp q)],args:=#[] }
 let a₂:Act:={ a₁.put (some dF) (.func (.func g) #[] #[a₁.eval (.tmp p),a₁.eval (.tmp q)]) with defers:=[d] }
 have hp:=hs₁.env p;have hq:=hs₁.env q;have hclo:Zr P Γ₁ s1.H w₁ (.Z g [] [s1.ρ p,s1.ρ q]) (.func (.func g) #[] #[a₁.eval (.tmp p),a₁.eval (.tmp q)]) :=
  Zr.Z (fs:=[]) (cs:=[a₁.eval (.tmp p),a₁.eval (.tmp q)]) rfl rfl (fun i h _=>absurd h (Va _)) fun i h h'=>by
   match i with
   |0=>exact hp
   |1=>exact hq
 have hs₂':=jb (dst:=some dF) hs₁ (fun x hx=>by cases hx;exact hdF) (Zy.refl Γ₁ s1.H w₁) Zm hs₁.heap hclo;have hs₂:ZE P G fn.ntmps ⟨w₁.heap.size,[d]⟩ Γ₁ ⟨aI s1.ρ (some dF) (.Z g [] [s1.ρ p,s1.ρ q]),s1.H⟩ a₂ w₁ :=
  ⟨hs₂'.size,hs₂'.env,hs₂'.heap,⟨[],rfl,Marks.nil⟩,Zm⟩
 refine wpIn_seq (wpIn_region ?_);have hdefer:(execOp a₂.eval ⟨none,.defer ⟨.value (.tmp dF),#[],ats⟩,ty2,ps2,af2,none⟩).run P w₁=.ok (.defer d) w₁:=by
  have hev:a₂.eval (.tmp dF)=.func (.func g) #[] #[a₁.eval (.tmp p),a₁.eval (.tmp q)]:=by
   show ((a₁.tmps.setIfInBounds dF _)).getD dF undef=_;have:=hs₁.size;simp[this,hdF]
  unfold execOp;simp only[resolve,hev];rw[aq (show (Deferred.ofValue (.func (.func g) #[] #[a₁.eval (.tmp p),a₁.eval (.tmp q)]) (Array.map a₂.eval #[])).run P w₁=.ok { target:=.fn (.func g) #[a₁.eval (.tmp p),a₁.eval (.tmp q)],args:=#[]++Array.map a₂.eval #[] } w₁ from rfl)];have e:(#[]++Array.map a₂.eval #[]:Array Value)=#[]:=Zj
  rw[e];rfl
 have hmk:(execOp a₁.eval ⟨some dF,.makeFunc (.func g) #[] #[.tmp p,.tmp q],ty1,ps1,af1,none⟩).run P w₁=.ok (.value (.func (.func g) #[] #[a₁.eval (.tmp p),a₁.eval (.tmp q)])) w₁:=by
  unfold execOp;simp only[List.map_toArray,List.map_cons,List.map_nil];rfl
 have ha2:{ (a₁.put (some dF) (.func (.func g) #[] #[a₁.eval (.tmp p),a₁.eval (.tmp q)])) with defers:=d :: (a₁.put (some dF) (.func (.func g) #[] #[a₁.eval (.tmp p),a₁.eval (.tmp q)])).defers }=a₂:=by
  show _=a₂;rw[put_defers,hd1']
 show wpOpsIn (dV none) 0 P _ _ [0,1] a₁ w₁;unfold wpOpsIn;simp only[List.getElem?_toArray,List.getElem?_cons_zero,Region.wanted,if_true];refine⟨fun _ _=>trivial,?_⟩;rw[Oper.semAt_eq _ _ _ (fun c hc=>by cases hc),hmk,Oper.uponIn_value];unfold wpOpsIn;simp only[List.getElem?_toArray,List.getElem?_cons_succ,List.getElem?_cons_zero,Region.wanted,if_true];refine⟨fun _ _=>trivial,?_⟩;have hdefer':(execOp (a₁.put (some dF) (.func (.func g) #[] #[a₁.eval (.tmp p),a₁.eval (.tmp q)])).eval ⟨none,.defer ⟨.value (.tmp dF),#[],ats⟩,ty2,ps2,af2,none⟩).run P w₁=.ok (.defer d) w₁:=hdefer;rw[show (dV none).round=none from rfl,Oper.semAt_none,hdefer',Oper.uponIn_defer,ha2];unfold wpOpsIn;show c2.wpIn (dV none) 0 P _ a₂ w₁;refine wpIn_mono (h2 ⟨w₁.heap.size,[d]⟩ Γ₁ a₂ w₁ none hs₂ rfl) ?_;rintro e a₃ w₃ ⟨x,s₃,Γ₃,hx,hq₃,hs₃,E₃,hn₃,_,_⟩;have E03:Zy Γ H w Γ₃ s₃.H w₃:=E₁.trans hn₁ E₃;have hn03:H.A<=s₃.H.A:=VC hn₁ hn₃;have hca:Zr P Γ₃ s₃.H w₃ (s1.ρ p) (a₁.eval (.tmp p)):=Zr.aY hp E₃ hn₃;have hcb:Zr P Γ₃ s₃.H w₃ (s1.ρ q) (a₁.eval (.tmp q)):=Zr.aY hq E₃ hn₃;obtain⟨mk,hmks,hmkk⟩:=hs₃.defers;have hmks':a₃.defers=mk++[d]:=hmks;have hinv:∀w,(invoke d.target d.args).run P w=.ok (.enter g #[a₁.eval (.tmp p),a₁.eval (.tmp q)]) w:=fun w=>by
  show (callFunc g (#[]++#[a₁.eval (.tmp p),a₁.eval (.tmp q)])).run P w=_;unfold callFunc;rw[aq (run_program P w)];simp only[hg];rw[hgname,hgb];simp
  -- on the way out: marks,then the deferred call
 have leave:∀(u:FrameMode),u≠.run->(∀w'',Zw P G Γ₃ s₃.H w''->(∀t,Zr P Γ₃ s₃.H w'' (s₃.ρ t) (a₃.tmps.getD t undef))->Zy Γ H w Γ₃ s₃.H w''->Zr P Γ₃ s₃.H w'' (s1.ρ p) (a₁.eval (.tmp p))->Zr P Γ₃ s₃.H w'' (s1.ρ q) (a₁.eval (.tmp q)) ->
   CallsDIn Fence.wide 0 P g #[a₁.eval (.tmp p),a₁.eval (.tmp q)] u w'' fun
    |.returned _,u',w'=>LeavesInM Fence.wide 0 P fn a₃.tmps (fH P G Γ H w K) [] (settle u') w'
    |.panicked chain,u',w'=>LeavesInM Fence.wide 0 P fn a₃.tmps (fH P G Γ H w K) [] (raised u' chain) w'
    |.outgrown,_,w'=>fH P G Γ H w K .outgrown w')->LeavesInM Fence.wide 0 P fn a₃.tmps (fH P G Γ H w K) a₃.defers u w₃:=by
  intro u hu hcall;rw[hmks'];refine GR hu E₁.size mk w₃ hmkk hs₃.heap hs₃.env E03 (fun w=>Zr P Γ₃ s₃.H w (s1.ρ p) (a₁.eval (.tmp p))/\Zr P Γ₃ s₃.H w (s1.ρ q) (a₁.eval (.tmp q))) ⟨hca,hcb⟩ (fun w r hX hr=>?_) fun w'' R'' he'' E'' hX=>?_
  ·have ho:∀c e f,Obj.deferred none≠.cells c e f:=fun _ _ _ h=>by cases h
   exact⟨hX.1.closed hr.2 ho,hX.2.closed hr.2 ho⟩
  ·exact⟨hu,.inr ⟨fun h=>by simp[Fence.wide]at h,.func g,_,g,_,rfl,hinv w'',fun _ _=>trivial,hcall w'' R'' he'' E'' hX.1 hX.2⟩⟩
  -- the deferred call's first region
 have first:∀(c₀:Frame) (cs cs':List Frame) (v:Value) (b:Bool) (w'':World) (Q:Exit->Act->List Frame->World->Prop),
   (recoverD (c₀ :: cs)=some (v,cs')\/(recoverD (c₀ :: cs)=none/\v=.nilIface/\cs'=c₀ :: cs)) ->
   (do eqGuard .neq T (.tmp r3) (.const .nilIface) v .nilIface;binOp .neq T v .nilIface:Sem Value).run P w''=.ok (.bool b) w'' ->
   (Code.cond (.tmp r4) (.seq (.region j1 o1 false) (.region j2 o2 false)) .skip).wpSIn Fence.wide 0 P Q ((({ tmps:=#[a₁.eval (.tmp p),a₁.eval (.tmp q)]++Array.replicate (gn.ntmps-2) undef,defers:=[] }:Act).put (some r3) v).put (some r4) (.bool b)) cs' w'' ->
   (Code.seq (.region j0 #[⟨some r3,.call ⟨.builtin .recover,#[],at3⟩,ty3,ps3,af3,none⟩,⟨some r4,.binOp .neq T (.tmp r3) (.const .nilIface) T',ty4,ps4,af4,none⟩] false)
    (.cond (.tmp r4) (.seq (.region j1 o1 false) (.region j2 o2 false)) .skip)).wpSIn Fence.wide 0 P Q { tmps:=#[a₁.eval (.tmp p),a₁.eval (.tmp q)]++Array.replicate (gn.ntmps-2) undef,defers:=[] } (c₀ :: cs) w'':=by
  intro c₀ cs cs' v b w'' Q hrec hneq hcond;refine wpSIn_seq (wpSIn_region ?_);show wpOpsSIn Fence.wide 0 P _ _ [0,1] _ _ _;have hneq':∀a:Act,a.eval (.tmp r3)=v->(execOp a.eval ⟨some r4,.binOp .neq T (.tmp r3) (.const .nilIface) T',ty4,ps4,af4,none⟩).run P w''=.ok (.value (.bool b)) w'':=fun a ha=>by
   unfold execOp;simp only[ha];have h1:a.eval (.const .nilIface)=.nilIface:=rfl;rw[h1,aq hneq];rfl
  have hev:∀a:Act,a.tmps.size=gn.ntmps->(a.put (some r3) v).eval (.tmp r3)=v:=fun a ha=>by
   show (a.tmps.setIfInBounds r3 v).getD r3 undef=v;simp[ha,hr3]
  have hsz:({ tmps:=#[a₁.eval (.tmp p),a₁.eval (.tmp q)]++Array.replicate (gn.ntmps-2) undef,defers:=[] }:Act).tmps.size=gn.ntmps:=by
   simp;omega
  unfold wpOpsSIn;simp only[List.getElem?_toArray,List.getElem?_cons_zero,Region.wanted,if_true];refine⟨fun _ _=>trivial,?_⟩;rw[GS rfl];simp only;rcases hrec with hrec|⟨hrec,rfl,rfl⟩
  ·rw[hrec];simp only;unfold wpOpsSIn;simp only[List.getElem?_toArray,List.getElem?_cons_succ,List.getElem?_cons_zero,Region.wanted,if_true];refine⟨fun _ _=>trivial,?_⟩;rw[hneq' _ (hev _ hsz)];exact hcond
  ·rw[hrec];simp only;unfold wpOpsSIn;simp only[List.getElem?_toArray,List.getElem?_cons_succ,List.getElem?_cons_zero,Region.wanted,if_true];refine⟨fun _ _=>trivial,?_⟩;rw[hneq' _ (hev _ hsz)];exact hcond
 have hresg:∀(tmps:Array Value) (w:World),(results gn tmps).run P w=.ok (.tuple #[]) w:=fun tmps w=>by
  have h1:gn.results=#[]:=by
   have:=hgres;cases h:gn.results with
   |mk l=>rw[h]at this;simp at this;rw[this]
  unfold results;rw[h1];simp only[X6,List.mapM_nil];rfl
  -- it ends in no panic: nothing is recovered
 have calm:bq (fS P s₃.H s₃.ρ fn.results.toList) (fun vs=>aj P G H K (kR vs) s₃.H)->LeavesInM Fence.wide 0 P fn a₃.tmps (fH P G Γ H w K) a₃.defers .returning w₃:=by
  rintro⟨vs,hvs,v',H',hw,hn',hk⟩;refine leave .returning Zj fun w'' R'' he'' E'' _ _=>?_;refine callsDIn_of_wpSIn hg hgb trivial fun c₀ cs hc₀=>?_;have hsame:({ c₀ with mode:=FrameMode.returning }:Frame)=c₀:=by rw[<- hc₀]
  refine first c₀ cs (c₀ :: cs) .nilIface false w'' _ (.inr ⟨by simp[recoverD,hc₀],rfl,rfl⟩) (hneq0 w'') (wpSIn_cond (t:=false) ?_ ?_)
  ·show (((_:Array Value).setIfInBounds r3 Value.nilIface).setIfInBounds r4 (.bool false)).getD r4 undef=.bool false;have h2:2+(gn.ntmps-2)=gn.ntmps:=V;simp[h2,hr4]
  ·refine wpSIn_of_wpIn rfl (wpIn_skip ?_);refine⟨rfl,.returning,by rw[hsame],.tuple #[],hresg _ _,?_⟩;show LeavesInM Fence.wide 0 P fn a₃.tmps (fH P G Γ H w K) [] (settle .returning) w'';obtain⟨cv,h1,h2⟩:=xZ R'' he'' hvs;obtain⟨Γ'',R3,E3,hv3⟩:=hw Γ₃ w'' R'';exact⟨cv,h1,.ret v',H',Γ'',hv3 cv h2,hk,R3,E''.trans hn03 E3,hn'⟩
 cases e with
 |normal=>cases x with
  |normal=>exact calm hq₃
  |_=>exact hx.elim
 |ret=>cases x with
  |ret=>exact calm hq₃
  |_=>exact hx.elim
 |panic chain=>cases x with
  |panic =>
   obtain⟨it,iv,rfl⟩:=hx;obtain⟨t1,t2,hop1,hop2,vs,hvs,v',H',hw,hn',hk⟩:=hq₃ it iv;refine leave _ Zj fun w'' R'' he'' E'' ha'' hb''=>?_;refine callsDIn_of_wpSIn hg hgb trivial fun c₀ cs hc₀=>?_;refine first c₀ cs ({ c₀ with mode:=.panicking [{ v:=.iface it iv,recovered:=true }] } :: cs) (.iface it iv) true w'' _ (.inl (by simp[recoverD,hc₀])) (hneq1 it iv w'') (wpSIn_cond (t:=true) ?_ ?_)
   ·show (((_:Array Value).setIfInBounds r3 (Value.iface it iv)).setIfInBounds r4 (.bool true)).getD r4 undef=.bool true;have h2:2+(gn.ntmps-2)=gn.ntmps:=V;simp[h2,hr4]
   ·simp only[if_true];refine wpSIn_of_wpIn rfl ?_;have hL:dG P Γ₃ s₃.H w'' [s1.ρ p,s1.ρ q] #[a₁.eval (.tmp p),a₁.eval (.tmp q)]:=⟨rfl,fun i h h'=>by
     match i with
     |0=>exact ha''
     |1=>exact hb''⟩
    have hsA:ZE P G gn.ntmps ⟨w''.heap.size,[]⟩ Γ₃ ⟨dC [s1.ρ p,s1.ρ q],s₃.H⟩ { tmps:=#[a₁.eval (.tmp p),a₁.eval (.tmp q)]++Array.replicate (gn.ntmps-2) undef,defers:=[] } w'' :=
     ⟨by simp;omega,fun t=>A2 hL t,R'',⟨[],rfl,Marks.nil⟩,Zm⟩
    have hsB:=jb (dst:=some r3) hsA (fun x hx=>by cases hx;exact hr3) (Zy.refl Γ₃ s₃.H w'') Zm R'' (Zr.lit (.iface it iv));have hsC:=jb (dst:=some r4) hsB (fun x hx=>by cases hx;exact hr4) (Zy.refl Γ₃ s₃.H w'') Zm R'' (Zr.lit (.bool true));refine wpIn_seq (wpIn_mono (xO (rb:=none) hf1 hop1 hsC rfl) ?_);rintro e a₅ w₅ ⟨rfl,hd5,Γ₅,hs₅,E₅,hn₅,_⟩;refine wpIn_mono (xO (rb:=none) hf2 hop2 hs₅ rfl) ?_;rintro e a₆ w₆ ⟨rfl,hd6,Γ₆,hs₆,E₆,hn₆,_⟩;have E56:Zy Γ₃ s₃.H w'' Γ₆ t2.H w₆:=E₅.trans hn₅ E₆;have hn56:s₃.H.A<=t2.H.A:=VC hn₅ hn₆;refine⟨by rw[hd6,hd5];rfl,.panicking [{ v:=.iface it iv,recovered:=true }],rfl,.tuple #[],hresg _ _,?_⟩;show LeavesInM Fence.wide 0 P fn a₃.tmps (fH P G Γ H w K) [] .returning w₆;obtain⟨cv,h1,h2⟩:=xZ hs₆.heap (fun t=>(he'' t).aY E56 hn56) hvs;obtain⟨Γ'',R3,E3,hv3⟩:=hw Γ₆ w₆ hs₆.heap;exact⟨cv,h1,.ret v',H',Γ'',hv3 cv h2,hk,R3,(E''.trans hn03 E56).trans (VC hn03 hn56) E3,hn'⟩
  |_=>exact hx.elim
 |exit i=>cases x with
  |exit j=>exact hq₃.elim
  |_=>exact hx.elim
 |goto i=>cases x with
  |goto j=>exact hq₃.elim
  |_=>exact hx.elim
 |outgrown=>cases x<;>exact hx.elim
end Go.Hx
namespace Go.Hx
open Go.ChangeShapes Go.WideShapes Go.RowKit
variable {P:Program} {W:World} {H:Type} {enc:TypeId × Value->H} {spare:Nat->Bool} {held:Bool}
variable {z:Nat}{α:Type}{t:TypeId}
def js (P:Program)(W:World)(as:List Zo)(cs:List Value):Prop:=cs.length=as.length/\∀i (h:i<as.length) (h':i<cs.length),Zr P ka cW W as[i] cs[i]
def gT (enc:TypeId × Value->H)(P:Program)(W:World)(spare:Nat->Bool)(held:Bool)(t:TypeId)(φ:DataW H->List Zo->Prop):Prop :=
 ∀fuel cs x,DataW.trod enc P W 0 spare held fuel t cs=some x->∃as,js P W as cs/\φ x.1 as
def js.nil:js P W [] []:=⟨rfl,fun i h _=>absurd h (Va _)⟩
def js.one {a:Zo}{c:Value}(h:Zr P ka cW W a c):js P W [a] [c]:=⟨rfl,fun i hi _=>by
 match i,hi with
 |0,_=>exact h⟩
def js.append {as bs:List Zo}{cs ds:List Value}(h1:js P W as cs)(h2:js P W bs ds):js P W (as++bs) (cs++ds):=by
 refine⟨by simp[h1.1,h2.1],fun i h h'=>?_⟩;by_cases hi:i<as.length
 ·rw[V0 hi,V0 (by rw[h1.1];exact hi)];exact h1.2 i hi _
 ·have e:=h1.1;rw[V9 V,V9 V];have:=h2.2 (i-as.length) (by simp at h;omega) (by rw[h2.1];simp at h;omega);simpa[e] using this
def HH (ht:P.underlying t=some .bool):gT enc P W spare held t fun d as=>∃b,d=.lit (.bool b)/\as=[.lit (.bool b)]:=by
 intro fuel cs x h;cases fuel with
 |zero=>simp[DataW.trod]at h
 |succ n =>
  unfold DataW.trod at h;rw[ht]at h;split at h
  ·cases h;exact⟨_,.one (.lit _),_,rfl,rfl⟩
  all_goals simp_all
def ph {k:IntKind}(ht:P.underlying t=some (.int k)):gT enc P W spare held t fun d as=>∃n,d=.lit (.int k n)/\as=[.lit (.int k n)]/\(Lit.int k n).wf=true:=by
 intro fuel cs x h;cases fuel with
 |zero=>simp[DataW.trod]at h
 |succ n =>
  unfold DataW.trod at h;rw[ht]at h;split at h<;>simp_all
  rename_i k' n' _ _;obtain⟨⟨rfl,hw⟩,rfl⟩:=h;exact⟨_,.one (.lit _),_,rfl,rfl,hw⟩
def Bx:∀ {nb:List (List Zo)} {css:List (List Value)},css.length=nb.length->(∀i (h:i<nb.length) (h':i<css.length),js P W nb[i] css[i])->js P W nb.flatten css.flatten:=by
 intro nb
 induction nb with
 |nil=>intro css h _;obtain rfl:=U5 h;exact .nil
 |cons r nb ih =>
  intro css h h'
  match css,h with
  |c :: css,h =>
   simp only[List.flatten_cons];exact(h' 0 Zj Zj).append (ih (by simpa using h) fun i hi hi'=>h' (i+1) (by simpa using hi) (by simpa using hi'))
def By {Q:Nat->α->Prop}:∀n,(∀i,i<n->∃a,Q i a)->∃l:List α,l.length=n/\∀i (h:i<l.length),Q i l[i]:=by
 intro n
 induction n with
 |zero=>intro _;exact⟨[],rfl,fun i h=>absurd h (Va _)⟩
 |succ n ih =>
  intro h;obtain⟨l,hl,hq⟩:=ih fun i hi=>h i V;obtain⟨a,ha⟩:=h n V;refine⟨l++[a],by simp[hl],fun i hi=>?_⟩;by_cases hi':i<l.length
  ·rw[V0 hi'];exact hq i hi'
  ·have:i=l.length:=(by simp at hi;omega);subst this;simp only[List.getElem_concat_length];rw[hl];exact ha
def HI :∀ {nb:List (List α)},(∀i (h:i<nb.length),nb[i].length=z)->nb.flatten.length=nb.length*z:=by
 intro nb
 induction nb with
 |nil=>intro _;simp
 |cons r nb ih =>
  intro h;have h0:=h 0 Zj;have:=ih fun i hi=>h (i+1) (by simpa using hi);simp only[VR]at h0;simp only[List.flatten_cons,List.length_append,List.length_cons,this,h0,Yh];omega
def HJ :∀ {nb:List (List α)},(∀i (h:i<nb.length),nb[i].length=z)->∀i j (hi:i<nb.length) (hj:j<z),nb.flatten[i*z+j]?=(nb[i])[j]?:=by
 intro nb
 induction nb with
 |nil=>intro _ i j hi;exact absurd hi (Va _)
 |cons r nb ih =>
  intro h i j hi hj;have h0:=h 0 Zj;simp only[VR]at h0;cases i with
  |zero=>simp only[List.flatten_cons,VR,Xb,Nat.zero_add];rw[Vf V]
  |succ i =>
   simp only[List.flatten_cons,WU];rw[VA (by rw[h0,Yh];omega),<- ih (fun i hi=>h (i+1) (by simpa using hi)) i j (by simpa using hi) hj];congr 1;rw[h0,Yh];omega
def Bz (φ:DataW H->List Zo->Prop)(ds:List (DataW H))(nb:List (List Zo)):Prop:=ds.length=nb.length/\∀i (h:i<nb.length) (h':i<ds.length),φ ds[i] nb[i]
def BA {e:TypeId}{φ:DataW H->List Zo->Prop}(ht:P.underlying t=some (.slice e))(hz:0<P.cellsOf e)(he:gT enc P W spare held e φ):
  gT enc P W spare held t fun d as=>(d=.nil/\as=[.Q 0 []])\/∃ds rest nb,d=.slice ds rest/\as=[.Q nb.length nb.flatten]/\Bz φ ds nb/\(∀i (h:i<nb.length),nb[i].length=P.cellsOf e)/\nb.length<=maxLen:=by
 intro fuel cs x h;rcases DataW.trod_slice ht h with ⟨rfl,rfl⟩|⟨a,len,cap,elems,rest,n,rfl,rfl,rfl,_,hl,hm,hlen,hel,_,_⟩
 ·exact⟨_,.one (.nz _ _),.inl ⟨rfl,rfl⟩⟩
 have hrow:∀i,i<len->∃p:List Value × List Zo,W.cells? 0 (a.add (i*P.cellsOf e)) (P.cellsOf e)=some p.1/\js P W p.2 p.1/\∃x,elems[i]?=some x/\φ x.1 p.2:=by
  intro i hi;have:=hel i hi;rw[UV V,U0]at this;obtain⟨cs,hc,hx⟩:=this;obtain⟨as,ha,hφ⟩:=he _ _ _ hx;exact⟨(cs,as),hc,ha,_,UV V,hφ⟩
 obtain⟨l,hll,hQ⟩:=By len hrow;have hzr:∀i (h:i<(l.map Prod.snd).length),(l.map Prod.snd)[i].length=P.cellsOf e:=by
  intro i h;simp only[Vh]at h;simp only[Ve];obtain⟨hc,hr,_⟩:=hQ i h;rw[<- hr.1];exact(World.cells?_some hc).2.1
 have hzc:∀i (h:i<(l.map Prod.fst).length),(l.map Prod.fst)[i].length=P.cellsOf e:=by
  intro i h;simp only[Vh]at h;simp only[Ve];exact(World.cells?_some (hQ i h).1).2.1
 refine⟨[.Q (l.map Prod.snd).length (l.map Prod.snd).flatten],.one ?_,.inr ⟨_,_,l.map Prod.snd,rfl,rfl,⟨by simp[hll,hlen],fun i h h'=>?_⟩,hzr,by simp only[Vh];omega⟩⟩
 ·rcases V6 len with h0|h0
  ·subst h0;obtain rfl:=U5 hll;exact .nz _ _
  have hrc:js P W (l.map Prod.snd).flatten (l.map Prod.fst).flatten:=Bx Zj fun i h h'=>by
   simp only[Vh]at h;simp only[Ve];exact(hQ i h).2.1
  have hla:(l.map Prod.snd).length=len:=by simp[hll]
  have hsp:∀i,i<len->∀j,j<P.cellsOf e->∃v,W.cell? ((a.add (i*P.cellsOf e)).add j)=some v/\(l.map Prod.fst).flatten[i*P.cellsOf e+j]?=some v:=by
   intro i hi j hj;obtain⟨hc,_⟩:=hQ i V;obtain⟨_,hcl,hcell⟩:=World.cells?_some hc;refine⟨(l[i]' V).1[j]' V,?_,?_⟩
   ·rw[hcell j hj,UV]
   ·rw[HJ hzc i j (by simp;omega) hj];simp only[Ve];rw[UV]
  have hspot:a.spot=none:=by
   obtain⟨v,hv,_⟩:=hsp 0 h0 0 hz;unfold World.cell? at hv;split at hv
   ·split at hv
    ·cases hv
    ·rename_i hs;simpa[Addr.add] using hs
   ·cases hv
  obtain⟨b,off,spot⟩:=a;simp only at hspot;subst hspot;have hadd:∀(b off n:Nat),(⟨b,off,none⟩:Addr).add n=⟨b,off+n,none⟩:=by
   intro b off n;unfold Addr.add;by_cases hn:n=0
   ·subst hn;simp
   ·simp[hn]
  have hlt:b<W.heap.size:=by
   obtain⟨v,hv,_⟩:=hsp 0 h0 0 hz;rw[hadd,hadd]at hv;unfold World.cell? at hv;rcases Vj b W.heap.size with h|h
   ·exact h
   ·rw[Wt h]at hv;cases hv
  rw[hla];refine .Q (AO b) hlt hl hrc.1 (fun i hi=>?_) fun i h h'=>hrc.2 i h h';have hlc:=HI hzc;simp only[Vh,hll]at hlc;have hi':i<len*P.cellsOf e:=V
  obtain⟨v,hv,hg⟩:=hsp (i / P.cellsOf e) (WL (by rw[Wr];exact hi')) (i % P.cellsOf e) (XB _ hz);have hdm:i / P.cellsOf e*P.cellsOf e+i % P.cellsOf e=i:=by rw[Wr];exact W7 _ _
  rw[hdm]at hg;rw[UV hi]at hg;rw[Option.some.inj hg,<- hv,hadd,hadd];congr 2;omega
 ·simp only[Vh]at h h';obtain⟨_,_,y,hy,hφ⟩:=hQ i h;simp only[Ve];rw[UV h']at hy;rw[Option.some.inj hy];exact hφ
def ur {fs:Array Field}{φ:Nat->DataW H->List Zo->Prop}(ht:P.underlying t=some (.struct fs))
  (hlay:∀cs:List Value,cs.length=P.cellsOf t->(fs.toList.map fun f=>(cs.drop f.offset).take (P.cellsOf f.type)).flatten=cs)
  (he:∀i (h:i<fs.size),gT enc P W spare held fs[i].type (φ i)):
  gT enc P W spare held t fun d as=>∃(ds:List (DataW H)) (nb:List (List Zo)),d=.agg ds/\as=nb.flatten/\ds.length=fs.size/\nb.length=fs.size/\∀i (h:i<nb.length) (h':i<ds.length),φ i ds[i] nb[i]:=by
 intro fuel cs x h;obtain⟨xs,m,rfl,rfl,hcl,hxl,hel⟩:=DataW.trod_struct ht h;have hrow:∀i,i<fs.size->∃as:List Zo,(∀h:i<fs.size,js P W as ((cs.drop fs[i].offset).take (P.cellsOf fs[i].type)))/\∃x,xs[i]?=some x/\φ i x.1 as:=by
  intro i hi;have:=hel i fs[i] (U6 hi);rw[UV V]at this;obtain⟨as,ha,hφ⟩:=he i hi _ _ _ this;exact⟨as,fun _=>ha,_,UV V,hφ⟩
 obtain⟨l,hll,hQ⟩:=By fs.size hrow;refine⟨l.flatten,?_,_,l,rfl,rfl,by simp[hxl],hll,fun i h h'=>?_⟩
 ·rw[<- hlay cs hcl];refine Bx (by simp[hll]) fun i h h'=>?_;simp only[Ve,V4];exact(hQ i h).1 (V)
 ·obtain⟨_,y,hy,hφ⟩:=hQ i h;simp only[Vh]at h';simp only[Ve];rw[UV h']at hy;rw[Option.some.inj hy];exact hφ
end Go.Hx
namespace Go.Hx
variable {P:Program} {G:Nat->Option (List Zo)} {H:Zn}
variable {cs:List Zo}{L:List Zu}{hi lo:Nat}{e:TypeId}{v:Zo}
def L1:(1=0)=False:=Zj
def L3 (l:List Zo)(i:Nat):nN (.nf l) i=l[i]?:=rfl
def L4 (cells:List Zo)(off:Nat):lT H (.ni cells off)=some (.ni cells off):=rfl
def L5 (id gen off:Nat):lT H (.O id gen off)=(H.na id gen).map fun _=>.O id gen off:=by
 simp only[lT]
def L6 (t:TypeId)(f:Nat)(id gen off:Nat):uC P H t f (.O id gen off)=(bL P t f).bind fun of=>(H.na id gen).map fun _=>.O id gen (off+of.1):=rfl
def L7 (t:TypeId)(f:Nat)(cells:List Zo)(off:Nat):uC P H t f (.ni cells off)=(bL P t f).bind fun of=>some (.ni cells (off+of.1)):=rfl
def dw (H:Zn)(L:List Zu)(e:TypeId)(lo hi:Nat)(v:Zo)(cs:List Zo):Prop :=
 (v=.lit (.slice none 0 0)/\cs=[])\/∃i g,lo<=i/\i<hi/\v=.U (H.A+i) g 0 cs.length 1/\L[i]?=some (.J g e cs)
def dw.nil :dw H L e lo hi (.lit (.slice none 0 0)) []:=.inl ⟨rfl,rfl⟩
def dw.ng {L':List Zu}{lo' hi':Nat}(h:dw H L e lo hi v cs)(hl:lo'<=lo)(hh:hi<=hi')(hk:∀i g,lo<=i->i<hi->L[i]?=some (.J g e cs)->L'[i]?=L[i]?):
  dw H L' e lo' hi' v cs:=by
 rcases h with h|⟨i,g,h1,h2,h3,h4⟩
 ·exact .inl h
 ·exact .inr ⟨i,g,V,V,h3,by rw[hk i g h1 h2 h4];exact h4⟩
def B1 {i g:Nat}(h:L[i]?=some (.J g e cs)):(ext H L).na (H.A+i) g=some (e,cs):=by
 have hi:i<L.length:=by
  rcases Vj i L.length with h'|h'
  ·exact h'
  ·rw[U3 h']at h;cases h
 rw[yg H L i g hi,h];simp[sG]
def L8 {t:TypeId}{x:Zo}{z:List Zo}(ht:P.underlying t=some (.slice e))(hz:P.cellsOf e=1)(hzero:bS P e=some z)(hx:x.one=true)
  (hb:(cs.length+1)*P.bytesOf e<=2 ^ 46/\cs.length+1<=2 ^ 46) (ho:dw H L e lo hi v cs) (hlo:lo<=L.length) (hhi:hi<=L.length):
  ∃v' L',bU P (ext H (L++[.J 0 e [x]])) (H.A+(L.length+1)) t t v (.U (H.A+L.length) 0 0 1 1)=some (v',ext H L')/\dw H L' e lo L'.length v' (cs++[x])/\L.length<=L'.length /\
   (∀k,k<L.length->(∀g n,v≠.U (H.A+k) g 0 n 1)->L'[k]?=L[k]?):=by
 have hsrc:dc (ext H (L++[.J 0 e [x]])) 1 (.U (H.A+L.length) 0 0 1 1)=some (1,[x]):=by
  unfold dc;have:=B1 (H:=H) (L:=L++[Zu.J 0 e [x]]) (i:=L.length) (g:=0) (e:=e) (cs:=[x]) Zj;simp[this]
 rcases ho with ⟨rfl,rfl⟩|⟨i,g,h1,h2,rfl,h4⟩
 ·refine⟨.U (H.A+(L.length+1)) 0 0 1 1,L++[.J 0 e [x]]++[.J 0 e [x]],?_,.inr ⟨L.length+1,0,V,Zj,Zj,Zj⟩,Zj,fun k hk _=>?_⟩
  ·unfold bU;rw[ht];simp only[hzero,hz,Option.bind_some,hsrc,L1,if_false];have h1:1*P.bytesOf e<=2 ^ 46/\1<=2 ^ 46:=(by simpa using hb);rw[UX h1,BK H _ (L.length+1) _ Zj];rfl
  ·rw[List.append_assoc,Vf hk]
 ·have hi':i<L.length:=V
  refine⟨.U (H.A+i) (g+1) 0 (cs.length+1) 1,(L++[Zu.J 0 e [x]]).set i (Zu.J (g+1) e (cs++[x])),?_,.inr ⟨i,g+1,h1,by simp;omega,Zj,?_⟩,Zj,fun k hk hne=>?_⟩
  ·unfold bU;rw[ht];simp only[hzero,hz,Option.bind_some,hsrc];have hl:=B1 (H:=H) (L:=L++[Zu.J 0 e [x]]) (i:=i) (g:=g) (e:=e) (cs:=cs) (by rw[Vf hi'];exact h4);simp only[hl,Option.bind_some];rw[UX ⟨trivial,trivial,V,hb.1,hb.2,by simp[hx]⟩];rw[yf H _ i _ (by simp;omega)];simp
  ·rw[Vi (by simp;omega)]
  ·have:i≠k:=(by rintro rfl;exact hne _ _ rfl);rw[Vw this,Vf hk]
def dw.fz {S:Nat->Prop}{cs':List Zo}{nx:Nat}(h:dw H L e lo hi v cs)(hS:∀i,S (H.A+i))(hl:cs'.length=cs.length)
  (hc:∀i (h:i<cs.length) (h':i<cs'.length),Fz S (ext H L) nx cs[i] cs'[i]):Fz S (ext H L) nx v (.Q cs'.length cs'):=by
 rcases h with ⟨rfl,rfl⟩|⟨i,g,_,_,rfl,h4⟩
 ·obtain rfl:=U5 hl;exact .nil
 ·rw[hl];have hi:i<L.length:=by
   rcases Vj i L.length with h'|h'
   ·exact h'
   ·rw[U3 h']at h4;cases h4
  refine .nA (hS i) (by rw[bO H L i hi];exact h4) V fun j hj h2 h'=>?_;simp only[Nat.zero_add]at h2 ⊢;exact hc j h2 h'
end Go.Hx
namespace Go.Hx
variable {P:Program} {G:Nat->Option (List Zo)} {H:Zn}
variable {ρ ρ':Env}{nb:List (List Zo)}{args cs cs':List Zo}{L L':List Zu}{d g hi id lo n nx:Nat}{S:Nat->Prop}{e e' e0 e1:TypeId}{H2:Zn}{u v v':Zo}
def yx (P:Program)(s d:TypeId)(x:Bool)(y:Option TypeDesc)(v:Zo):Option Zo :=
 if x=true then (match y,v with
  |some (.int k'),.lit (.int _ a)=>some (.lit (.int k' (k'.wrap a)))
  |_,_=>lQ P s d v) else lQ P s d v
def L9 (s d:TypeId)(v:Zo):lQ P s d v=yx P s d (P.underlying s).isSome (P.underlying d) v:=by
 unfold yx;split
 ·rename_i hs;split
  ·rename_i k' k a hd;exact JJ hs hd
  ·rfl
 ·rfl
def Ma (s d:TypeId)(k k':IntKind)(a:Int):yx P s d true (some (.int k')) (.lit (.int k a))=some (.lit (.int k' (k'.wrap a))):=rfl
def B2 (P:Program)(d:Option TypeDesc)(cells:List Zo)(i:Int):Option Zo:=match d with
 |some (.array n e)=>if 0<=i/\i<(n:Int) then iZ P e cells (i.toNat*P.cellsOf e) else none
 |_=>none
def Mb (t:TypeId)(cells:List Zo)(k:IntKind)(i:Int):oW P t (.agg cells) (.lit (.int k i))=B2 P (P.underlying t) cells i:=rfl
def Mc (n:Nat)(e:TypeId)(cells:List Zo)(i:Int):B2 P (some (.array n e)) cells i=if 0<=i/\i<(n:Int) then iZ P e cells (i.toNat*P.cellsOf e) else none:=rfl
def Md {k:IntKind}{a:Int}:qu P .neg (.lit (.int k a))=some (.lit (.int k (k.wrap (0-a)))):=JF rfl
def ag {c:List Zo}(h:H.get id=some (.J g e c)):H.na id g=some (e,c):=by
 unfold Zn.na;rw[h];simp
def aP (a:Nat)(x:Zu):(H.upd a x).A=H.A:=rfl
def eo (h:id<H.A):(ext H L).na id g=H.na id g:=by
 unfold Zn.na;rw[c9 H L id h]
def lX (H:Zn)(L:List Zu)(e1 e0:TypeId)(v:Zo)(nb:List (List Zo)):Prop :=
 ∃cs:List Zo,dw H L e1 0 L.length v cs/\cs.length=nb.length/\∀(j:Nat) (r:List Zo) (c:Zo),nb[j]?=some r->cs[j]?=some c->dw H L e0 0 L.length c r
theorem lX.nil :lX H L e1 e0 (.lit (.slice none 0 0)) []:=⟨[],.nil,rfl,fun j r c h=>by simp at h⟩
def dw.lt {i z:Nat}(h:dw H L e lo hi (.U (H.A+i) g 0 n z) cs):i<L.length/\L[i]?=some (.J g e cs)/\n=cs.length/\z=1:=by
 rcases h with ⟨h,_⟩|⟨j,g2,_,_,h3,h4⟩
 ·cases h
 ·have:=Zo.U.inj h3;obtain rfl:i=j:=V
  obtain⟨_,rfl,_,rfl,rfl⟩:=this;refine⟨?_,h4,rfl,rfl⟩;rcases Vj i L.length with h|h
  ·exact h
  ·rw[U3 h]at h4;cases h4
def dw.uP {lo' hi':Nat}(hv:dw H L e lo hi v cs)(hu:dw H L e' lo' hi' u cs')(hne:e≠e')(hh:hi'<=L.length)
  (hp:∀k,k<L.length->(∀g n,v≠.U (H.A+k) g 0 n 1)->L'[k]?=L[k]?):dw H L' e' lo' hi' u cs':=by
 refine hu.ng Zm Zm fun i g h1 h2 h3=>hp i V fun g' n he=>?_;rcases hv with ⟨rfl,_⟩|⟨j,g2,_,_,rfl,h4⟩
 ·cases he
 ·have hj:j=i:=by
   have:=Zo.U.inj he;omega
  subst hj;rw[h3]at h4;cases h4;exact hne rfl
def dw.nO (hv:dw H L e lo hi v cs):v.one=true:=by
 rcases hv with ⟨rfl,_⟩|⟨_,_,_,_,rfl,_⟩<;>rfl
def dw.gF (hv:dw H L e lo hi v cs):v.cells=[v]:=by
 rcases hv with ⟨rfl,_⟩|⟨_,_,_,_,rfl,_⟩<;>rfl
def dw.other {lo' hi':Nat}(hv:dw H L e lo hi v cs)(hu:dw H L e' lo' hi' u cs')(hne:e≠e')(hh:hi'<=L.length)
  (hp:∀k,k<L.length->(∀g n,v≠.U (H.A+k) g 0 n 1)->L'[k]?=L[k]?):dw H L' e' lo' hi' u cs':=hv.uP hu hne hh hp
theorem dw.one (hv:dw H L e lo hi v cs):v.one=true:=hv.nO
theorem dw.cells (hv:dw H L e lo hi v cs):v.cells=[v]:=hv.gF
theorem lX.ng (h:lX H L e1 e0 v nb)(hl:L.length<=L'.length)(hk:∀i,i<L.length->L'[i]?=L[i]?):lX H L' e1 e0 v nb:=by
 obtain⟨cs,c1,c2,c3⟩:=h;exact⟨cs,c1.ng Zm hl fun i _ _ hi _=>hk i hi,c2,fun j r c hr hc=>(c3 j r c hr hc).ng Zm hl fun i _ _ hi _=>hk i hi⟩
theorem lX.fz {rows':List (List Zo)}(h:lX H L e1 e0 v nb)(hS:∀i,S (H.A+i))(hl:rows'.length=nb.length)
  (hr:∀(j:Nat) (r r':List Zo),nb[j]?=some r->rows'[j]?=some r'->r'.length=r.length/\∀i (h:i<r.length) (h':i<r'.length),Fz S (ext H L) nx r[i] r'[i]):
  Fz S (ext H L) nx v (.Q rows'.length (rows'.map fun r=>.Q r.length r)):=by
 obtain⟨cs,h1,h2,h3⟩:=h;have:=h1.fz (S:=S) (nx:=nx) (cs':=rows'.map fun r=>.Q r.length r) hS (by simp[h2,hl]) fun i hi hi'=>by
  simp only[Ve];have hi2:i<nb.length:=V
  have hi3:i<rows'.length:=V
  obtain⟨a1,a2⟩:=hr i nb[i] rows'[i] (UV hi2) (UV hi3);exact(h3 i nb[i] cs[i] (UV hi2) (UV hi)).fz (S:=S) (nx:=nx) (cs':=rows'[i]) hS a1 a2
 rw[Vh]at this;exact this
def lX.app {x:Zo}{r:List Zo}{t:TypeId}{z:List Zo}(ht:P.underlying t=some (.slice e1))(hz:P.cellsOf e1=1)(hzero:bS P e1=some z)(hby:P.bytesOf e1=24)(hne:e1≠e0)
  (hb:nb.length<2 ^ 40) (h:lX H L e1 e0 v nb) (hx:dw H L e0 0 L.length x r):
  ∃v' L',bU P (ext H (L++[.J 0 e1 [x]])) (H.A+(L.length+1)) t t v (.U (H.A+L.length) 0 0 1 1)=some (v',ext H L')/\lX H L' e1 e0 v' (nb++[r])/\L.length<=L'.length:=by
 obtain⟨cs,h1,h2,h3⟩:=h;obtain⟨v',L',hA,hO,hL,hp⟩:=L8 (t:=t) ht hz hzero hx.nO (by rw[hby,h2];omega) h1 (Wo _) Zm;refine⟨v',L',hA,⟨cs++[x],hO,by simp[h2],fun j r' c hr hc=>?_⟩,hL⟩;have key:∀u l,dw H L e0 0 L.length u l->dw H L' e0 0 L'.length u l:=fun u l hu=>(h1.uP hu hne Zm hp).ng Zm hL fun _ _ _ _ _=>rfl;rcases Vj j nb.length with hj|hj
 ·rw[Vf hj]at hr;rw[Vf V]at hc;exact key _ _ (h3 j r' c hr hc)
 ·rw[VA hj]at hr;rw[VA V]at hc;have hj0:j-nb.length=0:=by
   rcases V6 (j-nb.length) with h|h
   ·exact h
   ·rw[U3 (by simp;omega)]at hr;cases hr
  have hj1:j-cs.length=0:=V
  rw[hj0]at hr;rw[hj1]at hc;cases hr;cases hc;exact key _ _ hx
def dY (H:Zn)(L L':List Zu):ext (ext H L) L'=ext H (L++L'):=by
 unfold ext;simp only[List.length_append];congr 1
 ·funext j
  by_cases h1:H.A+L.length<=j/\j<H.A+L.length+L'.length
  ·rw[UX h1,UX V,VA V];congr 1;omega
  ·rw[UW h1];by_cases h2:H.A<=j/\j<H.A+L.length
   ·rw[UX h2,UX V,Vf V]
   ·rw[UW h2,UW V]
 ·omega
structure Zs (H H2:Zn):Prop where
 A:H.A<=H2.A
 nc:∀id,id<H.A->H2.get id=H.get id
def Zs.refl (H:Zn):Zs H H:=⟨Zm,fun _ _=>rfl⟩
theorem Zs.trans {H H3:Zn}(a:Zs H H2)(b:Zs H2 H3):Zs H H3 :=
 ⟨VC a.A b.A,fun id h=>(b.nc id (U4 h a.A)).trans (a.nc id h)⟩
theorem Zs.ext (H:Zn)(L:List Zu):Zs H (ext H L):=⟨by simp[aV],fun id h=>c9 H L id h⟩
def ju (H:Zn)(n:Nat):Zn:=⟨fun j=>if j<H.A then H.get j else none,H.A+n⟩
def sQ (H:Zn)(n:Nat):(ju H n).A=H.A+n:=rfl
def yy {H:Zn}(h:id<H.A):(ju H n).get id=H.get id:=by simp[ju,h]
theorem Zs.ju (H:Zn)(n:Nat):Zs H (ju H n):=⟨by simp[sQ],fun id h=>yy h⟩
def Me {H:Zn}(hc:Z6 H)(ho:Zs H H2):Z7 (fun id=>H.A<=id) H2 H where
 gone id hs:=by
  cases h:H.get id with
  |none=>rfl
  |some b=>have:=hc.lt id b h;omega
 kept id b hs hb:=by
  have hlt:id<H.A:=V7 hs;rw[ho.nc id hlt]at hb;have hbb:=hc.below id b hb;refine⟨hlt,b,hb,?_⟩;have hno:∀i,i<H.A->¬H.A<=i:=fun i h=>Nat.not_le_of_lt h;cases b with
  |nr=>trivial
  |mp=>rfl
  |J g e cells=>exact⟨rfl,rfl,rfl,fun i h _=>.refl (hbb i h) hno⟩
  |loop st pend n env ps asg body=>exact⟨rfl,rfl,rfl,rfl,rfl,rfl,rfl,fun t ht=>.refl (hbb t ht) hno⟩
 none id hs hb:=by
  rw[ho.nc id (V7 hs)]at hb;exact hb
def aj.bH (hG:fu G)(hc:Z6 H)(ho:Zs H H2){K:Zt->Zn->Prop}(hv:Fz (fun id=>H.A<=id) H2 H.A v v')(hk:K (.ret v') H):aj P G H K v H2 :=
 ⟨v',H,.freeze hG (Me hc ho) hv,Zm,hk⟩
def Fz.nc {H:Zn}(h:Below H.A v)(hn:H.A<=nx):Fz (fun id=>H.A<=id) H2 nx v v:=by
 induction h with
 |lit v=>exact .lit v
 |Q _ ih=>exact .Q rfl fun i h _=>ih i h
 |ni _ ih=>exact .ni rfl fun i h _=>ih i h
 |agg _ ih=>exact .agg rfl fun i h _=>ih i h
 |nf _ ih=>exact .nf rfl fun i h _=>ih i h
 |Z _ _ ih1 ih2=>exact .Z rfl rfl (fun i h _=>ih1 i h) fun i h _=>ih2 i h
 |U h=>exact .U V (V)
 |O h=>exact .O V (V)
 |np h=>exact .np V (V)
def Mf {H:Zn}(hc:Z6 H)(ho:Zs H H2):Z7 (fun id=>H.A<=id) H2 (ju H (H2.A-H.A)) where
 gone id hs:=by simp[ju,Nat.not_lt.2 hs]
 kept id b hs hb:=by
  have hlt:id<H.A:=V7 hs;rw[ho.nc id hlt]at hb;have hbb:=hc.below id b hb;refine⟨by rw[sQ];omega,b,by rw[yy hlt];exact hb,?_⟩;cases b with
  |nr=>trivial
  |mp=>rfl
  |J g e cells=>exact⟨rfl,rfl,rfl,fun i h _=>.nc (hbb i h) (by rw[sQ];omega)⟩
  |loop st pend n env ps asg body=>exact⟨rfl,rfl,rfl,rfl,rfl,rfl,rfl,fun t ht=>.nc (hbb t ht) (by rw[sQ];omega)⟩
 none id hs hb:=by
  have hlt:=V7 hs;rw[ho.nc id hlt]at hb;rw[yy hlt];exact hb
def W.Mg {rd:Option Nat}{Q:AX->St->Prop}{c:Code}{H:Zn}(hG:fu G)(hc:Z6 H)(ho:Zs H H2)(hv:∀t,Fz (fun id=>H.A<=id) H2 H2.A (ρ t) (ρ' t))
  (hri:fG (ju H (H2.A-H.A)) rd) (h:W P G n rd c Q ⟨ρ',ju H (H2.A-H.A)⟩):W P G n rd c Q ⟨ρ,H2⟩:=by
 have hnx:(ju H (H2.A-H.A)).A=H2.A:=by rw[sQ];have:=ho.A;omega
 refine W.Bq (s:=⟨ρ,H2⟩) (s':=⟨ρ',ju H (H2.A-H.A)⟩) (eP.freeze hG (Mf hc ho) fun t=>?_) (Nat.le_of_eq hnx.symm) hri h;show Fz _ H2 (ju H (H2.A-H.A)).A _ _;rw[hnx];exact hv t
def Fz.put {H:Zn}(h:∀t,Fz S H nx (ρ t) (ρ' t))(hv:Fz S H nx v v'):∀t,Fz S H nx (aI ρ (some d) v t) (aI ρ' (some d) v' t):=by
 intro t;simp only[aI];split
 ·exact hv
 ·exact h t
def Fz.Mh {H:Zn}(hv:Fz S H nx v v')(h:∀t,Fz S H nx (ρ t) (ρ' t)):∀t,Fz S H nx (aI ρ (some d) v t) (aI ρ' (some d) v' t):=.put h hv
def Fz.aZ {H:Zn}(nb:List (List Int)):Fz S H nx (.Q nb.length (nb.map af)) (.Q nb.length (nb.map af)) :=
 .Q rfl fun i h _=>by simp only[Ve];exact .dW _
def Fz.env {H:Zn}{args':List Zo}(hl:args'.length=args.length)(h:∀i (h:i<args.length) (h':i<args'.length),Fz S H nx args[i] args'[i]):∀t,Fz S H nx (dC args t) (dC args' t):=by
 intro t;rw[yd,yd];by_cases ht:t<args.length
 ·rw[UV ht,UV V];exact h t ht (V)
 ·rw[U3 V,U3 V];exact .lit _
def Fz.Mi {H:Zn}(h:∀v,v∈args->Below H.A v)(hn:H.A<=nx):∀t,Fz (fun id=>H.A<=id) H2 nx (dC args t) (dC args t) :=
 .env rfl fun i hi _=>.nc (h _ (VU _)) hn
end Go.Hx
namespace Go.Hx
open Go.ChangeShapes Go.WideShapes Go.RowKit
variable {P:Program} {W:World} {H:Type} {enc:TypeId × Value->H} {spare:Nat->Bool} {held:Bool}
variable {d:DataW H}{φ:DataW H->List Zo->Prop}{k:IntKind}{ps:List MemPlace}{b:Nat}{r:Reach}{α:Type}{t:TypeId}{v:Value}
def gT.mono {ψ:DataW H->List Zo->Prop}(h:gT enc P W spare held t φ)(hm:∀d as,φ d as->ψ d as):gT enc P W spare held t ψ:=fun fuel cs x hx =>
 let ⟨as,h1,h2⟩:=h fuel cs x hx;⟨as,h1,hm _ _ h2⟩
def uu (k:IntKind)(l:List Int):List Zo:=l.map fun n=>.lit (.int k n)
def BB {f:α->List Zo}{q:α->Prop}(hφ:∀d as,φ d as->∃a,as=f a/\q a):∀ {nb:List (List Zo)} {ds:List (DataW H)},Bz φ ds nb ->
  ∃l:List α,nb=l.map f/\∀a,a∈l->q a:=by
 intro nb
 induction nb with
 |nil=>intro ds _;exact⟨[],rfl,fun a h=>by cases h⟩
 |cons r nb ih =>
  intro ds h;obtain⟨h1,h2⟩:=h;cases ds with
  |nil=>simp at h1
  |cons d ds =>
   obtain⟨a,ha,hq⟩:=hφ _ _ (h2 0 Zj Zj);obtain⟨l,hl,hq2⟩:=ih (ds:=ds) ⟨by simpa using h1,fun i hi hi'=>h2 (i+1) (by simpa using hi) (by simpa using hi')⟩;refine⟨a :: l,by simp only[List.map_cons,<- hl];simp only[VR]at ha;rw[ha],fun b hb=>?_⟩;rcases List.mem_cons.1 hb with rfl|hb
   ·exact hq
   ·exact hq2 b hb
def HK {β:Type}(f:α->β)(l:List α):(l.map fun a=>[f a]).flatten=l.map f:=by
 induction l with
 |nil=>rfl
 |cons a l ih=>simp only[List.map_cons,List.flatten_cons,ih];rfl
def x7 {e:TypeId}(ht:P.underlying t=some (.slice e))(he:P.underlying e=some (.int k))(hc:P.cellsOf e=1):
  gT enc P W spare held t fun _ as=>∃l:List Int,as=[.Q l.length (uu k l)]/\l.length<=maxLen/\∀c,c∈l->(Lit.int k c).wf=true :=
 (BA ht V (ph he)).mono fun d as h=>by
  rcases h with ⟨_,rfl⟩|⟨ds,rest,nb,_,rfl,hr,_,hl⟩
  ·exact⟨[],rfl,Zk,fun c h=>by cases h⟩
  ·obtain⟨l,rfl,hq⟩:=BB (f:=fun n=>[Zo.lit (.int k n)]) (q:=fun n=>(Lit.int k n).wf=true) (fun d as ⟨n,_,h2,h3⟩=>⟨n,h2,h3⟩) hr;refine⟨l,?_,by simpa using hl,hq⟩;rw[Vh];congr 2;exact HK _ l
def HL (hop:gT enc P W spare held t φ)
  (ht:(∃fs,P.underlying t=some (.struct fs))\/∃n e,P.underlying t=some (.array n e)) (hval:Value.okWide P W r b t v) (hd:DataW.Trod enc P W 0 spare held t v d ps):
  ∃as,Zr P ka cW W (.agg as) v/\φ d as:=by
 obtain⟨cs,rfl⟩:∃cs,v=.agg cs:=by
  unfold Value.okWide at hval;rcases ht with ⟨fs,ht⟩|⟨n,e,ht⟩
  ·rw[ht]at hval;obtain⟨cs,h,_⟩:=hval;exact⟨cs,h⟩
  ·rw[ht]at hval;obtain⟨cs,h,_⟩:=hval;exact⟨cs,h⟩
 obtain⟨fuel,hf⟩:=hd;obtain⟨as,hr,hφ⟩:=hop _ _ _ hf;refine⟨as,?_,hφ⟩;have:=Zr.agg (P:=P) (Γ:=ka) (H:=cW) (w:=W) (cells:=as) (cs:=cs.toList) hr.1 hr.2;simpa using this
def HM {ψ:Zo->Prop}(hop:gT enc P W spare held t φ)(h1:∀d as,φ d as->∃a,as=[a]/\ψ a)
  (hno:∀cs,¬Value.okWide P W r b t (.agg cs)) (hval:Value.okWide P W r b t v) (hd:DataW.Trod enc P W 0 spare held t v d ps):∃a,Zr P ka cW W a v/\ψ a:=by
 have hc:v.cells.toList=[v]:=by
  cases v with
  |agg cs=>exact absurd hval (hno cs)
  |_=>rfl
 obtain⟨fuel,hf⟩:=hd;rw[hc]at hf;obtain⟨as,hr,hφ⟩:=hop _ _ _ hf;obtain⟨a,rfl,hψ⟩:=h1 _ _ hφ;exact⟨a,hr.2 0 Zj Zj,hψ⟩
def HN (ht:P.underlying t=some (.int k))(cs:Array Value):¬Value.okWide P W r b t (.agg cs):=fun h=>by
 obtain⟨n,hn⟩:=okWide_int ht h;cases hn
def x8 (ht:P.underlying t=some (.int k))(hval:Value.okWide P W r b t v)(hd:DataW.Trod enc P W 0 spare held t v d ps):
  ∃n,Zr P ka cW W (.lit (.int k n)) v/\(Lit.int k n).wf=true:=by
 obtain⟨a,h1,n,rfl,h2⟩:=HM (ψ:=fun a=>∃n,a=.lit (.int k n)/\(Lit.int k n).wf=true) (ph ht) (fun d as ⟨n,_,h2,h3⟩=>⟨_,h2,n,rfl,h3⟩) (HN ht) hval hd;exact⟨n,h1,h2⟩
def wf_u8 {n:Int}(h:(Lit.int .u8 n).wf=true):0<=n/\n<=255:=by
 simpa[Lit.wf,IntKind.min,IntKind.max,IntKind.signed,IntKind.bits] using h
end Go.Hx
namespace Go.Hx
attribute [go_sem] List.replicate_one List.flatten_cons List.flatten_nil List.length_append List.append_nil Nat.sub_zero Bool.not_true Bool.not_false
attribute [go_sem] Bool.true_eq_false List.map_eq_nil_iff yj Int.le_refl decide_true decide_false eq_self List.getElem?_map
attribute [go_sem] Ip Iq Ir Is It Iu Iv Iw
attribute [go_sem] Ix Iy Iz IA IC IB ID IE
attribute [go_sem] IF IG IH II Ie If Ig Ih
attribute [go_sem] Ii Ij Ik Il Im Io noGoto_normal noGoto_exit
attribute [go_sem] noGoto_ret noGoto_panic nX sF yc iy BI HZ
attribute [go_sem] Ia IS IT JR JN JO JP JQ
attribute [go_sem] List.getElem?_toArray Option.bind_some JS JT JU JV JW JX
attribute [go_sem] JY JZ J0 J1 J2 J3 J4 J5
attribute [go_sem] J6 J7 J8 J9 Ka Kc Kd Ke
attribute [go_sem] Kf Kg Kh Ki Kj KS qK KT
attribute [go_sem] KU KV BV KW KX KY KZ K0
attribute [go_sem] K2 K3 K4 K5 K6 K7 K8 List.set_cons_zero
attribute [go_sem] List.set_cons_succ K9 La Lb Lc Ld Le Lf
attribute [go_sem] Lg Lh Li Lj Lk Ll Lm Ln
attribute [go_sem] Lo Lp Lq Lr Ls Lt Lu
attribute [go_sem] sP yt Lv Lw Lx Ly Lz
attribute [go_sem] LA BX BY LB LC LD LF LG
attribute [go_sem] LH LI LJ LK LL LM LN LO
attribute [go_sem] LP LR LS LU LV LW LX LY
attribute [go_sem] LZ gX bG aa Int.toNat_natCast Int.natCast_nonneg af List.all_cons
attribute [go_sem] List.all_nil Bool.and_true Nat.mul_one Kk Kl Km Ko Kp
attribute [go_sem] Kq Kr Ks Kt Ku Kv Kw
attribute [go_sem] Ky Kz KB KA
attribute [go_sem] KC KD KE KF List.take_succ_cons List.take_zero
attribute [go_sem] List.take_nil List.drop_succ_cons List.drop_zero List.drop_nil List.forall_mem_cons List.not_mem_nil List.mem_cons List.mem_singleton
attribute [go_sem] or_false false_or or_true true_or not_or false_implies implies_true forall_const
attribute [go_sem] IW IX IY IZ I0 I1 I3 I4
attribute [go_sem] I5 I6 I7 I9 Ja Jb Jc Jd
attribute [go_sem] Je Jf Jg Jh Ji Bool.false_eq_true Jj Jk
attribute [go_sem] Jl Jm Jn Jo Jp Jq Jr
attribute [go_sem] Js Jt builtin_len builtin_append builtin_copy builtin_min builtin_max Ju
attribute [go_sem] Jv Jw Jx Jy Jz JA JB JC
attribute [go_sem] JD JE JG aV uE ye BK yg
attribute [go_sem] JL yf JM JK List.map_cons List.map_nil if_true if_false
attribute [go_sem] ne_eq not_false_eq_true not_true_eq_false true_and and_true false_and and_false List.length_cons
attribute [go_sem] List.length_nil Nat.zero_add Nat.add_zero Option.isSome_some List.append_assoc List.cons_append List.nil_append Option.map_some
attribute [go_sem] Option.map_none fG yd List.getElem?_cons_zero List.getElem?_cons_succ List.getElem?_nil Option.getD_some Option.getD_none
attribute [go_sem] IJ IK IL IM IN IP IQ IR
attribute [go_sem] L3 L4 L5 Int.natCast_zero Int.cast_ofNat_Int Mb Mc
attribute [go_sem] JH JI L9 Ma Md L6 L7 bh Nat.le_refl
end Go.Hx
namespace Go.Hx
variable {P:Program} {G:Nat->Option (List Zo)} {H H':Zn}
variable {f:FuncId}{nb:List (List Zo)}{args args' cs cs' z:List Zo}{id lo lo' n nx:Nat}{S:Nat->Prop}{e e0 e1 t:TypeId}{v x:Zo}{b:Zu}
def Zn.cut (H:Zn)(n:Nat):Zn:=⟨fun j=>if j<n then H.get j else none,H.A⟩
def uQ (h:id<n):(H.cut n).get id=H.get id:=by simp[Zn.cut,h]
def Mj (h:n<=id):(H.cut n).get id=none:=by simp[Zn.cut,Nat.not_lt.2 h]
theorem Zs.cut {B:Zn}(h:Zs B H):Zs B (H.cut B.A):=⟨h.A,fun id hi=>(uQ hi).trans (h.nc id hi)⟩
open Classical in
def Fz.dead {H:Zn}(h:Below nx v):Fz S H nx v v:=by
 induction h with
 |lit v=>exact .lit v
 |Q _ ih=>exact .Q rfl fun i h _=>ih i h
 |ni _ ih=>exact .ni rfl fun i h _=>ih i h
 |agg _ ih=>exact .agg rfl fun i h _=>ih i h
 |nf _ ih=>exact .nf rfl fun i h _=>ih i h
 |Z _ _ ih1 ih2=>exact .Z rfl rfl (fun i h _=>ih1 i h) fun i h _=>ih2 i h
 | @U id _ _ _ _ h=>by_cases hs:S id;exact .deadOwn h hs;exact .U h hs
 | @O id _ _ h=>by_cases hs:S id;exact .deadPtr h hs;exact .O h hs
 | @np id h=>by_cases hs:S id;exact .deadYld h hs;exact .np h hs
def Mk (hc:Z6 H)(n:Nat):Z7 (fun id=>n<=id) H (H.cut n) where
 gone id hs:=Mj hs
 kept id b hs hb:=by
  have hlt:id<n:=V7 hs;have hbb:=hc.below id b hb;refine⟨hc.lt id b hb,b,by rw[uQ hlt];exact hb,?_⟩;cases b with
  |nr=>trivial
  |mp=>rfl
  |J g e cells=>exact⟨rfl,rfl,rfl,fun i h _=>.dead (hbb i h)⟩
  |loop st pend n env ps asg body=>exact⟨rfl,rfl,rfl,rfl,rfl,rfl,rfl,fun t ht=>.dead (hbb t ht)⟩
 none id hs hb:=by rw[uQ (V7 hs)];exact hb
variable {K:Zt->Zn->Prop}
def ae.lY (n:Nat)(hG:fu G)(hl:args'.length=args.length)(hv:∀i (h:i<args.length) (h':i<args'.length),Fz (fun id=>n<=id) H H.A args[i] args'[i])
  (h:ae P G f args' (H.cut n) K):ae P G f args H K:=by
 refine⟨h.1,fun Γ w cargs R hr=>?_⟩;have F:=Mk R.Z n;have R0:=F.rel hG R;have E0:Zy Γ H w (gD (fun id=>n<=id) Γ) (H.cut n) w:=F.aY;refine(h.2 _ w cargs R0 ⟨by have:=hr.1;omega,fun i h1 h2=>(hv i V h1).sound R F (hr.2 i V h2)⟩).mono ?_;rintro e w' ⟨r,H',Γ',h1,h2,h3,h4,h5⟩;exact⟨r,H',Γ',h1,h2,h3,E0.trans Zm h4,h5⟩
theorem ao.lY (n:Nat)(hG:fu G)(hl:args'.length=args.length)(hv:∀i (h:i<args.length) (h':i<args'.length),Fz (fun id=>n<=id) H H.A args[i] args'[i])
  (h:ae P G f args' (H.cut n) K):ao P G (.Z f [] []) args H K:=by
 refine ao.Z (by simpa using ae.lY n hG hl hv h)
def aJ (lo:Nat)(H:Zn)(e:TypeId)(v:Zo)(cs:List Zo):Prop :=
 (v=.lit (.slice none 0 0)/\cs=[])\/∃id g,lo<=id/\id<H.A/\v=.U id g 0 cs.length 1/\H.get id=some (.J g e cs)
def aJ.nil :aJ lo H e (.lit (.slice none 0 0)) []:=.inl ⟨rfl,rfl⟩
def aJ.ng (h:aJ lo H e v cs)(hl:lo'<=lo)(hn:H.A<=H'.A)(hk:∀id g,lo<=id->id<H.A->H.get id=some (.J g e cs)->v=.U id g 0 cs.length 1->H'.get id=H.get id):aJ lo' H' e v cs:=by
 rcases h with h|⟨id,g,h1,h2,h3,h4⟩
 ·exact .inl h
 ·exact .inr ⟨id,g,V,V,h3,by rw[hk id g h1 h2 h4 h3];exact h4⟩
def aJ.over (h:aJ lo H e v cs)(ho:Zs H H'):aJ lo H' e v cs:=h.ng Zm ho.A fun id _ _ h2 _ _=>ho.nc id h2
theorem aJ.one (h:aJ lo H e v cs):v.one=true:=by
 rcases h with ⟨rfl,_⟩|⟨_,_,_,_,rfl,_⟩<;>rfl
theorem aJ.cells (h:aJ lo H e v cs):v.cells=[v]:=by
 rcases h with ⟨rfl,_⟩|⟨_,_,_,_,rfl,_⟩<;>rfl
def aJ.fz (h:aJ lo H e v cs)(hS:∀i,lo<=i->S i)(hl:cs'.length=cs.length)
  (hc:∀i (h:i<cs.length) (h':i<cs'.length),Fz S H nx cs[i] cs'[i]):Fz S H nx v (.Q cs'.length cs'):=by
 rcases h with ⟨rfl,rfl⟩|⟨id,g,h1,_,rfl,h4⟩
 ·obtain rfl:=U5 hl;exact .nil
 ·rw[hl];refine .nA (hS id h1) h4 V fun j hj h2 h'=>?_;simp only[Nat.zero_add]at h2 ⊢;exact hc j h2 h'
def aJ.iz {l:List Int}(h:aJ lo H e v (ints l))(hS:∀i,lo<=i->S i):Fz S H nx v (af l):=by
 have:=h.fz (S:=S) (nx:=nx) (cs':=ints l) hS rfl fun i hi _=>by simp only[ints,Ve];exact .lit _
 rw[bG]at this;exact this
def aJ.new :aJ H.A (ext H [.J 0 e cs]) e (.U H.A 0 0 cs.length 1) cs :=
 .inr ⟨H.A,0,Zm,by simp[aV],rfl,by simpa using bO H [.J 0 e cs] 0 Zj⟩
def dz (h:id<H.A):(ext H [b]).get id=H.get id:=c9 H [b] id h
def dZ :(ext H [b]).get H.A=some b:=by simpa using bO H [b] 0 (Zj)
def uR (h:n=H.A):H.lay n b=some (ext H [b]):=by subst h;exact uE H b
def uS {src:List Zo}(ht:P.underlying t=some (.slice e))(hz:P.cellsOf e=1)(hzero:bS P e=some z)(hx:src.all Zo.one=true)
  (hb:(cs.length+src.length)*P.bytesOf e<=2 ^ 46/\cs.length+src.length<=2 ^ 46) (ho:aJ lo H e v cs) (hlo:lo<=H.A) (hn:n=H.A):
  ∃v' H',bU P H n t t v (.Q src.length src)=some (v',H')/\aJ lo H' e v' (cs++src)/\H.A<=H'.A/\(∀k,k<H.A->(∀g n,v≠.U k g 0 n 1)->H'.get k=H.get k):=by
 have hsrc:dc H 1 (.Q src.length src)=some (src.length,src):=by
  unfold dc;simp
 by_cases h0:src.length=0
 ·have e0:src=[]:=U5 h0;subst e0;refine⟨v,H,?_,?_,Zm,fun _ _ _=>rfl⟩
  ·rcases ho with ⟨rfl,rfl⟩|⟨i,g,h1,h2,rfl,h4⟩
   ·unfold bU;rw[ht];simp only[hzero,hz,Option.bind_some];rw[hsrc];rfl
   ·unfold bU;rw[ht];have hl:=ag h4;simp only[hzero,hz,Option.bind_some,hsrc,hl];rw[UX ⟨trivial,trivial,V,hb.1,hb.2,rfl⟩];simp
  ·rw[List.append_nil];exact ho
 rcases ho with ⟨rfl,rfl⟩|⟨i,g,h1,h2,rfl,h4⟩
 ·refine⟨.U H.A 0 0 src.length 1,ext H [.J 0 e src],?_,.inr ⟨H.A,0,hlo,by simp[aV],Zj,by simpa using dZ⟩,by simp[aV],fun k hk _=>dz hk⟩;unfold bU;rw[ht];simp only[hzero,hz,Option.bind_some,hsrc];rw[UW h0,UX (by simpa using hb),uR hn,hn];rfl
 ·refine⟨.U i (g+1) 0 (cs.length+src.length) 1,H.upd i (.J (g+1) e (cs++src)),?_,.inr ⟨i,g+1,h1,h2,Zj,by rw[ah,UX rfl]⟩,Zm,fun k hk hne=>?_⟩
  ·unfold bU;rw[ht];have hl:=ag h4;simp only[hzero,hz,Option.bind_some,hsrc,hl];rw[UX ⟨trivial,trivial,V,hb.1,hb.2,hx⟩,UW h0];simp
  ·rw[ah,UW];rintro rfl;exact hne _ _ rfl
def jL (ht:P.underlying t=some (.slice e))(hz:P.cellsOf e=1)(hzero:bS P e=some z)(hx:x.one=true)
  (hb:(cs.length+1)*P.bytesOf e<=2 ^ 46/\cs.length+1<=2 ^ 46) (ho:aJ lo H e v cs) (hlo:lo<=H.A) (hn:n=H.A+1):
  ∃v' H',bU P (ext H [.J 0 e [x]]) n t t v (.U H.A 0 0 1 1)=some (v',H')/\aJ lo H' e v' (cs++[x])/\H.A<=H'.A/\(∀k,k<H.A->(∀g n,v≠.U k g 0 n 1)->H'.get k=H.get k):=by
 have hsrc:dc (ext H [.J 0 e [x]]) 1 (.U H.A 0 0 1 1)=some (1,[x]):=by
  unfold dc;have:=ag (H:=ext H [.J 0 e [x]]) (g:=0) (dZ (b:=.J 0 e [x]));simp[this]
 have hne:(ext H [Zu.J 0 e [x]]).A=H.A+1:=rfl;rcases ho with ⟨rfl,rfl⟩|⟨i,g,h1,h2,rfl,h4⟩
 ·refine⟨.U (H.A+1) 0 0 1 1,ext (ext H [.J 0 e [x]]) [.J 0 e [x]],?_,.inr ⟨H.A+1,0,V,by simp[aV],Zj,?_⟩,by simp[aV];omega,fun k hk _=>?_⟩
  ·unfold bU;rw[ht];simp only[hzero,hz,Option.bind_some,hsrc];rw[UW Zk,UX (by simpa using hb),uR (by rw[hn,hne]),hn];rfl
  ·rw[<- hne];exact dZ
  ·rw[dz (by rw[hne];omega),dz hk]
 ·have h4':(ext H [.J 0 e [x]]).get i=some (.J g e cs):=by rw[dz h2];exact h4
  refine⟨.U i (g+1) 0 (cs.length+1) 1,(ext H [.J 0 e [x]]).upd i (.J (g+1) e (cs++[x])),?_,.inr ⟨i,g+1,h1,by rw[aP,hne];omega,Zj,by rw[ah,UX rfl]⟩,by rw[aP,hne];omega,fun k hk hne=>?_⟩
  ·unfold bU;rw[ht];have hl:=ag h4';simp only[hzero,hz,Option.bind_some,hsrc,hl];rw[UX ⟨trivial,trivial,V,hb.1,hb.2,by simp[hx]⟩];simp
  ·rw[ah,UW,dz hk];rintro rfl;exact hne _ _ rfl
def jM (lo:Nat)(H:Zn)(e1 e0:TypeId)(v:Zo)(nb:List (List Zo)):Prop :=
 ∃cs:List Zo,aJ lo H e1 v cs/\cs.length=nb.length/\∀(j:Nat) (r:List Zo) (c:Zo),nb[j]?=some r->cs[j]?=some c->aJ lo H e0 c r
theorem jM.nil :jM lo H e1 e0 (.lit (.slice none 0 0)) []:=⟨[],.nil,rfl,fun j r c h=>by simp at h⟩
theorem jM.over (h:jM lo H e1 e0 v nb)(ho:Zs H H'):jM lo H' e1 e0 v nb:=by
 obtain⟨cs,c1,c2,c3⟩:=h;exact⟨cs,c1.over ho,c2,fun j r c hr hc=>(c3 j r c hr hc).over ho⟩
theorem jM.fz {rows':List (List Zo)}(h:jM lo H e1 e0 v nb)(hS:∀i,lo<=i->S i)(hl:rows'.length=nb.length)
  (hr:∀(j:Nat) (r r':List Zo),nb[j]?=some r->rows'[j]?=some r'->r'.length=r.length/\∀i (h:i<r.length) (h':i<r'.length),Fz S H nx r[i] r'[i]):
  Fz S H nx v (.Q rows'.length (rows'.map fun r=>.Q r.length r)):=by
 obtain⟨cs,h1,h2,h3⟩:=h;have:=h1.fz (S:=S) (nx:=nx) (cs':=rows'.map fun r=>.Q r.length r) hS (by simp[h2,hl]) fun i hi hi'=>by
  simp only[Ve];have hi2:i<nb.length:=V
  have hi3:i<rows'.length:=V
  obtain⟨a1,a2⟩:=hr i nb[i] rows'[i] (UV hi2) (UV hi3);exact(h3 i nb[i] cs[i] (UV hi2) (UV hi)).fz (S:=S) (nx:=nx) (cs':=rows'[i]) hS a1 a2
 rw[Vh]at this;exact this
def aJ.uP {e':TypeId}{u:Zo}(hv:aJ lo H e v cs)(hu:aJ lo' H e' u cs')(hne:e≠e')(hn:H.A<=H'.A)
  (hp:∀k,k<H.A->(∀g n,v≠.U k g 0 n 1)->H'.get k=H.get k):aJ lo' H' e' u cs':=by
 refine hu.ng Zm hn fun i g h1 h2 h3 _=>hp i h2 fun g' n he=>?_;rcases hv with ⟨rfl,_⟩|⟨j,g2,_,_,rfl,h4⟩
 ·cases he
 ·have:=Zo.U.inj he;obtain rfl:j=i:=this.1;rw[h3]at h4;cases h4;exact hne rfl
def jM.app {r:List Zo}(ht:P.underlying t=some (.slice e1))(hz:P.cellsOf e1=1)(hzero:bS P e1=some z)(hby:P.bytesOf e1=24)(hne:e1≠e0)
  (hb:nb.length<2 ^ 40) (h:jM lo H e1 e0 v nb) (hlo:lo<=H.A) (hx:aJ lo H e0 x r) (hn:n=H.A+1):
  ∃v' H',bU P (ext H [.J 0 e1 [x]]) n t t v (.U H.A 0 0 1 1)=some (v',H')/\jM lo H' e1 e0 v' (nb++[r])/\H.A<=H'.A/\(∀k,k<H.A->k<lo->H'.get k=H.get k):=by
 obtain⟨cs,h1,h2,h3⟩:=h;obtain⟨v',H',hA,hO,hL,hp⟩:=jL (t:=t) ht hz hzero hx.one (by rw[hby,h2];omega) h1 hlo hn;refine⟨v',H',hA,⟨cs++[x],hO,by simp[h2],fun j r' c hr hc=>?_⟩,hL,fun k hk hkl=>hp k hk fun g n he=>?_⟩
 ·have key:∀u l,aJ lo H e0 u l->aJ lo H' e0 u l:=fun u l hu=>h1.uP hu hne hL hp;rcases Vj j nb.length with hj|hj
  ·rw[Vf hj]at hr;rw[Vf V]at hc;exact key _ _ (h3 j r' c hr hc)
  ·rw[VA hj]at hr;rw[VA V]at hc;have hj0:j-nb.length=0:=by
    rcases V6 (j-nb.length) with h|h
    ·exact h
    ·rw[U3 (by simp;omega)]at hr;cases hr
   have hj1:j-cs.length=0:=V;rw[hj0]at hr;rw[hj1]at hc;cases hr;cases hc;exact key _ _ hx
 ·rcases h1 with ⟨rfl,_⟩|⟨i,g2,a1,_,rfl,_⟩
  ·cases he
  ·have:=Zo.U.inj he;omega
attribute [go_sem] Int.reduceToNat Int.reduceLE Int.reduceLT Int.reduceAdd Int.reduceSub Int.reduceMul Int.reduceEq Int.reduceNe Nat.reduceEqDiff Nat.reducePow Nat.reduceDiv Nat.reduceMod Nat.reduceAdd Nat.reduceMul Nat.reduceSub Nat.reduceLT Nat.reduceLeDiff reduceIte reduceCtorEq
end Go.Hx
