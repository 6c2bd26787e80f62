/-
  A function that defers one call, of a function that recovers. Own work: no program stands in this text.
-/
import Derived.Test.YtjhbjbninamhnaaGreatLibB
import Derived.RecoverIn
import Derived.MakeChecks
import Derived.OpenShut
set_option linter.all false
namespace Go.Hx
variable {P:Program} {G:Nat->Option (List AVal)} {Γ Γ':aE} {H H':AHeap} {w w':World}
theorem put_defers (a:Act)(d:Option Tmp)(v:Value):(a.put d v).defers=a.defers:=by cases d<;>rfl
section
variable {n:Nat} {wb:Base} {rd rb:Option Nat} {Q:AX->St->Prop}
theorem ED {id:Nat}{dr:Bool}{all:Array Oper}{ds:List Deferred}(hfit:∀ o,o∈all.toList->eD n o=true):∀ (is:List Nat) (s:St) (Γ:aE) (a:Act) (w:World),(∀ i,i∈is->i<all.size) ->
  opsV P G rd Q all (is.filterMap fun i=>all[i]?) s->RelS P G n wb Γ s a w->dJ Γ s.H rd rb->a.defers=ds ->
  ∀ (Q':Exit->Act->World->Prop),(∀ e a' w',hJ P G n wb rd rb (wr (.region id all dr)) Γ s.H a w Q e a' w'->a'.defers=ds->Q' e a' w')->wpOpsIn (dQ rb) 0 P all Q' is a w:=by
 intro is
 induction is with
 | nil =>
  intro s Γ a w _ h hs hr hd Q' hq;exact hq _ _ _ (.here (x:=.normal) trivial h hs hr) hd
 | cons i is ih =>
  intro s Γ a w hi h hs hr had Q' hq;have hlt:=hi i (by simp);have ho:all[i]?=some all[i]:=Array.getElem?_eq_getElem hlt;simp only[List.filterMap_cons,ho]at h;unfold wpOpsIn;rw[ho];simp only;obtain⟨t,ht,h⟩:=h;rw[oH hs ht];have hd:=hfit all[i] (by simp);cases t with
  | true =>
   simp only[if_true]at h ⊢;refine wL hd hs hr h ?_ ?_
   ·rintro Γ' s' a' w' hk hs' E hn hr' ⟨cv,rfl⟩;exact ih s' Γ' _ w' (fun j hj=>hi j (by simp [hj])) hk hs' hr' (by rw[put_defers];exact had) Q' fun e a'' w'' hp hdd=>hq _ _ _ (hp.step E hn (nk hlt cv) fun _ h=>h) hdd
   ·rintro Γ' s' a' w' chain hp hc hs' E hn hr' rfl;exact hq _ _ _ ⟨.panic,s',Γ',hc,hp,hs',E,hn,hr',.refl _ _⟩ had
  | false =>
   simp only[Bool.false_eq_true,if_false]at h ⊢;refine⟨fun _ _=>trivial,?_⟩;have hdst:∀ d,all[i].dst=some d->d<n:=by
    intro d hd';unfold eD at hd;rw[hd']at hd;simpa using hd
   have hs':=iP (v:=.lit undef) (cv:=undef) hs hdst (Evo.refl Γ s.H w) (Nat.le_refl _) hs.heap (.lit _);exact ih ⟨aM s.ρ all[i].dst (.lit undef),s.H⟩ Γ _ w (fun j hj=>hi j (by simp [hj])) h hs' hr (by rw[put_defers];exact had) Q' fun e a'' w'' hp hdd=>hq _ _ _ (hp.step (Evo.refl _ _ _) (Nat.le_refl _) (nk hlt _) fun _ h=>h) hdd
theorem wB {id:Nat}{ops:Array Oper}{s s':St}{a:Act}(hfit:ops.toList.all (eD n)=true)(h:opsV P G rd (fun x t=>x=.normal/\t=s') ops ops.toList s)(hs:RelS P G n wb Γ s a w)(hr:dJ Γ s.H rd rb):
  (Code.region id ops false).wpIn (dQ rb) 0 P (fun e a' w'=>e=.normal/\a'.defers=a.defers/\∃ Γ',RelS P G n wb Γ' s' a' w'/\Evo Γ s.H w Γ' s'.H w'/\s.H.next<=s'.H.next/\dJ Γ' s'.H rd rb) a w:=by
 refine wpIn_region (ED (id:=id) (dr:=false) (Q:=fun x t=>x=.normal/\t=s') (fun o ho=>List.all_eq_true.1 hfit o ho) _ s Γ a w (fun i hi=>List.mem_range.1 hi) ?_ hs hr rfl _ ?_)
 ·have:(List.range ops.size).filterMap (fun i=>ops[i]?)=ops.toList:=by
   have:=Ag ops.toList;simpa using this
  rw[this];exact h
 ·rintro e a' w' ⟨x,s2,Γ',hx,⟨rfl,rfl⟩,hs',E,hn,hr',_⟩ hd;cases e with
  | normal=>exact⟨rfl,hd,Γ',hs',E,hn,hr'⟩
  | _=>exact hx.elim
end
theorem EG {fn:Func}{tmps:Array Value}{R:Ending->World->Prop}{u:FrameMode}{ρ:Env}{Γ₀:aE}{H₀:AHeap}{w₀:World}{lo:Nat}{tail:List Deferred}(hu:u≠.run)(hlo:w₀.heap.size<=lo):∀ (ds:List Deferred) (w:World),
  Marks lo Γ w ds->RelH P G Γ H w->(∀ t,RelV P Γ H w (ρ t) (tmps.getD t undef))->Evo Γ₀ H₀ w₀ Γ H w->∀ (X:World->Prop),X w->(∀ (w:World) (r:Nat),X w->pG Γ w r->X (bO w r (.deferred none))) ->
  (∀ w',RelH P G Γ H w'->(∀ t,RelV P Γ H w' (ρ t) (tmps.getD t undef))->Evo Γ₀ H₀ w₀ Γ H w'->X w'->LeavesInM Fence.wide 0 P fn tmps R tail u w') ->
  LeavesInM Fence.wide 0 P fn tmps R (ds++tail) u w:=by
 intro ds
 induction ds with
 | nil=>intro w _ R0 he E X hX _ h;exact h w R0 he E hX
 | cons d ds ih =>
  intro w hm R0 he E X hX hXs h;obtain⟨r,rfl,hle,hown,hblk⟩:=hm.1 d (by simp);have ho:∀ c e f,Obj.deferred none≠.cells c e f:=fun _ _ _ h=>by cases h
  refine⟨hu,.inl ⟨r,bO w r (.deferred none),rfl,?_,?_⟩⟩
  ·unfold Instr.takeDeferred;have hg:(getObj r).run P w=.ok (.deferred (some [])) w:=(by simp [getObj,Sem.run,hblk]);rw[ay hg];simp only;have hset:(setObj r (.deferred none)).run P w=.ok () (bO w r (.deferred none)):=(by simp [setObj,Sem.run,hblk,bO]);rw[ay hset];rfl
  ·refine ih _ ⟨fun e he'=>?_,(List.pairwise_cons.1 hm.2).2⟩ (R0.closed hblk hown ho) (fun t=>(he t).closed hblk ho) (E.closed hblk (Nat.le_trans hlo hle) _ ho) X (hXs w r hX ⟨hown,hblk⟩) hXs h;obtain⟨r',rfl,hle',hown',hblk'⟩:=hm.1 e (by simp [he']);refine⟨r',rfl,hle',hown',?_⟩;rw[eI,if_neg]
   ·exact hblk'
   ·rintro⟨rfl,_⟩;exact(List.pairwise_cons.1 hm.2).1 _ he' rfl
def EI (P:Program)(G:Nat->Option (List AVal))(rs:List ResultVar)(m:Nat)(ca cb:AVal)(r3 r4:Tmp)(o1 o2:Array Oper)(H₀:AHeap)(K:ARes->AHeap->Prop):AX->St->Prop
 | .normal,s|.ret,s=>bp (fO P s.H s.ρ rs) fun vs=>au P G H₀ K (ko vs) s.H
 | .panic,s=>∀ t v,∃ s1 s2,opsV P G none (fun x t=>x=.normal/\t=s1) o1 o1.toList ⟨aM (aM (eK [ca,cb]) (some r3) (.lit (.iface t v))) (some r4) (.lit (.bool true)),s.H⟩ /\
   opsV P G none (fun x t=>x=.normal/\t=s2) o2 o2.toList s1/\bp (fO P s2.H s.ρ rs) fun vs=>au P G H₀ K (ko vs) s2.H
 | _,_=>False
theorem EJ {ρ:Operand->Value}{o:Oper}{ats:Array TypeId}(h:o.op=.call ⟨.builtin .recover,#[],ats⟩):(execOp ρ o).run P w=.ok .recover w:=by
 unfold execOp;rw[h];rfl
theorem zF {args:List AVal}{cargs:Array Value}{k:Nat}(hr:dG P Γ H w args cargs)(t:Nat):RelV P Γ H w (eK args t) ((cargs++Array.replicate k undef).getD t undef):=by
 have hsz:=hr.1;by_cases ht:t<args.length
 ·have h1:(cargs++Array.replicate k undef).getD t undef=cargs[t]'(by omega):=by
   simp only[Array.getD_eq_getD_getElem?];rw[Array.getElem?_append_left (by omega),Array.getElem?_eq_getElem (by omega)];rfl
  have h2:eK args t=args[t]:=by
   unfold eK;rw[List.getElem?_eq_getElem ht];rfl
  rw[h1,h2];exact hr.2 t ht (by omega)
 ·have h1:(cargs++Array.replicate k undef).getD t undef=undef:=by
   simp only[Array.getD_eq_getD_getElem?];rw[Array.getElem?_append_right (by omega),Array.getElem?_replicate];split<;>rfl
  have h2:eK args t=.lit undef:=by
   unfold eK;rw[List.getElem?_eq_none (by omega)];rfl
  rw[h1,h2];exact .lit _
theorem ae.guard {f g:FuncId}{fn gn:Func}{i0 i1 j0 j1 j2:Nat}{o0 o1 o2:Array Oper}{dF p q r3 r4:Tmp}{c2:Code}{T T':TypeId}{ty1 ty2 ty3 ty4:TypeId}{ps1 ps2 ps3 ps4:String}{af1 af2 af3 af4:Array Edge}{ats at3:Array TypeId}
  {args:List AVal} {K:ARes->AHeap->Prop} {rs:List ResultVar} {n m:Nat} {s1:St}
  (hf:P.funcs[f]?=some fn) (hb:fn.body=some (.seq (.region i0 o0 false) (.seq (.region i1 #[⟨some dF,.makeFunc (.func g) #[] #[.tmp p,.tmp q],ty1,ps1,af1,none⟩,⟨none,.defer ⟨.value (.tmp dF),#[],ats⟩,ty2,ps2,af2,none⟩] false) c2)))
    (hres : fn.results.toList = rs) (hnt : fn.ntmps = n) (hname : (fn.name == "runtime.NumGoroutine") = false) (hargs : args.length ≤ n) (hdF : dF < n)
  (hg : P.funcs[g]?=some gn) (hgb : gn.body=some (.seq (.region j0 #[⟨some r3,.call ⟨.builtin .recover,#[],at3⟩,ty3,ps3,af3,none⟩,⟨some r4,.binOp .neq T (.tmp r3) (.const .nilIface) T',ty4,ps4,af4,none⟩] false)
      (.cond (.tmp r4) (.seq (.region j1 o1 false) (.region j2 o2 false)) .skip))) (hgres : gn.results.toList = []) (hgnt : gn.ntmps = m) (hm : 2 ≤ m) (hgname : (gn.name == "runtime.NumGoroutine") = false) (hr3 : r3 < m) (hr4 : r4 < m) (h34 : r3 ≠ r4) (h42 : 2 ≤ r4) (h32 : 2 ≤ r3)
  (hneq0:∀ w,(do eqGuard .neq T (.tmp r3) (.const .nilIface) .nilIface .nilIface;binOp .neq T .nilIface .nilIface:Sem Value).run P w=.ok (.bool false) w)
  (hneq1:∀ t v w,(do eqGuard .neq T (.tmp r3) (.const .nilIface) (.iface t v) .nilIface;binOp .neq T (.iface t v) .nilIface:Sem Value).run P w=.ok (.bool true) w)
  (hf0:o0.toList.all (eD n)=true) (hf1:o1.toList.all (eD m)=true) (hf2:o2.toList.all (eD m)=true)
  (h0:opsV P G none (fun x t=>x=.normal/\t=s1) o0 o0.toList ⟨eK args,H⟩)
  (h2:W P G n none c2 (EI P G rs m (s1.ρ p) (s1.ρ q) r3 r4 o1 o2 H K) ⟨aM s1.ρ (some dF) (.clo g [] [s1.ρ p,s1.ρ q]),s1.H⟩):ae P G f args H K:=by
 subst hres;subst hnt;subst hgnt;refine⟨⟨fn,hf,by rw[hb];rfl,hname⟩,fun Γ w cargs R hr=>?_⟩;refine callsIn_of_wp_marks hf hb trivial ?_;have hs:RelS P G fn.ntmps ⟨w.heap.size,[]⟩ Γ ⟨eK args,H⟩ { tmps:=cargs++Array.replicate (fn.ntmps - cargs.size) undef,defers:=[] } w :=
  ⟨by have:=hr.1;simp;omega,fun t=>zF hr t,R,⟨[],rfl,Marks.nil⟩,Nat.le_refl _⟩
 refine wpIn_seq (wpIn_mono (wB (rb:=none) hf0 h0 hs rfl) ?_);rintro e a₁ w₁ ⟨rfl,hd1,Γ₁,hs₁,E₁,hn₁,hr₁⟩;have hd1':a₁.defers=[]:=hd1
  -- the closure is made, and deferred
 let d:Deferred:={ target:=.fn (.func g) #[a₁.eval (.tmp p),a₁.eval (.tmp q)],args:=#[] }
 let a₂:Act:={ a₁.put (some dF) (.func (.func g) #[] #[a₁.eval (.tmp p),a₁.eval (.tmp q)]) with defers:=[d] }
 have hp:=hs₁.env p;have hq:=hs₁.env q;have hclo:RelV P Γ₁ s1.H w₁ (.clo g [] [s1.ρ p,s1.ρ q]) (.func (.func g) #[] #[a₁.eval (.tmp p),a₁.eval (.tmp q)]) :=
  RelV.clo (fs:=[]) (cs:=[a₁.eval (.tmp p),a₁.eval (.tmp q)]) rfl rfl (fun i h _=>absurd h (Nat.not_lt_zero _)) fun i h h'=>by
   match i with
   | 0=>exact hp
   | 1=>exact hq
 have hs₂':=iP (dst:=some dF) hs₁ (fun x hx=>by cases hx;exact hdF) (Evo.refl Γ₁ s1.H w₁) (Nat.le_refl _) hs₁.heap hclo;have hs₂:RelS P G fn.ntmps ⟨w₁.heap.size,[d]⟩ Γ₁ ⟨aM s1.ρ (some dF) (.clo g [] [s1.ρ p,s1.ρ q]),s1.H⟩ a₂ w₁ :=
  ⟨hs₂'.size,hs₂'.env,hs₂'.heap,⟨[],rfl,Marks.nil⟩,Nat.le_refl _⟩
 refine wpIn_seq (wpIn_region ?_);have hdefer:(execOp a₂.eval ⟨none,.defer ⟨.value (.tmp dF),#[],ats⟩,ty2,ps2,af2,none⟩).run P w₁=.ok (.defer d) w₁:=by
  have hev:a₂.eval (.tmp dF)=.func (.func g) #[] #[a₁.eval (.tmp p),a₁.eval (.tmp q)]:=by
   show ((a₁.tmps.setIfInBounds dF _)).getD dF undef=_;have:=hs₁.size;simp [this,hdF]
  unfold execOp;simp only[resolve,hev];rw[ay (show (Deferred.ofValue (.func (.func g) #[] #[a₁.eval (.tmp p),a₁.eval (.tmp q)]) (Array.map a₂.eval #[])).run P w₁=.ok { target:=.fn (.func g) #[a₁.eval (.tmp p),a₁.eval (.tmp q)],args:=#[]++Array.map a₂.eval #[] } w₁ from rfl)];have e:(#[]++Array.map a₂.eval #[]:Array Value)=#[]:=by simp
  rw[e];rfl
 have hmk:(execOp a₁.eval ⟨some dF,.makeFunc (.func g) #[] #[.tmp p,.tmp q],ty1,ps1,af1,none⟩).run P w₁=.ok (.value (.func (.func g) #[] #[a₁.eval (.tmp p),a₁.eval (.tmp q)])) w₁:=by
  unfold execOp;simp only[List.map_toArray,List.map_cons,List.map_nil];rfl
 have ha2:{ (a₁.put (some dF) (.func (.func g) #[] #[a₁.eval (.tmp p),a₁.eval (.tmp q)])) with defers:=d :: (a₁.put (some dF) (.func (.func g) #[] #[a₁.eval (.tmp p),a₁.eval (.tmp q)])).defers }=a₂:=by
  show _=a₂;rw[put_defers,hd1']
 show wpOpsIn (dQ none) 0 P _ _ [0,1] a₁ w₁;unfold wpOpsIn;simp only[List.getElem?_toArray,List.getElem?_cons_zero,Region.wanted,if_true];refine⟨fun _ _=>trivial,?_⟩;rw[Oper.semAt_eq _ _ _ (fun c hc=>by cases hc),hmk,Oper.uponIn_value];unfold wpOpsIn;simp only[List.getElem?_toArray,List.getElem?_cons_succ,List.getElem?_cons_zero,Region.wanted,if_true];refine⟨fun _ _=>trivial,?_⟩;have hdefer':(execOp (a₁.put (some dF) (.func (.func g) #[] #[a₁.eval (.tmp p),a₁.eval (.tmp q)])).eval ⟨none,.defer ⟨.value (.tmp dF),#[],ats⟩,ty2,ps2,af2,none⟩).run P w₁=.ok (.defer d) w₁:=hdefer;rw[show (dQ none).round=none from rfl,Oper.semAt_none,hdefer',Oper.uponIn_defer,ha2];unfold wpOpsIn;show c2.wpIn (dQ none) 0 P _ a₂ w₁;refine wpIn_mono (h2 ⟨w₁.heap.size,[d]⟩ Γ₁ a₂ w₁ none hs₂ rfl) ?_;rintro e a₃ w₃ ⟨x,s₃,Γ₃,hx,hq₃,hs₃,E₃,hn₃,_,_⟩;have E03:Evo Γ H w Γ₃ s₃.H w₃:=E₁.trans hn₁ E₃;have hn03:H.next<=s₃.H.next:=Nat.le_trans hn₁ hn₃;have hca:RelV P Γ₃ s₃.H w₃ (s1.ρ p) (a₁.eval (.tmp p)):=RelV.bn hp E₃ hn₃;have hcb:RelV P Γ₃ s₃.H w₃ (s1.ρ q) (a₁.eval (.tmp q)):=RelV.bn hq E₃ hn₃;obtain⟨mk,hmks,hmkk⟩:=hs₃.defers;have hmks':a₃.defers=mk++[d]:=hmks;have hinv:∀ w,(invoke d.target d.args).run P w=.ok (.enter g #[a₁.eval (.tmp p),a₁.eval (.tmp q)]) w:=fun w=>by
  show (callFunc g (#[]++#[a₁.eval (.tmp p),a₁.eval (.tmp q)])).run P w=_;unfold callFunc;rw[ay (run_program P w)];simp only[hg];rw[hgname,hgb];simp
  -- on the way out: marks, then the deferred call
 have leave:∀ (u:FrameMode),u≠.run->(∀ w'',RelH P G Γ₃ s₃.H w''->(∀ t,RelV P Γ₃ s₃.H w'' (s₃.ρ t) (a₃.tmps.getD t undef))->Evo Γ H w Γ₃ s₃.H w''->RelV P Γ₃ s₃.H w'' (s1.ρ p) (a₁.eval (.tmp p))->RelV P Γ₃ s₃.H w'' (s1.ρ q) (a₁.eval (.tmp q)) ->
   CallsDIn Fence.wide 0 P g #[a₁.eval (.tmp p),a₁.eval (.tmp q)] u w'' fun
    | .returned _,u',w'=>LeavesInM Fence.wide 0 P fn a₃.tmps (fw P G Γ H w K) [] (settle u') w'
    | .panicked chain,u',w'=>LeavesInM Fence.wide 0 P fn a₃.tmps (fw P G Γ H w K) [] (raised u' chain) w'
    | .outgrown,_,w'=>fw P G Γ H w K .outgrown w')->LeavesInM Fence.wide 0 P fn a₃.tmps (fw P G Γ H w K) a₃.defers u w₃:=by
  intro u hu hcall;rw[hmks'];refine EG hu E₁.size mk w₃ hmkk hs₃.heap hs₃.env E03 (fun w=>RelV P Γ₃ s₃.H w (s1.ρ p) (a₁.eval (.tmp p))/\RelV P Γ₃ s₃.H w (s1.ρ q) (a₁.eval (.tmp q))) ⟨hca,hcb⟩ (fun w r hX hr=>?_) fun w'' R'' he'' E'' hX=>?_
  ·have ho:∀ c e f,Obj.deferred none≠.cells c e f:=fun _ _ _ h=>by cases h
   exact⟨hX.1.closed hr.2 ho,hX.2.closed hr.2 ho⟩
  ·exact⟨hu,.inr ⟨fun h=>by simp [Fence.wide]at h,.func g,_,g,_,rfl,hinv w'',fun _ _=>trivial,hcall w'' R'' he'' E'' hX.1 hX.2⟩⟩
  -- the deferred call's first region
 have first:∀ (c₀:Frame) (cs cs':List Frame) (v:Value) (b:Bool) (w'':World) (Q:Exit->Act->List Frame->World->Prop),
   (recoverD (c₀ :: cs)=some (v,cs')\/(recoverD (c₀ :: cs)=none/\v=.nilIface/\cs'=c₀ :: cs)) ->
   (do eqGuard .neq T (.tmp r3) (.const .nilIface) v .nilIface;binOp .neq T v .nilIface:Sem Value).run P w''=.ok (.bool b) w'' ->
   (Code.cond (.tmp r4) (.seq (.region j1 o1 false) (.region j2 o2 false)) .skip).wpSIn Fence.wide 0 P Q ((({ tmps:=#[a₁.eval (.tmp p),a₁.eval (.tmp q)]++Array.replicate (gn.ntmps - 2) undef,defers:=[] }:Act).put (some r3) v).put (some r4) (.bool b)) cs' w'' ->
   (Code.seq (.region j0 #[⟨some r3,.call ⟨.builtin .recover,#[],at3⟩,ty3,ps3,af3,none⟩,⟨some r4,.binOp .neq T (.tmp r3) (.const .nilIface) T',ty4,ps4,af4,none⟩] false)
    (.cond (.tmp r4) (.seq (.region j1 o1 false) (.region j2 o2 false)) .skip)).wpSIn Fence.wide 0 P Q { tmps:=#[a₁.eval (.tmp p),a₁.eval (.tmp q)]++Array.replicate (gn.ntmps - 2) undef,defers:=[] } (c₀ :: cs) w'':=by
  intro c₀ cs cs' v b w'' Q hrec hneq hcond;refine wpSIn_seq (wpSIn_region ?_);show wpOpsSIn Fence.wide 0 P _ _ [0,1] _ _ _;have hneq':∀ a:Act,a.eval (.tmp r3)=v->(execOp a.eval ⟨some r4,.binOp .neq T (.tmp r3) (.const .nilIface) T',ty4,ps4,af4,none⟩).run P w''=.ok (.value (.bool b)) w'':=fun a ha=>by
   unfold execOp;simp only[ha];have h1:a.eval (.const .nilIface)=.nilIface:=rfl;rw[h1,ay hneq];rfl
  have hev:∀ a:Act,a.tmps.size=gn.ntmps->(a.put (some r3) v).eval (.tmp r3)=v:=fun a ha=>by
   show (a.tmps.setIfInBounds r3 v).getD r3 undef=v;simp [ha,hr3]
  have hsz:({ tmps:=#[a₁.eval (.tmp p),a₁.eval (.tmp q)]++Array.replicate (gn.ntmps - 2) undef,defers:=[] }:Act).tmps.size=gn.ntmps:=by
   simp;omega
  unfold wpOpsSIn;simp only[List.getElem?_toArray,List.getElem?_cons_zero,Region.wanted,if_true];refine⟨fun _ _=>trivial,?_⟩;rw[EJ rfl];simp only;rcases hrec with hrec|⟨hrec,rfl,rfl⟩
  ·rw[hrec];simp only;unfold wpOpsSIn;simp only[List.getElem?_toArray,List.getElem?_cons_succ,List.getElem?_cons_zero,Region.wanted,if_true];refine⟨fun _ _=>trivial,?_⟩;rw[hneq' _ (hev _ hsz)];exact hcond
  ·rw[hrec];simp only;unfold wpOpsSIn;simp only[List.getElem?_toArray,List.getElem?_cons_succ,List.getElem?_cons_zero,Region.wanted,if_true];refine⟨fun _ _=>trivial,?_⟩;rw[hneq' _ (hev _ hsz)];exact hcond
 have hresg:∀ (tmps:Array Value) (w:World),(results gn tmps).run P w=.ok (.tuple #[]) w:=fun tmps w=>by
  have h1:gn.results=#[]:=by
   have:=hgres;cases h:gn.results with
   | mk l=>rw[h]at this;simp at this;rw[this]
  unfold results;rw[h1];simp only[Array.mapM_eq_mapM_toList,List.mapM_nil];rfl
  -- it ends in no panic: nothing is recovered
 have calm:bp (fO P s₃.H s₃.ρ fn.results.toList) (fun vs=>au P G H K (ko vs) s₃.H)->LeavesInM Fence.wide 0 P fn a₃.tmps (fw P G Γ H w K) a₃.defers .returning w₃:=by
  rintro⟨vs,hvs,v',H',hw,hn',hk⟩;refine leave .returning (by simp) fun w'' R'' he'' E'' _ _=>?_;refine callsDIn_of_wpSIn hg hgb trivial fun c₀ cs hc₀=>?_;have hsame:({ c₀ with mode:=FrameMode.returning }:Frame)=c₀:=by rw[<- hc₀]
  refine first c₀ cs (c₀ :: cs) .nilIface false w'' _ (.inr ⟨by simp [recoverD,hc₀],rfl,rfl⟩) (hneq0 w'') (wpSIn_cond (t:=false) ?_ ?_)
  ·show (((_:Array Value).setIfInBounds r3 Value.nilIface).setIfInBounds r4 (.bool false)).getD r4 undef=.bool false;have h2:2+(gn.ntmps - 2)=gn.ntmps:=(by omega);simp [h2,hr4]
  ·refine wpSIn_of_wpIn rfl (wpIn_skip ?_);refine⟨rfl,.returning,by rw[hsame],.tuple #[],hresg _ _,?_⟩;show LeavesInM Fence.wide 0 P fn a₃.tmps (fw P G Γ H w K) [] (settle .returning) w'';obtain⟨cv,h1,h2⟩:=wM R'' he'' hvs;obtain⟨Γ'',R3,E3,hv3⟩:=hw Γ₃ w'' R'';exact⟨cv,h1,.ret v',H',Γ'',hv3 cv h2,hk,R3,E''.trans hn03 E3,hn'⟩
 cases e with
 | normal=>cases x with
  | normal=>exact calm hq₃
  | _=>exact hx.elim
 | ret=>cases x with
  | ret=>exact calm hq₃
  | _=>exact hx.elim
 | panic chain=>cases x with
  | panic =>
   obtain⟨it,iv,rfl⟩:=hx;obtain⟨t1,t2,hop1,hop2,vs,hvs,v',H',hw,hn',hk⟩:=hq₃ it iv;refine leave _ (by simp) fun w'' R'' he'' E'' ha'' hb''=>?_;refine callsDIn_of_wpSIn hg hgb trivial fun c₀ cs hc₀=>?_;refine first c₀ cs ({ c₀ with mode:=.panicking [{ v:=.iface it iv,recovered:=true }] } :: cs) (.iface it iv) true w'' _ (.inl (by simp [recoverD,hc₀])) (hneq1 it iv w'') (wpSIn_cond (t:=true) ?_ ?_)
   ·show (((_:Array Value).setIfInBounds r3 (Value.iface it iv)).setIfInBounds r4 (.bool true)).getD r4 undef=.bool true;have h2:2+(gn.ntmps - 2)=gn.ntmps:=(by omega);simp [h2,hr4]
   ·simp only[if_true];refine wpSIn_of_wpIn rfl ?_;have hL:dG P Γ₃ s₃.H w'' [s1.ρ p,s1.ρ q] #[a₁.eval (.tmp p),a₁.eval (.tmp q)]:=⟨rfl,fun i h h'=>by
     match i with
     | 0=>exact ha''
     | 1=>exact hb''⟩
    have hsA:RelS P G gn.ntmps ⟨w''.heap.size,[]⟩ Γ₃ ⟨eK [s1.ρ p,s1.ρ q],s₃.H⟩ { tmps:=#[a₁.eval (.tmp p),a₁.eval (.tmp q)]++Array.replicate (gn.ntmps - 2) undef,defers:=[] } w'' :=
     ⟨by simp;omega,fun t=>zF hL t,R'',⟨[],rfl,Marks.nil⟩,Nat.le_refl _⟩
    have hsB:=iP (dst:=some r3) hsA (fun x hx=>by cases hx;exact hr3) (Evo.refl Γ₃ s₃.H w'') (Nat.le_refl _) R'' (RelV.lit (.iface it iv));have hsC:=iP (dst:=some r4) hsB (fun x hx=>by cases hx;exact hr4) (Evo.refl Γ₃ s₃.H w'') (Nat.le_refl _) R'' (RelV.lit (.bool true));refine wpIn_seq (wpIn_mono (wB (rb:=none) hf1 hop1 hsC rfl) ?_);rintro e a₅ w₅ ⟨rfl,hd5,Γ₅,hs₅,E₅,hn₅,_⟩;refine wpIn_mono (wB (rb:=none) hf2 hop2 hs₅ rfl) ?_;rintro e a₆ w₆ ⟨rfl,hd6,Γ₆,hs₆,E₆,hn₆,_⟩;have E56:Evo Γ₃ s₃.H w'' Γ₆ t2.H w₆:=E₅.trans hn₅ E₆;have hn56:s₃.H.next<=t2.H.next:=Nat.le_trans hn₅ hn₆;refine⟨by rw[hd6,hd5];rfl,.panicking [{ v:=.iface it iv,recovered:=true }],rfl,.tuple #[],hresg _ _,?_⟩;show LeavesInM Fence.wide 0 P fn a₃.tmps (fw P G Γ H w K) [] .returning w₆;obtain⟨cv,h1,h2⟩:=wM hs₆.heap (fun t=>(he'' t).bn E56 hn56) hvs;obtain⟨Γ'',R3,E3,hv3⟩:=hw Γ₆ w₆ hs₆.heap;exact⟨cv,h1,.ret v',H',Γ'',hv3 cv h2,hk,R3,(E''.trans hn03 E56).trans (Nat.le_trans hn03 hn56) E3,hn'⟩
  | _=>exact hx.elim
 | exit i=>cases x with
  | exit j=>exact hq₃.elim
  | _=>exact hx.elim
 | goto i=>cases x with
  | goto j=>exact hq₃.elim
  | _=>exact hx.elim
 | outgrown=>cases x<;>exact hx.elim
end Go.Hx
/-
  What an argument, or a listed variable, is as an abstract value: it is read off what can be read of it. Own work: no program stands in this text.
-/
namespace Go.Hx
open Go.ChangeShapes Go.WideShapes Go.RowKit
variable {P:Program} {W:World} {H:Type} {enc:TypeId × Value->H} {spare:Nat->Bool} {held:Bool}
def je (P:Program)(W:World)(as:List AVal)(cs:List Value):Prop:=cs.length=as.length/\∀ i (h:i<as.length) (h':i<cs.length),RelV P kQ dH W as[i] cs[i]
def hZ (enc:TypeId × Value->H)(P:Program)(W:World)(spare:Nat->Bool)(held:Bool)(t:TypeId)(φ:DataW H->List AVal->Prop):Prop :=
 ∀ fuel cs x,DataW.trod enc P W 0 spare held fuel t cs=some x->∃ as,je P W as cs/\φ x.1 as
theorem je.nil:je P W [] []:=⟨rfl,fun i h _=>absurd h (Nat.not_lt_zero _)⟩
theorem je.one {a:AVal}{c:Value}(h:RelV P kQ dH W a c):je P W [a] [c]:=⟨rfl,fun i hi _=>by
 match i,hi with
 | 0,_=>exact h⟩
theorem je.append {as bs:List AVal}{cs ds:List Value}(h1:je P W as cs)(h2:je P W bs ds):je P W (as++bs) (cs++ds):=by
 refine⟨by simp [h1.1,h2.1],fun i h h'=>?_⟩;by_cases hi:i<as.length
 ·rw[List.getElem_append_left hi,List.getElem_append_left (by rw[h1.1];exact hi)];exact h1.2 i hi _
 ·have e:=h1.1;rw[List.getElem_append_right (by omega),List.getElem_append_right (by omega)];have:=h2.2 (i - as.length) (by simp at h;omega) (by rw[h2.1];simp at h;omega);simpa [e] using this
theorem Fw {t:TypeId}(ht:P.underlying t=some .bool):hZ enc P W spare held t fun d as=>∃ b,d=.lit (.bool b)/\as=[.lit (.bool b)]:=by
 intro fuel cs x h;cases fuel with
 | zero=>simp [DataW.trod]at h
 | succ n =>
  unfold DataW.trod at h;rw[ht]at h;split at h
  ·cases h;exact⟨_,.one (.lit _),_,rfl,rfl⟩
  all_goals simp_all
theorem qa {t:TypeId}{k:IntKind}(ht:P.underlying t=some (.int k)):hZ enc P W spare held t fun d as=>∃ n,d=.lit (.int k n)/\as=[.lit (.int k n)]/\(Lit.int k n).wf=true:=by
 intro fuel cs x h;cases fuel with
 | zero=>simp [DataW.trod]at h
 | succ n =>
  unfold DataW.trod at h;rw[ht]at h;split at h<;>simp_all
  rename_i k' n' _ _;obtain⟨⟨rfl,hw⟩,rfl⟩:=h;exact⟨_,.one (.lit _),_,rfl,rfl,hw⟩
theorem Ai:∀ {rows:List (List AVal)} {css:List (List Value)},css.length=rows.length->(∀ i (h:i<rows.length) (h':i<css.length),je P W rows[i] css[i])->je P W rows.flatten css.flatten:=by
 intro rows
 induction rows with
 | nil=>intro css h _;obtain rfl:=List.eq_nil_of_length_eq_zero h;exact .nil
 | cons r rows ih =>
  intro css h h'
  match css,h with
  | c :: css,h =>
   simp only[List.flatten_cons];exact(h' 0 (by simp) (by simp)).append (ih (by simpa using h) fun i hi hi'=>h' (i+1) (by simpa using hi) (by simpa using hi'))
theorem Aj {α:Type}{Q:Nat->α->Prop}:∀ n,(∀ i,i<n->∃ a,Q i a)->∃ l:List α,l.length=n/\∀ i (h:i<l.length),Q i l[i]:=by
 intro n
 induction n with
 | zero=>intro _;exact⟨[],rfl,fun i h=>absurd h (Nat.not_lt_zero _)⟩
 | succ n ih =>
  intro h;obtain⟨l,hl,hq⟩:=ih fun i hi=>h i (by omega);obtain⟨a,ha⟩:=h n (by omega);refine⟨l++[a],by simp [hl],fun i hi=>?_⟩;by_cases hi':i<l.length
  ·rw[List.getElem_append_left hi'];exact hq i hi'
  ·have:i=l.length:=(by simp at hi;omega);subst this;simp only[List.getElem_concat_length];rw[hl];exact ha
theorem Fx {α:Type}{z:Nat}:∀ {rows:List (List α)},(∀ i (h:i<rows.length),rows[i].length=z)->rows.flatten.length=rows.length*z:=by
 intro rows
 induction rows with
 | nil=>intro _;simp
 | cons r rows ih =>
  intro h;have h0:=h 0 (by simp);have:=ih fun i hi=>h (i+1) (by simpa using hi);simp only[List.getElem_cons_zero]at h0;simp only[List.flatten_cons,List.length_append,List.length_cons,this,h0,Nat.succ_mul];omega
theorem Fy {α:Type}{z:Nat}:∀ {rows:List (List α)},(∀ i (h:i<rows.length),rows[i].length=z)->∀ i j (hi:i<rows.length) (hj:j<z),rows.flatten[i*z+j]?=(rows[i])[j]?:=by
 intro rows
 induction rows with
 | nil=>intro _ i j hi;exact absurd hi (Nat.not_lt_zero _)
 | cons r rows ih =>
  intro h i j hi hj;have h0:=h 0 (by simp);simp only[List.getElem_cons_zero]at h0;cases i with
  | zero=>simp only[List.flatten_cons,List.getElem_cons_zero,Nat.zero_mul,Nat.zero_add];rw[List.getElem?_append_left (by omega)]
  | succ i =>
   simp only[List.flatten_cons,List.getElem_cons_succ];rw[List.getElem?_append_right (by rw[h0,Nat.succ_mul];omega),<- ih (fun i hi=>h (i+1) (by simpa using hi)) i j (by simpa using hi) hj];congr 1;rw[h0,Nat.succ_mul];omega
def Ak (φ:DataW H->List AVal->Prop)(ds:List (DataW H))(rows:List (List AVal)):Prop:=ds.length=rows.length/\∀ i (h:i<rows.length) (h':i<ds.length),φ ds[i] rows[i]
theorem Al {t e:TypeId}{φ:DataW H->List AVal->Prop}(ht:P.underlying t=some (.slice e))(hz:0<P.cellsOf e)(he:hZ enc P W spare held e φ):
  hZ enc P W spare held t fun d as=>(d=.nil/\as=[.vec 0 []])\/∃ ds rest rows,d=.slice ds rest/\as=[.vec rows.length rows.flatten]/\Ak φ ds rows/\(∀ i (h:i<rows.length),rows[i].length=P.cellsOf e)/\rows.length<=maxLen:=by
 intro fuel cs x h;rcases DataW.trod_slice ht h with ⟨rfl,rfl⟩|⟨a,len,cap,elems,rest,n,rfl,rfl,rfl,_,hl,hm,hlen,hel,_,_⟩
 ·exact⟨_,.one (.vec0 _ _),.inl ⟨rfl,rfl⟩⟩
 have hrow:∀ i,i<len->∃ p:List Value × List AVal,W.cells? 0 (a.add (i*P.cellsOf e)) (P.cellsOf e)=some p.1/\je P W p.2 p.1/\∃ x,elems[i]?=some x/\φ x.1 p.2:=by
  intro i hi;have:=hel i hi;rw[List.getElem?_eq_getElem (by omega),Option.bind_eq_some_iff]at this;obtain⟨cs,hc,hx⟩:=this;obtain⟨as,ha,hφ⟩:=he _ _ _ hx;exact⟨(cs,as),hc,ha,_,List.getElem?_eq_getElem (by omega),hφ⟩
 obtain⟨l,hll,hQ⟩:=Aj len hrow;have hzr:∀ i (h:i<(l.map Prod.snd).length),(l.map Prod.snd)[i].length=P.cellsOf e:=by
  intro i h;simp only[List.length_map]at h;simp only[List.getElem_map];obtain⟨hc,hr,_⟩:=hQ i h;rw[<- hr.1];exact(World.cells?_some hc).2.1
 have hzc:∀ i (h:i<(l.map Prod.fst).length),(l.map Prod.fst)[i].length=P.cellsOf e:=by
  intro i h;simp only[List.length_map]at h;simp only[List.getElem_map];exact(World.cells?_some (hQ i h).1).2.1
 refine⟨[.vec (l.map Prod.snd).length (l.map Prod.snd).flatten],.one ?_,.inr ⟨_,_,l.map Prod.snd,rfl,rfl,⟨by simp [hll,hlen],fun i h h'=>?_⟩,hzr,by simp only[List.length_map];omega⟩⟩
 ·rcases Nat.eq_zero_or_pos len with h0|h0
  ·subst h0;obtain rfl:=List.eq_nil_of_length_eq_zero hll;exact .vec0 _ _
  have hrc:je P W (l.map Prod.snd).flatten (l.map Prod.fst).flatten:=Ai (by simp) fun i h h'=>by
   simp only[List.length_map]at h;simp only[List.getElem_map];exact(hQ i h).2.1
  have hla:(l.map Prod.snd).length=len:=by simp [hll]
  have hsp:∀ i,i<len->∀ j,j<P.cellsOf e->∃ v,W.cell? ((a.add (i*P.cellsOf e)).add j)=some v/\(l.map Prod.fst).flatten[i*P.cellsOf e+j]?=some v:=by
   intro i hi j hj;obtain⟨hc,_⟩:=hQ i (by omega);obtain⟨_,hcl,hcell⟩:=World.cells?_some hc;refine⟨(l[i]'(by omega)).1[j]'(by omega),?_,?_⟩
   ·rw[hcell j hj,List.getElem?_eq_getElem]
   ·rw[Fy hzc i j (by simp;omega) hj];simp only[List.getElem_map];rw[List.getElem?_eq_getElem]
  have hspot:a.spot=none:=by
   obtain⟨v,hv,_⟩:=hsp 0 h0 0 hz;unfold World.cell? at hv;split at hv
   ·split at hv
    ·cases hv
    ·rename_i hs;simpa [Addr.add] using hs
   ·cases hv
  obtain⟨b,off,spot⟩:=a;simp only at hspot;subst hspot;have hadd:∀ (b off n:Nat),(⟨b,off,none⟩:Addr).add n=⟨b,off+n,none⟩:=by
   intro b off n;unfold Addr.add;by_cases hn:n=0
   ·subst hn;simp
   ·simp [hn]
  have hlt:b<W.heap.size:=by
   obtain⟨v,hv,_⟩:=hsp 0 h0 0 hz;rw[hadd,hadd]at hv;unfold World.cell? at hv;rcases Nat.lt_or_ge b W.heap.size with h|h
   ·exact h
   ·rw[Array.getElem?_eq_none h]at hv;cases hv
  rw[hla];refine .vec (zq b) hlt hl hrc.1 (fun i hi=>?_) fun i h h'=>hrc.2 i h h';have hlc:=Fx hzc;simp only[List.length_map,hll]at hlc;have hi':i<len*P.cellsOf e:=by omega
  obtain⟨v,hv,hg⟩:=hsp (i / P.cellsOf e) (Nat.div_lt_of_lt_mul (by rw[Nat.mul_comm];exact hi')) (i % P.cellsOf e) (Nat.mod_lt _ hz);have hdm:i / P.cellsOf e*P.cellsOf e+i % P.cellsOf e=i:=by rw[Nat.mul_comm];exact Nat.div_add_mod _ _
  rw[hdm]at hg;rw[List.getElem?_eq_getElem hi]at hg;rw[Option.some.inj hg,<- hv,hadd,hadd];congr 2;omega
 ·simp only[List.length_map]at h h';obtain⟨_,_,y,hy,hφ⟩:=hQ i h;simp only[List.getElem_map];rw[List.getElem?_eq_getElem h']at hy;rw[Option.some.inj hy];exact hφ
theorem tE {t:TypeId}{fs:Array Field}{φ:Nat->DataW H->List AVal->Prop}(ht:P.underlying t=some (.struct fs))
  (hlay:∀ cs:List Value,cs.length=P.cellsOf t->(fs.toList.map fun f=>(cs.drop f.offset).take (P.cellsOf f.type)).flatten=cs)
  (he:∀ i (h:i<fs.size),hZ enc P W spare held fs[i].type (φ i)):
  hZ enc P W spare held t fun d as=>∃ (ds:List (DataW H)) (rows:List (List AVal)),d=.agg ds/\as=rows.flatten/\ds.length=fs.size/\rows.length=fs.size/\∀ i (h:i<rows.length) (h':i<ds.length),φ i ds[i] rows[i]:=by
 intro fuel cs x h;obtain⟨xs,m,rfl,rfl,hcl,hxl,hel⟩:=DataW.trod_struct ht h;have hrow:∀ i,i<fs.size->∃ as:List AVal,(∀ h:i<fs.size,je P W as ((cs.drop fs[i].offset).take (P.cellsOf fs[i].type)))/\∃ x,xs[i]?=some x/\φ i x.1 as:=by
  intro i hi;have:=hel i fs[i] (Array.getElem?_eq_getElem hi);rw[List.getElem?_eq_getElem (by omega)]at this;obtain⟨as,ha,hφ⟩:=he i hi _ _ _ this;exact⟨as,fun _=>ha,_,List.getElem?_eq_getElem (by omega),hφ⟩
 obtain⟨l,hll,hQ⟩:=Aj fs.size hrow;refine⟨l.flatten,?_,_,l,rfl,rfl,by simp [hxl],hll,fun i h h'=>?_⟩
 ·rw[<- hlay cs hcl];refine Ai (by simp [hll]) fun i h h'=>?_;simp only[List.getElem_map,Array.getElem_toList];exact(hQ i h).1 (by omega)
 ·obtain⟨_,y,hy,hφ⟩:=hQ i h;simp only[List.length_map]at h';simp only[List.getElem_map];rw[List.getElem?_eq_getElem h']at hy;rw[Option.some.inj hy];exact hφ
end Go.Hx
/-
  Further rules for the simplifier, and small facts on lists. Own work: no program stands in this text.
-/
namespace Go.Hx
variable {P:Program} {G:Nat->Option (List AVal)} {H:AHeap}
theorem Kc:(1=0)=False:=by simp
theorem Kd (l:List AVal)(i:Nat):na (.tup l) i=l[i]?:=rfl
theorem Ke (cells:List AVal)(off:Nat):kV H (.vptr cells off)=some (.vptr cells off):=rfl
theorem Kf (id gen off:Nat):kV H (.ptr id gen off)=(H.live id gen).map fun _=>.ptr id gen off:=by
 simp only[kV]
theorem Kg (t:TypeId)(f:Nat)(id gen off:Nat):tP P H t f (.ptr id gen off)=(bP P t f).bind fun of=>(H.live id gen).map fun _=>.ptr id gen (off+of.1):=rfl
theorem Kh (t:TypeId)(f:Nat)(cells:List AVal)(off:Nat):tP P H t f (.vptr cells off)=(bP P t f).bind fun of=>some (.vptr cells (off+of.1)):=rfl
def dv (H:AHeap)(L:List Blk)(e:TypeId)(lo hi:Nat)(v:AVal)(cs:List AVal):Prop :=
 (v=.lit (.slice none 0 0)/\cs=[])\/∃ i g,lo<=i/\i<hi/\v=.own (H.next+i) g 0 cs.length 1/\L[i]?=some (.arr g e cs)
theorem dv.nil {L:List Blk}{e:TypeId}{lo hi:Nat}:dv H L e lo hi (.lit (.slice none 0 0)) []:=.inl ⟨rfl,rfl⟩
theorem dv.keep {L L':List Blk}{e:TypeId}{lo hi lo' hi':Nat}{v:AVal}{cs:List AVal}(h:dv H L e lo hi v cs)(hl:lo'<=lo)(hh:hi<=hi')(hk:∀ i g,lo<=i->i<hi->L[i]?=some (.arr g e cs)->L'[i]?=L[i]?):
  dv H L' e lo' hi' v cs:=by
 rcases h with h|⟨i,g,h1,h2,h3,h4⟩
 ·exact .inl h
 ·exact .inr ⟨i,g,by omega,by omega,h3,by rw[hk i g h1 h2 h4];exact h4⟩
theorem AK {L:List Blk}{i g:Nat}{e:TypeId}{cs:List AVal}(h:L[i]?=some (.arr g e cs)):(ext H L).live (H.next+i) g=some (e,cs):=by
 have hi:i<L.length:=by
  rcases Nat.lt_or_ge i L.length with h'|h'
  ·exact h'
  ·rw[List.getElem?_eq_none h']at h;cases h
 rw[wV H L i g hi,h];simp [rI]
theorem Ki {L:List Blk}{t e:TypeId}{lo hi:Nat}{v x:AVal}{cs:List AVal}{z:List AVal}(ht:P.underlying t=some (.slice e))(hz:P.cellsOf e=1)(hzero:cu P e=some z)(hx:x.one=true)
  (hb:(cs.length+1)*P.bytesOf e<=2 ^ 46/\cs.length+1<=2 ^ 46) (ho:dv H L e lo hi v cs) (hlo:lo<=L.length) (hhi:hi<=L.length):
  ∃ v' L',bX P (ext H (L++[.arr 0 e [x]])) (H.next+(L.length+1)) t t v (.own (H.next+L.length) 0 0 1 1)=some (v',ext H L')/\dv H L' e lo L'.length v' (cs++[x])/\L.length<=L'.length /\
   (∀ k,k<L.length->(∀ g n,v≠.own (H.next+k) g 0 n 1)->L'[k]?=L[k]?):=by
 have hsrc:da (ext H (L++[.arr 0 e [x]])) 1 (.own (H.next+L.length) 0 0 1 1)=some (1,[x]):=by
  unfold da;have:=AK (H:=H) (L:=L++[Blk.arr 0 e [x]]) (i:=L.length) (g:=0) (e:=e) (cs:=[x]) (by simp);simp [this]
 rcases ho with ⟨rfl,rfl⟩|⟨i,g,h1,h2,rfl,h4⟩
 ·refine⟨.own (H.next+(L.length+1)) 0 0 1 1,L++[.arr 0 e [x]]++[.arr 0 e [x]],?_,.inr ⟨L.length+1,0,by omega,by simp,by simp,by simp⟩,by simp,fun k hk _=>?_⟩
  ·unfold bX;rw[ht];simp only[hzero,hz,Option.bind_some,hsrc,Kc,if_false];have h1:1*P.bytesOf e<=2 ^ 46/\1<=2 ^ 46:=(by simpa using hb);rw[if_pos h1,Aw H _ (L.length+1) _ (by simp)];rfl
  ·rw[List.append_assoc,List.getElem?_append_left hk]
 ·have hi':i<L.length:=by omega
  refine⟨.own (H.next+i) (g+1) 0 (cs.length+1) 1,(L++[Blk.arr 0 e [x]]).set i (Blk.arr (g+1) e (cs++[x])),?_,.inr ⟨i,g+1,h1,by simp;omega,by simp,?_⟩,by simp,fun k hk hne=>?_⟩
  ·unfold bX;rw[ht];simp only[hzero,hz,Option.bind_some,hsrc];have hl:=AK (H:=H) (L:=L++[Blk.arr 0 e [x]]) (i:=i) (g:=g) (e:=e) (cs:=cs) (by rw[List.getElem?_append_left hi'];exact h4);simp only[hl,Option.bind_some];rw[if_pos ⟨trivial,trivial,by omega,hb.1,hb.2,by simp [hx]⟩];rw[wU H _ i _ (by simp;omega)];simp
  ·rw[List.getElem?_set_self (by simp;omega)]
  ·have:i≠k:=(by rintro rfl;exact hne _ _ rfl);rw[List.getElem?_set_ne this,List.getElem?_append_left hk]
theorem dv.fz {S:Nat->Prop}{L:List Blk}{e:TypeId}{lo hi:Nat}{v:AVal}{cs cs':List AVal}{nx:Nat}(h:dv H L e lo hi v cs)(hS:∀ i,S (H.next+i))(hl:cs'.length=cs.length)
  (hc:∀ i (h:i<cs.length) (h':i<cs'.length),Fz S (ext H L) nx cs[i] cs'[i]):Fz S (ext H L) nx v (.vec cs'.length cs'):=by
 rcases h with ⟨rfl,rfl⟩|⟨i,g,_,_,rfl,h4⟩
 ·obtain rfl:=List.eq_nil_of_length_eq_zero hl;exact .nil
 ·rw[hl];have hi:i<L.length:=by
   rcases Nat.lt_or_ge i L.length with h'|h'
   ·exact h'
   ·rw[List.getElem?_eq_none h']at h4;cases h4
  refine .frz (hS i) (by rw[ba H L i hi];exact h4) (by omega) fun j hj h2 h'=>?_;simp only[Nat.zero_add]at h2 ⊢;exact hc j h2 h'
end Go.Hx
/-
  More rules for the simplifier: conversions, heaps known by what lies in them, slices of slices. Own work: no program stands in this text.
-/
namespace Go.Hx
variable {P:Program} {G:Nat->Option (List AVal)} {H:AHeap}
def xk (P:Program)(s d:TypeId)(x:Bool)(y:Option TypeDesc)(v:AVal):Option AVal :=
 if x=true then (match y,v with
  | some (.int k'),.lit (.int _ a)=>some (.lit (.int k' (k'.wrap a)))
  | _,_=>kT P s d v) else kT P s d v
theorem Kj (s d:TypeId)(v:AVal):kT P s d v=xk P s d (P.underlying s).isSome (P.underlying d) v:=by
 unfold xk;split
 ·rename_i hs;split
  ·rename_i k' k a hd;exact HJ hs hd
  ·rfl
 ·rfl
theorem Kk (s d:TypeId)(k k':IntKind)(a:Int):xk P s d true (some (.int k')) (.lit (.int k a))=some (.lit (.int k' (k'.wrap a))):=rfl
def AL (P:Program)(d:Option TypeDesc)(cells:List AVal)(i:Int):Option AVal:=match d with
 | some (.array n e)=>if 0<=i/\i<(n:Int) then iO P e cells (i.toNat*P.cellsOf e) else none
 | _=>none
theorem Kl (t:TypeId)(cells:List AVal)(k:IntKind)(i:Int):ot P t (.agg cells) (.lit (.int k i))=AL P (P.underlying t) cells i:=rfl
theorem Km (n:Nat)(e:TypeId)(cells:List AVal)(i:Int):AL P (some (.array n e)) cells i=if 0<=i/\i<(n:Int) then iO P e cells (i.toNat*P.cellsOf e) else none:=rfl
theorem Kn {k:IntKind}{a:Int}:pR P .neg (.lit (.int k a))=some (.lit (.int k (k.wrap (0 - a)))):=Hv rfl
theorem af {id g:Nat}{e:TypeId}{c:List AVal}(h:H.get id=some (.arr g e c)):H.live id g=some (e,c):=by
 unfold AHeap.live;rw[h];simp
theorem aD (a:Nat)(x:Blk):(H.upd a x).next=H.next:=rfl
theorem eY {L:List Blk}{id g:Nat}(h:id<H.next):(ext H L).live id g=H.live id g:=by
 unfold AHeap.live;rw[dq H L id h]
def lj (H:AHeap)(L:List Blk)(e1 e0:TypeId)(v:AVal)(rows:List (List AVal)):Prop :=
 ∃ cs:List AVal,dv H L e1 0 L.length v cs/\cs.length=rows.length/\∀ (j:Nat) (r:List AVal) (c:AVal),rows[j]?=some r->cs[j]?=some c->dv H L e0 0 L.length c r
theorem lj.nil {L:List Blk}{e1 e0:TypeId}:lj H L e1 e0 (.lit (.slice none 0 0)) []:=⟨[],.nil,rfl,fun j r c h=>by simp at h⟩
theorem dv.lt {L:List Blk}{e:TypeId}{lo hi i g n z:Nat}{cs:List AVal}(h:dv H L e lo hi (.own (H.next+i) g 0 n z) cs):i<L.length/\L[i]?=some (.arr g e cs)/\n=cs.length/\z=1:=by
 rcases h with ⟨h,_⟩|⟨j,g2,_,_,h3,h4⟩
 ·cases h
 ·have:=AVal.own.inj h3;obtain rfl:i=j:=by omega
  obtain⟨_,rfl,_,rfl,rfl⟩:=this;refine⟨?_,h4,rfl,rfl⟩;rcases Nat.lt_or_ge i L.length with h|h
  ·exact h
  ·rw[List.getElem?_eq_none h]at h4;cases h4
theorem dv.t8 {L L':List Blk}{e e':TypeId}{lo hi lo' hi':Nat}{v u:AVal}{cs cs':List AVal}(hv:dv H L e lo hi v cs)(hu:dv H L e' lo' hi' u cs')(hne:e≠e')(hh:hi'<=L.length)
  (hp:∀ k,k<L.length->(∀ g n,v≠.own (H.next+k) g 0 n 1)->L'[k]?=L[k]?):dv H L' e' lo' hi' u cs':=by
 refine hu.keep (Nat.le_refl _) (Nat.le_refl _) fun i g h1 h2 h3=>hp i (by omega) fun g' n he=>?_;rcases hv with ⟨rfl,_⟩|⟨j,g2,_,_,rfl,h4⟩
 ·cases he
 ·have hj:j=i:=by
   have:=AVal.own.inj he;omega
  subst hj;rw[h3]at h4;cases h4;exact hne rfl
theorem dv.ni {L:List Blk}{e:TypeId}{lo hi:Nat}{v:AVal}{cs:List AVal}(hv:dv H L e lo hi v cs):v.one=true:=by
 rcases hv with ⟨rfl,_⟩|⟨_,_,_,_,rfl,_⟩<;>rfl
theorem dv.fY {L:List Blk}{e:TypeId}{lo hi:Nat}{v:AVal}{cs:List AVal}(hv:dv H L e lo hi v cs):v.cells=[v]:=by
 rcases hv with ⟨rfl,_⟩|⟨_,_,_,_,rfl,_⟩<;>rfl
theorem dv.other {L L':List Blk}{e e':TypeId}{lo hi lo' hi':Nat}{v u:AVal}{cs cs':List AVal}(hv:dv H L e lo hi v cs)(hu:dv H L e' lo' hi' u cs')(hne:e≠e')(hh:hi'<=L.length)
  (hp:∀ k,k<L.length->(∀ g n,v≠.own (H.next+k) g 0 n 1)->L'[k]?=L[k]?):dv H L' e' lo' hi' u cs':=hv.t8 hu hne hh hp
theorem dv.one {L:List Blk}{e:TypeId}{lo hi:Nat}{v:AVal}{cs:List AVal}(hv:dv H L e lo hi v cs):v.one=true:=hv.ni
theorem dv.cells {L:List Blk}{e:TypeId}{lo hi:Nat}{v:AVal}{cs:List AVal}(hv:dv H L e lo hi v cs):v.cells=[v]:=hv.fY
theorem lj.keep {L L':List Blk}{e1 e0:TypeId}{v:AVal}{rows:List (List AVal)}(h:lj H L e1 e0 v rows)(hl:L.length<=L'.length)(hk:∀ i,i<L.length->L'[i]?=L[i]?):lj H L' e1 e0 v rows:=by
 obtain⟨cs,c1,c2,c3⟩:=h;exact⟨cs,c1.keep (Nat.le_refl _) hl fun i _ _ hi _=>hk i hi,c2,fun j r c hr hc=>(c3 j r c hr hc).keep (Nat.le_refl _) hl fun i _ _ hi _=>hk i hi⟩
theorem lj.fz {S:Nat->Prop}{L:List Blk}{e1 e0:TypeId}{v:AVal}{rows rows':List (List AVal)}{nx:Nat}(h:lj H L e1 e0 v rows)(hS:∀ i,S (H.next+i))(hl:rows'.length=rows.length)
  (hr:∀ (j:Nat) (r r':List AVal),rows[j]?=some r->rows'[j]?=some r'->r'.length=r.length/\∀ i (h:i<r.length) (h':i<r'.length),Fz S (ext H L) nx r[i] r'[i]):
  Fz S (ext H L) nx v (.vec rows'.length (rows'.map fun r=>.vec r.length r)):=by
 obtain⟨cs,h1,h2,h3⟩:=h;have:=h1.fz (S:=S) (nx:=nx) (cs':=rows'.map fun r=>.vec r.length r) hS (by simp [h2,hl]) fun i hi hi'=>by
  simp only[List.getElem_map];have hi2:i<rows.length:=by omega
  have hi3:i<rows'.length:=by omega
  obtain⟨a1,a2⟩:=hr i rows[i] rows'[i] (List.getElem?_eq_getElem hi2) (List.getElem?_eq_getElem hi3);exact(h3 i rows[i] cs[i] (List.getElem?_eq_getElem hi2) (List.getElem?_eq_getElem hi)).fz (S:=S) (nx:=nx) (cs':=rows'[i]) hS a1 a2
 rw[List.length_map]at this;exact this
theorem lj.app {L:List Blk}{e1 e0:TypeId}{v x:AVal}{rows:List (List AVal)}{r:List AVal}{t:TypeId}{z:List AVal}(ht:P.underlying t=some (.slice e1))(hz:P.cellsOf e1=1)(hzero:cu P e1=some z)(hby:P.bytesOf e1=24)(hne:e1≠e0)
  (hb:rows.length<2 ^ 40) (h:lj H L e1 e0 v rows) (hx:dv H L e0 0 L.length x r):
  ∃ v' L',bX P (ext H (L++[.arr 0 e1 [x]])) (H.next+(L.length+1)) t t v (.own (H.next+L.length) 0 0 1 1)=some (v',ext H L')/\lj H L' e1 e0 v' (rows++[r])/\L.length<=L'.length:=by
 obtain⟨cs,h1,h2,h3⟩:=h;obtain⟨v',L',hA,hO,hL,hp⟩:=Ki (t:=t) ht hz hzero hx.ni (by rw[hby,h2];omega) h1 (Nat.zero_le _) (Nat.le_refl _);refine⟨v',L',hA,⟨cs++[x],hO,by simp [h2],fun j r' c hr hc=>?_⟩,hL⟩;have key:∀ u l,dv H L e0 0 L.length u l->dv H L' e0 0 L'.length u l:=fun u l hu=>(h1.t8 hu hne (Nat.le_refl _) hp).keep (Nat.le_refl _) hL fun _ _ _ _ _=>rfl;rcases Nat.lt_or_ge j rows.length with hj|hj
 ·rw[List.getElem?_append_left hj]at hr;rw[List.getElem?_append_left (by omega)]at hc;exact key _ _ (h3 j r' c hr hc)
 ·rw[List.getElem?_append_right hj]at hr;rw[List.getElem?_append_right (by omega)]at hc;have hj0:j - rows.length=0:=by
   rcases Nat.eq_zero_or_pos (j - rows.length) with h|h
   ·exact h
   ·rw[List.getElem?_eq_none (by simp;omega)]at hr;cases hr
  have hj1:j - cs.length=0:=by omega
  rw[hj0]at hr;rw[hj1]at hc;cases hr;cases hc;exact key _ _ hx
theorem dK (H:AHeap)(L L':List Blk):ext (ext H L) L'=ext H (L++L'):=by
 unfold ext;simp only[List.length_append];congr 1
 ·funext j
  by_cases h1:H.next+L.length<=j/\j<H.next+L.length+L'.length
  ·rw[if_pos h1,if_pos (by omega),List.getElem?_append_right (by omega)];congr 1;omega
  ·rw[if_neg h1];by_cases h2:H.next<=j/\j<H.next+L.length
   ·rw[if_pos h2,if_pos (by omega),List.getElem?_append_left (by omega)]
   ·rw[if_neg h2,if_neg (by omega)]
 ·omega
structure Over (H H2:AHeap):Prop where
 next:H.next<=H2.next
 old:∀ id,id<H.next->H2.get id=H.get id
theorem Over.refl (H:AHeap):Over H H:=⟨Nat.le_refl _,fun _ _=>rfl⟩
theorem Over.trans {H H2 H3:AHeap}(a:Over H H2)(b:Over H2 H3):Over H H3 :=
 ⟨Nat.le_trans a.next b.next,fun id h=>(b.old id (Nat.lt_of_lt_of_le h a.next)).trans (a.old id h)⟩
theorem Over.ext (H:AHeap)(L:List Blk):Over H (ext H L):=⟨by simp [aR],fun id h=>dq H L id h⟩
def jh (H:AHeap)(n:Nat):AHeap:=⟨fun j=>if j<H.next then H.get j else none,H.next+n⟩
theorem rR (H:AHeap)(n:Nat):(jh H n).next=H.next+n:=rfl
theorem xm {H:AHeap}{n id:Nat}(h:id<H.next):(jh H n).get id=H.get id:=by simp [jh,h]
theorem Over.jh (H:AHeap)(n:Nat):Over H (jh H n):=⟨by simp [rR],fun id h=>xm h⟩
theorem Ko {H H2:AHeap}(hc:Clo H)(ho:Over H H2):FzH (fun id=>H.next<=id) H2 H where
 gone id hs:=by
  cases h:H.get id with
  | none=>rfl
  | some b=>have:=hc.lt id b h;omega
 kept id b hs hb:=by
  have hlt:id<H.next:=Nat.lt_of_not_le hs;rw[ho.old id hlt]at hb;have hbb:=hc.below id b hb;refine⟨hlt,b,hb,?_⟩;have hno:∀ i,i<H.next->¬ H.next<=i:=fun i h=>Nat.not_le_of_lt h;cases b with
  | rsv=>trivial
  | mp=>rfl
  | arr g e cells=>exact⟨rfl,rfl,rfl,fun i h _=>.refl (hbb i h) hno⟩
  | loop st pend n env ps asg body=>exact⟨rfl,rfl,rfl,rfl,rfl,rfl,rfl,fun t ht=>.refl (hbb t ht) hno⟩
 none id hs hb:=by
  rw[ho.old id (Nat.lt_of_not_le hs)]at hb;exact hb
theorem au.bG {H2:AHeap}(hG:fX G)(hc:Clo H)(ho:Over H H2){K:ARes->AHeap->Prop}{v v':AVal}(hv:Fz (fun id=>H.next<=id) H2 H.next v v')(hk:K (.ret v') H):au P G H K v H2 :=
 ⟨v',H,.freeze hG (Ko hc ho) hv,Nat.le_refl _,hk⟩
theorem Fz.old {H H2:AHeap}{nx:Nat}{v:AVal}(h:Below H.next v)(hn:H.next<=nx):Fz (fun id=>H.next<=id) H2 nx v v:=by
 induction h with
 | lit v=>exact .lit v
 | vec _ ih=>exact .vec rfl fun i h _=>ih i h
 | vptr _ ih=>exact .vptr rfl fun i h _=>ih i h
 | agg _ ih=>exact .agg rfl fun i h _=>ih i h
 | tup _ ih=>exact .tup rfl fun i h _=>ih i h
 | clo _ _ ih1 ih2=>exact .clo rfl rfl (fun i h _=>ih1 i h) fun i h _=>ih2 i h
 | own h=>exact .own (by omega) (by omega)
 | ptr h=>exact .ptr (by omega) (by omega)
 | yld h=>exact .yld (by omega) (by omega)
theorem Kp {H H2:AHeap}(hc:Clo H)(ho:Over H H2):FzH (fun id=>H.next<=id) H2 (jh H (H2.next - H.next)) where
 gone id hs:=by simp [jh,Nat.not_lt.2 hs]
 kept id b hs hb:=by
  have hlt:id<H.next:=Nat.lt_of_not_le hs;rw[ho.old id hlt]at hb;have hbb:=hc.below id b hb;refine⟨by rw[rR];omega,b,by rw[xm hlt];exact hb,?_⟩;cases b with
  | rsv=>trivial
  | mp=>rfl
  | arr g e cells=>exact⟨rfl,rfl,rfl,fun i h _=>.old (hbb i h) (by rw[rR];omega)⟩
  | loop st pend n env ps asg body=>exact⟨rfl,rfl,rfl,rfl,rfl,rfl,rfl,fun t ht=>.old (hbb t ht) (by rw[rR];omega)⟩
 none id hs hb:=by
  have hlt:=Nat.lt_of_not_le hs;rw[ho.old id hlt]at hb;rw[xm hlt];exact hb
theorem W.Kq {n:Nat}{rd:Option Nat}{Q:AX->St->Prop}{c:Code}{ρ ρ':Env}{H H2:AHeap}(hG:fX G)(hc:Clo H)(ho:Over H H2)(hv:∀ t,Fz (fun id=>H.next<=id) H2 H2.next (ρ t) (ρ' t))
  (hri:fu (jh H (H2.next - H.next)) rd) (h:W P G n rd c Q ⟨ρ',jh H (H2.next - H.next)⟩):W P G n rd c Q ⟨ρ,H2⟩:=by
 have hnx:(jh H (H2.next - H.next)).next=H2.next:=by rw[rR];have:=ho.next;omega
 refine W.Fj (s:=⟨ρ,H2⟩) (s':=⟨ρ',jh H (H2.next - H.next)⟩) (fM.freeze hG (Kp hc ho) fun t=>?_) (Nat.le_of_eq hnx.symm) hri h;show Fz _ H2 (jh H (H2.next - H.next)).next _ _;rw[hnx];exact hv t
theorem Fz.put {S:Nat->Prop}{H:AHeap}{nx d:Nat}{ρ ρ':Env}{v v':AVal}(h:∀ t,Fz S H nx (ρ t) (ρ' t))(hv:Fz S H nx v v'):∀ t,Fz S H nx (aM ρ (some d) v t) (aM ρ' (some d) v' t):=by
 intro t;simp only[aM];split
 ·exact hv
 ·exact h t
theorem Fz.Kr {S:Nat->Prop}{H:AHeap}{nx d:Nat}{ρ ρ':Env}{v v':AVal}(hv:Fz S H nx v v')(h:∀ t,Fz S H nx (ρ t) (ρ' t)):∀ t,Fz S H nx (aM ρ (some d) v t) (aM ρ' (some d) v' t):=.put h hv
theorem Fz.aK {S:Nat->Prop}{H:AHeap}{nx:Nat}(rows:List (List Int)):Fz S H nx (.vec rows.length (rows.map aj)) (.vec rows.length (rows.map aj)) :=
 .vec rfl fun i h _=>by simp only[List.getElem_map];exact .dR _
theorem Fz.env {S:Nat->Prop}{H:AHeap}{nx:Nat}{args args':List AVal}(hl:args'.length=args.length)(h:∀ i (h:i<args.length) (h':i<args'.length),Fz S H nx args[i] args'[i]):∀ t,Fz S H nx (eK args t) (eK args' t):=by
 intro t;rw[wT,wT];by_cases ht:t<args.length
 ·rw[List.getElem?_eq_getElem ht,List.getElem?_eq_getElem (by omega)];exact h t ht (by omega)
 ·rw[List.getElem?_eq_none (by omega),List.getElem?_eq_none (by omega)];exact .lit _
theorem Fz.Ks {H H2:AHeap}{nx:Nat}{args:List AVal}(h:∀ v,v∈args->Below H.next v)(hn:H.next<=nx):∀ t,Fz (fun id=>H.next<=id) H2 nx (eK args t) (eK args t) :=
 .env rfl fun i hi _=>.old (h _ (List.getElem_mem _)) hn
end Go.Hx
/-
  A law's parameters as abstract values, one by one. Own work: no program stands in this text.
-/
namespace Go.Hx
open Go.ChangeShapes Go.WideShapes Go.RowKit
variable {P:Program} {W:World} {H:Type} {enc:TypeId × Value->H} {spare:Nat->Bool} {held:Bool}
theorem hZ.mono {t:TypeId}{φ ψ:DataW H->List AVal->Prop}(h:hZ enc P W spare held t φ)(hm:∀ d as,φ d as->ψ d as):hZ enc P W spare held t ψ:=fun fuel cs x hx =>
 let ⟨as,h1,h2⟩:=h fuel cs x hx;⟨as,h1,hm _ _ h2⟩
def tF (k:IntKind)(l:List Int):List AVal:=l.map fun n=>.lit (.int k n)
theorem Am {α:Type}{φ:DataW H->List AVal->Prop}{f:α->List AVal}{q:α->Prop}(hφ:∀ d as,φ d as->∃ a,as=f a/\q a):∀ {rows:List (List AVal)} {ds:List (DataW H)},Ak φ ds rows ->
  ∃ l:List α,rows=l.map f/\∀ a,a∈l->q a:=by
 intro rows
 induction rows with
 | nil=>intro ds _;exact⟨[],rfl,fun a h=>by cases h⟩
 | cons r rows ih =>
  intro ds h;obtain⟨h1,h2⟩:=h;cases ds with
  | nil=>simp at h1
  | cons d ds =>
   obtain⟨a,ha,hq⟩:=hφ _ _ (h2 0 (by simp) (by simp));obtain⟨l,hl,hq2⟩:=ih (ds:=ds) ⟨by simpa using h1,fun i hi hi'=>h2 (i+1) (by simpa using hi) (by simpa using hi')⟩;refine⟨a :: l,by simp only[List.map_cons,<- hl];simp only[List.getElem_cons_zero]at ha;rw[ha],fun b hb=>?_⟩;rcases List.mem_cons.1 hb with rfl|hb
   ·exact hq
   ·exact hq2 b hb
theorem FA {α β:Type}(f:α->β)(l:List α):(l.map fun a=>[f a]).flatten=l.map f:=by
 induction l with
 | nil=>rfl
 | cons a l ih=>simp only[List.map_cons,List.flatten_cons,ih];rfl
theorem wN {t e:TypeId}{k:IntKind}(ht:P.underlying t=some (.slice e))(he:P.underlying e=some (.int k))(hc:P.cellsOf e=1):
  hZ enc P W spare held t fun _ as=>∃ l:List Int,as=[.vec l.length (tF k l)]/\l.length<=maxLen/\∀ c,c∈l->(Lit.int k c).wf=true :=
 (Al ht (by omega) (qa he)).mono fun d as h=>by
  rcases h with ⟨_,rfl⟩|⟨ds,rest,rows,_,rfl,hr,_,hl⟩
  ·exact⟨[],rfl,by decide,fun c h=>by cases h⟩
  ·obtain⟨l,rfl,hq⟩:=Am (f:=fun n=>[AVal.lit (.int k n)]) (q:=fun n=>(Lit.int k n).wf=true) (fun d as ⟨n,_,h2,h3⟩=>⟨n,h2,h3⟩) hr;refine⟨l,?_,by simpa using hl,hq⟩;rw[List.length_map];congr 2;exact FA _ l
theorem FB {r:Reach}{b:Nat}{t:TypeId}{v:Value}{d:DataW H}{ps:List MemPlace}{φ:DataW H->List AVal->Prop}(hop:hZ enc P W spare held t φ)
  (ht:(∃ fs,P.underlying t=some (.struct fs))\/∃ n e,P.underlying t=some (.array n e)) (hval:Value.okWide P W r b t v) (hd:DataW.Trod enc P W 0 spare held t v d ps):
  ∃ as,RelV P kQ dH W (.agg as) v/\φ d as:=by
 obtain⟨cs,rfl⟩:∃ cs,v=.agg cs:=by
  unfold Value.okWide at hval;rcases ht with ⟨fs,ht⟩|⟨n,e,ht⟩
  ·rw[ht]at hval;obtain⟨cs,h,_⟩:=hval;exact⟨cs,h⟩
  ·rw[ht]at hval;obtain⟨cs,h,_⟩:=hval;exact⟨cs,h⟩
 obtain⟨fuel,hf⟩:=hd;obtain⟨as,hr,hφ⟩:=hop _ _ _ hf;refine⟨as,?_,hφ⟩;have:=RelV.agg (P:=P) (Γ:=kQ) (H:=dH) (w:=W) (cells:=as) (cs:=cs.toList) hr.1 hr.2;simpa using this
theorem wf_u8 {n:Int}(h:(Lit.int .u8 n).wf=true):0<=n/\n<=255:=by
 simpa [Lit.wf,IntKind.min,IntKind.max,IntKind.signed,IntKind.bits] using h
end Go.Hx
/-
  The rules of a walk, gathered under one name. Own work: no program stands in this text.
-/
namespace Go.Hx
attribute [go_sem] List.replicate_one List.flatten_cons List.flatten_nil List.length_append List.append_nil Nat.sub_zero Bool.not_true Bool.not_false
attribute [go_sem] Bool.true_eq_false List.map_eq_nil_iff wX Int.le_refl decide_true decide_false eq_self List.getElem?_map
attribute [go_sem] F3 F4 F5 F6 F7 F8 F9 Ga
attribute [go_sem] Gb Gc Gd Ge Gg Gf Gh Gi
attribute [go_sem] Gj Gk Gl Gm FS FT FU FV
attribute [go_sem] FW FX FY FZ F1 F2 noGoto_normal noGoto_exit
attribute [go_sem] noGoto_ret noGoto_panic nt tM wS iu As FN
attribute [go_sem] FO Gw Gx HR HN HO HP HQ
attribute [go_sem] List.getElem?_toArray Option.bind_some HS HT HU HV HW HX
attribute [go_sem] HY HZ Ia Ib Ic Ie If Ig
attribute [go_sem] Ih Ii Ij Ik Il Im Io Ip
attribute [go_sem] Iq Ir Is It Iu I4 qh I5
attribute [go_sem] I6 I7 AH I9 Ja Jb Jc Jd
attribute [go_sem] Je Jf Jg Jh Ji Jj Jk List.set_cons_zero
attribute [go_sem] List.set_cons_succ Jl Jm Jn Jo Jp Jq Jr
attribute [go_sem] Js Jt Ju Jv Jw Jx Jy Jz
attribute [go_sem] JA JB JC JD JE JF JG
attribute [go_sem] rQ xh JH JI JJ JK JL
attribute [go_sem] JM JN JO JP JQ JR JS JT
attribute [go_sem] JU JV JW JX JY JZ J0 J1
attribute [go_sem] J2 J3 J4 J5 J6 J7 J8 J9
attribute [go_sem] Ka eE aT aa Int.toNat_natCast Int.natCast_nonneg aj List.all_cons
attribute [go_sem] List.all_nil Bool.and_true Nat.mul_one Iv Iw Ix Iy Iz
attribute [go_sem] IA IB IC ID IE IF IG
attribute [go_sem] II IJ IL IK
attribute [go_sem] IM IN IP IQ List.take_succ_cons List.take_zero
attribute [go_sem] List.take_nil List.drop_succ_cons List.drop_zero List.drop_nil List.forall_mem_cons List.not_mem_nil List.mem_cons List.mem_singleton
attribute [go_sem] or_false false_or or_true true_or not_or false_implies implies_true forall_const
attribute [go_sem] GA GB GC GE GF GG GH GI
attribute [go_sem] GJ GK GL GM GN GO GP GQ
attribute [go_sem] GR GS GT GU GV Bool.false_eq_true GW GX
attribute [go_sem] GY GZ G1 G2 G3 G4
attribute [go_sem] G5 G6 builtin_len builtin_append builtin_copy builtin_min builtin_max G7
attribute [go_sem] G8 G9 Hd Hh Hi Hl Hn Ho
attribute [go_sem] Hp Ht HE aR tR Av Aw wV
attribute [go_sem] HL wU HM HK List.map_cons List.map_nil if_true if_false
attribute [go_sem] ne_eq not_false_eq_true not_true_eq_false true_and and_true false_and and_false List.length_cons
attribute [go_sem] List.length_nil Nat.zero_add Nat.add_zero Option.isSome_some List.append_assoc List.cons_append List.nil_append Option.map_some
attribute [go_sem] Option.map_none fu wT List.getElem?_cons_zero List.getElem?_cons_succ List.getElem?_nil Option.getD_some Option.getD_none
attribute [go_sem] Gn Gp Gq Gr Gs Gt Gu Gv
attribute [go_sem] Kd Ke Kf Int.natCast_zero Int.cast_ofNat_Int Kl Km
attribute [go_sem] HH HI Kj Kk Kn Kg Kh bF Nat.le_refl
end Go.Hx
/-
  Slices of a call's own, by what lies in the heap; blocks let go at a call. Own work: no program stands in this text.
-/
namespace Go.Hx
variable {P:Program} {G:Nat->Option (List AVal)} {H H':AHeap}
def AHeap.cut (H:AHeap)(n:Nat):AHeap:=⟨fun j=>if j<n then H.get j else none,H.next⟩
theorem t9 {n id:Nat}(h:id<n):(H.cut n).get id=H.get id:=by simp [AHeap.cut,h]
theorem Kt {n id:Nat}(h:n<=id):(H.cut n).get id=none:=by simp [AHeap.cut,Nat.not_lt.2 h]
theorem Over.cut {B:AHeap}(h:Over B H):Over B (H.cut B.next):=⟨h.next,fun id hi=>(t9 hi).trans (h.old id hi)⟩
open Classical in
theorem Fz.dead {S:Nat->Prop}{H:AHeap}{nx:Nat}{v:AVal}(h:Below nx v):Fz S H nx v v:=by
 induction h with
 | lit v=>exact .lit v
 | vec _ ih=>exact .vec rfl fun i h _=>ih i h
 | vptr _ ih=>exact .vptr rfl fun i h _=>ih i h
 | agg _ ih=>exact .agg rfl fun i h _=>ih i h
 | tup _ ih=>exact .tup rfl fun i h _=>ih i h
 | clo _ _ ih1 ih2=>exact .clo rfl rfl (fun i h _=>ih1 i h) fun i h _=>ih2 i h
 | @own id _ _ _ _ h=>by_cases hs:S id;exact .deadOwn h hs;exact .own h hs
 | @ptr id _ _ h=>by_cases hs:S id;exact .deadPtr h hs;exact .ptr h hs
 | @yld id h=>by_cases hs:S id;exact .deadYld h hs;exact .yld h hs
theorem Ku (hc:Clo H)(n:Nat):FzH (fun id=>n<=id) H (H.cut n) where
 gone id hs:=Kt hs
 kept id b hs hb:=by
  have hlt:id<n:=Nat.lt_of_not_le hs;have hbb:=hc.below id b hb;refine⟨hc.lt id b hb,b,by rw[t9 hlt];exact hb,?_⟩;cases b with
  | rsv=>trivial
  | mp=>rfl
  | arr g e cells=>exact⟨rfl,rfl,rfl,fun i h _=>.dead (hbb i h)⟩
  | loop st pend n env ps asg body=>exact⟨rfl,rfl,rfl,rfl,rfl,rfl,rfl,fun t ht=>.dead (hbb t ht)⟩
 none id hs hb:=by rw[t9 (Nat.lt_of_not_le hs)];exact hb
theorem ae.lu {f:FuncId}{args args':List AVal}{K:ARes->AHeap->Prop}(n:Nat)(hG:fX G)(hl:args'.length=args.length)(hv:∀ i (h:i<args.length) (h':i<args'.length),Fz (fun id=>n<=id) H H.next args[i] args'[i])
  (h:ae P G f args' (H.cut n) K):ae P G f args H K:=by
 refine⟨h.1,fun Γ w cargs R hr=>?_⟩;have F:=Ku R.clo n;have R0:=F.rel hG R;have E0:Evo Γ H w (fW (fun id=>n<=id) Γ) (H.cut n) w:=F.bn;refine(h.2 _ w cargs R0 ⟨by have:=hr.1;omega,fun i h1 h2=>(hv i (by omega) h1).sound R F (hr.2 i (by omega) h2)⟩).mono ?_;rintro e w' ⟨r,H',Γ',h1,h2,h3,h4,h5⟩;exact⟨r,H',Γ',h1,h2,h3,E0.trans (Nat.le_refl _) h4,h5⟩
theorem aA.lu {f:FuncId}{args args':List AVal}{K:ARes->AHeap->Prop}(n:Nat)(hG:fX G)(hl:args'.length=args.length)(hv:∀ i (h:i<args.length) (h':i<args'.length),Fz (fun id=>n<=id) H H.next args[i] args'[i])
  (h:ae P G f args' (H.cut n) K):aA P G (.clo f [] []) args H K:=by
 refine aA.clo (by simpa using ae.lu n hG hl hv h)
def aF (lo:Nat)(H:AHeap)(e:TypeId)(v:AVal)(cs:List AVal):Prop :=
 (v=.lit (.slice none 0 0)/\cs=[])\/∃ id g,lo<=id/\id<H.next/\v=.own id g 0 cs.length 1/\H.get id=some (.arr g e cs)
theorem aF.nil {lo:Nat}{e:TypeId}:aF lo H e (.lit (.slice none 0 0)) []:=.inl ⟨rfl,rfl⟩
theorem aF.keep {lo lo':Nat}{e:TypeId}{v:AVal}{cs:List AVal}(h:aF lo H e v cs)(hl:lo'<=lo)(hn:H.next<=H'.next)(hk:∀ id g,lo<=id->id<H.next->H.get id=some (.arr g e cs)->v=.own id g 0 cs.length 1->H'.get id=H.get id):aF lo' H' e v cs:=by
 rcases h with h|⟨id,g,h1,h2,h3,h4⟩
 ·exact .inl h
 ·exact .inr ⟨id,g,by omega,by omega,h3,by rw[hk id g h1 h2 h4 h3];exact h4⟩
theorem aF.over {lo:Nat}{e:TypeId}{v:AVal}{cs:List AVal}(h:aF lo H e v cs)(ho:Over H H'):aF lo H' e v cs:=h.keep (Nat.le_refl _) ho.next fun id _ _ h2 _ _=>ho.old id h2
theorem aF.one {lo:Nat}{e:TypeId}{v:AVal}{cs:List AVal}(h:aF lo H e v cs):v.one=true:=by
 rcases h with ⟨rfl,_⟩|⟨_,_,_,_,rfl,_⟩<;>rfl
theorem aF.cells {lo:Nat}{e:TypeId}{v:AVal}{cs:List AVal}(h:aF lo H e v cs):v.cells=[v]:=by
 rcases h with ⟨rfl,_⟩|⟨_,_,_,_,rfl,_⟩<;>rfl
theorem aF.fz {S:Nat->Prop}{lo nx:Nat}{e:TypeId}{v:AVal}{cs cs':List AVal}(h:aF lo H e v cs)(hS:∀ i,lo<=i->S i)(hl:cs'.length=cs.length)
  (hc:∀ i (h:i<cs.length) (h':i<cs'.length),Fz S H nx cs[i] cs'[i]):Fz S H nx v (.vec cs'.length cs'):=by
 rcases h with ⟨rfl,rfl⟩|⟨id,g,h1,_,rfl,h4⟩
 ·obtain rfl:=List.eq_nil_of_length_eq_zero hl;exact .nil
 ·rw[hl];refine .frz (hS id h1) h4 (by omega) fun j hj h2 h'=>?_;simp only[Nat.zero_add]at h2 ⊢;exact hc j h2 h'
theorem aF.iw {S:Nat->Prop}{lo nx:Nat}{e:TypeId}{v:AVal}{l:List Int}(h:aF lo H e v (ints l))(hS:∀ i,lo<=i->S i):Fz S H nx v (aj l):=by
 have:=h.fz (S:=S) (nx:=nx) (cs':=ints l) hS rfl fun i hi _=>by simp only[ints,List.getElem_map];exact .lit _
 rw[aT]at this;exact this
theorem aF.new {e:TypeId}{cs:List AVal}:aF H.next (ext H [.arr 0 e cs]) e (.own H.next 0 0 cs.length 1) cs :=
 .inr ⟨H.next,0,Nat.le_refl _,by simp [aR],rfl,by simpa using ba H [.arr 0 e cs] 0 (by simp)⟩
theorem bC {b:Blk}{id:Nat}(h:id<H.next):(ext H [b]).get id=H.get id:=dq H [b] id h
theorem bJ {b:Blk}:(ext H [b]).get H.next=some b:=by simpa using ba H [b] 0 (by simp)
theorem uc {n:Nat}{b:Blk}(h:n=H.next):H.lay n b=some (ext H [b]):=by subst h;exact tR H b
theorem ud {t e:TypeId}{lo n:Nat}{v:AVal}{cs src:List AVal}{z:List AVal}(ht:P.underlying t=some (.slice e))(hz:P.cellsOf e=1)(hzero:cu P e=some z)(hx:src.all AVal.one=true)
  (hb:(cs.length+src.length)*P.bytesOf e<=2 ^ 46/\cs.length+src.length<=2 ^ 46) (ho:aF lo H e v cs) (hlo:lo<=H.next) (hn:n=H.next):
  ∃ v' H',bX P H n t t v (.vec src.length src)=some (v',H')/\aF lo H' e v' (cs++src)/\H.next<=H'.next/\(∀ k,k<H.next->(∀ g n,v≠.own k g 0 n 1)->H'.get k=H.get k):=by
 have hsrc:da H 1 (.vec src.length src)=some (src.length,src):=by
  unfold da;simp
 by_cases h0:src.length=0
 ·have e0:src=[]:=List.eq_nil_of_length_eq_zero h0;subst e0;refine⟨v,H,?_,?_,Nat.le_refl _,fun _ _ _=>rfl⟩
  ·rcases ho with ⟨rfl,rfl⟩|⟨i,g,h1,h2,rfl,h4⟩
   ·unfold bX;rw[ht];simp only[hzero,hz,Option.bind_some];rw[hsrc];rfl
   ·unfold bX;rw[ht];have hl:=af h4;simp only[hzero,hz,Option.bind_some,hsrc,hl];rw[if_pos ⟨trivial,trivial,by omega,hb.1,hb.2,rfl⟩];simp
  ·rw[List.append_nil];exact ho
 rcases ho with ⟨rfl,rfl⟩|⟨i,g,h1,h2,rfl,h4⟩
 ·refine⟨.own H.next 0 0 src.length 1,ext H [.arr 0 e src],?_,.inr ⟨H.next,0,hlo,by simp [aR],by simp,by simpa using bJ⟩,by simp [aR],fun k hk _=>bC hk⟩;unfold bX;rw[ht];simp only[hzero,hz,Option.bind_some,hsrc];rw[if_neg h0,if_pos (by simpa using hb),uc hn,hn];rfl
 ·refine⟨.own i (g+1) 0 (cs.length+src.length) 1,H.upd i (.arr (g+1) e (cs++src)),?_,.inr ⟨i,g+1,h1,h2,by simp,by rw[ah,if_pos rfl]⟩,Nat.le_refl _,fun k hk hne=>?_⟩
  ·unfold bX;rw[ht];have hl:=af h4;simp only[hzero,hz,Option.bind_some,hsrc,hl];rw[if_pos ⟨trivial,trivial,by omega,hb.1,hb.2,hx⟩,if_neg h0];simp
  ·rw[ah,if_neg];rintro rfl;exact hne _ _ rfl
theorem ji {t e:TypeId}{lo n:Nat}{v x:AVal}{cs:List AVal}{z:List AVal}(ht:P.underlying t=some (.slice e))(hz:P.cellsOf e=1)(hzero:cu P e=some z)(hx:x.one=true)
  (hb:(cs.length+1)*P.bytesOf e<=2 ^ 46/\cs.length+1<=2 ^ 46) (ho:aF lo H e v cs) (hlo:lo<=H.next) (hn:n=H.next+1):
  ∃ v' H',bX P (ext H [.arr 0 e [x]]) n t t v (.own H.next 0 0 1 1)=some (v',H')/\aF lo H' e v' (cs++[x])/\H.next<=H'.next/\(∀ k,k<H.next->(∀ g n,v≠.own k g 0 n 1)->H'.get k=H.get k):=by
 have hsrc:da (ext H [.arr 0 e [x]]) 1 (.own H.next 0 0 1 1)=some (1,[x]):=by
  unfold da;have:=af (H:=ext H [.arr 0 e [x]]) (g:=0) (bJ (b:=.arr 0 e [x]));simp [this]
 have hne:(ext H [Blk.arr 0 e [x]]).next=H.next+1:=rfl;rcases ho with ⟨rfl,rfl⟩|⟨i,g,h1,h2,rfl,h4⟩
 ·refine⟨.own (H.next+1) 0 0 1 1,ext (ext H [.arr 0 e [x]]) [.arr 0 e [x]],?_,.inr ⟨H.next+1,0,by omega,by simp [aR],by simp,?_⟩,by simp [aR];omega,fun k hk _=>?_⟩
  ·unfold bX;rw[ht];simp only[hzero,hz,Option.bind_some,hsrc];rw[if_neg (by decide),if_pos (by simpa using hb),uc (by rw[hn,hne]),hn];rfl
  ·rw[<- hne];exact bJ
  ·rw[bC (by rw[hne];omega),bC hk]
 ·have h4':(ext H [.arr 0 e [x]]).get i=some (.arr g e cs):=by rw[bC h2];exact h4
  refine⟨.own i (g+1) 0 (cs.length+1) 1,(ext H [.arr 0 e [x]]).upd i (.arr (g+1) e (cs++[x])),?_,.inr ⟨i,g+1,h1,by rw[aD,hne];omega,by simp,by rw[ah,if_pos rfl]⟩,by rw[aD,hne];omega,fun k hk hne=>?_⟩
  ·unfold bX;rw[ht];have hl:=af h4';simp only[hzero,hz,Option.bind_some,hsrc,hl];rw[if_pos ⟨trivial,trivial,by omega,hb.1,hb.2,by simp [hx]⟩];simp
  ·rw[ah,if_neg,bC hk];rintro rfl;exact hne _ _ rfl
def jw (lo:Nat)(H:AHeap)(e1 e0:TypeId)(v:AVal)(rows:List (List AVal)):Prop :=
 ∃ cs:List AVal,aF lo H e1 v cs/\cs.length=rows.length/\∀ (j:Nat) (r:List AVal) (c:AVal),rows[j]?=some r->cs[j]?=some c->aF lo H e0 c r
theorem jw.nil {lo:Nat}{e1 e0:TypeId}:jw lo H e1 e0 (.lit (.slice none 0 0)) []:=⟨[],.nil,rfl,fun j r c h=>by simp at h⟩
theorem jw.over {lo:Nat}{e1 e0:TypeId}{v:AVal}{rows:List (List AVal)}(h:jw lo H e1 e0 v rows)(ho:Over H H'):jw lo H' e1 e0 v rows:=by
 obtain⟨cs,c1,c2,c3⟩:=h;exact⟨cs,c1.over ho,c2,fun j r c hr hc=>(c3 j r c hr hc).over ho⟩
theorem jw.fz {S:Nat->Prop}{lo nx:Nat}{e1 e0:TypeId}{v:AVal}{rows rows':List (List AVal)}(h:jw lo H e1 e0 v rows)(hS:∀ i,lo<=i->S i)(hl:rows'.length=rows.length)
  (hr:∀ (j:Nat) (r r':List AVal),rows[j]?=some r->rows'[j]?=some r'->r'.length=r.length/\∀ i (h:i<r.length) (h':i<r'.length),Fz S H nx r[i] r'[i]):
  Fz S H nx v (.vec rows'.length (rows'.map fun r=>.vec r.length r)):=by
 obtain⟨cs,h1,h2,h3⟩:=h;have:=h1.fz (S:=S) (nx:=nx) (cs':=rows'.map fun r=>.vec r.length r) hS (by simp [h2,hl]) fun i hi hi'=>by
  simp only[List.getElem_map];have hi2:i<rows.length:=by omega
  have hi3:i<rows'.length:=by omega
  obtain⟨a1,a2⟩:=hr i rows[i] rows'[i] (List.getElem?_eq_getElem hi2) (List.getElem?_eq_getElem hi3);exact(h3 i rows[i] cs[i] (List.getElem?_eq_getElem hi2) (List.getElem?_eq_getElem hi)).fz (S:=S) (nx:=nx) (cs':=rows'[i]) hS a1 a2
 rw[List.length_map]at this;exact this
theorem aF.t8 {lo lo':Nat}{e e':TypeId}{v u:AVal}{cs cs':List AVal}(hv:aF lo H e v cs)(hu:aF lo' H e' u cs')(hne:e≠e')(hn:H.next<=H'.next)
  (hp:∀ k,k<H.next->(∀ g n,v≠.own k g 0 n 1)->H'.get k=H.get k):aF lo' H' e' u cs':=by
 refine hu.keep (Nat.le_refl _) hn fun i g h1 h2 h3 _=>hp i h2 fun g' n he=>?_;rcases hv with ⟨rfl,_⟩|⟨j,g2,_,_,rfl,h4⟩
 ·cases he
 ·have:=AVal.own.inj he;obtain rfl:j=i:=this.1;rw[h3]at h4;cases h4;exact hne rfl
theorem jw.app {lo n:Nat}{e1 e0:TypeId}{v x:AVal}{rows:List (List AVal)}{r:List AVal}{t:TypeId}{z:List AVal}(ht:P.underlying t=some (.slice e1))(hz:P.cellsOf e1=1)(hzero:cu P e1=some z)(hby:P.bytesOf e1=24)(hne:e1≠e0)
  (hb:rows.length<2 ^ 40) (h:jw lo H e1 e0 v rows) (hlo:lo<=H.next) (hx:aF lo H e0 x r) (hn:n=H.next+1):
  ∃ v' H',bX P (ext H [.arr 0 e1 [x]]) n t t v (.own H.next 0 0 1 1)=some (v',H')/\jw lo H' e1 e0 v' (rows++[r])/\H.next<=H'.next/\(∀ k,k<H.next->k<lo->H'.get k=H.get k):=by
 obtain⟨cs,h1,h2,h3⟩:=h;obtain⟨v',H',hA,hO,hL,hp⟩:=ji (t:=t) ht hz hzero hx.one (by rw[hby,h2];omega) h1 hlo hn;refine⟨v',H',hA,⟨cs++[x],hO,by simp [h2],fun j r' c hr hc=>?_⟩,hL,fun k hk hkl=>hp k hk fun g n he=>?_⟩
 ·have key:∀ u l,aF lo H e0 u l->aF lo H' e0 u l:=fun u l hu=>h1.t8 hu hne hL hp;rcases Nat.lt_or_ge j rows.length with hj|hj
  ·rw[List.getElem?_append_left hj]at hr;rw[List.getElem?_append_left (by omega)]at hc;exact key _ _ (h3 j r' c hr hc)
  ·rw[List.getElem?_append_right hj]at hr;rw[List.getElem?_append_right (by omega)]at hc;have hj0:j - rows.length=0:=by
    rcases Nat.eq_zero_or_pos (j - rows.length) with h|h
    ·exact h
    ·rw[List.getElem?_eq_none (by simp;omega)]at hr;cases hr
   have hj1:j - cs.length=0:=(by omega);rw[hj0]at hr;rw[hj1]at hc;cases hr;cases hc;exact key _ _ hx
 ·rcases h1 with ⟨rfl,_⟩|⟨i,g2,a1,_,rfl,_⟩
  ·cases he
  ·have:=AVal.own.inj he;omega
attribute [go_sem] Int.reduceToNat Int.reduceLE Int.reduceLT Int.reduceAdd Int.reduceSub Int.reduceMul Int.reduceEq Int.reduceNe Nat.reduceEqDiff Nat.reducePow Nat.reduceDiv Nat.reduceMod Nat.reduceAdd Nat.reduceMul Nat.reduceSub Nat.reduceLT Nat.reduceLeDiff reduceIte reduceCtorEq
end Go.Hx
