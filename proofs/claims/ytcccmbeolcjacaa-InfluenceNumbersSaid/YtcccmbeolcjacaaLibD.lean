/-
  More rules for the simplifier: conversions, heaps known by what lies in them, slices of slices. Own work: no program stands in this text.
-/
import Derived.Test.YtcccmbeolcjacaaLibC
set_option linter.all false
namespace Go.Hx
variable {P : Program} {G : Nat→Option (List AVal)} {H : AHeap}

def convU (P : Program) (s d : TypeId) (x : Bool) (y : Option TypeDesc) (v : AVal) : Option AVal :=
 if x=true then (match y,v with
  | some (.int k'),.lit (.int _ a)=>some (.lit (.int k' (k'.wrap a)))
  | _,_=>convA P s d v) else convA P s d v
theorem convA_U (s d : TypeId) (v : AVal) : convA P s d v=convU P s d (P.underlying s).isSome (P.underlying d) v:=by
 unfold convU
 split
 ·rename_i hs
  split
  ·rename_i k' k a hd
   exact conv_int hs hd
  ·rfl
 ·rfl
theorem convU_int (s d : TypeId) (k k' : IntKind) (a : Int) : convU P s d true (some (.int k')) (.lit (.int k a))=some (.lit (.int k' (k'.wrap a))):=rfl
def idxGU (P : Program) (d : Option TypeDesc) (cells : List AVal) (i : Int) : Option AVal:=match d with
 | some (.array n e)=>if 0≤i∧i<(n : Int) then partA P e cells (i.toNat*P.cellsOf e) else none
 | _=>none
theorem indexA_agg (t : TypeId) (cells : List AVal) (k : IntKind) (i : Int) : indexA P t (.agg cells) (.lit (.int k i))=idxGU P (P.underlying t) cells i:=rfl
theorem idxGU_array (n : Nat) (e : TypeId) (cells : List AVal) (i : Int) : idxGU P (some (.array n e)) cells i=if 0≤i∧i<(n : Int) then partA P e cells (i.toNat*P.cellsOf e) else none:=rfl
theorem get_live {id g : Nat} {e : TypeId} {c : List AVal} (h : H.get id=some (.arr g e c)) : H.live id g=some (e,c):=by
 unfold AHeap.live;rw [h];simp
theorem upd_next (a : Nat) (x : Blk) : (H.upd a x).next=H.next:=rfl
theorem ext_live_old {L : List Blk} {id g : Nat} (h : id<H.next) : (ext H L).live id g=H.live id g:=by
 unfold AHeap.live;rw [get_ext_old H L id h]
def OwnN (H : AHeap) (L : List Blk) (e1 e0 : TypeId) (v : AVal) (rows : List (List AVal)) : Prop :=
 ∃ cs : List AVal,OwnC H L e1 0 L.length v cs∧cs.length=rows.length∧∀ (j : Nat) (r : List AVal) (c : AVal),rows[j]?=some r→cs[j]?=some c→OwnC H L e0 0 L.length c r
theorem OwnN.nil {L : List Blk} {e1 e0 : TypeId} : OwnN H L e1 e0 (.lit (.slice none 0 0)) []:=⟨[],.nil,rfl,fun j r c h=>by simp at h⟩
theorem OwnC.lt {L : List Blk} {e : TypeId} {lo hi i g n z : Nat} {cs : List AVal} (h : OwnC H L e lo hi (.own (H.next+i) g 0 n z) cs) : i<L.length∧L[i]?=some (.arr g e cs)∧n=cs.length∧z=1:=by
 rcases h with ⟨h,_⟩|⟨j,g2,_,_,h3,h4⟩
 ·cases h
 ·have:=AVal.own.inj h3
  obtain rfl : i=j:=by omega
  obtain ⟨_,rfl,_,rfl,rfl⟩:=this
  refine ⟨?_,h4,rfl,rfl⟩
  rcases Nat.lt_or_ge i L.length with h|h
  ·exact h
  ·rw [List.getElem?_eq_none h] at h4;cases h4
theorem OwnC.otherE {L L' : List Blk} {e e' : TypeId} {lo hi lo' hi' : Nat} {v u : AVal} {cs cs' : List AVal} (hv : OwnC H L e lo hi v cs) (hu : OwnC H L e' lo' hi' u cs') (hne : e≠e') (hh : hi'≤L.length)
  (hp : ∀ k,k<L.length→(∀ g n,v≠.own (H.next+k) g 0 n 1)→L'[k]?=L[k]?) : OwnC H L' e' lo' hi' u cs':=by
 refine hu.keep (Nat.le_refl _) (Nat.le_refl _) fun i g h1 h2 h3=>hp i (by omega) fun g' n he=>?_
 rcases hv with ⟨rfl,_⟩|⟨j,g2,_,_,rfl,h4⟩
 ·cases he
 ·have hj : j=i:=by
   have:=AVal.own.inj he
   omega
  subst hj
  rw [h3] at h4
  cases h4
  exact hne rfl
theorem OwnC.oneE {L : List Blk} {e : TypeId} {lo hi : Nat} {v : AVal} {cs : List AVal} (hv : OwnC H L e lo hi v cs) : v.one=true:=by
 rcases hv with ⟨rfl,_⟩|⟨_,_,_,_,rfl,_⟩<;>rfl
theorem OwnC.cellsE {L : List Blk} {e : TypeId} {lo hi : Nat} {v : AVal} {cs : List AVal} (hv : OwnC H L e lo hi v cs) : v.cells=[v]:=by
 rcases hv with ⟨rfl,_⟩|⟨_,_,_,_,rfl,_⟩<;>rfl
theorem OwnC.other {L L' : List Blk} {e e' : TypeId} {lo hi lo' hi' : Nat} {v u : AVal} {cs cs' : List AVal} (hv : OwnC H L e lo hi v cs) (hu : OwnC H L e' lo' hi' u cs') (hne : e≠e') (hh : hi'≤L.length)
  (hp : ∀ k,k<L.length→(∀ g n,v≠.own (H.next+k) g 0 n 1)→L'[k]?=L[k]?) : OwnC H L' e' lo' hi' u cs':=hv.otherE hu hne hh hp
theorem OwnC.one {L : List Blk} {e : TypeId} {lo hi : Nat} {v : AVal} {cs : List AVal} (hv : OwnC H L e lo hi v cs) : v.one=true:=hv.oneE
theorem OwnC.cells {L : List Blk} {e : TypeId} {lo hi : Nat} {v : AVal} {cs : List AVal} (hv : OwnC H L e lo hi v cs) : v.cells=[v]:=hv.cellsE
theorem OwnN.keep {L L' : List Blk} {e1 e0 : TypeId} {v : AVal} {rows : List (List AVal)} (h : OwnN H L e1 e0 v rows) (hl : L.length≤L'.length) (hk : ∀ i,i<L.length→L'[i]?=L[i]?) : OwnN H L' e1 e0 v rows:=by
 obtain ⟨cs,c1,c2,c3⟩:=h
 exact ⟨cs,c1.keep (Nat.le_refl _) hl fun i _ _ hi _=>hk i hi,c2,fun j r c hr hc=>(c3 j r c hr hc).keep (Nat.le_refl _) hl fun i _ _ hi _=>hk i hi⟩
theorem OwnN.fz {S : Nat→Prop} {L : List Blk} {e1 e0 : TypeId} {v : AVal} {rows rows' : List (List AVal)} {nx : Nat} (h : OwnN H L e1 e0 v rows) (hS : ∀ i,S (H.next+i)) (hl : rows'.length=rows.length)
  (hr : ∀ (j : Nat) (r r' : List AVal),rows[j]?=some r→rows'[j]?=some r'→r'.length=r.length∧∀ i (h : i<r.length) (h' : i<r'.length),Fz S (ext H L) nx r[i] r'[i]) :
  Fz S (ext H L) nx v (.vec rows'.length (rows'.map fun r=>.vec r.length r)):=by
 obtain ⟨cs,h1,h2,h3⟩:=h
 have:=h1.fz (S:=S) (nx:=nx) (cs':=rows'.map fun r=>.vec r.length r) hS (by simp [h2,hl]) fun i hi hi'=>by
  simp only [List.getElem_map]
  have hi2 : i<rows.length:=by omega
  have hi3 : i<rows'.length:=by omega
  obtain ⟨a1,a2⟩:=hr i rows[i] rows'[i] (List.getElem?_eq_getElem hi2) (List.getElem?_eq_getElem hi3)
  exact (h3 i rows[i] cs[i] (List.getElem?_eq_getElem hi2) (List.getElem?_eq_getElem hi)).fz (S:=S) (nx:=nx) (cs':=rows'[i]) hS a1 a2
 rw [List.length_map] at this
 exact this
/-- A row appended. -/
theorem OwnN.app {L : List Blk} {e1 e0 : TypeId} {v x : AVal} {rows : List (List AVal)} {r : List AVal} {t : TypeId} {z : List AVal} (ht : P.underlying t=some (.slice e1)) (hz : P.cellsOf e1=1) (hzero : zeroA P e1=some z) (hby : P.bytesOf e1=24) (hne : e1≠e0)
  (hb : rows.length<2 ^ 40) (h : OwnN H L e1 e0 v rows) (hx : OwnC H L e0 0 L.length x r) :
  ∃ v' L',appendA P (ext H (L++[.arr 0 e1 [x]])) (H.next+(L.length+1)) t t v (.own (H.next+L.length) 0 0 1 1)=some (v',ext H L')∧OwnN H L' e1 e0 v' (rows++[r])∧L.length≤L'.length:=by
 obtain ⟨cs,h1,h2,h3⟩:=h
 obtain ⟨v',L',hA,hO,hL,hp⟩:=app_one (t:=t) ht hz hzero hx.oneE (by rw [hby,h2];omega) h1 (Nat.zero_le _) (Nat.le_refl _)
 refine ⟨v',L',hA,⟨cs++[x],hO,by simp [h2],fun j r' c hr hc=>?_⟩,hL⟩
 have key : ∀ u l,OwnC H L e0 0 L.length u l→OwnC H L' e0 0 L'.length u l:=fun u l hu=>(h1.otherE hu hne (Nat.le_refl _) hp).keep (Nat.le_refl _) hL fun _ _ _ _ _=>rfl
 rcases Nat.lt_or_ge j rows.length with hj|hj
 ·rw [List.getElem?_append_left hj] at hr
  rw [List.getElem?_append_left (by omega)] at hc
  exact key _ _ (h3 j r' c hr hc)
 ·rw [List.getElem?_append_right hj] at hr
  rw [List.getElem?_append_right (by omega)] at hc
  have hj0 : j - rows.length=0:=by
   rcases Nat.eq_zero_or_pos (j - rows.length) with h|h
   ·exact h
   ·rw [List.getElem?_eq_none (by simp;omega)] at hr;cases hr
  have hj1 : j - cs.length=0:=by omega
  rw [hj0] at hr
  rw [hj1] at hc
  cases hr
  cases hc
  exact key _ _ hx
theorem ext_ext (H : AHeap) (L L' : List Blk) : ext (ext H L) L'=ext H (L++L'):=by
 unfold ext
 simp only [List.length_append]
 congr 1
 ·funext j
  by_cases h1 : H.next+L.length≤j∧j<H.next+L.length+L'.length
  ·rw [if_pos h1,if_pos (by omega),List.getElem?_append_right (by omega)]
   congr 1
   omega
  ·rw [if_neg h1]
   by_cases h2 : H.next≤j∧j<H.next+L.length
   ·rw [if_pos h2,if_pos (by omega),List.getElem?_append_left (by omega)]
   ·rw [if_neg h2,if_neg (by omega)]
 ·omega

structure Over (H H2 : AHeap) : Prop where
 next : H.next≤H2.next
 old : ∀ id,id<H.next→H2.get id=H.get id
theorem Over.refl (H : AHeap) : Over H H:=⟨Nat.le_refl _,fun _ _=>rfl⟩
theorem Over.trans {H H2 H3 : AHeap} (a : Over H H2) (b : Over H2 H3) : Over H H3 :=
 ⟨Nat.le_trans a.next b.next,fun id h=>(b.old id (Nat.lt_of_lt_of_le h a.next)).trans (a.old id h)⟩
theorem Over.ext (H : AHeap) (L : List Blk) : Over H (ext H L):=⟨by simp [ext_next],fun id h=>get_ext_old H L id h⟩
theorem fzH_over {H H2 : AHeap} (hc : Clo H) (ho : Over H H2) : FzH (fun id=>H.next≤id) H2 H where
 gone id hs:=by
  cases h : H.get id with
  | none=>rfl
  | some b=>have:=hc.lt id b h;omega
 kept id b hs hb:=by
  have hlt : id<H.next:=Nat.lt_of_not_le hs
  rw [ho.old id hlt] at hb
  have hbb:=hc.below id b hb
  refine ⟨hlt,b,hb,?_⟩
  have hno : ∀ i,i<H.next→¬ H.next≤i:=fun i h=>Nat.not_le_of_lt h
  cases b with
  | rsv=>trivial
  | mp=>rfl
  | arr g e cells=>exact ⟨rfl,rfl,rfl,fun i h _=>.refl (hbb i h) hno⟩
  | loop st pend n env ps asg body=>exact ⟨rfl,rfl,rfl,rfl,rfl,rfl,rfl,fun t ht=>.refl (hbb t ht) hno⟩
 none id hs hb:=by
  rw [ho.old id (Nat.lt_of_not_le hs)] at hb
  exact hb
theorem FinV.dropO {H2 : AHeap} (hG : GOk G) (hc : Clo H) (ho : Over H H2) {K : ARes→AHeap→Prop} {v v' : AVal} (hv : Fz (fun id=>H.next≤id) H2 H.next v v') (hk : K (.ret v') H) : FinV P G H K v H2 :=
 ⟨v',H,.freeze hG (fzH_over hc ho) hv,Nat.le_refl _,hk⟩
/-- Values below a heap stay what they are when the blocks behind it fall out. -/
theorem Fz.old {H H2 : AHeap} {nx : Nat} {v : AVal} (h : Below H.next v) (hn : H.next≤nx) : Fz (fun id=>H.next≤id) H2 nx v v:=by
 induction h with
 | lit v=>exact .lit v
 | vec _ ih=>exact .vec rfl fun i h _=>ih i h
 | vptr _ ih=>exact .vptr rfl fun i h _=>ih i h
 | agg _ ih=>exact .agg rfl fun i h _=>ih i h
 | tup _ ih=>exact .tup rfl fun i h _=>ih i h
 | clo _ _ ih1 ih2=>exact .clo rfl rfl (fun i h _=>ih1 i h) fun i h _=>ih2 i h
 | own h=>exact .own (by omega) (by omega)
 | ptr h=>exact .ptr (by omega) (by omega)
 | yld h=>exact .yld (by omega) (by omega)
theorem Fz.put {S : Nat→Prop} {H : AHeap} {nx d : Nat} {ρ ρ' : Env} {v v' : AVal} (h : ∀ t,Fz S H nx (ρ t) (ρ' t)) (hv : Fz S H nx v v') : ∀ t,Fz S H nx (putA ρ (some d) v t) (putA ρ' (some d) v' t):=by
 intro t
 simp only [putA]
 split
 ·exact hv
 ·exact h t
theorem Fz.vecV {S : Nat→Prop} {H : AHeap} {nx : Nat} (rows : List (List Int)) : Fz S H nx (.vec rows.length (rows.map vecI)) (.vec rows.length (rows.map vecI)) :=
 .vec rfl fun i h _=>by simp only [List.getElem_map];exact .keepInts _
theorem Fz.env {S : Nat→Prop} {H : AHeap} {nx : Nat} {args args' : List AVal} (hl : args'.length=args.length) (h : ∀ i (h : i<args.length) (h' : i<args'.length),Fz S H nx args[i] args'[i]) : ∀ t,Fz S H nx (envOf args t) (envOf args' t):=by
 intro t
 rw [envOf_app,envOf_app]
 by_cases ht : t<args.length
 ·rw [List.getElem?_eq_getElem ht,List.getElem?_eq_getElem (by omega)]
  exact h t ht (by omega)
 ·rw [List.getElem?_eq_none (by omega),List.getElem?_eq_none (by omega)]
  exact .lit _
end Go.Hx
/-
  A law's parameters as abstract values, one by one. Own work: no program stands in this text.
-/
namespace Go.Hx
open Go.ChangeShapes Go.WideShapes Go.RowKit
variable {P : Program} {W : World} {H : Type} {enc : TypeId × Value→H} {spare : Nat→Bool} {held : Bool}

theorem Opens.mono {t : TypeId} {φ ψ : DataW H→List AVal→Prop} (h : Opens enc P W spare held t φ) (hm : ∀ d as,φ d as→ψ d as) : Opens enc P W spare held t ψ:=fun fuel cs x hx =>
 let ⟨as,h1,h2⟩:=h fuel cs x hx;⟨as,h1,hm _ _ h2⟩

def intL (k : IntKind) (l : List Int) : List AVal:=l.map fun n=>.lit (.int k n)

theorem rows_each {α : Type} {φ : DataW H→List AVal→Prop} {f : α→List AVal} {q : α→Prop} (hφ : ∀ d as,φ d as→∃ a,as=f a∧q a) : ∀ {rows : List (List AVal)} {ds : List (DataW H)},RowsOf φ ds rows →
  ∃ l : List α,rows=l.map f∧∀ a,a∈l→q a:=by
 intro rows
 induction rows with
 | nil=>intro ds _;exact ⟨[],rfl,fun a h=>by cases h⟩
 | cons r rows ih =>
  intro ds h
  obtain ⟨h1,h2⟩:=h
  cases ds with
  | nil=>simp at h1
  | cons d ds =>
   obtain ⟨a,ha,hq⟩:=hφ _ _ (h2 0 (by simp) (by simp))
   obtain ⟨l,hl,hq2⟩:=ih (ds:=ds) ⟨by simpa using h1,fun i hi hi'=>h2 (i+1) (by simpa using hi) (by simpa using hi')⟩
   refine ⟨a :: l,by simp only [List.map_cons,← hl];simp only [List.getElem_cons_zero] at ha;rw [ha],fun b hb=>?_⟩
   rcases List.mem_cons.1 hb with rfl|hb
   ·exact hq
   ·exact hq2 b hb

theorem flatten_singles {α β : Type} (f : α→β) (l : List α) : (l.map fun a=>[f a]).flatten=l.map f:=by
 induction l with
 | nil=>rfl
 | cons a l ih=>simp only [List.map_cons,List.flatten_cons,ih];rfl

theorem opens_ints {t e : TypeId} {k : IntKind} (ht : P.underlying t=some (.slice e)) (he : P.underlying e=some (.int k)) (hc : P.cellsOf e=1) :
  Opens enc P W spare held t fun _ as=>∃ l : List Int,as=[.vec l.length (intL k l)]∧l.length≤maxLen∧∀ c,c∈l→(Lit.int k c).wf=true :=
 (opens_slice ht (by omega) (opens_int he)).mono fun d as h=>by
  rcases h with ⟨_,rfl⟩|⟨ds,rest,rows,_,rfl,hr,_,hl⟩
  ·exact ⟨[],rfl,by decide,fun c h=>by cases h⟩
  ·obtain ⟨l,rfl,hq⟩:=rows_each (f:=fun n=>[AVal.lit (.int k n)]) (q:=fun n=>(Lit.int k n).wf=true) (fun d as ⟨n,_,h2,h3⟩=>⟨n,h2,h3⟩) hr
   refine ⟨l,?_,by simpa using hl,hq⟩
   rw [List.length_map]
   congr 2
   exact flatten_singles _ l

theorem arg_agg {r : Reach} {b : Nat} {t : TypeId} {v : Value} {d : DataW H} {ps : List MemPlace} {φ : DataW H→List AVal→Prop} (hop : Opens enc P W spare held t φ)
  (ht : (∃ fs,P.underlying t=some (.struct fs))∨∃ n e,P.underlying t=some (.array n e)) (hval : Value.okWide P W r b t v) (hd : DataW.Trod enc P W 0 spare held t v d ps) :
  ∃ as,RelV P noG noH W (.agg as) v∧φ d as:=by
 obtain ⟨cs,rfl⟩ : ∃ cs,v=.agg cs:=by
  unfold Value.okWide at hval
  rcases ht with ⟨fs,ht⟩|⟨n,e,ht⟩
  ·rw [ht] at hval;obtain ⟨cs,h,_⟩:=hval;exact ⟨cs,h⟩
  ·rw [ht] at hval;obtain ⟨cs,h,_⟩:=hval;exact ⟨cs,h⟩
 obtain ⟨fuel,hf⟩:=hd
 obtain ⟨as,hr,hφ⟩:=hop _ _ _ hf
 refine ⟨as,?_,hφ⟩
 have:=RelV.agg (P:=P) (Γ:=noG) (H:=noH) (w:=W) (cells:=as) (cs:=cs.toList) hr.1 hr.2
 simpa using this

theorem arg_one {r : Reach} {b : Nat} {t : TypeId} {v : Value} {d : DataW H} {ps : List MemPlace} {φ : DataW H→List AVal→Prop} {ψ : AVal→Prop} (hop : Opens enc P W spare held t φ) (h1 : ∀ d as,φ d as→∃ a,as=[a]∧ψ a)
  (hno : ∀ cs,¬ Value.okWide P W r b t (.agg cs)) (hval : Value.okWide P W r b t v) (hd : DataW.Trod enc P W 0 spare held t v d ps) : ∃ a,RelV P noG noH W a v∧ψ a:=by
 have hc : v.cells.toList=[v]:=by
  cases v with
  | agg cs=>exact absurd hval (hno cs)
  | _=>rfl
 obtain ⟨fuel,hf⟩:=hd
 rw [hc] at hf
 obtain ⟨as,hr,hφ⟩:=hop _ _ _ hf
 obtain ⟨a,rfl,hψ⟩:=h1 _ _ hφ
 exact ⟨a,hr.2 0 (by simp) (by simp),hψ⟩

theorem noAgg_int {r : Reach} {b : Nat} {t : TypeId} {k : IntKind} (ht : P.underlying t=some (.int k)) (cs : Array Value) : ¬ Value.okWide P W r b t (.agg cs):=fun h=>by
 obtain ⟨n,hn⟩:=okWide_int ht h;cases hn
theorem arg_int {r : Reach} {b : Nat} {t : TypeId} {k : IntKind} {v : Value} {d : DataW H} {ps : List MemPlace} (ht : P.underlying t=some (.int k)) (hval : Value.okWide P W r b t v) (hd : DataW.Trod enc P W 0 spare held t v d ps) :
  ∃ n,RelV P noG noH W (.lit (.int k n)) v∧(Lit.int k n).wf=true:=by
 obtain ⟨a,h1,n,rfl,h2⟩:=arg_one (ψ:=fun a=>∃ n,a=.lit (.int k n)∧(Lit.int k n).wf=true) (opens_int ht) (fun d as ⟨n,_,h2,h3⟩=>⟨_,h2,n,rfl,h3⟩) (noAgg_int ht) hval hd
 exact ⟨n,h1,h2⟩
theorem wf_u8 {n : Int} (h : (Lit.int .u8 n).wf=true) : 0≤n∧n≤255:=by
 simpa [Lit.wf,IntKind.min,IntKind.max,IntKind.signed,IntKind.bits] using h
end Go.Hx
/-
  The rules of a walk, gathered under one name. Own work: no program stands in this text.
-/
namespace Go.Hx
attribute [go_sem] List.replicate_one List.flatten_cons List.flatten_nil List.length_append List.append_nil Nat.sub_zero Bool.not_true Bool.not_false
attribute [go_sem] Bool.true_eq_false List.map_eq_nil_iff ints_nil Int.le_refl decide_true decide_false eq_self List.getElem?_map
attribute [go_sem] vc_skip vc_label vc_region vc_draw vc_seq vc_block vc_loop vc_rangeFunc
attribute [go_sem] vc_exit vc_scope vc_goto vc_ret vc_cond boolA_lit evA_tmp evA_const
attribute [go_sem] evA_func putA_app putA_none mask_app thenA_normal thenA_exit thenA_goto thenA_ret
attribute [go_sem] thenA_panic blockA_normal blockA_exit blockA_goto blockA_ret blockA_panic noGoto_normal noGoto_exit
attribute [go_sem] noGoto_ret noGoto_panic wpo_some wpo_none wpo_bind wpo_map wpo_ite Branch_true
attribute [go_sem] Branch_false opsV_nil opsV_plain opsV_guard' guardA_bool beq_true' beq_false' Branch_not
attribute [go_sem] List.getElem?_toArray Option.bind_some opsD_nil opsD_plain opsD_guard opD_call opD_move opD_assign
attribute [go_sem] opD_pick opD_alloc opD_box opD_build opD_buildSlice opD_load opD_store opD_nilCheck
attribute [go_sem] opD_binOp opD_unOp opD_convert opD_makeInterface opD_makeFunc opD_makeSlice opD_slice opD_fieldAddr
attribute [go_sem] opD_field opD_indexAddr opD_index opD_extract opD_builtin lenA_U lenU_slice lenU_string
attribute [go_sem] lenU_array lenS_vec lenS_own lenS_nil lenStr_lit partA_U partU_int partU_bool
attribute [go_sem] partU_string partU_slice partU_pointer partU_struct partU_array setAt_zero setAt_succ List.set_cons_zero
attribute [go_sem] List.set_cons_succ loadA_vptr loadA_ptr storeA_ptr indexAddrV_U idxU_slice idxU_array idxS_vec
attribute [go_sem] idxS_own idxA_vptr idxA_ptr sliceA_U slU_slice slU_array slU_string slS_own
attribute [go_sem] slS_vec slS_nil slA_vptr slStr_lit boundA_none boundA_int sourceA_vec
attribute [go_sem] sourceA_own sourceA_nil appU_nil appU_own copyA_U cpyU_own makeSliceA_U
attribute [go_sem] mkU_slice zerosA_def flatten_one buildSliceA_U bsU_slice buildA_U buildU_struct buildU_array
attribute [go_sem] fillA_nil fillA_cons cells_int cells_bool cells_string cells_slice cells_agg cells_vec
attribute [go_sem] cells_own cells_ptr one_int one_bool one_string one_slice one_vec one_own
attribute [go_sem] one_ptr ints_get ints_length lin Int.toNat_natCast Int.natCast_nonneg vecI List.all_cons
attribute [go_sem] List.all_nil Bool.and_true Nat.mul_one idsV_lit idsV_vec idsV_vptr idsV_agg idsV_own
attribute [go_sem] idsV_ptr isOwn_own isOwn_lit isOwn_vec fpB_len fpB_append
attribute [go_sem] lenIds_vec ApartA_nil ApartA_none ApartA_cons
attribute [go_sem] djF_mk addF_nil addF_eff addF_rs List.take_succ_cons List.take_zero
attribute [go_sem] List.take_nil List.drop_succ_cons List.drop_zero List.drop_nil List.forall_mem_cons List.not_mem_nil List.mem_cons List.mem_singleton
attribute [go_sem] or_false false_or or_true true_or not_or false_implies implies_true forall_const
attribute [go_sem] opV_call opV_panic opV_move opV_assign opV_pick opV_alloc opV_box opV_build
attribute [go_sem] opV_buildSlice opV_load opV_store opV_binOp nilK_none nilK_some sliceT_slice
attribute [go_sem] nilOf_lit nilOf_eql nilOf_neq eql_neq neq_neq Bool.false_eq_true opV_unOp opV_convert
attribute [go_sem] opV_makeFunc opV_makeSlice opV_slice opV_fieldAddr opV_indexAddr
attribute [go_sem] opV_extract opV_builtin builtin_len builtin_append builtin_copy builtin_min builtin_max bin_add
attribute [go_sem] bin_sub bin_mul bin_quo bin_rem bin_lss bin_leq bin_gtr bin_geq
attribute [go_sem] bin_eql bin_neq un_not ext_next lay_next lay_ext lay_ext' live_ext
attribute [go_sem] live_ext0 upd_ext upd_ext0 liveL_some List.map_cons List.map_nil if_true if_false
attribute [go_sem] ne_eq not_false_eq_true not_true_eq_false true_and and_true false_and and_false List.length_cons
attribute [go_sem] List.length_nil Nat.zero_add Nat.add_zero Option.isSome_some List.append_assoc List.cons_append List.nil_append Option.map_some
attribute [go_sem] Option.map_none RdIn envOf_app List.getElem?_cons_zero List.getElem?_cons_succ List.getElem?_nil Option.getD_some Option.getD_none
attribute [go_sem] bodyQ_ret bodyQ_normal resA_nil resA_tmp resA_cell resV_one resV_two resV_nil
attribute [go_sem] extractA_tup nilCheckA_vptr Int.natCast_zero Int.cast_ofNat_Int indexA_agg idxGU_array
attribute [go_sem] convH_lit convH_agg convA_U convU_int fieldAddrA_ptr fieldAddrA_vptr iv_int Nat.le_refl
end Go.Hx
/-
  Slices of a call's own, by what lies in the heap; blocks let go at a call. Own work: no program stands in this text.
-/
namespace Go.Hx
variable {P : Program} {G : Nat→Option (List AVal)} {H H' : AHeap}

def AHeap.cut (H : AHeap) (n : Nat) : AHeap:=⟨fun j=>if j<n then H.get j else none,H.next⟩
theorem cut_get {n id : Nat} (h : id<n) : (H.cut n).get id=H.get id:=by simp [AHeap.cut,h]
theorem Over.cut {B : AHeap} (h : Over B H) : Over B (H.cut B.next):=⟨h.next,fun id hi=>(cut_get hi).trans (h.old id hi)⟩
open Classical in
theorem Fz.dead {S : Nat→Prop} {H : AHeap} {nx : Nat} {v : AVal} (h : Below nx v) : Fz S H nx v v:=by
 induction h with
 | lit v=>exact .lit v
 | vec _ ih=>exact .vec rfl fun i h _=>ih i h
 | vptr _ ih=>exact .vptr rfl fun i h _=>ih i h
 | agg _ ih=>exact .agg rfl fun i h _=>ih i h
 | tup _ ih=>exact .tup rfl fun i h _=>ih i h
 | clo _ _ ih1 ih2=>exact .clo rfl rfl (fun i h _=>ih1 i h) fun i h _=>ih2 i h
 | @own id _ _ _ _ h=>by_cases hs : S id;exact .deadOwn h hs;exact .own h hs
 | @ptr id _ _ h=>by_cases hs : S id;exact .deadPtr h hs;exact .ptr h hs
 | @yld id h=>by_cases hs : S id;exact .deadYld h hs;exact .yld h hs
def OwnG (lo : Nat) (H : AHeap) (e : TypeId) (v : AVal) (cs : List AVal) : Prop :=
 (v=.lit (.slice none 0 0)∧cs=[])∨∃ id g,lo≤id∧id<H.next∧v=.own id g 0 cs.length 1∧H.get id=some (.arr g e cs)
theorem OwnG.nil {lo : Nat} {e : TypeId} : OwnG lo H e (.lit (.slice none 0 0)) []:=.inl ⟨rfl,rfl⟩
theorem OwnG.keep {lo lo' : Nat} {e : TypeId} {v : AVal} {cs : List AVal} (h : OwnG lo H e v cs) (hl : lo'≤lo) (hn : H.next≤H'.next) (hk : ∀ id g,lo≤id→id<H.next→H.get id=some (.arr g e cs)→v=.own id g 0 cs.length 1→H'.get id=H.get id) : OwnG lo' H' e v cs:=by
 rcases h with h|⟨id,g,h1,h2,h3,h4⟩
 ·exact .inl h
 ·exact .inr ⟨id,g,by omega,by omega,h3,by rw [hk id g h1 h2 h4 h3];exact h4⟩
theorem OwnG.over {lo : Nat} {e : TypeId} {v : AVal} {cs : List AVal} (h : OwnG lo H e v cs) (ho : Over H H') : OwnG lo H' e v cs:=h.keep (Nat.le_refl _) ho.next fun id _ _ h2 _ _=>ho.old id h2
theorem OwnG.one {lo : Nat} {e : TypeId} {v : AVal} {cs : List AVal} (h : OwnG lo H e v cs) : v.one=true:=by
 rcases h with ⟨rfl,_⟩|⟨_,_,_,_,rfl,_⟩<;>rfl
theorem OwnG.cells {lo : Nat} {e : TypeId} {v : AVal} {cs : List AVal} (h : OwnG lo H e v cs) : v.cells=[v]:=by
 rcases h with ⟨rfl,_⟩|⟨_,_,_,_,rfl,_⟩<;>rfl
theorem OwnG.fz {S : Nat→Prop} {lo nx : Nat} {e : TypeId} {v : AVal} {cs cs' : List AVal} (h : OwnG lo H e v cs) (hS : ∀ i,lo≤i→S i) (hl : cs'.length=cs.length)
  (hc : ∀ i (h : i<cs.length) (h' : i<cs'.length),Fz S H nx cs[i] cs'[i]) : Fz S H nx v (.vec cs'.length cs'):=by
 rcases h with ⟨rfl,rfl⟩|⟨id,g,h1,_,rfl,h4⟩
 ·obtain rfl:=List.eq_nil_of_length_eq_zero hl
  exact .nil
 ·rw [hl]
  refine .frz (hS id h1) h4 (by omega) fun j hj h2 h'=>?_
  simp only [Nat.zero_add] at h2 ⊢
  exact hc j h2 h'
theorem OwnG.fzI {S : Nat→Prop} {lo nx : Nat} {e : TypeId} {v : AVal} {l : List Int} (h : OwnG lo H e v (ints l)) (hS : ∀ i,lo≤i→S i) : Fz S H nx v (vecI l):=by
 have:=h.fz (S:=S) (nx:=nx) (cs':=ints l) hS rfl fun i hi _=>by simp only [ints,List.getElem_map];exact .lit _
 rw [ints_length] at this
 exact this
theorem OwnG.new {e : TypeId} {cs : List AVal} : OwnG H.next (ext H [.arr 0 e cs]) e (.own H.next 0 0 cs.length 1) cs :=
 .inr ⟨H.next,0,Nat.le_refl _,by simp [ext_next],rfl,by simpa using get_ext H [.arr 0 e cs] 0 (by simp)⟩

theorem ext1_get_old {b : Blk} {id : Nat} (h : id<H.next) : (ext H [b]).get id=H.get id:=get_ext_old H [b] id h
theorem ext1_get_new {b : Blk} : (ext H [b]).get H.next=some b:=by simpa using get_ext H [b] 0 (by simp)
theorem lay_at {n : Nat} {b : Blk} (h : n=H.next) : H.lay n b=some (ext H [b]):=by subst h;exact lay_next H b

/-- Several values appended. -/
theorem app_vecG {t e : TypeId} {lo n : Nat} {v : AVal} {cs src : List AVal} {z : List AVal} (ht : P.underlying t=some (.slice e)) (hz : P.cellsOf e=1) (hzero : zeroA P e=some z) (hx : src.all AVal.one=true)
  (hb : (cs.length+src.length)*P.bytesOf e≤2 ^ 46∧cs.length+src.length≤2 ^ 46) (ho : OwnG lo H e v cs) (hlo : lo≤H.next) (hn : n=H.next) :
  ∃ v' H',appendA P H n t t v (.vec src.length src)=some (v',H')∧OwnG lo H' e v' (cs++src)∧H.next≤H'.next∧(∀ k,k<H.next→(∀ g n,v≠.own k g 0 n 1)→H'.get k=H.get k):=by
 have hsrc : sourceA H 1 (.vec src.length src)=some (src.length,src):=by
  unfold sourceA;simp
 by_cases h0 : src.length=0
 ·have e0 : src=[]:=List.eq_nil_of_length_eq_zero h0
  subst e0
  refine ⟨v,H,?_,?_,Nat.le_refl _,fun _ _ _=>rfl⟩
  ·rcases ho with ⟨rfl,rfl⟩|⟨i,g,h1,h2,rfl,h4⟩
   ·unfold appendA;rw [ht]
    simp only [hzero,hz,Option.bind_some]
    rw [hsrc]
    rfl
   ·unfold appendA;rw [ht]
    have hl:=get_live h4
    simp only [hzero,hz,Option.bind_some,hsrc,hl]
    rw [if_pos ⟨trivial,trivial,by omega,hb.1,hb.2,rfl⟩]
    simp
  ·rw [List.append_nil]
   exact ho
 rcases ho with ⟨rfl,rfl⟩|⟨i,g,h1,h2,rfl,h4⟩
 ·refine ⟨.own H.next 0 0 src.length 1,ext H [.arr 0 e src],?_,.inr ⟨H.next,0,hlo,by simp [ext_next],by simp,by simpa using ext1_get_new⟩,by simp [ext_next],fun k hk _=>ext1_get_old hk⟩
  unfold appendA;rw [ht]
  simp only [hzero,hz,Option.bind_some,hsrc]
  rw [if_neg h0,if_pos (by simpa using hb),lay_at hn,hn]
  rfl
 ·refine ⟨.own i (g+1) 0 (cs.length+src.length) 1,H.upd i (.arr (g+1) e (cs++src)),?_,.inr ⟨i,g+1,h1,h2,by simp,by rw [upd_get,if_pos rfl]⟩,Nat.le_refl _,fun k hk hne=>?_⟩
  ·unfold appendA;rw [ht]
   have hl:=get_live h4
   simp only [hzero,hz,Option.bind_some,hsrc,hl]
   rw [if_pos ⟨trivial,trivial,by omega,hb.1,hb.2,hx⟩,if_neg h0]
   simp
  ·rw [upd_get,if_neg]
   rintro rfl;exact hne _ _ rfl

/-- One value appended: its own block has been laid just before. -/
theorem app_oneG {t e : TypeId} {lo n : Nat} {v x : AVal} {cs : List AVal} {z : List AVal} (ht : P.underlying t=some (.slice e)) (hz : P.cellsOf e=1) (hzero : zeroA P e=some z) (hx : x.one=true)
  (hb : (cs.length+1)*P.bytesOf e≤2 ^ 46∧cs.length+1≤2 ^ 46) (ho : OwnG lo H e v cs) (hlo : lo≤H.next) (hn : n=H.next+1) :
  ∃ v' H',appendA P (ext H [.arr 0 e [x]]) n t t v (.own H.next 0 0 1 1)=some (v',H')∧OwnG lo H' e v' (cs++[x])∧H.next≤H'.next∧(∀ k,k<H.next→(∀ g n,v≠.own k g 0 n 1)→H'.get k=H.get k):=by
 have hsrc : sourceA (ext H [.arr 0 e [x]]) 1 (.own H.next 0 0 1 1)=some (1,[x]):=by
  unfold sourceA
  have:=get_live (H:=ext H [.arr 0 e [x]]) (g:=0) (ext1_get_new (b:=.arr 0 e [x]))
  simp [this]
 have hne : (ext H [Blk.arr 0 e [x]]).next=H.next+1:=rfl
 rcases ho with ⟨rfl,rfl⟩|⟨i,g,h1,h2,rfl,h4⟩
 ·refine ⟨.own (H.next+1) 0 0 1 1,ext (ext H [.arr 0 e [x]]) [.arr 0 e [x]],?_,.inr ⟨H.next+1,0,by omega,by simp [ext_next],by simp,?_⟩,by simp [ext_next];omega,fun k hk _=>?_⟩
  ·unfold appendA;rw [ht]
   simp only [hzero,hz,Option.bind_some,hsrc]
   rw [if_neg (by decide),if_pos (by simpa using hb),lay_at (by rw [hn,hne]),hn]
   rfl
  ·rw [← hne];exact ext1_get_new
  ·rw [ext1_get_old (by rw [hne];omega),ext1_get_old hk]
 ·have h4' : (ext H [.arr 0 e [x]]).get i=some (.arr g e cs):=by rw [ext1_get_old h2];exact h4
  refine ⟨.own i (g+1) 0 (cs.length+1) 1,(ext H [.arr 0 e [x]]).upd i (.arr (g+1) e (cs++[x])),?_,.inr ⟨i,g+1,h1,by rw [upd_next,hne];omega,by simp,by rw [upd_get,if_pos rfl]⟩,by rw [upd_next,hne];omega,fun k hk hne=>?_⟩
  ·unfold appendA;rw [ht]
   have hl:=get_live h4'
   simp only [hzero,hz,Option.bind_some,hsrc,hl]
   rw [if_pos ⟨trivial,trivial,by omega,hb.1,hb.2,by simp [hx]⟩]
   simp
  ·rw [upd_get,if_neg,ext1_get_old hk]
   rintro rfl;exact hne _ _ rfl

/-- Slices of slices of a call's own. -/
def OwnG2 (lo : Nat) (H : AHeap) (e1 e0 : TypeId) (v : AVal) (rows : List (List AVal)) : Prop :=
 ∃ cs : List AVal,OwnG lo H e1 v cs∧cs.length=rows.length∧∀ (j : Nat) (r : List AVal) (c : AVal),rows[j]?=some r→cs[j]?=some c→OwnG lo H e0 c r
theorem OwnG2.nil {lo : Nat} {e1 e0 : TypeId} : OwnG2 lo H e1 e0 (.lit (.slice none 0 0)) []:=⟨[],.nil,rfl,fun j r c h=>by simp at h⟩
theorem OwnG2.over {lo : Nat} {e1 e0 : TypeId} {v : AVal} {rows : List (List AVal)} (h : OwnG2 lo H e1 e0 v rows) (ho : Over H H') : OwnG2 lo H' e1 e0 v rows:=by
 obtain ⟨cs,c1,c2,c3⟩:=h
 exact ⟨cs,c1.over ho,c2,fun j r c hr hc=>(c3 j r c hr hc).over ho⟩
theorem OwnG2.fz {S : Nat→Prop} {lo nx : Nat} {e1 e0 : TypeId} {v : AVal} {rows rows' : List (List AVal)} (h : OwnG2 lo H e1 e0 v rows) (hS : ∀ i,lo≤i→S i) (hl : rows'.length=rows.length)
  (hr : ∀ (j : Nat) (r r' : List AVal),rows[j]?=some r→rows'[j]?=some r'→r'.length=r.length∧∀ i (h : i<r.length) (h' : i<r'.length),Fz S H nx r[i] r'[i]) :
  Fz S H nx v (.vec rows'.length (rows'.map fun r=>.vec r.length r)):=by
 obtain ⟨cs,h1,h2,h3⟩:=h
 have:=h1.fz (S:=S) (nx:=nx) (cs':=rows'.map fun r=>.vec r.length r) hS (by simp [h2,hl]) fun i hi hi'=>by
  simp only [List.getElem_map]
  have hi2 : i<rows.length:=by omega
  have hi3 : i<rows'.length:=by omega
  obtain ⟨a1,a2⟩:=hr i rows[i] rows'[i] (List.getElem?_eq_getElem hi2) (List.getElem?_eq_getElem hi3)
  exact (h3 i rows[i] cs[i] (List.getElem?_eq_getElem hi2) (List.getElem?_eq_getElem hi)).fz (S:=S) (nx:=nx) (cs':=rows'[i]) hS a1 a2
 rw [List.length_map] at this
 exact this
theorem OwnG.otherE {lo lo' : Nat} {e e' : TypeId} {v u : AVal} {cs cs' : List AVal} (hv : OwnG lo H e v cs) (hu : OwnG lo' H e' u cs') (hne : e≠e') (hn : H.next≤H'.next)
  (hp : ∀ k,k<H.next→(∀ g n,v≠.own k g 0 n 1)→H'.get k=H.get k) : OwnG lo' H' e' u cs':=by
 refine hu.keep (Nat.le_refl _) hn fun i g h1 h2 h3 _=>hp i h2 fun g' n he=>?_
 rcases hv with ⟨rfl,_⟩|⟨j,g2,_,_,rfl,h4⟩
 ·cases he
 ·have:=AVal.own.inj he
  obtain rfl : j=i:=this.1
  rw [h3] at h4
  cases h4
  exact hne rfl
/-- A row appended. -/
theorem OwnG2.app {lo n : Nat} {e1 e0 : TypeId} {v x : AVal} {rows : List (List AVal)} {r : List AVal} {t : TypeId} {z : List AVal} (ht : P.underlying t=some (.slice e1)) (hz : P.cellsOf e1=1) (hzero : zeroA P e1=some z) (hby : P.bytesOf e1=24) (hne : e1≠e0)
  (hb : rows.length<2 ^ 40) (h : OwnG2 lo H e1 e0 v rows) (hlo : lo≤H.next) (hx : OwnG lo H e0 x r) (hn : n=H.next+1) :
  ∃ v' H',appendA P (ext H [.arr 0 e1 [x]]) n t t v (.own H.next 0 0 1 1)=some (v',H')∧OwnG2 lo H' e1 e0 v' (rows++[r])∧H.next≤H'.next∧(∀ k,k<H.next→k<lo→H'.get k=H.get k):=by
 obtain ⟨cs,h1,h2,h3⟩:=h
 obtain ⟨v',H',hA,hO,hL,hp⟩:=app_oneG (t:=t) ht hz hzero hx.one (by rw [hby,h2];omega) h1 hlo hn
 refine ⟨v',H',hA,⟨cs++[x],hO,by simp [h2],fun j r' c hr hc=>?_⟩,hL,fun k hk hkl=>hp k hk fun g n he=>?_⟩
 ·have key : ∀ u l,OwnG lo H e0 u l→OwnG lo H' e0 u l:=fun u l hu=>h1.otherE hu hne hL hp
  rcases Nat.lt_or_ge j rows.length with hj|hj
  ·rw [List.getElem?_append_left hj] at hr
   rw [List.getElem?_append_left (by omega)] at hc
   exact key _ _ (h3 j r' c hr hc)
  ·rw [List.getElem?_append_right hj] at hr
   rw [List.getElem?_append_right (by omega)] at hc
   have hj0 : j - rows.length=0:=by
    rcases Nat.eq_zero_or_pos (j - rows.length) with h|h
    ·exact h
    ·rw [List.getElem?_eq_none (by simp;omega)] at hr;cases hr
   have hj1 : j - cs.length=0:=by omega
   rw [hj0] at hr
   rw [hj1] at hc
   cases hr
   cases hc
   exact key _ _ hx
 ·rcases h1 with ⟨rfl,_⟩|⟨i,g2,a1,_,rfl,_⟩
  ·cases he
  ·have:=AVal.own.inj he;omega
end Go.Hx
