/-
  Abstract values, abstract heaps, and how they stand to the model's values and worlds. Own work: no program stands in this text.
-/
import Derived.RangeFuncLeaves
import Derived.KernelRfl
import Derived.Wp
import Derived.Laws.Cells
import Derived.Laws.Entries
import Derived.IntWalk
import Derived.Laws.BytesString
set_option linter.all false
namespace Go
theorem W4 {P:Prop}(h:P:=by omega):P:=h
theorem O {P:Prop}(h:P:=by omega):P:=h
theorem W5 {P:Prop}(h:P:=by simp):P:=h
theorem W6 {P:Prop}(h:P:=by decide):P:=h
theorem W7 {P:Prop}(h:P:=by kernel_rfl):P:=h
theorem W8 {n:Nat}:n<=n:=Nat.le_refl n
def an:=@List.mem_of_getElem?
def SN:=@Go.IntWalk.i64_in
def SO:=@Option.map_eq_some_iff
def SP:=@List.getElem?_eq_getElem
def SQ:=@if_neg
def SR:=@List.take_of_length_le
def SU:=@if_pos
def SV:=@List.getD_eq_getElem?_getD
def SW:=@Option.bind_eq_some_iff
def SX:=@List.getElem?_eq_none
def SY:=@List.mem_iff_getElem?
def SZ:=@Nat.lt_of_lt_of_le
def S3:=@List.eq_nil_of_length_eq_zero
def S4:=@List.mem_map
def S5:=@Int.eq_ofNat_of_zero_le
def S6:=@Array.getElem?_eq_getElem
def S7:=@List.mem_range
def S8:=@List.length_map
def S9:=@List.getElem_map
def Ta:=@List.getElem?_append_left
def Tb:=@Nat.not_lt_zero
def Td:=@List.length_take
def Te:=@List.getElem?_set_self
def Tf:=@List.map_congr_left
def Tg:=@Nat.lt_or_ge
def Th:=@List.getElem?_range
def Ti:=@Nat.pow_le_pow_right
def Tj:=@List.mem_of_mem_take
def Tk:=@List.mem_append
def Tl:=@List.length_set
def Tm:=@Int.mul_le_mul_of_nonneg_left
def Tn:=@List.all_eq_true
def To:=@List.getElem?_set_ne
def Tp:=@Option.isSome_iff_exists
def Tq:=@List.getElem?_eq_some_iff
def Tr:=@Nat.mul_le_mul_right
def Ts:=@List.ext_getElem?
def Tt:=@List.idxOf_lt_length_of_mem
def Tu:=@List.getElem?_append_right
def Tv:=@Bool.and_eq_true
def Tw:=@Nat.le_trans
def Tx:=@Bool.or_eq_true
def Ty:=@decide_eq_true
def Tz:=@Nat.testBit_or
def TA:=@List.take_append_drop
def TB:=@List.length_drop
def TC:=@List.getElem_mem
def TD:=@Int.tmod_eq_emod_of_nonneg
def TE:=@List.getElem_cons_zero
def TF:=@List.foldl_cons
def TG:=@List.mem_or_eq_of_mem_set
def TH:=@List.getElem?_replicate
def TI:=@List.drop_eq_getElem_cons
def TJ:=@Nat.add_mul
def TK:=@Array.getD_eq_getD_getElem?
def TL:=@List.getElem?_take_of_lt
def TM:=@Int.tdiv_eq_ediv_of_nonneg
def TN:=@Int.mul_comm
def TO:=@Array.getElem?_eq_some_iff
def TP:=@List.range_succ
def TQ:=@Array.getElem?_setIfInBounds
def TR:=@List.length_singleton
def TS:=@Classical.byContradiction
def TT:=@List.map_append
def TU:=@List.length_range
def TV:=@List.zip_cons_cons
def TW:=@Array.getElem_toList
def TX:=@List.getElem_append_left
def TY:=@List.getElem?_inj
def TZ:=@List.foldl_append
def T1:=@List.zip_nil_right
def T3:=@List.getElem_idxOf
def T4:=@decide_eq_false
def T5:=@List.getElem_append_right
def T6:=@Nat.pow_succ
def T7:=@Nat.eq_zero_or_pos
def T8:=@List.sum_cons
def T9:=@List.getElem?_drop
def Ua:=@Nat.testBit_two_pow_self
def Ub:=@List.eq_of_mem_replicate
def Uc:=@Bool.eq_false_or_eq_true
def Ud:=@Nat.mul_le_mul_left
def Ue:=@List.set_append_right
def Uf:=@Nat.zero_testBit
def Ug:=@List.getElem?_set
def Uh:=@Nat.zero_le
def Ui:=@Nat.pow_lt_pow_right
def Uj:=@Nat.eq_of_testBit_eq
def Uk:=@Nat.add_sub_cancel
def Ul:=@Array.getElem?_eq_none
def Um:=@Int.mul_nonneg
def Un:=@Nat.lt_succ_self
def Uo:=@List.replicate_succ
def Up:=@Nat.lt_trichotomy
def Uq:=@List.length_replicate
def Ur:=@List.foldl_nil
def Us:=@List.map_map
def Ut:=@Go.IntWalk.u64_in
def Uu:=@Int.mul_le_mul
def Uv:=@Nat.testBit_and
def Uw:=@Nat.lt_or_eq_of_le
def Ux:=@Nat.div_eq_of_lt
def Uy:=@List.nodup_range
def Uz:=@Nat.div_lt_of_lt_mul
def UA:=@Int.mul_assoc
def UB:=@Nat.mul_comm
def UC:=@Nat.le_of_lt_succ
def UD:=@Nat.testBit_two_pow_sub_one
def UE:=@Array.length_toList
def UF:=@List.getElem_cons_succ
def UG:=@Nat.lt_of_not_le
def UH:=@List.countP_cons
def UI:=@Nat.mul_assoc
def UJ:=@Nat.add_assoc
def UK:=@List.pairwise_iff_getElem
def UL:=@List.pairwise_append
def UM:=@List.mem_of_mem_drop
def UN:=@List.mem_cons_of_mem
def UO:=@Nat.or_lt_two_pow
def UP:=@List.nodup_append
def UQ:=@Bool.not_eq_true'
def UR:=@Nat.zero_mul
def US:=@Int.pow_succ
def UT:=@Int.mul_le_mul_of_nonneg_right
def UU:=@Int.add_zero
def UV:=@Nat.one_mul
def UW:=@List.mem_flatten
def UX:=@List.drop_drop
def UY:=@Int.ediv_eq_zero_of_lt
def UZ:=@Int.emod_lt_of_pos
def U0:=@Nat.min_eq_left
def U1:=@Nat.le_div_iff_mul_le
def U2:=@Nat.div_le_self
def U3:=@List.nodup_cons
def U4:=@List.eq_nil_or_concat
def U5:=@List.concat_eq_append
def U6:=@Int.natAbs_tmod
def U7:=@Int.mul_add
def U9:=@Bool.eq_iff_iff
def Va:=@Nat.mod_lt
def Vb:=@List.getElem_take
def Vc:=@List.getElem_drop
def Vd:=@Array.getElem_map
def Ve:=@List.mem_append_left
def Vf:=@List.getElem?_zipIdx
def Vg:=@List.getElem?_eq_none_iff
def Vh:=@Nat.mod_eq_of_lt
def Vi:=@List.take_length
def Vj:=@List.any_eq_true
def Vk:=@Nat.testBit_two_pow
def Vl:=@Nat.mul_add
def Vm:=@Nat.le_succ
def Vn:=@Array.getElem?_push
def Vo:=@List.map_set
def Vp:=@Array.getElem?_replicate
def Vq:=@Nat.add_sub_cancel_left
def Vr:=@Int.natCast_mul
def Vs:=@Nat.div_div_eq_div_mul
def Vt:=@Int.add_mul_ediv_right
def Vu:=@List.pairwise_map
def Vv:=@List.any_eq_false
def Vw:=@Int.emod_eq_of_lt
def Vx:=@Nat.sub_self
def Vy:=@Nat.le_of_lt
def Vz:=@Array.eq_empty_of_size_eq_zero
def VA:=@Bool.not_eq_true
def VB:=@Nat.lt_irrefl
def VC:=@Int.gcd_pos_of_ne_zero_right
def VD:=@Nat.div_mul_le_self
def VE:=@List.take_set_of_le
def VF:=@Int.toNat_of_nonneg
def VG:=@Int.one_mul
def VH:=@Int.emod_nonneg
def VI:=@Nat.ne_of_lt
def VJ:=@List.getElem?_take
def VK:=@List.find?_eq_none
def VL:=@Int.le_trans
def VM:=@Int.add_comm
def VN:=@Nat.shiftRight_eq_div_pow
def VO:=@Nat.mul_le_mul
def VP:=@Int.natAbs_mul
def VQ:=@decide_eq_false_iff_not
def VR:=@Nat.le_of_not_lt
def VS:=@List.getElem_set
def VT:=@Nat.testBit_lt_two_pow
def VU:=@List.drop_eq_nil_of_le
def VV:=@List.sum_append
def VW:=@List.set_set
def VX:=@List.mem_append_right
def VY:=@Int.zero_add
def VZ:=@Int.emod_add_mul_ediv
def V0:=@Array.toArray_toList
def V1:=@Nat.mul_pos
def V2:=@Int.add_mul
def V3:=@Nat.lt_of_le_of_lt
def V4:=@List.set_eq_take_append_cons_drop
def V5:=@List.pairwise_cons
def V6:=@List.mem_cons_self
def V7:=@List.map_replicate
def V8:=@Go.IntWalk.u8_in
def V9:=@List.take_add_one
def Wa:=@Array.size_append
def Wb:=@Nat.succ_mul
def Wc:=@Nat.pow_zero
def We:=@Int.zero_mul
def Wf:=@Nat.le_add_right
def Wg:=@List.take_append_of_le_length
def Wh:=@Int.natCast_ediv
def Wi:=@Array.toList_map
def Wj:=@Nat.two_pow_pos
def Wk:=@Nat.le_antisymm
def Wl:=@Nat.div_add_mod
def Wm:=@List.map_const'
def Wn:=@List.getElem?_concat_length
def Wo:=@Int.pow_pos
def Wq:=@Int.natAbs_tdiv
def Wr:=@Int.fdiv_eq_ediv_of_nonneg
def Ws:=@Array.getElem?_append_left
def Wt:=@List.mem_of_find?_eq_some
def Wu:=@Int.mul_neg_of_pos_of_neg
def Wv:=@Int.le_of_mul_le_mul_left
def Ww:=@Int.eq_of_mul_eq_mul_left
def Wx:=@Array.mapM_eq_mapM_toList
def Wy:=@Int.mul_tdiv_cancel_left
def Wz:=@Nat.le_mul_of_pos_right
def WA:=@List.range_succ_eq_map
def WB:=@List.pairwise_lt_range
def WC:=@List.drop_of_length_le
def WD:=@Nat.gcd_comm
def WE:=@List.length_filter_le
def WG:=@List.getElem?_zipWith
def WH:=@List.countP_eq_length
def WI:=@List.contains_iff_mem
def WJ:=@Int.sub_zero
def WK:=@Int.mul_zero
def WL:=@Int.lt_or_le
def WM:=@List.mem_of_getLast?
def WN:=@List.mem_iff_getElem
def WO:=@List.drop_eq_nil_iff
def WQ:=@Int.mul_ediv_self_le
def WR:=@Classical.not_forall
def WT:=@Nat.pow_pos
def WU:=@Nat.pow_add
def WV:=@Nat.lt_mul_div_succ
def WW:=@Nat.div_one
def WX:=@List.toList_toArray
def WY:=@List.length_pos_iff
def WZ:=@List.getD_cons_zero
def W0:=@List.getD_cons_succ
def W1:=@List.filterMap_cons
def W2:=@List.drop_set_of_lt
def W3:=@Int.mul_one
end Go
namespace Go.Hx
variable {id off:Nat}{P:Program}{cv:Value}{w w':World}
inductive W9 where
 |lit (v:Value)
 |M (len:Nat) (cells:List W9)
 |Q (id gen off len sz:Nat)
 |R (id gen off:Nat)
 |nf (cells:List W9) (off:Nat)
 |agg (cells:List W9)
 |na (vs:List W9)
 |Z (f:FuncId) (first cap:List W9)
 |ni (id:Nat)
instance:Inhabited W9:=⟨.lit undef⟩
abbrev Env:=Nat->W9
inductive Xe where
 |J (gen:Nat) (elem:TypeId) (cells:List W9)
 |loop (st:LoopState) (pend:Option Code) (n:Nat) (env:Env) (ps:Array Tmp) (asg body:Code)
 |mp (es:List (Int × Int))
 |nm
structure Xn where
 get:Nat->Option Xe
 A:Nat
abbrev aC:=Nat->Option (Nat × Nat × Nat)
def aC.gZ (Γ:aC)(b:Nat):Prop:=∃id base n,Γ id=some (b,base,n)
def tC (Γ:aC)(H:Xn)(id gen off len sz:Nat)(cv:Value):Prop :=
 id<H.A/\cv.oneCell=true/\H.get id≠some .nm/\∀g e cells,H.get id=some (.J g e cells)->gen<=g/\(gen=g ->
  match Γ id with
  |some (b,base,n)=>∃a cap,cv=.slice (some a) len cap/\len<=cap/\off+len*sz<=cells.length /\
    ((a=⟨b,base+off,none⟩/\base+off+cap*sz<=n)\/(len=0/\cap=0))
  |none=>off=0/\len=0/\cv=.slice none 0 0)
def tD (Γ:aC)(H:Xn)(id gen off:Nat)(cv:Value):Prop :=
 id<H.A/\cv.oneCell=true/\H.get id≠some .nm/\∀g e cells,H.get id=some (.J g e cells)->gen<=g/\(gen=g ->
  ∃b base n,Γ id=some (b,base,n)/\cv=.pointer (some ⟨b,base+off,none⟩))
def dH:Nat->List (Int × Int)->List MapEntry
 |_,[]=>[]
 |i,(k,v) :: l=>⟨.int .i64 k,.int .i64 v,i⟩ :: dH (i+1) l
def g8 (es:List (Int × Int)):Obj:=.map (dH 0 es).toArray es.length
def tE (Γ:aC)(H:Xn)(id:Nat)(cv:Value):Prop :=
 id<H.A/\cv.oneCell=true/\H.get id≠some .nm/\(∀st pend n env ps asg body,H.get id=some (.loop st pend n env ps asg body) ->
  ∃b,Γ id=some (b,0,0)/\cv=.func (.yield b) #[] #[])/\∀es,H.get id=some (.mp es)->∃b,Γ id=some (b,0,0)/\cv=.map (some b)
inductive Xc (P:Program)(Γ:aC)(H:Xn)(w:World):W9->Value->Prop
 |lit (v:Value):Xc P Γ H w (.lit v) v
 |nq (a:Option Addr) (cap:Nat):Xc P Γ H w (.M 0 []) (.slice a 0 cap)
 |M {len:Nat} {cells:List W9} {b off cap:Nat} {cs:List Value} (hb:¬ Γ.gZ b) (hlt:b<w.heap.size) (hlen:len<=cap)
   (hcs:cs.length=cells.length)
   (hcell:∀i (h:i<cs.length),w.cell? ⟨b,off+i,none⟩=some cs[i])
   (hrel:∀i (h:i<cells.length) (h':i<cs.length),Xc P Γ H w cells[i] cs[i]):
   Xc P Γ H w (.M len cells) (.slice (some ⟨b,off,none⟩) len cap)
 |Q {id gen off len sz:Nat} {cv:Value} (h:tC Γ H id gen off len sz cv):Xc P Γ H w (.Q id gen off len sz) cv
 |R {id gen off:Nat} {cv:Value} (h:tD Γ H id gen off cv):Xc P Γ H w (.R id gen off) cv
 |nf {cells:List W9} {off b o:Nat} {cs:List Value} (hb:¬ Γ.gZ b) (hlt:b<w.heap.size)
   (hcs:cs.length=cells.length)
   (hcell:∀i (h:i<cs.length),w.cell? ⟨b,o+i,none⟩=some cs[i])
   (hrel:∀i (h:i<cells.length) (h':i<cs.length),Xc P Γ H w cells[i] cs[i]):
   Xc P Γ H w (.nf cells off) (.pointer (some ⟨b,o+off,none⟩))
 |agg {cells:List W9} {cs:List Value} (hcs:cs.length=cells.length)
   (hrel:∀i (h:i<cells.length) (h':i<cs.length),Xc P Γ H w cells[i] cs[i]):Xc P Γ H w (.agg cells) (.agg cs.toArray)
 |na {cells:List W9} {cs:List Value} (hcs:cs.length=cells.length)
   (hrel:∀i (h:i<cells.length) (h':i<cs.length),Xc P Γ H w cells[i] cs[i]):Xc P Γ H w (.na cells) (.tuple cs.toArray)
 |Z {f:FuncId} {first cap:List W9} {fs cs:List Value} (hfs:fs.length=first.length) (hcs:cs.length=cap.length)
   (hf:∀i (h:i<first.length) (h':i<fs.length),Xc P Γ H w first[i] fs[i])
   (hc:∀i (h:i<cap.length) (h':i<cs.length),Xc P Γ H w cap[i] cs[i]):
   Xc P Γ H w (.Z f first cap) (.func (.func f) fs.toArray cs.toArray)
 |ni {id:Nat} {cv:Value} (h:tE Γ H id cv):Xc P Γ H w (.ni id) cv
def Xe.le (Γ Γ':aC)(id:Nat):Xe->Xe->Prop
 |.J g e cells,.J g' e' cells'=>g<=g'/\(g=g'->Γ' id=Γ id/\e'=e/\cells'.length=cells.length)
 |.loop _ _ n env ps asg body,.loop _ _ n' env' ps' asg' body'=>Γ' id=Γ id/\n'=n/\env'=env/\ps'=ps/\asg'=asg/\body'=body
 |.mp _,.mp _=>Γ' id=Γ id
 |.nm,_=>True
 |_,_=>False
def Kind (w w':World):Prop:=∀(b:Nat) (c:Array Value) (e:TypeId) (f:Nat × Nat),w.heap[b]?=some (.cells c e f)->∃c',w'.heap[b]?=some (.cells c' e f)/\c'.size=c.size
def Kind.refl (w:World):Kind w w:=fun _ c _ _ h=>⟨c,h,rfl⟩
theorem Kind.trans {w'':World}(h:Kind w w')(k:Kind w' w''):Kind w w'':=fun b c e f hb=>by
 obtain⟨c1,h1,h2⟩:=h b c e f hb;obtain⟨c2,h3,h4⟩:=k b c1 e f h1;exact⟨c2,h3,h4.trans h2⟩
def rq (Γ:aC)(w:World)(Γ':aC):Prop:=∀id b x y,Γ' id=some (b,x,y)->b<w.heap.size->∃x' y',Γ id=some (b,x',y')
def rq.refl (Γ:aC)(w:World):rq Γ w Γ:=fun _ _ x y h _=>⟨x,y,h⟩
structure Xk (Γ:aC)(H:Xn)(w:World)(Γ':aC)(H':Xn)(w':World):Prop where
 os:w'.os=w.os
 tape:w'.tape=w.tape
 output:w'.output=w.output
 size:w.heap.size<=w'.heap.size
 nb:∀b,b<w.heap.size->¬ Γ.gZ b->w'.heap[b]?=w.heap[b]?/\¬ Γ'.gZ b
 X:∀id,id<H.A->id<H'.A->∀x',H'.get id=some x'->∃x,H.get id=some x/\Xe.le Γ Γ' id x x'
 ny:∀a,a.block<w.heap.size->w'.frozen? a=w.frozen? a
 kind:Kind w w'
 newb:rq Γ w Γ'
def Xe.le_refl (Γ:aC)(id:Nat)(x:Xe):Xe.le Γ Γ id x x:=by
 cases x<;>simp[Xe.le]
theorem Xk.refl (Γ:aC)(H:Xn)(w:World):Xk Γ H w Γ H w :=
 ⟨rfl,rfl,rfl,W8,fun _ _ h=>⟨rfl,h⟩,fun _ _ _ x' h=>⟨x',h,Xe.le_refl _ _ _⟩,fun _ _=>rfl,.refl _,.refl _ _⟩
variable {Γ Γ':aC}
def Xe.wK {x:Xe}(h:Xe.le Γ Γ' id x .nm):x=.nm:=by
 cases x<;>simp_all[Xe.le]
def Xe.le_trans {Γ₁ Γ₂ Γ₃:aC}{id:Nat}{x y z:Xe}(h:Xe.le Γ₁ Γ₂ id x y)(k:Xe.le Γ₂ Γ₃ id y z):Xe.le Γ₁ Γ₃ id x z:=by
 cases x<;>cases y<;>cases z<;>simp only[Xe.le]at *
 ·rename_i g e c g' e' c' g'' e'' c'';refine⟨O,fun hg=>?_⟩;obtain⟨h1,h2⟩:=h;obtain⟨k1,k2⟩:=k;obtain⟨a1,a2,a3⟩:=h2 O;obtain⟨b1,b2,b3⟩:=k2 O;exact⟨b1.trans a1,b2.trans a2,b3.trans a3⟩
 ·obtain⟨a1,a2,a3,a4,a5,a6⟩:=h;obtain⟨b1,b2,b3,b4,b5,b6⟩:=k;exact⟨b1.trans a1,b2.trans a2,b3.trans a3,b4.trans a4,b5.trans a5,b6.trans a6⟩
 ·exact k.trans h
theorem Xk.trans {Γ₁ Γ₂ Γ₃:aC}{H₁ H₂ H₃:Xn}{w₁ w₂ w₃:World}(h:Xk Γ₁ H₁ w₁ Γ₂ H₂ w₂)(hn:H₁.A<=H₂.A)
  (k:Xk Γ₂ H₂ w₂ Γ₃ H₃ w₃):Xk Γ₁ H₁ w₁ Γ₃ H₃ w₃ where
 os:=k.os.trans h.os
 tape:=k.tape.trans h.tape
 output:=k.output.trans h.output
 size:=Tw h.size k.size
 nb b hb ho:=by
  obtain⟨a1,a2⟩:=h.nb b hb ho;obtain⟨b1,b2⟩:=k.nb b (SZ hb h.size) a2;exact⟨b1.trans a1,b2⟩
 X id h1 h3 z hz:=by
  obtain⟨y,hy,hyz⟩:=k.X id (SZ h1 hn) h3 z hz;obtain⟨x,hx,hxy⟩:=h.X id h1 (SZ h1 hn) y hy;exact⟨x,hx,Xe.le_trans hxy hyz⟩
 ny a ha:=(k.ny a (SZ ha h.size)).trans (h.ny a ha)
 kind:=h.kind.trans k.kind
 newb id b x y hb hlt:=by
  obtain⟨x1,y1,h1⟩:=k.newb id b x y hb (SZ hlt h.size);exact h.newb id b x1 y1 h1 hlt
variable {H H':Xn}
theorem Xk.cell (h:Xk Γ H w Γ' H' w'){b o:Nat}(hb:b<w.heap.size)(ho:¬ Γ.gZ b):
  w'.cell? ⟨b,o,none⟩=w.cell? ⟨b,o,none⟩:=by
 have:=(h.nb b hb ho).1;simp only[World.cell?,this]
def tC.bb {gen len sz:Nat}(h:tC Γ H id gen off len sz cv)
  (k:Xk Γ H w Γ' H' w') (hn:H.A<=H'.A):tC Γ' H' id gen off len sz cv:=by
 obtain⟨h1,h2,h0,h3⟩:=h;refine⟨O,h2,fun hr=>(by
  obtain⟨x,hx,hle⟩:=k.X id h1 O _ hr;exact h0 (Xe.wK hle ▸ hx)),fun g' e' cells' hg'=>?_⟩
 obtain⟨x,hx,hle⟩:=k.X id h1 O _ hg';cases x with
 |loop=>exact hle.elim
 |mp=>exact hle.elim
 |nm=>exact absurd hx h0
 |J g e cells =>
  obtain⟨a1,a2⟩:=hle;obtain⟨b1,b2⟩:=h3 g e cells hx;refine⟨O,fun hgg=>?_⟩;obtain⟨c1,c2,c3⟩:=a2 O;have:=b2 O;rw[c1,c3];exact this
def tD.bb {gen:Nat}(h:tD Γ H id gen off cv)
  (k:Xk Γ H w Γ' H' w') (hn:H.A<=H'.A):tD Γ' H' id gen off cv:=by
 obtain⟨h1,h2,h0,h3⟩:=h;refine⟨O,h2,fun hr=>(by
  obtain⟨x,hx,hle⟩:=k.X id h1 O _ hr;exact h0 (Xe.wK hle ▸ hx)),fun g' e' cells' hg'=>?_⟩
 obtain⟨x,hx,hle⟩:=k.X id h1 O _ hg';cases x with
 |loop=>exact hle.elim
 |mp=>exact hle.elim
 |nm=>exact absurd hx h0
 |J g e cells =>
  obtain⟨a1,a2⟩:=hle;obtain⟨b1,b2⟩:=h3 g e cells hx;refine⟨O,fun hgg=>?_⟩;obtain⟨c1,c2,c3⟩:=a2 O;have:=b2 O;rw[c1];exact this
def tE.bb (h:tE Γ H id cv)
  (k:Xk Γ H w Γ' H' w') (hn:H.A<=H'.A):tE Γ' H' id cv:=by
 obtain⟨h1,h2,h0,h3,h4⟩:=h;refine⟨O,h2,fun hr=>(by
  obtain⟨x,hx,hle⟩:=k.X id h1 O _ hr;exact h0 (Xe.wK hle ▸ hx)),fun st pend n env ps asg body hg'=>?_,fun es hg'=>?_⟩
 ·obtain⟨x,hx,hle⟩:=k.X id h1 O _ hg';cases x with
  |J g e cells=>exact hle.elim
  |mp=>exact hle.elim
  |nm=>exact absurd hx h0
  |loop st0 pend0 n0 env0 ps0 asg0 body0 =>
   obtain⟨a1,_⟩:=hle;obtain⟨b,hb,hc⟩:=h3 _ _ _ _ _ _ _ hx;exact⟨b,a1.trans hb,hc⟩
 ·obtain⟨x,hx,hle⟩:=k.X id h1 O _ hg';cases x with
  |J g e cells=>exact hle.elim
  |loop=>exact hle.elim
  |nm=>exact absurd hx h0
  |mp es0 =>
   obtain⟨b,hb,hc⟩:=h4 _ hx;exact⟨b,Eq.trans hle hb,hc⟩
theorem Xc.bb {v:W9}(h:Xc P Γ H w v cv)
  (k:Xk Γ H w Γ' H' w') (hn:H.A<=H'.A):Xc P Γ' H' w' v cv:=by
 induction h with
 |lit v=>exact .lit v
 |nq a cap=>exact .nq a cap
 |M hb hlt hlen hcs hcell hrel ih =>
  exact .M (k.nb _ hlt hb).2 (SZ hlt k.size) hlen hcs (fun i hi=>(k.cell hlt hb).trans (hcell i hi)) ih
 |Q h=>exact .Q (h.bb k hn)
 |R h=>exact .R (h.bb k hn)
 |nf hb hlt hcs hcell hrel ih =>
  exact .nf (k.nb _ hlt hb).2 (SZ hlt k.size) hcs (fun i hi=>(k.cell hlt hb).trans (hcell i hi)) ih
 |agg hcs hrel ih=>exact .agg hcs ih
 |na hcs hrel ih=>exact .na hcs ih
 |Z hfs hcs hf hc ih1 ih2=>exact .Z hfs hcs ih1 ih2
 |ni h=>exact .ni (h.bb k hn)
def ru (Γ:aC)(w:World)(r:Nat):Prop:=¬ Γ.gZ r/\w.heap[r]?=some (.deferred (some []))
def ru.bb {r:Nat}(h:ru Γ w r)(k:Xk Γ H w Γ' H' w'):ru Γ' w' r:=by
 obtain⟨h1,h2⟩:=h;have hlt:r<w.heap.size:=by
  rcases Tg r w.heap.size with h|h
  ·exact h
  ·rw[Ul h]at h2;cases h2
 obtain⟨a,b⟩:=k.nb r hlt h1;exact⟨b,a.trans h2⟩
structure Xh (P:Program)(G:Nat->Option (List W9))(Γ:aC)(H:Xn)(w:World):Prop where
 J:∀id g e cells,H.get id=some (.J g e cells) ->
  match Γ id with
  |some (b,base,n)=>∃c,w.heap[b]?=some (.cells c e (0,0))/\c.size=n/\base+cells.length<=n /\
    ∀i (h:i<cells.length),∃cv,c[base+i]?=some cv/\Xc P Γ H w cells[i] cv
  |none=>cells=[]
 loop:∀id st pend n env ps asg body,H.get id=some (.loop st pend n env ps asg body) ->
  ∃b r,Γ id=some (b,0,0)/\w.heap[b]?=some (.loop r)/\r.state=st/\r.pending=pend/\r.params=ps/\r.assign=asg/\r.body=body /\
   r.tmps.size=n/\(∀t (h:t<r.tmps.size),Xc P Γ H w (env t) r.tmps[t])
 mp:∀id es,H.get id=some (.mp es)->∃b,Γ id=some (b,0,0)/\w.heap[b]?=some (g8 es)
 nm:∀id,H.get id=some .nm->Γ id=none
 inj:∀id id' b base n base' n',Γ id=some (b,base,n)->Γ id'=some (b,base',n')->id=id'
 nD:∀id x,Γ id=some x->∃y,H.get id=some y
 lt:∀id b base n,Γ id=some (b,base,n)->b<w.heap.size
 A:∀id y,H.get id=some y->id<H.A
 nC:∀g cells,G g=some cells->Xc P Γ H w (.nf cells 0) (.pointer (some ⟨g,0,none⟩))
 gsz:∀g cells,G g=some cells->∃c e f,w.heap[g]?=some (.cells c e f)/\c.size=cells.length
def EI {cells:List W9}(h:Xc P Γ H w (.nf cells off) cv):∀ {g x:Nat},cv=.pointer (some ⟨g,x,none⟩)->¬ Γ.gZ g/\g<w.heap.size:=by
 intro g x e;cases h with
 |nf hb hlt hcs hcell hrel=>cases e;exact⟨hb,hlt⟩
def Xh.pO {G:Nat->Option (List W9)}(R:Xh P G Γ H w)(E:Xk Γ H w Γ' H' w')(g:Nat)(cells:List W9)(h:G g=some cells):∃c e f,w'.heap[g]?=some (.cells c e f)/\c.size=cells.length:=by
 obtain⟨hb,hlt⟩:=EI (R.nC g cells h) rfl;rw[(E.nb g hlt hb).1];exact R.gsz g cells h
end Go.Hx
namespace Go.Hx
variable {α:Type}
def W9.cells:W9->List W9
 |.lit v=>v.cells.toList.map .lit
 |.agg cs=>cs
 |.M l c=>[.M l c]
 |.Q a b c d e=>[.Q a b c d e]
 |.R a b c=>[.R a b c]
 |.nf a b=>[.nf a b]
 |.na vs=>[.na vs]
 |.Z f a b=>[.Z f a b]
 |.ni i=>[.ni i]
def W9.one:W9->Bool
 |.lit v=>v.oneCell
 |.agg _|.na _=>false
 |_=>true
def pP:List W9->Option (List Value)
 | []=>some []
 |.lit v :: r=>(pP r).map (v :: ·)
 |_ :: _=>none
def W9.cW:W9->Option Value
 |.lit v=>some v
 |.agg cs=>(pP cs).map fun l=>.agg l.toArray
 |_=>none
def bC (P:Program):Sem α->Option α
 |.pure a=>some a
 |.program k=>bC P (k P)
 |.mark _ k=>bC P k
 |_=>none
def oI {P:Program}{s:Sem α}{a:α}(h:bC P s=some a)(w:World):s.run P w=.ok a w:=by
 induction s<;>simp_all[bC,Sem.run]
section
variable {P:Program} {w w':World}
def au {α β:Type}{s:Sem α}{f:α->Sem β}{a:α}(h:s.run P w=.ok a w'):(s >>= f).run P w=(f a).run P w':=by
 rw[Sem.run_bind,h];rfl
def cL {t:TypeId}{d:TypeDesc}(h:P.underlying t=some d):(underlying t).run P w=.ok d w:=run_underlying h w
def zX {t:TypeId}{d:TypeDesc}(h:P.underlying t=some d):∃i,P.info? t=some i:=by
 unfold Program.underlying at h;cases hi:P.info? t with
 |none=>simp[hi]at h
 |some i=>exact⟨i,rfl⟩
def run_typeInfo {t:TypeId}{i:TypeInfo}(h:P.info? t=some i):(typeInfo t).run P w=.ok i w:=by
 unfold typeInfo;rw[au (run_program P w)];simp[h]
def run_sizeOf {t:TypeId}{i:TypeInfo}(h:P.info? t=some i):(sizeOf t).run P w=.ok (P.cellsOf t) w:=by
 unfold sizeOf;rw[au (run_typeInfo h)];simp[Program.cellsOf,h]
def iZ {t:TypeId}{d:TypeDesc}(h:P.underlying t=some d):(sizeOf t).run P w=.ok (P.cellsOf t) w:=by
 obtain⟨i,hi⟩:=zX h;exact run_sizeOf hi
def pQ (d:TypeDesc):Bool:=match d with|.struct _|.array _ _=>true|_=>false
def wL {t:TypeId}{d:TypeDesc}(h:P.underlying t=some d):(isAgg t).run P w=.ok (pQ d) w:=by
 unfold isAgg;rw[au (cL h)];cases d<;>rfl
def EJ {a:Addr}{v:Value}(h:w.cell? a=some v):(load a).run P w=.ok v w:=by
 simp[run_load,h]
def kz (b o i:Nat):(Addr.add ⟨b,o,none⟩ i)=⟨b,o+i,none⟩:=by
 unfold Addr.add;by_cases h:i=0
 ·simp[h]
 ·simp[h]
def pR {b o:Nat}{cs:List Value}(h:∀i (hi:i<cs.length),w.cell? ⟨b,o+i,none⟩=some cs[i]):
  (loadCells ⟨b,o,none⟩ cs.length).run P w=.ok cs.toArray w:=by
 refine run_loadCells_list w ⟨b,o,none⟩ cs fun j v hj=>?_;rw[kz];obtain⟨hlt,hv⟩:=Tq.1 hj;rw[<- hv];exact h j hlt
def EK {t:TypeId}{d:TypeDesc}{b o:Nat}{cs:List Value}(hd:P.underlying t=some d)(ha:pQ d=true)(hl:cs.length=P.cellsOf t)
  (h:∀i (hi:i<cs.length),w.cell? ⟨b,o+i,none⟩=some cs[i]):(loadVar t ⟨b,o,none⟩).run P w=.ok (.agg cs.toArray) w:=by
 unfold loadVar;rw[au (wL hd),ha];simp only[if_true];rw[au (iZ hd),<- hl,au (pR h)];rfl
def EL {t:TypeId}{d:TypeDesc}{a:Addr}{v:Value}(hd:P.underlying t=some d)(ha:pQ d=false)
  (h:w.cell? a=some v):(loadVar t a).run P w=.ok v w:=by
 unfold loadVar;rw[au (wL hd),ha];simp only[Bool.false_eq_true,if_false];exact EJ h
def setRow (c:Array Value)(o:Nat):List Value->Array Value
 | []=>c
 |v :: vs=>setRow (c.setIfInBounds o v) (o+1) vs
def size_setRow (c:Array Value)(o:Nat)(vs:List Value):(setRow c o vs).size=c.size:=by
 induction vs generalizing c o with
 |nil=>rfl
 |cons v vs ih=>simp[setRow,ih]
def zY (c:Array Value)(o:Nat)(vs:List Value)(h:o+vs.length<=c.size)(i:Nat):
  (setRow c o vs)[i]?=if o<=i/\i<o+vs.length then vs[i-o]? else c[i]?:=by
 induction vs generalizing c o with
 |nil=>simp only[setRow,List.length_nil];rw[SQ O]
 |cons v vs ih =>
  simp only[List.length_cons]at h;rw[setRow,ih _ _ (by simp;omega)];simp only[List.length_cons];by_cases h1:o+1<=i/\i<o+1+vs.length
  ·rw[SU h1,SU O];have:i-o=(i-(o+1))+1:=O;rw[this,List.getElem?_cons_succ]
  ·rw[SQ h1];by_cases h2:i=o
   ·subst h2;rw[SU O];simp[TQ];omega
   ·rw[SQ O];rw[TQ,SQ O]
def bO (w:World)(b:Nat)(o:Obj):World:={ w with heap:=w.heap.setIfInBounds b o }
def ry {w:World}{b:Nat}{o o':Obj}(h:w.heap[b]?=some o)(h1:∀c e f,o=.cells c e f->f=(0,0))(h2:∀c e f,o'=.cells c e f->f=(0,0))(a:Addr):(bO w b o').frozen? a=w.frozen? a:=by
 have hlt:b<w.heap.size:=by
  rcases Tg b w.heap.size with h'|h'
  ·exact h'
  ·rw[Ul h']at h;cases h
 unfold World.frozen? bO;simp only[TQ];by_cases hb:b=a.block
 ·subst hb;rw[SU rfl,SU hlt,h];cases o with
  |cells c e f =>
   obtain rfl:=h1 c e f rfl;cases o' with
   |cells c' e' f' =>
    obtain rfl:=h2 c' e' f' rfl;simp
   |_=>simp
  |_ =>
   cases o' with
   |cells c' e' f' =>
    obtain rfl:=h2 c' e' f' rfl;simp
   |_=>rfl
 ·rw[SQ hb]
def pS {w w':World}{o:Obj}(hw:w'.heap=w.heap.push o)(ho:∀c e f,o=.cells c e f->f=(0,0))(a:Addr):w'.frozen? a=w.frozen? a:=by
 unfold World.frozen?;rw[hw,Vn];by_cases h:a.block=w.heap.size
 ·rw[SU h,h,Ul W8];cases o with
  |cells c e f =>
   obtain rfl:=ho c e f rfl;simp
  |_=>rfl
 ·rw[SQ h]
def EM {b o:Nat}{c:Array Value}{e:TypeId}{v:Value}(h:w.heap[b]?=some (.cells c e (0,0))):
  w.setCell ⟨b,o,none⟩ v=bO w b (.cells (c.setIfInBounds o v) e (0,0)):=by
 unfold World.setCell bO;congr 1;apply Array.ext_getElem?;intro i;rw[Array.getElem?_modify,TQ];by_cases hi:b=i
 ·subst hi;have hlt:b<w.heap.size:=by
   rcases Tg b w.heap.size with h'|h'
   ·exact h'
   ·rw[Ul h']at h;cases h
  have hb:w.heap[b]=.cells c e (0,0):=by simpa[S6 hlt] using h
  simp[hlt,hb]
 ·simp[hi]
def zZ {b:Nat}{o:Obj}(h:w.heap[b]?=some o):b<w.heap.size:=by
 rcases Tg b w.heap.size with h'|h'
 ·exact h'
 ·rw[Ul h']at h;cases h
def eF (b:Nat)(o:Obj)(i:Nat):(bO w b o).heap[i]?=if i=b/\b<w.heap.size then some o else w.heap[i]?:=by
 unfold bO;simp only[TQ];by_cases h:b=i
 ·subst h;by_cases h':b<w.heap.size
  ·simp[h']
  ·simp[h']
 ·rw[SQ h,SQ O]
def jP (b:Nat)(o:Obj):(bO w b o).heap.size=w.heap.size:=by simp[bO]
def z7 {b:Nat}{c c':Array Value}{e:TypeId}{f:Nat × Nat}(h:w.heap[b]?=some (.cells c e f))(hs:c'.size=c.size):Kind w (bO w b (.cells c' e f)):=fun i d e' f' hi=>by
 rw[eF];by_cases hib:i=b
 ·subst hib;rw[h]at hi;cases hi;rw[SU ⟨rfl,(TO.1 h).1⟩];exact⟨c',rfl,hs⟩
 ·rw[SQ fun h=>hib h.1];exact⟨d,hi,rfl⟩
def wM {b:Nat}{o o':Obj}(h:w.heap[b]?=some o)(ho:∀c e f,o≠.cells c e f):Kind w (bO w b o'):=fun i d e' f' hi=>by
 rw[eF,SQ]
 ·exact⟨d,hi,rfl⟩
 ·rintro⟨rfl,_⟩;rw[h]at hi;exact ho _ _ _ (Option.some.inj hi)
def tF {w w':World}{o:Obj}(hw:w'.heap=w.heap.push o):Kind w w':=fun i d e' f' hi=>by
 have:=(TO.1 hi).1;refine⟨d,?_,rfl⟩;rw[hw,Vn,SQ O];exact hi
def EN {w w':World}(hk:∀b,b<w.heap.size->w'.heap[b]?=w.heap[b]?):Kind w w':=fun i d e' f' hi=>⟨d,by rw[hk i (TO.1 hi).1];exact hi,rfl⟩
def EO (b:Nat)(o o':Obj):bO (bO w b o) b o'=bO w b o':=by
 unfold bO;simp
def z8 {b i:Nat}{c:Array Value}{e:TypeId}{f:Nat × Nat}(h:w.heap[b]?=some (.cells c e f)):w.cell? ⟨b,i,none⟩=c[i]?:=by
 simp[World.cell?,h]
def rz {b:Nat}{e:TypeId}:∀(vs:List Value) (c:Array Value) (o i:Nat) (w:World),w.heap[b]?=some (.cells c e (0,0)) ->
  o+i+vs.length<=c.size->(∀v,v∈vs->v.oneCell=true) ->
  (storeCells ⟨b,o,none⟩ vs i).run P w=.ok () (bO w b (.cells (setRow c (o+i) vs) e (0,0))):=by
 intro vs
 induction vs with
 |nil =>
  intro c o i w h _ _;have:bO w b (.cells (setRow c (o+i) []) e (0,0))=w:=by
   unfold bO setRow;have hlt:=zZ h;have:w.heap.setIfInBounds b (.cells c e (0,0))=w.heap:=by
    apply Array.ext_getElem?;intro j;rw[TQ];by_cases hj:b=j
    ·subst hj;have hb:w.heap[b]=.cells c e (0,0):=(by simpa[S6 hlt] using h);simp[hlt,hb]
    ·simp[hj]
   rw[this]
  rw[this];rfl
 |cons v vs ih =>
  intro c o i w h hle hone;simp only[List.length_cons]at hle;have hv:v.oneCell=true:=hone v W5;have hlt:=zZ h;have hst:(store (Addr.add ⟨b,o,none⟩ i) v).run P w=.ok () (bO w b (.cells (c.setIfInBounds (o+i) v) e (0,0))):=by
   rw[kz];have hc:w.cell? ⟨b,o+i,none⟩=some (c[o+i]' O):=(by rw[z8 h];simp);have hf:w.frozen? ⟨b,o+i,none⟩=false:=(by simp[World.frozen?,h]);rw[<- EM h];cases v<;>simp_all[store,Sem.run,Value.oneCell]
  rw[storeCells,au hst];rw[ih (c.setIfInBounds (o+i) v) o (i+1) _ (by rw[eF,SU ⟨rfl,hlt⟩]) (by simp;omega) (fun x hx=>hone x (by simp[hx]))];rw[EO];rfl
end
def setAt (cells:List W9)(off:Nat)(vs:List W9):List W9:=cells.take off++vs++cells.drop (off+vs.length)
def pT {cells:List W9}{off:Nat}{vs:List W9}(h:off+vs.length<=cells.length):(setAt cells off vs).length=cells.length:=by
 simp[setAt];omega
def ER {cells:List W9}{off:Nat}{vs:List W9}(h:off+vs.length<=cells.length)(i:Nat):
  (setAt cells off vs)[i]?=if off<=i/\i<off+vs.length then vs[i-off]? else cells[i]?:=by
 unfold setAt;by_cases h1:i<off
 ·rw[SQ O,List.append_assoc,Ta (by simp;omega),VJ,SU h1]
 ·by_cases h2:i<off+vs.length
  ·rw[SU O,Ta (by simp;omega),Tu (by simp;omega)];congr 1;simp;omega
  ·rw[SQ O,Tu (by simp;omega),T9];congr 1;simp;omega
def iQ (P:Program)(t:TypeId)(cells:List W9)(off:Nat):Option W9 :=
 match P.underlying t with
 |none=>none
 |some d =>
  if pQ d then (if off+P.cellsOf t<=cells.length then some (.agg ((cells.drop off).take (P.cellsOf t))) else none)
  else cells[off]?
def Xn.upd (H:Xn)(id:Nat)(b:Xe):Xn:={ get:=fun j=>if j=id then some b else H.get j,A:=H.A }
def Xn.lay (H:Xn)(id:Nat)(b:Xe):Option Xn :=
 if id=H.A then some { get:=fun j=>if j=id then some b else H.get j,A:=H.A+1 }
 else match H.get id with
  |some .nm=>some (H.upd id b)
  |_=>none
def g9 (P:Program)(H:Xn)(t:TypeId):W9->Option W9
 |.R id gen off =>
  match H.get id with
  |some (.J g _ cells)=>if g=gen then iQ P t cells off else none
  |_=>none
 |.nf cells off=>iQ P t cells off
 |_=>none
def jQ (P:Program)(H:Xn)(t:TypeId)(a v:W9):Option Xn :=
 match a with
 |.R id gen off =>
  match H.get id with
  |some (.J g e cells) =>
   if g=gen/\v.cells.length=P.cellsOf t/\v.cells.all W9.one=true/\off+v.cells.length<=cells.length then some (H.upd id (.J g e (setAt cells off v.cells))) else none
  |_=>none
 |_=>none
def fH (place:Nat->Option (Nat × Nat))(cells:List W9):List (Nat × W9)->Option (List W9)
 | []=>some cells
 |(i,v) :: rest =>
  match place i with
  |none=>none
  |some (off,size)=>if v.cells.length=size/\off+v.cells.length<=cells.length then fH place (setAt cells off v.cells) rest else none
end Go.Hx
namespace Go.Hx
variable {P:Program} {G:Nat->Option (List W9)} {Γ Γ':aC} {H H':Xn} {w w':World}
variable {c':Array Value}{cells':List W9}{b g id n:Nat}{e:TypeId}{cv:Value}{v:W9}
def wO (h:cv.oneCell=true):cv.cells=#[cv]:=by
 cases cv<;>simp_all[Value.oneCell,Value.cells]
theorem Xc.cells (h:Xc P Γ H w v cv):cv.cells.toList.length=v.cells.length /\
  ∀i (_:i<v.cells.length) (_:i<cv.cells.toList.length),Xc P Γ H w v.cells[i] cv.cells.toList[i]:=by
 have one:∀ {v:W9} {cv:Value},Xc P Γ H w v cv->v.cells=[v]->cv.cells=#[cv]->cv.cells.toList.length=v.cells.length /\
   ∀i (_:i<v.cells.length) (_:i<cv.cells.toList.length),Xc P Γ H w v.cells[i] cv.cells.toList[i]:=by
  intro v cv h hv hc;simp only[hv,hc];refine⟨rfl,fun i h1 h2=>?_⟩;simp only[List.length_cons,List.length_nil]at h1;have:i=0:=O
  subst this;exact h
 cases h with
 |lit v =>
  simp only[W9.cells];refine⟨W5,fun i h1 h2=>?_⟩;simp only[S9];exact .lit _
 |nq a cap=>exact one (.nq a cap) rfl rfl
 |M hb hlt hlen hcs hcell hrel=>exact one (.M hb hlt hlen hcs hcell hrel) rfl rfl
 |Q h=>exact one (.Q h) rfl (wO h.2.1)
 |R h=>exact one (.R h) rfl (wO h.2.1)
 |nf hb hlt hcs hcell hrel=>exact one (.nf hb hlt hcs hcell hrel) rfl rfl
 |agg hcs hrel=>exact⟨by simpa[W9.cells,Value.cells] using hcs,fun i h1 h2=>hrel i h1 h2⟩
 |na hcs hrel=>exact one (.na hcs hrel) rfl rfl
 |Z hfs hcs hf hc=>exact one (.Z hfs hcs hf hc) rfl rfl
 |ni h=>exact one (.ni h) rfl (wO h.2.1)
theorem Xc.one (h:Xc P Γ H w v cv)(hv:v.one=true):cv.oneCell=true:=by
 cases h with
 |lit v=>exact hv
 |Q h=>exact h.2.1
 |R h=>exact h.2.1
 |ni h=>exact h.2.1
 |agg=>simp[W9.one]at hv
 |na=>simp[W9.one]at hv
 |_=>rfl
def EY:∀ {cells:List W9} {cs vs:List Value},pP cells=some vs->cs.length=cells.length ->
  (∀i (_:i<cells.length) (_:i<cs.length),Xc P Γ H w cells[i] cs[i])->cs=vs:=by
 intro cells
 induction cells with
 |nil=>intro cs vs h hl _;simp only[pP,Option.some.injEq]at h;subst h;simpa using hl
 |cons c cells ih =>
  intro cs vs h hl hr;cases c with
  |lit v =>
   simp only[pP,SO]at h;obtain⟨vs',h1,rfl⟩:=h;cases cs with
   |nil=>simp at hl
   |cons x cs =>
    have h0:=hr 0 W5 W5;simp only[TE]at h0;cases h0;have:=ih h1 (by simpa using hl) (fun i a b=>hr (i+1) (by simpa using a) (by simpa using b));rw[this]
  |_=>simp[pP]at h
theorem Xc.cW {x:Value}(h:Xc P Γ H w v cv)(hx:v.cW=some x):cv=x:=by
 cases h with
 |lit v=>simpa[W9.cW] using hx
 |agg hcs hrel =>
  simp only[W9.cW,SO]at hx;obtain⟨l,h1,rfl⟩:=hx;rw[EY h1 hcs hrel]
 |_=>simp[W9.cW]at hx
def Xe.tG (h:Γ' id=Γ id)(x:Xe):Xe.le Γ Γ' id x x:=by
 cases x<;>simp[Xe.le,h]
def Xh.oJ (R:Xh P G Γ H w)(E:Xk Γ H w Γ' H' w')(hn:H.A<=H'.A)(hget:∀j,j≠id->H'.get j=H.get j)
  (hΓ:∀j,j≠id->Γ' j=Γ j) (hheap:∀j b base n,j≠id->Γ j=some (b,base,n)->w'.heap[b]?=w.heap[b]?)
  (harr:∀g e cells,H'.get id=some (.J g e cells) ->
   match Γ' id with
   |some (b,base,n)=>∃c,w'.heap[b]?=some (.cells c e (0,0))/\c.size=n/\base+cells.length<=n /\
     ∀i (_:i<cells.length),∃cv,c[base+i]?=some cv/\Xc P Γ' H' w' cells[i] cv
   |none=>cells=[])
  (hloop:∀st pend n env ps asg body,H'.get id=some (.loop st pend n env ps asg body) ->
   ∃b r,Γ' id=some (b,0,0)/\w'.heap[b]?=some (.loop r)/\r.state=st/\r.pending=pend/\r.params=ps/\r.assign=asg/\r.body=body /\
    r.tmps.size=n/\(∀t (_:t<r.tmps.size),Xc P Γ' H' w' (env t) r.tmps[t]))
  (hmp:∀es,H'.get id=some (.mp es)->∃b,Γ' id=some (b,0,0)/\w'.heap[b]?=some (g8 es))
  (hrsv:H'.get id=some .nm->Γ' id=none)
  (hinj:∀j b base n base' n',j≠id->Γ' id=some (b,base,n)->Γ j=some (b,base',n')->False)
  (hdom:∀x,Γ' id=some x->∃y,H'.get id=some y) (hlt:∀b base n,Γ' id=some (b,base,n)->b<w'.heap.size)
  (hnext:∀y,H'.get id=some y->id<H'.A):Xh P G Γ' H' w' where
 J j g e cells hj:=by
  by_cases h:j=id
  ·subst h;exact harr g e cells hj
  ·rw[hget j h]at hj;have h1:=R.J j g e cells hj;rw[hΓ j h];cases hg:Γ j with
   |none=>rw[hg]at h1;exact h1
   |some x =>
    obtain⟨b,base,n⟩:=x;rw[hg]at h1;obtain⟨c,a1,a2,a3,a4⟩:=h1;exact⟨c,(hheap j b base n h hg).trans a1,a2,a3,fun i hi=>let ⟨cv,b1,b2⟩:=a4 i hi;⟨cv,b1,b2.bb E hn⟩⟩
 loop j st pend n env ps asg body hj:=by
  by_cases h:j=id
  ·subst h;exact hloop st pend n env ps asg body hj
  ·rw[hget j h]at hj;obtain⟨b,r,a1,a2,a3,a4,a5,a6,a7,a8,a9⟩:=R.loop j st pend n env ps asg body hj;exact⟨b,r,(hΓ j h).trans a1,(hheap j b 0 0 h a1).trans a2,a3,a4,a5,a6,a7,a8,fun t ht=>(a9 t ht).bb E hn⟩
 mp j es hj:=by
  by_cases h:j=id
  ·subst h;exact hmp es hj
  ·rw[hget j h]at hj;obtain⟨b,a1,a2⟩:=R.mp j es hj;exact⟨b,(hΓ j h).trans a1,(hheap j b 0 0 h a1).trans a2⟩
 nm j hj:=by
  by_cases h:j=id
  ·subst h;exact hrsv hj
  ·rw[hget j h]at hj;rw[hΓ j h];exact R.nm j hj
 inj i j b base n base' n' h1 h2:=by
  by_cases hi:i=id
  ·by_cases hj:j=id
   ·rw[hi,hj]
   ·rw[hi]at h1;rw[hΓ j hj]at h2;exact(hinj j b base n base' n' hj h1 h2).elim
  ·by_cases hj:j=id
   ·rw[hj]at h2;rw[hΓ i hi]at h1;exact(hinj i b base' n' base n hi h2 h1).elim
   ·rw[hΓ i hi]at h1;rw[hΓ j hj]at h2;exact R.inj i j b base n base' n' h1 h2
 nD j x hx:=by
  by_cases h:j=id
  ·subst h;exact hdom x hx
  ·rw[hΓ j h]at hx;rw[hget j h];exact R.nD j x hx
 lt j b base n hx:=by
  by_cases h:j=id
  ·subst h;exact hlt b base n hx
  ·rw[hΓ j h]at hx;exact SZ (R.lt j b base n hx) E.size
 A j y hy:=by
  by_cases h:j=id
  ·subst h;exact hnext y hy
  ·rw[hget j h]at hy;exact SZ (R.A j y hy) hn
 nC g cells hg:=(R.nC g cells hg).bb E hn
 gsz:=R.pO E
def aC.upd (Γ:aC)(id:Nat)(x:Option (Nat × Nat × Nat)):aC:=fun j=>if j=id then x else Γ j
def aC.dY (Γ:aC)(id:Nat)(x:Option (Nat × Nat × Nat)):Γ.upd id x id=x:=by simp[aC.upd]
def aC.ja (Γ:aC)(id:Nat)(x:Option (Nat × Nat × Nat)){j:Nat}(h:j≠id):Γ.upd id x j=Γ j:=by simp[aC.upd,h]
def wQ {x0 y0:Nat}:rq Γ w (Γ.upd id (some (w.heap.size,x0,y0))):=fun j b x y h hlt=>by
 by_cases hj:j=id
 ·subst hj;rw[aC.dY]at h;simp only[Option.some.injEq,Prod.mk.injEq]at h;omega
 ·rw[aC.ja _ _ _ hj]at h;exact⟨x,y,h⟩
def EZ {b0 x0 y0 x1 y1:Nat}(h0:Γ id=some (b0,x0,y0)):rq Γ w (Γ.upd id (some (b0,x1,y1))):=fun j b x y h hlt=>by
 by_cases hj:j=id
 ·subst hj;rw[aC.dY]at h;simp only[Option.some.injEq,Prod.mk.injEq]at h;exact⟨x0,y0,by rw[h0,h.1]⟩
 ·rw[aC.ja _ _ _ hj]at h;exact⟨x,y,h⟩
def heap_alloc (w:World)(o:Obj)(b:Nat):(w.alloc o).heap[b]?=if b=w.heap.size then some o else w.heap[b]?:=by
 show (w.heap.push o)[b]?=_;rw[Vn]
def pU {w:World}{o:Obj}(h:b<w.heap.size):(w.alloc o).heap[b]?=w.heap[b]?:=by
 rw[heap_alloc,SQ O]
def jS {b:Xe}(h:H.lay id b=some H'):
  (∀j,H'.get j=if j=id then some b else H.get j)/\((id=H.A/\H'.A=H.A+1)\/(H.get id=some .nm/\H'.A=H.A)):=by
 unfold Xn.lay at h;split at h
 ·rename_i hid;simp only[Option.some.injEq]at h;subst h;exact⟨fun j=>rfl,.inl ⟨hid,rfl⟩⟩
 ·split at h
  ·rename_i hr;simp only[Option.some.injEq]at h;subst h;exact⟨fun j=>rfl,.inr ⟨hr,rfl⟩⟩
  ·cases h
def nk (R:Xh P G Γ H w){b:Xe}(h:H.lay id b=some H'):Γ id=none/\(H.get id=none\/H.get id=some .nm)/\H.A<=H'.A/\id<H'.A:=by
 obtain⟨_,h2|h2⟩:=jS h
 ·have hn:H.get id=none:=by
   cases hg:H.get id with
   |none=>rfl
   |some y=>have:=R.A id y hg;omega
  have hΓ:Γ id=none:=by
   cases hg:Γ id with
   |none=>rfl
   |some x=>obtain⟨y,hy⟩:=R.nD id x hg;rw[hn]at hy;cases hy
  exact⟨hΓ,.inl hn,O,O⟩
 ·have:=R.A id _ h2.1;exact⟨R.nm id h2.1,.inr h2.1,O,O⟩
def rB {cells:List W9}{c:Array Value}(R:Xh P G Γ H w)(h:H.lay id (.J 0 e cells)=some H')
  (hlen:cells.length<=c.size) (hrel:∀i (_:i<cells.length),∃cv,c[i]?=some cv/\Xc P Γ H w cells[i] cv):
  Xk Γ H w (Γ.upd id (some (w.heap.size,0,c.size))) H' (w.alloc (.cells c e))/\H.A<=H'.A /\
   Xh P G (Γ.upd id (some (w.heap.size,0,c.size))) H' (w.alloc (.cells c e)):=by
 obtain⟨f1,f2,f3,f4⟩:=nk R h;obtain⟨hget,_⟩:=jS h;have E:Xk Γ H w (Γ.upd id (some (w.heap.size,0,c.size))) H' (w.alloc (.cells c e)):=by
  refine⟨rfl,rfl,rfl,W5,fun b hb ho=>⟨pU hb,?_⟩,fun j hj hj' x' hx'=>?_,?_,tF rfl,wQ⟩
  ·rintro⟨j,base,n,hj⟩;by_cases hji:j=id
   ·rw[hji,aC.dY]at hj;simp only[Option.some.injEq,Prod.mk.injEq]at hj;omega
   ·rw[aC.ja _ _ _ hji]at hj;exact ho ⟨j,base,n,hj⟩
  ·rw[hget]at hx';by_cases hji:j=id
   ·subst hji;rcases f2 with f2|f2
    ·obtain⟨_,h2|h2⟩:=jS h
     ·omega
     ·rw[f2]at h2;cases h2.1
    ·exact⟨.nm,f2,trivial⟩
   ·rw[SQ hji]at hx';exact⟨x',hx',Xe.tG (aC.ja _ _ _ hji) _⟩
  ·exact fun a _=>pS rfl (fun _ _ _ h=>by cases h;rfl) a
 refine⟨E,f3,R.oJ (id:=id) E f3 (fun j hj=>by rw[hget,SQ hj]) (fun j hj=>aC.ja _ _ _ hj)
  (fun j b base n hj hg=>pU (R.lt j b base n hg)) ?_ ?_ ?_ ?_ ?_ ?_ ?_ ?_⟩
 ·intro g e' cells' hg;rw[hget,SU rfl]at hg;simp only[Option.some.injEq,Xe.J.injEq]at hg;obtain⟨_,rfl,rfl⟩:=hg;rw[aC.dY];refine⟨c,by rw[heap_alloc,SU rfl],rfl,O,fun i hi=>?_⟩;obtain⟨cv,h1,h2⟩:=hrel i hi;exact⟨cv,by rw[Nat.zero_add];exact h1,h2.bb E f3⟩
 ·intro st pend n env ps asg body hg;rw[hget,SU rfl]at hg;cases hg
 ·intro es hg;rw[hget,SU rfl]at hg;cases hg
 ·intro hg;rw[hget,SU rfl]at hg;cases hg
 ·intro j b base n base' n' hj h1 h2;rw[aC.dY]at h1;simp only[Option.some.injEq,Prod.mk.injEq]at h1;have:=R.lt j b base' n' h2;omega
 ·exact fun x _=>⟨_,by rw[hget,SU rfl]⟩
 ·intro b base n h1;rw[aC.dY]at h1;simp only[Option.some.injEq,Prod.mk.injEq]at h1;simp;omega
 ·exact fun _ _=>f4
def ag (H:Xn)(id:Nat)(b:Xe)(j:Nat):(H.upd id b).get j=if j=id then some b else H.get j:=rfl
def wR {cells:List W9}{base:Nat}(R:Xh P G Γ H w)
  (hg:H.get id=some (.J g e cells)) (hΓ:Γ id=some (b,base,n)) (hlen:cells'.length=cells.length) (hsz:c'.size=n)
  (hrel:∀i (_:i<cells'.length),∃cv,c'[base+i]?=some cv/\Xc P Γ H w cells'[i] cv):
  Xk Γ H w Γ (H.upd id (.J g e cells')) (bO w b (.cells c' e (0,0)))/\Xh P G Γ (H.upd id (.J g e cells')) (bO w b (.cells c' e (0,0))):=by
 have hblk:=R.lt id b base n hΓ;have E:Xk Γ H w Γ (H.upd id (.J g e cells')) (bO w b (.cells c' e (0,0))):=by
  refine⟨rfl,rfl,rfl,by rw[jP];exact Nat.le_refl _,fun b' hb ho=>⟨?_,ho⟩,fun j hj hj' x' hx'=>?_,?_,?_,.refl _ _⟩
  ·rw[eF,SQ];rintro⟨rfl,_⟩;exact ho ⟨id,base,n,hΓ⟩
  ·rw[ag]at hx';by_cases hji:j=id
   ·subst hji;rw[SU rfl]at hx';cases hx';exact⟨_,hg,W8,fun _=>⟨rfl,rfl,hlen⟩⟩
   ·rw[SQ hji]at hx';exact⟨x',hx',Xe.le_refl _ _ _⟩
  ·have h0:=R.J id g e cells hg;rw[hΓ]at h0;obtain⟨c,a1,_⟩:=h0;exact fun a _=>ry a1 (fun _ _ _ h=>by cases h;rfl) (fun _ _ _ h=>by cases h;rfl) a
  ·have h0:=R.J id g e cells hg;rw[hΓ]at h0;obtain⟨c,a1,a2,_⟩:=h0;exact z7 a1 (by rw[hsz,a2])
 have h0:=R.J id g e cells hg;rw[hΓ]at h0;obtain⟨c,a1,a2,a3,a4⟩:=h0;refine⟨E,R.oJ (id:=id) E W8 (fun j hj=>by rw[ag,SQ hj]) (fun j hj=>rfl)
  (fun j b' base' n' hj hg'=>?_) ?_ ?_ ?_ ?_ ?_ ?_ ?_ ?_⟩
 ·rw[eF,SQ];rintro⟨rfl,_⟩;exact hj (R.inj j id b' base' n' base n hg' hΓ)
 ·intro g' e' cells'' hg';rw[ag,SU rfl]at hg';simp only[Option.some.injEq,Xe.J.injEq]at hg';obtain⟨rfl,rfl,rfl⟩:=hg';rw[hΓ];refine⟨c',by rw[eF,SU ⟨rfl,hblk⟩],hsz,O,fun i hi=>?_⟩;obtain⟨cv,h1,h2⟩:=hrel i hi;exact⟨cv,h1,h2.bb E W8⟩
 ·intro st pend n env ps asg body hg';rw[ag,SU rfl]at hg';cases hg'
 ·intro es hg';rw[ag,SU rfl]at hg';cases hg'
 ·intro hg';rw[ag,SU rfl]at hg';cases hg'
 ·intro j b' base' n' base'' n'' hj h1 h2;rw[hΓ]at h1;simp only[Option.some.injEq,Prod.mk.injEq]at h1;obtain⟨rfl,rfl,rfl⟩:=h1;exact hj (R.inj j id _ _ _ _ _ h2 hΓ)
 ·exact fun x _=>⟨_,by rw[ag,SU rfl]⟩
 ·intro b' base' n' h1;rw[jP];exact R.lt id b' base' n' h1
 ·exact fun _ _=>R.A id _ hg
def Fa {cells:List W9}{base base':Nat}(R:Xh P G Γ H w)
  (hg:H.get id=some (.J g e cells)) (hΓ:Γ id=some (b,base,n)) (hsz:c'.size=n) (hle:base'+cells'.length<=n)
  (hrel:∀i (_:i<cells'.length),∃cv,c'[base'+i]?=some cv/\Xc P Γ H w cells'[i] cv):
  Xk Γ H w (Γ.upd id (some (b,base',n))) (H.upd id (.J (g+1) e cells')) (bO w b (.cells c' e (0,0))) /\
   Xh P G (Γ.upd id (some (b,base',n))) (H.upd id (.J (g+1) e cells')) (bO w b (.cells c' e (0,0))):=by
 have hblk:=R.lt id b base n hΓ;have E:Xk Γ H w (Γ.upd id (some (b,base',n))) (H.upd id (.J (g+1) e cells')) (bO w b (.cells c' e (0,0))):=by
  refine⟨rfl,rfl,rfl,by rw[jP];exact Nat.le_refl _,fun b' hb ho=>⟨?_,?_⟩,fun j hj hj' x' hx'=>?_,?_,?_,EZ hΓ⟩
  ·rw[eF,SQ];rintro⟨rfl,_⟩;exact ho ⟨id,base,n,hΓ⟩
  ·rintro⟨j,base'',n'',hj⟩;by_cases hji:j=id
   ·rw[hji,aC.dY]at hj;simp only[Option.some.injEq,Prod.mk.injEq]at hj;exact ho ⟨id,base,n,by rw[hΓ,hj.1]⟩
   ·rw[aC.ja _ _ _ hji]at hj;exact ho ⟨j,base'',n'',hj⟩
  ·rw[ag]at hx';by_cases hji:j=id
   ·subst hji;rw[SU rfl]at hx';cases hx';exact⟨_,hg,Vm _,fun h=>O⟩
   ·rw[SQ hji]at hx';exact⟨x',hx',Xe.tG (aC.ja _ _ _ hji) _⟩
  ·have h0:=R.J id g e cells hg;rw[hΓ]at h0;obtain⟨c,a1,_⟩:=h0;exact fun a _=>ry a1 (fun _ _ _ h=>by cases h;rfl) (fun _ _ _ h=>by cases h;rfl) a
  ·have h0:=R.J id g e cells hg;rw[hΓ]at h0;obtain⟨c,a1,a2,_⟩:=h0;exact z7 a1 (by rw[hsz,a2])
 refine⟨E,R.oJ (id:=id) E W8 (fun j hj=>by rw[ag,SQ hj]) (fun j hj=>aC.ja _ _ _ hj)
  (fun j b' base' n' hj hg'=>?_) ?_ ?_ ?_ ?_ ?_ ?_ ?_ ?_⟩
 ·rw[eF,SQ];rintro⟨rfl,_⟩;exact hj (R.inj j id b' base' n' base n hg' hΓ)
 ·intro g' e' cells'' hg';rw[ag,SU rfl]at hg';simp only[Option.some.injEq,Xe.J.injEq]at hg';obtain⟨rfl,rfl,rfl⟩:=hg';rw[aC.dY];refine⟨c',by rw[eF,SU ⟨rfl,hblk⟩],hsz,hle,fun i hi=>?_⟩;obtain⟨cv,h1,h2⟩:=hrel i hi;exact⟨cv,h1,h2.bb E W8⟩
 ·intro st pend n env ps asg body hg';rw[ag,SU rfl]at hg';cases hg'
 ·intro es hg';rw[ag,SU rfl]at hg';cases hg'
 ·intro hg';rw[ag,SU rfl]at hg';cases hg'
 ·intro j b' base' n' base'' n'' hj h1 h2;rw[aC.dY]at h1;simp only[Option.some.injEq,Prod.mk.injEq]at h1;obtain⟨rfl,rfl,rfl⟩:=h1;exact hj (R.inj j id _ _ _ _ _ h2 hΓ)
 ·exact fun x _=>⟨_,by rw[ag,SU rfl]⟩
 ·intro b' base'' n' h1;rw[aC.dY]at h1;simp only[Option.some.injEq,Prod.mk.injEq]at h1;rw[jP];omega
 ·exact fun _ _=>R.A id _ hg
def Fb {cells:List W9}(R:Xh P G Γ H w)
  (hg:H.get id=some (.J g e cells)) (hle:cells'.length<=c'.size)
  (hrel:∀i (_:i<cells'.length),∃cv,c'[i]?=some cv/\Xc P Γ H w cells'[i] cv):
  Xk Γ H w (Γ.upd id (some (w.heap.size,0,c'.size))) (H.upd id (.J (g+1) e cells')) (w.alloc (.cells c' e)) /\
   Xh P G (Γ.upd id (some (w.heap.size,0,c'.size))) (H.upd id (.J (g+1) e cells')) (w.alloc (.cells c' e)):=by
 have E:Xk Γ H w (Γ.upd id (some (w.heap.size,0,c'.size))) (H.upd id (.J (g+1) e cells')) (w.alloc (.cells c' e)):=by
  refine⟨rfl,rfl,rfl,W5,fun b' hb ho=>⟨pU hb,?_⟩,fun j hj hj' x' hx'=>?_,?_,tF rfl,wQ⟩
  ·rintro⟨j,base'',n'',hj⟩;by_cases hji:j=id
   ·rw[hji,aC.dY]at hj;simp only[Option.some.injEq,Prod.mk.injEq]at hj;omega
   ·rw[aC.ja _ _ _ hji]at hj;exact ho ⟨j,base'',n'',hj⟩
  ·rw[ag]at hx';by_cases hji:j=id
   ·subst hji;rw[SU rfl]at hx';cases hx';exact⟨_,hg,Vm _,fun h=>O⟩
   ·rw[SQ hji]at hx';exact⟨x',hx',Xe.tG (aC.ja _ _ _ hji) _⟩
  ·exact fun a _=>pS rfl (fun _ _ _ h=>by cases h;rfl) a
 refine⟨E,R.oJ (id:=id) E W8 (fun j hj=>by rw[ag,SQ hj]) (fun j hj=>aC.ja _ _ _ hj)
  (fun j b' base' n' hj hg'=>pU (R.lt j b' base' n' hg')) ?_ ?_ ?_ ?_ ?_ ?_ ?_ ?_⟩
 ·intro g' e' cells'' hg';rw[ag,SU rfl]at hg';simp only[Option.some.injEq,Xe.J.injEq]at hg';obtain⟨rfl,rfl,rfl⟩:=hg';rw[aC.dY];refine⟨c',by rw[heap_alloc,SU rfl],rfl,O,fun i hi=>?_⟩;obtain⟨cv,h1,h2⟩:=hrel i hi;exact⟨cv,by rw[Nat.zero_add];exact h1,h2.bb E W8⟩
 ·intro st pend n env ps asg body hg';rw[ag,SU rfl]at hg';cases hg'
 ·intro es hg';rw[ag,SU rfl]at hg';cases hg'
 ·intro hg';rw[ag,SU rfl]at hg';cases hg'
 ·intro j b' base' n' base'' n'' hj h1 h2;rw[aC.dY]at h1;simp only[Option.some.injEq,Prod.mk.injEq]at h1;have:=R.lt j _ _ _ h2;omega
 ·exact fun x _=>⟨_,by rw[ag,SU rfl]⟩
 ·intro b' base'' n' h1;rw[aC.dY]at h1;simp only[Option.some.injEq,Prod.mk.injEq]at h1;simp;omega
 ·exact fun _ _=>R.A id _ hg
def tH (Γ:aC)(H:Xn)(w:World)(n:Nat):Xk Γ H w Γ H { w with drawn:=n } :=
 ⟨rfl,rfl,rfl,W8,fun _ _ h=>⟨rfl,h⟩,fun _ _ _ x' h=>⟨x',h,Xe.le_refl _ _ _⟩,fun _ _=>rfl,.refl _,.refl _ _⟩
def Xh.drew (R:Xh P G Γ H w)(n:Nat):Xh P G Γ H { w with drawn:=n } :=
 R.oJ (id:=H.A) (tH Γ H w n) W8 (fun _ _=>rfl) (fun _ _=>rfl) (fun _ _ _ _ _ _=>rfl)
  (fun g e cells h=>absurd (R.A _ _ h) (VB _)) (fun st pend n env ps asg body h=>absurd (R.A _ _ h) (VB _)) (fun es h=>absurd (R.A _ _ h) (VB _))
  (fun h=>absurd (R.A _ _ h) (VB _))
  (fun j b base n base' n' hj h1 h2=>by obtain⟨y,hy⟩:=R.nD _ _ h1;exact absurd (R.A _ _ hy) (VB _))
  (fun x hx=>R.nD _ x hx) (fun b base n hx=>R.lt _ b base n hx) (fun y hy=>R.A _ y hy)
def Fc (R:Xh P G Γ H w)(h:H.lay id (.mp [])=some H'):
  Xk Γ H w (Γ.upd id (some (w.heap.size,0,0))) H' (w.alloc (g8 []))/\H.A<=H'.A/\Xh P G (Γ.upd id (some (w.heap.size,0,0))) H' (w.alloc (g8 [])):=by
 obtain⟨f1,f2,f3,f4⟩:=nk R h;obtain⟨hget,hor⟩:=jS h;have E:Xk Γ H w (Γ.upd id (some (w.heap.size,0,0))) H' (w.alloc (g8 [])):=by
  refine⟨rfl,rfl,rfl,W5,fun b hb ho=>⟨pU hb,?_⟩,fun j hj hj' x' hx'=>?_,?_,tF rfl,wQ⟩
  ·rintro⟨j,base,n,hj⟩;by_cases hji:j=id
   ·rw[hji,aC.dY]at hj;simp only[Option.some.injEq,Prod.mk.injEq]at hj;omega
   ·rw[aC.ja _ _ _ hji]at hj;exact ho ⟨j,base,n,hj⟩
  ·rw[hget]at hx';by_cases hji:j=id
   ·subst hji;rcases f2 with f2|f2
    ·rcases hor with ⟨h1,h2⟩|h2
     ·omega
     ·rw[f2]at h2;cases h2.1
    ·exact⟨.nm,f2,trivial⟩
   ·rw[SQ hji]at hx';exact⟨x',hx',Xe.tG (aC.ja _ _ _ hji) _⟩
  ·exact fun a _=>pS rfl (fun _ _ _ h=>by cases h) a
 refine⟨E,f3,R.oJ (id:=id) E f3 (fun j hj=>by rw[hget,SQ hj]) (fun j hj=>aC.ja _ _ _ hj)
  (fun j b base n hj hg=>pU (R.lt j b base n hg)) ?_ ?_ ?_ ?_ ?_ ?_ ?_ ?_⟩
 ·intro g e' cells' hg;rw[hget,SU rfl]at hg;cases hg
 ·intro st pend n env ps asg body hg;rw[hget,SU rfl]at hg;cases hg
 ·intro es hg;rw[hget,SU rfl]at hg;cases hg;exact⟨w.heap.size,aC.dY _ _ _,by rw[heap_alloc,SU rfl]⟩
 ·intro hg;rw[hget,SU rfl]at hg;cases hg
 ·intro j b base n base' n' hj h1 h2;rw[aC.dY]at h1;simp only[Option.some.injEq,Prod.mk.injEq]at h1;have:=R.lt j b base' n' h2;omega
 ·exact fun x _=>⟨_,by rw[hget,SU rfl]⟩
 ·intro b base n h1;rw[aC.dY]at h1;simp only[Option.some.injEq,Prod.mk.injEq]at h1;simp;omega
 ·exact fun _ _=>f4
def tI {es:List (Int × Int)}(es':List (Int × Int))(R:Xh P G Γ H w)(hg:H.get id=some (.mp es))(hΓ:Γ id=some (b,0,0))(hb:w.heap[b]?=some (g8 es)):
  Xk Γ H w Γ (H.upd id (.mp es')) (bO w b (g8 es'))/\Xh P G Γ (H.upd id (.mp es')) (bO w b (g8 es')):=by
 have hblk:=R.lt id b 0 0 hΓ;have E:Xk Γ H w Γ (H.upd id (.mp es')) (bO w b (g8 es')):=by
  refine⟨rfl,rfl,rfl,by rw[jP];exact Nat.le_refl _,fun b' hb ho=>⟨?_,ho⟩,fun j hj hj' x' hx'=>?_,?_,wM hb fun _ _ _ h=>(by cases h),.refl _ _⟩
  ·rw[eF,SQ];rintro⟨rfl,_⟩;exact ho ⟨id,0,0,hΓ⟩
  ·rw[ag]at hx';by_cases hji:j=id
   ·subst hji;rw[SU rfl]at hx';cases hx';exact⟨_,hg,rfl⟩
   ·rw[SQ hji]at hx';exact⟨x',hx',Xe.le_refl _ _ _⟩
  ·exact fun a _=>ry hb (fun _ _ _ h=>by cases h) (fun _ _ _ h=>by cases h) a
 refine⟨E,R.oJ (id:=id) E W8 (fun j hj=>by rw[ag,SQ hj]) (fun j hj=>rfl)
  (fun j b' base' n' hj hg'=>?_) ?_ ?_ ?_ ?_ ?_ ?_ ?_ ?_⟩
 ·rw[eF,SQ];rintro⟨rfl,_⟩;exact hj (R.inj j id b' base' n' 0 0 hg' hΓ)
 ·intro g' e' cells'' hg';rw[ag,SU rfl]at hg';cases hg'
 ·intro st pend n env ps asg body hg';rw[ag,SU rfl]at hg';cases hg'
 ·intro es2 hg';rw[ag,SU rfl]at hg';cases hg';exact⟨b,hΓ,by rw[eF,SU ⟨rfl,hblk⟩]⟩
 ·intro hg';rw[ag,SU rfl]at hg';cases hg'
 ·intro j b' base' n' base'' n'' hj h1 h2;rw[hΓ]at h1;simp only[Option.some.injEq,Prod.mk.injEq]at h1;obtain⟨rfl,rfl,rfl⟩:=h1;exact hj (R.inj j id _ _ _ _ _ h2 hΓ)
 ·exact fun x _=>⟨_,by rw[ag,SU rfl]⟩
 ·intro b' base' n' h1;rw[jP];exact R.lt id b' base' n' h1
 ·exact fun _ _=>R.A id _ hg
end Go.Hx
namespace Go.Hx
def aw (G:Nat->Option (List W9))(ρ:Env):Operand->W9
 |.tmp t=>ρ t
 |.const v=>.lit v
 |.global g=>match G g with|some cells=>.nf cells 0|none=>.lit (.pointer (some ⟨g,0,none⟩))
 |.func f=>.Z f [] []
def bU (P:Program)(t:TypeId):Option (List W9) :=
 match P.info? t with
 |some i=>match i.zero with
  |some z=>if z.cells.size=i.size then some (z.cells.toList.map .lit) else none
  |none=>none
 |none=>none
def kA (P:Program)(t:TypeId)(n:Nat):Option (List W9):=(bU P t).map fun z=>(List.replicate n z).flatten
def iR (P:Program)(t:TypeId):Option (List (Nat × Nat)) :=
 match P.underlying t with
 |some (.struct fs)=>if fs.toList.all fun f=>(P.info? f.type).isSome then some (fs.toList.map fun f=>(f.offset,P.cellsOf f.type)) else none
 |_=>none
def bK (P:Program)(t:TypeId)(i:Nat):Option (Nat × TypeId) :=
 match P.underlying t with
 |some (.struct fs)=>match fs[i]? with
  |some f=>if (P.info? f.type).isSome/\P.cellsOf f.type≠0 then some (f.offset,f.type) else none
  |none=>none
 |_=>none
def Xn.X (H:Xn)(id gen:Nat):Option (TypeId × List W9) :=
 match H.get id with
 |some (.J g e cells)=>if g=gen then some (e,cells) else none
 |_=>none
def bZ:Option W9->Nat->Nat->Option Nat
 |none,d,_=>some d
 |some (.lit (.int _ i)),_,m=>if 0<=i/\i<=(m:Int) then some i.toNat else none
 |_,_,_=>none
def np (P:Program)(H:Xn)(t:TypeId)(x:W9)(i:Int):Option W9 :=
 match P.underlying t with
 |some (.array n e) =>
  if 0<=i/\i<(n:Int)/\(P.underlying e).isSome then
   match x with
   |.R id gen off=>(H.X id gen).map fun _=>.R id gen (off+i.toNat*P.cellsOf e)
   |.nf cells off=>some (.nf cells (off+i.toNat*P.cellsOf e))
   |_=>none
  else none
 |some (.slice e) =>
  if (P.underlying e).isSome then
   match x with
   |.Q id gen off len sz=>if 0<=i/\i<(len:Int)/\sz=P.cellsOf e then (H.X id gen).map fun _=>.R id gen (off+i.toNat*P.cellsOf e) else none
   |.M len cells=>if 0<=i/\i<(len:Int)/\cells≠[] then some (.nf cells (i.toNat*P.cellsOf e)) else none
   |_=>none
  else none
 |_=>none
def nt (P:Program)(H:Xn)(t:TypeId)(x:W9)(lo hi:Option W9):Option W9 :=
 match P.underlying t with
 |some (.array n e) =>
  if (P.underlying e).isSome then
   match x with
   |.R id gen off =>
    match H.X id gen with
    |some (_,cells) =>
     if off+n*P.cellsOf e<=cells.length then
      (bZ hi n n).bind fun h=>(bZ lo 0 h).map fun l=>.Q id gen (off+l*P.cellsOf e) (h-l) (P.cellsOf e)
     else none
    |none=>none
   | .nf cells off=>if off+n*P.cellsOf e≤cells.length then
      (bZ hi n n).bind fun h=>(bZ lo 0 h).map fun l=>.M (h-l) ((cells.drop (off+l*P.cellsOf e)).take ((h-l)*P.cellsOf e))
     else none
   |_=>none
  else none
 |some (.slice e) =>
  if (P.underlying e).isSome then
   match x with
   |.Q id gen off len sz=>if sz=P.cellsOf e then (H.X id gen).bind fun _=>(bZ hi len len).bind fun h=>(bZ lo 0 h).map fun l=>.Q id gen (off+l*sz) (h-l) sz else none
   |.M len cells=>if cells.length=len*P.cellsOf e then (bZ hi len len).bind fun h=>(bZ lo 0 h).map fun l=>.M (h-l) ((cells.drop (l*P.cellsOf e)).take ((h-l)*P.cellsOf e)) else none
   |.lit (.slice none 0 0)=>(bZ hi 0 0).bind fun h=>(bZ lo 0 h).map fun _=>.lit (.slice none 0 0)
   |_=>none
  else none
 |some .string =>
  match x with
  |.lit (.string s)=>(bZ hi s.size s.size).bind fun h=>(bZ lo 0 h).map fun l=>.lit (.string (s.extract l h))
  |_=>none
 |_=>none
def cX (H:Xn)(sz:Nat):W9->Option (Nat × List W9)
 |.M len cells=>if cells.length=len*sz then some (len,cells) else none
 |.Q id gen off len sz'=>if sz'=sz then (H.X id gen).map fun x=>(len,(x.2.drop off).take (len*sz)) else none
 |.lit (.slice none 0 0)=>some (0,[])
 |_=>none
def bT (P:Program)(H:Xn)(id:Nat)(at0 at1:TypeId)(s x:W9):Option (W9 × Xn) :=
 match P.underlying at0 with
 |some (.slice e) =>
  match P.underlying at1 with
  |some (.slice _) =>
   (bU P e).bind fun _ =>
   (cX H (P.cellsOf e) x).bind fun nx =>
    match s with
    |.lit (.slice none 0 0) =>
     if nx.1=0 then some (s,H)
     else if nx.1*P.bytesOf e<=2 ^ 47/\nx.1<=2 ^ 47 then (H.lay id (.J 0 e nx.2)).map fun H'=>(.Q id 0 0 nx.1 (P.cellsOf e),H')
     else none
    |.Q id' gen off len sz =>
     (H.X id' gen).bind fun ec =>
      if ec.1=e/\sz=P.cellsOf e/\off+len*sz=ec.2.length/\(len+nx.1)*P.bytesOf e<=2 ^ 47/\len+nx.1<=2 ^ 47/\nx.2.all W9.one=true then
       if nx.1=0 then some (s,H)
       else some (.Q id' (gen+1) 0 (len+nx.1) sz,H.upd id' (.J (gen+1) e (ec.2.drop off++nx.2)))
      else none
    |_=>none
  |_=>none
 |_=>none
def lD (P:Program)(H:Xn)(at0:TypeId)(d x:W9):Option (W9 × Xn) :=
 match P.underlying at0 with
 |some (.slice e) =>
  if (P.underlying e).isSome then
   (cX H (P.cellsOf e) x).bind fun nx =>
    match d with
    |.Q id gen off len sz =>
     (H.X id gen).bind fun ec =>
      if sz=P.cellsOf e/\off+len*sz<=ec.2.length/\nx.2.all W9.one=true then
       some (.lit (.int .i64 (min nx.1 len:Nat)),H.upd id (.J gen ec.1 (setAt ec.2 off (nx.2.take (min nx.1 len*sz)))))
      else none
    |_=>none
  else none
 |_=>none
def mm (P:Program)(H:Xn)(t:TypeId)(x:W9):Option W9 :=
 match P.underlying t with
 |some (.slice _) =>
  match x with
  |.M len _=>some (.lit (.int .i64 len))
  |.Q id gen _ len _=>(H.X id gen).map fun _=>.lit (.int .i64 len)
  |.lit (.slice none 0 0)=>some (.lit (.int .i64 0))
  |_=>none
 |some .string =>
  match x with
  |.lit (.string s)=>some (.lit (.int .i64 s.size))
  |_=>none
 |some (.array n _)=>some (.lit (.int .i64 n))
 |_=>none
def rC (P:Program)(t:TypeId):Bool:=match P.underlying t with
 |some (.map kt et)=>(match P.underlying kt with|some (.int .i64)=>true|_=>false) && (match (P.info? et).bind (·.zero) with|some (.int .i64 0)=>true|_=>false)
 |_=>false
def jo (k:Int):Nat->List (Int × Int)->Option (Nat × Int)
 |_,[]=>none
 |i,(a,v) :: l=>if k=a then some (i,v) else jo k (i+1) l
def wS (es:List (Int × Int))(k v:Int):List (Int × Int):=match jo k 0 es with
 |some (i,_)=>es.set i (k,v)
 |none=>es++[(k,v)]
def wT (es:List (Int × Int))(i:Nat)(v:Int):List (Int × Int):=match es[i]? with
 |some (k,_)=>es.set i (k,v)
 |none=>es
def tJ (ok:Bool)(r:Option (Nat × Int)):W9:=match r with
 |some (_,v)=>if ok then .na [.lit (.int .i64 v),.lit (.bool true)] else .lit (.int .i64 v)
 |none=>if ok then .na [.lit (.int .i64 0),.lit (.bool false)] else .lit (.int .i64 0)
def pV (P:Program)(H:Xn)(t:TypeId)(x i:W9)(ok:Bool):Option W9:=if rC P t=true then
  match x,i with
  |.lit (.map none),.lit (.int .i64 _)=>some (tJ ok none)
  |.ni id,.lit (.int .i64 k)=>match H.get id with
   |some (.mp es)=>some (tJ ok (jo k 0 es))
   |_=>none
  |_,_=>none
 else none
def mn (P:Program)(H:Xn)(t:TypeId)(m k x:W9):Option (W9 × Xn):=if rC P t=true then
  match m,k,x with
  |.ni id,.lit (.int .i64 k),.lit (.int .i64 v)=>match H.get id with
   |some (.mp es)=>some (.lit undef,H.upd id (.mp (wS es k v)))
   |_=>none
  |_,_,_=>none
 else none
def oL (P:Program)(H:Xn)(t:TypeId)(m k:W9):Option (W9 × Xn):=if rC P t=true then
  match m,k with
  |.ni id,.lit (.int .i64 k)=>match H.get id with
   |some (.mp es)=>match jo k 0 es with
    |some (i,v)=>some (.na [.lit (.int .i64 v),.lit (.int .i64 i)],H.upd id (.mp es))
    |none=>some (.na [.lit (.int .i64 0),.lit (.int .i64 es.length)],H.upd id (.mp (es++[(k,0)])))
   |_=>none
  |_,_=>none
 else none
def pW (H:Xn)(m s x:W9):Option (W9 × Xn) :=
 match m,s,x with
 |.ni id,.lit (.int .i64 s),.lit (.int .i64 v)=>match H.get id with
  |some (.mp es)=>if 0<=s/\s<es.length then some (.lit undef,H.upd id (.mp (wT es s.toNat v))) else none
  |_=>none
 |_,_,_=>none
def lE (P:Program)(H:Xn)(at0:TypeId)(d:W9):Option (W9 × Xn) :=
 match P.underlying at0 with
 |some (.slice e) =>
  match d with
  |.lit (.slice none 0 0)=>some (.na [],H)
  |.Q id gen off len sz =>
   (H.X id gen).bind fun ec =>
    if len=0 then some (.na [],H)
    else (kA P e len).bind fun z =>
     if z.length=len*sz/\off+len*sz<=ec.2.length/\z.all W9.one=true then some (.na [],H.upd id (.J gen ec.1 (setAt ec.2 off z)))
     else none
  |_=>none
 |_=>none
def pX:List W9->Option (List Value)
 | []=>some []
 |v :: r=>(v.cW).bind fun x=>(pX r).map (x :: ·)
def hJ (P:Program)(H:Xn)(id:Nat)(b:Builtin)(ats:List TypeId)(args:List W9):Option (W9 × Xn) :=
 match b,ats,args with
 |.len,[t],[x]=>(mm P H t x).map fun v=>(v,H)
 |.append,[t,u],[s,x]=>bT P H id t u s x
 |.copy,[t,_],[d,x]=>lD P H t d x
 |.clear,[t],[d]=>lE P H t d
 |.min,_,args=>(pX args).bind fun vs=>(bC P (Builtin.min_ #[] 0 vs.toArray)).map fun v=>(.lit v,H)
 |.max,_,args=>(pX args).bind fun vs=>(bC P (Builtin.max_ #[] 0 vs.toArray)).map fun v=>(.lit v,H)
 |_,_,_=>none
def mo (P:Program)(H:Xn)(id:Nat)(t:TypeId)(l c:W9):Option (W9 × Xn) :=
 match P.underlying t,l,c with
 |some (.slice e),.lit (.int _ l),.lit (.int _ c) =>
  if 0<=l/\l<=c/\c*P.bytesOf e<=2 ^ 46/\c<=2 ^ 46 then
   (kA P e l.toNat).bind fun cells=>(H.lay id (.J 0 e cells)).map fun H'=>(.Q id 0 0 l.toNat (P.cellsOf e),H')
  else none
 |_,_,_=>none
def rD (P:Program)(t:TypeId)(parts:List (Nat × W9)):Option W9 :=
 (bU P t).bind fun z =>
  match P.underlying t with
  |some (.struct _)=>(iR P t).bind fun pl=>(fH (fun i=>pl[i]?) z parts).map .agg
  |some (.array _ e)=>if (P.underlying e).isSome then (fH (fun i=>some (i*P.cellsOf e,P.cellsOf e)) z parts).map .agg else none
  |_=>none
def nu (P:Program)(H:Xn)(id:Nat)(t:TypeId)(len:Nat)(parts:List (Nat × W9)):Option (W9 × Xn) :=
 match P.underlying t with
 |some (.slice e) =>
  if len*P.cellsOf e<=2 ^ 24 then
   (kA P e len).bind fun z=>(fH (fun i=>some (i*P.cellsOf e,P.cellsOf e)) z parts).bind fun cells =>
    (H.lay id (.J 0 e cells)).map fun H'=>(.Q id 0 0 len (P.cellsOf e),H')
  else none
 |_=>none
def bn (P:Program)(op:BinOp)(t:TypeId)(x y:Operand)(a b:W9):Option W9 :=
 match a.cW,b.cW with
 |some a,some b=>(bC P (do eqGuard op t x y a b;binOp op t a b)).map .lit
 |_,_=>none
def pY (P:Program)(op:UnOp)(a:W9):Option W9 :=
 match a.cW with
 |some a=>(bC P (Op.unary op a)).map .lit
 |none=>none
def lF (P:Program)(s d:TypeId)(a:W9):Option W9 :=
 match a.cW with
 |some a=>(bC P (convert s d a)).map .lit
 |none=>none
def pZ:List W9->Option (List Int)
 | []=>some []
 |.lit (.int .u8 n) :: l=>(pZ l).map (n :: ·)
 |_ :: _=>none
def Aa (l:List Int):ByteArray:=l.foldl (fun r n=>r.push (UInt8.ofNat n.toNat)) ByteArray.empty
def Ab (P:Program)(s d:TypeId):Bool:=match P.underlying s,P.underlying d with
 |some (.slice e),some .string=>match P.underlying e with
  |some (.int .u8)=>true
  |_=>false
 |_,_=>false
def ny (P:Program)(H:Xn)(s d:TypeId)(x:W9):Option W9 :=
 if Ab P s d then (cX H 1 x).bind fun nl=>(pZ nl.2).map fun l=>.lit (.string (Aa l)) else none
def lG (P:Program)(H:Xn)(s d:TypeId)(x:W9):Option W9:=match x with
 |.Q id g o l z=>ny P H s d (.Q id g o l z)
 |.M l c=>ny P H s d (.M l c)
 |x=>lF P s d x
def lH (H:Xn):W9->Option W9
 |.R id gen off=>(H.X id gen).map fun _=>.R id gen off
 |.nf cells off=>some (.nf cells off)
 |.Z f a b=>some (.Z f a b)
 |_=>none
def oM (P:Program)(t:TypeId)(x:W9)(i:W9):Option W9 :=
 match x,i with
 |.agg cells,.lit (.int _ i) =>
  match P.underlying t with
  |some (.array n e)=>if 0<=i/\i<(n:Int) then iQ P e cells (i.toNat*P.cellsOf e) else none
  |_=>none
 |.lit v,.lit i=>(bC P (Instr.index t v i)).map .lit
 |_,_=>none
def nE:W9->Nat->Option W9
 |.na vs,i=>vs[i]?
 |.lit (.tuple vs),i=>(vs[i]?).map .lit
 |_,_=>none
def ak (P:Program)(G:Nat->Option (List W9))(ρ:Env)(H:Xn)(id:Nat)(o:Op):Option (W9 × Xn) :=
 match o with
 |.move x|.assign x=>some (aw G ρ x,H)
 |.pick c a b=>match aw G ρ c with
  |.lit (.bool t)=>some (if t then aw G ρ a else aw G ρ b,H)
  |_=>none
 |.alloc e=>(bU P e).bind fun z=>(H.lay id (.J 0 e z)).map fun H'=>(.R id 0 0,H')
 |.box e x=>(H.lay id (.J 0 e (aw G ρ x).cells)).map fun H'=>(.R id 0 0,H')
 |.build t parts=>(rD P t (parts.toList.map fun p=>(p.1,aw G ρ p.2))).map fun v=>(v,H)
 |.buildSlice t len parts=>nu P H id t len (parts.toList.map fun p=>(p.1,aw G ρ p.2))
 |.load t a=>(g9 P H t (aw G ρ a)).map fun v=>(v,H)
 |.store t a x=>if (P.underlying t).isSome then (jQ P H t (aw G ρ a) (aw G ρ x)).map fun H'=>(.lit undef,H') else none
 |.nilCheck x=>(lH H (aw G ρ x)).map fun v=>(v,H)
 |.binOp op t x y _=>(bn P op t x y (aw G ρ x) (aw G ρ y)).map fun v=>(v,H)
 |.unOp op _ x=>(pY P op (aw G ρ x)).map fun v=>(v,H)
 |.convert s d x=>(lG P H s d (aw G ρ x)).map fun v=>(v,H)
 |.makeInterface t x=>match (aw G ρ x).cW with
  |some v=>(bC P (Instr.makeInterface t v)).map fun r=>(.lit r,H)
  |none=>none
 |.makeFunc fn first captured=>match fn with
  |.func f=>some (.Z f (first.toList.map (aw G ρ)) (captured.toList.map (aw G ρ)),H)
  |_=>none
 |.makeSlice t l c=>mo P H id t (aw G ρ l) (aw G ρ c)
 |.slice t x lo hi mx=>match mx with
  |none=>(nt P H t (aw G ρ x) (lo.map (aw G ρ)) (hi.map (aw G ρ))).map fun v=>(v,H)
  |some _=>none
 |.fieldAddr s x f=>(bK P s f).bind fun of=>match aw G ρ x with
  |.R id gen off=>(H.X id gen).map fun _=>(.R id gen (off+of.1),H)
  |.nf cells off=>some (.nf cells (off+of.1),H)
  |_=>none
 |.field t x f=>(bK P t f).bind fun of=>match aw G ρ x with
  |.agg cells=>(iQ P of.2 cells of.1).map fun v=>(v,H)
  |.lit (.agg cs)=>(iQ P of.2 (cs.toList.map .lit) of.1).map fun v=>(v,H)
  |_=>none
 |.indexAddr t x i=>match aw G ρ i with
  |.lit (.int _ i)=>(np P H t (aw G ρ x) i).map fun v=>(v,H)
  |_=>none
 |.index t x i=>(oM P t (aw G ρ x) (aw G ρ i)).map fun v=>(v,H)
 |.extract t i=>(nE (aw G ρ t) i).map fun v=>(v,H)
 |.makeMap _ r=>match r with
  |none=>(H.lay id (.mp [])).map fun H'=>(.ni id,H')
  |some _=>none
 |.lookup t x i ok=>(pV P H t (aw G ρ x) (aw G ρ i) ok).map fun v=>(v,H)
 |.mapUpdate t m k x|.insert t m k x=>mn P H t (aw G ρ m) (aw G ρ k) (aw G ρ x)
 |.mapEntry t m k=>oL P H t (aw G ρ m) (aw G ρ k)
 |.entryStore _ m s x=>pW H (aw G ρ m) (aw G ρ s) (aw G ρ x)
 |.call c=>match c.callee with
  |.builtin b=>hJ P H id b c.argTypes.toList (c.args.toList.map (aw G ρ))
  |_=>none
 |_=>none
end Go.Hx
namespace Go.Hx
variable {P:Program} {G:Nat->Option (List W9)} {Γ Γ':aC} {H H':Xn} {w w':World}
variable {c:Array Value}{b base gen id n o off:Nat}{e t:TypeId}{ca cv:Value}{a v:W9}
def jq {cells:List W9}(h:H.X id gen=some (e,cells)):H.get id=some (.J gen e cells):=by
 unfold Xn.X at h;split at h
 ·rename_i g e' cells' hg;split at h
  ·rename_i hgg;simp only[Option.some.injEq,Prod.mk.injEq]at h;rw[hg,hgg,h.1,h.2]
  ·cases h
 ·cases h
def mq (P:Program)(Γ:aC)(H:Xn)(w:World)(b o:Nat)(cells:List W9):Prop :=
 ∃cs:List Value,cs.length=cells.length/\(∀i (h:i<cs.length),w.cell? ⟨b,o+i,none⟩=some cs[i]) /\
  ∀i (_:i<cells.length) (_:i<cs.length),Xc P Γ H w cells[i] cs[i]
def Fe {f:Nat × Nat}{cells:List W9}(hb:w.heap[b]?=some (.cells c e f))(hle:base+cells.length<=c.size)
  (hrel:∀i (_:i<cells.length),∃cv,c[base+i]?=some cv/\Xc P Γ H w cells[i] cv):mq P Γ H w b base cells:=by
 refine⟨(c.toList.drop base).take cells.length,by simp;omega,fun i hi=>?_,fun i h1 h2=>?_⟩
 ·rw[z8 hb];simp only[Td,TB,UE]at hi;simp only[Vb,Vc,TW];rw[S6 O]
 ·obtain⟨cv,a1,a2⟩:=hrel i h1;simp only[Vb,Vc,TW];rw[S6 O]at a1;simp only[Option.some.injEq]at a1;rw[a1];exact a2
theorem mq.drop {cells:List W9}(h:mq P Γ H w b o cells)(k n:Nat)(hk:k+n<=cells.length):mq P Γ H w b (o+k) ((cells.drop k).take n):=by
 obtain⟨cs,h1,h2,h3⟩:=h;refine⟨(cs.drop k).take n,by simp[h1],fun i hi=>?_,fun i a1 a2=>?_⟩
 ·simp only[Td,TB]at hi;have:=h2 (k+i) O;simp only[Vb,Vc];rw[<- this];congr 2;omega
 ·simp only[Vb,Vc];simp only[Td,TB]at a1 a2;exact h3 (k+i) O (O)
def tK {cells:List W9}(hp:iQ P t cells off=some v)(hr:mq P Γ H w b o cells):
  ∃cv,(loadVar t ⟨b,o+off,none⟩).run P w=.ok cv w/\Xc P Γ H w v cv:=by
 unfold iQ at hp;split at hp
 ·cases hp
 ·rename_i d hd;split at hp
  ·rename_i ha;split at hp
   ·rename_i hle;simp only[Option.some.injEq]at hp;subst hp;obtain⟨cs,h1,h2,h3⟩:=hr.drop off (P.cellsOf t) hle;refine⟨.agg cs.toArray,EK hd ha ?_ h2,.agg h1 h3⟩;rw[h1];simp;omega
   ·cases hp
  ·rename_i ha;obtain⟨cs,h1,h2,h3⟩:=hr;obtain⟨hlt,hv⟩:=Tq.1 hp;subst hv;exact⟨cs[off]' O,EL hd (by simpa using ha) (h2 off O),h3 off hlt O⟩
def qa {cells:List W9}(h:Xc P Γ H w (.R id gen off) cv)(hl:H.X id gen=some (e,cells)):
  ∃b base n,Γ id=some (b,base,n)/\cv=.pointer (some ⟨b,base+off,none⟩):=by
 cases h with
 |R h=>exact(h.2.2.2 gen e cells (jq hl)).2 rfl
def jT {len sz:Nat}{cells:List W9}(h:Xc P Γ H w (.Q id gen off len sz) cv)(hl:H.X id gen=some (e,cells)):
  (∃b base n a cap,Γ id=some (b,base,n)/\cv=.slice (some a) len cap/\len<=cap/\off+len*sz<=cells.length /\
   ((a=⟨b,base+off,none⟩/\base+off+cap*sz<=n)\/(len=0/\cap=0))) \/
  (Γ id=none/\off=0/\len=0/\cv=.slice none 0 0):=by
 cases h with
 |Q h =>
  have:=(h.2.2.2 gen e cells (jq hl)).2 rfl;cases hg:Γ id with
  |none=>rw[hg]at this;exact .inr ⟨rfl,this⟩
  |some x =>
   obtain⟨b,base,n⟩:=x;rw[hg]at this;obtain⟨a,cap,h1,h2,h3,h4⟩:=this;exact .inl ⟨b,base,n,a,cap,rfl,h1,h2,h3,h4⟩
def qb (R:Xh P G Γ H w){cells:List W9}(hl:H.X id gen=some (e,cells))(hΓ:Γ id=some (b,base,n)):
  ∃c,w.heap[b]?=some (.cells c e (0,0))/\c.size=n/\base+cells.length<=n/\∀i (_:i<cells.length),∃cv,c[base+i]?=some cv/\Xc P Γ H w cells[i] cv:=by
 have:=R.J id gen e cells (jq hl);rw[hΓ]at this;exact this
def rF (R:Xh P G Γ H w){cells:List W9}(hl:H.X id gen=some (e,cells))(hΓ:Γ id=some (b,base,n)):
  mq P Γ H w b base cells:=by
 obtain⟨c,h1,h2,h3,h4⟩:=qb R hl hΓ;exact Fe h1 O h4
def Ff (R:Xh P G Γ H w)(h:g9 P H t a=some v)(ha:Xc P Γ H w a ca):
  ∃cv,(Instr.loadAt t ca).run P w=.ok cv w/\Xc P Γ H w v cv:=by
 unfold g9 at h;split at h
 ·rename_i id gen off;split at h
  ·rename_i g e cells hg;split at h
   ·rename_i hgg;have hl:H.X id gen=some (e,cells):=(by simp[Xn.X,hg,hgg]);obtain⟨b,base,n,hΓ,rfl⟩:=qa ha hl;obtain⟨cv,h1,h2⟩:=tK h (rF R hl hΓ);refine⟨cv,?_,h2⟩;unfold Instr.loadAt Instr.sureAddr;exact h1
   ·cases h
  ·cases h
 ·rename_i cells off;cases ha with
  |nf hb hlt hcs hcell hrel =>
   obtain⟨cv,h1,h2⟩:=tK h ⟨_,hcs,hcell,hrel⟩;exact⟨cv,h1,h2⟩
 ·cases h
def tL {cells:List W9}{cs:List Value}(h:cells.all W9.one=true)(hl:cs.length=cells.length)
  (hr:∀i (_:i<cells.length) (_:i<cs.length),Xc P Γ H w cells[i] cs[i]):∀v,v∈cs->v.oneCell=true:=by
 intro v hv;obtain⟨i,hi,rfl⟩:=List.getElem_of_mem hv;exact(hr i O hi).one (Tn.1 h _ (TC O))
def tM {cells vs:List W9}{cvs:List Value}(hle:off+vs.length<=cells.length)(hc:base+cells.length<=c.size)
  (hl:cvs.length=vs.length) (hrel:∀i (_:i<cells.length),∃cv,c[base+i]?=some cv/\Xc P Γ H w cells[i] cv)
  (hv:∀i (_:i<vs.length) (_:i<cvs.length),Xc P Γ H w vs[i] cvs[i]):
  ∀i (_:i<(setAt cells off vs).length),∃cv,(setRow c (base+off) cvs)[base+i]?=some cv/\Xc P Γ H w (setAt cells off vs)[i] cv:=by
 intro i hi;have hi':=hi;rw[pT hle]at hi';rw[zY _ _ _ O];have hg:(setAt cells off vs)[i]?=some (setAt cells off vs)[i]:=SP hi;rw[ER hle]at hg;by_cases h1:off<=i/\i<off+vs.length
 ·rw[SU h1]at hg;rw[SU O];have h2:i-off<vs.length:=O
  rw[SP h2]at hg;simp only[Option.some.injEq]at hg;rw[<- hg];refine⟨cvs[i-off]' O,?_,hv _ h2 O⟩;rw[show base+i-(base+off)=i-off from by omega,SP O]
 ·rw[SQ h1,SP hi']at hg;rw[SQ O];simp only[Option.some.injEq]at hg;rw[<- hg];exact hrel i hi'
def Fg (R:Xh P G Γ H w)(h:jQ P H t a v=some H')(ht:∃i,P.info? t=some i)(ha:Xc P Γ H w a ca)(hv:Xc P Γ H w v cv):
  ∃w',(Instr.storeAt t ca cv).run P w=.ok () w'/\Xk Γ H w Γ H' w'/\H.A<=H'.A/\Xh P G Γ H' w':=by
 unfold jQ at h;split at h
 ·rename_i id gen off;split at h
  ·rename_i g e cells hg;split at h
   ·rename_i hgg;obtain⟨hgg,h1,h2,h3⟩:=hgg;simp only[Option.some.injEq]at h;subst h;have hl:H.X id gen=some (e,cells):=(by simp[Xn.X,hg,hgg]);obtain⟨b,base,n,hΓ,rfl⟩:=qa ha hl;obtain⟨c,c1,c2,c3,c4⟩:=qb R hl hΓ;obtain⟨v1,v2⟩:=hv.cells;obtain⟨i,hi⟩:=ht;have hrun:(Instr.storeAt t (.pointer (some ⟨b,base+off,none⟩)) cv).run P w=.ok () (bO w b (.cells (setRow c (base+off) cv.cells.toList) e (0,0))):=by
     unfold Instr.storeAt Instr.sureAddr;rw[au (Sem.run_pure P w _)];unfold storeVar;rw[au (run_sizeOf hi)];have:¬(cv.cells.size≠P.cellsOf t):=(by rw[<- h1,<- v1];simp);rw[SQ this];have hrun:=rz (P:=P) cv.cells.toList c (base+off) 0 w c1 O (tL h2 v1 v2);exact hrun
    obtain⟨E,R'⟩:=wR (cells':=setAt cells off v.cells) (c':=setRow c (base+off) cv.cells.toList) R hg hΓ (pT h3) (by rw[size_setRow,c2])
     (tM h3 O v1 c4 v2)
    exact⟨_,hrun,E,W8,R'⟩
   ·cases h
  ·cases h
 ·cases h
end Go.Hx
namespace Go.Hx
variable {P:Program} {G:Nat->Option (List W9)} {Γ Γ':aC} {H H':Xn} {w w':World}
variable {cparts:Array (Nat × Value)}{cs:Array Value}{parts:List (Nat × W9)}{z:List W9}{b id n:Nat}{place:Nat->Option (Nat × Nat)}{e t:TypeId}{v:Value}
def dK (P:Program)(Γ:aC)(H:Xn)(w:World)(cells:List W9)(cs:Array Value):Prop :=
 cs.size=cells.length/\∀i (_:i<cells.length) (h:i<cs.size),Xc P Γ H w cells[i] cs[i]
theorem dK.lit (cs:Array Value):dK P Γ H w (cs.toList.map .lit) cs :=
 ⟨W5,fun i h1 h2=>by simp only[S9,TW];exact .lit _⟩
def dK.get {cells:List W9}(h:dK P Γ H w cells cs){i:Nat}(hi:i<cells.length):∃cv,cs[i]?=some cv/\Xc P Γ H w cells[i] cv :=
 ⟨cs[i]'(by rw[h.1];exact hi),by rw[S6],h.2 i hi (by rw[h.1];exact hi)⟩
def qf (h:bU P t=some z):∃i v,P.info? t=some i/\i.zero=some v/\v.cells.size=i.size/\z=v.cells.toList.map .lit/\P.cellsOf t=i.size:=by
 unfold bU at h;split at h
 ·rename_i i hi;split at h
  ·rename_i v hv;split at h
   ·rename_i hs;simp only[Option.some.injEq]at h;exact⟨i,v,hi,hv,hs,h.symm,by simp[Program.cellsOf,hi]⟩
   ·cases h
  ·cases h
 ·cases h
def oU {i:TypeInfo}(hi:P.info? t=some i)(hv:i.zero=some v):(zeroValue t).run P w=.ok v w:=by
 unfold zeroValue;rw[au (run_typeInfo hi)];simp[hv]
def Fk:∀(vs:List Value) (cs:Array Value) (off k:Nat),
  (vs.zipIdx k).foldl (fun cs (p:Value × Nat)=>cs.setIfInBounds (off+p.2) p.1) cs=setRow cs (off+k) vs:=by
 intro vs
 induction vs with
 |nil=>intro cs off k;rfl
 |cons v vs ih=>intro cs off k;rw[List.zipIdx_cons,TF,ih];rfl
def Fl {cells vs:List W9}{cvs:List Value}{off:Nat}(h:dK P Γ H w cells cs)(hle:off+vs.length<=cells.length)(hl:cvs.length=vs.length)
  (hv:∀i (_:i<vs.length) (_:i<cvs.length),Xc P Γ H w vs[i] cvs[i]):dK P Γ H w (setAt cells off vs) (setRow cs off cvs):=by
 refine⟨by rw[size_setRow,pT hle,h.1],fun i h1 h2=>?_⟩;have:=tM (base:=0) hle (by rw[h.1];omega) hl (fun i hi=>by rw[Nat.zero_add];exact h.get hi) hv i h1;rw[Nat.zero_add,Nat.zero_add]at this;obtain⟨cv,a1,a2⟩:=this;rw[S6 h2]at a1;simp only[Option.some.injEq]at a1;rw[a1];exact a2
def xf :∀(parts:List (Nat × W9)) (cparts:List (Nat × Value)) (cells cells':List W9) (cs:Array Value),
  fH place cells parts=some cells'->dK P Γ H w cells cs->cparts.length=parts.length ->
  (∀i (h1:i<parts.length) (h2:i<cparts.length),parts[i].1=cparts[i].1/\Xc P Γ H w parts[i].2 cparts[i].2) ->
  ∃cs',Instr.fill place cs cparts=some cs'/\dK P Γ H w cells' cs':=by
 intro parts
 induction parts with
 |nil =>
  intro cparts cells cells' cs h hr hl _;simp only[fH,Option.some.injEq]at h;subst h;have:cparts=[]:=by simpa using hl
  subst this;exact⟨cs,rfl,hr⟩
 |cons p parts ih =>
  intro cparts cells cells' cs h hr hl hp;cases cparts with
  |nil=>simp at hl
  |cons cp cparts =>
   obtain⟨i,v⟩:=p;obtain⟨ci,cv⟩:=cp;obtain⟨h0,hv⟩:=hp 0 W5 W5;simp only[TE]at h0 hv;subst h0;simp only[fH]at h;simp only[Instr.fill];split at h
   ·cases h
   ·rename_i off size hpl;rw[hpl];split at h
    ·rename_i hc;obtain⟨v1,v2⟩:=hv.cells;have hn:(decide (cv.cells.size≠size) ||decide (off+cv.cells.size > cs.size))=false:=by
      have:cv.cells.size=v.cells.length:=(by rw[<- v1];simp);have:=hr.1;simp;omega
     simp only[hn,Bool.false_eq_true,if_false];have hf:cv.cells.zipIdx.foldl (fun cs (p:Value × Nat)=>cs.setIfInBounds (off+p.2) p.1) cs=setRow cs off cv.cells.toList:=by
      have:=Fk cv.cells.toList cs off 0;rw[Nat.add_zero]at this;rw[<- this,<- Array.foldl_toList,Array.toList_zipIdx]
     rw[hf];exact ih cparts _ _ _ h (Fl hr hc.2 v1 v2) (by simpa using hl)
      (fun i h1 h2=>hp (i+1) (by simpa using h1) (by simpa using h2))
    ·cases h
def Fm :∀ {parts:List (Nat × W9)} {cells cells':List W9},fH place cells parts=some cells'->cells'.length=cells.length:=by
 intro parts
 induction parts with
 |nil=>intro cells cells' h;simp only[fH,Option.some.injEq]at h;rw[h]
 |cons p parts ih =>
  intro cells cells' h;obtain⟨i,v⟩:=p;simp only[fH]at h;split at h
  ·cases h
  ·split at h
   ·rename_i hc;rw[ih h,pT hc.2]
   ·cases h
def xh {α:Type}(z:List α):∀(n i:Nat) (_:i<n*z.length),(List.replicate n z).flatten[i]?=z[i % z.length]?:=by
 intro n
 induction n with
 |zero=>intro i h;simp at h
 |succ n ih =>
  intro i h;rw[Uo,List.flatten_cons];by_cases hi:i<z.length
  ·rw[Ta hi,Vh hi]
  ·rw[Tu O,ih (i-z.length) (by rw[Wb]at h;omega)];rw[<- Nat.mod_eq_sub_mod O]
def xi (hz:z=v.cells.toList.map .lit):
  dK P Γ H w (List.replicate n z).flatten ((Array.range (n*v.cells.size)).map (v.cells[· % v.cells.size]!)):=by
 have hzl:z.length=v.cells.size:=by rw[hz];simp
 refine⟨by simp[hzl],fun i h1 h2=>?_⟩;have hi:i<n*v.cells.size:=by simpa using h2
 have hpos:0<v.cells.size:=by
  rcases T7 v.cells.size with h|h
  ·rw[h]at hi;simp at hi
  ·exact h
 have hg:=xh z n i (by rw[hzl];exact hi);rw[SP h1,hzl]at hg;have hm:i % v.cells.size<v.cells.size:=Va _ hpos;have hz2:z[i % v.cells.size]?=some (.lit v.cells[i % v.cells.size]):=by
  rw[hz,List.getElem?_map,Array.getElem?_toList,S6 hm];rfl
 rw[hz2]at hg;simp only[Option.some.injEq]at hg;rw[hg];simp only[Vd,Array.getElem_range];rw[getElem!_pos v.cells _ hm];exact .lit _
def Fo {v:W9}(h:rD P t parts=some v)(hl:cparts.toList.length=parts.length)
  (hp:∀i (h1:i<parts.length) (h2:i<cparts.toList.length),parts[i].1=cparts.toList[i].1/\Xc P Γ H w parts[i].2 cparts.toList[i].2):
  ∃cv,(Instr.build t cparts).run P w=.ok cv w/\Xc P Γ H w v cv:=by
 unfold rD at h;simp only[SW]at h;obtain⟨z,hz,h⟩:=h;obtain⟨i,zv,hi,hzv,_,hzz,_⟩:=qf hz;unfold Instr.build;rw[au (oU hi hzv)];have hz0:dK P Γ H w z zv.cells:=hzz ▸ dK.lit _;split at h
 ·rename_i fs hd;simp only[SW,SO]at h;obtain⟨pl,hpl,cells,hf,rfl⟩:=h;rw[au (cL hd)];simp only;unfold iR at hpl;rw[hd]at hpl;simp only at hpl;split at hpl
  ·rename_i hall;simp only[Option.some.injEq]at hpl;have hplaces:(fs.mapM fun (f:Field)=>(do pure (f.offset,<- sizeOf f.type):Sem (Nat × Nat))).run P w=.ok (fs.map fun f=>(f.offset,P.cellsOf f.type)) w:=by
    rw[Wx];have key:∀(l:List Field),(l.all fun f=>(P.info? f.type).isSome)=true ->
      (l.mapM fun (f:Field)=>(do pure (f.offset,<- sizeOf f.type):Sem (Nat × Nat))).run P w=.ok (l.map fun f=>(f.offset,P.cellsOf f.type)) w:=by
     intro l
     induction l with
     |nil=>intro _;rfl
     |cons f l ih =>
      intro ha;simp only[List.all_cons,Tv]at ha;obtain⟨j,hj⟩:=Tp.1 ha.1;rw[List.mapM_cons,au (a:=(f.offset,P.cellsOf f.type)) (w':=w) (by rw[au (run_sizeOf hj)];rfl),au (ih ha.2)];rfl
    rw[Sem.run_map,key _ hall,Result.andThen_ok,<- Wi,V0]
   rw[au hplaces];obtain⟨cs',hc1,hc2⟩:=xf parts cparts.toList z cells zv.cells hf hz0 hl hp;have hpe:(fun i:Nat=>(fs.map fun f=>(f.offset,P.cellsOf f.type))[i]?)=fun i=>pl[i]?:=by
    funext i
    rw[<- hpl];simp
   rw[hpe,hc1];exact⟨_,rfl,.agg (by simpa using hc2.1) (fun i h1 h2=>by simpa using hc2.2 i h1 (by simpa using h2))⟩
  ·cases hpl
 ·rename_i n e hd;split at h
  ·rename_i he;simp only[SO]at h;obtain⟨cells,hf,rfl⟩:=h;obtain⟨d,hde⟩:=Tp.1 he;rw[au (cL hd)];simp only;rw[au (iZ hde)];obtain⟨cs',hc1,hc2⟩:=xf parts cparts.toList z cells zv.cells hf hz0 hl hp;rw[hc1];exact⟨_,rfl,.agg (by simpa using hc2.1) (fun i h1 h2=>by simpa using hc2.2 i h1 (by simpa using h2))⟩
  ·cases h
 ·cases h
def xj {cells:List W9}{len cap sz:Nat}{Γ':aC}(hget:H'.get id=some (.J 0 e cells))(hn:id<H'.A)(hΓ:Γ' id=some (b,0,n))
  (hlen:len<=cap) (hle:len*sz<=cells.length) (hcap:cap*sz<=n):Xc P Γ' H' w' (.Q id 0 0 len sz) (.slice (some ⟨b,0,none⟩) len cap):=by
 refine .Q ⟨hn,rfl,by rw[hget];simp,fun g e' cells' hg=>?_⟩;rw[hget]at hg;simp only[Option.some.injEq,Xe.J.injEq]at hg;obtain⟨rfl,rfl,rfl⟩:=hg;refine⟨W8,fun _=>?_⟩;rw[hΓ];exact⟨⟨b,0,none⟩,cap,rfl,hlen,O,.inl ⟨rfl,O⟩⟩
def Ae {cells:List W9}{Γ':aC}(hget:H'.get id=some (.J 0 e cells))(hn:id<H'.A)(hΓ:Γ' id=some (b,0,n)):
  Xc P Γ' H' w' (.R id 0 0) (.pointer (some ⟨b,0,none⟩)):=by
 refine .R ⟨hn,rfl,by rw[hget];simp,fun g e' cells' hg=>?_⟩;rw[hget]at hg;simp only[Option.some.injEq,Xe.J.injEq]at hg;obtain⟨rfl,rfl,rfl⟩:=hg;exact⟨W8,fun _=>⟨b,0,n,hΓ,W5⟩⟩
def Fp {len:Nat}{v:W9}(R:Xh P G Γ H w)(h:nu P H id t len parts=some (v,H'))(hl:cparts.toList.length=parts.length)
  (hp:∀i (h1:i<parts.length) (h2:i<cparts.toList.length),parts[i].1=cparts.toList[i].1/\Xc P Γ H w parts[i].2 cparts.toList[i].2):
  ∃cv Γ' w',(Instr.buildSlice t len cparts).run P w=.ok cv w'/\Xk Γ H w Γ' H' w'/\H.A<=H'.A/\Xh P G Γ' H' w'/\Xc P Γ' H' w' v cv:=by
 unfold nu at h;split at h
 ·rename_i e hd;split at h
  ·rename_i hle;simp only[SW,SO,Prod.mk.injEq]at h;obtain⟨zs,hzs,cells,hf,H1,hlay,rfl,rfl⟩:=h;unfold kA at hzs;simp only[SO]at hzs;obtain⟨z,hz,rfl⟩:=hzs;obtain⟨i,zv,hi,hzv,hsz,hzz,hcells⟩:=qf hz;have hz0:dK P Γ H w (List.replicate len z).flatten ((Array.range (len*zv.cells.size)).map (zv.cells[· % zv.cells.size]!)):=xi hzz;obtain⟨cs',hc1,hc2⟩:=xf parts cparts.toList _ cells _ hf hz0 hl hp;have hrun:(Instr.buildSlice t len cparts).run P w=.ok (.slice (some ⟨w.heap.size,0,none⟩) len len) (w.alloc (.cells cs' e)):=by
    unfold Instr.buildSlice;rw[au (cL hd)];simp only;rw[au (run_sizeOf hi)];rw[SQ O];have hcs:P.cellsOf e=zv.cells.size:=(by rw[hcells,hsz]);rw[hcs];rw[hcs]at hc1;by_cases h0:len*zv.cells.size=0
    ·rw[h0]at hc1;rw[SU h0];rw[au (Sem.run_pure P w _)];have he:∀f:Nat->Value,(Array.range 0).map f=#[]:=fun _=>Vz W5;have he2:∀f:Nat->Value,(Array.range (len*zv.cells.size)).map f=#[]:=fun _=>Vz (by simp[h0]);rw[he]at hc1;rw[he2,hc1];rfl
    ·rw[SQ h0];rw[au (oU hi hzv),au (Sem.run_pure P w _),hc1];rfl
   have hlen:len*P.cellsOf e<=cells.length:=by
    have h1:=Fm hf;rw[h1];simp[hzz,hcells,hsz]
   obtain⟨E,hn,R'⟩:=rB (c:=cs') R hlay (by rw[hc2.1];exact Nat.le_refl _) (fun i hi=>hc2.get hi);obtain⟨hget,_⟩:=jS hlay;obtain⟨_,_,_,hid⟩:=nk R hlay;exact⟨_,_,_,hrun,E,hn,R',xj (by rw[hget,SU rfl]) hid (aC.dY _ _ _) W8 hlen (by rw[hc2.1];exact hlen)⟩
  ·cases h
 ·cases h
end Go.Hx
namespace Go.Hx
variable {P:Program} {G:Nat->Option (List W9)} {Γ Γ':aC} {H H':Xn} {w w':World}
variable {id k:Nat}{t:TypeId}{cv:Value}{v:W9}
def wrap_small {n:Int}(h0:0<=n)(h1:n<=2 ^ 46):IntKind.i64.wrap n=n:=SN n (O)
def Ai {i:TypeInfo}(h:P.info? t=some i):P.bytesOf t=i.bytes:=by simp[Program.bytesOf,h]
def Ft {l c:W9}{cl cc:Value}(R:Xh P G Γ H w)(h:mo P H id t l c=some (v,H'))(hl:Xc P Γ H w l cl)(hc:Xc P Γ H w c cc):
  ∃cv Γ' w',(Instr.makeSlice t cl cc).run P w=.ok cv w'/\Xk Γ H w Γ' H' w'/\H.A<=H'.A/\Xh P G Γ' H' w'/\Xc P Γ' H' w' v cv:=by
 unfold mo at h;split at h
 ·rename_i e kl ln kc cn hd;cases hl;cases hc;split at h
  ·rename_i hb;obtain ⟨b1,b2,b3,b4⟩:=hb;simp only [SW,SO,Prod.mk.injEq] at h;obtain ⟨zs,hzs,H1,hlay,rfl,rfl⟩:=h;unfold kA at hzs;simp only [SO] at hzs;obtain ⟨z,hz,rfl⟩:=hzs;obtain ⟨i,zv,hi,hzv,hsz,hzz,hcells⟩:=qf hz;have hcs : P.cellsOf e=zv.cells.size:=(by rw [hcells,hsz]);have hw1:=wrap_small b1 (by omega : ln≤2 ^ 46);have hw2:=wrap_small (by omega : 0≤cn) b4;have hzr : dK P Γ H w (List.replicate cn.toNat z).flatten ((Array.range (cn.toNat*zv.cells.size)).map (zv.cells[· % zv.cells.size]!)):=xi hzz;have hrun : (Instr.makeSlice t (.int kl ln) (.int kc cn)).run P w=.ok (.slice (some ⟨w.heap.size,0,none⟩) ln.toNat cn.toNat)
     (w.alloc (.cells ((Array.range (cn.toNat*zv.cells.size)).map (zv.cells[· % zv.cells.size]!)) e)):=by
    unfold Instr.makeSlice;rw[au (cL hd)];simp only;have ai:∀(k:IntKind) (n:Int),(asInt (.int k n)).run P w=.ok n w:=fun _ _=>rfl;rw[au (ai _ _),au (ai _ _),au (run_typeInfo hi)];simp only[hw1,hw2];have hbi:=Ai hi;have hmul:(i.bytes:Int)*cn<=2 ^ 46:=(by rw[<- hbi,TN];exact b3);rw[SQ (by simp;omega)];rw[au (run_askRoom P w _),au (run_sizeOf hi)];rw[hcs];by_cases h0:cn.toNat*zv.cells.size=0
    ·rw[SU h0,au (Sem.run_pure P w _)];have he2:∀f:Nat->Value,(Array.range (cn.toNat*zv.cells.size)).map f=#[]:=fun _=>Vz (by simp[h0]);rw[he2,he2];rfl
    ·rw[SQ h0,au (oU hi hzv),au (Sem.run_pure P w _)];rfl
   have hzl:z.length=zv.cells.size:=(by rw[hzz];simp);have hsize:((Array.range (cn.toNat*zv.cells.size)).map (zv.cells[· % zv.cells.size]!)).size=cn.toNat*zv.cells.size:=W5;have hle:ln.toNat*zv.cells.size<=cn.toNat*zv.cells.size:=Tr _ O;have hlen1:(List.replicate ln.toNat z).flatten.length=ln.toNat*zv.cells.size:=(by simp[hzl]);obtain⟨E,hn,R'⟩:=rB (c:=(Array.range (cn.toNat*zv.cells.size)).map (zv.cells[· % zv.cells.size]!)) R hlay (by rw[hsize,hlen1];exact hle)
    (fun i hi=>by
     rw[hlen1]at hi;have h1:=xh z ln.toNat i (by rw[hzl];exact hi);have h2:=xh z cn.toNat i (by rw[hzl];omega);obtain⟨cv,a1,a2⟩:=hzr.get (i:=i) (by simp[hzl];omega);refine⟨cv,a1,?_⟩;have:(List.replicate ln.toNat z).flatten[i]=(List.replicate cn.toNat z).flatten[i]'(by simp[hzl];omega):=by
      rw[SP (by rw[hlen1];exact hi)]at h1;rw[SP (by simp[hzl];omega)]at h2;rw[<- h1]at h2;simpa using h2.symm
     rw[this];exact a2)
   obtain⟨hget,_⟩:=jS hlay;obtain⟨_,_,_,hid⟩:=nk R hlay;refine⟨_,_,_,hrun,E,hn,R',xj (by rw[hget,SU rfl]) hid (aC.dY _ _ _) O ?_ ?_⟩
   ·rw[hlen1,hcs];exact Nat.le_refl _
   ·rw[hsize,hcs];exact Nat.le_refl _
  ·cases h
 ·cases h
def xk (k:IntKind)(n:Int):(asIntOf (.int k n)).run P w=.ok (k,n) w:=rfl
def Aj {gen off:Nat}{e:TypeId}{cells:List W9}(h:Xc P Γ H w (.R id gen off) cv)(hl:H.X id gen=some (e,cells)):
  ∃a,cv=.pointer (some a)/\Xc P Γ H w (.R id gen (off+k)) (.pointer (some (a.add k))):=by
 obtain⟨b,base,n,hΓ,rfl⟩:=qa h hl;refine⟨_,rfl,?_⟩;rw[kz];cases h with
 |R h =>
  refine .R ⟨h.1,rfl,h.2.2.1,fun g e' cells' hg=>?_⟩;refine⟨(h.2.2.2 g e' cells' hg).1,fun _=>⟨b,base,n,hΓ,?_⟩⟩;rw[UJ]
def Ak {cells:List W9}{off:Nat}(h:Xc P Γ H w (.nf cells off) cv):
  ∃a,cv=.pointer (some a)/\Xc P Γ H w (.nf cells (off+k)) (.pointer (some (a.add k))):=by
 cases h with
 |nf hb hlt hcs hcell hrel =>
  refine⟨_,rfl,?_⟩;rw[kz,UJ];exact .nf hb hlt hcs hcell hrel
def Fu {x:W9}{k:IntKind}{i:Int}{cx:Value}(h:np P H t x i=some v)(hx:Xc P Γ H w x cx):
  ∃cv,(Instr.indexAt t cx (.int k i)).run P w=.ok cv w/\Xc P Γ H w v cv:=by
 unfold np at h;unfold Instr.indexAt;rw[au (xk k i)];simp only;split at h
 ·rename_i n e hd;split at h
  ·rename_i hc;obtain ⟨c1,c2,c3⟩:=hc;obtain ⟨d,hde⟩:=Tp.1 c3;rw [au (cL hd)];simp only;have fin : ∀ a : Addr,((do
      let tiny:=decide (n<=1) && (match <- underlying t with|.array ..=>true|_=>false)
      match (some a:Option Addr) with
      |some a =>
       if 0≤i∧i<(n : Int) then pure (.pointer (some (a.add (i.toNat*(← sizeOf e)))))
              else if tiny then unsupported (.noEntry "op/indexAddr.an index out of range at an array of length 0 or 1 (ledger 616)")
       else boundsPanic k i n .index
      |none=>boundsPanic k i 0 .index):Sem Value).run P w=.ok (.pointer (some (a.add (i.toNat*P.cellsOf e)))) w:=by
    intro a;rw[au (cL hd)];simp only;rw[SU ⟨c1,c2⟩,au (iZ hde)];rfl
   split at h
   ·rename_i id gen off;simp only[SO]at h;obtain⟨ec,hl,rfl⟩:=h;obtain⟨a,rfl,hr⟩:=Aj (k:=i.toNat*P.cellsOf e) hx hl;exact⟨_,fin a,hr⟩
   ·rename_i cells off;simp only[Option.some.injEq]at h;subst h;obtain⟨a,rfl,hr⟩:=Ak (k:=i.toNat*P.cellsOf e) hx;exact⟨_,fin a,hr⟩
   ·cases h
  ·cases h
 ·rename_i e hd;split at h
  ·rename_i hc;obtain ⟨d,hde⟩:=Tp.1 hc;rw [au (cL hd)];have fin : ∀ (a : Addr) (len : Nat),0≤i∧i<(len : Int)→((do
      let tiny:=decide (len<=1) && (match <- underlying t with|.array ..=>true|_=>false)
      match (some a:Option Addr) with
      |some a =>
       if 0≤i∧i<(len : Int) then pure (.pointer (some (a.add (i.toNat*(← sizeOf e)))))
              else if tiny then unsupported (.noEntry "op/indexAddr.an index out of range at an array of length 0 or 1 (ledger 616)")
       else boundsPanic k i len .index
      |none=>boundsPanic k i 0 .index):Sem Value).run P w=.ok (.pointer (some (a.add (i.toNat*P.cellsOf e)))) w:=by
    intro a len hi;rw[au (cL hd)];simp only;rw[SU hi,au (iZ hde)];rfl
   split at h
   ·rename_i id gen off len sz;split at h
    ·rename_i hi;simp only[SO]at h;obtain⟨⟨e',cells⟩,hl,rfl⟩:=h;rcases jT hx hl with ⟨b,base,n,a,cap,hΓ,rfl,h1,h2,h3⟩|⟨_,_,h0,_⟩
     ·have ha:a=⟨b,base+off,none⟩:=by
       rcases h3 with h3|h3
       ·exact h3.1
       ·omega
      subst ha;refine⟨_,fin _ len ⟨hi.1,hi.2.1⟩,?_⟩;rw[kz];cases hx with
      |Q hx =>
       refine .R ⟨hx.1,rfl,hx.2.2.1,fun g e'' cells'' hg=>?_⟩;refine⟨(hx.2.2.2 g e'' cells'' hg).1,fun _=>⟨b,base,n,hΓ,?_⟩⟩;rw[UJ]
     ·omega
    ·cases h
   ·rename_i len cells;split at h
    ·rename_i hi;simp only[Option.some.injEq]at h;subst h;cases hx with
     |nq=>exact absurd rfl hi.2.2
     |M hb hlt hlen hcs hcell hrel =>
      refine⟨_,fin _ len ⟨hi.1,hi.2.1⟩,?_⟩;rw[kz];exact .nf hb hlt hcs hcell hrel
    ·cases h
   ·cases h
  ·cases h
 ·cases h
end Go.Hx
namespace Go.Hx
variable {P:Program} {G:Nat->Option (List W9)} {Γ Γ':aC} {H H':Xn} {w w':World}
variable {hi lo:Option W9}{cv:Value}
def qg (P:Program)(Γ:aC)(H:Xn)(w:World):Option W9->Option Value->Prop
 |none,none=>True
 |some v,some cv=>Xc P Γ H w v cv
 |_,_=>False
def run_sliceBound {k:IntKind}{i:Int}{y:Nat}{code:BoundsCode}(h:0<=i/\i<=(y:Int)):(Instr.sliceBound (.int k i) y code).run P w=.ok i.toNat w:=by
 unfold Instr.sliceBound;rw[au (xk k i)];simp only;rw[SU h];rfl
def Al {o:Option W9}{co:Option Value}{d m n:Nat}(h:bZ o d m=some n)(hr:qg P Γ H w o co):
  (o=none/\co=none/\n=d)\/∃k i,co=some (.int k i)/\0<=i/\i<=(m:Int)/\n=i.toNat:=by
 cases o with
 |none =>
  cases co with
  |none=>simp only[bZ,Option.some.injEq]at h;exact .inl ⟨rfl,rfl,h.symm⟩
  |some _=>exact hr.elim
 |some v =>
  cases co with
  |none=>exact hr.elim
  |some cv =>
   have hv:Xc P Γ H w v cv:=hr;cases v with
   |lit x =>
    cases x with
    |int k i =>
     cases hv;simp only[bZ]at h;split at h
     ·rename_i hi;simp only[Option.some.injEq]at h;exact .inr ⟨k,i,rfl,hi.1,hi.2,h.symm⟩
     ·cases h
    |_=>simp[bZ]at h
   |_=>simp[bZ]at h
def mv {Z chi:Option Value}{s:Bool}{len cap l h:Nat}(hh:bZ hi len len=some h)(hl:bZ lo 0 h=some l)(hlen:len<=cap)
  (rh:qg P Γ H w hi chi) (rl:qg P Γ H w lo Z):(Instr.sliceBounds s len cap Z chi none).run P w=.ok (l,h,cap) w/\l<=h/\h<=len:=by
 rcases Al hh rh with ⟨rfl,rfl,rfl⟩|⟨k,i,rfl,i0,i1,rfl⟩<;>rcases Al hl rl with ⟨rfl,rfl,rfl⟩|⟨k',j,rfl,j0,j1,rfl⟩
 ·exact⟨rfl,O,W8⟩
 ·refine⟨?_,O,W8⟩;unfold Instr.sliceBounds;simp only[pure_bind];rw[au (run_sliceBound ⟨j0,j1⟩)];rfl
 ·refine⟨?_,O,O⟩;unfold Instr.sliceBounds;simp only[pure_bind];rw[au (run_sliceBound ⟨i0,O⟩)];rfl
 ·refine⟨?_,O,O⟩;unfold Instr.sliceBounds;simp only[pure_bind];rw[au (run_sliceBound ⟨i0,O⟩),au (run_sliceBound ⟨j0,j1⟩)];rfl
def tO {a b c:Nat}(h:a<=b):a*c<=b*c:=Tr _ h
def Fv {id gen off len sz l h:Nat}{e:TypeId}{cells:List W9}(hx:Xc P Γ H w (.Q id gen off len sz) cv)(hl:H.X id gen=some (e,cells))(h1:l<=h)(h2:h<=len):
  (∃a cap,cv=.slice (some a) len cap/\len<=cap/\Xc P Γ H w (.Q id gen (off+l*sz) (h-l) sz) (.slice (some (if cap=l then a else a.add (l*sz))) (h-l) (cap-l))) \/
  (cv=.slice none 0 0/\len=0/\Xc P Γ H w (.Q id gen (off+l*sz) (h-l) sz) (.slice none 0 0)):=by
 cases hx with
 |Q hx =>
  rcases jT (P:=P) (w:=w) (.Q hx) hl with ⟨b,base,n,a,cap,hΓ,rfl,c1,c2,c3⟩|⟨hΓ,rfl,rfl,rfl⟩
  ·left;refine⟨a,cap,rfl,c1,.Q ⟨hx.1,rfl,hx.2.2.1,fun g e' cells' hg=>?_⟩⟩;refine⟨(hx.2.2.2 g e' cells' hg).1,fun hgg=>?_⟩;rw[jq hl]at hg;simp only[Option.some.injEq,Xe.J.injEq]at hg;obtain⟨_,rfl,rfl⟩:=hg;rw[hΓ];have e1:l*sz+(h-l)*sz=h*sz:=(by rw[<- TJ];congr 1;omega);have e2:h*sz<=len*sz:=tO h2;refine⟨_,_,rfl,O,O,?_⟩;rcases c3 with ⟨rfl,c3⟩|⟨rfl,rfl⟩
   ·by_cases hcl:cap=l
    ·right;omega
    ·left;rw[SQ hcl,kz,UJ];refine⟨rfl,?_⟩;have e3:l*sz+(cap-l)*sz=cap*sz:=(by rw[<- TJ];congr 1;omega);omega
   ·right;omega
  ·right;have:l=0:=O;subst this;have:h=0:=O;subst this;refine⟨rfl,rfl,.Q ⟨hx.1,rfl,hx.2.2.1,fun g e' cells' hg=>?_⟩⟩;refine⟨(hx.2.2.2 g e' cells' hg).1,fun hgg=>?_⟩;rw[hΓ];simp
def Fw {len sz l h:Nat}{cells:List W9}(hx:Xc P Γ H w (.M len cells) cv)(hc:cells.length=len*sz)(h1:l<=h)(h2:h<=len):
  ∃a cap,cv=.slice a len cap/\len<=cap/\Xc P Γ H w (.M (h-l) ((cells.drop (l*sz)).take ((h-l)*sz))) (.slice (if cap=l then a else a.map (·.add (l*sz))) (h-l) (cap-l)):=by
 cases hx with
 |nq a cap =>
  have:h=0:=O
  subst this;have:l=0:=O
  subst this;refine⟨a,cap,rfl,Uh _,?_⟩;simp only[UR,Vx,List.take_zero];exact .nq _ _
 | @M _ _ b off cap cs hb hlt hlen hcs hcell hrel =>
  refine⟨_,_,rfl,hlen,?_⟩;by_cases hhl:h=l
  ·subst hhl;simp only[Vx,UR,List.take_zero];exact .nq _ _
  ·have hcl:cap≠l:=O;have e1:l*sz+(h-l)*sz=h*sz:=(by rw[<- TJ];congr 1;omega);have e2:h*sz<=len*sz:=tO h2;rw[SQ hcl,Option.map_some,kz];obtain⟨cs',k1,k2,k3⟩:=mq.drop ⟨cs,hcs,hcell,hrel⟩ (l*sz) ((h-l)*sz) O;exact .M hb hlt O k1 k2 k3
def Fx {t:TypeId}{x v:W9}{cx:Value}{Z chi:Option Value}(R:Xh P G Γ H w)(h:nt P H t x lo hi=some v)(hx:Xc P Γ H w x cx)
  (rl:qg P Γ H w lo Z) (rh:qg P Γ H w hi chi):∃cv,(Instr.sliceAt t cx Z chi none).run P w=.ok cv w/\Xc P Γ H w v cv:=by
 unfold nt at h;unfold Instr.sliceAt;split at h
 ·rename_i n e hd;rw[au (cL hd)];simp only;split at h
  ·rename_i hc;obtain⟨d,hde⟩:=Tp.1 hc;split at h
   ·rename_i id gen off;split at h
    ·rename_i e' cells hl;split at h
     ·rename_i hle;simp only[SW,SO]at h;obtain⟨h',hh,l,hlo,rfl⟩:=h;obtain⟨b,base,nn,hΓ,rfl⟩:=qa hx hl;have sa:(Instr.sureAddr (.pointer (some ⟨b,base+off,none⟩))).run P w=.ok ⟨b,base+off,none⟩ w:=rfl;obtain⟨r1,r2,r3⟩:=mv (s:=false) hh hlo (Nat.le_refl n) rh rl;rw[au sa,au r1];simp only;rw[au (iZ hde)];refine⟨_,rfl,?_⟩;cases hx with
      |R hx =>
       refine .Q ⟨hx.1,rfl,hx.2.2.1,fun g e'' cells'' hg=>?_⟩;refine⟨(hx.2.2.2 g e'' cells'' hg).1,fun hgg=>?_⟩;rw[jq hl]at hg;simp only[Option.some.injEq,Xe.J.injEq]at hg;obtain⟨_,rfl,rfl⟩:=hg;rw[hΓ];have e1:l*P.cellsOf e+(h'-l)*P.cellsOf e=h'*P.cellsOf e:=(by rw[<- TJ];congr 1;omega);have e2:h'*P.cellsOf e<=n*P.cellsOf e:=tO r3;refine⟨_,_,rfl,O,O,?_⟩;by_cases hnl:n=l
       ·right;omega
       ·left;rw[SQ hnl,kz,UJ];refine⟨rfl,?_⟩;have e3:l*P.cellsOf e+(n-l)*P.cellsOf e=n*P.cellsOf e:=(by rw[<- TJ];congr 1;omega);obtain⟨_,_,q2,q3,_⟩:=qb R hl hΓ;omega
     ·cases h
    ·cases h
   ·rename_i cells off;split at h
    ·rename_i hle;simp only[SW,SO]at h;obtain⟨h',hh,l,hlo,rfl⟩:=h;cases hx with
     | @nf _ _ b o cs hb hlt hcs hcell hrel =>
      have sa:(Instr.sureAddr (.pointer (some ⟨b,o+off,none⟩))).run P w=.ok ⟨b,o+off,none⟩ w:=rfl;obtain⟨r1,r2,r3⟩:=mv (s:=false) hh hlo (Nat.le_refl n) rh rl;rw[au sa,au r1];simp only;rw[au (iZ hde)];refine⟨_,rfl,?_⟩;have e1:l*P.cellsOf e+(h'-l)*P.cellsOf e=h'*P.cellsOf e:=(by rw[<- TJ];congr 1;omega);have e2:h'*P.cellsOf e<=n*P.cellsOf e:=tO r3;by_cases hhl:h'=l
      ·subst hhl;simp only[Vx,UR,List.take_zero];exact .nq _ _
      ·rw[SQ O,kz];obtain⟨cs',k1,k2,k3⟩:=mq.drop ⟨cs,hcs,hcell,hrel⟩ (off+l*P.cellsOf e) ((h'-l)*P.cellsOf e) O;rw[show o+off+l*P.cellsOf e=o+(off+l*P.cellsOf e) from by omega];exact .M hb hlt O k1 k2 k3
    ·cases h
   ·cases h
  ·cases h
 ·rename_i e hd;rw[au (cL hd)];simp only;unfold Instr.slice;rw[au (cL hd)];split at h
  ·rename_i hc;obtain⟨d,hde⟩:=Tp.1 hc;split at h
   ·rename_i id gen off len sz;split at h
    ·rename_i hsz;subst hsz;simp only[SW,SO]at h;obtain⟨⟨e',cells⟩,hl,h',hh,l,hlo,rfl⟩:=h;obtain⟨_,q1,q2⟩:=mv (s:=true) hh hlo (Nat.le_refl len) rh rl;rcases Fv hx hl q1 q2 with ⟨a,cap,rfl,c1,c2⟩|⟨rfl,rfl,c2⟩
     ·obtain⟨r1,r2,r3⟩:=mv (s:=true) hh hlo c1 rh rl;simp only;rw[au r1];simp only;rw[au (iZ hde)];refine⟨_,rfl,?_⟩;by_cases hcl:cap=l
      ·rw[SU hcl]at c2 ⊢;exact c2
      ·rw[SQ hcl]at c2 ⊢;exact c2
     ·obtain⟨r1,r2,r3⟩:=mv (s:=true) hh hlo (Nat.le_refl 0) rh rl;simp only;rw[au r1];simp only;rw[au (iZ hde)];refine⟨_,rfl,?_⟩;have:l=0:=O;subst this;have:h'=0:=O;subst this;exact c2
    ·cases h
   ·rename_i len cells;split at h
    ·rename_i hcl;simp only[SW,SO]at h;obtain⟨h',hh,l,hlo,rfl⟩:=h;obtain⟨_,q1,q2⟩:=mv (s:=true) hh hlo (Nat.le_refl len) rh rl;obtain⟨a,cap,rfl,c1,c2⟩:=Fw hx hcl q1 q2;obtain⟨r1,r2,r3⟩:=mv (s:=true) hh hlo c1 rh rl;simp only;rw[au r1];simp only;rw[au (iZ hde)];exact⟨_,rfl,c2⟩
    ·cases h
   ·simp only[SW,SO]at h;obtain⟨h',hh,l,hlo,rfl⟩:=h;cases hx;obtain⟨r1,r2,r3⟩:=mv (s:=true) hh hlo (Nat.le_refl 0) rh rl;simp only;rw[au r1];simp only;rw[au (iZ hde)];refine⟨_,rfl,?_⟩;have:l=0:=O;subst this;have:h'=0:=O;subst this;exact .lit _
   ·cases h
  ·cases h
 ·rename_i hd;rw[au (cL hd)];simp only;unfold Instr.slice;rw[au (cL hd)];split at h
  ·rename_i s;simp only[SW,SO]at h;obtain⟨h',hh,l,hlo,rfl⟩:=h;cases hx;obtain⟨r1,r2,r3⟩:=mv (s:=false) hh hlo (Nat.le_refl s.size) rh rl;simp only[Option.isSome_none,Bool.false_eq_true,if_false];rw[au r1];exact⟨_,rfl,.lit _⟩
  ·cases h
 ·cases h
end Go.Hx
namespace Go.Hx
variable {P:Program} {G:Nat->Option (List W9)} {Γ Γ':aC} {H H':Xn} {w w':World}
variable {cs:List Value}{cap n:Nat}{base:Option Addr}{at0 at1 ty:TypeId}{cx x:Value}{v:W9}
def tP {sz:Nat}{x:W9}{cells:List W9}(R:Xh P G Γ H w)(h:cX H sz x=some (n,cells))(hx:Xc P Γ H w x cx):
    (Builtin.lenOf cx).run P w=.ok n w/\cells.length=n*sz/\∃cs:List Value,(Builtin.firstCells sz n cx).run P w=.ok cs.toArray w/\cs.length=cells.length /\
      ∀i (_:i<cells.length) (_:i<cs.length),Xc P Γ H w cells[i] cs[i]:=by
  unfold cX at h;split at h
  · rename_i len cells';split at h
    · rename_i hl;simp only[Option.some.injEq,Prod.mk.injEq]at h;obtain⟨rfl,rfl⟩:=h;cases hx with
      |nq a cap =>
        refine⟨rfl,hl,[],?_,rfl,fun i h1 _=>absurd h1 (Tb _)⟩;cases a with
        |none=>rfl
        |some a=>unfold Builtin.firstCells;rw[UR];rfl
      | @M _ _ b off cap cs hb hlt hlen hcs hcell hrel =>
        refine⟨rfl,hl,cs,?_,hcs,hrel⟩;unfold Builtin.firstCells;rw[<- hl,<- hcs];exact pR hcell
    · cases h
  · rename_i id gen off len sz';split at h
    · rename_i hsz;subst hsz;simp only[SO,Prod.mk.injEq]at h;obtain⟨⟨e,cells'⟩,hl,rfl,rfl⟩:=h;rcases jT hx hl with ⟨b,base,nn,a,cap,hΓ,rfl,c1,c2,c3⟩|⟨hΓ,rfl,rfl,rfl⟩
      · refine⟨rfl,by simp only[Td,TB];omega,?_⟩;rcases c3 with ⟨rfl,c3⟩|⟨rfl,rfl⟩
        · obtain⟨cs,k1,k2,k3⟩:=(rF R hl hΓ).drop off (len*sz') c2;refine⟨cs,?_,k1,k3⟩;unfold Builtin.firstCells;have:len*sz'=cs.length:=(by rw[k1];simp only[Td,TB];omega);rw[this];exact pR k2
        · refine⟨[],?_,W5,fun i h1 _=>?_⟩
          · unfold Builtin.firstCells;rw[UR];rfl
          · simp at h1
      · refine⟨rfl,W5,[],rfl,W5,fun i h1 _=>?_⟩;simp at h1
    · cases h
  · simp only[Option.some.injEq,Prod.mk.injEq]at h;obtain⟨rfl,rfl⟩:=h;cases hx;exact⟨rfl,W5,[],rfl,rfl,fun i h1 _=>absurd h1 (Tb _)⟩
  · cases h
def Fy (newLen:Nat):∀(k c:Nat),256<=c->c<newLen->Builtin.growBy newLen k c<=2*newLen:=by
  intro k
  induction k with
  |zero=>intro c _ h;simp only[Builtin.growBy];omega
  |succ k ih =>
    intro c h1 h2;simp only[Builtin.growBy];rw[SQ O];by_cases h3:c+(c+768) / 4<newLen
    · exact ih _ O h3
    · cases k with
      |zero=>simp only[Builtin.growBy];omega
      |succ k=>simp only[Builtin.growBy];rw[SU O];omega
def nextslicecap_le {need:Nat}(h:cap<need):Builtin.nextslicecap need cap<=2*need:=by
  unfold Builtin.nextslicecap;split
  · omega
  · split
    · omega
    · exact Fy _ _ _ O h
def Am (z:Array Value)(n:Nat):(Builtin.zeroCells z n).size=n*z.size:=by simp[Builtin.zeroCells]
def run_append_fits {e e1:TypeId}{len:Nat}(hd:P.underlying at0=some (.slice e))(hd1:P.underlying at1=some (.slice e1))(he:∃i,P.info? e=some i)
    (hlen:(Builtin.lenOf x).run P w=.ok n w) (hcs:(Builtin.firstCells (P.cellsOf e) n x).run P w=.ok cs.toArray w) (hfit:len+n<=cap)
    (hst:match base with|some a=>(storeCells (a.add (len*P.cellsOf e)) cs).run P w=.ok () w'|none=>w'=w):
    (Builtin.append_ #[at0,at1] ty #[.slice base len cap,x]).run P w=.ok (.slice base (len+n) cap) w':=by
  obtain⟨i,hi⟩:=he;unfold Builtin.append_;simp only[List.getElem?_toArray,List.getElem?_cons_zero,List.getElem?_cons_succ];rw[au (cL hd)];simp only;rw[au (run_sizeOf hi)];rw[au (cL hd1),au (Sem.run_pure P w _)];simp only[Bool.false_eq_true,if_false,Bool.not_false,if_true];rw[au hlen];rw[SU hfit,au hcs];cases base with
  |none=>subst hst;rfl
  |some a=>rw[au hst];rfl
def An {e e1:TypeId}{len:Nat}{zv:Value}{os:List Value}{i:TypeInfo}(hd:P.underlying at0=some (.slice e))(hd1:P.underlying at1=some (.slice e1))
    (hi:P.info? e=some i) (hz:i.zero=some zv)
    (hlen:(Builtin.lenOf x).run P w=.ok n w) (hcs:(Builtin.firstCells (P.cellsOf e) n x).run P { w with drawn:=w.drawn+1 }=.ok cs.toArray { w with drawn:=w.drawn+1 })
    (hos:(Builtin.firstCells (P.cellsOf e) len (.slice base len cap)).run P { w with drawn:=w.drawn+1 }=.ok os.toArray { w with drawn:=w.drawn+1 })
    (hfit:cap<len+n) (hb:(len+n)*P.bytesOf e<=2 ^ 47) (hn:len+n<=2 ^ 47):
    ∃newCap,len+n<=newCap/\(Builtin.append_ #[at0,at1] ty #[.slice base len cap,x]).run P w =
      .ok (.slice (some ⟨w.heap.size,0,none⟩) (len+n) newCap)
        (({ w with drawn:=w.drawn+1 }:World).alloc (.cells (os.toArray++cs.toArray++Builtin.zeroCells zv.cells (newCap-(len+n))) e)):=by
  refine⟨(Question.appendCap (len+n) cap e).cut (w.tape w.drawn (.appendCap (len+n) cap e)),?_,?_⟩
  · simp only[Question.cut];omega
  · unfold Builtin.append_;simp only [List.getElem?_toArray,List.getElem?_cons_zero,List.getElem?_cons_succ];rw [au (cL hd)];simp only;rw [au (run_sizeOf hi)];rw [au (cL hd1),au (Sem.run_pure P w _)];simp only [Bool.false_eq_true,if_false,Bool.not_false,if_true];rw [au hlen];rw [SQ O];rw [au (run_typeInfo hi)];have hmax : IntKind.i64.max=9223372036854775807:=W6;rw [SQ (by rw [hmax];omega)];rw [au (run_typeInfo hi)];have hbi:=Ai hi;have h2:=nextslicecap_le hfit;have h3 : Builtin.nextslicecap (len+n) cap*i.bytes≤2*(len+n)*i.bytes:=Tr _ h2;rw [SQ (by rw [hbi] at hb;rw [UI] at h3;omega)];have hch : (choose (.appendCap (len+n) cap e)).run P w=.ok ((Question.appendCap (len+n) cap e).cut (w.tape w.drawn (.appendCap (len+n) cap e))) { w with drawn:=w.drawn+1 }:=by
      rw[run_choose];rfl
    rw[au hch,au (run_typeInfo hi),au (run_askRoom P _ _),au hos,au hcs,au (oU hi hz)];rfl
def Xc.drew {cv:Value}(h:Xc P Γ H w v cv)(n:Nat):Xc P Γ H { w with drawn:=n } v cv:=h.bb (tH Γ H w n) (Nat.le_refl _)
def Ao {cells:List W9}{rest:Array Value}(hl:cs.length=cells.length)(hr:∀i (_:i<cells.length) (_:i<cs.length),Xc P Γ H w cells[i] cs[i]):
    ∀i (_:i<cells.length),∃cv,(cs.toArray++rest)[i]?=some cv/\Xc P Γ H w cells[i] cv:=fun i hi =>
  ⟨cs[i]' O,by rw[Ws (by simp;omega)];simp,hr i hi O⟩
def FA {id:Nat}{s x:W9}{cs:Value}(R:Xh P G Γ H w)(h:bT P H id at0 at1 s x=some (v,H'))(hs:Xc P Γ H w s cs)(hx:Xc P Γ H w x cx):
    ∃cv Γ' w',(Builtin.append_ #[at0,at1] ty #[cs,cx]).run P w=.ok cv w'/\Xk Γ H w Γ' H' w'/\H.A<=H'.A/\Xh P G Γ' H' w'/\Xc P Γ' H' w' v cv:=by
  unfold bT at h;split at h
  · rename_i e hd;split at h
    · rename_i e1 hd1;simp only[SW]at h;obtain⟨z,hz,⟨n,nc⟩,hsrc,h⟩:=h;obtain⟨i,zv,hi,hzv,hsz,hzz,hcells⟩:=qf hz;obtain⟨hlen,hncl,xs,hxs,hxl,hxr⟩:=tP R hsrc hx;obtain⟨_,_,ys,hsrcd,hyl,hyr⟩:=tP (R.drew (w.drawn+1)) hsrc (hx.drew (w.drawn+1));split at h
      · -- a nil slice
        cases hs;simp only at h;split at h
        · rename_i h0;simp only[Option.some.injEq,Prod.mk.injEq]at h;obtain⟨rfl,rfl⟩:=h;subst h0;exact⟨_,Γ,w,run_append_fits hd hd1 ⟨i,hi⟩ hlen hxs O rfl,Xk.refl _ _ _,W8,R,.lit _⟩
        · rename_i h0;split at h
          · rename_i hb;simp only [SO,Prod.mk.injEq] at h;obtain ⟨H1,hlay,rfl,rfl⟩:=h;obtain ⟨newCap,hc,hrun⟩:=An (base:=none) (len:=0) (cap:=0) (os:=[]) (ty:=ty) hd hd1 hi hzv hlen hsrcd rfl O (by rw [Nat.zero_add];exact hb.1) O;rw [Nat.zero_add n] at hc hrun;have R1:=R.drew (w.drawn+1);have harr : ∀ j (_ : j<nc.length),∃ cv,(([] : List Value).toArray++ys.toArray++Builtin.zeroCells zv.cells (newCap - n))[j]?=some cv∧Xc P Γ H { w with drawn:=w.drawn+1 } nc[j] cv:=by
              simp only[Array.empty_append];exact Ao hyl hyr
            have hsize:(([]:List Value).toArray++ys.toArray++Builtin.zeroCells zv.cells (newCap-n)).size=newCap*P.cellsOf e:=by
              simp only[Wa,Am,List.size_toArray,List.length_nil,hyl,hncl];rw[hsz,<- hcells,Nat.zero_add,<- TJ];congr 1;omega
            obtain⟨E,hn,R'⟩:=rB R1 hlay (by rw[hsize,hncl];exact Tr _ O) harr;obtain⟨hget,_⟩:=jS hlay;obtain⟨_,_,_,hid⟩:=nk R hlay;refine⟨_,_,_,hrun,(tH Γ H w _).trans W8 E,hn,R',?_⟩;exact xj (by rw[hget,SU rfl]) hid (aC.dY _ _ _) O (by rw[hncl];exact Nat.le_refl _) (by rw[hsize];exact Nat.le_refl _)
          · cases h
      · rename_i id' gen off len sz;simp only[SW]at h;obtain⟨⟨e',cells⟩,hl,h⟩:=h;simp only at h;split at h
        · rename_i hc;obtain⟨rfl,rfl,h1,h2,h3,h4⟩:=hc;split at h
          · rename_i h0;simp only [Option.some.injEq,Prod.mk.injEq] at h;obtain ⟨rfl,rfl⟩:=h;subst h0;have hxs0 : xs=[]:=by
              have:xs.length=0:=(by rw[hxl,hncl];simp);simpa using this
            subst hxs0;rcases jT hs hl with ⟨b,base,nn,a,cap,hΓ,rfl,c1,c2,c3⟩|⟨hΓ,rfl,rfl,rfl⟩
            · exact⟨_,Γ,w,run_append_fits hd hd1 ⟨i,hi⟩ hlen hxs O rfl,Xk.refl _ _ _,W8,R,hs⟩
            · exact⟨_,Γ,w,run_append_fits hd hd1 ⟨i,hi⟩ hlen hxs O rfl,Xk.refl _ _ _,W8,R,hs⟩
          · rename_i h0;simp only[Option.some.injEq,Prod.mk.injEq]at h;obtain⟨rfl,rfl⟩:=h;have hnpos:0<n:=O;have hg:=jq hl
            -- where a new array is made
            have grows : ∀ (base : Option Addr) (cap : Nat) (os : List Value),(Builtin.firstCells (P.cellsOf e') len (.slice base len cap)).run P { w with drawn:=w.drawn+1 }=.ok os.toArray { w with drawn:=w.drawn+1 } →
                os.length=(cells.drop off).length->(∀j (_:j<(cells.drop off).length) (_:j<os.length),Xc P Γ H { w with drawn:=w.drawn+1 } (cells.drop off)[j] os[j])->cap<len+n ->
                ∃cv Γ' w',(Builtin.append_ #[at0,at1] ty #[.slice base len cap,cx]).run P w=.ok cv w'/\Xk Γ H w Γ' (H.upd id' (.J (gen+1) e' (cells.drop off++nc))) w' /\
                  H.A<=(H.upd id' (.J (gen+1) e' (cells.drop off++nc))).A/\Xh P G Γ' (H.upd id' (.J (gen+1) e' (cells.drop off++nc))) w' /\
                  Xc P Γ' (H.upd id' (.J (gen+1) e' (cells.drop off++nc))) w' (.Q id' (gen+1) 0 (len+n) (P.cellsOf e')) cv:=by
              intro base cap os hos hol hor hcap;obtain⟨newCap,hcp,hrun⟩:=An (base:=base) (ty:=ty) hd hd1 hi hzv hlen hsrcd hos hcap h2 h3;have R1:=R.drew (w.drawn+1);have hdl:(cells.drop off).length=len*P.cellsOf e':=(by simp only[TB];omega);have hsize:(os.toArray++ys.toArray++Builtin.zeroCells zv.cells (newCap-(len+n))).size=newCap*P.cellsOf e':=by
                simp only[Wa,Am,List.size_toArray,hol,hdl,hyl,hncl];rw[hsz,<- hcells,<- TJ,<- TJ];congr 1;omega
              have hdn : (cells.drop off++nc).length=(len+n)*P.cellsOf e':=(by rw [List.length_append,hdl,hncl,TJ]);have harr : ∀ j (_ : j<(cells.drop off++nc).length),∃ cv,(os.toArray++ys.toArray++Builtin.zeroCells zv.cells (newCap - (len+n)))[j]?=some cv ∧
                  Xc P Γ H { w with drawn:=w.drawn+1 } (cells.drop off++nc)[j] cv:=by
                intro j hj;have:=Ao (P:=P) (Γ:=Γ) (H:=H) (w:={ w with drawn:=w.drawn+1 }) (cells:=cells.drop off++nc) (cs:=os++ys) (rest:=Builtin.zeroCells zv.cells (newCap-(len+n)))
                  (by rw[List.length_append,List.length_append,hol,hyl]) (fun k a b=>?_) j hj
                · simpa using this
                · by_cases hk:k<(cells.drop off).length
                  · rw[TX hk,TX O];exact hor k hk (O)
                  · rw[T5 O,T5 O];simp only[hol];exact hyr _ (by simp only[List.length_append]at a;omega) (by simp only[List.length_append]at b;omega)
              obtain⟨E,R'⟩:=Fb R1 hg (by rw[hsize,hdn];exact Tr _ hcp) harr;refine⟨_,_,_,hrun,(tH Γ H w _).trans W8 E,W8,R',.Q ⟨R.A id' _ hg,rfl,by rw[ag,SU rfl];simp,fun g'' e'' cells'' hg''=>?_⟩⟩;rw[ag,SU rfl]at hg'';simp only[Option.some.injEq,Xe.J.injEq]at hg'';obtain⟨rfl,rfl,rfl⟩:=hg'';refine⟨W8,fun _=>?_⟩;rw[aC.dY];exact⟨_,_,rfl,hcp,by rw[hdn,Nat.zero_add];exact Nat.le_refl _,.inl ⟨rfl,by rw[hsize,Nat.zero_add];omega⟩⟩
            rcases jT hs hl with ⟨b,base,nn,a,cap,hΓ,rfl,c1,c2,c3⟩|⟨hΓ,rfl,rfl,rfl⟩
            · by_cases hcap:len+n<=cap
              · -- there is room
                have ha:a=⟨b,base+off,none⟩/\base+off+cap*P.cellsOf e'<=nn:=by
                  rcases c3 with c3|c3
                  · exact c3
                  · omega
                obtain⟨rfl,c4⟩:=ha;obtain⟨c,q1,q2,q3,q4⟩:=qb R hl hΓ;have hroom:(len+n)*P.cellsOf e'<=cap*P.cellsOf e':=Tr _ hcap;rw[TJ]at hroom;have hst:=rz (P:=P) xs c (base+off+len*P.cellsOf e') 0 w q1 (by rw[hxl,hncl];omega) (tL h4 hxl hxr);have hrun:=run_append_fits (ty:=ty) (base:=some ⟨b,base+off,none⟩) hd hd1 ⟨i,hi⟩ hlen hxs hcap (by
                  show (storeCells (Addr.add ⟨b,base+off,none⟩ (len*P.cellsOf e')) xs).run P w=_;rw[kz];exact hst)
                have hdl:(cells.drop off).length=len*P.cellsOf e':=(by simp only[TB];omega);have hdn:(cells.drop off++nc).length=len*P.cellsOf e'+n*P.cellsOf e':=(by rw[List.length_append,hdl,hncl]);have harr:∀j (_:j<(cells.drop off++nc).length),∃cv,(setRow c (base+off+len*P.cellsOf e'+0) xs)[base+off+j]?=some cv/\Xc P Γ H w (cells.drop off++nc)[j] cv:=by
                  intro j hj;rw[zY _ _ _ (by rw[hxl,hncl];omega)];by_cases hk:j<(cells.drop off).length
                  · rw[SQ O,TX hk];obtain⟨cv,k1,k2⟩:=q4 (off+j) (by simp only[TB]at hk;omega);refine⟨cv,by rw[UJ];exact k1,?_⟩;simp only[Vc];exact k2
                  · rw[T5 O,SU (by rw[hxl,hncl];omega)];have hj2:j-(cells.drop off).length<nc.length:=(by simp only[List.length_append]at hj;omega);refine⟨xs[j-(cells.drop off).length]' O,?_,hxr _ hj2 O⟩;rw[show base+off+j-(base+off+len*P.cellsOf e'+0)=j-(cells.drop off).length from by omega];exact SP (O)
                obtain⟨E,R'⟩:=Fa (base':=base+off) R hg hΓ (by rw[size_setRow];exact q2) (by rw[hdn];omega) harr;refine⟨_,_,_,hrun,E,W8,R',.Q ⟨R.A id' _ hg,rfl,by rw[ag,SU rfl];simp,fun g'' e'' cells'' hg''=>?_⟩⟩;rw[ag,SU rfl]at hg'';simp only[Option.some.injEq,Xe.J.injEq]at hg'';obtain⟨rfl,rfl,rfl⟩:=hg'';refine⟨W8,fun _=>?_⟩;rw[aC.dY];exact⟨_,_,rfl,hcap,by rw[hdn,Nat.zero_add,TJ];exact Nat.le_refl _,.inl ⟨rfl,c4⟩⟩
              · -- there is none
                rcases c3 with ⟨rfl,c3⟩|⟨rfl,rfl⟩
                · obtain⟨os,k1,k2,k3⟩:=(rF (R.drew (w.drawn+1)) hl hΓ).drop off (len*P.cellsOf e') O;have htk:(cells.drop off).take (len*P.cellsOf e')=cells.drop off:=SR (by simp only[TB];omega);rw[htk]at k1 k3;refine grows _ cap os ?_ k1 k3 O;unfold Builtin.firstCells;have:len*P.cellsOf e'=os.length:=(by rw[k1];simp only[TB];omega);rw[this];exact pR k2
                · refine grows _ 0 [] ?_ (by simp only[List.length_nil,TB];omega) (fun j _ h=>absurd h (Tb _)) O;unfold Builtin.firstCells;rw[UR];rfl
            · refine grows none 0 [] rfl (by simp only[List.length_nil,TB];omega) (fun j _ h=>absurd h (Tb _)) (O)
        · cases h
      · cases h
    · cases h
  · cases h
end Go.Hx
namespace Go.Hx
variable {P:Program} {G:Nat->Option (List W9)} {Γ Γ':aC} {H H':Xn} {w w':World}
variable {at0 ty:TypeId}{cd cx:Value}{d v x:W9}
def FB {t:TypeId}(h:mm P H t x=some v)(hx:Xc P Γ H w x cx):
  ∃cv,(Builtin.len_ #[t] ty #[cx]).run P w=.ok cv w/\Xc P Γ H w v cv:=by
 unfold mm at h;unfold Builtin.len_;simp only[List.getElem?_toArray,List.getElem?_cons_zero];split at h
 ·rename_i e hd;rw[au (cL hd)];split at h
  ·rename_i len cells;simp only[Option.some.injEq]at h;subst h;cases hx<;>exact⟨_,rfl,.lit _⟩
  ·rename_i id gen off len sz;simp only[SO]at h;obtain⟨⟨e',cells⟩,hl,rfl⟩:=h;rcases jT hx hl with ⟨b,base,n,a,cap,hΓ,rfl,_⟩|⟨hΓ,rfl,rfl,rfl⟩<;>exact⟨_,rfl,.lit _⟩
  ·simp only[Option.some.injEq]at h;subst h;cases hx;exact⟨_,rfl,.lit _⟩
  ·cases h
 ·rename_i hd;rw[au (cL hd)];split at h
  ·simp only[Option.some.injEq]at h;subst h;cases hx;exact⟨_,rfl,.lit _⟩
  ·cases h
 ·rename_i n e hd;rw[au (cL hd)];simp only[Option.some.injEq]at h;subst h;exact⟨_,rfl,.lit _⟩
 ·cases h
def FC {sz n m:Nat}{cells:List W9}(R:Xh P G Γ H w)(h:cX H sz x=some (n,cells))(hx:Xc P Γ H w x cx)(hm:m<=n):
  ∃cs:List Value,(Builtin.firstCells sz m cx).run P w=.ok cs.toArray w/\cs.length=(cells.take (m*sz)).length /\
   ∀i (_:i<(cells.take (m*sz)).length) (_:i<cs.length),Xc P Γ H w (cells.take (m*sz))[i] cs[i]:=by
 have hms:m*sz<=n*sz:=Tr _ hm;unfold cX at h;split at h
 ·rename_i len cells';split at h
  ·rename_i hl;simp only[Option.some.injEq,Prod.mk.injEq]at h;obtain⟨rfl,rfl⟩:=h;cases hx with
   |nq a cap =>
    have:m=0:=O;subst this;refine⟨[],?_,W5,fun i h1 _=>by simp at h1⟩;cases a with
    |none=>rfl
    |some a=>unfold Builtin.firstCells;rw[UR];rfl
   | @M _ _ b off cap cs hb hlt hlen hcs hcell hrel =>
    obtain⟨cs',k1,k2,k3⟩:=mq.drop (k:=0) (n:=m*sz) ⟨cs,hcs,hcell,hrel⟩ O;rw[List.drop_zero]at k1 k3;refine⟨cs',?_,k1,k3⟩;unfold Builtin.firstCells;have:m*sz=cs'.length:=(by rw[k1,Td];omega);rw[this];exact pR k2
  ·cases h
 ·rename_i id gen off len sz';split at h
  ·rename_i hsz;subst hsz;simp only[SO,Prod.mk.injEq]at h;obtain⟨⟨e,cells'⟩,hl,rfl,rfl⟩:=h;rcases jT hx hl with ⟨b,base,nn,a,cap,hΓ,rfl,c1,c2,c3⟩|⟨hΓ,rfl,rfl,rfl⟩
   ·rcases c3 with ⟨rfl,c3⟩|⟨rfl,rfl⟩
    ·obtain⟨cs,k1,k2,k3⟩:=(rF R hl hΓ).drop off (m*sz') O;have he:((cells'.drop off).take (len*sz')).take (m*sz')=(cells'.drop off).take (m*sz'):=by
      rw[List.take_take,U0 hms]
     simp only[he];refine⟨cs,?_,k1,k3⟩;unfold Builtin.firstCells;have:m*sz'=cs.length:=(by rw[k1];simp only[Td,TB];omega);rw[this];exact pR k2
    ·have:m=0:=O;subst this;refine⟨[],?_,W5,fun i h1 _=>by simp at h1⟩;unfold Builtin.firstCells;rw[UR];rfl
   ·have:m=0:=O;subst this;exact⟨[],rfl,W5,fun i h1 _=>by simp at h1⟩
  ·cases h
 ·simp only[Option.some.injEq,Prod.mk.injEq]at h;obtain⟨rfl,rfl⟩:=h;cases hx;have:m=0:=O
  subst this;exact⟨[],rfl,W5,fun i h1 _=>by simp at h1⟩
 ·cases h
def FD {at1:TypeId}(R:Xh P G Γ H w)(h:lD P H at0 d x=some (v,H'))(hd:Xc P Γ H w d cd)(hx:Xc P Γ H w x cx):
  ∃cv Γ' w',(Builtin.copy_ #[at0,at1] ty #[cd,cx]).run P w=.ok cv w'/\Xk Γ H w Γ' H' w'/\H.A<=H'.A/\Xh P G Γ' H' w'/\Xc P Γ' H' w' v cv:=by
 unfold lD at h;split at h
 ·rename_i e hu;split at h
  ·rename_i he;obtain⟨du,hde⟩:=Tp.1 he;simp only[SW]at h;obtain⟨⟨n,nc⟩,hsrc,h⟩:=h;obtain⟨hlen,hncl,xs,hxs,hxl,hxr⟩:=tP R hsrc hx;split at h
   ·rename_i id gen off len sz;simp only[SW]at h;obtain⟨⟨e',cells⟩,hl,h⟩:=h;simp only at h;split at h
    ·rename_i hc;obtain ⟨rfl,h1,h2⟩:=hc;simp only [Option.some.injEq,Prod.mk.injEq] at h;obtain ⟨rfl,rfl⟩:=h;have hmin : min n len*P.cellsOf e≤nc.length:=(by rw [hncl];exact Tr _ (Nat.min_le_left _ _));have hmin2 : min n len*P.cellsOf e≤len*P.cellsOf e:=Tr _ (Nat.min_le_right _ _)
          -- the first cells of the source
     obtain⟨ys,hys,hyl,hyr⟩:∃ys:List Value,(Builtin.firstCells (P.cellsOf e) (min n len) cx).run P w=.ok ys.toArray w/\ys.length=(nc.take (min n len*P.cellsOf e)).length /\
       ∀i (_:i<(nc.take (min n len*P.cellsOf e)).length) (_:i<ys.length),Xc P Γ H w (nc.take (min n len*P.cellsOf e))[i] ys[i]:=FC R hsrc hx (Nat.min_le_left n len)
     have hall:(nc.take (min n len*P.cellsOf e)).all W9.one=true:=by
      rw[Tn]at h2 ⊢;exact fun v hv=>h2 v (Tj hv)
     have htl:(nc.take (min n len*P.cellsOf e)).length=min n len*P.cellsOf e:=(by rw[Td];omega);rcases jT hd hl with ⟨b,base,nn,a,cap,hΓ,rfl,c1,c2,c3⟩|⟨hΓ,rfl,rfl,rfl⟩
     ·obtain⟨c,q1,q2,q3,q4⟩:=qb R hl hΓ;have hst:(storeCells a ys).run P w=.ok () (bO w b (.cells (setRow c (base+off) ys) e' (0,0))):=by
       rcases c3 with ⟨rfl,c3⟩|⟨rfl,rfl⟩
       ·exact rz (P:=P) ys c (base+off) 0 w q1 (by rw[hyl,htl];omega) (tL hall hyl hyr)
       ·have:ys=[]:=by
         have:ys.length=0:=(by rw[hyl,htl];simp);simpa using this
        subst this;have hsame:bO w b (.cells (setRow c (base+off) []) e' (0,0))=w:=by
         have:=rz (P:=P) [] c (base+off) 0 w q1 (by simp;omega) (fun v h=>by simp at h);simp only[storeCells,Sem.run_pure,Result.ok.injEq,true_and]at this;exact this.symm
        rw[hsame];rfl
      have hrun:(Builtin.copy_ #[at0,at1] ty #[.slice (some a) len cap,cx]).run P w=.ok (.int .i64 (min n len:Nat)) (bO w b (.cells (setRow c (base+off) ys) e' (0,0))):=by
       unfold Builtin.copy_;simp only[List.getElem?_toArray,List.getElem?_cons_zero,List.getElem?_cons_succ];rw[au (cL hu)];simp only;rw[au hlen,au (iZ hde)];rw[au hys,au hst];rfl
      obtain⟨E,R'⟩:=wR (cells':=setAt cells off (nc.take (min n len*P.cellsOf e))) (c':=setRow c (base+off) ys) R (jq hl) hΓ (pT (by rw[htl];omega)) (by rw[size_setRow,q2])
       (tM (by rw[htl];omega) O hyl q4 hyr)
      exact⟨_,_,_,hrun,E,W8,R',.lit _⟩
     ·have:min n 0=0:=O;rw[this]at hys hyl ⊢;have hys0:ys=[]:=by
       have:ys.length=0:=(by rw[hyl];simp);simpa using this
      subst hys0;have hrun:(Builtin.copy_ #[at0,at1] ty #[.slice none 0 0,cx]).run P w=.ok (.int .i64 (0:Nat)) w:=by
       unfold Builtin.copy_;simp only[List.getElem?_toArray,List.getElem?_cons_zero,List.getElem?_cons_succ];rw[au (cL hu)];simp only;rw[au hlen,au (iZ hde)];have:Nat.min n 0=0:=(by show min n 0=0;omega);rw[this,au hys];rfl
      have hset:H.upd id (.J gen e' (setAt cells 0 (nc.take (0*P.cellsOf e))))=H:=by
       have hs:setAt cells 0 (nc.take (0*P.cellsOf e))=cells:=(by simp[setAt]);rw[hs];have:∀j,(H.upd id (.J gen e' cells)).get j=H.get j:=by
        intro j;rw[ag];by_cases hj:j=id
        ·rw[SU hj,hj,jq hl]
        ·rw[SQ hj]
       show ({ get:=(H.upd id (.J gen e' cells)).get,A:=H.A }:Xn)=H;rw[funext this]
      rw[hset];exact⟨_,Γ,w,hrun,Xk.refl _ _ _,W8,R,.lit _⟩
    ·cases h
   ·cases h
  ·cases h
 ·cases h
def FE (R:Xh P G Γ H w)(h:lE P H at0 d=some (v,H'))(hd:Xc P Γ H w d cd):
  ∃cv Γ' w',(Builtin.clear_ #[at0] ty #[cd]).run P w=.ok cv w'/\Xk Γ H w Γ' H' w'/\H.A<=H'.A/\Xh P G Γ' H' w'/\Xc P Γ' H' w' v cv:=by
 have tup0:∀(Γ:aC) (H:Xn) (w:World),Xc P Γ H w (.na []) (.tuple #[]):=fun Γ H w=>Xc.na (cells:=[]) (cs:=[]) rfl fun i h _=>absurd h (Tb _);unfold lE at h;split at h
 ·rename_i e hu;split at h
  ·simp only[Option.some.injEq,Prod.mk.injEq]at h;obtain⟨rfl,rfl⟩:=h;cases hd;refine⟨.tuple #[],Γ,w,?_,Xk.refl _ _ _,W8,R,tup0 _ _ _⟩;unfold Builtin.clear_;simp only[List.getElem?_toArray,List.getElem?_cons_zero];rw[au (cL hu)];rfl
  ·rename_i id gen off len sz;simp only[SW]at h;obtain⟨⟨e',cells⟩,hl,h⟩:=h;simp only at h;split at h
   ·rename_i h0;subst h0;simp only[Option.some.injEq,Prod.mk.injEq]at h;obtain⟨rfl,rfl⟩:=h;refine⟨.tuple #[],Γ,w,?_,Xk.refl _ _ _,W8,R,tup0 _ _ _⟩;rcases jT hd hl with ⟨b,base,nn,a,cap,hΓ,rfl,c1,c2,c3⟩|⟨hΓ,rfl,_,rfl⟩
    ·unfold Builtin.clear_;simp only[List.getElem?_toArray,List.getElem?_cons_zero];rw[au (cL hu)];rfl
    ·unfold Builtin.clear_;simp only[List.getElem?_toArray,List.getElem?_cons_zero];rw[au (cL hu)];rfl
   ·rename_i h0;simp only[SW]at h;obtain⟨zs,hzs,h⟩:=h;split at h
    ·rename_i hc;obtain⟨h1,h2,h3⟩:=hc;simp only[Option.some.injEq,Prod.mk.injEq]at h;obtain⟨rfl,rfl⟩:=h;unfold kA at hzs;simp only[SO]at hzs;obtain⟨z,hz,rfl⟩:=hzs;obtain⟨i,zv,hi,hzv,hsz,hzz,hcells⟩:=qf hz;have hzr:dK P Γ H w (List.replicate len z).flatten (Builtin.zeroCells zv.cells len):=xi hzz;have hyl:(Builtin.zeroCells zv.cells len).toList.length=(List.replicate len z).flatten.length:=(by rw[UE];exact hzr.1);have hyr:∀i (_:i<(List.replicate len z).flatten.length) (_:i<(Builtin.zeroCells zv.cells len).toList.length),Xc P Γ H w (List.replicate len z).flatten[i] (Builtin.zeroCells zv.cells len).toList[i]:=fun i h1 h2=>hzr.2 i h1 (by rw[UE]at h2;exact h2);rcases jT hd hl with ⟨b,base,nn,a,cap,hΓ,rfl,c1,c2,c3⟩|⟨hΓ,_,h4,_⟩
     ·rcases c3 with ⟨rfl,c3⟩|⟨h4,_⟩
      ·obtain⟨c,q1,q2,q3,q4⟩:=qb R hl hΓ;have hst:(storeCells ⟨b,base+off,none⟩ (Builtin.zeroCells zv.cells len).toList).run P w=.ok () (bO w b (.cells (setRow c (base+off) (Builtin.zeroCells zv.cells len).toList) e' (0,0))) :=
        rz (P:=P) _ c (base+off) 0 w q1 (by rw[hyl,h1];omega) (tL h3 hyl hyr)
       have hrun:(Builtin.clear_ #[at0] ty #[.slice (some ⟨b,base+off,none⟩) len cap]).run P w=.ok (.tuple #[]) (bO w b (.cells (setRow c (base+off) (Builtin.zeroCells zv.cells len).toList) e' (0,0))):=by
        obtain⟨m,rfl⟩:∃m,len=m+1:=⟨len-1,O⟩
        unfold Builtin.clear_;simp only[List.getElem?_toArray,List.getElem?_cons_zero];rw[au (cL hu)];simp only;rw[au (oU hi hzv),au hst];rfl
       obtain⟨E,R'⟩:=wR (cells':=setAt cells off (List.replicate len z).flatten) (c':=setRow c (base+off) (Builtin.zeroCells zv.cells len).toList) R (jq hl) hΓ (pT (by rw[h1];exact h2)) (by rw[size_setRow,q2])
        (tM (by rw[h1];exact h2) O hyl q4 hyr)
       exact⟨_,_,_,hrun,E,W8,R',tup0 _ _ _⟩
      ·exact absurd h4 h0
     ·exact absurd h4 h0
    ·cases h
  ·cases h
 ·cases h
end Go.Hx
namespace Go.Hx
variable {P:Program} {G:Nat->Option (List W9)} {Γ Γ':aC} {H H':Xn} {w w':World}
variable {k:Int}{es:List (Int × Int)}{b i:Nat}{kt t:TypeId}{ck cm cx:Value}{v:W9}
def FF (k:Int):∀(es:List (Int × Int)) (j i:Nat),Instr.findNow (.int .i64) (.int .i64 k) (dH j es) i=some ((jo k i es).map fun p=>(p.1,.int .i64 p.2)):=by
 intro es
 induction es with
 |nil=>intro j i;rfl
 |cons e es ih =>
  intro j i;obtain⟨a,v⟩:=e;simp only[dH,Instr.findNow,Instr.sameNow,if_true,jo];by_cases h:k=a
  ·subst h;simp
  ·have:(k == a)=false:=(by simp[h]);rw[this];simp only[SQ h];exact ih (j+1) (i+1)
def FG:∀(es fs:List (Int × Int)) (j:Nat),dH j (es++fs)=dH j es++dH (j+es.length) fs:=by
 intro es
 induction es with
 |nil=>intro fs j;simp[dH]
 |cons e es ih =>
  intro fs j;obtain⟨a,v⟩:=e;simp only[List.cons_append,dH,ih,List.length_cons];rw[show j+1+es.length=j+(es.length+1) by omega]
def Ap:∀(es:List (Int × Int)) (j i:Nat),(dH j es)[i]?=es[i]?.map fun p=>⟨.int .i64 p.1,.int .i64 p.2,j+i⟩:=by
 intro es
 induction es with
 |nil=>intro j i;simp[dH]
 |cons e es ih =>
  intro j i;obtain⟨a,v⟩:=e;cases i with
  |zero=>simp[dH]
  |succ i =>
   simp only[dH,List.getElem?_cons_succ,ih];rw[show j+1+i=j+(i+1) by omega]
def FH (f:MapEntry->MapEntry):∀(es:List (Int × Int)) (j i:Nat) (k v k' v':Int),es[i]?=some (k,v)->f ⟨.int .i64 k,.int .i64 v,j+i⟩=⟨.int .i64 k',.int .i64 v',j+i⟩->(dH j es).modify i f=dH j (es.set i (k',v')):=by
 intro es
 induction es with
 |nil=>intro j i k v k' v' h _;simp at h
 |cons e es ih =>
  intro j i k v k' v' h hf;obtain⟨a,u⟩:=e;cases i with
  |zero =>
   simp only[List.getElem?_cons_zero,Option.some.injEq,Prod.mk.injEq]at h;obtain⟨rfl,rfl⟩:=h;simp only[Nat.add_zero]at hf;simp[dH,hf]
  |succ i =>
   simp only[List.getElem?_cons_succ]at h;have:=ih (j+1) i k v k' v' h (by rw[show j+1+i=j+(i+1) by omega];exact hf);simp only[dH,List.modify_succ_cons,List.set_cons_succ,this]
def Aq :∀ {es:List (Int × Int)} {i n:Nat} {v:Int},jo k i es=some (n,v)->i<=n/\es[n-i]?=some (k,v):=by
 intro es
 induction es with
 |nil=>intro i n v h;cases h
 |cons e es ih =>
  intro i n v h;obtain⟨a,u⟩:=e;simp only[jo]at h;by_cases hk:k=a
  ·rw[SU hk]at h;cases h;subst hk;exact⟨W8,W5⟩
  ·rw[SQ hk]at h;obtain⟨h1,h2⟩:=ih h;refine⟨O,?_⟩;rw[show n-i=(n-(i+1))+1 by omega];exact h2
def FI:∀(es:List (Int × Int)) (j n:Nat),n<es.length->(dH j es).findIdx? (fun e=>(e.born:Int) == ((j+n:Nat):Int))=some n:=by
 intro es
 induction es with
 |nil=>intro j n h;simp at h
 |cons e es ih =>
  intro j n h;obtain⟨a,u⟩:=e;simp only[dH,List.findIdx?_cons];cases n with
  |zero=>simp
  |succ n =>
   have hne:((j:Int) == ((j+(n+1):Nat):Int))=false:=by
    rw[beq_eq_false_iff_ne];omega
   rw[hne];have:=ih (j+1) n (by simpa using h);rw[show j+1+n=j+(n+1) by omega]at this;simp only[Bool.false_eq_true,if_false,this];rfl
def Ar (k v:Int):Obj.map ((dH 0 es).toArray.push ⟨.int .i64 k,.int .i64 v,es.length⟩) (es.length+1)=g8 (es++[(k,v)]):=by
 unfold g8;rw[FG];simp[dH]
def xm {v k' v':Int}(f:MapEntry->MapEntry)(h:es[i]?=some (k,v))(hf:f ⟨.int .i64 k,.int .i64 v,i⟩=⟨.int .i64 k',.int .i64 v',i⟩):
  Obj.map ((dH 0 es).toArray.modify i f) es.length=g8 (es.set i (k',v')):=by
 unfold g8;have:=FH f es 0 i k v k' v' h (by simpa using hf);rw[<- this,Tl];congr 1;apply Array.ext';simp
def FJ {v:Int}(h:es[i]?=some (k,v)):es.set i (k,v)=es:=by
 obtain⟨hi,he⟩:=Tq.1 h;rw[<- he];exact List.set_getElem_self hi
structure IntMap (P:Program)(t:TypeId)(kt et:TypeId):Prop where
 und:P.underlying t=some (.map kt et)
 key:P.underlying kt=some (.int .i64)
 zero:∀w:World,(zeroValue et).run P w=.ok (.int .i64 0) w
def xq (h:rC P t=true):∃kt et,IntMap P t kt et:=by
 unfold rC at h;split at h
 ·rename_i kt et ht;simp only[Tv]at h;obtain⟨h1,h2⟩:=h;split at h1
  ·rename_i hk;split at h2
   ·rename_i hz;rw[SW]at hz;obtain⟨i,hi,hz⟩:=hz;exact⟨kt,et,ht,hk,fun w=>oU hi hz⟩
   ·cases h2
  ·cases h1
 ·cases h
def run_checkKey {e:Bool}(hk:P.underlying kt=some (.int .i64)):(Instr.checkKey e 10000 kt (.int .i64 k)).run P w=.ok () w:=by
 show (Instr.checkKey e (9999+1) kt (.int .i64 k)).run P w=.ok () w;unfold Instr.checkKey;rw[au (cL hk)];rfl
def run_findKey (hk:P.underlying kt=some (.int .i64)):(Instr.findKey kt (.int .i64 k) (dH 0 es)).run P w=.ok ((jo k 0 es).map fun p=>(p.1,.int .i64 p.2)) w:=by
 unfold Instr.findKey;rw[au (cL hk),FF];rfl
def As :(Instr.keyThatStays (.int .i64 k) (.int .i64 k)).run P w=.ok (.int .i64 k) w:=by
 unfold Instr.keyThatStays;have:Instr.sameBits 10000 (.int .i64 k) (.int .i64 k)=true:=by
  show (IntKind.i64 == IntKind.i64 && k == k)=true;simp
 rw[this];rfl
def rM (h:w.heap[b]?=some (g8 es)):(getObj b).run P w=.ok (.map (dH 0 es).toArray es.length) w:=by simp[getObj,Sem.run,h,g8]
def rN (o:Obj)(h:w.heap[b]?=some (g8 es)):(setObj b o).run P w=.ok () (bO w b o):=by
 have h':w.heap[b]?=some (.map (dH 0 es).toArray es.length):=h;simp[setObj,Sem.run,h',bO]
def tQ {id:Nat}{cv:Value}(R:Xh P G Γ H w)(h:Xc P Γ H w (.ni id) cv)(hg:H.get id=some (.mp es)):∃b,Γ id=some (b,0,0)/\cv=.map (some b)/\w.heap[b]?=some (g8 es):=by
 cases h with
 |ni h =>
  obtain⟨b,h1,h2⟩:=h.2.2.2.2 es hg;obtain⟨b',h3,h4⟩:=R.mp id es hg;rw[h1]at h3;cases h3;exact⟨b,h1,h2,h4⟩
def At (ok:Bool)(r:Option (Nat × Int))(v:Value)(b:Bool)(h:(v,b)=match r with|some (_,v)=>(Value.int .i64 v,true)|none=>(Value.int .i64 0,false)):Xc P Γ H w (tJ ok r) (if ok=true then .tuple #[v,.bool b] else v):=by
 have two:∀x y:Value,Xc P Γ H w (.na [.lit x,.lit y]) (.tuple #[x,y]):=fun x y=>Xc.na (cells:=[.lit x,.lit y]) (cs:=[x,y]) rfl fun i h _=>match i,h with
  |0,_=>.lit _
  |1,_=>.lit _
 cases r with
 |none =>
  simp only[Prod.mk.injEq]at h;obtain⟨rfl,rfl⟩:=h;cases ok
  ·exact .lit _
  ·exact two _ _
 |some p =>
  obtain⟨n,u⟩:=p;simp only[Prod.mk.injEq]at h;obtain⟨rfl,rfl⟩:=h;cases ok
  ·exact .lit _
  ·exact two _ _
def FK {x i:W9}{ok:Bool}{ci:Value}(R:Xh P G Γ H w)(h:pV P H t x i ok=some v)(hx:Xc P Γ H w x cx)(hi:Xc P Γ H w i ci):
  ∃cv,(Instr.lookup t cx ci ok).run P w=.ok cv w/\Xc P Γ H w v cv:=by
 unfold pV at h;split at h
 ·rename_i hm;obtain⟨kt,et,M⟩:=xq hm;split at h
  ·rename_i k;cases hx;cases hi;cases h;refine⟨_,?_,At ok none (.int .i64 0) false rfl⟩;unfold Instr.lookup;rw[au (cL M.und)];simp only;refine(au (Sem.run_pure P w _)).trans ?_;refine(au (run_checkKey M.key)).trans ?_;refine(au (run_findKey (es:=[]) M.key)).trans ?_;refine(au (M.zero w)).trans ?_;cases ok<;>rfl
  ·rename_i id k;cases hi;split at h
   ·rename_i es hg;cases h;obtain⟨b,hΓ,rfl,hb⟩:=tQ R hx hg;have fin:∀(u:Value) (d:Bool),((u,d)=match jo k 0 es with|some (_,v)=>(Value.int .i64 v,true)|none=>(Value.int .i64 0,false))->∃cv,(Instr.lookup t (.map (some b)) (.int .i64 k) ok).run P w=.ok cv w/\Xc P Γ H w (tJ ok (jo k 0 es)) cv:=by
     intro u d hud;refine⟨_,?_,At ok _ u d hud⟩;unfold Instr.lookup;rw[au (cL M.und)];simp only;refine(au (rM hb)).trans ?_;refine(au (Sem.run_pure P w _)).trans ?_;refine(au (run_checkKey M.key)).trans ?_;refine(au (run_findKey (es:=es) M.key)).trans ?_;cases hf:jo k 0 es with
     |none =>
      rw[hf]at hud;cases hud;refine(au (M.zero w)).trans ?_;cases ok<;>rfl
     |some p =>
      rw[hf]at hud;cases hud;cases ok<;>rfl
    exact fin _ _ rfl
   ·cases h
  ·cases h
 ·cases h
def Au {m k x:W9}(R:Xh P G Γ H w)(h:mn P H t m k x=some (v,H'))(hm:Xc P Γ H w m cm)(hk:Xc P Γ H w k ck)(hx:Xc P Γ H w x cx):
  ∃ Γ' w',(Instr.mapUpdate t cm ck cx).run P w=.ok () w'/\Xk Γ H w Γ' H' w'/\H.A<=H'.A/\Xh P G Γ' H' w'/\v=.lit undef:=by
 unfold mn at h;split at h
 ·rename_i him;obtain⟨kt,et,M⟩:=xq him;split at h
  ·rename_i id k u;cases hk;cases hx;split at h
   ·rename_i es hg;simp only[Option.some.injEq,Prod.mk.injEq]at h;obtain⟨rfl,rfl⟩:=h;obtain⟨b,hΓ,rfl,hb⟩:=tQ R hm hg;obtain⟨E,R'⟩:=tI (wS es k u) R hg hΓ hb;refine⟨Γ,_,?_,E,W8,R',rfl⟩;unfold Instr.mapUpdate;rw[au (cL M.und)];simp only;refine(au (rM hb)).trans ?_;refine(au (run_checkKey M.key)).trans ?_;refine(au (run_findKey (es:=es) M.key)).trans ?_;unfold wS;cases hf:jo k 0 es with
    |none =>
     simp only[Option.map_none];rw[rN _ hb,Ar]
    |some p =>
     obtain⟨n,nl⟩:=p;obtain⟨_,hn⟩:=Aq hf;simp only[Nat.sub_zero]at hn;have he:(dH 0 es).toArray[n]?=some ⟨.int .i64 k,.int .i64 nl,n⟩:=by
      rw[List.getElem?_toArray,Ap,hn];simp
     simp only[Option.map_some,he,Option.getD_some];refine(au As).trans ?_;rw[rN _ hb];rw[xm (k':=k) (v':=u) _ hn rfl]
   ·cases h
  ·cases h
 ·cases h
def FL {m k:W9}(R:Xh P G Γ H w)(h:oL P H t m k=some (v,H'))(hm:Xc P Γ H w m cm)(hk:Xc P Γ H w k ck):
  ∃cv Γ' w',(Instr.mapEntry t cm ck).run P w=.ok cv w'/\Xk Γ H w Γ' H' w'/\H.A<=H'.A/\Xh P G Γ' H' w'/\Xc P Γ' H' w' v cv:=by
 have two:∀(Γ:aC) (H:Xn) (w:World) (x y:Value),Xc P Γ H w (.na [.lit x,.lit y]) (.tuple #[x,y]):=fun Γ H w x y=>Xc.na (cells:=[.lit x,.lit y]) (cs:=[x,y]) rfl fun i h _=>match i,h with
  |0,_=>.lit _
  |1,_=>.lit _
 unfold oL at h;split at h
 ·rename_i him;obtain⟨kt,et,M⟩:=xq him;split at h
  ·rename_i id k;cases hk;split at h
   ·rename_i es hg;obtain⟨b,hΓ,rfl,hb⟩:=tQ R hm hg;split at h
    ·rename_i n u hf;simp only[Option.some.injEq,Prod.mk.injEq]at h;obtain⟨rfl,rfl⟩:=h;obtain⟨_,hn⟩:=Aq hf;simp only[Nat.sub_zero]at hn;have he:(dH 0 es).toArray[n]?=some ⟨.int .i64 k,.int .i64 u,n⟩:=by
      rw[List.getElem?_toArray,Ap,hn];simp
     obtain⟨E,R'⟩:=tI es R hg hΓ hb;refine⟨_,Γ,_,?_,E,W8,R',two _ _ _ (.int .i64 u) (.int .i64 n)⟩;unfold Instr.mapEntry;rw[au (cL M.und)];simp only;refine(au (rM hb)).trans ?_;refine(au (run_checkKey M.key)).trans ?_;refine(au (run_findKey (es:=es) M.key)).trans ?_;rw[hf];simp only[Option.map_some,he,Option.getD_some];refine(au As).trans ?_;rw[au (rN _ hb),xm (k':=k) (v':=u) _ hn rfl,FJ hn];rfl
    ·rename_i hf;simp only[Option.some.injEq,Prod.mk.injEq]at h;obtain⟨rfl,rfl⟩:=h;obtain⟨E,R'⟩:=tI (es++[(k,0)]) R hg hΓ hb;refine⟨_,Γ,_,?_,E,W8,R',two _ _ _ (.int .i64 0) (.int .i64 es.length)⟩;unfold Instr.mapEntry;rw[au (cL M.und)];simp only;refine(au (rM hb)).trans ?_;refine(au (run_checkKey M.key)).trans ?_;refine(au (run_findKey (es:=es) M.key)).trans ?_;rw[hf];simp only[Option.map_none];refine(au (M.zero w)).trans ?_;rw[au (rN _ hb),Ar];rfl
   ·cases h
  ·cases h
 ·cases h
def FM {m s x:W9}{cs:Value}(R:Xh P G Γ H w)(h:pW H m s x=some (v,H'))(hm:Xc P Γ H w m cm)(hs:Xc P Γ H w s cs)(hx:Xc P Γ H w x cx):
  ∃ Γ' w',(Instr.entryStore t cm cs cx).run P w=.ok () w'/\Xk Γ H w Γ' H' w'/\H.A<=H'.A/\Xh P G Γ' H' w'/\v=.lit undef:=by
 unfold pW at h;split at h
 ·rename_i id s u;cases hs;cases hx;split at h
  ·rename_i es hg;split at h
   ·rename_i hlt;simp only[Option.some.injEq,Prod.mk.injEq]at h;obtain⟨rfl,rfl⟩:=h;obtain⟨b,hΓ,rfl,hb⟩:=tQ R hm hg;obtain⟨n,rfl⟩:=S5 hlt.1;have hn:n<es.length:=O;obtain⟨E,R'⟩:=tI (wT es n u) R hg hΓ hb;refine⟨Γ,_,?_,E,W8,R',rfl⟩;unfold Instr.entryStore;simp only;refine(au (rM hb)).trans ?_;have hi:(asInt (.int .i64 (n:Int))).run P w=.ok (n:Int) w:=rfl;refine(au hi).trans ?_;have hf:=FI es 0 n hn;simp only[Nat.zero_add]at hf;have hf2:(dH 0 es).toArray.findIdx? (fun e=>(e.born:Int) == (n:Int))=some n:=by
     rw[List.findIdx?_toArray];exact hf
    rw[hf2];simp only;have hg2:es[n]?=some es[n]:=SP hn;rw[rN _ hb];unfold wT;rw[hg2];simp only;rw[xm (k:=es[n].1) (v:=es[n].2) (k':=es[n].1) (v':=u) _ hg2 rfl]
   ·cases h
  ·cases h
 ·cases h
end Go.Hx
namespace Go.Hx
variable {P:Program} {G:Nat->Option (List W9)} {Γ Γ':aC} {H H':Xn} {w w':World}
variable {fs:Array Field}{cs:Array Value}{ρ:Env}{fl:Field}{id off:Nat}{f:Operand->Value}{cv cx:Value}{v x:W9}
def Av {s:Sem Value}(h:s.run P w=.ok cv w'):(do pure (Next.value (<- s)):Sem Next).run P w=.ok (.value cv) w':=by
 rw[au h];rfl
def tR {s:Sem Unit}(h:s.run P w=.ok () w'):(do s;pure Next.skip:Sem Next).run P w=.ok .skip w':=by
 rw[au h];rfl
def cM (P:Program)(G:Nat->Option (List W9))(Γ:aC)(H:Xn)(w:World)(v:W9)(H':Xn)(s:Sem Next):Prop :=
 ∃nx cv Γ' w',s.run P w=.ok nx w'/\(nx=.value cv\/(nx=.skip/\cv=undef))/\Xk Γ H w Γ' H' w'/\H.A<=H'.A/\Xh P G Γ' H' w'/\Xc P Γ' H' w' v cv
def cM.same {s:Sem Value}(R:Xh P G Γ H w)(h:s.run P w=.ok cv w)(hv:Xc P Γ H w v cv):
  cM P G Γ H w v H (do pure (Next.value (<- s))) :=
 ⟨.value cv,cv,Γ,w,Av h,.inl rfl,Xk.refl _ _ _,W8,R,hv⟩
theorem Aw:∀ {cells:List W9} {l:List Int} {cs:List Value},pZ cells=some l->cs.length=cells.length->(∀i (_:i<cells.length) (_:i<cs.length),Xc P Γ H w cells[i] cs[i])->cs=l.map (Value.int .u8)
 | [],l,cs,hb,hl,_=>by
  obtain rfl:l=[]:=by simpa[pZ] using hb.symm
  exact S3 hl
 |x :: cells,l,[],hb,hl,_=>by simp at hl
 |x :: cells,l,c :: cs,hb,hl,hr=>by
  have h0:=hr 0 W5 W5;simp only[TE]at h0;unfold pZ at hb;split at hb
  ·rename_i hx;cases hx
  ·rename_i n r hx;cases hx;simp only[SO]at hb;obtain⟨l',hl',rfl⟩:=hb;have hc:c=.int .u8 n:=(by cases h0;rfl);subst hc;have:=Aw (cs:=cs) hl' (by simpa using hl) fun i h1 h2=>by
    have:=hr (i+1) (by simp;omega) (by simp;omega);simpa using this
   rw[this];rfl
  ·cases hb
def FN {n:Nat}{cells:List W9}{l:List Int}(R:Xh P G Γ H w)(hs:cX H 1 x=some (n,cells))(hx:Xc P Γ H w x cx)(hc:∃a m c,cx=.slice a m c)(hb:pZ cells=some l):
  (Conv.bytesToString cx).run P w=.ok (.string (Aa l)) w:=by
 obtain⟨h1,h2,cs,h3,h4,h5⟩:=tP R hs hx;have h6:=Aw hb h4 h5;obtain⟨a,m,c,rfl⟩:=hc;have hm:m=n:=by
  have h1':(Builtin.lenOf (.slice a m c)).run P w=.ok m w:=rfl;rw[h1']at h1;exact(Result.ok.inj h1).1
 subst hm;cases a with
 |none =>
  have h3':(Builtin.firstCells 1 m (.slice none m c)).run P w=.ok #[] w:=rfl;rw[h3']at h3;have:cs=[]:=by
   have:=(Result.ok.inj h3).1;have h7:=congrArg Array.toList this;simpa using h7.symm
  rw[this]at h6;have hl:l=[]:=by simpa using h6.symm
  subst hl;rfl
 |some a =>
  have h3':(loadCells a m).run P w=.ok cs.toArray w:=by
   have:=h3;unfold Builtin.firstCells at this
   rwa [Nat.mul_one]at this
  rw[h6]at h3';exact run_bytesToString w a m c l h3'
def FO {s d:TypeId}(R:Xh P G Γ H w)(hx:Xc P Γ H w x cx)(hb:lG P H s d x=some v):cM P G Γ H w v H (do pure (Next.value (<- convert s d cx))):=by
 have bytes:∀y:W9,Xc P Γ H w y cx->(∀n cells,cX H 1 y=some (n,cells)->∃a m c,cx=.slice a m c)->ny P H s d y=some v->cM P G Γ H w v H (do pure (Next.value (<- convert s d cx))):=by
  intro y hy hc hb;unfold ny at hb;split at hb
  ·rename_i hsb;simp only[SW,SO]at hb;obtain⟨⟨n,cells⟩,hs,l,hl,rfl⟩:=hb;have hsl:=hc n cells hs;have hrun:=FN R hs hy hsl hl;unfold Ab at hsb;split at hsb
   ·rename_i e h1 h2;split at hsb
    ·rename_i h3;obtain⟨a,m,c,rfl⟩:=hsl;exact cM.same R ((run_convert_bytes_string w s d e a m c h1 h3 h2).trans hrun) (.lit _)
    ·cases hsb
   ·cases hsb
  ·cases hb
 unfold lG at hb;split at hb
 ·rename_i id g o l z;refine bytes _ hx (fun n cells hs=>?_) hb;unfold cX at hs;simp only at hs;split at hs
  ·simp only[SO]at hs;obtain⟨⟨e,cells'⟩,hl,_⟩:=hs;rcases jT hx hl with ⟨b,base,nn,a,cap,hΓ,rfl,_⟩|⟨hΓ,_,_,rfl⟩
   ·exact⟨_,_,_,rfl⟩
   ·exact⟨_,_,_,rfl⟩
  ·cases hs
 ·refine bytes _ hx (fun n cells hs=>?_) hb;cases hx with
  |nq a cap=>exact⟨_,_,_,rfl⟩
  |M=>exact⟨_,_,_,rfl⟩
 ·unfold lF at hb;split at hb
  ·rename_i a ha;simp only[SO]at hb;obtain⟨r,hr,rfl⟩:=hb;rw[<- hx.cW ha]at hr;exact cM.same R (oI hr w) (.lit _)
  ·cases hb
def cM.new {s:Sem Value}(h:∃cv Γ' w',s.run P w=.ok cv w'/\Xk Γ H w Γ' H' w'/\H.A<=H'.A/\Xh P G Γ' H' w'/\Xc P Γ' H' w' v cv):
  cM P G Γ H w v H' (do pure (Next.value (<- s))) :=
 let ⟨cv,Γ',w',h1,h2,h3,h4,h5⟩:=h
 ⟨.value cv,cv,Γ',w',Av h1,.inl rfl,h2,h3,h4,h5⟩
def Ax {G:Nat->Option (List W9)}(hev:∀x,Xc P Γ H w (aw G ρ x) (f x))(l:List Operand):
  ∀i (_:i<(l.map (aw G ρ)).length) (_:i<(l.map f).length),Xc P Γ H w (l.map (aw G ρ))[i] (l.map f)[i]:=by
 intro i h1 h2;simp only[S9];exact hev _
def Ay (hev:∀x,Xc P Γ H w (aw G ρ x) (f x))(parts:Array (Nat × Operand)):
  (parts.map fun (p:Nat × Operand)=>(p.1,f p.2)).toList.length=(parts.toList.map fun p=>(p.1,aw G ρ p.2)).length /\
  ∀i (h1:i<(parts.toList.map fun p=>(p.1,aw G ρ p.2)).length) (h2:i<(parts.map fun (p:Nat × Operand)=>(p.1,f p.2)).toList.length),
   (parts.toList.map fun p=>(p.1,aw G ρ p.2))[i].1=(parts.map fun (p:Nat × Operand)=>(p.1,f p.2)).toList[i].1 /\
   Xc P Γ H w (parts.toList.map fun p=>(p.1,aw G ρ p.2))[i].2 (parts.map fun (p:Nat × Operand)=>(p.1,f p.2)).toList[i].2:=by
 refine⟨W5,fun i h1 h2=>?_⟩;simp only[S9,TW,Vd];exact⟨trivial,hev _⟩
def Az (hev:∀x,Xc P Γ H w (aw G ρ x) (f x))(o:Option Operand):qg P Γ H w (o.map (aw G ρ)) (o.map f):=by
 cases o with
 |none=>trivial
 |some x=>exact hev x
def AA:∀ {args:List W9} {vs cs:List Value},pX args=some vs->cs.length=args.length->(∀i (_:i<args.length) (_:i<cs.length),Xc P Γ H w args[i] cs[i])->cs=vs:=by
 intro args
 induction args with
 |nil=>intro vs cs h hl _;simp only[pX,Option.some.injEq]at h;subst h;simpa using hl
 |cons a args ih =>
  intro vs cs h hl hr;simp only[pX,SW,SO]at h;obtain⟨x,hx,l,hl2,rfl⟩:=h;cases cs with
  |nil=>simp at hl
  |cons c cs =>
   have h0:=hr 0 W5 W5;simp only[TE]at h0;rw[h0.cW hx];have:=ih hl2 (by simpa using hl) (fun i a b=>hr (i+1) (by simpa using a) (by simpa using b));rw[this]
def FQ {b:Builtin}{ats:Array TypeId}{args:List W9}{cargs:Array Value}{ty:TypeId}{cs:Array Bool}(R:Xh P G Γ H w)(h:hJ P H id b ats.toList args=some (v,H'))
  (hl:cargs.toList.length=args.length) (hr:∀i (_:i<args.length) (_:i<cargs.toList.length),Xc P Γ H w args[i] cargs.toList[i]):
  cM P G Γ H w v H' (builtin b ats ty cs cargs):=by
 obtain⟨ats⟩:=ats;obtain⟨cargs⟩:=cargs;simp only at h hl hr;unfold hJ at h;split at h
 ·rename_i t x;simp only[SO,Prod.mk.injEq]at h;obtain⟨v',hv,rfl,rfl⟩:=h
  match cargs,hl,hr with
  | [cx],_,hr =>
   obtain⟨cv,h1,h2⟩:=FB (ty:=ty) hv (hr 0 W5 W5);exact cM.same R h1 h2
 ·rename_i t u s x
  match cargs,hl,hr with
  | [c1,c2],_,hr=>exact cM.new (FA R h (hr 0 W5 W5) (hr 1 W5 W5))
 ·rename_i t u d x
  match cargs,hl,hr with
  | [c1,c2],_,hr=>exact cM.new (FD R h (hr 0 W5 W5) (hr 1 W5 W5))
 ·rename_i t d
  match cargs,hl,hr with
  | [c1],_,hr=>exact cM.new (FE R h (hr 0 W5 W5))
 ·simp only[SW,SO,Prod.mk.injEq]at h;obtain⟨vs,hvs,r,hp,rfl,rfl⟩:=h;have:=AA hvs hl hr;subst this;exact cM.same R (oI hp w) (.lit _)
 ·simp only[SW,SO,Prod.mk.injEq]at h;obtain⟨vs,hvs,r,hp,rfl,rfl⟩:=h;have:=AA hvs hl hr;subst this;exact cM.same R (oI hp w) (.lit _)
 ·cases h
def xt {t:TypeId}{cells:List W9}(h:iQ P t cells off=some v)(hc:dK P Γ H w cells cs):
  ∃cv,(part t cs off).run P w=.ok cv w/\Xc P Γ H w v cv:=by
 unfold iQ at h;unfold part;split at h
 ·cases h
 ·rename_i d hd;rw[au (wL hd)];split at h
  ·rename_i ha;split at h
   ·rename_i hle;simp only[Option.some.injEq]at h;subst h;rw[ha,SU rfl,au (iZ hd)];refine⟨_,rfl,?_⟩;have he:(cs.extract off (off+P.cellsOf t))=((cs.toList.drop off).take (P.cellsOf t)).toArray:=by
     apply Array.ext';simp[List.extract_eq_take_drop]
    rw[he];have hsz:=hc.1;refine .agg (by simp only[Td,TB,UE];omega) (fun i h1 h2=>?_);simp only[Vb,Vc,TW];simp only[Td,TB]at h1;exact hc.2 (off+i) O (O)
   ·cases h
  ·rename_i ha;have:pQ d=false:=(by simpa using ha);rw[this];simp only[Bool.false_eq_true,if_false];obtain⟨hlt,hv⟩:=Tq.1 h;subst hv;obtain⟨cv,h1,h2⟩:=hc.get hlt;rw[h1];exact⟨cv,rfl,h2⟩
def AB {cells:List W9}(h:Xc P Γ H w (.agg cells) cv):∃cs:Array Value,cv=.agg cs/\dK P Γ H w cells cs:=by
 cases h with
 | @agg _ cs hcs hrel=>exact⟨cs.toArray,rfl,by simpa using hcs,fun i h1 h2=>by simpa using hrel i h1 (by simpa using h2)⟩
def AC {t f:Nat}{ft:TypeId}(h:bK P t f=some (off,ft)):∃fs fl i,P.underlying t=some (.struct fs)/\fs[f]?=some fl/\P.info? fl.type=some i/\P.cellsOf fl.type≠0/\off=fl.offset/\ft=fl.type:=by
 unfold bK at h;split at h
 ·rename_i fs hd;split at h
  ·rename_i fl hf;split at h
   ·rename_i hi;obtain⟨i,hi1⟩:=Tp.1 hi.1;simp only[Option.some.injEq,Prod.mk.injEq]at h;exact⟨fs,fl,i,hd,hf,hi1,hi.2,h.1.symm,h.2.symm⟩
   ·cases h
  ·cases h
 ·cases h
def AD {t f:Nat}{i:TypeInfo}{a:Addr}(hd:P.underlying t=some (.struct fs))(hf:fs[f]?=some fl)(hi:P.info? fl.type=some i)(h0:P.cellsOf fl.type≠0):
  (Instr.fieldAt t (.pointer (some a)) f).run P w=.ok (.pointer (some (a.add fl.offset))) w:=by
 unfold Instr.fieldAt;rw[au (cL hd)];simp only[hf];have sa:(Instr.sureAddr (.pointer (some a))).run P w=.ok a w:=rfl;rw[au sa];unfold fieldPlace;have:(do if (<- sizeOf fl.type)=0 then partAt a fl.offset fl.byteOffset else pure (a.add fl.offset):Sem Addr).run P w=.ok (a.add fl.offset) w:=by
  rw[au (run_sizeOf hi),SQ h0];rfl
 rw[au this];rfl
def AE {t f:Nat}(hd:P.underlying t=some (.struct fs))(hf:fs[f]?=some fl):
  (Instr.field t (.agg cs) f).run P w=(part fl.type cs fl.offset).run P w:=by
 unfold Instr.field;rw[au (cL hd)];simp only[hf];have sa:(asAgg (.agg cs)).run P w=.ok cs w:=rfl;rw[au sa]
def FR {i:Nat}(h:nE x i=some v)(hx:Xc P Γ H w x cx):∃cv,(Instr.extract cx i).run P w=.ok cv w/\Xc P Γ H w v cv:=by
 cases hx with
 | @na vs cs hcs hrel =>
  simp only[nE]at h;obtain⟨hlt,hv⟩:=Tq.1 h;subst hv;refine⟨cs[i]' O,?_,hrel i hlt O⟩;have:Instr.extract (.tuple cs.toArray) i=(pure (cs[i]' O):Sem Value):=by
   unfold Instr.extract;simp only[List.getElem?_toArray];rw[SP O]
  rw[this];rfl
 |lit =>
  cases cx with
  |tuple vs =>
   simp only[nE,SO]at h;obtain⟨r,hr,rfl⟩:=h;refine⟨r,?_,.lit _⟩;have:Instr.extract (.tuple vs) i=(pure r:Sem Value):=by
    unfold Instr.extract;simp[hr]
   rw[this];rfl
  |_=>simp[nE]at h
 |_=>simp[nE]at h
def xu {o:Oper}(R:Xh P G Γ H w)(hev:∀x,Xc P Γ H w (aw G ρ x) (f x))(h:ak P G ρ H id o.op=some (v,H')):
  cM P G Γ H w v H' (execOp f o):=by
 obtain⟨dst,op,type,pos,after,guard⟩:=o;simp only at h;unfold execOp;cases op with
 |move x =>
  simp only[ak,Option.some.injEq,Prod.mk.injEq]at h;obtain⟨rfl,rfl⟩:=h;exact⟨_,_,Γ,w,rfl,.inl rfl,Xk.refl _ _ _,W8,R,hev x⟩
 |assign x =>
  simp only[ak,Option.some.injEq,Prod.mk.injEq]at h;obtain⟨rfl,rfl⟩:=h;exact⟨_,_,Γ,w,rfl,.inl rfl,Xk.refl _ _ _,W8,R,hev x⟩
 |pick c a b =>
  simp only[ak]at h;have hc:=hev c;split at h
  ·rename_i t ht;rw[ht]at hc;simp only[Option.some.injEq,Prod.mk.injEq]at h;obtain⟨rfl,rfl⟩:=h;dsimp only;generalize f c=fc at hc ⊢;cases hc;refine⟨.value (if t then f a else f b),(if t then f a else f b),Γ,w,?_,.inl rfl,Xk.refl _ _ _,W8,R,?_⟩
   ·cases t<;>rfl
   ·cases t
    ·exact hev b
    ·exact hev a
  ·cases h
 |alloc e =>
  simp only[ak,SW,SO,Prod.mk.injEq]at h;obtain⟨z,hz,H1,hlay,rfl,rfl⟩:=h;obtain⟨i,zv,hi,hzv,hsz,hzz,hcells⟩:=qf hz;have hz0:dK P Γ H w z zv.cells:=hzz ▸ dK.lit _;obtain⟨E,hn,R'⟩:=rB (c:=zv.cells) R hlay (by rw[hz0.1];exact Nat.le_refl _) (fun i hi=>hz0.get hi);obtain⟨hget,_⟩:=jS hlay;obtain⟨_,_,_,hid⟩:=nk R hlay;refine cM.new ⟨_,_,_,?_,E,hn,R',Ae (by rw[hget,SU rfl]) hid (aC.dY _ _ _)⟩;unfold Instr.alloc;rw[au (oU hi hzv)];rfl
 |box e x =>
  simp only[ak,SO,Prod.mk.injEq]at h;obtain⟨H1,hlay,rfl,rfl⟩:=h;obtain⟨v1,v2⟩:=(hev x).cells;obtain⟨E,hn,R'⟩:=rB (c:=(f x).cells) R hlay (by rw[<- v1];simp) (fun i hi=>⟨(f x).cells[i]'(by rw[<- v1]at hi;simpa using hi),S6 _,by
   have:=v2 i hi (by rw[v1];exact hi);simpa using this⟩)
  obtain⟨hget,_⟩:=jS hlay;obtain⟨_,_,_,hid⟩:=nk R hlay;exact cM.new ⟨_,_,_,rfl,E,hn,R',Ae (by rw[hget,SU rfl]) hid (aC.dY _ _ _)⟩
 |build t parts =>
  simp only[ak,SO,Prod.mk.injEq]at h;obtain⟨v',hb,rfl,rfl⟩:=h;obtain⟨p1,p2⟩:=Ay hev parts;obtain⟨cv,h1,h2⟩:=Fo (w:=w) hb p1 p2;exact cM.same R h1 h2
 |buildSlice t len parts =>
  simp only[ak]at h;obtain⟨p1,p2⟩:=Ay hev parts;exact cM.new (Fp R h p1 p2)
 |load t a =>
  simp only[ak,SO,Prod.mk.injEq]at h;obtain⟨v',hb,rfl,rfl⟩:=h;obtain⟨cv,h1,h2⟩:=Ff R hb (hev a);exact cM.same R h1 h2
 |store t a x =>
  simp only[ak]at h;split at h
  ·rename_i hu;obtain⟨d,hd⟩:=Tp.1 hu;simp only[SO,Prod.mk.injEq]at h;obtain⟨H1,hst,rfl,rfl⟩:=h;obtain⟨w',h1,h2,h3,h4⟩:=Fg R hst (zX hd) (hev a) (hev x);exact⟨.skip,undef,Γ,w',tR h1,.inr ⟨rfl,rfl⟩,h2,h3,h4,.lit _⟩
  ·cases h
 |nilCheck x =>
  simp only[ak,SO,Prod.mk.injEq]at h;obtain⟨v',hb,rfl,rfl⟩:=h;have hx:=hev x;unfold lH at hb;split at hb
  ·rename_i id' gen off hx';simp only[SO]at hb;obtain⟨⟨e,cells⟩,hl,rfl⟩:=hb;rw[hx']at hx;obtain⟨b,base,n,hΓ,hcv⟩:=qa hx hl;simp only[hcv]at hx ⊢;exact⟨_,_,Γ,w,rfl,.inl rfl,Xk.refl _ _ _,W8,R,hx⟩
  ·rename_i cells off hx';simp only[Option.some.injEq]at hb;subst hb;rw[hx']at hx;dsimp only;generalize f x=fx at hx ⊢;cases hx with
   |nf a b c d e=>exact⟨_,_,Γ,w,rfl,.inl rfl,Xk.refl _ _ _,W8,R,.nf a b c d e⟩
  ·rename_i ff a b hx';simp only[Option.some.injEq]at hb;subst hb;rw[hx']at hx;dsimp only;generalize f x=fx at hx ⊢;cases hx with
   |Z a b c d=>exact⟨_,_,Γ,w,rfl,.inl rfl,Xk.refl _ _ _,W8,R,.Z a b c d⟩
  ·cases hb
 |binOp op t x y u =>
  simp only[ak,SO,Prod.mk.injEq]at h;obtain⟨v',hb,rfl,rfl⟩:=h;unfold bn at hb;split at hb
  ·rename_i a b ha hb';simp only[SO]at hb;obtain⟨r,hr,rfl⟩:=hb;rw[<- (hev x).cW ha,<- (hev y).cW hb']at hr;exact cM.same R (oI hr w) (.lit _)
  ·cases hb
 |unOp op t x =>
  simp only[ak,SO,Prod.mk.injEq]at h;obtain⟨v',hb,rfl,rfl⟩:=h;unfold pY at hb;split at hb
  ·rename_i a ha;simp only[SO]at hb;obtain⟨r,hr,rfl⟩:=hb;rw[<- (hev x).cW ha]at hr;exact cM.same R (oI hr w) (.lit _)
  ·cases hb
 |convert s d x =>
  simp only[ak,SO,Prod.mk.injEq]at h;obtain⟨v',hb,rfl,rfl⟩:=h;exact FO R (hev x) hb
 |makeInterface t x =>
  simp only[ak]at h;split at h
  ·rename_i a ha;simp only[SO,Prod.mk.injEq]at h;obtain⟨r,hr,rfl,rfl⟩:=h;rw[<- (hev x).cW ha]at hr;exact cM.same R (oI hr w) (.lit _)
  ·cases h
 |makeFunc fn first captured =>
  simp only[ak]at h;split at h
  ·simp only[Option.some.injEq,Prod.mk.injEq]at h;obtain⟨rfl,rfl⟩:=h;refine cM.same R (cv:=.func (.func _) (first.map f) (captured.map f)) rfl ?_;have e1:first.map f=(first.toList.map f).toArray:=(by rw[<- Wi,V0]);have e2:captured.map f=(captured.toList.map f).toArray:=(by rw[<- Wi,V0]);rw[e1,e2];exact .Z W5 W5 (Ax hev _) (Ax hev _)
  ·cases h
 |makeSlice t l c =>
  simp only[ak]at h;exact cM.new (Ft R h (hev l) (hev c))
 |slice t x lo hi mx =>
  simp only[ak]at h;split at h
  ·simp only[SO,Prod.mk.injEq]at h;obtain⟨v',hb,rfl,rfl⟩:=h;obtain⟨cv,h1,h2⟩:=Fx R hb (hev x) (Az hev lo) (Az hev hi);exact cM.same R h1 h2
  ·cases h
 |fieldAddr s x fi =>
  simp only[ak,SW]at h;obtain⟨⟨off,ft⟩,hf,h⟩:=h;obtain⟨fs,fl,i,hd,hfl,hi,h0,rfl,rfl⟩:=AC hf;have hx:=hev x;split at h
  ·rename_i id' gen off' hx';simp only[SO,Prod.mk.injEq]at h;obtain⟨⟨e,cells⟩,hl,rfl,rfl⟩:=h;rw[hx']at hx;obtain⟨a,ha,hr⟩:=Aj (k:=fl.offset) hx hl;simp only[ha];exact cM.same R (AD hd hfl hi h0) hr
  ·rename_i cells off' hx';simp only[Option.some.injEq,Prod.mk.injEq]at h;obtain⟨rfl,rfl⟩:=h;rw[hx']at hx;obtain⟨a,ha,hr⟩:=Ak (k:=fl.offset) hx;simp only[ha];exact cM.same R (AD hd hfl hi h0) hr
  ·cases h
 |field t x fi =>
  simp only[ak,SW]at h;obtain⟨⟨off,ft⟩,hf,h⟩:=h;obtain⟨fs,fl,i,hd,hfl,hi,h0,rfl,rfl⟩:=AC hf;have hx:=hev x;split at h
  ·rename_i cells hx';simp only[SO,Prod.mk.injEq]at h;obtain⟨v',hp,rfl,rfl⟩:=h;rw[hx']at hx;obtain⟨cs,hcv,hrl⟩:=AB hx;obtain⟨cv,h1,h2⟩:=xt hp hrl;simp only[hcv];exact cM.same R ((AE hd hfl).trans h1) h2
  ·rename_i cs hx';simp only[SO,Prod.mk.injEq]at h;obtain⟨v',hp,rfl,rfl⟩:=h;rw[hx']at hx;obtain⟨cv,h1,h2⟩:=xt hp (dK.lit (P:=P) (Γ:=Γ) (H:=H) (w:=w) cs);dsimp only;generalize f x=fx at hx ⊢;cases hx;exact cM.same R ((AE hd hfl).trans h1) h2
  ·cases h
 |indexAddr t x i =>
  simp only[ak]at h;have hi:=hev i;split at h
  ·rename_i k n hi';simp only[SO,Prod.mk.injEq]at h;obtain⟨v',hb,rfl,rfl⟩:=h;rw[hi']at hi;have:f i=.int k n:=by
    generalize f i=fi at hi;cases hi;rfl
   simp only[this];obtain⟨cv,h1,h2⟩:=Fu (w:=w) (k:=k) hb (hev x);exact cM.same R h1 h2
  ·cases h
 |index t x i =>
  simp only[ak,SO,Prod.mk.injEq]at h;obtain⟨v',hb,rfl,rfl⟩:=h;have hx:=hev x;have hi:=hev i;unfold oM at hb;split at hb
  ·rename_i cells k n hx' hi';rw[hx']at hx;rw[hi']at hi;have hfi:f i=.int k n:=by
    generalize f i=fi at hi;cases hi;rfl
   obtain⟨cs,hcv,hrl⟩:=AB hx;split at hb
   ·rename_i len e hd;split at hb
    ·rename_i hn;obtain⟨cv,h1,h2⟩:=xt hb hrl;simp only[hcv,hfi];refine cM.same R ?_ h2;unfold Instr.index;rw[au (xk k n)];simp only;rw[au (cL hd)];simp only;rw[SU hn];have:∃d,P.underlying e=some d:=by
      unfold iQ at hb;split at hb
      ·cases hb
      ·rename_i d hd';exact⟨d,hd'⟩
     obtain⟨d,hde⟩:=this;rw[au (iZ hde)];exact h1
    ·cases hb
   ·cases hb
  ·rename_i vx vi hx' hi';rw[hx']at hx;rw[hi']at hi;simp only[SO]at hb;obtain⟨r,hr,rfl⟩:=hb;have h1:f x=vx:=by
    generalize f x=fx at hx;cases hx;rfl
   have h2:f i=vi:=by
    generalize f i=fx at hi;cases hi;rfl
   simp only[h1,h2];exact cM.same R (oI hr w) (.lit _)
  ·cases hb
 |extract t i =>
  simp only[ak,SO,Prod.mk.injEq]at h;obtain⟨v',hb,rfl,rfl⟩:=h;obtain⟨cv,h1,h2⟩:=FR (w:=w) hb (hev t);exact cM.same R h1 h2
 |call c =>
  simp only[ak]at h;obtain⟨callee,args,ats⟩:=c;split at h
  ·rename_i b hb;simp only at hb h;subst hb;have:=FQ (ty:=type) (cs:=args.map fun|.const _=>true|_=>false) (cargs:=args.map f) R h W5 (fun i h1 h2=>by
    simp only[S9,TW,Vd];exact hev _)
   exact this
  ·cases h
 |makeMap t r =>
  simp only[ak]at h;split at h
  ·simp only[SO,Prod.mk.injEq]at h;obtain⟨H1,hlay,rfl,rfl⟩:=h;obtain⟨E,hn,R'⟩:=Fc R hlay;obtain⟨hget,_⟩:=jS hlay;obtain⟨_,_,_,hid⟩:=nk R hlay;refine cM.new ⟨.map (some w.heap.size),_,_,?_,E,hn,R',.ni ⟨hid,rfl,by rw[hget,SU rfl];simp,fun st pend n env ps asg body hg=>(by rw[hget,SU rfl]at hg;cases hg),fun es hg=>⟨_,aC.dY _ _ _,rfl⟩⟩⟩;rfl
  ·cases h
 |lookup t x i ok =>
  simp only[ak,SO,Prod.mk.injEq]at h;obtain⟨v',hb,rfl,rfl⟩:=h;obtain⟨cv,h1,h2⟩:=FK R hb (hev x) (hev i);exact cM.same R h1 h2
 |mapUpdate t m k x =>
  simp only[ak]at h;obtain⟨Γ',w',h1,h2,h3,h4,rfl⟩:=Au R h (hev m) (hev k) (hev x);exact⟨.skip,undef,Γ',w',tR h1,.inr ⟨rfl,rfl⟩,h2,h3,h4,.lit _⟩
 |insert t m k x =>
  simp only[ak]at h;obtain⟨Γ',w',h1,h2,h3,h4,rfl⟩:=Au R h (hev m) (hev k) (hev x);exact⟨.skip,undef,Γ',w',tR h1,.inr ⟨rfl,rfl⟩,h2,h3,h4,.lit _⟩
 |mapEntry t m k =>
  simp only[ak]at h;exact cM.new (FL R h (hev m) (hev k))
 |entryStore t m s x =>
  simp only[ak]at h;obtain⟨Γ',w',h1,h2,h3,h4,rfl⟩:=FM (t:=t) R h (hev m) (hev s) (hev x);exact⟨.skip,undef,Γ',w',tR h1,.inr ⟨rfl,rfl⟩,h2,h3,h4,.lit _⟩
 |_=>simp[ak]at h
end Go.Hx
namespace Go.Hx
variable {P:Program} {G:Nat->Option (List W9)} {Γ Γ':aC} {H H':Xn} {w w':World}
variable {a b:Act}{lo:Nat}{ch:Nat->Bool}
structure St where
 ρ:Env
 H:Xn
inductive AX where
 |normal
 |exit (id:Nat)
 |goto (l:Nat)
 |ret
 |panic
def xw (chain:List PanicEntry):Prop:=∃t v,chain=[{ v:=.iface t v,recovered:=false }]
def xx:Exit->AX->Prop
 |.normal,.normal=>True
 |.exit i,.exit j=>i=j
 |.goto i,.goto j=>i=j
 |.ret,.ret=>True
 |.panic chain,.panic=>xw chain
 |_,_=>False
structure XE where
 lo:Nat
 ds:List Deferred
def Marks (lo:Nat)(Γ:aC)(w:World)(m:List Deferred):Prop :=
 (∀d,d∈m->∃r,d={ target:=.collected r,args:=#[] }/\lo<=r/\ru Γ w r)/\m.Pairwise (fun d e=>d.target≠e.target)
theorem Marks.nil :Marks lo Γ w []:=⟨fun _ h=>(by cases h),.nil⟩
theorem Marks.bb {m:List Deferred}(h:Marks lo Γ w m)(E:Xk Γ H w Γ' H' w'):Marks lo Γ' w' m :=
 ⟨fun d hd=>let ⟨r,h1,h2,h3⟩:=h.1 d hd;⟨r,h1,h2,h3.bb E⟩,h.2⟩
def rO (wb:XE)(Γ:aC)(w:World)(l:List Deferred):Prop:=∃m,l=m++wb.ds/\Marks wb.lo Γ w m
theorem rO.bb {wb:XE}{l:List Deferred}(h:rO wb Γ w l)(E:Xk Γ H w Γ' H' w'):rO wb Γ' w' l :=
 let ⟨m,h1,h2⟩:=h;⟨m,h1,h2.bb E⟩
structure Xt (P:Program)(G:Nat->Option (List W9))(n:Nat)(wb:XE)(Γ:aC)(s:St)(a:Act)(w:World):Prop where
 size:a.tmps.size=n
 env:∀t,Xc P Γ s.H w (s.ρ t) (a.tmps.getD t undef)
 heap:Xh P G Γ s.H w
 defers:rO wb Γ w a.defers
 low:wb.lo<=w.heap.size
def dZ (Γ:aC)(H:Xn):Option Nat->Option Nat->Prop
 |none,rb=>rb=none
 |some id,rb=>∃b st pend n env ps asg body,rb=some b/\Γ id=some (b,0,0)/\H.get id=some (.loop st pend n env ps asg body)
def fD (H:Xn):Option Nat->Prop
 |none=>True
 |some id=>∃st pend n env ps asg body,H.get id=some (.loop st pend n env ps asg body)
abbrev eP (rb:Option Nat):Fence:={ Fence.wide with round:=rb }
def wr:Code->Nat->Bool
 |.region _ ops _,t=>ops.toList.any fun o=>o.dst == some t
 |.seq a b,t|.cond _ a b,t=>wr a t ||wr b t
 |.block _ c,t|.loop c,t|.scope c,t=>wr c t
 |_,_=>false
def Fr (ch:Nat->Bool)(a a':Act):Prop:=∀t,ch t=false->a'.tmps[t]?=a.tmps[t]?
def Fr.refl (ch:Nat->Bool)(a:Act):Fr ch a a:=fun _ _=>rfl
theorem Fr.trans {c:Act}(h:Fr ch a b)(k:Fr ch b c):Fr ch a c:=fun t ht=>(k t ht).trans (h t ht)
def Fr.mono {ch':Nat->Bool}(h:Fr ch a b)(hc:∀t,ch' t=false->ch t=false):Fr ch' a b:=fun t ht=>h t (hc t ht)
def iy (P:Program)(G:Nat->Option (List W9))(n:Nat)(wb:XE)(rd rb:Option Nat)(ch:Nat->Bool)(Γ:aC)(H:Xn)(a:Act)(w:World)(Q:AX->St->Prop)(e:Exit)(a':Act)(w':World):Prop :=
 ∃x s' Γ',xx e x/\Q x s'/\Xt P G n wb Γ' s' a' w'/\Xk Γ H w Γ' s'.H w'/\H.A<=s'.H.A/\dZ Γ' s'.H rd rb/\Fr ch a a'
def W (P:Program)(G:Nat->Option (List W9))(n:Nat)(rd:Option Nat)(c:Code)(Q:AX->St->Prop)(s:St):Prop :=
 ∀wb Γ a w rb,Xt P G n wb Γ s a w->dZ Γ s.H rd rb->c.wpIn (eP rb) 0 P (iy P G n wb rd rb (wr c) Γ s.H a w Q) a w
def kC (K:St->Prop)(Q:AX->St->Prop):AX->St->Prop
 |.normal,s=>K s
 |x,s=>Q x s
def mw (id:Nat)(Q:AX->St->Prop):AX->St->Prop
 |.exit i,s=>if i=id then Q .normal s else Q (.exit i) s
 |x,s=>Q x s
section rules
variable {n:Nat} {rd:Option Nat} {Q Q':AX->St->Prop} {s:St}
def iy.mono {wb:XE}{rb:Option Nat}{ch:Nat->Bool}{e:Exit}{a a':Act}(h:iy P G n wb rd rb ch Γ H a w Q e a' w')(hq:∀x s,Q x s->Q' x s):iy P G n wb rd rb ch Γ H a w Q' e a' w' :=
 let ⟨x,s',Γ',h1,h2,h3⟩:=h;⟨x,s',Γ',h1,hq _ _ h2,h3⟩
def iy.step {wb:XE}{rb:Option Nat}{ch ch':Nat->Bool}{e:Exit}{a a₁ a':Act}{w₁:World}{H₁:Xn}{Γ₁:aC}(E:Xk Γ H w Γ₁ H₁ w₁)(hn:H.A<=H₁.A)(hf:Fr ch' a a₁)
  (h:iy P G n wb rd rb ch Γ₁ H₁ a₁ w₁ Q e a' w') (hc:∀t,ch' t=false->ch t=false):iy P G n wb rd rb ch' Γ H a w Q e a' w' :=
 let ⟨x,s',Γ',h1,h2,h3,h4,h5,h6,h7⟩:=h;⟨x,s',Γ',h1,h2,h3,E.trans hn h4,Tw hn h5,h6,hf.trans (h7.mono hc)⟩
theorem W.mono {c:Code}(h:W P G n rd c Q s)(hq:∀x s,Q x s->Q' x s):W P G n rd c Q' s :=
 fun wb Γ a w rb hs hr=>wpIn_mono (h wb Γ a w rb hs hr) fun _ _ _ hp=>hp.mono hq
def iy.here {wb:XE}{rb:Option Nat}{ch:Nat->Bool}{e:Exit}{a:Act}{x:AX}(hx:xx e x)(h:Q x s)(hs:Xt P G n wb Γ s a w)(hr:dZ Γ s.H rd rb):
  iy P G n wb rd rb ch Γ s.H a w Q e a w:=⟨x,s,Γ,hx,h,hs,Xk.refl _ _ _,W8,hr,.refl _ _⟩
theorem W.skip (h:Q .normal s):W P G n rd .skip Q s:=fun _ _ _ _ _ hs hr=>wpIn_skip (.here (x:=.normal) trivial h hs hr)
theorem W.label {l:Nat}(h:Q .normal s):W P G n rd (.label l) Q s:=fun _ _ _ _ _ hs hr=>wpIn_label (.here (x:=.normal) trivial h hs hr)
theorem W.exit {id:Nat}(h:Q (.exit id) s):W P G n rd (.exit id) Q s:=fun _ _ _ _ _ hs hr=>wpIn_exit (.here (x:=.exit id) rfl h hs hr)
theorem W.goto {l:Nat}(h:Q (.goto l) s):W P G n rd (.goto l) Q s:=fun _ _ _ _ _ hs hr=>wpIn_goto (.here (x:=.goto l) rfl h hs hr)
theorem W.ret (h:Q .ret s):W P G n rd .ret Q s:=fun _ _ _ _ _ hs hr=>wpIn_ret (.here (x:=.ret) trivial h hs hr)
def AF {x y:Bool}(h:(x ||y)=false):x=false:=by cases x<;>simp_all
def AG {x y:Bool}(h:(x ||y)=false):y=false:=by cases x<;>simp_all
theorem W.seq {x y:Code}(h:W P G n rd x (kC (W P G n rd y Q) Q) s):W P G n rd (.seq x y) Q s:=by
 intro wb Γ a w rb hs hr;refine wpIn_seq (wpIn_mono (h wb Γ a w rb hs hr) ?_);rintro e a' w' ⟨x',s',Γ',hx,hq,hs',E,hn,hr',hf⟩;have hf':Fr (wr (.seq x y)) a a':=hf.mono fun t ht=>AF ht;cases e with
 |normal =>
  cases x' with
  |normal=>exact wpIn_mono (hq wb Γ' a' w' rb hs' hr') fun _ _ _ hp=>hp.step E hn hf' fun t ht=>AG ht
  |_=>exact hx.elim
 |exit i=>cases x' with
  |exit j=>exact⟨_,s',Γ',hx,hq,hs',E,hn,hr',hf'⟩
  |_=>exact hx.elim
 |goto i=>cases x' with
  |goto j=>exact⟨_,s',Γ',hx,hq,hs',E,hn,hr',hf'⟩
  |_=>exact hx.elim
 |ret=>cases x' with
  |ret=>exact⟨_,s',Γ',hx,hq,hs',E,hn,hr',hf'⟩
  |_=>exact hx.elim
 |panic c=>cases x' with
  |panic=>exact⟨_,s',Γ',hx,hq,hs',E,hn,hr',hf'⟩
  |_=>exact hx.elim
 |outgrown=>cases x'<;>exact hx.elim
def jb {wb:XE}{a:Act}(hs:Xt P G n wb Γ s a w)(x:Operand):Xc P Γ s.H w (aw G s.ρ x) (a.eval x):=by
 cases x with
 |tmp t=>exact hs.env t
 |const v=>exact .lit v
 |global g =>
  simp only[aw,Act.eval];cases hg:G g with
  |none=>exact .lit _
  |some cells=>exact hs.heap.nC g cells hg
 |func f=>exact Xc.Z (fs:=[]) (cs:=[]) rfl rfl (fun i h _=>absurd h (Tb _)) (fun i h _=>absurd h (Tb _))
theorem W.cond {c:Operand}{x y:Code}{t:Bool}(hc:aw G s.ρ c=.lit (.bool t))(h:W P G n rd (if t then x else y) Q s):W P G n rd (.cond c x y) Q s:=by
 intro wb Γ a w rb hs hr;have he:=jb hs c;rw[hc]at he;have:a.eval c=.bool t:=by
  generalize a.eval c=v at he;cases he;rfl
 refine wpIn_cond this (wpIn_mono (h wb Γ a w rb hs hr) ?_);rintro e a' w' ⟨x',s',Γ',h1,h2,h3,h4,h5,h6,h7⟩;refine⟨x',s',Γ',h1,h2,h3,h4,h5,h6,h7.mono fun i hi=>?_⟩;cases t with
 |true=>exact AF hi
 |false=>exact AG hi
theorem W.block {id:Nat}{c:Code}(h:W P G n rd c (mw id Q) s):W P G n rd (.block id c) Q s:=by
 intro wb Γ a w rb hs hr;refine wpIn_block (wpIn_mono (h wb Γ a w rb hs hr) ?_);rintro e a' w' ⟨x,s',Γ',hx,hq,hrest⟩;cases e with
 |exit i =>
  cases x with
  |exit j =>
   obtain rfl:i=j:=hx;simp only[Exit.inBlock];simp only[mw]at hq;split
   ·rename_i hi;rw[SU hi]at hq;exact⟨.normal,s',Γ',trivial,hq,hrest⟩
   ·rename_i hi;rw[SQ hi]at hq;exact⟨.exit i,s',Γ',rfl,hq,hrest⟩
  |_=>exact hx.elim
 |normal=>cases x with
  |normal=>exact⟨_,s',Γ',hx,hq,hrest⟩
  |_=>exact hx.elim
 |goto i=>cases x with
  |goto j=>exact⟨_,s',Γ',hx,hq,hrest⟩
  |_=>exact hx.elim
 |ret=>cases x with
  |ret=>exact⟨_,s',Γ',hx,hq,hrest⟩
  |_=>exact hx.elim
 |panic c=>cases x with
  |panic=>exact⟨_,s',Γ',hx,hq,hrest⟩
  |_=>exact hx.elim
 |outgrown=>cases x<;>exact hx.elim
def eA (P:Program)(G:Nat->Option (List W9))(s s':St):Prop :=
 ∀n wb Γ a w,Xt P G n wb Γ s a w->∃ Γ',Xt P G n wb Γ' s' a w/\Xk Γ s.H w Γ' s'.H w /\
  (∀rd rb,dZ Γ s.H rd rb->fD s'.H rd->dZ Γ' s'.H rd rb)
theorem eA.refl (s:St):eA P G s s:=fun _ _ Γ _ _ h=>⟨Γ,h,Xk.refl _ _ _,fun _ _ h _=>h⟩
def mask (ws:Nat)(ρ ρ₀:Env):Env:=fun t=>if ws / 2 ^ t % 2=1 then ρ t else ρ₀ t
def my (ws:Nat):Code->Bool
 |.region _ ops _=>ops.toList.all fun o=>match o.dst with|some d=>ws / 2 ^ d % 2 == 1|none=>true
 |.seq a b|.cond _ a b=>my ws a && my ws b
 |.block _ c|.loop c|.scope c=>my ws c
 |_=>true
def FS {ws:Nat}{t:Nat}(ht:¬ws / 2 ^ t % 2=1):∀ {c:Code},my ws c=true->wr c t=false:=by
 intro c
 induction c with
 |region id ops d =>
  intro h;simp only[my,Tn]at h;simp only[wr,Vv];intro o ho hd;have:=h o ho;have hd':o.dst=some t:=by simpa using hd
  rw[hd']at this;simp only[beq_iff_eq]at this;exact ht this
 |seq a b iha ihb=>intro h;simp only[my,Tv]at h;simp only[wr,iha h.1,ihb h.2];rfl
 |cond x a b iha ihb=>intro h;simp only[my,Tv]at h;simp only[wr,iha h.1,ihb h.2];rfl
 |block id c ih=>intro h;exact ih h
 |loop c ih=>intro h;exact ih h
 |scope c ih=>intro h;exact ih h
 |_=>intro _;rfl
theorem W.loop {c:Code}(ws:Nat)(hws:my ws c=true)(I:Env->Xn->Prop)(μ:Env->Xn->Nat)(h0:I s.ρ s.H)
  (round:∀ ρ H,I ρ H->W P G n rd c (kC (fun s₂=>∃s₃,eA P G s₂ s₃/\s.H.A<=s₃.H.A/\fD s₃.H rd/\I (mask ws s₃.ρ s.ρ) s₃.H/\μ (mask ws s₃.ρ s.ρ) s₃.H<μ (mask ws ρ s.ρ) H) Q) ⟨mask ws ρ s.ρ,H⟩):W P G n rd (.loop c) Q s:=by
 intro wb Γ a w rb hs hr
 let gV:Env->Xn->Act->World->Prop:=fun ρ H a₁ w₁=>∃ Γ₁,I ρ H/\Xt P G n wb Γ₁ ⟨mask ws ρ s.ρ,H⟩ a₁ w₁/\Xk Γ s.H w Γ₁ H w₁/\s.H.A<=H.A/\dZ Γ₁ H rd rb/\Fr (wr c) a a₁
 let ex:Act->World->Prop:=fun a₁ w₁=>∃k ρ H,gV ρ H a₁ w₁/\μ (mask ws ρ s.ρ) H=k
 let m:Act->World->Nat:=fun a₁ w₁=>Classical.epsilon fun k=>(∃ ρ H,gV ρ H a₁ w₁/\μ (mask ws ρ s.ρ) H=k)/\∀j,(∃ ρ H,gV ρ H a₁ w₁/\μ (mask ws ρ s.ρ) H=j)->k<=j
 have least:∀(p:Nat->Prop),(∃k,p k)->∃k,p k/\∀j,p j->k<=j:=by
  intro p ⟨k,hk⟩
  induction k using Nat.strongRecOn with
  |_ k ih =>
   by_cases h:∃j,j<k/\p j
   ·obtain⟨j,hj,hp⟩:=h;exact ih j hj hp
   ·exact⟨k,hk,fun j hj=>VR fun hlt=>h ⟨j,hlt,hj⟩⟩
 have mspec:∀a₁ w₁,ex a₁ w₁->(∃ ρ H,gV ρ H a₁ w₁/\μ (mask ws ρ s.ρ) H=m a₁ w₁)/\∀j,(∃ ρ H,gV ρ H a₁ w₁/\μ (mask ws ρ s.ρ) H=j)->m a₁ w₁<=j:=by
  intro a₁ w₁ h;exact Classical.epsilon_spec (p:=fun k=>(∃ ρ H,gV ρ H a₁ w₁/\μ (mask ws ρ s.ρ) H=k)/\∀j,(∃ ρ H,gV ρ H a₁ w₁/\μ (mask ws ρ s.ρ) H=j)->k<=j) (least _ h)
 have mask0:mask ws s.ρ s.ρ=s.ρ:=by
  funext t
  unfold mask;split<;>rfl
 have mask2:∀ ρ,mask ws (mask ws ρ s.ρ) s.ρ=mask ws ρ s.ρ:=by
  intro ρ
  funext t
  unfold mask;by_cases h:ws / 2 ^ t % 2=1
  ·rw[SU h,SU h]
  ·rw[SQ h,SQ h]
 refine wpIn_mono (Q:=fun e a' w'=>iy P G n wb rd rb (wr c) Γ s.H a w Q e a' w') ?_ fun _ _ _ hp=>hp;refine wpIn_loop ex m ⟨_,s.ρ,s.H,⟨Γ,h0,by rw[mask0];exact hs,Xk.refl _ _ _,W8,hr,.refl _ _⟩,rfl⟩ ?_;intro a₁ w₁ hex;obtain⟨⟨ρ,H,⟨Γ₁,hI,hs₁,E₁,hn₁,hr₁,hf₁⟩,hm⟩,hmin⟩:=mspec a₁ w₁ hex;refine wpIn_mono (round ρ H hI wb Γ₁ a₁ w₁ rb hs₁ hr₁) ?_;rintro e a' w' ⟨x,s',Γ',hx,hq,hs',E,hn,hr',hf⟩;have hf':=hf₁.trans hf;cases e with
 |normal =>
  cases x with
  |normal =>
   obtain⟨s₃,hw,hn3,hri,hI3,hlt⟩:=hq;obtain⟨Γ₃,hs₃,E₃,hrd⟩:=hw n wb Γ' a' w' hs';have E₄:Xk Γ s.H w Γ₃ s₃.H w':=(E₁.trans hn₁ E).trans (Tw hn₁ hn) E₃;have hs₄:Xt P G n wb Γ₃ ⟨mask ws (mask ws s₃.ρ s.ρ) s.ρ,s₃.H⟩ a' w':=by
    rw[mask2];refine⟨hs₃.size,fun t=>?_,hs₃.heap,hs₃.defers,hs₃.low⟩;show Xc P Γ₃ s₃.H w' (if ws / 2 ^ t % 2=1 then s₃.ρ t else s.ρ t) _;by_cases ht:ws / 2 ^ t % 2=1
    ·rw[SU ht];exact hs₃.env t
    ·rw[SQ ht];have hsame:=hf' t (FS ht hws);have:a'.tmps.getD t undef=a.tmps.getD t undef:=by
      simp only[TK,hsame]
     rw[this];exact(hs.env t).bb E₄ hn3
   have hg:gV (mask ws s₃.ρ s.ρ) s₃.H a' w':=⟨Γ₃,hI3,hs₄,E₄,hn3,hrd rd rb hr' hri,hf'⟩
   have hex':ex a' w':=⟨_,_,_,hg,rfl⟩
   refine⟨hex',V3 ((mspec a' w' hex').2 _ ⟨_,_,hg,rfl⟩) ?_⟩;rw[<- hm,mask2];exact hlt
  |_=>exact hx.elim
 |exit i=>cases x with
  |exit j=>exact⟨_,s',Γ',hx,hq,hs',E₁.trans hn₁ E,Tw hn₁ hn,hr',hf'⟩
  |_=>exact hx.elim
 |goto i=>cases x with
  |goto j=>exact⟨_,s',Γ',hx,hq,hs',E₁.trans hn₁ E,Tw hn₁ hn,hr',hf'⟩
  |_=>exact hx.elim
 |ret=>cases x with
  |ret=>exact⟨_,s',Γ',hx,hq,hs',E₁.trans hn₁ E,Tw hn₁ hn,hr',hf'⟩
  |_=>exact hx.elim
 |panic c=>cases x with
  |panic=>exact⟨_,s',Γ',hx,hq,hs',E₁.trans hn₁ E,Tw hn₁ hn,hr',hf'⟩
  |_=>exact hx.elim
 |outgrown=>cases x<;>exact hx.elim
def W.aP {c:Code}(ws:Nat)(hws:my ws c=true)(I:Env->Xn->Prop)(μ:Env->Xn->Nat)(h0:I s.ρ s.H)
  (round:∀ ρ H,I ρ H->W P G n rd c (kC (fun s₂=>s.H.A<=s₂.H.A/\fD s₂.H rd/\I (mask ws s₂.ρ s.ρ) s₂.H/\μ (mask ws s₂.ρ s.ρ) s₂.H<μ (mask ws ρ s.ρ) H) Q) ⟨mask ws ρ s.ρ,H⟩):W P G n rd (.loop c) Q s :=
 W.loop ws hws I μ h0 fun ρ H hI=>(round ρ H hI).mono fun x s' hx=>by
  cases x with
  |normal=>exact⟨s',eA.refl s',hx⟩
  |_=>exact hx
def W.AH {c:Code}{s':St}(hw:eA P G s s')(hn:s.H.A<=s'.H.A)(hri:fD s'.H rd)(h:W P G n rd c Q s'):W P G n rd c Q s:=by
 intro wb Γ a w rb hs hr;obtain⟨Γ',hs',E,hrd⟩:=hw n wb Γ a w hs;exact wpIn_mono (h wb Γ' a w rb hs' (hrd rd rb hr hri)) fun _ _ _ hp=>hp.step E hn (.refl _ _) fun _ h=>h
end rules
end Go.Hx
namespace Go.Hx
variable {P:Program} {G:Nat->Option (List W9)} {Γ Γ':aC} {H H':Xn} {w w':World}
variable {a:Act}{f:FuncId}{args:List W9}{id n:Nat}{rb rd:Option Nat}{cv v:Value}{wb:XE}
inductive Xd where
 |ret (v:W9)
 |panic
def FT (P:Program)(Γ:aC)(H:Xn)(w:World):Ending->Xd->Prop
 |.returned cv,.ret v=>Xc P Γ H w v cv
 |.panicked chain,.panic=>xw chain
 |_,_=>False
def jc (P:Program)(G:Nat->Option (List W9))(Γ:aC)(H:Xn)(w:World)(K:Xd->Xn->Prop)(e:Ending)(w':World):Prop :=
 ∃r H' Γ',FT P Γ' H' w' e r/\K r H'/\Xh P G Γ' H' w'/\Xk Γ H w Γ' H' w'/\H.A<=H'.A
def ae (P:Program)(G:Nat->Option (List W9))(f:FuncId)(args:List W9)(H:Xn)(K:Xd->Xn->Prop):Prop :=
  (∃ fn, P.funcs[f]? = some fn ∧ fn.body.isNone = false ∧ (fn.name == "runtime.NumGoroutine") = false) ∧
 ∀ Γ w cargs,Xh P G Γ H w->dK P Γ H w args cargs->CallsIn Fence.wide 0 P f cargs w (jc P G Γ H w K)
def az (P:Program)(G:Nat->Option (List W9))(fv:W9)(args:List W9)(H:Xn)(K:Xd->Xn->Prop):Prop :=
 ∀ Γ w cfv cargs,Xh P G Γ H w->Xc P Γ H w fv cfv->dK P Γ H w args cargs ->
  ∃d,(Deferred.ofValue cfv cargs).run P w=.ok d w /\
   ((∃f as,(invoke d.target d.args).run P w=.ok (.enter f as) w/\CallsIn Fence.wide 0 P f as w (jc P G Γ H w K)) \/
    (∃l f tm asg body,(invoke d.target d.args).run P w=.ok (.round l f tm asg body) w/\RoundIn Fence.wide 0 P l f tm asg body w (jc P G Γ H w K)) \/
    (∃cv w',(invoke d.target d.args).run P w=.ok (.value cv) w'/\jc P G Γ H w K (.returned cv) w'))
variable {K K':Xd->Xn->Prop}
def jc.mono {e:Ending}(h:jc P G Γ H w K e w')(hk:∀r H',K r H'->K' r H'):jc P G Γ H w K' e w' :=
 let ⟨r,H',Γ',h1,h2,h3⟩:=h;⟨r,H',Γ',h1,hk _ _ h2,h3⟩
theorem ae.mono (h:ae P G f args H K)(hk:∀r H',K r H'->K' r H'):ae P G f args H K' :=
 ⟨h.1,fun Γ w cargs R hr=>(h.2 Γ w cargs R hr).mono fun _ _ hp=>hp.mono hk⟩
theorem az.mono {fv:W9}(h:az P G fv args H K)(hk:∀r H',K r H'->K' r H'):az P G fv args H K':=by
 intro Γ w cfv cargs R hv hr;obtain⟨d,h1,h2⟩:=h Γ w cfv cargs R hv hr;refine⟨d,h1,?_⟩;rcases h2 with ⟨f,as,h3,h4⟩|⟨l,f,tm,asg,body,h3,h4⟩|⟨cv,w',h3,h4⟩
 ·exact .inl ⟨f,as,h3,h4.mono fun _ _ hp=>hp.mono hk⟩
 ·exact .inr (.inl ⟨l,f,tm,asg,body,h3,h4.mono fun _ _ hp=>hp.mono hk⟩)
 ·exact .inr (.inr ⟨cv,w',h3,h4.mono hk⟩)
def tS {a b:List W9}{x y:Array Value}(h:dK P Γ H w a x)(k:dK P Γ H w b y):dK P Γ H w (a++b) (x++y):=by
 refine⟨by rw[Wa,List.length_append,h.1,k.1],fun i h1 h2=>?_⟩;have hx:=h.1;by_cases hi:i<a.length
 ·rw[TX hi,Array.getElem_append_left O];exact h.2 i hi _
 ·rw[T5 O,Array.getElem_append_right O];simp only[hx];exact k.2 _ (by simp only[List.length_append]at h1;omega) _
theorem az.Z {f:FuncId}{first cap args:List W9}{K:Xd->Xn->Prop}(h:ae P G f (first++args++cap) H K):az P G (.Z f first cap) args H K:=by
 intro Γ w cfv cargs R hv hr;cases hv with
 | @Z _ _ _ fs cs hfs hcs hf hc =>
  refine⟨{ target:=.fn (.func f) cs.toArray,args:=fs.toArray++cargs },rfl,.inl ⟨f,fs.toArray++cargs++cs.toArray,?_,?_⟩⟩
  ·obtain⟨fn,hfn,hb,hn⟩:=h.1;show (callFunc f (fs.toArray++cargs++cs.toArray)).run P w=_;unfold callFunc;rw[au (run_program P w)];simp only[hfn];rw[hn,hb];rfl
  ·exact h.2 Γ w _ R (tS (tS ⟨by simpa using hfs,fun i h1 h2=>by simpa using hf i h1 (by simpa using h2)⟩ hr) ⟨by simpa using hcs,fun i h1 h2=>by simpa using hc i h1 (by simpa using h2)⟩)
def Xc.FU (h:Xc P Γ H w (.lit v) cv):cv=v:=by cases h;rfl
theorem az.ext {fn:Func}{e:Array Value->Sem Value}{vs:List Value}{r:W9}(hf:P.funcs[f]?=some fn)(hb:fn.body.isNone=true)
    (hn : (fn.name == "runtime.NumGoroutine") = false) (h1 : Extern.findNext fn = none) (h2 : Extern.find fn = some e) (ha : args = vs.map .lit) (hrun : ∀ w, (e vs.toArray).run P w = .ok v w)
  (hrel:∀ Γ H w,Xc P Γ H w r v) (hK:K (.ret r) H):az P G (.Z f [] []) args H K:=by
 intro Γ w cfv cargs R hv hr;subst ha;have hc:cargs=vs.toArray:=by
  obtain⟨hs,hr⟩:=hr;apply Array.ext
  ·simpa using hs
  ·intro i h1 h2;have:=hr i (by simpa using h2) h1;simp only[S9]at this;simpa using this.FU
 subst hc;cases hv with
 | @Z _ _ _ fs cs hfs hcs hf' hc' =>
  obtain rfl:fs=[]:=S3 (by simpa using hfs);obtain rfl:cs=[]:=S3 (by simpa using hcs);refine⟨{ target:=.fn (.func f) #[],args:=#[]++vs.toArray },rfl,.inr (.inr ⟨v,w,?_,.ret r,H,Γ,hrel Γ H w,hK,R,Xk.refl _ _ _,W8⟩)⟩;show (callFunc f (#[]++vs.toArray++#[])).run P w=_;unfold callFunc;rw[au (run_program P w)];simp only[hf];rw[hn,hb];simp only[Bool.false_eq_true,if_false,if_true,h1,h2];have e0:#[]++vs.toArray++#[]=vs.toArray:=W5
  rw[e0];have hm:(mark (.extern f)).run P w=.ok () w:=rfl;rw[au hm];rw[au (hrun w)];rfl
inductive TagK {α:Type}(K:α->Prop):Type where
 |mk
inductive TagR (K:Xd->Xn->Prop):Type where
 |mk
inductive TagP (p q:Prop):Type where
 |mk
def bh {α:Type}(o:Option α)(K:α->Prop)(_d:TagK K:=.mk):Prop:=∃a,o=some a/\K a
def aQ (ρ:Env)(dst:Option Tmp)(v:W9):Env :=
 match dst with
 |some d=>fun t=>if t=d then v else ρ t
 |none=>ρ
def gL (all:Array Oper)(ρ:Env)(o:Oper):Option Bool :=
 match o.guard with
 |none=>some true
 |some (j,want) =>
  match (all[j]?).bind (·.dst) with
  |some d=>match ρ d with
   |.lit (.bool b)=>some (b == want)
   |.lit _=>some false
   |_=>none
  |none=>some false
def fV (n:Nat)(o:Oper):Bool:=match o.dst with|some d=>decide (d<n)|none=>true
def kD (H:Xn)(op:BinOp)(x y:W9):Option Bool :=
 match op,y with
 |.eql,.lit (.slice none 0 0)|.neq,.lit (.slice none 0 0)=>match x with
  |.M n _=>some (decide (0<n))
  |.Q id g _ n _=>match H.X id g with
   |some _=>some (decide (0<n))
   |none=>none
  |_=>none
 |_,_=>none
def rP (d:Option TypeDesc):Bool:=match d with|some (.slice _)=>true|_=>false
def rQ (P:Program)(op:BinOp)(t:TypeId)(k:Option Bool)(Kb:W9->Prop)(p:Prop):Prop :=
 match k with
 |some k=>rP (P.underlying t)=true/\∀b:Bool,(k=true->b=false)->Kb (.lit (.bool (if op == .neq then !b else b)))
 |none=>p
def aY (P:Program)(G:Nat->Option (List W9))(rd:Option Nat)(Q:AX->St->Prop)(o:Oper)(K:St->Prop)(s:St):Prop :=
 match o.op with
 |.call { callee:=.value fv,args,.. }=>az P G (aw G s.ρ fv) (args.toList.map (aw G s.ρ)) s.H fun r H'=>fD H' rd/\match r with
  |.ret v=>K ⟨aQ s.ρ o.dst v,H'⟩
  |.panic=>Q .panic ⟨s.ρ,H'⟩
 |.panic x=>(∃t v,(aw G s.ρ x)=.lit (.iface t v))/\Q .panic s
 |.binOp op t x y u=>rQ P op t (kD s.H op (aw G s.ρ x) (aw G s.ρ y)) (fun v=>K ⟨aQ s.ρ o.dst v,s.H⟩) (bh (ak P G s.ρ s.H s.H.A (.binOp op t x y u)) fun vH=>K ⟨aQ s.ρ o.dst vH.1,vH.2⟩)
 |op=>bh (ak P G s.ρ s.H s.H.A op) fun vH=>K ⟨aQ s.ρ o.dst vH.1,vH.2⟩
def opsV (P:Program)(G:Nat->Option (List W9))(rd:Option Nat)(Q:AX->St->Prop)(all:Array Oper):List Oper->St->Prop
 | [],s=>Q .normal s
 |o :: rest,s=>bh (gL all s.ρ o) fun t=>if t=true then aY P G rd Q o (opsV P G rd Q all rest) s else opsV P G rd Q all rest ⟨aQ s.ρ o.dst (.lit undef),s.H⟩
def qh {s:St}{all:Array Oper}{o:Oper}{t:Bool}(hs:Xt P G n wb Γ s a w)(h:gL all s.ρ o=some t):Region.wanted o (yielded all a.tmps)=t:=by
 unfold gL at h;unfold Region.wanted;split at h
 ·rename_i hg;rw[hg];simpa using h
 ·rename_i j want hg;rw[hg];simp only;split at h
  ·rename_i d hd;have he:=hs.env d;have hy:yielded all a.tmps j=match a.tmps[d]? with|some (.bool b)=>some b|_=>none:=by
    unfold yielded;rw[hd];rfl
   rw[hy];have hgd:a.tmps.getD d undef=(a.tmps[d]?).getD undef:=W5;rw[hgd]at he;split at h
   ·rename_i b hb;rw[hb]at he;simp only[Option.some.injEq]at h;cases hd:a.tmps[d]? with
    |none=>rw[hd]at he;cases he
    |some v =>
     rw[hd]at he;cases he;simp only;rw[<- h];cases b<;>cases want<;>rfl
   ·rename_i v hnb hb;rw[hb]at he;simp only[Option.some.injEq]at h;subst h;cases hd:a.tmps[d]? with
    |none=>simp
    |some cv =>
     rw[hd]at he;cases he;cases cv with
     |bool b=>exact(hnb b rfl).elim
     |_=>rfl
   ·cases h
  ·rename_i hd;have hy:yielded all a.tmps j=none:=(by unfold yielded;rw[hd];rfl);rw[hy];simpa using h
def kE {s:St}{dst:Option Tmp}{v:W9}{H':Xn}(hs:Xt P G n wb Γ s a w)(hd:∀d,dst=some d->d<n)(E:Xk Γ s.H w Γ' H' w')(hn:s.H.A<=H'.A)
  (R:Xh P G Γ' H' w') (hv:Xc P Γ' H' w' v cv):Xt P G n wb Γ' ⟨aQ s.ρ dst v,H'⟩ (a.put dst cv) w':=by
 cases dst with
 |none=>exact⟨hs.size,fun t=>(hs.env t).bb E hn,R,hs.defers.bb E,Tw hs.low E.size⟩
 |some d =>
  have hdn:=hd d rfl;refine⟨by simp[Act.put,hs.size],fun t=>?_,R,hs.defers.bb E,Tw hs.low E.size⟩;simp only[Act.put,aQ];by_cases ht:t=d
  ·subst ht;rw[SU rfl];have:(a.tmps.setIfInBounds t cv).getD t undef=cv:=(by simp[hs.size,hdn]);rw[this];exact hv
  ·rw[SQ ht];have:(a.tmps.setIfInBounds d cv).getD t undef=a.tmps.getD t undef:=by
    simp only[TK];rw[TQ,SQ O]
   rw[this];exact(hs.env t).bb E hn
def dZ.bb (h:dZ Γ H rd rb)(E:Xk Γ H w Γ' H' w')(hn:H.A<=H'.A)(R:Xh P G Γ H w)(hi:fD H' rd):dZ Γ' H' rd rb:=by
 cases rd with
 |none=>exact h
 |some id =>
  obtain⟨b,st,pend,n,env,ps,asg,body,h1,h2,h3⟩:=h;obtain⟨st',pend',n',env',ps',asg',body',h3'⟩:=hi;have hlt:=R.A id _ h3;obtain⟨x,hx,hle⟩:=E.X id hlt (SZ hlt hn) _ h3';rw[h3]at hx;cases hx;exact⟨b,_,_,_,_,_,_,_,h1,hle.1.trans h2,h3'⟩
def FV {b:Xe}(h:H.lay id b=some H'){j:Nat}{st:LoopState}{pend:Option Code}{env:Env}{ps:Array Tmp}{asg body:Code}
  (hj:H.get j=some (.loop st pend n env ps asg body)) (hlt:j<H.A):H'.get j=some (.loop st pend n env ps asg body):=by
 obtain⟨h1,_⟩:=jS h;have hne:j≠id:=by
  rintro rfl;unfold Xn.lay at h;rw[SQ O,hj]at h;cases h
 rw[h1,SQ hne];exact hj
def xy (h:dZ Γ H rd rb)(hk:∀j st pend n env ps asg body,H.get j=some (.loop st pend n env ps asg body)->∃st pend n env ps asg body,H'.get j=some (.loop st pend n env ps asg body)):fD H' rd:=by
 cases rd with
 |none=>trivial
 |some id =>
  obtain⟨b,st,pend,n,env,ps,asg,body,h1,h2,h3⟩:=h;exact hk id _ _ _ _ _ _ _ h3
def xz {ρ:Env}{o:Op}{v:W9}(R:Xh P G Γ H w)(h:ak P G ρ H id o=some (v,H')):∀j st pend n env ps asg body,H.get j=some (.loop st pend n env ps asg body) ->
  ∃st pend n env ps asg body,H'.get j=some (.loop st pend n env ps asg body):=by
 have same:H'=H->∀j st pend n env ps asg body,H.get j=some (.loop st pend n env ps asg body)->∃st pend n env ps asg body,H'.get j=some (.loop st pend n env ps asg body):=by
  rintro rfl j st pend n env ps asg body hj;exact⟨_,_,_,_,_,_,_,hj⟩
 have lay:∀b,H.lay id b=some H'->∀j st pend n env ps asg body,H.get j=some (.loop st pend n env ps asg body)->∃st pend n env ps asg body,H'.get j=some (.loop st pend n env ps asg body):=by
  intro b hb j st pend n env ps asg body hj;exact⟨_,_,_,_,_,_,_,FV hb hj (R.A j _ hj)⟩
 have upd:∀id g e cells b,H.get id=some (.J g e cells)->H'=H.upd id b->∀j st pend n env ps asg body,H.get j=some (.loop st pend n env ps asg body)->∃st pend n env ps asg body,H'.get j=some (.loop st pend n env ps asg body):=by
  rintro id g e cells b hb rfl j st pend n env ps asg body hj;refine⟨st,pend,n,env,ps,asg,body,?_⟩;rw[ag,SQ]
  ·exact hj
  ·rintro rfl;rw[hb]at hj;cases hj
 have updM:∀id es b,H.get id=some (.mp es)->H'=H.upd id b->∀j st pend n env ps asg body,H.get j=some (.loop st pend n env ps asg body)->∃st pend n env ps asg body,H'.get j=some (.loop st pend n env ps asg body):=by
  rintro id es b hb rfl j st pend n env ps asg body hj;refine⟨st,pend,n,env,ps,asg,body,?_⟩;rw[ag,SQ]
  ·exact hj
  ·rintro rfl;rw[hb]at hj;cases hj
 have updU:∀t m k x,mn P H t m k x=some (v,H')->∀j st pend n env ps asg body,H.get j=some (.loop st pend n env ps asg body)->∃st pend n env ps asg body,H'.get j=some (.loop st pend n env ps asg body):=by
  intro t m k x h;unfold mn at h;split at h
  ·split at h
   ·split at h
    ·rename_i hg;simp only[Option.some.injEq,Prod.mk.injEq]at h;exact updM _ _ _ hg h.2.symm
    ·cases h
   ·cases h
  ·cases h
 cases o with
 |makeMap t r =>
  simp only[ak]at h;split at h
  ·simp only[SO,Prod.mk.injEq]at h;obtain⟨_,hl,_,rfl⟩:=h;exact lay _ hl
  ·cases h
 |lookup a b c d=>simp only[ak,SO,Prod.mk.injEq]at h;obtain⟨_,_,_,rfl⟩:=h;exact same rfl
 |mapUpdate t m k x=>simp only[ak]at h;exact updU _ _ _ _ h
 |insert t m k x=>simp only[ak]at h;exact updU _ _ _ _ h
 |mapEntry t m k =>
  simp only[ak]at h;unfold oL at h;split at h
  ·split at h
   ·split at h
    ·rename_i hg;split at h
     ·simp only[Option.some.injEq,Prod.mk.injEq]at h;exact updM _ _ _ hg h.2.symm
     ·simp only[Option.some.injEq,Prod.mk.injEq]at h;exact updM _ _ _ hg h.2.symm
    ·cases h
   ·cases h
  ·cases h
 |entryStore t m s x =>
  simp only[ak]at h;unfold pW at h;split at h
  ·split at h
   ·rename_i hg;split at h
    ·simp only[Option.some.injEq,Prod.mk.injEq]at h;exact updM _ _ _ hg h.2.symm
    ·cases h
   ·cases h
  ·cases h
 |alloc e =>
  simp only[ak,SW,SO,Prod.mk.injEq]at h;obtain⟨_,_,_,hl,_,rfl⟩:=h;exact lay _ hl
 |box e x =>
  simp only[ak,SO,Prod.mk.injEq]at h;obtain⟨_,hl,_,rfl⟩:=h;exact lay _ hl
 |buildSlice t len parts =>
  simp only[ak,nu]at h;split at h
  ·split at h
   ·simp only[SW,SO,Prod.mk.injEq]at h;obtain⟨_,_,_,_,_,hl,_,rfl⟩:=h;exact lay _ hl
   ·cases h
  ·cases h
 |store t a x =>
  simp only[ak]at h;split at h
  ·simp only[SO,Prod.mk.injEq]at h;obtain⟨_,hst,_,rfl⟩:=h;unfold jQ at hst;split at hst
   ·split at hst
    ·rename_i hg;split at hst
     ·simp only[Option.some.injEq]at hst;exact upd _ _ _ _ _ hg hst.symm
     ·cases hst
    ·cases hst
   ·cases hst
  ·cases h
 |makeSlice t l c =>
  simp only[ak,mo]at h;split at h
  ·split at h
   ·simp only[SW,SO,Prod.mk.injEq]at h;obtain⟨_,_,_,hl,_,rfl⟩:=h;exact lay _ hl
   ·cases h
  ·cases h
 |call c =>
  simp only[ak]at h;split at h
  ·rename_i b hb;unfold hJ at h;split at h
   ·simp only[SO,Prod.mk.injEq]at h;obtain⟨_,_,_,rfl⟩:=h;exact same rfl
   ·unfold bT at h;split at h
    ·split at h
     ·simp only[SW]at h;obtain⟨_,_,_,_,h⟩:=h;split at h
      ·split at h
       ·simp only[Option.some.injEq,Prod.mk.injEq]at h;exact same h.2.symm
       ·split at h
        ·simp only[SO,Prod.mk.injEq]at h;obtain⟨_,hl,_,rfl⟩:=h;exact lay _ hl
        ·cases h
      ·simp only[SW]at h;obtain⟨⟨e',cells⟩,hl,h⟩:=h;simp only at h;split at h
       ·split at h
        ·simp only[Option.some.injEq,Prod.mk.injEq]at h;exact same h.2.symm
        ·simp only[Option.some.injEq,Prod.mk.injEq]at h;exact upd _ _ _ _ _ (jq hl) h.2.symm
       ·cases h
      ·cases h
     ·cases h
    ·cases h
   ·unfold lD at h;split at h
    ·split at h
     ·simp only[SW]at h;obtain⟨_,_,h⟩:=h;split at h
      ·simp only[SW]at h;obtain⟨⟨e',cells⟩,hl,h⟩:=h;simp only at h;split at h
       ·simp only[Option.some.injEq,Prod.mk.injEq]at h;exact upd _ _ _ _ _ (jq hl) h.2.symm
       ·cases h
      ·cases h
     ·cases h
    ·cases h
   ·unfold lE at h;split at h
    ·split at h
     ·simp only[Option.some.injEq,Prod.mk.injEq]at h;exact same h.2.symm
     ·simp only[SW]at h;obtain⟨⟨e',cells⟩,hl,h⟩:=h;simp only at h;split at h
      ·simp only[Option.some.injEq,Prod.mk.injEq]at h;exact same h.2.symm
      ·simp only[SW]at h;obtain⟨_,_,h⟩:=h;split at h
       ·simp only[Option.some.injEq,Prod.mk.injEq]at h;exact upd _ _ _ _ _ (jq hl) h.2.symm
       ·cases h
     ·cases h
    ·cases h
   ·simp only[SW,SO,Prod.mk.injEq]at h;obtain⟨_,_,_,_,_,rfl⟩:=h;exact same rfl
   ·simp only[SW,SO,Prod.mk.injEq]at h;obtain⟨_,_,_,_,_,rfl⟩:=h;exact same rfl
   ·cases h
  ·cases h
 |pick c a b =>
  simp only[ak]at h;split at h
  ·simp only[Option.some.injEq,Prod.mk.injEq]at h;exact same h.2.symm
  ·cases h
 |makeFunc fn f c =>
  simp only[ak]at h;split at h
  ·simp only[Option.some.injEq,Prod.mk.injEq]at h;exact same h.2.symm
  ·cases h
 |makeInterface t x =>
  simp only[ak]at h;split at h
  ·simp only[SO,Prod.mk.injEq]at h;obtain⟨_,_,_,rfl⟩:=h;exact same rfl
  ·cases h
 |slice t x lo hi mx =>
  simp only[ak]at h;split at h
  ·simp only[SO,Prod.mk.injEq]at h;obtain⟨_,_,_,rfl⟩:=h;exact same rfl
  ·cases h
 |fieldAddr s x f =>
  simp only[ak,SW]at h;obtain⟨_,_,h⟩:=h;split at h
  ·simp only[SO,Prod.mk.injEq]at h;obtain⟨_,_,_,rfl⟩:=h;exact same rfl
  ·simp only[Option.some.injEq,Prod.mk.injEq]at h;exact same h.2.symm
  ·cases h
 |field s x f =>
  simp only[ak,SW]at h;obtain⟨_,_,h⟩:=h;split at h
  ·simp only[SO,Prod.mk.injEq]at h;obtain⟨_,_,_,rfl⟩:=h;exact same rfl
  ·simp only[SO,Prod.mk.injEq]at h;obtain⟨_,_,_,rfl⟩:=h;exact same rfl
  ·cases h
 |indexAddr t x i =>
  simp only[ak]at h;split at h
  ·simp only[SO,Prod.mk.injEq]at h;obtain⟨_,_,_,rfl⟩:=h;exact same rfl
  ·cases h
 |move x=>simp only[ak,Option.some.injEq,Prod.mk.injEq]at h;exact same h.2.symm
 |assign x=>simp only[ak,Option.some.injEq,Prod.mk.injEq]at h;exact same h.2.symm
 |build t p=>simp only[ak,SO,Prod.mk.injEq]at h;obtain⟨_,_,_,rfl⟩:=h;exact same rfl
 |load t p=>simp only[ak,SO,Prod.mk.injEq]at h;obtain⟨_,_,_,rfl⟩:=h;exact same rfl
 |nilCheck p=>simp only[ak,SO,Prod.mk.injEq]at h;obtain⟨_,_,_,rfl⟩:=h;exact same rfl
 |binOp a b c d e=>simp only[ak,SO,Prod.mk.injEq]at h;obtain⟨_,_,_,rfl⟩:=h;exact same rfl
 |unOp a b c=>simp only[ak,SO,Prod.mk.injEq]at h;obtain⟨_,_,_,rfl⟩:=h;exact same rfl
 |convert a b c=>simp only[ak,SO,Prod.mk.injEq]at h;obtain⟨_,_,_,rfl⟩:=h;exact same rfl
 |index a b c=>simp only[ak,SO,Prod.mk.injEq]at h;obtain⟨_,_,_,rfl⟩:=h;exact same rfl
 |extract a b=>simp only[ak,SO,Prod.mk.injEq]at h;obtain⟨_,_,_,rfl⟩:=h;exact same rfl
 |_=>simp[ak]at h
end Go.Hx
namespace Go.Hx
variable {P:Program} {G:Nat->Option (List W9)} {Γ Γ':aC} {H H':Xn} {w w':World}
variable {k:Bool}{n:Nat}{cx:Value}
def AI {cells:List W9}(hx:Xc P Γ H w (.M n cells) cx):∃a m c,cx=.slice a m c/\(decide (0<n)=true->a.isNone=false):=by
 cases hx with
 |nq a cap=>exact⟨a,0,cap,rfl,fun hk=>by simp at hk⟩
 |M=>exact⟨_,_,_,rfl,fun _=>rfl⟩
def AJ {id g o z:Nat}(h:(match H.X id g with|some _=>some (decide (0<n))|none=>none)=some k)(hx:Xc P Γ H w (.Q id g o n z) cx):∃a m c,cx=.slice a m c/\(k=true->a.isNone=false):=by
 split at h
 ·rename_i ec hl;simp only[Option.some.injEq]at h;rcases jT (e:=ec.1) (cells:=ec.2) hx hl with ⟨b,base,m,a,cap,_,rfl,_,_,_⟩|⟨_,_,rfl,rfl⟩
  ·exact⟨_,_,_,rfl,fun _=>rfl⟩
  ·refine⟨_,_,_,rfl,fun hk=>?_⟩;rw[<- h]at hk;simp at hk
 ·cases h
def FW {op:BinOp}{x y:W9}{cy:Value}(h:kD H op x y=some k)(hx:Xc P Γ H w x cx)(hy:Xc P Γ H w y cy):
  (op=.eql\/op=.neq)/\cy=.slice none 0 0/\∃a n c,cx=.slice a n c/\(k=true->a.isNone=false):=by
 unfold kD at h;split at h
 ·cases hy;split at h
  ·simp only[Option.some.injEq]at h;rw[<- h];exact⟨.inl rfl,rfl,AI hx⟩
  ·exact⟨.inl rfl,rfl,AJ h hx⟩
  ·cases h
 ·cases hy;split at h
  ·simp only[Option.some.injEq]at h;rw[<- h];exact⟨.inr rfl,rfl,AI hx⟩
  ·exact⟨.inr rfl,rfl,AJ h hx⟩
  ·cases h
 ·cases h
def AK {t:TypeId}(ht:rP (P.underlying t)=true)(a:Option Addr)(n c:Nat):(Op.equal t (.slice a n c) (.slice none 0 0)).run P w=.ok a.isNone w:=by
 unfold rP at ht;split at ht
 ·rename_i e he;show (Op.equalIn (9999+1) t (.slice a n c) (.slice none 0 0)).run P w=_;unfold Op.equalIn;rw[au (cL he)];cases a<;>rfl
 ·cases ht
section
variable {n:Nat} {wb:XE} {rd rb:Option Nat} {Q:AX->St->Prop}
def AL {o:Oper}{K:St->Prop}{s:St}{a:Act}{A:Act->World->Prop}{Q':Exit->Act->World->Prop}(hd:fV n o=true)(hs:Xt P G n wb Γ s a w)(hr:dZ Γ s.H rd rb)(h:aY P G rd Q o K s)
  (hnext:∀ Γ' s' a' w',K s'->Xt P G n wb Γ' s' a' w'->Xk Γ s.H w Γ' s'.H w'->s.H.A<=s'.H.A->dZ Γ' s'.H rd rb->(∃cv,a'=a.put o.dst cv)->A a' w')
  (hq:∀ Γ' s' a' w' chain,Q .panic s'->xw chain->Xt P G n wb Γ' s' a' w'->Xk Γ s.H w Γ' s'.H w'->s.H.A<=s'.H.A->dZ Γ' s'.H rd rb->a'=a->Q' (.panic chain) a' w'):
  o.wpIn (eP rb) 0 P a w A Q':=by
 have hdst:∀d,o.dst=some d->d<n:=by
  intro d hd';unfold fV at hd;rw[hd']at hd;simpa using hd
 have plain:∀vH:W9 × Xn,ak P G s.ρ s.H s.H.A o.op=some vH->K ⟨aQ s.ρ o.dst vH.1,vH.2⟩->o.wpIn (eP rb) 0 P a w A Q':=by
  rintro⟨v,H'⟩ hop hk;refine⟨fun _ _=>trivial,?_⟩;rw[Oper.semAt_eq _ _ _ (fun c hc=>by rw[hc]at hop;simp[ak]at hop)];obtain⟨nx,cv,Γ',w',hrun,hnx,E,hn,R,hv⟩:=xu hs.heap (jb hs) hop;rw[hrun];have hri:=xy hr (xz hs.heap hop);have hs':=kE hs hdst E hn R hv;have hr':=hr.bb E hn hs.heap hri;rcases hnx with rfl|⟨rfl,rfl⟩
  ·exact hnext Γ' _ _ w' hk hs' E hn hr' ⟨_,rfl⟩
  ·exact hnext Γ' _ _ w' hk hs' E hn hr' ⟨_,rfl⟩
 unfold aY at h;split at h
 ·rename_i fv args ats hop;refine⟨fun _ _=>trivial,?_⟩;rw[Oper.semAt_eq _ _ _ (fun c hc=>by rw[hc]at hop;cases hop)];obtain⟨d,h1,h2⟩:=h Γ w (a.eval fv) (args.map a.eval) hs.heap (jb hs fv) ⟨W5,fun i h1 h2=>by simp only[S9,Vd,TW];exact jb hs _⟩;have hex:(execOp a.eval o).run P w=(invoke d.target d.args).run P w:=by
   unfold execOp;simp only[hop];unfold resolve;simp only;rw[au h1]
  have cont:∀e w',jc P G Γ s.H w (fun r H'=>fD H' rd/\match r with
    |.ret v=>K ⟨aQ s.ρ o.dst v,H'⟩
    |.panic=>Q .panic ⟨s.ρ,H'⟩) e w'->(match e with
     |.returned v=>A (a.put o.dst v) w'
     |.panicked chain=>Q' (.panic chain) a w'
     |.outgrown=>LetsOut Q'):=by
   rintro e w' ⟨r,H',Γ',hend,⟨hri,hk⟩,R,E,hn⟩;have hr':=hr.bb E hn hs.heap hri;cases e with
   |returned cv =>
    cases r with
    |ret v=>exact hnext Γ' _ _ w' hk (kE hs hdst E hn R hend) E hn hr' ⟨_,rfl⟩
    |panic=>exact hend.elim
   |panicked chain =>
    cases r with
    |ret v=>exact hend.elim
    |panic =>
     exact hq Γ' ⟨s.ρ,H'⟩ a w' chain hk hend ⟨hs.size,fun t=>(hs.env t).bb E hn,R,hs.defers.bb E,Tw hs.low E.size⟩ E hn hr' rfl
   |outgrown=>cases r<;>exact hend.elim
  rw[hex];rcases h2 with ⟨f,as,h3,h4⟩|⟨l,f,tm,asg,body,h3,h4⟩|⟨cv,w',h3,h4⟩
  ·rw[h3];refine⟨fun hc=>by simp[Fence.wide]at hc,?_⟩;have h4':CallsIn (eP rb) 0 P f as w _:=h4;refine h4'.mono ?_;intro e w' hp;have:=cont e w' hp;cases e<;>exact this
  ·rw[h3];refine⟨fun hc=>by simp[Fence.wide]at hc,?_⟩;have h4':RoundIn (eP rb) 0 P l f tm asg body w _:=h4;refine h4'.mono ?_;intro e w' hp;have:=cont e w' hp;cases e<;>exact this
  ·rw[h3];exact cont (.returned cv) w' h4
 ·rename_i x hop;obtain⟨⟨t,v,hx⟩,hk⟩:=h;refine⟨fun _ _=>trivial,?_⟩;rw[Oper.semAt_eq _ _ _ (fun c hc=>by rw[hc]at hop;cases hop)];have he:=jb hs x;rw[hx]at he;have hev:a.eval x=.iface t v:=by
   generalize a.eval x=y at he;cases he;rfl
  have hex:(execOp a.eval o).run P w=.halt (.panic (.iface t v)) w:=by
   unfold execOp;simp only[hop,hev];rfl
  rw[hex];exact hq Γ s a w _ hk ⟨t,v,rfl⟩ hs (Xk.refl _ _ _) W8 hr rfl
 ·rename_i op t x y u hop;unfold rQ at h;split at h
  ·rename_i k hk;obtain⟨ht,hall⟩:=h;obtain⟨hor,hcy,sa,sn,sc,hcx,hsome⟩:=FW hk (jb hs x) (jb hs y);refine⟨fun _ _=>trivial,?_⟩;rw[Oper.semAt_eq _ _ _ (fun c hc=>by rw[hc]at hop;cases hop)];have hex:(execOp a.eval o).run P w=.ok (.value (.bool (if op == .neq then !sa.isNone else sa.isNone))) w:=by
    unfold execOp;simp only[hop,hcx,hcy];rcases hor with rfl|rfl
    ·have h1:(eqGuard .eql t x y (.slice sa sn sc) (.slice none 0 0)).run P w=.ok () w:=rfl;have h2:(binOp .eql t (.slice sa sn sc) (.slice none 0 0)).run P w=.ok (.bool sa.isNone) w:=by
      show ((Op.equal t (.slice sa sn sc) (.slice none 0 0)) >>= fun b=>pure (Value.bool b)).run P w=_;rw[au (AK ht sa sn sc)];rfl
     have h3:(do eqGuard .eql t x y (.slice sa sn sc) (.slice none 0 0);binOp .eql t (.slice sa sn sc) (.slice none 0 0)).run P w=.ok (.bool sa.isNone) w:=(by rw[au h1];exact h2);rw[au h3];rfl
    ·have h1:(eqGuard .neq t x y (.slice sa sn sc) (.slice none 0 0)).run P w=.ok () w:=rfl;have h2:(binOp .neq t (.slice sa sn sc) (.slice none 0 0)).run P w=.ok (.bool (!sa.isNone)) w:=by
      show ((Op.equal t (.slice sa sn sc) (.slice none 0 0)) >>= fun b=>pure (Value.bool !b)).run P w=_;rw[au (AK ht sa sn sc)];rfl
     have h3:(do eqGuard .neq t x y (.slice sa sn sc) (.slice none 0 0);binOp .neq t (.slice sa sn sc) (.slice none 0 0)).run P w=.ok (.bool (!sa.isNone)) w:=(by rw[au h1];exact h2);rw[au h3];rfl
   rw[hex];exact hnext Γ _ _ w (hall sa.isNone hsome) (kE hs hdst (Xk.refl _ _ _) W8 hs.heap (.lit _)) (Xk.refl _ _ _) W8 hr ⟨_,rfl⟩
  ·obtain⟨vH,hop',hk⟩:=h;exact plain vH (by rw[hop];exact hop') hk
 ·obtain⟨vH,hop,hk⟩:=h;exact plain vH hop hk
def qi {a:Act}{all:Array Oper}{i:Nat}(hi:i<all.size)(cv:Value):Fr (fun t=>all.toList.any fun o=>o.dst == some t) a (a.put all[i].dst cv):=by
 intro t ht;simp only[Vv]at ht;have:=ht all[i] W5;cases hd:all[i].dst with
 |none=>rfl
 |some d =>
  simp only[Act.put];rw[TQ,SQ];intro hdt;rw[hd,hdt]at this;simp at this
def FX {id:Nat}{dr:Bool}{all:Array Oper}(hfit:∀o,o∈all.toList->fV n o=true):∀(is:List Nat) (s:St) (Γ:aC) (a:Act) (w:World),(∀i,i∈is->i<all.size) ->
  opsV P G rd Q all (is.filterMap fun i=>all[i]?) s->Xt P G n wb Γ s a w->dZ Γ s.H rd rb ->
  ∀(Q':Exit->Act->World->Prop),(∀e a' w',iy P G n wb rd rb (wr (.region id all dr)) Γ s.H a w Q e a' w'->Q' e a' w')->wpOpsIn (eP rb) 0 P all Q' is a w:=by
 intro is
 induction is with
 |nil =>
  intro s Γ a w _ h hs hr Q' hq;exact hq _ _ _ (.here (x:=.normal) trivial h hs hr)
 |cons i is ih =>
  intro s Γ a w hi h hs hr Q' hq;have hlt:=hi i W5;have ho:all[i]?=some all[i]:=S6 hlt;simp only[W1,ho]at h;unfold wpOpsIn;rw[ho];simp only;obtain⟨t,ht,h⟩:=h;rw[qh hs ht];have hd:=hfit all[i] W5;cases t with
  |true =>
   simp only[if_true]at h ⊢;refine AL hd hs hr h ?_ ?_
   ·rintro Γ' s' a' w' hk hs' E hn hr' ⟨cv,rfl⟩;exact ih s' Γ' _ w' (fun j hj=>hi j (by simp[hj])) hk hs' hr' Q' fun e a'' w'' hp=>hq _ _ _ (hp.step E hn (qi hlt cv) fun _ h=>h)
   ·rintro Γ' s' a' w' chain hp hc hs' E hn hr' rfl;exact hq _ _ _ ⟨.panic,s',Γ',hc,hp,hs',E,hn,hr',.refl _ _⟩
  |false =>
   simp only[Bool.false_eq_true,if_false]at h ⊢;refine⟨fun _ _=>trivial,?_⟩;have hdst:∀d,all[i].dst=some d->d<n:=by
    intro d hd';unfold fV at hd;rw[hd']at hd;simpa using hd
   have hs':=kE (v:=.lit undef) (cv:=undef) hs hdst (Xk.refl Γ s.H w) W8 hs.heap (.lit _);exact ih ⟨aQ s.ρ all[i].dst (.lit undef),s.H⟩ Γ _ w (fun j hj=>hi j (by simp[hj])) h hs' hr Q' fun e a'' w'' hp=>hq _ _ _ (hp.step (Xk.refl _ _ _) W8 (qi hlt _) fun _ h=>h)
def FY {α:Type}(l:List α):(List.range l.length).filterMap (fun i=>l[i]?)=l:=by
 induction l with
 |nil=>rfl
 |cons x xs ih =>
  rw[List.length_cons,WA,W1];simp only[List.getElem?_cons_zero];rw[List.filterMap_map];congr 1
theorem W.region {id:Nat}{ops:Array Oper}{s:St}(hfit:ops.toList.all (fV n)=true)(h:opsV P G rd Q ops ops.toList s):W P G n rd (.region id ops false) Q s:=by
 intro wb Γ a w rb hs hr;refine wpIn_region (FX (id:=id) (dr:=false) (fun o ho=>Tn.1 hfit o ho) _ s Γ a w (fun i hi=>S7.1 hi) ?_ hs hr _ fun _ _ _ hp=>hp);have:(List.range ops.size).filterMap (fun i=>ops[i]?)=ops.toList:=by
  have:=FY ops.toList;simpa using this
 rw[this];exact h
def rR {b:Frame}{a:Act}{k:List Item}{cs:List Frame}{c:Code}:
  step P (lone (b.atR a (.code (.scope c) :: k)) cs w)=.next (lone (b.atR a (.code c :: .inScope c :: k)) cs w) :=
 step_lone_go (by simp[stepG,stepG.exec,Frame.atR])
def FZ {b:Frame}{a:Act}{k:List Item}{cs:List Frame}{c:Code}:
  step P (lone (b.atR a (.inScope c :: k)) cs w)=.next (lone (b.atR a k) cs w) :=
 step_lone_go (by simp[stepG,stepG.exec,Frame.atR])
def noGoto (Q:AX->St->Prop):AX->St->Prop
 |.goto _,_=>False
 |x,s=>Q x s
theorem W.scope {c:Code}{s:St}(h:W P G n rd c (noGoto Q) s):W P G n rd (.scope c) Q s:=by
 intro wb Γ a w rb hs hr b k cs hro hb hrm;have h0:(lone (b.atR a (.code (.scope c) :: k)) cs w).fenced P (eP rb):=fenced_calm hb hrm rfl;obtain⟨e,a',w',hp,harr⟩:=h wb Γ a w rb hs hr b (.inScope c :: k) cs hro hb hrm;obtain⟨x,s',Γ',hx,hq,hrest⟩:=hp;cases e with
 |normal =>
  cases x with
  |normal=>exact⟨.normal,a',w',⟨.normal,s',Γ',hx,hq,hrest⟩,.head h0 rR (StepsIn.trans harr (.one (fenced_calm hb hrm rfl) FZ))⟩
  |_=>exact hx.elim
 |exit i =>
  cases x with
  |exit j =>
   have hk:exitTo i (.inScope c :: k)=exitTo i k:=(by simp[exitTo]);exact⟨.exit i,a',w',⟨.exit j,s',Γ',hx,hq,hrest⟩,fun k' hk'=>.head h0 rR (harr.1 k' (by rw[hk];exact hk')),
    fun hr' hk'=>let ⟨k₁,h1,h2⟩:=harr.2 hr' (by rw[hk];exact hk');⟨k₁,h1,.head h0 rR h2⟩⟩
  |_=>exact hx.elim
 |goto i=>cases x with
  |goto j=>exact hq.elim
  |_=>exact hx.elim
 |ret=>cases x with
  |ret=>exact⟨.ret,a',w',⟨.ret,s',Γ',hx,hq,hrest⟩,.of_steps (.one h0 rR) harr⟩
  |_=>exact hx.elim
 |panic ch=>cases x with
  |panic=>exact⟨.panic ch,a',w',⟨.panic,s',Γ',hx,hq,hrest⟩,.of_steps (.one h0 rR) harr⟩
  |_=>exact hx.elim
 |outgrown=>cases x<;>exact hx.elim
end
def iS (t:Bool)(p q:Prop)(_d:TagP p q:=.mk):Prop:=(t=true->p)/\(t=false->q)
def vc (P:Program)(G:Nat->Option (List W9))(n:Nat)(rd:Option Nat):Code->(AX->St->Prop)->St->Prop
 |.skip,Q,s=>Q .normal s
 |.label _,Q,s=>Q .normal s
 |.region _ ops false,Q,s=>opsV P G rd Q ops ops.toList s
 |.region id ops true,Q,s=>W P G n rd (.region id ops true) Q s
 |.seq a b,Q,s=>vc P G n rd a (kC (vc P G n rd b Q) Q) s
 |.cond c a b,Q,s=>bh (match aw G s.ρ c with|.lit (.bool t)=>some t|_=>none) fun t=>iS t (vc P G n rd a Q s) (vc P G n rd b Q s)
 |.block id c,Q,s=>vc P G n rd c (mw id Q) s
 |.loop c,Q,s=>W P G n rd (.loop c) Q s
 |.rangeFunc f ps asg body,Q,s=>W P G n rd (.rangeFunc f ps asg body) Q s
 |.exit id,Q,s=>Q (.exit id) s
 |.scope c,Q,s=>vc P G n rd c (noGoto Q) s
 |.goto l,Q,s=>Q (.goto l) s
 |.ret,Q,s=>Q .ret s
 |.refuse _,_,_=>False
def fits (n:Nat):Code->Bool
 |.region _ ops _=>ops.toList.all (fV n)
 |.seq a b|.cond _ a b|.rangeFunc _ _ a b=>fits n a && fits n b
 |.block _ c|.loop c|.scope c=>fits n c
 |_=>true
def tT {n:Nat}{rd:Option Nat}:∀(c:Code) (Q:AX->St->Prop) (s:St),fits n c=true->vc P G n rd c Q s->W P G n rd c Q s:=by
 intro c
 induction c with
 |skip=>exact fun Q s _ h=>.skip h
 |label l=>exact fun Q s _ h=>.label h
 |region id ops d =>
  intro Q s hf h;cases d with
  |false=>exact .region hf h
  |true=>exact h
 |seq a b iha ihb =>
  intro Q s hf h;simp only[fits,Tv]at hf;refine W.seq ((iha _ s hf.1 h).mono fun x s' hx=>?_);cases x with
  |normal=>exact ihb Q s' hf.2 hx
  |_=>exact hx
 |cond c a b iha ihb =>
  intro Q s hf h;simp only[fits,Tv]at hf;obtain⟨t,ht,h1,h2⟩:=h;split at ht
  ·rename_i t' hc;simp only[Option.some.injEq]at ht;subst ht;refine W.cond hc ?_;cases t' with
   |true=>exact iha Q s hf.1 (h1 rfl)
   |false=>exact ihb Q s hf.2 (h2 rfl)
  ·cases ht
 |block id c ih=>exact fun Q s hf h=>.block (ih _ s hf h)
 |loop c _=>exact fun Q s _ h=>h
 |rangeFunc=>exact fun Q s _ h=>h
 |exit id=>exact fun Q s _ h=>.exit h
 |scope c ih=>exact fun Q s hf h=>.scope (ih _ s hf h)
 |goto l=>exact fun Q s _ h=>.goto h
 |ret=>exact fun Q s _ h=>.ret h
 |refuse why=>exact fun Q s _ h=>h.elim
def W.vs {n:Nat}{rd:Option Nat}{c:Code}{Q:AX -> St -> Prop}{s:St}(h:vc P G n rd c Q s)(hf:fits n c=true := by rfl):W P G n rd c Q s := tT c Q s hf h
def W.sq {n:Nat}{rd:Option Nat}{x y:Code}{Q:AX -> St -> Prop}{s:St}(h:vc P G n rd x (kC (W P G n rd y Q) Q) s)(hf:fits n x=true := by rfl):W P G n rd (.seq x y) Q s := W.seq (tT x _ s hf h)
end Go.Hx
namespace Go.Hx
variable {P:Program} {G:Nat->Option (List W9)} {Γ Γ':aC} {H H':Xn} {w w':World}
variable {tmps:Array Value}{c:Code}{ρ:Env}{fn:Func}{f:FuncId}{rs:List ResultVar}{args:List W9}{n r:Nat}{o:Obj}{x:Option (List Deferred)}{v:W9}{w₀:World}{K:Xd → Xn → Prop}{H₀:Xn}{Γ₀:aC}
def AM (hr:w.heap[r]?=some (.deferred x))(o:Obj)(ho:∀c e f,o≠.cells c e f)(b i:Nat):(bO w r o).cell? ⟨b,i,none⟩=w.cell? ⟨b,i,none⟩:=by
 simp only[World.cell?,eF];by_cases h:b=r/\r<w.heap.size
 ·rw[SU h,h.1,hr];cases o<;>first|rfl|exact absurd rfl (ho _ _ _)
 ·rw[SQ h]
def Xc.closed {cv:Value}(hr:w.heap[r]?=some (.deferred x))(ho:∀c e f,o≠.cells c e f)(h:Xc P Γ H w v cv):Xc P Γ H (bO w r o) v cv:=by
 induction h with
 |lit v=>exact .lit v
 |nq a cap=>exact .nq a cap
 |M hb hlt hlen hcs hcell hrel ih=>exact .M hb (by rw[jP];exact hlt) hlen hcs (fun i hi=>(AM hr o ho _ _).trans (hcell i hi)) ih
 |Q h=>exact .Q h
 |R h=>exact .R h
 |nf hb hlt hcs hcell hrel ih=>exact .nf hb (by rw[jP];exact hlt) hcs (fun i hi=>(AM hr o ho _ _).trans (hcell i hi)) ih
 |agg hcs hrel ih=>exact .agg hcs ih
 |na hcs hrel ih=>exact .na hcs ih
 |Z hfs hcs hf hc ih1 ih2=>exact .Z hfs hcs ih1 ih2
 |ni h=>exact .ni h
theorem Xh.closed (R:Xh P G Γ H w)(hr:w.heap[r]?=some (.deferred x))(hown:¬ Γ.gZ r)(ho:∀c e f,o≠.cells c e f):Xh P G Γ H (bO w r o) where
 J id g e cells hg:=by
  have h1:=R.J id g e cells hg;cases hΓ:Γ id with
  |none=>rw[hΓ]at h1;exact h1
  |some y =>
   obtain⟨b,base,n⟩:=y;rw[hΓ]at h1;obtain⟨c,a1,a2,a3,a4⟩:=h1;refine⟨c,?_,a2,a3,fun i hi=>let ⟨cv,b1,b2⟩:=a4 i hi;⟨cv,b1,b2.closed hr ho⟩⟩;rw[eF,SQ]
   ·exact a1
   ·rintro⟨rfl,_⟩;exact hown ⟨id,base,n,hΓ⟩
 loop id st pend n env ps asg body hg:=by
  obtain⟨b,rr,a1,a2,a3,a4,a5,a6,a7,a8,a9⟩:=R.loop id st pend n env ps asg body hg;refine⟨b,rr,a1,?_,a3,a4,a5,a6,a7,a8,fun t ht=>(a9 t ht).closed hr ho⟩;rw[eF,SQ]
  ·exact a2
  ·rintro⟨rfl,_⟩;exact hown ⟨id,0,0,a1⟩
 mp id es hg:=by
  obtain⟨b,a1,a2⟩:=R.mp id es hg;refine⟨b,a1,?_⟩;rw[eF,SQ]
  ·exact a2
  ·rintro⟨rfl,_⟩;exact hown ⟨id,0,0,a1⟩
 nm:=R.nm
 inj:=R.inj
 nD:=R.nD
 lt id b base n h:=by rw[jP];exact R.lt id b base n h
 A:=R.A
 nC g cells h:=(R.nC g cells h).closed hr ho
 gsz g cells h:=by
  obtain⟨c,e,f,h1,h2⟩:=R.gsz g cells h;refine⟨c,e,f,?_,h2⟩;rw[eF,SQ]
  ·exact h1
  ·rintro⟨rfl,_⟩;rw[hr]at h1;cases h1
def Xk.closed (E:Xk Γ₀ H₀ w₀ Γ H w)(hx:w.heap[r]?=some (.deferred x))(hr:w₀.heap.size<=r)(o:Obj)(ho:∀c e f,o≠.cells c e f):Xk Γ₀ H₀ w₀ Γ H (bO w r o) where
 os:=E.os
 tape:=E.tape
 output:=E.output
 size:=by rw[jP];exact E.size
 nb b hb ho:=by
  obtain⟨h1,h2⟩:=E.nb b hb ho;refine⟨?_,h2⟩;rw[eF,SQ O];exact h1
 X:=E.X
 ny a ha:=(ry hx (fun _ _ _ h=>by cases h) (fun c e f h=>absurd h (ho c e f)) a).trans (E.ny a ha)
 kind:=E.kind.trans (wM hx fun _ _ _ h=>by cases h)
 newb:=E.newb
def F1 {R:Ending->World->Prop}{u:FrameMode}(hu:u≠.run):∀(ds:List Deferred) (w:World),
  (∀d,d∈ds->∃r,d={ target:=.collected r,args:=#[] }/\w₀.heap.size<=r/\ru Γ w r)->ds.Pairwise (fun d e=>d.target≠e.target) ->
  Xh P G Γ H w->(∀t,Xc P Γ H w (ρ t) (tmps.getD t undef))->Xk Γ₀ H₀ w₀ Γ H w ->
  (∀w',Xh P G Γ H w'->(∀t,Xc P Γ H w' (ρ t) (tmps.getD t undef))->Xk Γ₀ H₀ w₀ Γ H w'->LeavesIn Fence.wide 0 P fn tmps R [] u w') ->
  LeavesInM Fence.wide 0 P fn tmps R ds u w:=by
 intro ds
 induction ds with
 |nil=>intro w _ _ R0 he E h;exact h w R0 he E
 |cons d ds ih =>
  intro w hd hp R0 he E h;obtain⟨r,rfl,hle,hown,hblk⟩:=hd d W5;have ho:∀c e f,Obj.deferred none≠.cells c e f:=fun _ _ _ h=>by cases h
  refine⟨hu,.inl ⟨r,bO w r (.deferred none),rfl,?_,?_⟩⟩
  ·unfold Instr.takeDeferred;have hg:(getObj r).run P w=.ok (.deferred (some [])) w:=(by simp[getObj,Sem.run,hblk]);rw[au hg];simp only;have hset:(setObj r (.deferred none)).run P w=.ok () (bO w r (.deferred none)):=(by simp[setObj,Sem.run,hblk,bO]);rw[au hset];rfl
  ·refine ih _ (fun e he'=>?_) (V5.1 hp).2 (R0.closed hblk hown ho) (fun t=>(he t).closed hblk ho) (E.closed hblk hle _ ho) h;obtain⟨r',rfl,hle',hown',hblk'⟩:=hd e (by simp[he']);refine⟨r',rfl,hle',hown',?_⟩;rw[eF,SQ]
   ·exact hblk'
   ·rintro⟨rfl,_⟩;exact(V5.1 hp).1 _ he' rfl
def F2 {t:TypeId}{a:W9}{ca:Value}(R:Xh P G Γ H w)(h:g9 P H t a=some v)(ha:Xc P Γ H w a ca):
  ∃ad cv,ca=.pointer (some ad)/\(loadVar t ad).run P w=.ok cv w/\Xc P Γ H w v cv:=by
 have h0:=h;unfold g9 at h;split at h
 ·rename_i id gen off;split at h
  ·rename_i g e cells hg;split at h
   ·rename_i hgg;have hl:H.X id gen=some (e,cells):=(by simp[Xn.X,hg,hgg]);obtain⟨b,base,n,hΓ,rfl⟩:=qa ha hl;obtain⟨cv,h1,h2⟩:=tK h (rF R hl hΓ);exact⟨_,cv,rfl,h1,h2⟩
   ·cases h
  ·cases h
 ·rename_i cells off;cases ha with
  |nf hb hlt hcs hcell hrel =>
   obtain⟨cv,h1,h2⟩:=tK h ⟨_,hcs,hcell,hrel⟩;exact⟨_,cv,rfl,h1,h2⟩
 ·cases h
def ia (P:Program)(H:Xn)(ρ:Env):List ResultVar->Option (List W9)
 | []=>some []
 |.tmp t :: r=>(ia P H ρ r).map (ρ t :: ·)
 |.cell a t :: r=>(g9 P H t (ρ a)).bind fun v=>(ia P H ρ r).map (v :: ·)
def nI:List W9->W9
 | [v]=>v
 |vs=>.na vs
def qj (tmps:Array Value):ResultVar->Sem Value
 |.tmp t=>pure (tmps.getD t undef)
 |.cell a t=>do loadVar t (<- asAddr (tmps.getD a undef))
def F3 (R:Xh P G Γ H w)(he:∀t,Xc P Γ H w (ρ t) (tmps.getD t undef)):∀(rs:List ResultVar) (vs:List W9),ia P H ρ rs=some vs ->
  ∃cs:List Value,(rs.mapM (qj tmps)).run P w=.ok cs w/\cs.length=vs.length/\∀i (_:i<vs.length) (_:i<cs.length),Xc P Γ H w vs[i] cs[i]:=by
 intro rs
 induction rs with
 |nil =>
  intro vs h;simp only[ia,Option.some.injEq]at h;subst h;exact⟨[],rfl,rfl,fun i h _=>absurd h (Tb _)⟩
 |cons rv rs ih =>
  intro vs h;have cons:∀(v:W9) (cv:Value) (vs':List W9),(qj tmps rv).run P w=.ok cv w->Xc P Γ H w v cv->ia P H ρ rs=some vs'->∃cs:List Value,((rv :: rs).mapM (qj tmps)).run P w=.ok cs w /\
    cs.length=(v :: vs').length/\∀i (_:i<(v :: vs').length) (_:i<cs.length),Xc P Γ H w (v :: vs')[i] cs[i]:=by
   intro v cv vs' hm hv hr;obtain⟨cs,h1,h2,h3⟩:=ih vs' hr;refine⟨cv :: cs,?_,by simp[h2],fun i a b=>?_⟩
   ·rw[List.mapM_cons,au hm,au h1];rfl
   ·cases i with
    |zero=>exact hv
    |succ i=>exact h3 i (by simpa using a) (by simpa using b)
  cases rv with
  |tmp t =>
   simp only[ia,SO]at h;obtain⟨vs',h1,rfl⟩:=h;exact cons (ρ t) _ vs' rfl (he t) h1
  |cell a t =>
   simp only[ia,SW,SO]at h;obtain⟨v,hv,vs',h1,rfl⟩:=h;obtain⟨ad,cv,ha,hl,hr⟩:=F2 R hv (he a);refine cons v cv vs' ?_ hr h1;simp only[qj,ha];have:(asAddr (.pointer (some ad))).run P w=.ok ad w:=rfl;rw[au this];exact hl
def F4 (fn:Func)(tmps:Array Value):results fn tmps=(do let vs <- fn.results.mapM (qj tmps);pure (if h:vs.size=1 then vs[0] else .tuple vs)):=by
 unfold results;congr 1
def F5 {vs:List W9}(R:Xh P G Γ H w)(he:∀t,Xc P Γ H w (ρ t) (tmps.getD t undef))(h:ia P H ρ fn.results.toList=some vs):
  ∃cv,(results fn tmps).run P w=.ok cv w/\Xc P Γ H w (nI vs) cv:=by
 obtain⟨cs,h1,h2,h3⟩:=F3 R he _ _ h;have hm:(fn.results.mapM (qj tmps)).run P w=.ok cs.toArray w:=by
  rw[Wx,Sem.run_map,h1];rfl
 rw[F4,au hm]
 match vs,cs,h2,h3 with
 | [v],[c],_,h3=>exact⟨c,rfl,h3 0 W5 W5⟩
 | [],[],_,h3=>exact⟨_,rfl,.na (cs:=[]) rfl h3⟩
 |v :: v' :: vs,c :: c' :: cs,h2,h3 =>
  refine⟨.tuple (c :: c' :: cs).toArray,?_,.na h2 h3⟩;have hne:¬(c :: c' :: cs).toArray.size=1:=W5
  rw[dif_neg hne];rfl
def oV (P:Program)(G:Nat->Option (List W9))(H:Xn)(v:W9)(H':Xn)(v':W9):Prop :=
 ∀ Γ w,Xh P G Γ H w->∃ Γ',Xh P G Γ' H' w/\Xk Γ H w Γ' H' w/\∀cv,Xc P Γ H w v cv->Xc P Γ' H' w v' cv
def ar (P:Program)(G:Nat->Option (List W9))(H₀:Xn)(K:Xd->Xn->Prop)(v:W9)(H:Xn):Prop :=
 ∃v' H',oV P G H v H' v'/\H₀.A<=H'.A/\K (.ret v') H'
theorem oV.refl (H:Xn)(v:W9):oV P G H v H v:=fun Γ _ R=>⟨Γ,R,Xk.refl _ _ _,fun _ h=>h⟩
def ar.mk {K:Xd->Xn->Prop}{H:Xn}(hn:H₀.A<=H.A)(hk:K (.ret v) H):ar P G H₀ K v H:=⟨v,H,oV.refl H v,hn,hk⟩
def qk (P:Program)(G:Nat->Option (List W9))(rs:List ResultVar)(H₀:Xn)(K:Xd->Xn->Prop):AX->St->Prop
 |.normal,s|.ret,s=>bh (ia P s.H s.ρ rs) fun vs=>ar P G H₀ K (nI vs) s.H
 |.panic,s=>∃H',oV P G s.H (.lit undef) H' (.lit undef)/\H₀.A<=H'.A/\K .panic H'
 |_,_=>False
def iz (args:List W9):Env:=fun t=>(args[t]?).getD (.lit undef)
def ae.AN        (hf : P.funcs[f]? = some fn) (hb : fn.body = some c) (hres : fn.results.toList = rs) (hnt : fn.ntmps = n) (hname : (fn.name == "runtime.NumGoroutine") = false)
  (hargs:args.length<=n) (hW:W P G n none c (qk P G rs H K) ⟨iz args,H⟩):ae P G f args H K:=by
 subst hres;subst hnt;refine⟨⟨fn,hf,by rw[hb];rfl,hname⟩,fun Γ w cargs R hr=>?_⟩;refine callsIn_of_wp_marks hf hb trivial ?_;have hs:Xt P G fn.ntmps ⟨w.heap.size,[]⟩ Γ ⟨iz args,H⟩ { tmps:=cargs++Array.replicate (fn.ntmps-cargs.size) undef,defers:=[] } w:=by
  refine⟨by have:=hr.1;simp;omega,fun t=>?_,R,⟨[],rfl,Marks.nil⟩,W8⟩;have hsz:=hr.1;by_cases ht:t<args.length
  ·have h1:(cargs++Array.replicate (fn.ntmps-cargs.size) undef).getD t undef=cargs[t]' O:=by
    simp only[TK];rw[Ws O,S6 O];rfl
   have h2:iz args t=args[t]:=by
    unfold iz;rw[SP ht];rfl
   rw[h1];show Xc P Γ H w (iz args t) _;rw[h2];exact hr.2 t ht (O)
  ·have h1:(cargs++Array.replicate (fn.ntmps-cargs.size) undef).getD t undef=undef:=by
    simp only[TK];rw[Array.getElem?_append_right O,Vp];split<;>rfl
   have h2:iz args t=.lit undef:=by
    unfold iz;rw[SX O];rfl
   rw[h1];show Xc P Γ H w (iz args t) _;rw[h2];exact .lit _
 refine wpIn_mono (hW ⟨w.heap.size,[]⟩ Γ _ w none hs rfl) ?_;rintro e a' w' ⟨x,s',Γ',hx,hq,hs',E,hn,_,_⟩;have leave:∀(u:FrameMode) (Q:World->Prop),u≠.run->(∀w'',Xh P G Γ' s'.H w''->(∀t,Xc P Γ' s'.H w'' (s'.ρ t) (a'.tmps.getD t undef))->Xk Γ H w Γ' s'.H w''->LeavesIn Fence.wide 0 P fn a'.tmps (jc P G Γ H w K) [] u w'') ->
   LeavesInM Fence.wide 0 P fn a'.tmps (jc P G Γ H w K) a'.defers u w' :=
  fun u _ hu hfin=>by
   obtain⟨m,hm,hmarks⟩:=hs'.defers;rw[hm,List.append_nil];exact F1 hu m w' hmarks.1 hmarks.2 hs'.heap hs'.env E hfin
 have normal:bh (ia P s'.H s'.ρ fn.results.toList) (fun vs=>ar P G H K (nI vs) s'.H)->LeavesInM Fence.wide 0 P fn a'.tmps (jc P G Γ H w K) a'.defers .returning w':=by
  rintro⟨vs,hvs,v',H',hw,hn',hk⟩;refine leave .returning (fun _=>True) W5 fun w'' R'' he'' E''=>?_;obtain⟨cv,h1,h2⟩:=F5 R'' he'' hvs;obtain⟨Γ'',R3,E3,hv3⟩:=hw Γ' w'' R'';exact⟨cv,h1,.ret v',H',Γ'',hv3 cv h2,hk,R3,E''.trans hn E3,hn'⟩
 cases e with
 |normal=>cases x with
  |normal=>exact normal hq
  |_=>exact hx.elim
 |ret=>cases x with
  |ret=>exact normal hq
  |_=>exact hx.elim
 |panic chain=>cases x with
  |panic =>
   obtain⟨H',hw,hn',hk⟩:=hq;refine leave (.panicking chain) (fun _=>True) W5 fun w'' R'' he'' E''=>?_;obtain⟨Γ'',R3,E3,_⟩:=hw Γ' w'' R'';exact⟨.panic,H',Γ'',hx,hk,R3,E''.trans hn E3,hn'⟩
  |_=>exact hx.elim
 |exit i=>cases x with
  |exit j=>exact hq.elim
  |_=>exact hx.elim
 |goto i=>cases x with
  |goto j=>exact hq.elim
  |_=>exact hx.elim
 |outgrown=>cases x<;>exact hx.elim
def ae.F6        (hf : P.funcs[f]? = some fn) (hb : fn.body = some c) (hres : fn.results.toList = rs) (hnt : fn.ntmps = n) (hname : (fn.name == "runtime.NumGoroutine") = false)
  (hfit:fits n c=true) (hargs:args.length<=n) (h:vc P G n none c (qk P G rs H K) ⟨iz args,H⟩):ae P G f args H K :=
 .AN hf hb hres hnt hname hargs (tT c _ _ hfit h)
end Go.Hx
