/-
  Abstract values, abstract heaps, and how they stand to the model's values and worlds. Own work: no program stands in this text.
-/
import Derived.RangeFuncLeaves
import Derived.KernelRfl
import Derived.Wp
import Derived.Laws.Cells
import Derived.Laws.Entries
import Derived.IntWalk
import Derived.Laws.BytesString
set_option linter.all false
namespace Go
def SE:=@List.mem_of_getElem?
def SF:=@Go.IntWalk.i64_in
def SG:=@Option.map_eq_some_iff
def SH:=@List.take_of_length_le
def SI:=@if_neg
def SJ:=@List.getElem?_eq_getElem
def SK:=@if_pos
def SL:=@Option.bind_eq_some_iff
def SM:=@List.length_map
def SN:=@List.length_take
def SO:=@List.length_set
def SP:=@List.eq_nil_of_length_eq_zero
def SQ:=@List.getElem?_eq_none
def SR:=@Int.eq_ofNat_of_zero_le
def SU:=@List.getElem?_append_left
def SV:=@List.getElem_map
def SW:=@List.mem_iff_getElem?
def SX:=@List.getElem?_set_self
def SY:=@List.mem_map
def SZ:=@List.getElem?_append_right
def S1:=@Nat.lt_of_lt_of_le
def S2:=@List.getD_eq_getElem?_getD
def S3:=@List.getElem?_set_ne
def S4:=@Nat.not_lt_zero
def S5:=@List.mem_append
def S6:=@List.length_replicate
def S7:=@Array.getElem?_eq_getElem
def S8:=@List.mem_of_mem_take
def S9:=@Nat.lt_or_ge
def Ta:=@Int.tmod_eq_emod_of_nonneg
def Tb:=@Int.mul_le_mul_of_nonneg_left
def Tc:=@List.getElem?_range
def Td:=@List.all_eq_true
def Te:=@Nat.pow_le_pow_right
def Tf:=@List.getElem?_take_of_lt
def Tg:=@List.mem_or_eq_of_mem_set
def Th:=@List.map_congr_left
def Ti:=@List.ext_getElem?
def Tj:=@List.getElem?_eq_some_iff
def Tk:=@List.getElem_mem
def Tl:=@List.take_append_drop
def Tm:=@decide_eq_true
def Tn:=@List.mem_range
def To:=@List.set_append_right
def Tp:=@List.getElem_cons_zero
def Tq:=@List.map_append
def Tr:=@List.eq_of_mem_replicate
def Ts:=@List.foldl_cons
def Tt:=@Nat.le_trans
def Tu:=@List.length_drop
def Tv:=@Option.isSome_iff_exists
def Tw:=@Int.tdiv_eq_ediv_of_nonneg
def Tx:=@List.zip_cons_cons
def Ty:=@Classical.byContradiction
def Tz:=@List.zip_nil_right
def TA:=@Array.getElem?_setIfInBounds
def TB:=@List.drop_eq_getElem_cons
def TC:=@List.take_length
def TD:=@decide_eq_false
def TE:=@Array.getD_eq_getD_getElem?
def TF:=@List.set_eq_of_length_le
def TG:=@Nat.eq_zero_or_pos
def TH:=@List.getElem?_replicate
def TI:=@List.replicate_succ
def TJ:=@Int.mul_le_mul
def TK:=@List.length_range
def TL:=@List.getElem_append_left
def TM:=@List.getElem?_set
def TN:=@List.getElem?_drop
def TO:=@Int.emod_lt_of_pos
def TP:=@Int.emod_nonneg
def TQ:=@Bool.and_eq_true
def TR:=@List.getElem_append_right
def TS:=@List.foldl_nil
def TT:=@List.foldl_append
def TU:=@Nat.mul_le_mul_right
def TV:=@Array.getElem_toList
def TW:=@Bool.eq_false_or_eq_true
def TX:=@Nat.pow_succ
def TY:=@Nat.min_eq_left
def TZ:=@List.range_succ
def T0:=@List.length_singleton
def T1:=@List.length_pos_iff
def T2:=@Nat.add_mul
def T3:=@List.mem_of_mem_drop
def T4:=@Int.pow_succ
def T5:=@List.getElem_cons_succ
def T6:=@Array.getElem?_eq_none
def T7:=@Bool.or_eq_true
def T8:=@Int.mul_nonneg
def T9:=@Nat.zero_testBit
def Ua:=@Array.getElem?_eq_some_iff
def Ub:=@Nat.mul_le_mul_left
def Uc:=@Nat.le_succ
def Ud:=@List.getElem?_eq_none_iff
def Ue:=@Go.IntWalk.u64_in
def Uf:=@Int.mul_comm
def Ug:=@Int.add_zero
def Uh:=@List.mem_flatten
def Ui:=@Nat.pow_lt_pow_right
def Uj:=@Nat.div_lt_of_lt_mul
def Uk:=@Nat.add_assoc
def Ul:=@Nat.testBit_or
def Um:=@List.map_set
def Un:=@List.getElem_take
def Uo:=@List.getElem?_inj
def Up:=@Nat.testBit_two_pow_sub_one
def Uq:=@Nat.lt_of_not_le
def Ur:=@List.getElem_set
def Us:=@List.countP_cons
def Ut:=@Nat.sub_self
def Uu:=@Nat.mul_assoc
def Uv:=@List.sum_cons
def Uw:=@List.drop_drop
def Ux:=@Nat.eq_of_testBit_eq
def Uy:=@List.pairwise_append
def Uz:=@List.getElem?_zipIdx
def UA:=@List.map_const'
def UB:=@Nat.zero_mul
def UC:=@Nat.mul_comm
def UD:=@List.set_set
def UE:=@Int.mul_le_mul_of_nonneg_right
def UF:=@Nat.zero_le
def UG:=@Array.length_toList
def UH:=@Nat.div_eq_of_lt
def UI:=@Nat.le_div_iff_mul_le
def UJ:=@Nat.div_le_self
def UK:=@Nat.lt_irrefl
def UL:=@List.getElem_drop
def UM:=@List.set_append_left
def UN:=@List.mem_cons_of_mem
def UO:=@Bool.not_eq_true
def UP:=@Nat.add_sub_cancel_left
def UQ:=@List.map_replicate
def UR:=@Bool.eq_iff_iff
def US:=@Nat.div_div_eq_div_mul
def UT:=@Int.ediv_eq_zero_of_lt
def UU:=@Nat.or_lt_two_pow
def UV:=@Array.getElem_map
def UW:=@List.map_map
def UX:=@Array.eq_empty_of_size_eq_zero
def UY:=@Nat.mod_eq_of_lt
def UZ:=@List.replicate_succ'
def U0:=@Nat.mod_lt
def U1:=@Nat.mul_add
def U2:=@Nat.div_mul_le_self
def U3:=@List.take_set_of_le
def U4:=@Int.one_mul
def U5:=@Int.mul_one
def U6:=@Int.mul_add
def U7:=@Array.getElem?_push
def U9:=@Nat.add_sub_cancel
def Va:=@List.getElem?_take
def Vb:=@Nat.shiftRight_eq_div_pow
def Vc:=@Nat.lt_trichotomy
def Vd:=@Int.emod_eq_of_lt
def Ve:=@Array.getElem?_replicate
def Vf:=@Int.mul_assoc
def Vg:=@Nat.lt_succ_self
def Vh:=@List.nodup_range
def Vi:=@Nat.testBit_lt_two_pow
def Vj:=@List.drop_of_length_le
def Vk:=@Nat.le_of_lt
def Vl:=@List.sum_append
def Vm:=@List.nodup_cons
def Vn:=@List.mem_append_right
def Vo:=@List.getElem?_zipWith
def Vp:=@Int.emod_add_mul_ediv
def Vq:=@Int.ediv_nonneg
def Vr:=@Array.toArray_toList
def Vs:=@Nat.testBit_two_pow
def Vt:=@Int.pow_pos
def Vu:=@Nat.xor_lt_two_pow
def Vv:=@Nat.lt_of_le_of_lt
def Vw:=@List.set_eq_take_append_cons_drop
def Vx:=@List.set_comm
def Vy:=@List.pairwise_cons
def Vz:=@Array.size_append
def VA:=@Nat.succ_mul
def VB:=@Nat.pow_zero
def VC:=@Int.pow_zero
def VD:=@Int.mul_zero
def VE:=@Int.le_trans
def VF:=@Int.add_comm
def VG:=@Int.natCast_ediv
def VH:=@Int.ediv_le_self
def VI:=@Array.toList_map
def VJ:=@Int.gcd_pos_of_ne_zero_right
def VK:=@Nat.two_pow_pos
def VL:=@Nat.testBit_and
def VM:=@Nat.div_add_mod
def VN:=@List.idxOf_lt_length_of_mem
def VO:=@Int.natAbs_tmod
def VP:=@Int.natAbs_tdiv
def VQ:=@Int.add_mul
def VR:=@Int.fdiv_eq_ediv_of_nonneg
def VS:=@Array.getElem?_append_left
def VT:=@Int.le_of_mul_le_mul_left
def VU:=@Array.mapM_eq_mapM_toList
def VV:=@Nat.not_le
def VW:=@decide_eq_false_iff_not
def VX:=@Go.IntWalk.u8_in
def VY:=@Int.ediv_ediv_of_nonneg
def VZ:=@List.drop_eq_nil_of_le
def V0:=@Int.add_mul_ediv_right
def V1:=@Nat.ne_of_lt
def V2:=@Nat.gcd_comm
def V3:=@List.length_filter_le
def V4:=@List.eq_nil_or_concat
def V5:=@List.concat_eq_append
def V6:=@Int.zero_mul
def V7:=@List.mem_of_getLast?
def V8:=@List.mem_iff_getElem
def V9:=@List.mem_append_left
def Wa:=@List.getElem_zipWith
def Wb:=@List.drop_eq_nil_iff
def Wc:=@Int.mul_ediv_self_le
def We:=@Classical.not_forall
def Wf:=@Nat.pow_pos
def Wg:=@Nat.pow_add
def Wh:=@Nat.lt_mul_div_succ
def Wi:=@Nat.div_one
def Wj:=@List.filterMap_cons
def Wk:=@List.drop_set_of_lt
end Go
namespace Go.Hx
inductive AVal where
 |lit (v:Value)
 |vec (len:Nat) (cells:List AVal)
 |own (id gen off len sz:Nat)
 |ptr (id gen off:Nat)
 |vptr (cells:List AVal) (off:Nat)
 |agg (cells:List AVal)
 |tup (vs:List AVal)
 |clo (f:FuncId) (first cap:List AVal)
 |yld (id:Nat)
instance:Inhabited AVal:=⟨.lit undef⟩
abbrev Env:=Nat->AVal
inductive Blk where
 |arr (gen:Nat) (elem:TypeId) (cells:List AVal)
 |loop (st:LoopState) (pend:Option Code) (n:Nat) (env:Env) (ps:Array Tmp) (asg body:Code)
 |mp (es:List (Int × Int))
 |rsv
structure AHeap where
 get:Nat->Option Blk
 next:Nat
abbrev aK:=Nat->Option (Nat × Nat × Nat)
def aK.iz (Γ:aK)(b:Nat):Prop:=∃id base n,Γ id=some (b,base,n)
def tA (Γ:aK)(H:AHeap)(id gen off len sz:Nat)(cv:Value):Prop :=
 id<H.next/\cv.oneCell=true/\H.get id≠some .rsv/\∀g e cells,H.get id=some (.arr g e cells)->gen<=g/\(gen=g ->
  match Γ id with
  |some (b,base,n)=>∃a cap,cv=.slice (some a) len cap/\len<=cap/\off+len*sz<=cells.length /\
    ((a=⟨b,base+off,none⟩/\base+off+cap*sz<=n)\/(len=0/\cap=0))
  |none=>off=0/\len=0/\cv=.slice none 0 0)
def tB (Γ:aK)(H:AHeap)(id gen off:Nat)(cv:Value):Prop :=
 id<H.next/\cv.oneCell=true/\H.get id≠some .rsv/\∀g e cells,H.get id=some (.arr g e cells)->gen<=g/\(gen=g ->
  ∃b base n,Γ id=some (b,base,n)/\cv=.pointer (some ⟨b,base+off,none⟩))
def dK:Nat->List (Int × Int)->List MapEntry
 |_,[]=>[]
 |i,(k,v) :: l=>⟨.int .i64 k,.int .i64 v,i⟩ :: dK (i+1) l
def gX (es:List (Int × Int)):Obj:=.map (dK 0 es).toArray es.length
def tC (Γ:aK)(H:AHeap)(id:Nat)(cv:Value):Prop :=
 id<H.next/\cv.oneCell=true/\H.get id≠some .rsv/\(∀st pend n env ps asg body,H.get id=some (.loop st pend n env ps asg body) ->
  ∃b,Γ id=some (b,0,0)/\cv=.func (.yield b) #[] #[])/\∀es,H.get id=some (.mp es)->∃b,Γ id=some (b,0,0)/\cv=.map (some b)
inductive RelV (P:Program)(Γ:aK)(H:AHeap)(w:World):AVal->Value->Prop
 |lit (v:Value):RelV P Γ H w (.lit v) v
 |vec0 (a:Option Addr) (cap:Nat):RelV P Γ H w (.vec 0 []) (.slice a 0 cap)
 |vec {len:Nat} {cells:List AVal} {b off cap:Nat} {cs:List Value} (hb:¬ Γ.iz b) (hlt:b<w.heap.size) (hlen:len<=cap)
   (hcs:cs.length=cells.length)
   (hcell:∀i (h:i<cs.length),w.cell? ⟨b,off+i,none⟩=some cs[i])
   (hrel:∀i (h:i<cells.length) (h':i<cs.length),RelV P Γ H w cells[i] cs[i]):
   RelV P Γ H w (.vec len cells) (.slice (some ⟨b,off,none⟩) len cap)
 |own {id gen off len sz:Nat} {cv:Value} (h:tA Γ H id gen off len sz cv):RelV P Γ H w (.own id gen off len sz) cv
 |ptr {id gen off:Nat} {cv:Value} (h:tB Γ H id gen off cv):RelV P Γ H w (.ptr id gen off) cv
 |vptr {cells:List AVal} {off b o:Nat} {cs:List Value} (hb:¬ Γ.iz b) (hlt:b<w.heap.size)
   (hcs:cs.length=cells.length)
   (hcell:∀i (h:i<cs.length),w.cell? ⟨b,o+i,none⟩=some cs[i])
   (hrel:∀i (h:i<cells.length) (h':i<cs.length),RelV P Γ H w cells[i] cs[i]):
   RelV P Γ H w (.vptr cells off) (.pointer (some ⟨b,o+off,none⟩))
 |agg {cells:List AVal} {cs:List Value} (hcs:cs.length=cells.length)
   (hrel:∀i (h:i<cells.length) (h':i<cs.length),RelV P Γ H w cells[i] cs[i]):RelV P Γ H w (.agg cells) (.agg cs.toArray)
 |tup {cells:List AVal} {cs:List Value} (hcs:cs.length=cells.length)
   (hrel:∀i (h:i<cells.length) (h':i<cs.length),RelV P Γ H w cells[i] cs[i]):RelV P Γ H w (.tup cells) (.tuple cs.toArray)
 |clo {f:FuncId} {first cap:List AVal} {fs cs:List Value} (hfs:fs.length=first.length) (hcs:cs.length=cap.length)
   (hf:∀i (h:i<first.length) (h':i<fs.length),RelV P Γ H w first[i] fs[i])
   (hc:∀i (h:i<cap.length) (h':i<cs.length),RelV P Γ H w cap[i] cs[i]):
   RelV P Γ H w (.clo f first cap) (.func (.func f) fs.toArray cs.toArray)
 |yld {id:Nat} {cv:Value} (h:tC Γ H id cv):RelV P Γ H w (.yld id) cv
def Blk.le (Γ Γ':aK)(id:Nat):Blk->Blk->Prop
 |.arr g e cells,.arr g' e' cells'=>g<=g'/\(g=g'->Γ' id=Γ id/\e'=e/\cells'.length=cells.length)
 |.loop _ _ n env ps asg body,.loop _ _ n' env' ps' asg' body'=>Γ' id=Γ id/\n'=n/\env'=env/\ps'=ps/\asg'=asg/\body'=body
 |.mp _,.mp _=>Γ' id=Γ id
 |.rsv,_=>True
 |_,_=>False
structure Evo (Γ:aK)(H:AHeap)(w:World)(Γ':aK)(H':AHeap)(w':World):Prop where
 os:w'.os=w.os
 tape:w'.tape=w.tape
 output:w'.output=w.output
 size:w.heap.size<=w'.heap.size
 keep:∀b,b<w.heap.size->¬ Γ.iz b->w'.heap[b]?=w.heap[b]?/\¬ Γ'.iz b
 live:∀id,id<H.next->id<H'.next->∀x',H'.get id=some x'->∃x,H.get id=some x/\Blk.le Γ Γ' id x x'
 frz:∀a,a.block<w.heap.size->w'.frozen? a=w.frozen? a
theorem Blk.le_refl (Γ:aK)(id:Nat)(x:Blk):Blk.le Γ Γ id x x:=by
 cases x<;>simp[Blk.le]
theorem Evo.refl (Γ:aK)(H:AHeap)(w:World):Evo Γ H w Γ H w :=
 ⟨rfl,rfl,rfl,Nat.le_refl _,fun _ _ h=>⟨rfl,h⟩,fun _ _ _ x' h=>⟨x',h,Blk.le_refl _ _ _⟩,fun _ _=>rfl⟩
theorem Blk.vW {Γ Γ':aK}{id:Nat}{x:Blk}(h:Blk.le Γ Γ' id x .rsv):x=.rsv:=by
 cases x<;>simp_all[Blk.le]
theorem Blk.le_trans {Γ₁ Γ₂ Γ₃:aK}{id:Nat}{x y z:Blk}(h:Blk.le Γ₁ Γ₂ id x y)(k:Blk.le Γ₂ Γ₃ id y z):Blk.le Γ₁ Γ₃ id x z:=by
 cases x<;>cases y<;>cases z<;>simp only[Blk.le]at *
 ·rename_i g e c g' e' c' g'' e'' c'';refine⟨by omega,fun hg=>?_⟩;obtain⟨h1,h2⟩:=h;obtain⟨k1,k2⟩:=k;obtain⟨a1,a2,a3⟩:=h2 (by omega);obtain⟨b1,b2,b3⟩:=k2 (by omega);exact⟨b1.trans a1,b2.trans a2,b3.trans a3⟩
 ·obtain⟨a1,a2,a3,a4,a5,a6⟩:=h;obtain⟨b1,b2,b3,b4,b5,b6⟩:=k;exact⟨b1.trans a1,b2.trans a2,b3.trans a3,b4.trans a4,b5.trans a5,b6.trans a6⟩
 ·exact k.trans h
theorem Evo.trans {Γ₁ Γ₂ Γ₃:aK}{H₁ H₂ H₃:AHeap}{w₁ w₂ w₃:World}(h:Evo Γ₁ H₁ w₁ Γ₂ H₂ w₂)(hn:H₁.next<=H₂.next)
  (k:Evo Γ₂ H₂ w₂ Γ₃ H₃ w₃):Evo Γ₁ H₁ w₁ Γ₃ H₃ w₃ where
 os:=k.os.trans h.os
 tape:=k.tape.trans h.tape
 output:=k.output.trans h.output
 size:=Tt h.size k.size
 keep b hb ho:=by
  obtain⟨a1,a2⟩:=h.keep b hb ho;obtain⟨b1,b2⟩:=k.keep b (S1 hb h.size) a2;exact⟨b1.trans a1,b2⟩
 live id h1 h3 z hz:=by
  obtain⟨y,hy,hyz⟩:=k.live id (S1 h1 hn) h3 z hz;obtain⟨x,hx,hxy⟩:=h.live id h1 (S1 h1 hn) y hy;exact⟨x,hx,Blk.le_trans hxy hyz⟩
 frz a ha:=(k.frz a (S1 ha h.size)).trans (h.frz a ha)
theorem Evo.cell {Γ Γ':aK}{H H':AHeap}{w w':World}(h:Evo Γ H w Γ' H' w'){b o:Nat}(hb:b<w.heap.size)(ho:¬ Γ.iz b):
  w'.cell? ⟨b,o,none⟩=w.cell? ⟨b,o,none⟩:=by
 have:=(h.keep b hb ho).1;simp only[World.cell?,this]
theorem tA.bE {Γ Γ':aK}{H H':AHeap}{w w':World}{id gen off len sz:Nat}{cv:Value}(h:tA Γ H id gen off len sz cv)
  (k:Evo Γ H w Γ' H' w') (hn:H.next<=H'.next):tA Γ' H' id gen off len sz cv:=by
 obtain⟨h1,h2,h0,h3⟩:=h;refine⟨by omega,h2,fun hr=>(by
  obtain⟨x,hx,hle⟩:=k.live id h1 (by omega) _ hr;exact h0 (Blk.vW hle ▸ hx)),fun g' e' cells' hg'=>?_⟩
 obtain⟨x,hx,hle⟩:=k.live id h1 (by omega) _ hg';cases x with
 |loop=>exact hle.elim
 |mp=>exact hle.elim
 |rsv=>exact absurd hx h0
 |arr g e cells =>
  obtain⟨a1,a2⟩:=hle;obtain⟨b1,b2⟩:=h3 g e cells hx;refine⟨by omega,fun hgg=>?_⟩;obtain⟨c1,c2,c3⟩:=a2 (by omega);have:=b2 (by omega);rw[c1,c3];exact this
theorem tB.bE {Γ Γ':aK}{H H':AHeap}{w w':World}{id gen off:Nat}{cv:Value}(h:tB Γ H id gen off cv)
  (k:Evo Γ H w Γ' H' w') (hn:H.next<=H'.next):tB Γ' H' id gen off cv:=by
 obtain⟨h1,h2,h0,h3⟩:=h;refine⟨by omega,h2,fun hr=>(by
  obtain⟨x,hx,hle⟩:=k.live id h1 (by omega) _ hr;exact h0 (Blk.vW hle ▸ hx)),fun g' e' cells' hg'=>?_⟩
 obtain⟨x,hx,hle⟩:=k.live id h1 (by omega) _ hg';cases x with
 |loop=>exact hle.elim
 |mp=>exact hle.elim
 |rsv=>exact absurd hx h0
 |arr g e cells =>
  obtain⟨a1,a2⟩:=hle;obtain⟨b1,b2⟩:=h3 g e cells hx;refine⟨by omega,fun hgg=>?_⟩;obtain⟨c1,c2,c3⟩:=a2 (by omega);have:=b2 (by omega);rw[c1];exact this
theorem tC.bE {Γ Γ':aK}{H H':AHeap}{w w':World}{id:Nat}{cv:Value}(h:tC Γ H id cv)
  (k:Evo Γ H w Γ' H' w') (hn:H.next<=H'.next):tC Γ' H' id cv:=by
 obtain⟨h1,h2,h0,h3,h4⟩:=h;refine⟨by omega,h2,fun hr=>(by
  obtain⟨x,hx,hle⟩:=k.live id h1 (by omega) _ hr;exact h0 (Blk.vW hle ▸ hx)),fun st pend n env ps asg body hg'=>?_,fun es hg'=>?_⟩
 ·obtain⟨x,hx,hle⟩:=k.live id h1 (by omega) _ hg';cases x with
  |arr g e cells=>exact hle.elim
  |mp=>exact hle.elim
  |rsv=>exact absurd hx h0
  |loop st0 pend0 n0 env0 ps0 asg0 body0 =>
   obtain⟨a1,_⟩:=hle;obtain⟨b,hb,hc⟩:=h3 _ _ _ _ _ _ _ hx;exact⟨b,a1.trans hb,hc⟩
 ·obtain⟨x,hx,hle⟩:=k.live id h1 (by omega) _ hg';cases x with
  |arr g e cells=>exact hle.elim
  |loop=>exact hle.elim
  |rsv=>exact absurd hx h0
  |mp es0 =>
   obtain⟨b,hb,hc⟩:=h4 _ hx;exact⟨b,Eq.trans hle hb,hc⟩
theorem RelV.bE {P:Program}{Γ Γ':aK}{H H':AHeap}{w w':World}{v:AVal}{cv:Value}(h:RelV P Γ H w v cv)
  (k:Evo Γ H w Γ' H' w') (hn:H.next<=H'.next):RelV P Γ' H' w' v cv:=by
 induction h with
 |lit v=>exact .lit v
 |vec0 a cap=>exact .vec0 a cap
 |vec hb hlt hlen hcs hcell hrel ih =>
  exact .vec (k.keep _ hlt hb).2 (S1 hlt k.size) hlen hcs (fun i hi=>(k.cell hlt hb).trans (hcell i hi)) ih
 |own h=>exact .own (h.bE k hn)
 |ptr h=>exact .ptr (h.bE k hn)
 |vptr hb hlt hcs hcell hrel ih =>
  exact .vptr (k.keep _ hlt hb).2 (S1 hlt k.size) hcs (fun i hi=>(k.cell hlt hb).trans (hcell i hi)) ih
 |agg hcs hrel ih=>exact .agg hcs ih
 |tup hcs hrel ih=>exact .tup hcs ih
 |clo hfs hcs hf hc ih1 ih2=>exact .clo hfs hcs ih1 ih2
 |yld h=>exact .yld (h.bE k hn)
def qR (Γ:aK)(w:World)(r:Nat):Prop:=¬ Γ.iz r/\w.heap[r]?=some (.deferred (some []))
theorem qR.bE {Γ Γ':aK}{H H':AHeap}{w w':World}{r:Nat}(h:qR Γ w r)(k:Evo Γ H w Γ' H' w'):qR Γ' w' r:=by
 obtain⟨h1,h2⟩:=h;have hlt:r<w.heap.size:=by
  rcases S9 r w.heap.size with h|h
  ·exact h
  ·rw[T6 h]at h2;cases h2
 obtain⟨a,b⟩:=k.keep r hlt h1;exact⟨b,a.trans h2⟩
structure RelH (P:Program)(G:Nat->Option (List AVal))(Γ:aK)(H:AHeap)(w:World):Prop where
 arr:∀id g e cells,H.get id=some (.arr g e cells) ->
  match Γ id with
  |some (b,base,n)=>∃c,w.heap[b]?=some (.cells c e (0,0))/\c.size=n/\base+cells.length<=n /\
    ∀i (h:i<cells.length),∃cv,c[base+i]?=some cv/\RelV P Γ H w cells[i] cv
  |none=>cells=[]
 loop:∀id st pend n env ps asg body,H.get id=some (.loop st pend n env ps asg body) ->
  ∃b r,Γ id=some (b,0,0)/\w.heap[b]?=some (.loop r)/\r.state=st/\r.pending=pend/\r.params=ps/\r.assign=asg/\r.body=body /\
   r.tmps.size=n/\(∀t (h:t<r.tmps.size),RelV P Γ H w (env t) r.tmps[t])
 mp:∀id es,H.get id=some (.mp es)->∃b,Γ id=some (b,0,0)/\w.heap[b]?=some (gX es)
 rsv:∀id,H.get id=some .rsv->Γ id=none
 inj:∀id id' b base n base' n',Γ id=some (b,base,n)->Γ id'=some (b,base',n')->id=id'
 dom:∀id x,Γ id=some x->∃y,H.get id=some y
 lt:∀id b base n,Γ id=some (b,base,n)->b<w.heap.size
 next:∀id y,H.get id=some y->id<H.next
 glob:∀g cells,G g=some cells->RelV P Γ H w (.vptr cells 0) (.pointer (some ⟨g,0,none⟩))
 gsz:∀g cells,G g=some cells->∃c e f,w.heap[g]?=some (.cells c e f)/\c.size=cells.length
theorem Ep {P:Program}{Γ:aK}{H:AHeap}{w:World}{cells:List AVal}{off:Nat}{cv:Value}(h:RelV P Γ H w (.vptr cells off) cv):∀ {g x:Nat},cv=.pointer (some ⟨g,x,none⟩)->¬ Γ.iz g/\g<w.heap.size:=by
 intro g x e;cases h with
 |vptr hb hlt hcs hcell hrel=>cases e;exact⟨hb,hlt⟩
theorem RelH.qS {P:Program}{G:Nat->Option (List AVal)}{Γ Γ':aK}{H H':AHeap}{w w':World}(R:RelH P G Γ H w)(E:Evo Γ H w Γ' H' w')(g:Nat)(cells:List AVal)(h:G g=some cells):∃c e f,w'.heap[g]?=some (.cells c e f)/\c.size=cells.length:=by
 obtain⟨hb,hlt⟩:=Ep (R.glob g cells h) rfl;rw[(E.keep g hlt hb).1];exact R.gsz g cells h
end Go.Hx
namespace Go.Hx
def AVal.cells:AVal->List AVal
 |.lit v=>v.cells.toList.map .lit
 |.agg cs=>cs
 |.vec l c=>[.vec l c]
 |.own a b c d e=>[.own a b c d e]
 |.ptr a b c=>[.ptr a b c]
 |.vptr a b=>[.vptr a b]
 |.tup vs=>[.tup vs]
 |.clo f a b=>[.clo f a b]
 |.yld i=>[.yld i]
def AVal.one:AVal->Bool
 |.lit v=>v.oneCell
 |.agg _|.tup _=>false
 |_=>true
def pB:List AVal->Option (List Value)
 | []=>some []
 |.lit v :: r=>(pB r).map (v :: ·)
 |_ :: _=>none
def AVal.cZ:AVal->Option Value
 |.lit v=>some v
 |.agg cs=>(pB cs).map fun l=>.agg l.toArray
 |_=>none
def bF {α:Type}(P:Program):Sem α->Option α
 |.pure a=>some a
 |.program k=>bF P (k P)
 |.mark _ k=>bF P k
 |_=>none
theorem oD {α:Type}{P:Program}{s:Sem α}{a:α}(h:bF P s=some a)(w:World):s.run P w=.ok a w:=by
 induction s<;>simp_all[bF,Sem.run]
section
variable {P:Program} {w w':World}
theorem aA {α β:Type}{s:Sem α}{f:α->Sem β}{a:α}(h:s.run P w=.ok a w'):(s >>= f).run P w=(f a).run P w':=by
 rw[Sem.run_bind,h];rfl
theorem cQ {t:TypeId}{d:TypeDesc}(h:P.underlying t=some d):(underlying t).run P w=.ok d w:=run_underlying h w
theorem zG {t:TypeId}{d:TypeDesc}(h:P.underlying t=some d):∃i,P.info? t=some i:=by
 unfold Program.underlying at h;cases hi:P.info? t with
 |none=>simp[hi]at h
 |some i=>exact⟨i,rfl⟩
theorem run_typeInfo {t:TypeId}{i:TypeInfo}(h:P.info? t=some i):(typeInfo t).run P w=.ok i w:=by
 unfold typeInfo;rw[aA (run_program P w)];simp[h]
theorem run_sizeOf {t:TypeId}{i:TypeInfo}(h:P.info? t=some i):(sizeOf t).run P w=.ok (P.cellsOf t) w:=by
 unfold sizeOf;rw[aA (run_typeInfo h)];simp[Program.cellsOf,h]
theorem jm {t:TypeId}{d:TypeDesc}(h:P.underlying t=some d):(sizeOf t).run P w=.ok (P.cellsOf t) w:=by
 obtain⟨i,hi⟩:=zG h;exact run_sizeOf hi
def pC (d:TypeDesc):Bool:=match d with|.struct _|.array _ _=>true|_=>false
theorem vX {t:TypeId}{d:TypeDesc}(h:P.underlying t=some d):(isAgg t).run P w=.ok (pC d) w:=by
 unfold isAgg;rw[aA (cQ h)];cases d<;>rfl
theorem Er {a:Addr}{v:Value}(h:w.cell? a=some v):(load a).run P w=.ok v w:=by
 simp[run_load,h]
theorem kq (b o i:Nat):(Addr.add ⟨b,o,none⟩ i)=⟨b,o+i,none⟩:=by
 unfold Addr.add;by_cases h:i=0
 ·simp[h]
 ·simp[h]
theorem pD {b o:Nat}{cs:List Value}(h:∀i (hi:i<cs.length),w.cell? ⟨b,o+i,none⟩=some cs[i]):
  (loadCells ⟨b,o,none⟩ cs.length).run P w=.ok cs.toArray w:=by
 refine run_loadCells_list w ⟨b,o,none⟩ cs fun j v hj=>?_;rw[kq];obtain⟨hlt,hv⟩:=Tj.1 hj;rw[<- hv];exact h j hlt
theorem Es {t:TypeId}{d:TypeDesc}{b o:Nat}{cs:List Value}(hd:P.underlying t=some d)(ha:pC d=true)(hl:cs.length=P.cellsOf t)
  (h:∀i (hi:i<cs.length),w.cell? ⟨b,o+i,none⟩=some cs[i]):(loadVar t ⟨b,o,none⟩).run P w=.ok (.agg cs.toArray) w:=by
 unfold loadVar;rw[aA (vX hd),ha];simp only[if_true];rw[aA (jm hd),<- hl,aA (pD h)];rfl
theorem Et {t:TypeId}{d:TypeDesc}{a:Addr}{v:Value}(hd:P.underlying t=some d)(ha:pC d=false)
  (h:w.cell? a=some v):(loadVar t a).run P w=.ok v w:=by
 unfold loadVar;rw[aA (vX hd),ha];simp only[Bool.false_eq_true,if_false];exact Er h
def setRow (c:Array Value)(o:Nat):List Value->Array Value
 | []=>c
 |v :: vs=>setRow (c.setIfInBounds o v) (o+1) vs
theorem size_setRow (c:Array Value)(o:Nat)(vs:List Value):(setRow c o vs).size=c.size:=by
 induction vs generalizing c o with
 |nil=>rfl
 |cons v vs ih=>simp[setRow,ih]
theorem zH (c:Array Value)(o:Nat)(vs:List Value)(h:o+vs.length<=c.size)(i:Nat):
  (setRow c o vs)[i]?=if o<=i/\i<o+vs.length then vs[i-o]? else c[i]?:=by
 induction vs generalizing c o with
 |nil=>simp only[setRow,List.length_nil];rw[SI (by omega)]
 |cons v vs ih =>
  simp only[List.length_cons]at h;rw[setRow,ih _ _ (by simp;omega)];simp only[List.length_cons];by_cases h1:o+1<=i/\i<o+1+vs.length
  ·rw[SK h1,SK (by omega)];have:i-o=(i-(o+1))+1:=(by omega);rw[this,List.getElem?_cons_succ]
  ·rw[SI h1];by_cases h2:i=o
   ·subst h2;rw[SK (by omega)];simp[TA];omega
   ·rw[SI (by omega)];rw[TA,SI (by omega)]
def bY (w:World)(b:Nat)(o:Obj):World:={ w with heap:=w.heap.setIfInBounds b o }
theorem qT {w:World}{b:Nat}{o o':Obj}(h:w.heap[b]?=some o)(h1:∀c e f,o=.cells c e f->f=(0,0))(h2:∀c e f,o'=.cells c e f->f=(0,0))(a:Addr):(bY w b o').frozen? a=w.frozen? a:=by
 have hlt:b<w.heap.size:=by
  rcases S9 b w.heap.size with h'|h'
  ·exact h'
  ·rw[T6 h']at h;cases h
 unfold World.frozen? bY;simp only[TA];by_cases hb:b=a.block
 ·subst hb;rw[SK rfl,SK hlt,h];cases o with
  |cells c e f =>
   obtain rfl:=h1 c e f rfl;cases o' with
   |cells c' e' f' =>
    obtain rfl:=h2 c' e' f' rfl;simp
   |_=>simp
  |_ =>
   cases o' with
   |cells c' e' f' =>
    obtain rfl:=h2 c' e' f' rfl;simp
   |_=>rfl
 ·rw[SI hb]
theorem pE {w w':World}{o:Obj}(hw:w'.heap=w.heap.push o)(ho:∀c e f,o=.cells c e f->f=(0,0))(a:Addr):w'.frozen? a=w.frozen? a:=by
 unfold World.frozen?;rw[hw,U7];by_cases h:a.block=w.heap.size
 ·rw[SK h,h,T6 (Nat.le_refl _)];cases o with
  |cells c e f =>
   obtain rfl:=ho c e f rfl;simp
  |_=>rfl
 ·rw[SI h]
theorem Eu {b o:Nat}{c:Array Value}{e:TypeId}{v:Value}(h:w.heap[b]?=some (.cells c e (0,0))):
  w.setCell ⟨b,o,none⟩ v=bY w b (.cells (c.setIfInBounds o v) e (0,0)):=by
 unfold World.setCell bY;congr 1;apply Array.ext_getElem?;intro i;rw[Array.getElem?_modify,TA];by_cases hi:b=i
 ·subst hi;have hlt:b<w.heap.size:=by
   rcases S9 b w.heap.size with h'|h'
   ·exact h'
   ·rw[T6 h']at h;cases h
  have hb:w.heap[b]=.cells c e (0,0):=by simpa[S7 hlt] using h
  simp[hlt,hb]
 ·simp[hi]
theorem zI {b:Nat}{o:Obj}(h:w.heap[b]?=some o):b<w.heap.size:=by
 rcases S9 b w.heap.size with h'|h'
 ·exact h'
 ·rw[T6 h']at h;cases h
theorem fg (b:Nat)(o:Obj)(i:Nat):(bY w b o).heap[i]?=if i=b/\b<w.heap.size then some o else w.heap[i]?:=by
 unfold bY;simp only[TA];by_cases h:b=i
 ·subst h;by_cases h':b<w.heap.size
  ·simp[h']
  ·simp[h']
 ·rw[SI h,SI (by omega)]
theorem jN (b:Nat)(o:Obj):(bY w b o).heap.size=w.heap.size:=by simp[bY]
theorem Ew (b:Nat)(o o':Obj):bY (bY w b o) b o'=bY w b o':=by
 unfold bY;simp
theorem zJ {b i:Nat}{c:Array Value}{e:TypeId}{f:Nat × Nat}(h:w.heap[b]?=some (.cells c e f)):w.cell? ⟨b,i,none⟩=c[i]?:=by
 simp[World.cell?,h]
theorem qU {b:Nat}{e:TypeId}:∀(vs:List Value) (c:Array Value) (o i:Nat) (w:World),w.heap[b]?=some (.cells c e (0,0)) ->
  o+i+vs.length<=c.size->(∀v,v∈vs->v.oneCell=true) ->
  (storeCells ⟨b,o,none⟩ vs i).run P w=.ok () (bY w b (.cells (setRow c (o+i) vs) e (0,0))):=by
 intro vs
 induction vs with
 |nil =>
  intro c o i w h _ _;have:bY w b (.cells (setRow c (o+i) []) e (0,0))=w:=by
   unfold bY setRow;have hlt:=zI h;have:w.heap.setIfInBounds b (.cells c e (0,0))=w.heap:=by
    apply Array.ext_getElem?;intro j;rw[TA];by_cases hj:b=j
    ·subst hj;have hb:w.heap[b]=.cells c e (0,0):=(by simpa[S7 hlt] using h);simp[hlt,hb]
    ·simp[hj]
   rw[this]
  rw[this];rfl
 |cons v vs ih =>
  intro c o i w h hle hone;simp only[List.length_cons]at hle;have hv:v.oneCell=true:=hone v (by simp);have hlt:=zI h;have hst:(store (Addr.add ⟨b,o,none⟩ i) v).run P w=.ok () (bY w b (.cells (c.setIfInBounds (o+i) v) e (0,0))):=by
   rw[kq];have hc:w.cell? ⟨b,o+i,none⟩=some (c[o+i]'(by omega)):=(by rw[zJ h];simp);have hf:w.frozen? ⟨b,o+i,none⟩=false:=(by simp[World.frozen?,h]);rw[<- Eu h];cases v<;>simp_all[store,Sem.run,Value.oneCell]
  rw[storeCells,aA hst];rw[ih (c.setIfInBounds (o+i) v) o (i+1) _ (by rw[fg,SK ⟨rfl,hlt⟩]) (by simp;omega) (fun x hx=>hone x (by simp[hx]))];rw[Ew];rfl
end
def setAt (cells:List AVal)(off:Nat)(vs:List AVal):List AVal:=cells.take off++vs++cells.drop (off+vs.length)
theorem pF {cells:List AVal}{off:Nat}{vs:List AVal}(h:off+vs.length<=cells.length):(setAt cells off vs).length=cells.length:=by
 simp[setAt];omega
theorem Ex {cells:List AVal}{off:Nat}{vs:List AVal}(h:off+vs.length<=cells.length)(i:Nat):
  (setAt cells off vs)[i]?=if off<=i/\i<off+vs.length then vs[i-off]? else cells[i]?:=by
 unfold setAt;by_cases h1:i<off
 ·rw[SI (by omega),List.append_assoc,SU (by simp;omega),Va,SK h1]
 ·by_cases h2:i<off+vs.length
  ·rw[SK (by omega),SU (by simp;omega),SZ (by simp;omega)];congr 1;simp;omega
  ·rw[SI (by omega),SZ (by simp;omega),TN];congr 1;simp;omega
def iU (P:Program)(t:TypeId)(cells:List AVal)(off:Nat):Option AVal :=
 match P.underlying t with
 |none=>none
 |some d =>
  if pC d then (if off+P.cellsOf t<=cells.length then some (.agg ((cells.drop off).take (P.cellsOf t))) else none)
  else cells[off]?
def AHeap.upd (H:AHeap)(id:Nat)(b:Blk):AHeap:={ get:=fun j=>if j=id then some b else H.get j,next:=H.next }
def AHeap.lay (H:AHeap)(id:Nat)(b:Blk):Option AHeap :=
 if id=H.next then some { get:=fun j=>if j=id then some b else H.get j,next:=H.next+1 }
 else match H.get id with
  |some .rsv=>some (H.upd id b)
  |_=>none
def gY (P:Program)(H:AHeap)(t:TypeId):AVal->Option AVal
 |.ptr id gen off =>
  match H.get id with
  |some (.arr g _ cells)=>if g=gen then iU P t cells off else none
  |_=>none
 |.vptr cells off=>iU P t cells off
 |_=>none
def jO (P:Program)(H:AHeap)(t:TypeId)(a v:AVal):Option AHeap :=
 match a with
 |.ptr id gen off =>
  match H.get id with
  |some (.arr g e cells) =>
   if g=gen/\v.cells.length=P.cellsOf t/\v.cells.all AVal.one=true/\off+v.cells.length<=cells.length then some (H.upd id (.arr g e (setAt cells off v.cells))) else none
  |_=>none
 |_=>none
def fR (place:Nat->Option (Nat × Nat))(cells:List AVal):List (Nat × AVal)->Option (List AVal)
 | []=>some cells
 |(i,v) :: rest =>
  match place i with
  |none=>none
  |some (off,size)=>if v.cells.length=size/\off+v.cells.length<=cells.length then fR place (setAt cells off v.cells) rest else none
end Go.Hx
namespace Go.Hx
variable {P:Program} {G:Nat->Option (List AVal)} {Γ Γ':aK} {H H':AHeap} {w w':World}
theorem vZ {cv:Value}(h:cv.oneCell=true):cv.cells=#[cv]:=by
 cases cv<;>simp_all[Value.oneCell,Value.cells]
theorem RelV.cells {v:AVal}{cv:Value}(h:RelV P Γ H w v cv):cv.cells.toList.length=v.cells.length /\
  ∀i (_:i<v.cells.length) (_:i<cv.cells.toList.length),RelV P Γ H w v.cells[i] cv.cells.toList[i]:=by
 have one:∀ {v:AVal} {cv:Value},RelV P Γ H w v cv->v.cells=[v]->cv.cells=#[cv]->cv.cells.toList.length=v.cells.length /\
   ∀i (_:i<v.cells.length) (_:i<cv.cells.toList.length),RelV P Γ H w v.cells[i] cv.cells.toList[i]:=by
  intro v cv h hv hc;simp only[hv,hc];refine⟨rfl,fun i h1 h2=>?_⟩;simp only[List.length_cons,List.length_nil]at h1;have:i=0:=by omega
  subst this;exact h
 cases h with
 |lit v =>
  simp only[AVal.cells];refine⟨by simp,fun i h1 h2=>?_⟩;simp only[SV];exact .lit _
 |vec0 a cap=>exact one (.vec0 a cap) rfl rfl
 |vec hb hlt hlen hcs hcell hrel=>exact one (.vec hb hlt hlen hcs hcell hrel) rfl rfl
 |own h=>exact one (.own h) rfl (vZ h.2.1)
 |ptr h=>exact one (.ptr h) rfl (vZ h.2.1)
 |vptr hb hlt hcs hcell hrel=>exact one (.vptr hb hlt hcs hcell hrel) rfl rfl
 |agg hcs hrel=>exact⟨by simpa[AVal.cells,Value.cells] using hcs,fun i h1 h2=>hrel i h1 h2⟩
 |tup hcs hrel=>exact one (.tup hcs hrel) rfl rfl
 |clo hfs hcs hf hc=>exact one (.clo hfs hcs hf hc) rfl rfl
 |yld h=>exact one (.yld h) rfl (vZ h.2.1)
theorem RelV.one {v:AVal}{cv:Value}(h:RelV P Γ H w v cv)(hv:v.one=true):cv.oneCell=true:=by
 cases h with
 |lit v=>exact hv
 |own h=>exact h.2.1
 |ptr h=>exact h.2.1
 |yld h=>exact h.2.1
 |agg=>simp[AVal.one]at hv
 |tup=>simp[AVal.one]at hv
 |_=>rfl
theorem EE:∀ {cells:List AVal} {cs vs:List Value},pB cells=some vs->cs.length=cells.length ->
  (∀i (_:i<cells.length) (_:i<cs.length),RelV P Γ H w cells[i] cs[i])->cs=vs:=by
 intro cells
 induction cells with
 |nil=>intro cs vs h hl _;simp only[pB,Option.some.injEq]at h;subst h;simpa using hl
 |cons c cells ih =>
  intro cs vs h hl hr;cases c with
  |lit v =>
   simp only[pB,SG]at h;obtain⟨vs',h1,rfl⟩:=h;cases cs with
   |nil=>simp at hl
   |cons x cs =>
    have h0:=hr 0 (by simp) (by simp);simp only[Tp]at h0;cases h0;have:=ih h1 (by simpa using hl) (fun i a b=>hr (i+1) (by simpa using a) (by simpa using b));rw[this]
  |_=>simp[pB]at h
theorem RelV.cZ {v:AVal}{cv x:Value}(h:RelV P Γ H w v cv)(hx:v.cZ=some x):cv=x:=by
 cases h with
 |lit v=>simpa[AVal.cZ] using hx
 |agg hcs hrel =>
  simp only[AVal.cZ,SG]at hx;obtain⟨l,h1,rfl⟩:=hx;rw[EE h1 hcs hrel]
 |_=>simp[AVal.cZ]at hx
theorem Blk.tD {id:Nat}(h:Γ' id=Γ id)(x:Blk):Blk.le Γ Γ' id x x:=by
 cases x<;>simp[Blk.le,h]
theorem RelH.oE {id:Nat}(R:RelH P G Γ H w)(E:Evo Γ H w Γ' H' w')(hn:H.next<=H'.next)(hget:∀j,j≠id->H'.get j=H.get j)
  (hΓ:∀j,j≠id->Γ' j=Γ j) (hheap:∀j b base n,j≠id->Γ j=some (b,base,n)->w'.heap[b]?=w.heap[b]?)
  (harr:∀g e cells,H'.get id=some (.arr g e cells) ->
   match Γ' id with
   |some (b,base,n)=>∃c,w'.heap[b]?=some (.cells c e (0,0))/\c.size=n/\base+cells.length<=n /\
     ∀i (_:i<cells.length),∃cv,c[base+i]?=some cv/\RelV P Γ' H' w' cells[i] cv
   |none=>cells=[])
  (hloop:∀st pend n env ps asg body,H'.get id=some (.loop st pend n env ps asg body) ->
   ∃b r,Γ' id=some (b,0,0)/\w'.heap[b]?=some (.loop r)/\r.state=st/\r.pending=pend/\r.params=ps/\r.assign=asg/\r.body=body /\
    r.tmps.size=n/\(∀t (_:t<r.tmps.size),RelV P Γ' H' w' (env t) r.tmps[t]))
  (hmp:∀es,H'.get id=some (.mp es)->∃b,Γ' id=some (b,0,0)/\w'.heap[b]?=some (gX es))
  (hrsv:H'.get id=some .rsv->Γ' id=none)
  (hinj:∀j b base n base' n',j≠id->Γ' id=some (b,base,n)->Γ j=some (b,base',n')->False)
  (hdom:∀x,Γ' id=some x->∃y,H'.get id=some y) (hlt:∀b base n,Γ' id=some (b,base,n)->b<w'.heap.size)
  (hnext:∀y,H'.get id=some y->id<H'.next):RelH P G Γ' H' w' where
 arr j g e cells hj:=by
  by_cases h:j=id
  ·subst h;exact harr g e cells hj
  ·rw[hget j h]at hj;have h1:=R.arr j g e cells hj;rw[hΓ j h];cases hg:Γ j with
   |none=>rw[hg]at h1;exact h1
   |some x =>
    obtain⟨b,base,n⟩:=x;rw[hg]at h1;obtain⟨c,a1,a2,a3,a4⟩:=h1;exact⟨c,(hheap j b base n h hg).trans a1,a2,a3,fun i hi=>let ⟨cv,b1,b2⟩:=a4 i hi;⟨cv,b1,b2.bE E hn⟩⟩
 loop j st pend n env ps asg body hj:=by
  by_cases h:j=id
  ·subst h;exact hloop st pend n env ps asg body hj
  ·rw[hget j h]at hj;obtain⟨b,r,a1,a2,a3,a4,a5,a6,a7,a8,a9⟩:=R.loop j st pend n env ps asg body hj;exact⟨b,r,(hΓ j h).trans a1,(hheap j b 0 0 h a1).trans a2,a3,a4,a5,a6,a7,a8,fun t ht=>(a9 t ht).bE E hn⟩
 mp j es hj:=by
  by_cases h:j=id
  ·subst h;exact hmp es hj
  ·rw[hget j h]at hj;obtain⟨b,a1,a2⟩:=R.mp j es hj;exact⟨b,(hΓ j h).trans a1,(hheap j b 0 0 h a1).trans a2⟩
 rsv j hj:=by
  by_cases h:j=id
  ·subst h;exact hrsv hj
  ·rw[hget j h]at hj;rw[hΓ j h];exact R.rsv j hj
 inj i j b base n base' n' h1 h2:=by
  by_cases hi:i=id
  ·by_cases hj:j=id
   ·rw[hi,hj]
   ·rw[hi]at h1;rw[hΓ j hj]at h2;exact(hinj j b base n base' n' hj h1 h2).elim
  ·by_cases hj:j=id
   ·rw[hj]at h2;rw[hΓ i hi]at h1;exact(hinj i b base' n' base n hi h2 h1).elim
   ·rw[hΓ i hi]at h1;rw[hΓ j hj]at h2;exact R.inj i j b base n base' n' h1 h2
 dom j x hx:=by
  by_cases h:j=id
  ·subst h;exact hdom x hx
  ·rw[hΓ j h]at hx;rw[hget j h];exact R.dom j x hx
 lt j b base n hx:=by
  by_cases h:j=id
  ·subst h;exact hlt b base n hx
  ·rw[hΓ j h]at hx;exact S1 (R.lt j b base n hx) E.size
 next j y hy:=by
  by_cases h:j=id
  ·subst h;exact hnext y hy
  ·rw[hget j h]at hy;exact S1 (R.next j y hy) hn
 glob g cells hg:=(R.glob g cells hg).bE E hn
 gsz:=R.qS E
def aK.upd (Γ:aK)(id:Nat)(x:Option (Nat × Nat × Nat)):aK:=fun j=>if j=id then x else Γ j
theorem aK.eO (Γ:aK)(id:Nat)(x:Option (Nat × Nat × Nat)):Γ.upd id x id=x:=by simp[aK.upd]
theorem aK.jQ (Γ:aK)(id:Nat)(x:Option (Nat × Nat × Nat)){j:Nat}(h:j≠id):Γ.upd id x j=Γ j:=by simp[aK.upd,h]
theorem heap_alloc (w:World)(o:Obj)(b:Nat):(w.alloc o).heap[b]?=if b=w.heap.size then some o else w.heap[b]?:=by
 show (w.heap.push o)[b]?=_;rw[U7]
theorem pG {w:World}{o:Obj}{b:Nat}(h:b<w.heap.size):(w.alloc o).heap[b]?=w.heap[b]?:=by
 rw[heap_alloc,SI (by omega)]
theorem jR {id:Nat}{b:Blk}(h:H.lay id b=some H'):
  (∀j,H'.get j=if j=id then some b else H.get j)/\((id=H.next/\H'.next=H.next+1)\/(H.get id=some .rsv/\H'.next=H.next)):=by
 unfold AHeap.lay at h;split at h
 ·rename_i hid;simp only[Option.some.injEq]at h;subst h;exact⟨fun j=>rfl,.inl ⟨hid,rfl⟩⟩
 ·split at h
  ·rename_i hr;simp only[Option.some.injEq]at h;subst h;exact⟨fun j=>rfl,.inr ⟨hr,rfl⟩⟩
  ·cases h
theorem mS (R:RelH P G Γ H w){id:Nat}{b:Blk}(h:H.lay id b=some H'):Γ id=none/\(H.get id=none\/H.get id=some .rsv)/\H.next<=H'.next/\id<H'.next:=by
 obtain⟨_,h2|h2⟩:=jR h
 ·have hn:H.get id=none:=by
   cases hg:H.get id with
   |none=>rfl
   |some y=>have:=R.next id y hg;omega
  have hΓ:Γ id=none:=by
   cases hg:Γ id with
   |none=>rfl
   |some x=>obtain⟨y,hy⟩:=R.dom id x hg;rw[hn]at hy;cases hy
  exact⟨hΓ,.inl hn,by omega,by omega⟩
 ·have:=R.next id _ h2.1;exact⟨R.rsv id h2.1,.inr h2.1,by omega,by omega⟩
theorem qX {id:Nat}{e:TypeId}{cells:List AVal}{c:Array Value}(R:RelH P G Γ H w)(h:H.lay id (.arr 0 e cells)=some H')
  (hlen:cells.length<=c.size) (hrel:∀i (_:i<cells.length),∃cv,c[i]?=some cv/\RelV P Γ H w cells[i] cv):
  Evo Γ H w (Γ.upd id (some (w.heap.size,0,c.size))) H' (w.alloc (.cells c e))/\H.next<=H'.next /\
   RelH P G (Γ.upd id (some (w.heap.size,0,c.size))) H' (w.alloc (.cells c e)):=by
 obtain⟨f1,f2,f3,f4⟩:=mS R h;obtain⟨hget,_⟩:=jR h;have E:Evo Γ H w (Γ.upd id (some (w.heap.size,0,c.size))) H' (w.alloc (.cells c e)):=by
  refine⟨rfl,rfl,rfl,by simp,fun b hb ho=>⟨pG hb,?_⟩,fun j hj hj' x' hx'=>?_,?_⟩
  ·rintro⟨j,base,n,hj⟩;by_cases hji:j=id
   ·rw[hji,aK.eO]at hj;simp only[Option.some.injEq,Prod.mk.injEq]at hj;omega
   ·rw[aK.jQ _ _ _ hji]at hj;exact ho ⟨j,base,n,hj⟩
  ·rw[hget]at hx';by_cases hji:j=id
   ·subst hji;rcases f2 with f2|f2
    ·obtain⟨_,h2|h2⟩:=jR h
     ·omega
     ·rw[f2]at h2;cases h2.1
    ·exact⟨.rsv,f2,trivial⟩
   ·rw[SI hji]at hx';exact⟨x',hx',Blk.tD (aK.jQ _ _ _ hji) _⟩
  ·exact fun a _=>pE rfl (fun _ _ _ h=>by cases h;rfl) a
 refine⟨E,f3,R.oE (id:=id) E f3 (fun j hj=>by rw[hget,SI hj]) (fun j hj=>aK.jQ _ _ _ hj)
  (fun j b base n hj hg=>pG (R.lt j b base n hg)) ?_ ?_ ?_ ?_ ?_ ?_ ?_ ?_⟩
 ·intro g e' cells' hg;rw[hget,SK rfl]at hg;simp only[Option.some.injEq,Blk.arr.injEq]at hg;obtain⟨_,rfl,rfl⟩:=hg;rw[aK.eO];refine⟨c,by rw[heap_alloc,SK rfl],rfl,by omega,fun i hi=>?_⟩;obtain⟨cv,h1,h2⟩:=hrel i hi;exact⟨cv,by rw[Nat.zero_add];exact h1,h2.bE E f3⟩
 ·intro st pend n env ps asg body hg;rw[hget,SK rfl]at hg;cases hg
 ·intro es hg;rw[hget,SK rfl]at hg;cases hg
 ·intro hg;rw[hget,SK rfl]at hg;cases hg
 ·intro j b base n base' n' hj h1 h2;rw[aK.eO]at h1;simp only[Option.some.injEq,Prod.mk.injEq]at h1;have:=R.lt j b base' n' h2;omega
 ·exact fun x _=>⟨_,by rw[hget,SK rfl]⟩
 ·intro b base n h1;rw[aK.eO]at h1;simp only[Option.some.injEq,Prod.mk.injEq]at h1;simp;omega
 ·exact fun _ _=>f4
theorem ae (H:AHeap)(id:Nat)(b:Blk)(j:Nat):(H.upd id b).get j=if j=id then some b else H.get j:=rfl
theorem v7 {id g:Nat}{e:TypeId}{cells cells':List AVal}{b base n:Nat}{c':Array Value}(R:RelH P G Γ H w)
  (hg:H.get id=some (.arr g e cells)) (hΓ:Γ id=some (b,base,n)) (hlen:cells'.length=cells.length) (hsz:c'.size=n)
  (hrel:∀i (_:i<cells'.length),∃cv,c'[base+i]?=some cv/\RelV P Γ H w cells'[i] cv):
  Evo Γ H w Γ (H.upd id (.arr g e cells')) (bY w b (.cells c' e (0,0)))/\RelH P G Γ (H.upd id (.arr g e cells')) (bY w b (.cells c' e (0,0))):=by
 have hblk:=R.lt id b base n hΓ;have E:Evo Γ H w Γ (H.upd id (.arr g e cells')) (bY w b (.cells c' e (0,0))):=by
  refine⟨rfl,rfl,rfl,by rw[jN];exact Nat.le_refl _,fun b' hb ho=>⟨?_,ho⟩,fun j hj hj' x' hx'=>?_,?_⟩
  ·rw[fg,SI];rintro⟨rfl,_⟩;exact ho ⟨id,base,n,hΓ⟩
  ·rw[ae]at hx';by_cases hji:j=id
   ·subst hji;rw[SK rfl]at hx';cases hx';exact⟨_,hg,Nat.le_refl _,fun _=>⟨rfl,rfl,hlen⟩⟩
   ·rw[SI hji]at hx';exact⟨x',hx',Blk.le_refl _ _ _⟩
  ·have h0:=R.arr id g e cells hg;rw[hΓ]at h0;obtain⟨c,a1,_⟩:=h0;exact fun a _=>qT a1 (fun _ _ _ h=>by cases h;rfl) (fun _ _ _ h=>by cases h;rfl) a
 have h0:=R.arr id g e cells hg;rw[hΓ]at h0;obtain⟨c,a1,a2,a3,a4⟩:=h0;refine⟨E,R.oE (id:=id) E (Nat.le_refl _) (fun j hj=>by rw[ae,SI hj]) (fun j hj=>rfl)
  (fun j b' base' n' hj hg'=>?_) ?_ ?_ ?_ ?_ ?_ ?_ ?_ ?_⟩
 ·rw[fg,SI];rintro⟨rfl,_⟩;exact hj (R.inj j id b' base' n' base n hg' hΓ)
 ·intro g' e' cells'' hg';rw[ae,SK rfl]at hg';simp only[Option.some.injEq,Blk.arr.injEq]at hg';obtain⟨rfl,rfl,rfl⟩:=hg';rw[hΓ];refine⟨c',by rw[fg,SK ⟨rfl,hblk⟩],hsz,by omega,fun i hi=>?_⟩;obtain⟨cv,h1,h2⟩:=hrel i hi;exact⟨cv,h1,h2.bE E (Nat.le_refl _)⟩
 ·intro st pend n env ps asg body hg';rw[ae,SK rfl]at hg';cases hg'
 ·intro es hg';rw[ae,SK rfl]at hg';cases hg'
 ·intro hg';rw[ae,SK rfl]at hg';cases hg'
 ·intro j b' base' n' base'' n'' hj h1 h2;rw[hΓ]at h1;simp only[Option.some.injEq,Prod.mk.injEq]at h1;obtain⟨rfl,rfl,rfl⟩:=h1;exact hj (R.inj j id _ _ _ _ _ h2 hΓ)
 ·exact fun x _=>⟨_,by rw[ae,SK rfl]⟩
 ·intro b' base' n' h1;rw[jN];exact R.lt id b' base' n' h1
 ·exact fun _ _=>R.next id _ hg
theorem EF {id g:Nat}{e:TypeId}{cells cells':List AVal}{b base n base':Nat}{c':Array Value}(R:RelH P G Γ H w)
  (hg:H.get id=some (.arr g e cells)) (hΓ:Γ id=some (b,base,n)) (hsz:c'.size=n) (hle:base'+cells'.length<=n)
  (hrel:∀i (_:i<cells'.length),∃cv,c'[base'+i]?=some cv/\RelV P Γ H w cells'[i] cv):
  Evo Γ H w (Γ.upd id (some (b,base',n))) (H.upd id (.arr (g+1) e cells')) (bY w b (.cells c' e (0,0))) /\
   RelH P G (Γ.upd id (some (b,base',n))) (H.upd id (.arr (g+1) e cells')) (bY w b (.cells c' e (0,0))):=by
 have hblk:=R.lt id b base n hΓ;have E:Evo Γ H w (Γ.upd id (some (b,base',n))) (H.upd id (.arr (g+1) e cells')) (bY w b (.cells c' e (0,0))):=by
  refine⟨rfl,rfl,rfl,by rw[jN];exact Nat.le_refl _,fun b' hb ho=>⟨?_,?_⟩,fun j hj hj' x' hx'=>?_,?_⟩
  ·rw[fg,SI];rintro⟨rfl,_⟩;exact ho ⟨id,base,n,hΓ⟩
  ·rintro⟨j,base'',n'',hj⟩;by_cases hji:j=id
   ·rw[hji,aK.eO]at hj;simp only[Option.some.injEq,Prod.mk.injEq]at hj;exact ho ⟨id,base,n,by rw[hΓ,hj.1]⟩
   ·rw[aK.jQ _ _ _ hji]at hj;exact ho ⟨j,base'',n'',hj⟩
  ·rw[ae]at hx';by_cases hji:j=id
   ·subst hji;rw[SK rfl]at hx';cases hx';exact⟨_,hg,Uc _,fun h=>by omega⟩
   ·rw[SI hji]at hx';exact⟨x',hx',Blk.tD (aK.jQ _ _ _ hji) _⟩
  ·have h0:=R.arr id g e cells hg;rw[hΓ]at h0;obtain⟨c,a1,_⟩:=h0;exact fun a _=>qT a1 (fun _ _ _ h=>by cases h;rfl) (fun _ _ _ h=>by cases h;rfl) a
 refine⟨E,R.oE (id:=id) E (Nat.le_refl _) (fun j hj=>by rw[ae,SI hj]) (fun j hj=>aK.jQ _ _ _ hj)
  (fun j b' base' n' hj hg'=>?_) ?_ ?_ ?_ ?_ ?_ ?_ ?_ ?_⟩
 ·rw[fg,SI];rintro⟨rfl,_⟩;exact hj (R.inj j id b' base' n' base n hg' hΓ)
 ·intro g' e' cells'' hg';rw[ae,SK rfl]at hg';simp only[Option.some.injEq,Blk.arr.injEq]at hg';obtain⟨rfl,rfl,rfl⟩:=hg';rw[aK.eO];refine⟨c',by rw[fg,SK ⟨rfl,hblk⟩],hsz,hle,fun i hi=>?_⟩;obtain⟨cv,h1,h2⟩:=hrel i hi;exact⟨cv,h1,h2.bE E (Nat.le_refl _)⟩
 ·intro st pend n env ps asg body hg';rw[ae,SK rfl]at hg';cases hg'
 ·intro es hg';rw[ae,SK rfl]at hg';cases hg'
 ·intro hg';rw[ae,SK rfl]at hg';cases hg'
 ·intro j b' base' n' base'' n'' hj h1 h2;rw[aK.eO]at h1;simp only[Option.some.injEq,Prod.mk.injEq]at h1;obtain⟨rfl,rfl,rfl⟩:=h1;exact hj (R.inj j id _ _ _ _ _ h2 hΓ)
 ·exact fun x _=>⟨_,by rw[ae,SK rfl]⟩
 ·intro b' base'' n' h1;rw[aK.eO]at h1;simp only[Option.some.injEq,Prod.mk.injEq]at h1;rw[jN];omega
 ·exact fun _ _=>R.next id _ hg
theorem EG {id g:Nat}{e:TypeId}{cells cells':List AVal}{c':Array Value}(R:RelH P G Γ H w)
  (hg:H.get id=some (.arr g e cells)) (hle:cells'.length<=c'.size)
  (hrel:∀i (_:i<cells'.length),∃cv,c'[i]?=some cv/\RelV P Γ H w cells'[i] cv):
  Evo Γ H w (Γ.upd id (some (w.heap.size,0,c'.size))) (H.upd id (.arr (g+1) e cells')) (w.alloc (.cells c' e)) /\
   RelH P G (Γ.upd id (some (w.heap.size,0,c'.size))) (H.upd id (.arr (g+1) e cells')) (w.alloc (.cells c' e)):=by
 have E:Evo Γ H w (Γ.upd id (some (w.heap.size,0,c'.size))) (H.upd id (.arr (g+1) e cells')) (w.alloc (.cells c' e)):=by
  refine⟨rfl,rfl,rfl,by simp,fun b' hb ho=>⟨pG hb,?_⟩,fun j hj hj' x' hx'=>?_,?_⟩
  ·rintro⟨j,base'',n'',hj⟩;by_cases hji:j=id
   ·rw[hji,aK.eO]at hj;simp only[Option.some.injEq,Prod.mk.injEq]at hj;omega
   ·rw[aK.jQ _ _ _ hji]at hj;exact ho ⟨j,base'',n'',hj⟩
  ·rw[ae]at hx';by_cases hji:j=id
   ·subst hji;rw[SK rfl]at hx';cases hx';exact⟨_,hg,Uc _,fun h=>by omega⟩
   ·rw[SI hji]at hx';exact⟨x',hx',Blk.tD (aK.jQ _ _ _ hji) _⟩
  ·exact fun a _=>pE rfl (fun _ _ _ h=>by cases h;rfl) a
 refine⟨E,R.oE (id:=id) E (Nat.le_refl _) (fun j hj=>by rw[ae,SI hj]) (fun j hj=>aK.jQ _ _ _ hj)
  (fun j b' base' n' hj hg'=>pG (R.lt j b' base' n' hg')) ?_ ?_ ?_ ?_ ?_ ?_ ?_ ?_⟩
 ·intro g' e' cells'' hg';rw[ae,SK rfl]at hg';simp only[Option.some.injEq,Blk.arr.injEq]at hg';obtain⟨rfl,rfl,rfl⟩:=hg';rw[aK.eO];refine⟨c',by rw[heap_alloc,SK rfl],rfl,by omega,fun i hi=>?_⟩;obtain⟨cv,h1,h2⟩:=hrel i hi;exact⟨cv,by rw[Nat.zero_add];exact h1,h2.bE E (Nat.le_refl _)⟩
 ·intro st pend n env ps asg body hg';rw[ae,SK rfl]at hg';cases hg'
 ·intro es hg';rw[ae,SK rfl]at hg';cases hg'
 ·intro hg';rw[ae,SK rfl]at hg';cases hg'
 ·intro j b' base' n' base'' n'' hj h1 h2;rw[aK.eO]at h1;simp only[Option.some.injEq,Prod.mk.injEq]at h1;have:=R.lt j _ _ _ h2;omega
 ·exact fun x _=>⟨_,by rw[ae,SK rfl]⟩
 ·intro b' base'' n' h1;rw[aK.eO]at h1;simp only[Option.some.injEq,Prod.mk.injEq]at h1;simp;omega
 ·exact fun _ _=>R.next id _ hg
theorem tE (Γ:aK)(H:AHeap)(w:World)(n:Nat):Evo Γ H w Γ H { w with drawn:=n } :=
 ⟨rfl,rfl,rfl,Nat.le_refl _,fun _ _ h=>⟨rfl,h⟩,fun _ _ _ x' h=>⟨x',h,Blk.le_refl _ _ _⟩,fun _ _=>rfl⟩
theorem RelH.drew (R:RelH P G Γ H w)(n:Nat):RelH P G Γ H { w with drawn:=n } :=
 R.oE (id:=H.next) (tE Γ H w n) (Nat.le_refl _) (fun _ _=>rfl) (fun _ _=>rfl) (fun _ _ _ _ _ _=>rfl)
  (fun g e cells h=>absurd (R.next _ _ h) (UK _)) (fun st pend n env ps asg body h=>absurd (R.next _ _ h) (UK _)) (fun es h=>absurd (R.next _ _ h) (UK _))
  (fun h=>absurd (R.next _ _ h) (UK _))
  (fun j b base n base' n' hj h1 h2=>by obtain⟨y,hy⟩:=R.dom _ _ h1;exact absurd (R.next _ _ hy) (UK _))
  (fun x hx=>R.dom _ x hx) (fun b base n hx=>R.lt _ b base n hx) (fun y hy=>R.next _ y hy)
theorem EI {id:Nat}(R:RelH P G Γ H w)(h:H.lay id (.mp [])=some H'):
  Evo Γ H w (Γ.upd id (some (w.heap.size,0,0))) H' (w.alloc (gX []))/\H.next<=H'.next/\RelH P G (Γ.upd id (some (w.heap.size,0,0))) H' (w.alloc (gX [])):=by
 obtain⟨f1,f2,f3,f4⟩:=mS R h;obtain⟨hget,hor⟩:=jR h;have E:Evo Γ H w (Γ.upd id (some (w.heap.size,0,0))) H' (w.alloc (gX [])):=by
  refine⟨rfl,rfl,rfl,by simp,fun b hb ho=>⟨pG hb,?_⟩,fun j hj hj' x' hx'=>?_,?_⟩
  ·rintro⟨j,base,n,hj⟩;by_cases hji:j=id
   ·rw[hji,aK.eO]at hj;simp only[Option.some.injEq,Prod.mk.injEq]at hj;omega
   ·rw[aK.jQ _ _ _ hji]at hj;exact ho ⟨j,base,n,hj⟩
  ·rw[hget]at hx';by_cases hji:j=id
   ·subst hji;rcases f2 with f2|f2
    ·rcases hor with ⟨h1,h2⟩|h2
     ·omega
     ·rw[f2]at h2;cases h2.1
    ·exact⟨.rsv,f2,trivial⟩
   ·rw[SI hji]at hx';exact⟨x',hx',Blk.tD (aK.jQ _ _ _ hji) _⟩
  ·exact fun a _=>pE rfl (fun _ _ _ h=>by cases h) a
 refine⟨E,f3,R.oE (id:=id) E f3 (fun j hj=>by rw[hget,SI hj]) (fun j hj=>aK.jQ _ _ _ hj)
  (fun j b base n hj hg=>pG (R.lt j b base n hg)) ?_ ?_ ?_ ?_ ?_ ?_ ?_ ?_⟩
 ·intro g e' cells' hg;rw[hget,SK rfl]at hg;cases hg
 ·intro st pend n env ps asg body hg;rw[hget,SK rfl]at hg;cases hg
 ·intro es hg;rw[hget,SK rfl]at hg;cases hg;exact⟨w.heap.size,aK.eO _ _ _,by rw[heap_alloc,SK rfl]⟩
 ·intro hg;rw[hget,SK rfl]at hg;cases hg
 ·intro j b base n base' n' hj h1 h2;rw[aK.eO]at h1;simp only[Option.some.injEq,Prod.mk.injEq]at h1;have:=R.lt j b base' n' h2;omega
 ·exact fun x _=>⟨_,by rw[hget,SK rfl]⟩
 ·intro b base n h1;rw[aK.eO]at h1;simp only[Option.some.injEq,Prod.mk.injEq]at h1;simp;omega
 ·exact fun _ _=>f4
theorem tF {id b:Nat}{es:List (Int × Int)}(es':List (Int × Int))(R:RelH P G Γ H w)(hg:H.get id=some (.mp es))(hΓ:Γ id=some (b,0,0))(hb:w.heap[b]?=some (gX es)):
  Evo Γ H w Γ (H.upd id (.mp es')) (bY w b (gX es'))/\RelH P G Γ (H.upd id (.mp es')) (bY w b (gX es')):=by
 have hblk:=R.lt id b 0 0 hΓ;have E:Evo Γ H w Γ (H.upd id (.mp es')) (bY w b (gX es')):=by
  refine⟨rfl,rfl,rfl,by rw[jN];exact Nat.le_refl _,fun b' hb ho=>⟨?_,ho⟩,fun j hj hj' x' hx'=>?_,?_⟩
  ·rw[fg,SI];rintro⟨rfl,_⟩;exact ho ⟨id,0,0,hΓ⟩
  ·rw[ae]at hx';by_cases hji:j=id
   ·subst hji;rw[SK rfl]at hx';cases hx';exact⟨_,hg,rfl⟩
   ·rw[SI hji]at hx';exact⟨x',hx',Blk.le_refl _ _ _⟩
  ·exact fun a _=>qT hb (fun _ _ _ h=>by cases h) (fun _ _ _ h=>by cases h) a
 refine⟨E,R.oE (id:=id) E (Nat.le_refl _) (fun j hj=>by rw[ae,SI hj]) (fun j hj=>rfl)
  (fun j b' base' n' hj hg'=>?_) ?_ ?_ ?_ ?_ ?_ ?_ ?_ ?_⟩
 ·rw[fg,SI];rintro⟨rfl,_⟩;exact hj (R.inj j id b' base' n' 0 0 hg' hΓ)
 ·intro g' e' cells'' hg';rw[ae,SK rfl]at hg';cases hg'
 ·intro st pend n env ps asg body hg';rw[ae,SK rfl]at hg';cases hg'
 ·intro es2 hg';rw[ae,SK rfl]at hg';cases hg';exact⟨b,hΓ,by rw[fg,SK ⟨rfl,hblk⟩]⟩
 ·intro hg';rw[ae,SK rfl]at hg';cases hg'
 ·intro j b' base' n' base'' n'' hj h1 h2;rw[hΓ]at h1;simp only[Option.some.injEq,Prod.mk.injEq]at h1;obtain⟨rfl,rfl,rfl⟩:=h1;exact hj (R.inj j id _ _ _ _ _ h2 hΓ)
 ·exact fun x _=>⟨_,by rw[ae,SK rfl]⟩
 ·intro b' base' n' h1;rw[jN];exact R.lt id b' base' n' h1
 ·exact fun _ _=>R.next id _ hg
end Go.Hx
namespace Go.Hx
def aB (G:Nat->Option (List AVal))(ρ:Env):Operand->AVal
 |.tmp t=>ρ t
 |.const v=>.lit v
 |.global g=>match G g with|some cells=>.vptr cells 0|none=>.lit (.pointer (some ⟨g,0,none⟩))
 |.func f=>.clo f [] []
def bR (P:Program)(t:TypeId):Option (List AVal) :=
 match P.info? t with
 |some i=>match i.zero with
  |some z=>if z.cells.size=i.size then some (z.cells.toList.map .lit) else none
  |none=>none
 |none=>none
def kr (P:Program)(t:TypeId)(n:Nat):Option (List AVal):=(bR P t).map fun z=>(List.replicate n z).flatten
def iV (P:Program)(t:TypeId):Option (List (Nat × Nat)) :=
 match P.underlying t with
 |some (.struct fs)=>if fs.toList.all fun f=>(P.info? f.type).isSome then some (fs.toList.map fun f=>(f.offset,P.cellsOf f.type)) else none
 |_=>none
def bU (P:Program)(t:TypeId)(i:Nat):Option (Nat × TypeId) :=
 match P.underlying t with
 |some (.struct fs)=>match fs[i]? with
  |some f=>if (P.info? f.type).isSome/\P.cellsOf f.type≠0 then some (f.offset,f.type) else none
  |none=>none
 |_=>none
def AHeap.live (H:AHeap)(id gen:Nat):Option (TypeId × List AVal) :=
 match H.get id with
 |some (.arr g e cells)=>if g=gen then some (e,cells) else none
 |_=>none
def cw:Option AVal->Nat->Nat->Option Nat
 |none,d,_=>some d
 |some (.lit (.int _ i)),_,m=>if 0<=i/\i<=(m:Int) then some i.toNat else none
 |_,_,_=>none
def mT (P:Program)(H:AHeap)(t:TypeId)(x:AVal)(i:Int):Option AVal :=
 match P.underlying t with
 |some (.array n e) =>
  if 0<=i/\i<(n:Int)/\(P.underlying e).isSome then
   match x with
   |.ptr id gen off=>(H.live id gen).map fun _=>.ptr id gen (off+i.toNat*P.cellsOf e)
   |.vptr cells off=>some (.vptr cells (off+i.toNat*P.cellsOf e))
   |_=>none
  else none
 |some (.slice e) =>
  if (P.underlying e).isSome then
   match x with
   |.own id gen off len sz=>if 0<=i/\i<(len:Int)/\sz=P.cellsOf e then (H.live id gen).map fun _=>.ptr id gen (off+i.toNat*P.cellsOf e) else none
   |.vec len cells=>if 0<=i/\i<(len:Int)/\cells≠[] then some (.vptr cells (i.toNat*P.cellsOf e)) else none
   |_=>none
  else none
 |_=>none
def mU (P:Program)(H:AHeap)(t:TypeId)(x:AVal)(lo hi:Option AVal):Option AVal :=
 match P.underlying t with
 |some (.array n e) =>
  if (P.underlying e).isSome then
   match x with
   |.ptr id gen off =>
    match H.live id gen with
    |some (_,cells) =>
     if off+n*P.cellsOf e<=cells.length then
      (cw hi n n).bind fun h=>(cw lo 0 h).map fun l=>.own id gen (off+l*P.cellsOf e) (h-l) (P.cellsOf e)
     else none
    |none=>none
   | .vptr cells off=>if off+n*P.cellsOf e≤cells.length then
      (cw hi n n).bind fun h=>(cw lo 0 h).map fun l=>.vec (h-l) ((cells.drop (off+l*P.cellsOf e)).take ((h-l)*P.cellsOf e))
     else none
   |_=>none
  else none
 |some (.slice e) =>
  if (P.underlying e).isSome then
   match x with
   |.own id gen off len sz=>if sz=P.cellsOf e then (H.live id gen).bind fun _=>(cw hi len len).bind fun h=>(cw lo 0 h).map fun l=>.own id gen (off+l*sz) (h-l) sz else none
   |.vec len cells=>if cells.length=len*P.cellsOf e then (cw hi len len).bind fun h=>(cw lo 0 h).map fun l=>.vec (h-l) ((cells.drop (l*P.cellsOf e)).take ((h-l)*P.cellsOf e)) else none
   |.lit (.slice none 0 0)=>(cw hi 0 0).bind fun h=>(cw lo 0 h).map fun _=>.lit (.slice none 0 0)
   |_=>none
  else none
 |some .string =>
  match x with
  |.lit (.string s)=>(cw hi s.size s.size).bind fun h=>(cw lo 0 h).map fun l=>.lit (.string (s.extract l h))
  |_=>none
 |_=>none
def cV (H:AHeap)(sz:Nat):AVal->Option (Nat × List AVal)
 |.vec len cells=>if cells.length=len*sz then some (len,cells) else none
 |.own id gen off len sz'=>if sz'=sz then (H.live id gen).map fun x=>(len,(x.2.drop off).take (len*sz)) else none
 |.lit (.slice none 0 0)=>some (0,[])
 |_=>none
def bM (P:Program)(H:AHeap)(id:Nat)(at0 at1:TypeId)(s x:AVal):Option (AVal × AHeap) :=
 match P.underlying at0 with
 |some (.slice e) =>
  match P.underlying at1 with
  |some (.slice _) =>
   (bR P e).bind fun _ =>
   (cV H (P.cellsOf e) x).bind fun nx =>
    match s with
    |.lit (.slice none 0 0) =>
     if nx.1=0 then some (s,H)
     else if nx.1*P.bytesOf e<=2 ^ 46/\nx.1<=2 ^ 46 then (H.lay id (.arr 0 e nx.2)).map fun H'=>(.own id 0 0 nx.1 (P.cellsOf e),H')
     else none
    |.own id' gen off len sz =>
     (H.live id' gen).bind fun ec =>
      if ec.1=e/\sz=P.cellsOf e/\off+len*sz=ec.2.length/\(len+nx.1)*P.bytesOf e<=2 ^ 46/\len+nx.1<=2 ^ 46/\nx.2.all AVal.one=true then
       if nx.1=0 then some (s,H)
       else some (.own id' (gen+1) 0 (len+nx.1) sz,H.upd id' (.arr (gen+1) e (ec.2.drop off++nx.2)))
      else none
    |_=>none
  |_=>none
 |_=>none
def lk (P:Program)(H:AHeap)(at0:TypeId)(d x:AVal):Option (AVal × AHeap) :=
 match P.underlying at0 with
 |some (.slice e) =>
  if (P.underlying e).isSome then
   (cV H (P.cellsOf e) x).bind fun nx =>
    match d with
    |.own id gen off len sz =>
     (H.live id gen).bind fun ec =>
      if sz=P.cellsOf e/\off+len*sz<=ec.2.length/\nx.2.all AVal.one=true then
       some (.lit (.int .i64 (min nx.1 len:Nat)),H.upd id (.arr gen ec.1 (setAt ec.2 off (nx.2.take (min nx.1 len*sz)))))
      else none
    |_=>none
  else none
 |_=>none
def mh (P:Program)(H:AHeap)(t:TypeId)(x:AVal):Option AVal :=
 match P.underlying t with
 |some (.slice _) =>
  match x with
  |.vec len _=>some (.lit (.int .i64 len))
  |.own id gen _ len _=>(H.live id gen).map fun _=>.lit (.int .i64 len)
  |.lit (.slice none 0 0)=>some (.lit (.int .i64 0))
  |_=>none
 |some .string =>
  match x with
  |.lit (.string s)=>some (.lit (.int .i64 s.size))
  |_=>none
 |some (.array n _)=>some (.lit (.int .i64 n))
 |_=>none
def mV (P:Program)(t:TypeId):Bool:=match P.underlying t with
 |some (.map kt et)=>(match P.underlying kt with|some (.int .i64)=>true|_=>false) && (match (P.info? et).bind (·.zero) with|some (.int .i64 0)=>true|_=>false)
 |_=>false
def gf (k:Int):Nat->List (Int × Int)->Option (Nat × Int)
 |_,[]=>none
 |i,(a,v) :: l=>if k=a then some (i,v) else gf k (i+1) l
def pH (es:List (Int × Int))(k v:Int):List (Int × Int):=match gf k 0 es with
 |some (i,_)=>es.set i (k,v)
 |none=>es++[(k,v)]
def v9 (es:List (Int × Int))(i:Nat)(v:Int):List (Int × Int):=match es[i]? with
 |some (k,_)=>es.set i (k,v)
 |none=>es
def qY (ok:Bool)(r:Option (Nat × Int)):AVal:=match r with
 |some (_,v)=>if ok then .tup [.lit (.int .i64 v),.lit (.bool true)] else .lit (.int .i64 v)
 |none=>if ok then .tup [.lit (.int .i64 0),.lit (.bool false)] else .lit (.int .i64 0)
def mi (P:Program)(H:AHeap)(t:TypeId)(x i:AVal)(ok:Bool):Option AVal:=if mV P t=true then
  match x,i with
  |.lit (.map none),.lit (.int .i64 _)=>some (qY ok none)
  |.yld id,.lit (.int .i64 k)=>match H.get id with
   |some (.mp es)=>some (qY ok (gf k 0 es))
   |_=>none
  |_,_=>none
 else none
def jA (P:Program)(H:AHeap)(t:TypeId)(m k x:AVal):Option (AVal × AHeap):=if mV P t=true then
  match m,k,x with
  |.yld id,.lit (.int .i64 k),.lit (.int .i64 v)=>match H.get id with
   |some (.mp es)=>some (.lit undef,H.upd id (.mp (pH es k v)))
   |_=>none
  |_,_,_=>none
 else none
def oF (P:Program)(H:AHeap)(t:TypeId)(m k:AVal):Option (AVal × AHeap):=if mV P t=true then
  match m,k with
  |.yld id,.lit (.int .i64 k)=>match H.get id with
   |some (.mp es)=>match gf k 0 es with
    |some (i,v)=>some (.tup [.lit (.int .i64 v),.lit (.int .i64 i)],H.upd id (.mp es))
    |none=>some (.tup [.lit (.int .i64 0),.lit (.int .i64 es.length)],H.upd id (.mp (es++[(k,0)])))
   |_=>none
  |_,_=>none
 else none
def pI (H:AHeap)(m s x:AVal):Option (AVal × AHeap) :=
 match m,s,x with
 |.yld id,.lit (.int .i64 s),.lit (.int .i64 v)=>match H.get id with
  |some (.mp es)=>if 0<=s/\s<es.length then some (.lit undef,H.upd id (.mp (v9 es s.toNat v))) else none
  |_=>none
 |_,_,_=>none
def lu (P:Program)(H:AHeap)(at0:TypeId)(d:AVal):Option (AVal × AHeap) :=
 match P.underlying at0 with
 |some (.slice e) =>
  match d with
  |.lit (.slice none 0 0)=>some (.tup [],H)
  |.own id gen off len sz =>
   (H.live id gen).bind fun ec =>
    if len=0 then some (.tup [],H)
    else (kr P e len).bind fun z =>
     if z.length=len*sz/\off+len*sz<=ec.2.length/\z.all AVal.one=true then some (.tup [],H.upd id (.arr gen ec.1 (setAt ec.2 off z)))
     else none
  |_=>none
 |_=>none
def pJ:List AVal->Option (List Value)
 | []=>some []
 |v :: r=>(v.cZ).bind fun x=>(pJ r).map (x :: ·)
def gZ (P:Program)(H:AHeap)(id:Nat)(b:Builtin)(ats:List TypeId)(args:List AVal):Option (AVal × AHeap) :=
 match b,ats,args with
 |.len,[t],[x]=>(mh P H t x).map fun v=>(v,H)
 |.append,[t,u],[s,x]=>bM P H id t u s x
 |.copy,[t,_],[d,x]=>lk P H t d x
 |.clear,[t],[d]=>lu P H t d
 |.min,_,args=>(pJ args).bind fun vs=>(bF P (Builtin.min_ #[] 0 vs.toArray)).map fun v=>(.lit v,H)
 |.max,_,args=>(pJ args).bind fun vs=>(bF P (Builtin.max_ #[] 0 vs.toArray)).map fun v=>(.lit v,H)
 |_,_,_=>none
def mj (P:Program)(H:AHeap)(id:Nat)(t:TypeId)(l c:AVal):Option (AVal × AHeap) :=
 match P.underlying t,l,c with
 |some (.slice e),.lit (.int _ l),.lit (.int _ c) =>
  if 0<=l/\l<=c/\c*P.bytesOf e<=2 ^ 46/\c<=2 ^ 46 then
   (kr P e l.toNat).bind fun cells=>(H.lay id (.arr 0 e cells)).map fun H'=>(.own id 0 0 l.toNat (P.cellsOf e),H')
  else none
 |_,_,_=>none
def re (P:Program)(t:TypeId)(parts:List (Nat × AVal)):Option AVal :=
 (bR P t).bind fun z =>
  match P.underlying t with
  |some (.struct _)=>(iV P t).bind fun pl=>(fR (fun i=>pl[i]?) z parts).map .agg
  |some (.array _ e)=>if (P.underlying e).isSome then (fR (fun i=>some (i*P.cellsOf e,P.cellsOf e)) z parts).map .agg else none
  |_=>none
def mW (P:Program)(H:AHeap)(id:Nat)(t:TypeId)(len:Nat)(parts:List (Nat × AVal)):Option (AVal × AHeap) :=
 match P.underlying t with
 |some (.slice e) =>
  if len*P.cellsOf e<=2 ^ 24 then
   (kr P e len).bind fun z=>(fR (fun i=>some (i*P.cellsOf e,P.cellsOf e)) z parts).bind fun cells =>
    (H.lay id (.arr 0 e cells)).map fun H'=>(.own id 0 0 len (P.cellsOf e),H')
  else none
 |_=>none
def bx (P:Program)(op:BinOp)(t:TypeId)(x y:Operand)(a b:AVal):Option AVal :=
 match a.cZ,b.cZ with
 |some a,some b=>(bF P (do eqGuard op t x y a b;binOp op t a b)).map .lit
 |_,_=>none
def pK (P:Program)(op:UnOp)(a:AVal):Option AVal :=
 match a.cZ with
 |some a=>(bF P (Op.unary op a)).map .lit
 |none=>none
def lz (P:Program)(s d:TypeId)(a:AVal):Option AVal :=
 match a.cZ with
 |some a=>(bF P (convert s d a)).map .lit
 |none=>none
def pL:List AVal->Option (List Int)
 | []=>some []
 |.lit (.int .u8 n) :: l=>(pL l).map (n :: ·)
 |_ :: _=>none
def zL (l:List Int):ByteArray:=l.foldl (fun r n=>r.push (UInt8.ofNat n.toNat)) ByteArray.empty
def zM (P:Program)(s d:TypeId):Bool:=match P.underlying s,P.underlying d with
 |some (.slice e),some .string=>match P.underlying e with
  |some (.int .u8)=>true
  |_=>false
 |_,_=>false
def mX (P:Program)(H:AHeap)(s d:TypeId)(x:AVal):Option AVal :=
 if zM P s d then (cV H 1 x).bind fun nl=>(pL nl.2).map fun l=>.lit (.string (zL l)) else none
def lD (P:Program)(H:AHeap)(s d:TypeId)(x:AVal):Option AVal:=match x with
 |.own id g o l z=>mX P H s d (.own id g o l z)
 |.vec l c=>mX P H s d (.vec l c)
 |x=>lz P s d x
def lE (H:AHeap):AVal->Option AVal
 |.ptr id gen off=>(H.live id gen).map fun _=>.ptr id gen off
 |.vptr cells off=>some (.vptr cells off)
 |.clo f a b=>some (.clo f a b)
 |_=>none
def tG (P:Program)(t:TypeId)(x:AVal)(i:AVal):Option AVal :=
 match x,i with
 |.agg cells,.lit (.int _ i) =>
  match P.underlying t with
  |some (.array n e)=>if 0<=i/\i<(n:Int) then iU P e cells (i.toNat*P.cellsOf e) else none
  |_=>none
 |.lit v,.lit i=>(bF P (Instr.index t v i)).map .lit
 |_,_=>none
def mY:AVal->Nat->Option AVal
 |.tup vs,i=>vs[i]?
 |.lit (.tuple vs),i=>(vs[i]?).map .lit
 |_,_=>none
def av (P:Program)(G:Nat->Option (List AVal))(ρ:Env)(H:AHeap)(id:Nat)(o:Op):Option (AVal × AHeap) :=
 match o with
 |.move x|.assign x=>some (aB G ρ x,H)
 |.pick c a b=>match aB G ρ c with
  |.lit (.bool t)=>some (if t then aB G ρ a else aB G ρ b,H)
  |_=>none
 |.alloc e=>(bR P e).bind fun z=>(H.lay id (.arr 0 e z)).map fun H'=>(.ptr id 0 0,H')
 |.box e x=>(H.lay id (.arr 0 e (aB G ρ x).cells)).map fun H'=>(.ptr id 0 0,H')
 |.build t parts=>(re P t (parts.toList.map fun p=>(p.1,aB G ρ p.2))).map fun v=>(v,H)
 |.buildSlice t len parts=>mW P H id t len (parts.toList.map fun p=>(p.1,aB G ρ p.2))
 |.load t a=>(gY P H t (aB G ρ a)).map fun v=>(v,H)
 |.store t a x=>if (P.underlying t).isSome then (jO P H t (aB G ρ a) (aB G ρ x)).map fun H'=>(.lit undef,H') else none
 |.nilCheck x=>(lE H (aB G ρ x)).map fun v=>(v,H)
 |.binOp op t x y _=>(bx P op t x y (aB G ρ x) (aB G ρ y)).map fun v=>(v,H)
 |.unOp op _ x=>(pK P op (aB G ρ x)).map fun v=>(v,H)
 |.convert s d x=>(lD P H s d (aB G ρ x)).map fun v=>(v,H)
 |.makeInterface t x=>match (aB G ρ x).cZ with
  |some v=>(bF P (Instr.makeInterface t v)).map fun r=>(.lit r,H)
  |none=>none
 |.makeFunc fn first captured=>match fn with
  |.func f=>some (.clo f (first.toList.map (aB G ρ)) (captured.toList.map (aB G ρ)),H)
  |_=>none
 |.makeSlice t l c=>mj P H id t (aB G ρ l) (aB G ρ c)
 |.slice t x lo hi mx=>match mx with
  |none=>(mU P H t (aB G ρ x) (lo.map (aB G ρ)) (hi.map (aB G ρ))).map fun v=>(v,H)
  |some _=>none
 |.fieldAddr s x f=>(bU P s f).bind fun of=>match aB G ρ x with
  |.ptr id gen off=>(H.live id gen).map fun _=>(.ptr id gen (off+of.1),H)
  |.vptr cells off=>some (.vptr cells (off+of.1),H)
  |_=>none
 |.field t x f=>(bU P t f).bind fun of=>match aB G ρ x with
  |.agg cells=>(iU P of.2 cells of.1).map fun v=>(v,H)
  |.lit (.agg cs)=>(iU P of.2 (cs.toList.map .lit) of.1).map fun v=>(v,H)
  |_=>none
 |.indexAddr t x i=>match aB G ρ i with
  |.lit (.int _ i)=>(mT P H t (aB G ρ x) i).map fun v=>(v,H)
  |_=>none
 |.index t x i=>(tG P t (aB G ρ x) (aB G ρ i)).map fun v=>(v,H)
 |.extract t i=>(mY (aB G ρ t) i).map fun v=>(v,H)
 |.makeMap _ r=>match r with
  |none=>(H.lay id (.mp [])).map fun H'=>(.yld id,H')
  |some _=>none
 |.lookup t x i ok=>(mi P H t (aB G ρ x) (aB G ρ i) ok).map fun v=>(v,H)
 |.mapUpdate t m k x|.insert t m k x=>jA P H t (aB G ρ m) (aB G ρ k) (aB G ρ x)
 |.mapEntry t m k=>oF P H t (aB G ρ m) (aB G ρ k)
 |.entryStore _ m s x=>pI H (aB G ρ m) (aB G ρ s) (aB G ρ x)
 |.call c=>match c.callee with
  |.builtin b=>gZ P H id b c.argTypes.toList (c.args.toList.map (aB G ρ))
  |_=>none
 |_=>none
end Go.Hx
namespace Go.Hx
variable {P:Program} {G:Nat->Option (List AVal)} {Γ Γ':aK} {H H':AHeap} {w w':World}
theorem jC {id gen:Nat}{e:TypeId}{cells:List AVal}(h:H.live id gen=some (e,cells)):H.get id=some (.arr gen e cells):=by
 unfold AHeap.live at h;split at h
 ·rename_i g e' cells' hg;split at h
  ·rename_i hgg;simp only[Option.some.injEq,Prod.mk.injEq]at h;rw[hg,hgg,h.1,h.2]
  ·cases h
 ·cases h
def RowAt (P:Program)(Γ:aK)(H:AHeap)(w:World)(b o:Nat)(cells:List AVal):Prop :=
 ∃cs:List Value,cs.length=cells.length/\(∀i (h:i<cs.length),w.cell? ⟨b,o+i,none⟩=some cs[i]) /\
  ∀i (_:i<cells.length) (_:i<cs.length),RelV P Γ H w cells[i] cs[i]
theorem EJ {b base:Nat}{c:Array Value}{e:TypeId}{f:Nat × Nat}{cells:List AVal}(hb:w.heap[b]?=some (.cells c e f))(hle:base+cells.length<=c.size)
  (hrel:∀i (_:i<cells.length),∃cv,c[base+i]?=some cv/\RelV P Γ H w cells[i] cv):RowAt P Γ H w b base cells:=by
 refine⟨(c.toList.drop base).take cells.length,by simp;omega,fun i hi=>?_,fun i h1 h2=>?_⟩
 ·rw[zJ hb];simp only[SN,Tu,UG]at hi;simp only[Un,UL,TV];rw[S7 (by omega)]
 ·obtain⟨cv,a1,a2⟩:=hrel i h1;simp only[Un,UL,TV];rw[S7 (by omega)]at a1;simp only[Option.some.injEq]at a1;rw[a1];exact a2
theorem RowAt.drop {b o:Nat}{cells:List AVal}(h:RowAt P Γ H w b o cells)(k n:Nat)(hk:k+n<=cells.length):RowAt P Γ H w b (o+k) ((cells.drop k).take n):=by
 obtain⟨cs,h1,h2,h3⟩:=h;refine⟨(cs.drop k).take n,by simp[h1],fun i hi=>?_,fun i a1 a2=>?_⟩
 ·simp only[SN,Tu]at hi;have:=h2 (k+i) (by omega);simp only[Un,UL];rw[<- this];congr 2;omega
 ·simp only[Un,UL];simp only[SN,Tu]at a1 a2;exact h3 (k+i) (by omega) (by omega)
theorem tH {t:TypeId}{cells:List AVal}{off b o:Nat}{v:AVal}(hp:iU P t cells off=some v)(hr:RowAt P Γ H w b o cells):
  ∃cv,(loadVar t ⟨b,o+off,none⟩).run P w=.ok cv w/\RelV P Γ H w v cv:=by
 unfold iU at hp;split at hp
 ·cases hp
 ·rename_i d hd;split at hp
  ·rename_i ha;split at hp
   ·rename_i hle;simp only[Option.some.injEq]at hp;subst hp;obtain⟨cs,h1,h2,h3⟩:=hr.drop off (P.cellsOf t) hle;refine⟨.agg cs.toArray,Es hd ha ?_ h2,.agg h1 h3⟩;rw[h1];simp;omega
   ·cases hp
  ·rename_i ha;obtain⟨cs,h1,h2,h3⟩:=hr;obtain⟨hlt,hv⟩:=Tj.1 hp;subst hv;exact⟨cs[off]'(by omega),Et hd (by simpa using ha) (h2 off (by omega)),h3 off hlt (by omega)⟩
theorem pM {id gen off:Nat}{e:TypeId}{cells:List AVal}{cv:Value}(h:RelV P Γ H w (.ptr id gen off) cv)(hl:H.live id gen=some (e,cells)):
  ∃b base n,Γ id=some (b,base,n)/\cv=.pointer (some ⟨b,base+off,none⟩):=by
 cases h with
 |ptr h=>exact(h.2.2.2 gen e cells (jC hl)).2 rfl
theorem jS {id gen off len sz:Nat}{e:TypeId}{cells:List AVal}{cv:Value}(h:RelV P Γ H w (.own id gen off len sz) cv)(hl:H.live id gen=some (e,cells)):
  (∃b base n a cap,Γ id=some (b,base,n)/\cv=.slice (some a) len cap/\len<=cap/\off+len*sz<=cells.length /\
   ((a=⟨b,base+off,none⟩/\base+off+cap*sz<=n)\/(len=0/\cap=0))) \/
  (Γ id=none/\off=0/\len=0/\cv=.slice none 0 0):=by
 cases h with
 |own h =>
  have:=(h.2.2.2 gen e cells (jC hl)).2 rfl;cases hg:Γ id with
  |none=>rw[hg]at this;exact .inr ⟨rfl,this⟩
  |some x =>
   obtain⟨b,base,n⟩:=x;rw[hg]at this;obtain⟨a,cap,h1,h2,h3,h4⟩:=this;exact .inl ⟨b,base,n,a,cap,rfl,h1,h2,h3,h4⟩
theorem pN (R:RelH P G Γ H w){id gen:Nat}{e:TypeId}{cells:List AVal}{b base n:Nat}(hl:H.live id gen=some (e,cells))(hΓ:Γ id=some (b,base,n)):
  ∃c,w.heap[b]?=some (.cells c e (0,0))/\c.size=n/\base+cells.length<=n/\∀i (_:i<cells.length),∃cv,c[base+i]?=some cv/\RelV P Γ H w cells[i] cv:=by
 have:=R.arr id gen e cells (jC hl);rw[hΓ]at this;exact this
theorem rf (R:RelH P G Γ H w){id gen:Nat}{e:TypeId}{cells:List AVal}{b base n:Nat}(hl:H.live id gen=some (e,cells))(hΓ:Γ id=some (b,base,n)):
  RowAt P Γ H w b base cells:=by
 obtain⟨c,h1,h2,h3,h4⟩:=pN R hl hΓ;exact EJ h1 (by omega) h4
theorem EK {t:TypeId}{a v:AVal}{ca:Value}(R:RelH P G Γ H w)(h:gY P H t a=some v)(ha:RelV P Γ H w a ca):
  ∃cv,(Instr.loadAt t ca).run P w=.ok cv w/\RelV P Γ H w v cv:=by
 unfold gY at h;split at h
 ·rename_i id gen off;split at h
  ·rename_i g e cells hg;split at h
   ·rename_i hgg;have hl:H.live id gen=some (e,cells):=(by simp[AHeap.live,hg,hgg]);obtain⟨b,base,n,hΓ,rfl⟩:=pM ha hl;obtain⟨cv,h1,h2⟩:=tH h (rf R hl hΓ);refine⟨cv,?_,h2⟩;unfold Instr.loadAt Instr.sureAddr;exact h1
   ·cases h
  ·cases h
 ·rename_i cells off;cases ha with
  |vptr hb hlt hcs hcell hrel =>
   obtain⟨cv,h1,h2⟩:=tH h ⟨_,hcs,hcell,hrel⟩;exact⟨cv,h1,h2⟩
 ·cases h
theorem tI {cells:List AVal}{cs:List Value}(h:cells.all AVal.one=true)(hl:cs.length=cells.length)
  (hr:∀i (_:i<cells.length) (_:i<cs.length),RelV P Γ H w cells[i] cs[i]):∀v,v∈cs->v.oneCell=true:=by
 intro v hv;obtain⟨i,hi,rfl⟩:=List.getElem_of_mem hv;exact(hr i (by omega) hi).one (Td.1 h _ (Tk (by omega)))
theorem tJ {c:Array Value}{base off:Nat}{cells vs:List AVal}{cvs:List Value}(hle:off+vs.length<=cells.length)(hc:base+cells.length<=c.size)
  (hl:cvs.length=vs.length) (hrel:∀i (_:i<cells.length),∃cv,c[base+i]?=some cv/\RelV P Γ H w cells[i] cv)
  (hv:∀i (_:i<vs.length) (_:i<cvs.length),RelV P Γ H w vs[i] cvs[i]):
  ∀i (_:i<(setAt cells off vs).length),∃cv,(setRow c (base+off) cvs)[base+i]?=some cv/\RelV P Γ H w (setAt cells off vs)[i] cv:=by
 intro i hi;have hi':=hi;rw[pF hle]at hi';rw[zH _ _ _ (by omega)];have hg:(setAt cells off vs)[i]?=some (setAt cells off vs)[i]:=SJ hi;rw[Ex hle]at hg;by_cases h1:off<=i/\i<off+vs.length
 ·rw[SK h1]at hg;rw[SK (by omega)];have h2:i-off<vs.length:=by omega
  rw[SJ h2]at hg;simp only[Option.some.injEq]at hg;rw[<- hg];refine⟨cvs[i-off]'(by omega),?_,hv _ h2 (by omega)⟩;rw[show base+i-(base+off)=i-off from by omega,SJ (by omega)]
 ·rw[SI h1,SJ hi']at hg;rw[SI (by omega)];simp only[Option.some.injEq]at hg;rw[<- hg];exact hrel i hi'
theorem EL {t:TypeId}{a v:AVal}{ca cv:Value}(R:RelH P G Γ H w)(h:jO P H t a v=some H')(ht:∃i,P.info? t=some i)(ha:RelV P Γ H w a ca)(hv:RelV P Γ H w v cv):
  ∃w',(Instr.storeAt t ca cv).run P w=.ok () w'/\Evo Γ H w Γ H' w'/\H.next<=H'.next/\RelH P G Γ H' w':=by
 unfold jO at h;split at h
 ·rename_i id gen off;split at h
  ·rename_i g e cells hg;split at h
   ·rename_i hgg;obtain⟨hgg,h1,h2,h3⟩:=hgg;simp only[Option.some.injEq]at h;subst h;have hl:H.live id gen=some (e,cells):=(by simp[AHeap.live,hg,hgg]);obtain⟨b,base,n,hΓ,rfl⟩:=pM ha hl;obtain⟨c,c1,c2,c3,c4⟩:=pN R hl hΓ;obtain⟨v1,v2⟩:=hv.cells;obtain⟨i,hi⟩:=ht;have hrun:(Instr.storeAt t (.pointer (some ⟨b,base+off,none⟩)) cv).run P w=.ok () (bY w b (.cells (setRow c (base+off) cv.cells.toList) e (0,0))):=by
     unfold Instr.storeAt Instr.sureAddr;rw[aA (Sem.run_pure P w _)];unfold storeVar;rw[aA (run_sizeOf hi)];have:¬(cv.cells.size≠P.cellsOf t):=(by rw[<- h1,<- v1];simp);rw[SI this];have hrun:=qU (P:=P) cv.cells.toList c (base+off) 0 w c1 (by omega) (tI h2 v1 v2);exact hrun
    obtain⟨E,R'⟩:=v7 (cells':=setAt cells off v.cells) (c':=setRow c (base+off) cv.cells.toList) R hg hΓ (pF h3) (by rw[size_setRow,c2])
     (tJ h3 (by omega) v1 c4 v2)
    exact⟨_,hrun,E,Nat.le_refl _,R'⟩
   ·cases h
  ·cases h
 ·cases h
end Go.Hx
namespace Go.Hx
variable {P:Program} {G:Nat->Option (List AVal)} {Γ Γ':aK} {H H':AHeap} {w w':World}
def dW (P:Program)(Γ:aK)(H:AHeap)(w:World)(cells:List AVal)(cs:Array Value):Prop :=
 cs.size=cells.length/\∀i (_:i<cells.length) (h:i<cs.size),RelV P Γ H w cells[i] cs[i]
theorem dW.lit (cs:Array Value):dW P Γ H w (cs.toList.map .lit) cs :=
 ⟨by simp,fun i h1 h2=>by simp only[SV,TV];exact .lit _⟩
theorem dW.get {cells:List AVal}{cs:Array Value}(h:dW P Γ H w cells cs){i:Nat}(hi:i<cells.length):∃cv,cs[i]?=some cv/\RelV P Γ H w cells[i] cv :=
 ⟨cs[i]'(by rw[h.1];exact hi),by rw[S7],h.2 i hi (by rw[h.1];exact hi)⟩
theorem pQ {t:TypeId}{z:List AVal}(h:bR P t=some z):∃i v,P.info? t=some i/\i.zero=some v/\v.cells.size=i.size/\z=v.cells.toList.map .lit/\P.cellsOf t=i.size:=by
 unfold bR at h;split at h
 ·rename_i i hi;split at h
  ·rename_i v hv;split at h
   ·rename_i hs;simp only[Option.some.injEq]at h;exact⟨i,v,hi,hv,hs,h.symm,by simp[Program.cellsOf,hi]⟩
   ·cases h
  ·cases h
 ·cases h
theorem oG {t:TypeId}{i:TypeInfo}{v:Value}(hi:P.info? t=some i)(hv:i.zero=some v):(zeroValue t).run P w=.ok v w:=by
 unfold zeroValue;rw[aA (run_typeInfo hi)];simp[hv]
theorem EM:∀(vs:List Value) (cs:Array Value) (off k:Nat),
  (vs.zipIdx k).foldl (fun cs (p:Value × Nat)=>cs.setIfInBounds (off+p.2) p.1) cs=setRow cs (off+k) vs:=by
 intro vs
 induction vs with
 |nil=>intro cs off k;rfl
 |cons v vs ih=>intro cs off k;rw[List.zipIdx_cons,Ts,ih];rfl
theorem EN {cells vs:List AVal}{cs:Array Value}{cvs:List Value}{off:Nat}(h:dW P Γ H w cells cs)(hle:off+vs.length<=cells.length)(hl:cvs.length=vs.length)
  (hv:∀i (_:i<vs.length) (_:i<cvs.length),RelV P Γ H w vs[i] cvs[i]):dW P Γ H w (setAt cells off vs) (setRow cs off cvs):=by
 refine⟨by rw[size_setRow,pF hle,h.1],fun i h1 h2=>?_⟩;have:=tJ (base:=0) hle (by rw[h.1];omega) hl (fun i hi=>by rw[Nat.zero_add];exact h.get hi) hv i h1;rw[Nat.zero_add,Nat.zero_add]at this;obtain⟨cv,a1,a2⟩:=this;rw[S7 h2]at a1;simp only[Option.some.injEq]at a1;rw[a1];exact a2
theorem wc {place:Nat->Option (Nat × Nat)}:∀(parts:List (Nat × AVal)) (cparts:List (Nat × Value)) (cells cells':List AVal) (cs:Array Value),
  fR place cells parts=some cells'->dW P Γ H w cells cs->cparts.length=parts.length ->
  (∀i (h1:i<parts.length) (h2:i<cparts.length),parts[i].1=cparts[i].1/\RelV P Γ H w parts[i].2 cparts[i].2) ->
  ∃cs',Instr.fill place cs cparts=some cs'/\dW P Γ H w cells' cs':=by
 intro parts
 induction parts with
 |nil =>
  intro cparts cells cells' cs h hr hl _;simp only[fR,Option.some.injEq]at h;subst h;have:cparts=[]:=by simpa using hl
  subst this;exact⟨cs,rfl,hr⟩
 |cons p parts ih =>
  intro cparts cells cells' cs h hr hl hp;cases cparts with
  |nil=>simp at hl
  |cons cp cparts =>
   obtain⟨i,v⟩:=p;obtain⟨ci,cv⟩:=cp;obtain⟨h0,hv⟩:=hp 0 (by simp) (by simp);simp only[Tp]at h0 hv;subst h0;simp only[fR]at h;simp only[Instr.fill];split at h
   ·cases h
   ·rename_i off size hpl;rw[hpl];split at h
    ·rename_i hc;obtain⟨v1,v2⟩:=hv.cells;have hn:(decide (cv.cells.size≠size) ||decide (off+cv.cells.size > cs.size))=false:=by
      have:cv.cells.size=v.cells.length:=(by rw[<- v1];simp);have:=hr.1;simp;omega
     simp only[hn,Bool.false_eq_true,if_false];have hf:cv.cells.zipIdx.foldl (fun cs (p:Value × Nat)=>cs.setIfInBounds (off+p.2) p.1) cs=setRow cs off cv.cells.toList:=by
      have:=EM cv.cells.toList cs off 0;rw[Nat.add_zero]at this;rw[<- this,<- Array.foldl_toList,Array.toList_zipIdx]
     rw[hf];exact ih cparts _ _ _ h (EN hr hc.2 v1 v2) (by simpa using hl)
      (fun i h1 h2=>hp (i+1) (by simpa using h1) (by simpa using h2))
    ·cases h
theorem EO {place:Nat->Option (Nat × Nat)}:∀ {parts:List (Nat × AVal)} {cells cells':List AVal},fR place cells parts=some cells'->cells'.length=cells.length:=by
 intro parts
 induction parts with
 |nil=>intro cells cells' h;simp only[fR,Option.some.injEq]at h;rw[h]
 |cons p parts ih =>
  intro cells cells' h;obtain⟨i,v⟩:=p;simp only[fR]at h;split at h
  ·cases h
  ·split at h
   ·rename_i hc;rw[ih h,pF hc.2]
   ·cases h
theorem we {α:Type}(z:List α):∀(n i:Nat) (_:i<n*z.length),(List.replicate n z).flatten[i]?=z[i % z.length]?:=by
 intro n
 induction n with
 |zero=>intro i h;simp at h
 |succ n ih =>
  intro i h;rw[TI,List.flatten_cons];by_cases hi:i<z.length
  ·rw[SU hi,UY hi]
  ·rw[SZ (by omega),ih (i-z.length) (by rw[VA]at h;omega)];rw[<- Nat.mod_eq_sub_mod (by omega)]
theorem wg {v:Value}{n:Nat}{z:List AVal}(hz:z=v.cells.toList.map .lit):
  dW P Γ H w (List.replicate n z).flatten ((Array.range (n*v.cells.size)).map (v.cells[· % v.cells.size]!)):=by
 have hzl:z.length=v.cells.size:=by rw[hz];simp
 refine⟨by simp[hzl],fun i h1 h2=>?_⟩;have hi:i<n*v.cells.size:=by simpa using h2
 have hpos:0<v.cells.size:=by
  rcases TG v.cells.size with h|h
  ·rw[h]at hi;simp at hi
  ·exact h
 have hg:=we z n i (by rw[hzl];exact hi);rw[SJ h1,hzl]at hg;have hm:i % v.cells.size<v.cells.size:=U0 _ hpos;have hz2:z[i % v.cells.size]?=some (.lit v.cells[i % v.cells.size]):=by
  rw[hz,List.getElem?_map,Array.getElem?_toList,S7 hm];rfl
 rw[hz2]at hg;simp only[Option.some.injEq]at hg;rw[hg];simp only[UV,Array.getElem_range];rw[getElem!_pos v.cells _ hm];exact .lit _
theorem ER {t:TypeId}{parts:List (Nat × AVal)}{cparts:Array (Nat × Value)}{v:AVal}(h:re P t parts=some v)(hl:cparts.toList.length=parts.length)
  (hp:∀i (h1:i<parts.length) (h2:i<cparts.toList.length),parts[i].1=cparts.toList[i].1/\RelV P Γ H w parts[i].2 cparts.toList[i].2):
  ∃cv,(Instr.build t cparts).run P w=.ok cv w/\RelV P Γ H w v cv:=by
 unfold re at h;simp only[SL]at h;obtain⟨z,hz,h⟩:=h;obtain⟨i,zv,hi,hzv,_,hzz,_⟩:=pQ hz;unfold Instr.build;rw[aA (oG hi hzv)];have hz0:dW P Γ H w z zv.cells:=hzz ▸ dW.lit _;split at h
 ·rename_i fs hd;simp only[SL,SG]at h;obtain⟨pl,hpl,cells,hf,rfl⟩:=h;rw[aA (cQ hd)];simp only;unfold iV at hpl;rw[hd]at hpl;simp only at hpl;split at hpl
  ·rename_i hall;simp only[Option.some.injEq]at hpl;have hplaces:(fs.mapM fun (f:Field)=>(do pure (f.offset,<- sizeOf f.type):Sem (Nat × Nat))).run P w=.ok (fs.map fun f=>(f.offset,P.cellsOf f.type)) w:=by
    rw[VU];have key:∀(l:List Field),(l.all fun f=>(P.info? f.type).isSome)=true ->
      (l.mapM fun (f:Field)=>(do pure (f.offset,<- sizeOf f.type):Sem (Nat × Nat))).run P w=.ok (l.map fun f=>(f.offset,P.cellsOf f.type)) w:=by
     intro l
     induction l with
     |nil=>intro _;rfl
     |cons f l ih =>
      intro ha;simp only[List.all_cons,TQ]at ha;obtain⟨j,hj⟩:=Tv.1 ha.1;rw[List.mapM_cons,aA (a:=(f.offset,P.cellsOf f.type)) (w':=w) (by rw[aA (run_sizeOf hj)];rfl),aA (ih ha.2)];rfl
    rw[Sem.run_map,key _ hall,Result.andThen_ok,<- VI,Vr]
   rw[aA hplaces];obtain⟨cs',hc1,hc2⟩:=wc parts cparts.toList z cells zv.cells hf hz0 hl hp;have hpe:(fun i:Nat=>(fs.map fun f=>(f.offset,P.cellsOf f.type))[i]?)=fun i=>pl[i]?:=by
    funext i
    rw[<- hpl];simp
   rw[hpe,hc1];exact⟨_,rfl,.agg (by simpa using hc2.1) (fun i h1 h2=>by simpa using hc2.2 i h1 (by simpa using h2))⟩
  ·cases hpl
 ·rename_i n e hd;split at h
  ·rename_i he;simp only[SG]at h;obtain⟨cells,hf,rfl⟩:=h;obtain⟨d,hde⟩:=Tv.1 he;rw[aA (cQ hd)];simp only;rw[aA (jm hde)];obtain⟨cs',hc1,hc2⟩:=wc parts cparts.toList z cells zv.cells hf hz0 hl hp;rw[hc1];exact⟨_,rfl,.agg (by simpa using hc2.1) (fun i h1 h2=>by simpa using hc2.2 i h1 (by simpa using h2))⟩
  ·cases h
 ·cases h
theorem wh {id:Nat}{cells:List AVal}{e:TypeId}{len cap sz:Nat}{Γ':aK}{n:Nat}{b:Nat}(hget:H'.get id=some (.arr 0 e cells))(hn:id<H'.next)(hΓ:Γ' id=some (b,0,n))
  (hlen:len<=cap) (hle:len*sz<=cells.length) (hcap:cap*sz<=n):RelV P Γ' H' w' (.own id 0 0 len sz) (.slice (some ⟨b,0,none⟩) len cap):=by
 refine .own ⟨hn,rfl,by rw[hget];simp,fun g e' cells' hg=>?_⟩;rw[hget]at hg;simp only[Option.some.injEq,Blk.arr.injEq]at hg;obtain⟨rfl,rfl,rfl⟩:=hg;refine⟨Nat.le_refl _,fun _=>?_⟩;rw[hΓ];exact⟨⟨b,0,none⟩,cap,rfl,hlen,by omega,.inl ⟨rfl,by omega⟩⟩
theorem zR {id:Nat}{cells:List AVal}{e:TypeId}{Γ':aK}{n:Nat}{b:Nat}(hget:H'.get id=some (.arr 0 e cells))(hn:id<H'.next)(hΓ:Γ' id=some (b,0,n)):
  RelV P Γ' H' w' (.ptr id 0 0) (.pointer (some ⟨b,0,none⟩)):=by
 refine .ptr ⟨hn,rfl,by rw[hget];simp,fun g e' cells' hg=>?_⟩;rw[hget]at hg;simp only[Option.some.injEq,Blk.arr.injEq]at hg;obtain⟨rfl,rfl,rfl⟩:=hg;exact⟨Nat.le_refl _,fun _=>⟨b,0,n,hΓ,by simp⟩⟩
theorem ES {id len:Nat}{t:TypeId}{parts:List (Nat × AVal)}{cparts:Array (Nat × Value)}{v:AVal}(R:RelH P G Γ H w)(h:mW P H id t len parts=some (v,H'))(hl:cparts.toList.length=parts.length)
  (hp:∀i (h1:i<parts.length) (h2:i<cparts.toList.length),parts[i].1=cparts.toList[i].1/\RelV P Γ H w parts[i].2 cparts.toList[i].2):
  ∃cv Γ' w',(Instr.buildSlice t len cparts).run P w=.ok cv w'/\Evo Γ H w Γ' H' w'/\H.next<=H'.next/\RelH P G Γ' H' w'/\RelV P Γ' H' w' v cv:=by
 unfold mW at h;split at h
 ·rename_i e hd;split at h
  ·rename_i hle;simp only[SL,SG,Prod.mk.injEq]at h;obtain⟨zs,hzs,cells,hf,H1,hlay,rfl,rfl⟩:=h;unfold kr at hzs;simp only[SG]at hzs;obtain⟨z,hz,rfl⟩:=hzs;obtain⟨i,zv,hi,hzv,hsz,hzz,hcells⟩:=pQ hz;have hz0:dW P Γ H w (List.replicate len z).flatten ((Array.range (len*zv.cells.size)).map (zv.cells[· % zv.cells.size]!)):=wg hzz;obtain⟨cs',hc1,hc2⟩:=wc parts cparts.toList _ cells _ hf hz0 hl hp;have hrun:(Instr.buildSlice t len cparts).run P w=.ok (.slice (some ⟨w.heap.size,0,none⟩) len len) (w.alloc (.cells cs' e)):=by
    unfold Instr.buildSlice;rw[aA (cQ hd)];simp only;rw[aA (run_sizeOf hi)];rw[SI (by omega)];have hcs:P.cellsOf e=zv.cells.size:=(by rw[hcells,hsz]);rw[hcs];rw[hcs]at hc1;by_cases h0:len*zv.cells.size=0
    ·rw[h0]at hc1;rw[SK h0];rw[aA (Sem.run_pure P w _)];have he:∀f:Nat->Value,(Array.range 0).map f=#[]:=fun _=>UX (by simp);have he2:∀f:Nat->Value,(Array.range (len*zv.cells.size)).map f=#[]:=fun _=>UX (by simp[h0]);rw[he]at hc1;rw[he2,hc1];rfl
    ·rw[SI h0];rw[aA (oG hi hzv),aA (Sem.run_pure P w _),hc1];rfl
   have hlen:len*P.cellsOf e<=cells.length:=by
    have h1:=EO hf;rw[h1];simp[hzz,hcells,hsz]
   obtain⟨E,hn,R'⟩:=qX (c:=cs') R hlay (by rw[hc2.1];exact Nat.le_refl _) (fun i hi=>hc2.get hi);obtain⟨hget,_⟩:=jR hlay;obtain⟨_,_,_,hid⟩:=mS R hlay;exact⟨_,_,_,hrun,E,hn,R',wh (by rw[hget,SK rfl]) hid (aK.eO _ _ _) (Nat.le_refl _) hlen (by rw[hc2.1];exact hlen)⟩
  ·cases h
 ·cases h
end Go.Hx
namespace Go.Hx
variable {P:Program} {G:Nat->Option (List AVal)} {Γ Γ':aK} {H H':AHeap} {w w':World}
theorem zV {n:Int}(h0:0<=n)(h1:n<=2 ^ 46):IntKind.i64.wrap n=n:=SF n (by omega)
theorem zW {t:TypeId}{i:TypeInfo}(h:P.info? t=some i):P.bytesOf t=i.bytes:=by simp[Program.bytesOf,h]
theorem EV {id:Nat}{t:TypeId}{l c v:AVal}{cl cc:Value}(R:RelH P G Γ H w)(h:mj P H id t l c=some (v,H'))(hl:RelV P Γ H w l cl)(hc:RelV P Γ H w c cc):
  ∃cv Γ' w',(Instr.makeSlice t cl cc).run P w=.ok cv w'/\Evo Γ H w Γ' H' w'/\H.next<=H'.next/\RelH P G Γ' H' w'/\RelV P Γ' H' w' v cv:=by
 unfold mj at h;split at h
 ·rename_i e kl ln kc cn hd;cases hl;cases hc;split at h
  ·rename_i hb;obtain ⟨b1,b2,b3,b4⟩:=hb;simp only [SL,SG,Prod.mk.injEq] at h;obtain ⟨zs,hzs,H1,hlay,rfl,rfl⟩:=h;unfold kr at hzs;simp only [SG] at hzs;obtain ⟨z,hz,rfl⟩:=hzs;obtain ⟨i,zv,hi,hzv,hsz,hzz,hcells⟩:=pQ hz;have hcs : P.cellsOf e=zv.cells.size:=(by rw [hcells,hsz]);have hw1:=zV b1 (by omega : ln≤2 ^ 46);have hw2:=zV (by omega : 0≤cn) b4;have hzr : dW P Γ H w (List.replicate cn.toNat z).flatten ((Array.range (cn.toNat*zv.cells.size)).map (zv.cells[· % zv.cells.size]!)):=wg hzz;have hrun : (Instr.makeSlice t (.int kl ln) (.int kc cn)).run P w=.ok (.slice (some ⟨w.heap.size,0,none⟩) ln.toNat cn.toNat)
     (w.alloc (.cells ((Array.range (cn.toNat*zv.cells.size)).map (zv.cells[· % zv.cells.size]!)) e)):=by
    unfold Instr.makeSlice;rw[aA (cQ hd)];simp only;have ai:∀(k:IntKind) (n:Int),(asInt (.int k n)).run P w=.ok n w:=fun _ _=>rfl;rw[aA (ai _ _),aA (ai _ _),aA (run_typeInfo hi)];simp only[hw1,hw2];have hbi:=zW hi;have hmul:(i.bytes:Int)*cn<=2 ^ 46:=(by rw[<- hbi,Uf];exact b3);rw[SI (by simp;omega)];rw[aA (run_askRoom P w _),aA (run_sizeOf hi)];rw[hcs];by_cases h0:cn.toNat*zv.cells.size=0
    ·rw[SK h0,aA (Sem.run_pure P w _)];have he2:∀f:Nat->Value,(Array.range (cn.toNat*zv.cells.size)).map f=#[]:=fun _=>UX (by simp[h0]);rw[he2,he2];rfl
    ·rw[SI h0,aA (oG hi hzv),aA (Sem.run_pure P w _)];rfl
   have hzl:z.length=zv.cells.size:=(by rw[hzz];simp);have hsize:((Array.range (cn.toNat*zv.cells.size)).map (zv.cells[· % zv.cells.size]!)).size=cn.toNat*zv.cells.size:=(by simp);have hle:ln.toNat*zv.cells.size<=cn.toNat*zv.cells.size:=TU _ (by omega);have hlen1:(List.replicate ln.toNat z).flatten.length=ln.toNat*zv.cells.size:=(by simp[hzl]);obtain⟨E,hn,R'⟩:=qX (c:=(Array.range (cn.toNat*zv.cells.size)).map (zv.cells[· % zv.cells.size]!)) R hlay (by rw[hsize,hlen1];exact hle)
    (fun i hi=>by
     rw[hlen1]at hi;have h1:=we z ln.toNat i (by rw[hzl];exact hi);have h2:=we z cn.toNat i (by rw[hzl];omega);obtain⟨cv,a1,a2⟩:=hzr.get (i:=i) (by simp[hzl];omega);refine⟨cv,a1,?_⟩;have:(List.replicate ln.toNat z).flatten[i]=(List.replicate cn.toNat z).flatten[i]'(by simp[hzl];omega):=by
      rw[SJ (by rw[hlen1];exact hi)]at h1;rw[SJ (by simp[hzl];omega)]at h2;rw[<- h1]at h2;simpa using h2.symm
     rw[this];exact a2)
   obtain⟨hget,_⟩:=jR hlay;obtain⟨_,_,_,hid⟩:=mS R hlay;refine⟨_,_,_,hrun,E,hn,R',wh (by rw[hget,SK rfl]) hid (aK.eO _ _ _) (by omega) ?_ ?_⟩
   ·rw[hlen1,hcs];exact Nat.le_refl _
   ·rw[hsize,hcs];exact Nat.le_refl _
  ·cases h
 ·cases h
theorem wo (k:IntKind)(n:Int):(asIntOf (.int k n)).run P w=.ok (k,n) w:=rfl
theorem zX {id gen off k:Nat}{cv:Value}{e:TypeId}{cells:List AVal}(h:RelV P Γ H w (.ptr id gen off) cv)(hl:H.live id gen=some (e,cells)):
  ∃a,cv=.pointer (some a)/\RelV P Γ H w (.ptr id gen (off+k)) (.pointer (some (a.add k))):=by
 obtain⟨b,base,n,hΓ,rfl⟩:=pM h hl;refine⟨_,rfl,?_⟩;rw[kq];cases h with
 |ptr h =>
  refine .ptr ⟨h.1,rfl,h.2.2.1,fun g e' cells' hg=>?_⟩;refine⟨(h.2.2.2 g e' cells' hg).1,fun _=>⟨b,base,n,hΓ,?_⟩⟩;rw[Uk]
theorem zY {cells:List AVal}{off k:Nat}{cv:Value}(h:RelV P Γ H w (.vptr cells off) cv):
  ∃a,cv=.pointer (some a)/\RelV P Γ H w (.vptr cells (off+k)) (.pointer (some (a.add k))):=by
 cases h with
 |vptr hb hlt hcs hcell hrel =>
  refine⟨_,rfl,?_⟩;rw[kq,Uk];exact .vptr hb hlt hcs hcell hrel
theorem EW {t:TypeId}{x v:AVal}{k:IntKind}{i:Int}{cx:Value}(h:mT P H t x i=some v)(hx:RelV P Γ H w x cx):
  ∃cv,(Instr.indexAt t cx (.int k i)).run P w=.ok cv w/\RelV P Γ H w v cv:=by
 unfold mT at h;unfold Instr.indexAt;rw[aA (wo k i)];simp only;split at h
 ·rename_i n e hd;split at h
  ·rename_i hc;obtain ⟨c1,c2,c3⟩:=hc;obtain ⟨d,hde⟩:=Tv.1 c3;rw [aA (cQ hd)];simp only;have fin : ∀ a : Addr,((do
      let tiny:=decide (n<=1) && (match <- underlying t with|.array ..=>true|_=>false)
      match (some a:Option Addr) with
      |some a =>
       if 0≤i∧i<(n : Int) then pure (.pointer (some (a.add (i.toNat*(← sizeOf e)))))
              else if tiny then unsupported (.noEntry "op/indexAddr.an index out of range at an array of length 0 or 1 (ledger 616)")
       else boundsPanic k i n .index
      |none=>boundsPanic k i 0 .index):Sem Value).run P w=.ok (.pointer (some (a.add (i.toNat*P.cellsOf e)))) w:=by
    intro a;rw[aA (cQ hd)];simp only;rw[SK ⟨c1,c2⟩,aA (jm hde)];rfl
   split at h
   ·rename_i id gen off;simp only[SG]at h;obtain⟨ec,hl,rfl⟩:=h;obtain⟨a,rfl,hr⟩:=zX (k:=i.toNat*P.cellsOf e) hx hl;exact⟨_,fin a,hr⟩
   ·rename_i cells off;simp only[Option.some.injEq]at h;subst h;obtain⟨a,rfl,hr⟩:=zY (k:=i.toNat*P.cellsOf e) hx;exact⟨_,fin a,hr⟩
   ·cases h
  ·cases h
 ·rename_i e hd;split at h
  ·rename_i hc;obtain ⟨d,hde⟩:=Tv.1 hc;rw [aA (cQ hd)];have fin : ∀ (a : Addr) (len : Nat),0≤i∧i<(len : Int)→((do
      let tiny:=decide (len<=1) && (match <- underlying t with|.array ..=>true|_=>false)
      match (some a:Option Addr) with
      |some a =>
       if 0≤i∧i<(len : Int) then pure (.pointer (some (a.add (i.toNat*(← sizeOf e)))))
              else if tiny then unsupported (.noEntry "op/indexAddr.an index out of range at an array of length 0 or 1 (ledger 616)")
       else boundsPanic k i len .index
      |none=>boundsPanic k i 0 .index):Sem Value).run P w=.ok (.pointer (some (a.add (i.toNat*P.cellsOf e)))) w:=by
    intro a len hi;rw[aA (cQ hd)];simp only;rw[SK hi,aA (jm hde)];rfl
   split at h
   ·rename_i id gen off len sz;split at h
    ·rename_i hi;simp only[SG]at h;obtain⟨⟨e',cells⟩,hl,rfl⟩:=h;rcases jS hx hl with ⟨b,base,n,a,cap,hΓ,rfl,h1,h2,h3⟩|⟨_,_,h0,_⟩
     ·have ha:a=⟨b,base+off,none⟩:=by
       rcases h3 with h3|h3
       ·exact h3.1
       ·omega
      subst ha;refine⟨_,fin _ len ⟨hi.1,hi.2.1⟩,?_⟩;rw[kq];cases hx with
      |own hx =>
       refine .ptr ⟨hx.1,rfl,hx.2.2.1,fun g e'' cells'' hg=>?_⟩;refine⟨(hx.2.2.2 g e'' cells'' hg).1,fun _=>⟨b,base,n,hΓ,?_⟩⟩;rw[Uk]
     ·omega
    ·cases h
   ·rename_i len cells;split at h
    ·rename_i hi;simp only[Option.some.injEq]at h;subst h;cases hx with
     |vec0=>exact absurd rfl hi.2.2
     |vec hb hlt hlen hcs hcell hrel =>
      refine⟨_,fin _ len ⟨hi.1,hi.2.1⟩,?_⟩;rw[kq];exact .vptr hb hlt hcs hcell hrel
    ·cases h
   ·cases h
  ·cases h
 ·cases h
end Go.Hx
namespace Go.Hx
variable {P:Program} {G:Nat->Option (List AVal)} {Γ Γ':aK} {H H':AHeap} {w w':World}
def pR (P:Program)(Γ:aK)(H:AHeap)(w:World):Option AVal->Option Value->Prop
 |none,none=>True
 |some v,some cv=>RelV P Γ H w v cv
 |_,_=>False
theorem tK {k:IntKind}{i:Int}{y:Nat}{code:BoundsCode}(h:0<=i/\i<=(y:Int)):(Instr.sliceBound (.int k i) y code).run P w=.ok i.toNat w:=by
 unfold Instr.sliceBound;rw[aA (wo k i)];simp only;rw[SK h];rfl
theorem zZ {o:Option AVal}{co:Option Value}{d m n:Nat}(h:cw o d m=some n)(hr:pR P Γ H w o co):
  (o=none/\co=none/\n=d)\/∃k i,co=some (.int k i)/\0<=i/\i<=(m:Int)/\n=i.toNat:=by
 cases o with
 |none =>
  cases co with
  |none=>simp only[cw,Option.some.injEq]at h;exact .inl ⟨rfl,rfl,h.symm⟩
  |some _=>exact hr.elim
 |some v =>
  cases co with
  |none=>exact hr.elim
  |some cv =>
   have hv:RelV P Γ H w v cv:=hr;cases v with
   |lit x =>
    cases x with
    |int k i =>
     cases hv;simp only[cw]at h;split at h
     ·rename_i hi;simp only[Option.some.injEq]at h;exact .inr ⟨k,i,rfl,hi.1,hi.2,h.symm⟩
     ·cases h
    |_=>simp[cw]at h
   |_=>simp[cw]at h
theorem mn {lo hi:Option AVal}{clo chi:Option Value}{s:Bool}{len cap l h:Nat}(hh:cw hi len len=some h)(hl:cw lo 0 h=some l)(hlen:len<=cap)
  (rh:pR P Γ H w hi chi) (rl:pR P Γ H w lo clo):(Instr.sliceBounds s len cap clo chi none).run P w=.ok (l,h,cap) w/\l<=h/\h<=len:=by
 rcases zZ hh rh with ⟨rfl,rfl,rfl⟩|⟨k,i,rfl,i0,i1,rfl⟩<;>rcases zZ hl rl with ⟨rfl,rfl,rfl⟩|⟨k',j,rfl,j0,j1,rfl⟩
 ·exact⟨rfl,by omega,Nat.le_refl _⟩
 ·refine⟨?_,by omega,Nat.le_refl _⟩;unfold Instr.sliceBounds;simp only[pure_bind];rw[aA (tK ⟨j0,j1⟩)];rfl
 ·refine⟨?_,by omega,by omega⟩;unfold Instr.sliceBounds;simp only[pure_bind];rw[aA (tK ⟨i0,by omega⟩)];rfl
 ·refine⟨?_,by omega,by omega⟩;unfold Instr.sliceBounds;simp only[pure_bind];rw[aA (tK ⟨i0,by omega⟩),aA (tK ⟨j0,j1⟩)];rfl
theorem tL {a b c:Nat}(h:a<=b):a*c<=b*c:=TU _ h
theorem EX {id gen off len sz l h:Nat}{e:TypeId}{cells:List AVal}{cv:Value}(hx:RelV P Γ H w (.own id gen off len sz) cv)(hl:H.live id gen=some (e,cells))(h1:l<=h)(h2:h<=len):
  (∃a cap,cv=.slice (some a) len cap/\len<=cap/\RelV P Γ H w (.own id gen (off+l*sz) (h-l) sz) (.slice (some (if cap=l then a else a.add (l*sz))) (h-l) (cap-l))) \/
  (cv=.slice none 0 0/\len=0/\RelV P Γ H w (.own id gen (off+l*sz) (h-l) sz) (.slice none 0 0)):=by
 cases hx with
 |own hx =>
  rcases jS (P:=P) (w:=w) (.own hx) hl with ⟨b,base,n,a,cap,hΓ,rfl,c1,c2,c3⟩|⟨hΓ,rfl,rfl,rfl⟩
  ·left;refine⟨a,cap,rfl,c1,.own ⟨hx.1,rfl,hx.2.2.1,fun g e' cells' hg=>?_⟩⟩;refine⟨(hx.2.2.2 g e' cells' hg).1,fun hgg=>?_⟩;rw[jC hl]at hg;simp only[Option.some.injEq,Blk.arr.injEq]at hg;obtain⟨_,rfl,rfl⟩:=hg;rw[hΓ];have e1:l*sz+(h-l)*sz=h*sz:=(by rw[<- T2];congr 1;omega);have e2:h*sz<=len*sz:=tL h2;refine⟨_,_,rfl,by omega,by omega,?_⟩;rcases c3 with ⟨rfl,c3⟩|⟨rfl,rfl⟩
   ·by_cases hcl:cap=l
    ·right;omega
    ·left;rw[SI hcl,kq,Uk];refine⟨rfl,?_⟩;have e3:l*sz+(cap-l)*sz=cap*sz:=(by rw[<- T2];congr 1;omega);omega
   ·right;omega
  ·right;have:l=0:=(by omega);subst this;have:h=0:=(by omega);subst this;refine⟨rfl,rfl,.own ⟨hx.1,rfl,hx.2.2.1,fun g e' cells' hg=>?_⟩⟩;refine⟨(hx.2.2.2 g e' cells' hg).1,fun hgg=>?_⟩;rw[hΓ];simp
theorem EY {len sz l h:Nat}{cells:List AVal}{cv:Value}(hx:RelV P Γ H w (.vec len cells) cv)(hc:cells.length=len*sz)(h1:l<=h)(h2:h<=len):
  ∃a cap,cv=.slice a len cap/\len<=cap/\RelV P Γ H w (.vec (h-l) ((cells.drop (l*sz)).take ((h-l)*sz))) (.slice (if cap=l then a else a.map (·.add (l*sz))) (h-l) (cap-l)):=by
 cases hx with
 |vec0 a cap =>
  have:h=0:=by omega
  subst this;have:l=0:=by omega
  subst this;refine⟨a,cap,rfl,UF _,?_⟩;simp only[UB,Ut,List.take_zero];exact .vec0 _ _
 | @vec _ _ b off cap cs hb hlt hlen hcs hcell hrel =>
  refine⟨_,_,rfl,hlen,?_⟩;by_cases hhl:h=l
  ·subst hhl;simp only[Ut,UB,List.take_zero];exact .vec0 _ _
  ·have hcl:cap≠l:=(by omega);have e1:l*sz+(h-l)*sz=h*sz:=(by rw[<- T2];congr 1;omega);have e2:h*sz<=len*sz:=tL h2;rw[SI hcl,Option.map_some,kq];obtain⟨cs',k1,k2,k3⟩:=RowAt.drop ⟨cs,hcs,hcell,hrel⟩ (l*sz) ((h-l)*sz) (by omega);exact .vec hb hlt (by omega) k1 k2 k3
theorem EZ {t:TypeId}{x v:AVal}{lo hi:Option AVal}{cx:Value}{clo chi:Option Value}(R:RelH P G Γ H w)(h:mU P H t x lo hi=some v)(hx:RelV P Γ H w x cx)
  (rl:pR P Γ H w lo clo) (rh:pR P Γ H w hi chi):∃cv,(Instr.sliceAt t cx clo chi none).run P w=.ok cv w/\RelV P Γ H w v cv:=by
 unfold mU at h;unfold Instr.sliceAt;split at h
 ·rename_i n e hd;rw[aA (cQ hd)];simp only;split at h
  ·rename_i hc;obtain⟨d,hde⟩:=Tv.1 hc;split at h
   ·rename_i id gen off;split at h
    ·rename_i e' cells hl;split at h
     ·rename_i hle;simp only[SL,SG]at h;obtain⟨h',hh,l,hlo,rfl⟩:=h;obtain⟨b,base,nn,hΓ,rfl⟩:=pM hx hl;have sa:(Instr.sureAddr (.pointer (some ⟨b,base+off,none⟩))).run P w=.ok ⟨b,base+off,none⟩ w:=rfl;obtain⟨r1,r2,r3⟩:=mn (s:=false) hh hlo (Nat.le_refl n) rh rl;rw[aA sa,aA r1];simp only;rw[aA (jm hde)];refine⟨_,rfl,?_⟩;cases hx with
      |ptr hx =>
       refine .own ⟨hx.1,rfl,hx.2.2.1,fun g e'' cells'' hg=>?_⟩;refine⟨(hx.2.2.2 g e'' cells'' hg).1,fun hgg=>?_⟩;rw[jC hl]at hg;simp only[Option.some.injEq,Blk.arr.injEq]at hg;obtain⟨_,rfl,rfl⟩:=hg;rw[hΓ];have e1:l*P.cellsOf e+(h'-l)*P.cellsOf e=h'*P.cellsOf e:=(by rw[<- T2];congr 1;omega);have e2:h'*P.cellsOf e<=n*P.cellsOf e:=tL r3;refine⟨_,_,rfl,by omega,by omega,?_⟩;by_cases hnl:n=l
       ·right;omega
       ·left;rw[SI hnl,kq,Uk];refine⟨rfl,?_⟩;have e3:l*P.cellsOf e+(n-l)*P.cellsOf e=n*P.cellsOf e:=(by rw[<- T2];congr 1;omega);obtain⟨_,_,q2,q3,_⟩:=pN R hl hΓ;omega
     ·cases h
    ·cases h
   ·rename_i cells off;split at h
    ·rename_i hle;simp only[SL,SG]at h;obtain⟨h',hh,l,hlo,rfl⟩:=h;cases hx with
     | @vptr _ _ b o cs hb hlt hcs hcell hrel =>
      have sa:(Instr.sureAddr (.pointer (some ⟨b,o+off,none⟩))).run P w=.ok ⟨b,o+off,none⟩ w:=rfl;obtain⟨r1,r2,r3⟩:=mn (s:=false) hh hlo (Nat.le_refl n) rh rl;rw[aA sa,aA r1];simp only;rw[aA (jm hde)];refine⟨_,rfl,?_⟩;have e1:l*P.cellsOf e+(h'-l)*P.cellsOf e=h'*P.cellsOf e:=(by rw[<- T2];congr 1;omega);have e2:h'*P.cellsOf e<=n*P.cellsOf e:=tL r3;by_cases hhl:h'=l
      ·subst hhl;simp only[Ut,UB,List.take_zero];exact .vec0 _ _
      ·rw[SI (by omega),kq];obtain⟨cs',k1,k2,k3⟩:=RowAt.drop ⟨cs,hcs,hcell,hrel⟩ (off+l*P.cellsOf e) ((h'-l)*P.cellsOf e) (by omega);rw[show o+off+l*P.cellsOf e=o+(off+l*P.cellsOf e) from by omega];exact .vec hb hlt (by omega) k1 k2 k3
    ·cases h
   ·cases h
  ·cases h
 ·rename_i e hd;rw[aA (cQ hd)];simp only;unfold Instr.slice;rw[aA (cQ hd)];split at h
  ·rename_i hc;obtain⟨d,hde⟩:=Tv.1 hc;split at h
   ·rename_i id gen off len sz;split at h
    ·rename_i hsz;subst hsz;simp only[SL,SG]at h;obtain⟨⟨e',cells⟩,hl,h',hh,l,hlo,rfl⟩:=h;obtain⟨_,q1,q2⟩:=mn (s:=true) hh hlo (Nat.le_refl len) rh rl;rcases EX hx hl q1 q2 with ⟨a,cap,rfl,c1,c2⟩|⟨rfl,rfl,c2⟩
     ·obtain⟨r1,r2,r3⟩:=mn (s:=true) hh hlo c1 rh rl;simp only;rw[aA r1];simp only;rw[aA (jm hde)];refine⟨_,rfl,?_⟩;by_cases hcl:cap=l
      ·rw[SK hcl]at c2 ⊢;exact c2
      ·rw[SI hcl]at c2 ⊢;exact c2
     ·obtain⟨r1,r2,r3⟩:=mn (s:=true) hh hlo (Nat.le_refl 0) rh rl;simp only;rw[aA r1];simp only;rw[aA (jm hde)];refine⟨_,rfl,?_⟩;have:l=0:=(by omega);subst this;have:h'=0:=(by omega);subst this;exact c2
    ·cases h
   ·rename_i len cells;split at h
    ·rename_i hcl;simp only[SL,SG]at h;obtain⟨h',hh,l,hlo,rfl⟩:=h;obtain⟨_,q1,q2⟩:=mn (s:=true) hh hlo (Nat.le_refl len) rh rl;obtain⟨a,cap,rfl,c1,c2⟩:=EY hx hcl q1 q2;obtain⟨r1,r2,r3⟩:=mn (s:=true) hh hlo c1 rh rl;simp only;rw[aA r1];simp only;rw[aA (jm hde)];exact⟨_,rfl,c2⟩
    ·cases h
   ·simp only[SL,SG]at h;obtain⟨h',hh,l,hlo,rfl⟩:=h;cases hx;obtain⟨r1,r2,r3⟩:=mn (s:=true) hh hlo (Nat.le_refl 0) rh rl;simp only;rw[aA r1];simp only;rw[aA (jm hde)];refine⟨_,rfl,?_⟩;have:l=0:=(by omega);subst this;have:h'=0:=(by omega);subst this;exact .lit _
   ·cases h
  ·cases h
 ·rename_i hd;rw[aA (cQ hd)];simp only;unfold Instr.slice;rw[aA (cQ hd)];split at h
  ·rename_i s;simp only[SL,SG]at h;obtain⟨h',hh,l,hlo,rfl⟩:=h;cases hx;obtain⟨r1,r2,r3⟩:=mn (s:=false) hh hlo (Nat.le_refl s.size) rh rl;simp only[Option.isSome_none,Bool.false_eq_true,if_false];rw[aA r1];exact⟨_,rfl,.lit _⟩
  ·cases h
 ·cases h
end Go.Hx
namespace Go.Hx
variable {P:Program} {G:Nat->Option (List AVal)} {Γ Γ':aK} {H H':AHeap} {w w':World}
theorem tM {sz n:Nat}{x:AVal}{cells:List AVal}{cx:Value}(R:RelH P G Γ H w)(h:cV H sz x=some (n,cells))(hx:RelV P Γ H w x cx):
    (Builtin.lenOf cx).run P w=.ok n w/\cells.length=n*sz/\∃cs:List Value,(Builtin.firstCells sz n cx).run P w=.ok cs.toArray w/\cs.length=cells.length /\
      ∀i (_:i<cells.length) (_:i<cs.length),RelV P Γ H w cells[i] cs[i]:=by
  unfold cV at h;split at h
  · rename_i len cells';split at h
    · rename_i hl;simp only[Option.some.injEq,Prod.mk.injEq]at h;obtain⟨rfl,rfl⟩:=h;cases hx with
      |vec0 a cap =>
        refine⟨rfl,hl,[],?_,rfl,fun i h1 _=>absurd h1 (S4 _)⟩;cases a with
        |none=>rfl
        |some a=>unfold Builtin.firstCells;rw[UB];rfl
      | @vec _ _ b off cap cs hb hlt hlen hcs hcell hrel =>
        refine⟨rfl,hl,cs,?_,hcs,hrel⟩;unfold Builtin.firstCells;rw[<- hl,<- hcs];exact pD hcell
    · cases h
  · rename_i id gen off len sz';split at h
    · rename_i hsz;subst hsz;simp only[SG,Prod.mk.injEq]at h;obtain⟨⟨e,cells'⟩,hl,rfl,rfl⟩:=h;rcases jS hx hl with ⟨b,base,nn,a,cap,hΓ,rfl,c1,c2,c3⟩|⟨hΓ,rfl,rfl,rfl⟩
      · refine⟨rfl,by simp only[SN,Tu];omega,?_⟩;rcases c3 with ⟨rfl,c3⟩|⟨rfl,rfl⟩
        · obtain⟨cs,k1,k2,k3⟩:=(rf R hl hΓ).drop off (len*sz') c2;refine⟨cs,?_,k1,k3⟩;unfold Builtin.firstCells;have:len*sz'=cs.length:=(by rw[k1];simp only[SN,Tu];omega);rw[this];exact pD k2
        · refine⟨[],?_,by simp,fun i h1 _=>?_⟩
          · unfold Builtin.firstCells;rw[UB];rfl
          · simp at h1
      · refine⟨rfl,by simp,[],rfl,by simp,fun i h1 _=>?_⟩;simp at h1
    · cases h
  · simp only[Option.some.injEq,Prod.mk.injEq]at h;obtain⟨rfl,rfl⟩:=h;cases hx;exact⟨rfl,by simp,[],rfl,rfl,fun i h1 _=>absurd h1 (S4 _)⟩
  · cases h
theorem Fa (newLen:Nat):∀(k c:Nat),256<=c->c<newLen->Builtin.growBy newLen k c<=2*newLen:=by
  intro k
  induction k with
  |zero=>intro c _ h;simp only[Builtin.growBy];omega
  |succ k ih =>
    intro c h1 h2;simp only[Builtin.growBy];rw[SI (by omega)];by_cases h3:c+(c+768) / 4<newLen
    · exact ih _ (by omega) h3
    · cases k with
      |zero=>simp only[Builtin.growBy];omega
      |succ k=>simp only[Builtin.growBy];rw[SK (by omega)];omega
theorem nextslicecap_le {need cap:Nat}(h:cap<need):Builtin.nextslicecap need cap<=2*need:=by
  unfold Builtin.nextslicecap;split
  · omega
  · split
    · omega
    · exact Fa _ _ _ (by omega) h
theorem Aa (z:Array Value)(n:Nat):(Builtin.zeroCells z n).size=n*z.size:=by simp[Builtin.zeroCells]
theorem run_append_fits {at0 at1 ty e e1:TypeId}{base:Option Addr}{len cap n:Nat}{x:Value}{cs:List Value}(hd:P.underlying at0=some (.slice e))(hd1:P.underlying at1=some (.slice e1))(he:∃i,P.info? e=some i)
    (hlen:(Builtin.lenOf x).run P w=.ok n w) (hcs:(Builtin.firstCells (P.cellsOf e) n x).run P w=.ok cs.toArray w) (hfit:len+n<=cap)
    (hst:match base with|some a=>(storeCells (a.add (len*P.cellsOf e)) cs).run P w=.ok () w'|none=>w'=w):
    (Builtin.append_ #[at0,at1] ty #[.slice base len cap,x]).run P w=.ok (.slice base (len+n) cap) w':=by
  obtain⟨i,hi⟩:=he;unfold Builtin.append_;simp only[List.getElem?_toArray,List.getElem?_cons_zero,List.getElem?_cons_succ];rw[aA (cQ hd)];simp only;rw[aA (run_sizeOf hi)];rw[aA (cQ hd1),aA (Sem.run_pure P w _)];simp only[Bool.false_eq_true,if_false,Bool.not_false,if_true];rw[aA hlen];rw[SK hfit,aA hcs];cases base with
  |none=>subst hst;rfl
  |some a=>rw[aA hst];rfl
theorem Ab {at0 at1 ty e e1:TypeId}{base:Option Addr}{len cap n:Nat}{x zv:Value}{cs os:List Value}{i:TypeInfo}(hd:P.underlying at0=some (.slice e))(hd1:P.underlying at1=some (.slice e1))
    (hi:P.info? e=some i) (hz:i.zero=some zv)
    (hlen:(Builtin.lenOf x).run P w=.ok n w) (hcs:(Builtin.firstCells (P.cellsOf e) n x).run P { w with drawn:=w.drawn+1 }=.ok cs.toArray { w with drawn:=w.drawn+1 })
    (hos:(Builtin.firstCells (P.cellsOf e) len (.slice base len cap)).run P { w with drawn:=w.drawn+1 }=.ok os.toArray { w with drawn:=w.drawn+1 })
    (hfit:cap<len+n) (hb:(len+n)*P.bytesOf e<=2 ^ 46) (hn:len+n<=2 ^ 46):
    ∃newCap,len+n<=newCap/\(Builtin.append_ #[at0,at1] ty #[.slice base len cap,x]).run P w =
      .ok (.slice (some ⟨w.heap.size,0,none⟩) (len+n) newCap)
        (({ w with drawn:=w.drawn+1 }:World).alloc (.cells (os.toArray++cs.toArray++Builtin.zeroCells zv.cells (newCap-(len+n))) e)):=by
  refine⟨(Question.appendCap (len+n) cap e).cut (w.tape w.drawn (.appendCap (len+n) cap e)),?_,?_⟩
  · simp only[Question.cut];omega
  · unfold Builtin.append_;simp only [List.getElem?_toArray,List.getElem?_cons_zero,List.getElem?_cons_succ];rw [aA (cQ hd)];simp only;rw [aA (run_sizeOf hi)];rw [aA (cQ hd1),aA (Sem.run_pure P w _)];simp only [Bool.false_eq_true,if_false,Bool.not_false,if_true];rw [aA hlen];rw [SI (by omega)];rw [aA (run_typeInfo hi)];have hmax : IntKind.i64.max=9223372036854775807:=(by decide);rw [SI (by rw [hmax];omega)];rw [aA (run_typeInfo hi)];have hbi:=zW hi;have h2:=nextslicecap_le hfit;have h3 : Builtin.nextslicecap (len+n) cap*i.bytes≤2*(len+n)*i.bytes:=TU _ h2;rw [SI (by rw [hbi] at hb;rw [Uu] at h3;omega)];have hch : (choose (.appendCap (len+n) cap e)).run P w=.ok ((Question.appendCap (len+n) cap e).cut (w.tape w.drawn (.appendCap (len+n) cap e))) { w with drawn:=w.drawn+1 }:=by
      rw[run_choose];rfl
    rw[aA hch,aA (run_typeInfo hi),aA (run_askRoom P _ _),aA hos,aA hcs,aA (oG hi hz)];rfl
theorem RelV.drew {v:AVal}{cv:Value}(h:RelV P Γ H w v cv)(n:Nat):RelV P Γ H { w with drawn:=n } v cv:=h.bE (tE Γ H w n) (Nat.le_refl _)
theorem Ac {cells:List AVal}{cs:List Value}{rest:Array Value}(hl:cs.length=cells.length)(hr:∀i (_:i<cells.length) (_:i<cs.length),RelV P Γ H w cells[i] cs[i]):
    ∀i (_:i<cells.length),∃cv,(cs.toArray++rest)[i]?=some cv/\RelV P Γ H w cells[i] cv:=fun i hi =>
  ⟨cs[i]'(by omega),by rw[VS (by simp;omega)];simp,hr i hi (by omega)⟩
theorem Fb {id:Nat}{at0 at1 ty:TypeId}{s x v:AVal}{cs cx:Value}(R:RelH P G Γ H w)(h:bM P H id at0 at1 s x=some (v,H'))(hs:RelV P Γ H w s cs)(hx:RelV P Γ H w x cx):
    ∃cv Γ' w',(Builtin.append_ #[at0,at1] ty #[cs,cx]).run P w=.ok cv w'/\Evo Γ H w Γ' H' w'/\H.next<=H'.next/\RelH P G Γ' H' w'/\RelV P Γ' H' w' v cv:=by
  unfold bM at h;split at h
  · rename_i e hd;split at h
    · rename_i e1 hd1;simp only[SL]at h;obtain⟨z,hz,⟨n,nc⟩,hsrc,h⟩:=h;obtain⟨i,zv,hi,hzv,hsz,hzz,hcells⟩:=pQ hz;obtain⟨hlen,hncl,xs,hxs,hxl,hxr⟩:=tM R hsrc hx;obtain⟨_,_,ys,hsrcd,hyl,hyr⟩:=tM (R.drew (w.drawn+1)) hsrc (hx.drew (w.drawn+1));split at h
      · -- a nil slice
        cases hs;simp only at h;split at h
        · rename_i h0;simp only[Option.some.injEq,Prod.mk.injEq]at h;obtain⟨rfl,rfl⟩:=h;subst h0;exact⟨_,Γ,w,run_append_fits hd hd1 ⟨i,hi⟩ hlen hxs (by omega) rfl,Evo.refl _ _ _,Nat.le_refl _,R,.lit _⟩
        · rename_i h0;split at h
          · rename_i hb;simp only [SG,Prod.mk.injEq] at h;obtain ⟨H1,hlay,rfl,rfl⟩:=h;obtain ⟨newCap,hc,hrun⟩:=Ab (base:=none) (len:=0) (cap:=0) (os:=[]) (ty:=ty) hd hd1 hi hzv hlen hsrcd rfl (by omega) (by rw [Nat.zero_add];exact hb.1) (by omega);rw [Nat.zero_add n] at hc hrun;have R1:=R.drew (w.drawn+1);have harr : ∀ j (_ : j<nc.length),∃ cv,(([] : List Value).toArray++ys.toArray++Builtin.zeroCells zv.cells (newCap - n))[j]?=some cv∧RelV P Γ H { w with drawn:=w.drawn+1 } nc[j] cv:=by
              simp only[Array.empty_append];exact Ac hyl hyr
            have hsize:(([]:List Value).toArray++ys.toArray++Builtin.zeroCells zv.cells (newCap-n)).size=newCap*P.cellsOf e:=by
              simp only[Vz,Aa,List.size_toArray,List.length_nil,hyl,hncl];rw[hsz,<- hcells,Nat.zero_add,<- T2];congr 1;omega
            obtain⟨E,hn,R'⟩:=qX R1 hlay (by rw[hsize,hncl];exact TU _ (by omega)) harr;obtain⟨hget,_⟩:=jR hlay;obtain⟨_,_,_,hid⟩:=mS R hlay;refine⟨_,_,_,hrun,(tE Γ H w _).trans (Nat.le_refl _) E,hn,R',?_⟩;exact wh (by rw[hget,SK rfl]) hid (aK.eO _ _ _) (by omega) (by rw[hncl];exact Nat.le_refl _) (by rw[hsize];exact Nat.le_refl _)
          · cases h
      · rename_i id' gen off len sz;simp only[SL]at h;obtain⟨⟨e',cells⟩,hl,h⟩:=h;simp only at h;split at h
        · rename_i hc;obtain⟨rfl,rfl,h1,h2,h3,h4⟩:=hc;split at h
          · rename_i h0;simp only [Option.some.injEq,Prod.mk.injEq] at h;obtain ⟨rfl,rfl⟩:=h;subst h0;have hxs0 : xs=[]:=by
              have:xs.length=0:=(by rw[hxl,hncl];simp);simpa using this
            subst hxs0;rcases jS hs hl with ⟨b,base,nn,a,cap,hΓ,rfl,c1,c2,c3⟩|⟨hΓ,rfl,rfl,rfl⟩
            · exact⟨_,Γ,w,run_append_fits hd hd1 ⟨i,hi⟩ hlen hxs (by omega) rfl,Evo.refl _ _ _,Nat.le_refl _,R,hs⟩
            · exact⟨_,Γ,w,run_append_fits hd hd1 ⟨i,hi⟩ hlen hxs (by omega) rfl,Evo.refl _ _ _,Nat.le_refl _,R,hs⟩
          · rename_i h0;simp only[Option.some.injEq,Prod.mk.injEq]at h;obtain⟨rfl,rfl⟩:=h;have hnpos:0<n:=(by omega);have hg:=jC hl
            -- where a new array is made
            have grows : ∀ (base : Option Addr) (cap : Nat) (os : List Value),(Builtin.firstCells (P.cellsOf e') len (.slice base len cap)).run P { w with drawn:=w.drawn+1 }=.ok os.toArray { w with drawn:=w.drawn+1 } →
                os.length=(cells.drop off).length->(∀j (_:j<(cells.drop off).length) (_:j<os.length),RelV P Γ H { w with drawn:=w.drawn+1 } (cells.drop off)[j] os[j])->cap<len+n ->
                ∃cv Γ' w',(Builtin.append_ #[at0,at1] ty #[.slice base len cap,cx]).run P w=.ok cv w'/\Evo Γ H w Γ' (H.upd id' (.arr (gen+1) e' (cells.drop off++nc))) w' /\
                  H.next<=(H.upd id' (.arr (gen+1) e' (cells.drop off++nc))).next/\RelH P G Γ' (H.upd id' (.arr (gen+1) e' (cells.drop off++nc))) w' /\
                  RelV P Γ' (H.upd id' (.arr (gen+1) e' (cells.drop off++nc))) w' (.own id' (gen+1) 0 (len+n) (P.cellsOf e')) cv:=by
              intro base cap os hos hol hor hcap;obtain⟨newCap,hcp,hrun⟩:=Ab (base:=base) (ty:=ty) hd hd1 hi hzv hlen hsrcd hos hcap h2 h3;have R1:=R.drew (w.drawn+1);have hdl:(cells.drop off).length=len*P.cellsOf e':=(by simp only[Tu];omega);have hsize:(os.toArray++ys.toArray++Builtin.zeroCells zv.cells (newCap-(len+n))).size=newCap*P.cellsOf e':=by
                simp only[Vz,Aa,List.size_toArray,hol,hdl,hyl,hncl];rw[hsz,<- hcells,<- T2,<- T2];congr 1;omega
              have hdn : (cells.drop off++nc).length=(len+n)*P.cellsOf e':=(by rw [List.length_append,hdl,hncl,T2]);have harr : ∀ j (_ : j<(cells.drop off++nc).length),∃ cv,(os.toArray++ys.toArray++Builtin.zeroCells zv.cells (newCap - (len+n)))[j]?=some cv ∧
                  RelV P Γ H { w with drawn:=w.drawn+1 } (cells.drop off++nc)[j] cv:=by
                intro j hj;have:=Ac (P:=P) (Γ:=Γ) (H:=H) (w:={ w with drawn:=w.drawn+1 }) (cells:=cells.drop off++nc) (cs:=os++ys) (rest:=Builtin.zeroCells zv.cells (newCap-(len+n)))
                  (by rw[List.length_append,List.length_append,hol,hyl]) (fun k a b=>?_) j hj
                · simpa using this
                · by_cases hk:k<(cells.drop off).length
                  · rw[TL hk,TL (by omega)];exact hor k hk (by omega)
                  · rw[TR (by omega),TR (by omega)];simp only[hol];exact hyr _ (by simp only[List.length_append]at a;omega) (by simp only[List.length_append]at b;omega)
              obtain⟨E,R'⟩:=EG R1 hg (by rw[hsize,hdn];exact TU _ hcp) harr;refine⟨_,_,_,hrun,(tE Γ H w _).trans (Nat.le_refl _) E,Nat.le_refl _,R',.own ⟨R.next id' _ hg,rfl,by rw[ae,SK rfl];simp,fun g'' e'' cells'' hg''=>?_⟩⟩;rw[ae,SK rfl]at hg'';simp only[Option.some.injEq,Blk.arr.injEq]at hg'';obtain⟨rfl,rfl,rfl⟩:=hg'';refine⟨Nat.le_refl _,fun _=>?_⟩;rw[aK.eO];exact⟨_,_,rfl,hcp,by rw[hdn,Nat.zero_add];exact Nat.le_refl _,.inl ⟨rfl,by rw[hsize,Nat.zero_add];omega⟩⟩
            rcases jS hs hl with ⟨b,base,nn,a,cap,hΓ,rfl,c1,c2,c3⟩|⟨hΓ,rfl,rfl,rfl⟩
            · by_cases hcap:len+n<=cap
              · -- there is room
                have ha:a=⟨b,base+off,none⟩/\base+off+cap*P.cellsOf e'<=nn:=by
                  rcases c3 with c3|c3
                  · exact c3
                  · omega
                obtain⟨rfl,c4⟩:=ha;obtain⟨c,q1,q2,q3,q4⟩:=pN R hl hΓ;have hroom:(len+n)*P.cellsOf e'<=cap*P.cellsOf e':=TU _ hcap;rw[T2]at hroom;have hst:=qU (P:=P) xs c (base+off+len*P.cellsOf e') 0 w q1 (by rw[hxl,hncl];omega) (tI h4 hxl hxr);have hrun:=run_append_fits (ty:=ty) (base:=some ⟨b,base+off,none⟩) hd hd1 ⟨i,hi⟩ hlen hxs hcap (by
                  show (storeCells (Addr.add ⟨b,base+off,none⟩ (len*P.cellsOf e')) xs).run P w=_;rw[kq];exact hst)
                have hdl:(cells.drop off).length=len*P.cellsOf e':=(by simp only[Tu];omega);have hdn:(cells.drop off++nc).length=len*P.cellsOf e'+n*P.cellsOf e':=(by rw[List.length_append,hdl,hncl]);have harr:∀j (_:j<(cells.drop off++nc).length),∃cv,(setRow c (base+off+len*P.cellsOf e'+0) xs)[base+off+j]?=some cv/\RelV P Γ H w (cells.drop off++nc)[j] cv:=by
                  intro j hj;rw[zH _ _ _ (by rw[hxl,hncl];omega)];by_cases hk:j<(cells.drop off).length
                  · rw[SI (by omega),TL hk];obtain⟨cv,k1,k2⟩:=q4 (off+j) (by simp only[Tu]at hk;omega);refine⟨cv,by rw[Uk];exact k1,?_⟩;simp only[UL];exact k2
                  · rw[TR (by omega),SK (by rw[hxl,hncl];omega)];have hj2:j-(cells.drop off).length<nc.length:=(by simp only[List.length_append]at hj;omega);refine⟨xs[j-(cells.drop off).length]'(by omega),?_,hxr _ hj2 (by omega)⟩;rw[show base+off+j-(base+off+len*P.cellsOf e'+0)=j-(cells.drop off).length from by omega];exact SJ (by omega)
                obtain⟨E,R'⟩:=EF (base':=base+off) R hg hΓ (by rw[size_setRow];exact q2) (by rw[hdn];omega) harr;refine⟨_,_,_,hrun,E,Nat.le_refl _,R',.own ⟨R.next id' _ hg,rfl,by rw[ae,SK rfl];simp,fun g'' e'' cells'' hg''=>?_⟩⟩;rw[ae,SK rfl]at hg'';simp only[Option.some.injEq,Blk.arr.injEq]at hg'';obtain⟨rfl,rfl,rfl⟩:=hg'';refine⟨Nat.le_refl _,fun _=>?_⟩;rw[aK.eO];exact⟨_,_,rfl,hcap,by rw[hdn,Nat.zero_add,T2];exact Nat.le_refl _,.inl ⟨rfl,c4⟩⟩
              · -- there is none
                rcases c3 with ⟨rfl,c3⟩|⟨rfl,rfl⟩
                · obtain⟨os,k1,k2,k3⟩:=(rf (R.drew (w.drawn+1)) hl hΓ).drop off (len*P.cellsOf e') (by omega);have htk:(cells.drop off).take (len*P.cellsOf e')=cells.drop off:=SH (by simp only[Tu];omega);rw[htk]at k1 k3;refine grows _ cap os ?_ k1 k3 (by omega);unfold Builtin.firstCells;have:len*P.cellsOf e'=os.length:=(by rw[k1];simp only[Tu];omega);rw[this];exact pD k2
                · refine grows _ 0 [] ?_ (by simp only[List.length_nil,Tu];omega) (fun j _ h=>absurd h (S4 _)) (by omega);unfold Builtin.firstCells;rw[UB];rfl
            · refine grows none 0 [] rfl (by simp only[List.length_nil,Tu];omega) (fun j _ h=>absurd h (S4 _)) (by omega)
        · cases h
      · cases h
    · cases h
  · cases h
end Go.Hx
namespace Go.Hx
variable {P:Program} {G:Nat->Option (List AVal)} {Γ Γ':aK} {H H':AHeap} {w w':World}
theorem Fc {t:TypeId}{ty:TypeId}{x v:AVal}{cx:Value}(h:mh P H t x=some v)(hx:RelV P Γ H w x cx):
  ∃cv,(Builtin.len_ #[t] ty #[cx]).run P w=.ok cv w/\RelV P Γ H w v cv:=by
 unfold mh at h;unfold Builtin.len_;simp only[List.getElem?_toArray,List.getElem?_cons_zero];split at h
 ·rename_i e hd;rw[aA (cQ hd)];split at h
  ·rename_i len cells;simp only[Option.some.injEq]at h;subst h;cases hx<;>exact⟨_,rfl,.lit _⟩
  ·rename_i id gen off len sz;simp only[SG]at h;obtain⟨⟨e',cells⟩,hl,rfl⟩:=h;rcases jS hx hl with ⟨b,base,n,a,cap,hΓ,rfl,_⟩|⟨hΓ,rfl,rfl,rfl⟩<;>exact⟨_,rfl,.lit _⟩
  ·simp only[Option.some.injEq]at h;subst h;cases hx;exact⟨_,rfl,.lit _⟩
  ·cases h
 ·rename_i hd;rw[aA (cQ hd)];split at h
  ·simp only[Option.some.injEq]at h;subst h;cases hx;exact⟨_,rfl,.lit _⟩
  ·cases h
 ·rename_i n e hd;rw[aA (cQ hd)];simp only[Option.some.injEq]at h;subst h;exact⟨_,rfl,.lit _⟩
 ·cases h
theorem Fe {sz n m:Nat}{x:AVal}{cells:List AVal}{cx:Value}(R:RelH P G Γ H w)(h:cV H sz x=some (n,cells))(hx:RelV P Γ H w x cx)(hm:m<=n):
  ∃cs:List Value,(Builtin.firstCells sz m cx).run P w=.ok cs.toArray w/\cs.length=(cells.take (m*sz)).length /\
   ∀i (_:i<(cells.take (m*sz)).length) (_:i<cs.length),RelV P Γ H w (cells.take (m*sz))[i] cs[i]:=by
 have hms:m*sz<=n*sz:=TU _ hm;unfold cV at h;split at h
 ·rename_i len cells';split at h
  ·rename_i hl;simp only[Option.some.injEq,Prod.mk.injEq]at h;obtain⟨rfl,rfl⟩:=h;cases hx with
   |vec0 a cap =>
    have:m=0:=(by omega);subst this;refine⟨[],?_,by simp,fun i h1 _=>by simp at h1⟩;cases a with
    |none=>rfl
    |some a=>unfold Builtin.firstCells;rw[UB];rfl
   | @vec _ _ b off cap cs hb hlt hlen hcs hcell hrel =>
    obtain⟨cs',k1,k2,k3⟩:=RowAt.drop (k:=0) (n:=m*sz) ⟨cs,hcs,hcell,hrel⟩ (by omega);rw[List.drop_zero]at k1 k3;refine⟨cs',?_,k1,k3⟩;unfold Builtin.firstCells;have:m*sz=cs'.length:=(by rw[k1,SN];omega);rw[this];exact pD k2
  ·cases h
 ·rename_i id gen off len sz';split at h
  ·rename_i hsz;subst hsz;simp only[SG,Prod.mk.injEq]at h;obtain⟨⟨e,cells'⟩,hl,rfl,rfl⟩:=h;rcases jS hx hl with ⟨b,base,nn,a,cap,hΓ,rfl,c1,c2,c3⟩|⟨hΓ,rfl,rfl,rfl⟩
   ·rcases c3 with ⟨rfl,c3⟩|⟨rfl,rfl⟩
    ·obtain⟨cs,k1,k2,k3⟩:=(rf R hl hΓ).drop off (m*sz') (by omega);have he:((cells'.drop off).take (len*sz')).take (m*sz')=(cells'.drop off).take (m*sz'):=by
      rw[List.take_take,TY hms]
     simp only[he];refine⟨cs,?_,k1,k3⟩;unfold Builtin.firstCells;have:m*sz'=cs.length:=(by rw[k1];simp only[SN,Tu];omega);rw[this];exact pD k2
    ·have:m=0:=(by omega);subst this;refine⟨[],?_,by simp,fun i h1 _=>by simp at h1⟩;unfold Builtin.firstCells;rw[UB];rfl
   ·have:m=0:=(by omega);subst this;exact⟨[],rfl,by simp,fun i h1 _=>by simp at h1⟩
  ·cases h
 ·simp only[Option.some.injEq,Prod.mk.injEq]at h;obtain⟨rfl,rfl⟩:=h;cases hx;have:m=0:=by omega
  subst this;exact⟨[],rfl,by simp,fun i h1 _=>by simp at h1⟩
 ·cases h
theorem Ff {at0 at1 ty:TypeId}{d x v:AVal}{cd cx:Value}(R:RelH P G Γ H w)(h:lk P H at0 d x=some (v,H'))(hd:RelV P Γ H w d cd)(hx:RelV P Γ H w x cx):
  ∃cv Γ' w',(Builtin.copy_ #[at0,at1] ty #[cd,cx]).run P w=.ok cv w'/\Evo Γ H w Γ' H' w'/\H.next<=H'.next/\RelH P G Γ' H' w'/\RelV P Γ' H' w' v cv:=by
 unfold lk at h;split at h
 ·rename_i e hu;split at h
  ·rename_i he;obtain⟨du,hde⟩:=Tv.1 he;simp only[SL]at h;obtain⟨⟨n,nc⟩,hsrc,h⟩:=h;obtain⟨hlen,hncl,xs,hxs,hxl,hxr⟩:=tM R hsrc hx;split at h
   ·rename_i id gen off len sz;simp only[SL]at h;obtain⟨⟨e',cells⟩,hl,h⟩:=h;simp only at h;split at h
    ·rename_i hc;obtain ⟨rfl,h1,h2⟩:=hc;simp only [Option.some.injEq,Prod.mk.injEq] at h;obtain ⟨rfl,rfl⟩:=h;have hmin : min n len*P.cellsOf e≤nc.length:=(by rw [hncl];exact TU _ (Nat.min_le_left _ _));have hmin2 : min n len*P.cellsOf e≤len*P.cellsOf e:=TU _ (Nat.min_le_right _ _)
          -- the first cells of the source
     obtain⟨ys,hys,hyl,hyr⟩:∃ys:List Value,(Builtin.firstCells (P.cellsOf e) (min n len) cx).run P w=.ok ys.toArray w/\ys.length=(nc.take (min n len*P.cellsOf e)).length /\
       ∀i (_:i<(nc.take (min n len*P.cellsOf e)).length) (_:i<ys.length),RelV P Γ H w (nc.take (min n len*P.cellsOf e))[i] ys[i]:=Fe R hsrc hx (Nat.min_le_left n len)
     have hall:(nc.take (min n len*P.cellsOf e)).all AVal.one=true:=by
      rw[Td]at h2 ⊢;exact fun v hv=>h2 v (S8 hv)
     have htl:(nc.take (min n len*P.cellsOf e)).length=min n len*P.cellsOf e:=(by rw[SN];omega);rcases jS hd hl with ⟨b,base,nn,a,cap,hΓ,rfl,c1,c2,c3⟩|⟨hΓ,rfl,rfl,rfl⟩
     ·obtain⟨c,q1,q2,q3,q4⟩:=pN R hl hΓ;have hst:(storeCells a ys).run P w=.ok () (bY w b (.cells (setRow c (base+off) ys) e' (0,0))):=by
       rcases c3 with ⟨rfl,c3⟩|⟨rfl,rfl⟩
       ·exact qU (P:=P) ys c (base+off) 0 w q1 (by rw[hyl,htl];omega) (tI hall hyl hyr)
       ·have:ys=[]:=by
         have:ys.length=0:=(by rw[hyl,htl];simp);simpa using this
        subst this;have hsame:bY w b (.cells (setRow c (base+off) []) e' (0,0))=w:=by
         have:=qU (P:=P) [] c (base+off) 0 w q1 (by simp;omega) (fun v h=>by simp at h);simp only[storeCells,Sem.run_pure,Result.ok.injEq,true_and]at this;exact this.symm
        rw[hsame];rfl
      have hrun:(Builtin.copy_ #[at0,at1] ty #[.slice (some a) len cap,cx]).run P w=.ok (.int .i64 (min n len:Nat)) (bY w b (.cells (setRow c (base+off) ys) e' (0,0))):=by
       unfold Builtin.copy_;simp only[List.getElem?_toArray,List.getElem?_cons_zero,List.getElem?_cons_succ];rw[aA (cQ hu)];simp only;rw[aA hlen,aA (jm hde)];rw[aA hys,aA hst];rfl
      obtain⟨E,R'⟩:=v7 (cells':=setAt cells off (nc.take (min n len*P.cellsOf e))) (c':=setRow c (base+off) ys) R (jC hl) hΓ (pF (by rw[htl];omega)) (by rw[size_setRow,q2])
       (tJ (by rw[htl];omega) (by omega) hyl q4 hyr)
      exact⟨_,_,_,hrun,E,Nat.le_refl _,R',.lit _⟩
     ·have:min n 0=0:=(by omega);rw[this]at hys hyl ⊢;have hys0:ys=[]:=by
       have:ys.length=0:=(by rw[hyl];simp);simpa using this
      subst hys0;have hrun:(Builtin.copy_ #[at0,at1] ty #[.slice none 0 0,cx]).run P w=.ok (.int .i64 (0:Nat)) w:=by
       unfold Builtin.copy_;simp only[List.getElem?_toArray,List.getElem?_cons_zero,List.getElem?_cons_succ];rw[aA (cQ hu)];simp only;rw[aA hlen,aA (jm hde)];have:Nat.min n 0=0:=(by show min n 0=0;omega);rw[this,aA hys];rfl
      have hset:H.upd id (.arr gen e' (setAt cells 0 (nc.take (0*P.cellsOf e))))=H:=by
       have hs:setAt cells 0 (nc.take (0*P.cellsOf e))=cells:=(by simp[setAt]);rw[hs];have:∀j,(H.upd id (.arr gen e' cells)).get j=H.get j:=by
        intro j;rw[ae];by_cases hj:j=id
        ·rw[SK hj,hj,jC hl]
        ·rw[SI hj]
       show ({ get:=(H.upd id (.arr gen e' cells)).get,next:=H.next }:AHeap)=H;rw[funext this]
      rw[hset];exact⟨_,Γ,w,hrun,Evo.refl _ _ _,Nat.le_refl _,R,.lit _⟩
    ·cases h
   ·cases h
  ·cases h
 ·cases h
theorem Fg {at0 ty:TypeId}{d v:AVal}{cd:Value}(R:RelH P G Γ H w)(h:lu P H at0 d=some (v,H'))(hd:RelV P Γ H w d cd):
  ∃cv Γ' w',(Builtin.clear_ #[at0] ty #[cd]).run P w=.ok cv w'/\Evo Γ H w Γ' H' w'/\H.next<=H'.next/\RelH P G Γ' H' w'/\RelV P Γ' H' w' v cv:=by
 have tup0:∀(Γ:aK) (H:AHeap) (w:World),RelV P Γ H w (.tup []) (.tuple #[]):=fun Γ H w=>RelV.tup (cells:=[]) (cs:=[]) rfl fun i h _=>absurd h (S4 _);unfold lu at h;split at h
 ·rename_i e hu;split at h
  ·simp only[Option.some.injEq,Prod.mk.injEq]at h;obtain⟨rfl,rfl⟩:=h;cases hd;refine⟨.tuple #[],Γ,w,?_,Evo.refl _ _ _,Nat.le_refl _,R,tup0 _ _ _⟩;unfold Builtin.clear_;simp only[List.getElem?_toArray,List.getElem?_cons_zero];rw[aA (cQ hu)];rfl
  ·rename_i id gen off len sz;simp only[SL]at h;obtain⟨⟨e',cells⟩,hl,h⟩:=h;simp only at h;split at h
   ·rename_i h0;subst h0;simp only[Option.some.injEq,Prod.mk.injEq]at h;obtain⟨rfl,rfl⟩:=h;refine⟨.tuple #[],Γ,w,?_,Evo.refl _ _ _,Nat.le_refl _,R,tup0 _ _ _⟩;rcases jS hd hl with ⟨b,base,nn,a,cap,hΓ,rfl,c1,c2,c3⟩|⟨hΓ,rfl,_,rfl⟩
    ·unfold Builtin.clear_;simp only[List.getElem?_toArray,List.getElem?_cons_zero];rw[aA (cQ hu)];rfl
    ·unfold Builtin.clear_;simp only[List.getElem?_toArray,List.getElem?_cons_zero];rw[aA (cQ hu)];rfl
   ·rename_i h0;simp only[SL]at h;obtain⟨zs,hzs,h⟩:=h;split at h
    ·rename_i hc;obtain⟨h1,h2,h3⟩:=hc;simp only[Option.some.injEq,Prod.mk.injEq]at h;obtain⟨rfl,rfl⟩:=h;unfold kr at hzs;simp only[SG]at hzs;obtain⟨z,hz,rfl⟩:=hzs;obtain⟨i,zv,hi,hzv,hsz,hzz,hcells⟩:=pQ hz;have hzr:dW P Γ H w (List.replicate len z).flatten (Builtin.zeroCells zv.cells len):=wg hzz;have hyl:(Builtin.zeroCells zv.cells len).toList.length=(List.replicate len z).flatten.length:=(by rw[UG];exact hzr.1);have hyr:∀i (_:i<(List.replicate len z).flatten.length) (_:i<(Builtin.zeroCells zv.cells len).toList.length),RelV P Γ H w (List.replicate len z).flatten[i] (Builtin.zeroCells zv.cells len).toList[i]:=fun i h1 h2=>hzr.2 i h1 (by rw[UG]at h2;exact h2);rcases jS hd hl with ⟨b,base,nn,a,cap,hΓ,rfl,c1,c2,c3⟩|⟨hΓ,_,h4,_⟩
     ·rcases c3 with ⟨rfl,c3⟩|⟨h4,_⟩
      ·obtain⟨c,q1,q2,q3,q4⟩:=pN R hl hΓ;have hst:(storeCells ⟨b,base+off,none⟩ (Builtin.zeroCells zv.cells len).toList).run P w=.ok () (bY w b (.cells (setRow c (base+off) (Builtin.zeroCells zv.cells len).toList) e' (0,0))) :=
        qU (P:=P) _ c (base+off) 0 w q1 (by rw[hyl,h1];omega) (tI h3 hyl hyr)
       have hrun:(Builtin.clear_ #[at0] ty #[.slice (some ⟨b,base+off,none⟩) len cap]).run P w=.ok (.tuple #[]) (bY w b (.cells (setRow c (base+off) (Builtin.zeroCells zv.cells len).toList) e' (0,0))):=by
        obtain⟨m,rfl⟩:∃m,len=m+1:=⟨len-1,by omega⟩
        unfold Builtin.clear_;simp only[List.getElem?_toArray,List.getElem?_cons_zero];rw[aA (cQ hu)];simp only;rw[aA (oG hi hzv),aA hst];rfl
       obtain⟨E,R'⟩:=v7 (cells':=setAt cells off (List.replicate len z).flatten) (c':=setRow c (base+off) (Builtin.zeroCells zv.cells len).toList) R (jC hl) hΓ (pF (by rw[h1];exact h2)) (by rw[size_setRow,q2])
        (tJ (by rw[h1];exact h2) (by omega) hyl q4 hyr)
       exact⟨_,_,_,hrun,E,Nat.le_refl _,R',tup0 _ _ _⟩
      ·exact absurd h4 h0
     ·exact absurd h4 h0
    ·cases h
  ·cases h
 ·cases h
end Go.Hx
namespace Go.Hx
variable {P:Program} {G:Nat->Option (List AVal)} {Γ Γ':aK} {H H':AHeap} {w w':World}
theorem Fh (k:Int):∀(es:List (Int × Int)) (j i:Nat),Instr.findNow (.int .i64) (.int .i64 k) (dK j es) i=some ((gf k i es).map fun p=>(p.1,.int .i64 p.2)):=by
 intro es
 induction es with
 |nil=>intro j i;rfl
 |cons e es ih =>
  intro j i;obtain⟨a,v⟩:=e;simp only[dK,Instr.findNow,Instr.sameNow,if_true,gf];by_cases h:k=a
  ·subst h;simp
  ·have:(k == a)=false:=(by simp[h]);rw[this];simp only[SI h];exact ih (j+1) (i+1)
theorem Fi:∀(es fs:List (Int × Int)) (j:Nat),dK j (es++fs)=dK j es++dK (j+es.length) fs:=by
 intro es
 induction es with
 |nil=>intro fs j;simp[dK]
 |cons e es ih =>
  intro fs j;obtain⟨a,v⟩:=e;simp only[List.cons_append,dK,ih,List.length_cons];rw[show j+1+es.length=j+(es.length+1) by omega]
theorem Ad:∀(es:List (Int × Int)) (j i:Nat),(dK j es)[i]?=es[i]?.map fun p=>⟨.int .i64 p.1,.int .i64 p.2,j+i⟩:=by
 intro es
 induction es with
 |nil=>intro j i;simp[dK]
 |cons e es ih =>
  intro j i;obtain⟨a,v⟩:=e;cases i with
  |zero=>simp[dK]
  |succ i =>
   simp only[dK,List.getElem?_cons_succ,ih];rw[show j+1+i=j+(i+1) by omega]
theorem Fj (f:MapEntry->MapEntry):∀(es:List (Int × Int)) (j i:Nat) (k v k' v':Int),es[i]?=some (k,v)->f ⟨.int .i64 k,.int .i64 v,j+i⟩=⟨.int .i64 k',.int .i64 v',j+i⟩->(dK j es).modify i f=dK j (es.set i (k',v')):=by
 intro es
 induction es with
 |nil=>intro j i k v k' v' h _;simp at h
 |cons e es ih =>
  intro j i k v k' v' h hf;obtain⟨a,u⟩:=e;cases i with
  |zero =>
   simp only[List.getElem?_cons_zero,Option.some.injEq,Prod.mk.injEq]at h;obtain⟨rfl,rfl⟩:=h;simp only[Nat.add_zero]at hf;simp[dK,hf]
  |succ i =>
   simp only[List.getElem?_cons_succ]at h;have:=ih (j+1) i k v k' v' h (by rw[show j+1+i=j+(i+1) by omega];exact hf);simp only[dK,List.modify_succ_cons,List.set_cons_succ,this]
theorem Ae {k:Int}:∀ {es:List (Int × Int)} {i n:Nat} {v:Int},gf k i es=some (n,v)->i<=n/\es[n-i]?=some (k,v):=by
 intro es
 induction es with
 |nil=>intro i n v h;cases h
 |cons e es ih =>
  intro i n v h;obtain⟨a,u⟩:=e;simp only[gf]at h;by_cases hk:k=a
  ·rw[SK hk]at h;cases h;subst hk;exact⟨Nat.le_refl _,by simp⟩
  ·rw[SI hk]at h;obtain⟨h1,h2⟩:=ih h;refine⟨by omega,?_⟩;rw[show n-i=(n-(i+1))+1 by omega];exact h2
theorem Fk:∀(es:List (Int × Int)) (j n:Nat),n<es.length->(dK j es).findIdx? (fun e=>(e.born:Int) == ((j+n:Nat):Int))=some n:=by
 intro es
 induction es with
 |nil=>intro j n h;simp at h
 |cons e es ih =>
  intro j n h;obtain⟨a,u⟩:=e;simp only[dK,List.findIdx?_cons];cases n with
  |zero=>simp
  |succ n =>
   have hne:((j:Int) == ((j+(n+1):Nat):Int))=false:=by
    rw[beq_eq_false_iff_ne];omega
   rw[hne];have:=ih (j+1) n (by simpa using h);rw[show j+1+n=j+(n+1) by omega]at this;simp only[Bool.false_eq_true,if_false,this];rfl
theorem Af {es:List (Int × Int)}(k v:Int):Obj.map ((dK 0 es).toArray.push ⟨.int .i64 k,.int .i64 v,es.length⟩) (es.length+1)=gX (es++[(k,v)]):=by
 unfold gX;rw[Fi];simp[dK]
theorem wu {es:List (Int × Int)}{i:Nat}{k v k' v':Int}(f:MapEntry->MapEntry)(h:es[i]?=some (k,v))(hf:f ⟨.int .i64 k,.int .i64 v,i⟩=⟨.int .i64 k',.int .i64 v',i⟩):
  Obj.map ((dK 0 es).toArray.modify i f) es.length=gX (es.set i (k',v')):=by
 unfold gX;have:=Fj f es 0 i k v k' v' h (by simpa using hf);rw[<- this,SO];congr 1;apply Array.ext';simp
theorem Fl {es:List (Int × Int)}{i:Nat}{k v:Int}(h:es[i]?=some (k,v)):es.set i (k,v)=es:=by
 obtain⟨hi,he⟩:=Tj.1 h;rw[<- he];exact List.set_getElem_self hi
structure IntMap (P:Program)(t:TypeId)(kt et:TypeId):Prop where
 und:P.underlying t=some (.map kt et)
 key:P.underlying kt=some (.int .i64)
 zero:∀w:World,(zeroValue et).run P w=.ok (.int .i64 0) w
theorem wx {t:TypeId}(h:mV P t=true):∃kt et,IntMap P t kt et:=by
 unfold mV at h;split at h
 ·rename_i kt et ht;simp only[TQ]at h;obtain⟨h1,h2⟩:=h;split at h1
  ·rename_i hk;split at h2
   ·rename_i hz;rw[SL]at hz;obtain⟨i,hi,hz⟩:=hz;exact⟨kt,et,ht,hk,fun w=>oG hi hz⟩
   ·cases h2
  ·cases h1
 ·cases h
theorem run_checkKey {kt:TypeId}{e:Bool}{k:Int}(hk:P.underlying kt=some (.int .i64)):(Instr.checkKey e 10000 kt (.int .i64 k)).run P w=.ok () w:=by
 show (Instr.checkKey e (9999+1) kt (.int .i64 k)).run P w=.ok () w;unfold Instr.checkKey;rw[aA (cQ hk)];rfl
theorem run_findKey {kt:TypeId}{k:Int}{es:List (Int × Int)}(hk:P.underlying kt=some (.int .i64)):(Instr.findKey kt (.int .i64 k) (dK 0 es)).run P w=.ok ((gf k 0 es).map fun p=>(p.1,.int .i64 p.2)) w:=by
 unfold Instr.findKey;rw[aA (cQ hk),Fh];rfl
theorem Ag {k:Int}:(Instr.keyThatStays (.int .i64 k) (.int .i64 k)).run P w=.ok (.int .i64 k) w:=by
 unfold Instr.keyThatStays;have:Instr.sameBits 10000 (.int .i64 k) (.int .i64 k)=true:=by
  show (IntKind.i64 == IntKind.i64 && k == k)=true;simp
 rw[this];rfl
theorem rj {b:Nat}{es:List (Int × Int)}(h:w.heap[b]?=some (gX es)):(getObj b).run P w=.ok (.map (dK 0 es).toArray es.length) w:=by simp[getObj,Sem.run,h,gX]
theorem rm {b:Nat}{es:List (Int × Int)}(o:Obj)(h:w.heap[b]?=some (gX es)):(setObj b o).run P w=.ok () (bY w b o):=by
 have h':w.heap[b]?=some (.map (dK 0 es).toArray es.length):=h;simp[setObj,Sem.run,h',bY]
theorem tO {id:Nat}{es:List (Int × Int)}{cv:Value}(R:RelH P G Γ H w)(h:RelV P Γ H w (.yld id) cv)(hg:H.get id=some (.mp es)):∃b,Γ id=some (b,0,0)/\cv=.map (some b)/\w.heap[b]?=some (gX es):=by
 cases h with
 |yld h =>
  obtain⟨b,h1,h2⟩:=h.2.2.2.2 es hg;obtain⟨b',h3,h4⟩:=R.mp id es hg;rw[h1]at h3;cases h3;exact⟨b,h1,h2,h4⟩
theorem Ah (ok:Bool)(r:Option (Nat × Int))(v:Value)(b:Bool)(h:(v,b)=match r with|some (_,v)=>(Value.int .i64 v,true)|none=>(Value.int .i64 0,false)):RelV P Γ H w (qY ok r) (if ok=true then .tuple #[v,.bool b] else v):=by
 have two:∀x y:Value,RelV P Γ H w (.tup [.lit x,.lit y]) (.tuple #[x,y]):=fun x y=>RelV.tup (cells:=[.lit x,.lit y]) (cs:=[x,y]) rfl fun i h _=>match i,h with
  |0,_=>.lit _
  |1,_=>.lit _
 cases r with
 |none =>
  simp only[Prod.mk.injEq]at h;obtain⟨rfl,rfl⟩:=h;cases ok
  ·exact .lit _
  ·exact two _ _
 |some p =>
  obtain⟨n,u⟩:=p;simp only[Prod.mk.injEq]at h;obtain⟨rfl,rfl⟩:=h;cases ok
  ·exact .lit _
  ·exact two _ _
theorem Fm {t:TypeId}{x i v:AVal}{ok:Bool}{cx ci:Value}(R:RelH P G Γ H w)(h:mi P H t x i ok=some v)(hx:RelV P Γ H w x cx)(hi:RelV P Γ H w i ci):
  ∃cv,(Instr.lookup t cx ci ok).run P w=.ok cv w/\RelV P Γ H w v cv:=by
 unfold mi at h;split at h
 ·rename_i hm;obtain⟨kt,et,M⟩:=wx hm;split at h
  ·rename_i k;cases hx;cases hi;cases h;refine⟨_,?_,Ah ok none (.int .i64 0) false rfl⟩;unfold Instr.lookup;rw[aA (cQ M.und)];simp only;refine(aA (Sem.run_pure P w _)).trans ?_;refine(aA (run_checkKey M.key)).trans ?_;refine(aA (run_findKey (es:=[]) M.key)).trans ?_;refine(aA (M.zero w)).trans ?_;cases ok<;>rfl
  ·rename_i id k;cases hi;split at h
   ·rename_i es hg;cases h;obtain⟨b,hΓ,rfl,hb⟩:=tO R hx hg;have fin:∀(u:Value) (d:Bool),((u,d)=match gf k 0 es with|some (_,v)=>(Value.int .i64 v,true)|none=>(Value.int .i64 0,false))->∃cv,(Instr.lookup t (.map (some b)) (.int .i64 k) ok).run P w=.ok cv w/\RelV P Γ H w (qY ok (gf k 0 es)) cv:=by
     intro u d hud;refine⟨_,?_,Ah ok _ u d hud⟩;unfold Instr.lookup;rw[aA (cQ M.und)];simp only;refine(aA (rj hb)).trans ?_;refine(aA (Sem.run_pure P w _)).trans ?_;refine(aA (run_checkKey M.key)).trans ?_;refine(aA (run_findKey (es:=es) M.key)).trans ?_;cases hf:gf k 0 es with
     |none =>
      rw[hf]at hud;cases hud;refine(aA (M.zero w)).trans ?_;cases ok<;>rfl
     |some p =>
      rw[hf]at hud;cases hud;cases ok<;>rfl
    exact fin _ _ rfl
   ·cases h
  ·cases h
 ·cases h
theorem Ai {t:TypeId}{m k x v:AVal}{cm ck cx:Value}(R:RelH P G Γ H w)(h:jA P H t m k x=some (v,H'))(hm:RelV P Γ H w m cm)(hk:RelV P Γ H w k ck)(hx:RelV P Γ H w x cx):
  ∃ Γ' w',(Instr.mapUpdate t cm ck cx).run P w=.ok () w'/\Evo Γ H w Γ' H' w'/\H.next<=H'.next/\RelH P G Γ' H' w'/\v=.lit undef:=by
 unfold jA at h;split at h
 ·rename_i him;obtain⟨kt,et,M⟩:=wx him;split at h
  ·rename_i id k u;cases hk;cases hx;split at h
   ·rename_i es hg;simp only[Option.some.injEq,Prod.mk.injEq]at h;obtain⟨rfl,rfl⟩:=h;obtain⟨b,hΓ,rfl,hb⟩:=tO R hm hg;obtain⟨E,R'⟩:=tF (pH es k u) R hg hΓ hb;refine⟨Γ,_,?_,E,Nat.le_refl _,R',rfl⟩;unfold Instr.mapUpdate;rw[aA (cQ M.und)];simp only;refine(aA (rj hb)).trans ?_;refine(aA (run_checkKey M.key)).trans ?_;refine(aA (run_findKey (es:=es) M.key)).trans ?_;unfold pH;cases hf:gf k 0 es with
    |none =>
     simp only[Option.map_none];rw[rm _ hb,Af]
    |some p =>
     obtain⟨n,old⟩:=p;obtain⟨_,hn⟩:=Ae hf;simp only[Nat.sub_zero]at hn;have he:(dK 0 es).toArray[n]?=some ⟨.int .i64 k,.int .i64 old,n⟩:=by
      rw[List.getElem?_toArray,Ad,hn];simp
     simp only[Option.map_some,he,Option.getD_some];refine(aA Ag).trans ?_;rw[rm _ hb];rw[wu (k':=k) (v':=u) _ hn rfl]
   ·cases h
  ·cases h
 ·cases h
theorem Fo {t:TypeId}{m k v:AVal}{cm ck:Value}(R:RelH P G Γ H w)(h:oF P H t m k=some (v,H'))(hm:RelV P Γ H w m cm)(hk:RelV P Γ H w k ck):
  ∃cv Γ' w',(Instr.mapEntry t cm ck).run P w=.ok cv w'/\Evo Γ H w Γ' H' w'/\H.next<=H'.next/\RelH P G Γ' H' w'/\RelV P Γ' H' w' v cv:=by
 have two:∀(Γ:aK) (H:AHeap) (w:World) (x y:Value),RelV P Γ H w (.tup [.lit x,.lit y]) (.tuple #[x,y]):=fun Γ H w x y=>RelV.tup (cells:=[.lit x,.lit y]) (cs:=[x,y]) rfl fun i h _=>match i,h with
  |0,_=>.lit _
  |1,_=>.lit _
 unfold oF at h;split at h
 ·rename_i him;obtain⟨kt,et,M⟩:=wx him;split at h
  ·rename_i id k;cases hk;split at h
   ·rename_i es hg;obtain⟨b,hΓ,rfl,hb⟩:=tO R hm hg;split at h
    ·rename_i n u hf;simp only[Option.some.injEq,Prod.mk.injEq]at h;obtain⟨rfl,rfl⟩:=h;obtain⟨_,hn⟩:=Ae hf;simp only[Nat.sub_zero]at hn;have he:(dK 0 es).toArray[n]?=some ⟨.int .i64 k,.int .i64 u,n⟩:=by
      rw[List.getElem?_toArray,Ad,hn];simp
     obtain⟨E,R'⟩:=tF es R hg hΓ hb;refine⟨_,Γ,_,?_,E,Nat.le_refl _,R',two _ _ _ (.int .i64 u) (.int .i64 n)⟩;unfold Instr.mapEntry;rw[aA (cQ M.und)];simp only;refine(aA (rj hb)).trans ?_;refine(aA (run_checkKey M.key)).trans ?_;refine(aA (run_findKey (es:=es) M.key)).trans ?_;rw[hf];simp only[Option.map_some,he,Option.getD_some];refine(aA Ag).trans ?_;rw[aA (rm _ hb),wu (k':=k) (v':=u) _ hn rfl,Fl hn];rfl
    ·rename_i hf;simp only[Option.some.injEq,Prod.mk.injEq]at h;obtain⟨rfl,rfl⟩:=h;obtain⟨E,R'⟩:=tF (es++[(k,0)]) R hg hΓ hb;refine⟨_,Γ,_,?_,E,Nat.le_refl _,R',two _ _ _ (.int .i64 0) (.int .i64 es.length)⟩;unfold Instr.mapEntry;rw[aA (cQ M.und)];simp only;refine(aA (rj hb)).trans ?_;refine(aA (run_checkKey M.key)).trans ?_;refine(aA (run_findKey (es:=es) M.key)).trans ?_;rw[hf];simp only[Option.map_none];refine(aA (M.zero w)).trans ?_;rw[aA (rm _ hb),Af];rfl
   ·cases h
  ·cases h
 ·cases h
theorem Fp {t:TypeId}{m s x v:AVal}{cm cs cx:Value}(R:RelH P G Γ H w)(h:pI H m s x=some (v,H'))(hm:RelV P Γ H w m cm)(hs:RelV P Γ H w s cs)(hx:RelV P Γ H w x cx):
  ∃ Γ' w',(Instr.entryStore t cm cs cx).run P w=.ok () w'/\Evo Γ H w Γ' H' w'/\H.next<=H'.next/\RelH P G Γ' H' w'/\v=.lit undef:=by
 unfold pI at h;split at h
 ·rename_i id s u;cases hs;cases hx;split at h
  ·rename_i es hg;split at h
   ·rename_i hlt;simp only[Option.some.injEq,Prod.mk.injEq]at h;obtain⟨rfl,rfl⟩:=h;obtain⟨b,hΓ,rfl,hb⟩:=tO R hm hg;obtain⟨n,rfl⟩:=SR hlt.1;have hn:n<es.length:=(by omega);obtain⟨E,R'⟩:=tF (v9 es n u) R hg hΓ hb;refine⟨Γ,_,?_,E,Nat.le_refl _,R',rfl⟩;unfold Instr.entryStore;simp only;refine(aA (rj hb)).trans ?_;have hi:(asInt (.int .i64 (n:Int))).run P w=.ok (n:Int) w:=rfl;refine(aA hi).trans ?_;have hf:=Fk es 0 n hn;simp only[Nat.zero_add]at hf;have hf2:(dK 0 es).toArray.findIdx? (fun e=>(e.born:Int) == (n:Int))=some n:=by
     rw[List.findIdx?_toArray];exact hf
    rw[hf2];simp only;have hg2:es[n]?=some es[n]:=SJ hn;rw[rm _ hb];unfold v9;rw[hg2];simp only;rw[wu (k:=es[n].1) (v:=es[n].2) (k':=es[n].1) (v':=u) _ hg2 rfl]
   ·cases h
  ·cases h
 ·cases h
end Go.Hx
namespace Go.Hx
variable {P:Program} {G:Nat->Option (List AVal)} {Γ Γ':aK} {H H':AHeap} {w w':World}
theorem Aj {s:Sem Value}{cv:Value}(h:s.run P w=.ok cv w'):(do pure (Next.value (<- s)):Sem Next).run P w=.ok (.value cv) w':=by
 rw[aA h];rfl
theorem tP {s:Sem Unit}(h:s.run P w=.ok () w'):(do s;pure Next.skip:Sem Next).run P w=.ok .skip w':=by
 rw[aA h];rfl
def cR (P:Program)(G:Nat->Option (List AVal))(Γ:aK)(H:AHeap)(w:World)(v:AVal)(H':AHeap)(s:Sem Next):Prop :=
 ∃nx cv Γ' w',s.run P w=.ok nx w'/\(nx=.value cv\/(nx=.skip/\cv=undef))/\Evo Γ H w Γ' H' w'/\H.next<=H'.next/\RelH P G Γ' H' w'/\RelV P Γ' H' w' v cv
theorem cR.same {v:AVal}{cv:Value}{s:Sem Value}(R:RelH P G Γ H w)(h:s.run P w=.ok cv w)(hv:RelV P Γ H w v cv):
  cR P G Γ H w v H (do pure (Next.value (<- s))) :=
 ⟨.value cv,cv,Γ,w,Aj h,.inl rfl,Evo.refl _ _ _,Nat.le_refl _,R,hv⟩
theorem Ak:∀ {cells:List AVal} {l:List Int} {cs:List Value},pL cells=some l->cs.length=cells.length->(∀i (_:i<cells.length) (_:i<cs.length),RelV P Γ H w cells[i] cs[i])->cs=l.map (Value.int .u8)
 | [],l,cs,hb,hl,_=>by
  obtain rfl:l=[]:=by simpa[pL] using hb.symm
  exact SP hl
 |x :: cells,l,[],hb,hl,_=>by simp at hl
 |x :: cells,l,c :: cs,hb,hl,hr=>by
  have h0:=hr 0 (by simp) (by simp);simp only[Tp]at h0;unfold pL at hb;split at hb
  ·rename_i hx;cases hx
  ·rename_i n r hx;cases hx;simp only[SG]at hb;obtain⟨l',hl',rfl⟩:=hb;have hc:c=.int .u8 n:=(by cases h0;rfl);subst hc;have:=Ak (cs:=cs) hl' (by simpa using hl) fun i h1 h2=>by
    have:=hr (i+1) (by simp;omega) (by simp;omega);simpa using this
   rw[this];rfl
  ·cases hb
theorem Fq {x:AVal}{cx:Value}{n:Nat}{cells:List AVal}{l:List Int}(R:RelH P G Γ H w)(hs:cV H 1 x=some (n,cells))(hx:RelV P Γ H w x cx)(hc:∃a m c,cx=.slice a m c)(hb:pL cells=some l):
  (Conv.bytesToString cx).run P w=.ok (.string (zL l)) w:=by
 obtain⟨h1,h2,cs,h3,h4,h5⟩:=tM R hs hx;have h6:=Ak hb h4 h5;obtain⟨a,m,c,rfl⟩:=hc;have hm:m=n:=by
  have h1':(Builtin.lenOf (.slice a m c)).run P w=.ok m w:=rfl;rw[h1']at h1;exact(Result.ok.inj h1).1
 subst hm;cases a with
 |none =>
  have h3':(Builtin.firstCells 1 m (.slice none m c)).run P w=.ok #[] w:=rfl;rw[h3']at h3;have:cs=[]:=by
   have:=(Result.ok.inj h3).1;have h7:=congrArg Array.toList this;simpa using h7.symm
  rw[this]at h6;have hl:l=[]:=by simpa using h6.symm
  subst hl;rfl
 |some a =>
  have h3':(loadCells a m).run P w=.ok cs.toArray w:=by
   have:=h3;unfold Builtin.firstCells at this
   rwa [Nat.mul_one]at this
  rw[h6]at h3';exact run_bytesToString w a m c l h3'
theorem Fs {s d:TypeId}{x v:AVal}{cx:Value}(R:RelH P G Γ H w)(hx:RelV P Γ H w x cx)(hb:lD P H s d x=some v):cR P G Γ H w v H (do pure (Next.value (<- convert s d cx))):=by
 have bytes:∀y:AVal,RelV P Γ H w y cx->(∀n cells,cV H 1 y=some (n,cells)->∃a m c,cx=.slice a m c)->mX P H s d y=some v->cR P G Γ H w v H (do pure (Next.value (<- convert s d cx))):=by
  intro y hy hc hb;unfold mX at hb;split at hb
  ·rename_i hsb;simp only[SL,SG]at hb;obtain⟨⟨n,cells⟩,hs,l,hl,rfl⟩:=hb;have hsl:=hc n cells hs;have hrun:=Fq R hs hy hsl hl;unfold zM at hsb;split at hsb
   ·rename_i e h1 h2;split at hsb
    ·rename_i h3;obtain⟨a,m,c,rfl⟩:=hsl;exact cR.same R ((run_convert_bytes_string w s d e a m c h1 h3 h2).trans hrun) (.lit _)
    ·cases hsb
   ·cases hsb
  ·cases hb
 unfold lD at hb;split at hb
 ·rename_i id g o l z;refine bytes _ hx (fun n cells hs=>?_) hb;unfold cV at hs;simp only at hs;split at hs
  ·simp only[SG]at hs;obtain⟨⟨e,cells'⟩,hl,_⟩:=hs;rcases jS hx hl with ⟨b,base,nn,a,cap,hΓ,rfl,_⟩|⟨hΓ,_,_,rfl⟩
   ·exact⟨_,_,_,rfl⟩
   ·exact⟨_,_,_,rfl⟩
  ·cases hs
 ·refine bytes _ hx (fun n cells hs=>?_) hb;cases hx with
  |vec0 a cap=>exact⟨_,_,_,rfl⟩
  |vec=>exact⟨_,_,_,rfl⟩
 ·unfold lz at hb;split at hb
  ·rename_i a ha;simp only[SG]at hb;obtain⟨r,hr,rfl⟩:=hb;rw[<- hx.cZ ha]at hr;exact cR.same R (oD hr w) (.lit _)
  ·cases hb
theorem cR.new {v:AVal}{s:Sem Value}(h:∃cv Γ' w',s.run P w=.ok cv w'/\Evo Γ H w Γ' H' w'/\H.next<=H'.next/\RelH P G Γ' H' w'/\RelV P Γ' H' w' v cv):
  cR P G Γ H w v H' (do pure (Next.value (<- s))) :=
 let ⟨cv,Γ',w',h1,h2,h3,h4,h5⟩:=h
 ⟨.value cv,cv,Γ',w',Aj h1,.inl rfl,h2,h3,h4,h5⟩
theorem Al {G:Nat->Option (List AVal)}{ρ:Env}{f:Operand->Value}(hev:∀x,RelV P Γ H w (aB G ρ x) (f x))(l:List Operand):
  ∀i (_:i<(l.map (aB G ρ)).length) (_:i<(l.map f).length),RelV P Γ H w (l.map (aB G ρ))[i] (l.map f)[i]:=by
 intro i h1 h2;simp only[SV];exact hev _
theorem Am {ρ:Env}{f:Operand->Value}(hev:∀x,RelV P Γ H w (aB G ρ x) (f x))(parts:Array (Nat × Operand)):
  (parts.map fun (p:Nat × Operand)=>(p.1,f p.2)).toList.length=(parts.toList.map fun p=>(p.1,aB G ρ p.2)).length /\
  ∀i (h1:i<(parts.toList.map fun p=>(p.1,aB G ρ p.2)).length) (h2:i<(parts.map fun (p:Nat × Operand)=>(p.1,f p.2)).toList.length),
   (parts.toList.map fun p=>(p.1,aB G ρ p.2))[i].1=(parts.map fun (p:Nat × Operand)=>(p.1,f p.2)).toList[i].1 /\
   RelV P Γ H w (parts.toList.map fun p=>(p.1,aB G ρ p.2))[i].2 (parts.map fun (p:Nat × Operand)=>(p.1,f p.2)).toList[i].2:=by
 refine⟨by simp,fun i h1 h2=>?_⟩;simp only[SV,TV,UV];exact⟨trivial,hev _⟩
theorem An {ρ:Env}{f:Operand->Value}(hev:∀x,RelV P Γ H w (aB G ρ x) (f x))(o:Option Operand):pR P Γ H w (o.map (aB G ρ)) (o.map f):=by
 cases o with
 |none=>trivial
 |some x=>exact hev x
theorem Ao:∀ {args:List AVal} {vs cs:List Value},pJ args=some vs->cs.length=args.length->(∀i (_:i<args.length) (_:i<cs.length),RelV P Γ H w args[i] cs[i])->cs=vs:=by
 intro args
 induction args with
 |nil=>intro vs cs h hl _;simp only[pJ,Option.some.injEq]at h;subst h;simpa using hl
 |cons a args ih =>
  intro vs cs h hl hr;simp only[pJ,SL,SG]at h;obtain⟨x,hx,l,hl2,rfl⟩:=h;cases cs with
  |nil=>simp at hl
  |cons c cs =>
   have h0:=hr 0 (by simp) (by simp);simp only[Tp]at h0;rw[h0.cZ hx];have:=ih hl2 (by simpa using hl) (fun i a b=>hr (i+1) (by simpa using a) (by simpa using b));rw[this]
theorem Ft {id:Nat}{b:Builtin}{ats:Array TypeId}{args:List AVal}{cargs:Array Value}{ty:TypeId}{cs:Array Bool}{v:AVal}(R:RelH P G Γ H w)(h:gZ P H id b ats.toList args=some (v,H'))
  (hl:cargs.toList.length=args.length) (hr:∀i (_:i<args.length) (_:i<cargs.toList.length),RelV P Γ H w args[i] cargs.toList[i]):
  cR P G Γ H w v H' (builtin b ats ty cs cargs):=by
 obtain⟨ats⟩:=ats;obtain⟨cargs⟩:=cargs;simp only at h hl hr;unfold gZ at h;split at h
 ·rename_i t x;simp only[SG,Prod.mk.injEq]at h;obtain⟨v',hv,rfl,rfl⟩:=h
  match cargs,hl,hr with
  | [cx],_,hr =>
   obtain⟨cv,h1,h2⟩:=Fc (ty:=ty) hv (hr 0 (by simp) (by simp));exact cR.same R h1 h2
 ·rename_i t u s x
  match cargs,hl,hr with
  | [c1,c2],_,hr=>exact cR.new (Fb R h (hr 0 (by simp) (by simp)) (hr 1 (by simp) (by simp)))
 ·rename_i t u d x
  match cargs,hl,hr with
  | [c1,c2],_,hr=>exact cR.new (Ff R h (hr 0 (by simp) (by simp)) (hr 1 (by simp) (by simp)))
 ·rename_i t d
  match cargs,hl,hr with
  | [c1],_,hr=>exact cR.new (Fg R h (hr 0 (by simp) (by simp)))
 ·simp only[SL,SG,Prod.mk.injEq]at h;obtain⟨vs,hvs,r,hp,rfl,rfl⟩:=h;have:=Ao hvs hl hr;subst this;exact cR.same R (oD hp w) (.lit _)
 ·simp only[SL,SG,Prod.mk.injEq]at h;obtain⟨vs,hvs,r,hp,rfl,rfl⟩:=h;have:=Ao hvs hl hr;subst this;exact cR.same R (oD hp w) (.lit _)
 ·cases h
theorem wy {t:TypeId}{cells:List AVal}{cs:Array Value}{off:Nat}{v:AVal}(h:iU P t cells off=some v)(hc:dW P Γ H w cells cs):
  ∃cv,(part t cs off).run P w=.ok cv w/\RelV P Γ H w v cv:=by
 unfold iU at h;unfold part;split at h
 ·cases h
 ·rename_i d hd;rw[aA (vX hd)];split at h
  ·rename_i ha;split at h
   ·rename_i hle;simp only[Option.some.injEq]at h;subst h;rw[ha,SK rfl,aA (jm hd)];refine⟨_,rfl,?_⟩;have he:(cs.extract off (off+P.cellsOf t))=((cs.toList.drop off).take (P.cellsOf t)).toArray:=by
     apply Array.ext';simp[List.extract_eq_take_drop]
    rw[he];have hsz:=hc.1;refine .agg (by simp only[SN,Tu,UG];omega) (fun i h1 h2=>?_);simp only[Un,UL,TV];simp only[SN,Tu]at h1;exact hc.2 (off+i) (by omega) (by omega)
   ·cases h
  ·rename_i ha;have:pC d=false:=(by simpa using ha);rw[this];simp only[Bool.false_eq_true,if_false];obtain⟨hlt,hv⟩:=Tj.1 h;subst hv;obtain⟨cv,h1,h2⟩:=hc.get hlt;rw[h1];exact⟨cv,rfl,h2⟩
theorem Ap {cells:List AVal}{cv:Value}(h:RelV P Γ H w (.agg cells) cv):∃cs:Array Value,cv=.agg cs/\dW P Γ H w cells cs:=by
 cases h with
 | @agg _ cs hcs hrel=>exact⟨cs.toArray,rfl,by simpa using hcs,fun i h1 h2=>by simpa using hrel i h1 (by simpa using h2)⟩
theorem Aq {t f off:Nat}{ft:TypeId}(h:bU P t f=some (off,ft)):∃fs fl i,P.underlying t=some (.struct fs)/\fs[f]?=some fl/\P.info? fl.type=some i/\P.cellsOf fl.type≠0/\off=fl.offset/\ft=fl.type:=by
 unfold bU at h;split at h
 ·rename_i fs hd;split at h
  ·rename_i fl hf;split at h
   ·rename_i hi;obtain⟨i,hi1⟩:=Tv.1 hi.1;simp only[Option.some.injEq,Prod.mk.injEq]at h;exact⟨fs,fl,i,hd,hf,hi1,hi.2,h.1.symm,h.2.symm⟩
   ·cases h
  ·cases h
 ·cases h
theorem Ar {t f:Nat}{fs:Array Field}{fl:Field}{i:TypeInfo}{a:Addr}(hd:P.underlying t=some (.struct fs))(hf:fs[f]?=some fl)(hi:P.info? fl.type=some i)(h0:P.cellsOf fl.type≠0):
  (Instr.fieldAt t (.pointer (some a)) f).run P w=.ok (.pointer (some (a.add fl.offset))) w:=by
 unfold Instr.fieldAt;rw[aA (cQ hd)];simp only[hf];have sa:(Instr.sureAddr (.pointer (some a))).run P w=.ok a w:=rfl;rw[aA sa];unfold fieldPlace;have:(do if (<- sizeOf fl.type)=0 then partAt a fl.offset fl.byteOffset else pure (a.add fl.offset):Sem Addr).run P w=.ok (a.add fl.offset) w:=by
  rw[aA (run_sizeOf hi),SI h0];rfl
 rw[aA this];rfl
theorem As {t f:Nat}{fs:Array Field}{fl:Field}{cs:Array Value}(hd:P.underlying t=some (.struct fs))(hf:fs[f]?=some fl):
  (Instr.field t (.agg cs) f).run P w=(part fl.type cs fl.offset).run P w:=by
 unfold Instr.field;rw[aA (cQ hd)];simp only[hf];have sa:(asAgg (.agg cs)).run P w=.ok cs w:=rfl;rw[aA sa]
theorem Fu {x v:AVal}{i:Nat}{cx:Value}(h:mY x i=some v)(hx:RelV P Γ H w x cx):∃cv,(Instr.extract cx i).run P w=.ok cv w/\RelV P Γ H w v cv:=by
 cases hx with
 | @tup vs cs hcs hrel =>
  simp only[mY]at h;obtain⟨hlt,hv⟩:=Tj.1 h;subst hv;refine⟨cs[i]'(by omega),?_,hrel i hlt (by omega)⟩;have:Instr.extract (.tuple cs.toArray) i=(pure (cs[i]'(by omega)):Sem Value):=by
   unfold Instr.extract;simp only[List.getElem?_toArray];rw[SJ (by omega)]
  rw[this];rfl
 |lit =>
  cases cx with
  |tuple vs =>
   simp only[mY,SG]at h;obtain⟨r,hr,rfl⟩:=h;refine⟨r,?_,.lit _⟩;have:Instr.extract (.tuple vs) i=(pure r:Sem Value):=by
    unfold Instr.extract;simp[hr]
   rw[this];rfl
  |_=>simp[mY]at h
 |_=>simp[mY]at h
theorem At {ρ:Env}{f:Operand->Value}{o:Oper}{id:Nat}{v:AVal}(R:RelH P G Γ H w)(hev:∀x,RelV P Γ H w (aB G ρ x) (f x))(h:av P G ρ H id o.op=some (v,H')):
  cR P G Γ H w v H' (execOp f o):=by
 obtain⟨dst,op,type,pos,after,guard⟩:=o;simp only at h;unfold execOp;cases op with
 |move x =>
  simp only[av,Option.some.injEq,Prod.mk.injEq]at h;obtain⟨rfl,rfl⟩:=h;exact⟨_,_,Γ,w,rfl,.inl rfl,Evo.refl _ _ _,Nat.le_refl _,R,hev x⟩
 |assign x =>
  simp only[av,Option.some.injEq,Prod.mk.injEq]at h;obtain⟨rfl,rfl⟩:=h;exact⟨_,_,Γ,w,rfl,.inl rfl,Evo.refl _ _ _,Nat.le_refl _,R,hev x⟩
 |pick c a b =>
  simp only[av]at h;have hc:=hev c;split at h
  ·rename_i t ht;rw[ht]at hc;simp only[Option.some.injEq,Prod.mk.injEq]at h;obtain⟨rfl,rfl⟩:=h;dsimp only;generalize f c=fc at hc ⊢;cases hc;refine⟨.value (if t then f a else f b),(if t then f a else f b),Γ,w,?_,.inl rfl,Evo.refl _ _ _,Nat.le_refl _,R,?_⟩
   ·cases t<;>rfl
   ·cases t
    ·exact hev b
    ·exact hev a
  ·cases h
 |alloc e =>
  simp only[av,SL,SG,Prod.mk.injEq]at h;obtain⟨z,hz,H1,hlay,rfl,rfl⟩:=h;obtain⟨i,zv,hi,hzv,hsz,hzz,hcells⟩:=pQ hz;have hz0:dW P Γ H w z zv.cells:=hzz ▸ dW.lit _;obtain⟨E,hn,R'⟩:=qX (c:=zv.cells) R hlay (by rw[hz0.1];exact Nat.le_refl _) (fun i hi=>hz0.get hi);obtain⟨hget,_⟩:=jR hlay;obtain⟨_,_,_,hid⟩:=mS R hlay;refine cR.new ⟨_,_,_,?_,E,hn,R',zR (by rw[hget,SK rfl]) hid (aK.eO _ _ _)⟩;unfold Instr.alloc;rw[aA (oG hi hzv)];rfl
 |box e x =>
  simp only[av,SG,Prod.mk.injEq]at h;obtain⟨H1,hlay,rfl,rfl⟩:=h;obtain⟨v1,v2⟩:=(hev x).cells;obtain⟨E,hn,R'⟩:=qX (c:=(f x).cells) R hlay (by rw[<- v1];simp) (fun i hi=>⟨(f x).cells[i]'(by rw[<- v1]at hi;simpa using hi),S7 _,by
   have:=v2 i hi (by rw[v1];exact hi);simpa using this⟩)
  obtain⟨hget,_⟩:=jR hlay;obtain⟨_,_,_,hid⟩:=mS R hlay;exact cR.new ⟨_,_,_,rfl,E,hn,R',zR (by rw[hget,SK rfl]) hid (aK.eO _ _ _)⟩
 |build t parts =>
  simp only[av,SG,Prod.mk.injEq]at h;obtain⟨v',hb,rfl,rfl⟩:=h;obtain⟨p1,p2⟩:=Am hev parts;obtain⟨cv,h1,h2⟩:=ER (w:=w) hb p1 p2;exact cR.same R h1 h2
 |buildSlice t len parts =>
  simp only[av]at h;obtain⟨p1,p2⟩:=Am hev parts;exact cR.new (ES R h p1 p2)
 |load t a =>
  simp only[av,SG,Prod.mk.injEq]at h;obtain⟨v',hb,rfl,rfl⟩:=h;obtain⟨cv,h1,h2⟩:=EK R hb (hev a);exact cR.same R h1 h2
 |store t a x =>
  simp only[av]at h;split at h
  ·rename_i hu;obtain⟨d,hd⟩:=Tv.1 hu;simp only[SG,Prod.mk.injEq]at h;obtain⟨H1,hst,rfl,rfl⟩:=h;obtain⟨w',h1,h2,h3,h4⟩:=EL R hst (zG hd) (hev a) (hev x);exact⟨.skip,undef,Γ,w',tP h1,.inr ⟨rfl,rfl⟩,h2,h3,h4,.lit _⟩
  ·cases h
 |nilCheck x =>
  simp only[av,SG,Prod.mk.injEq]at h;obtain⟨v',hb,rfl,rfl⟩:=h;have hx:=hev x;unfold lE at hb;split at hb
  ·rename_i id' gen off hx';simp only[SG]at hb;obtain⟨⟨e,cells⟩,hl,rfl⟩:=hb;rw[hx']at hx;obtain⟨b,base,n,hΓ,hcv⟩:=pM hx hl;simp only[hcv]at hx ⊢;exact⟨_,_,Γ,w,rfl,.inl rfl,Evo.refl _ _ _,Nat.le_refl _,R,hx⟩
  ·rename_i cells off hx';simp only[Option.some.injEq]at hb;subst hb;rw[hx']at hx;dsimp only;generalize f x=fx at hx ⊢;cases hx with
   |vptr a b c d e=>exact⟨_,_,Γ,w,rfl,.inl rfl,Evo.refl _ _ _,Nat.le_refl _,R,.vptr a b c d e⟩
  ·rename_i ff a b hx';simp only[Option.some.injEq]at hb;subst hb;rw[hx']at hx;dsimp only;generalize f x=fx at hx ⊢;cases hx with
   |clo a b c d=>exact⟨_,_,Γ,w,rfl,.inl rfl,Evo.refl _ _ _,Nat.le_refl _,R,.clo a b c d⟩
  ·cases hb
 |binOp op t x y u =>
  simp only[av,SG,Prod.mk.injEq]at h;obtain⟨v',hb,rfl,rfl⟩:=h;unfold bx at hb;split at hb
  ·rename_i a b ha hb';simp only[SG]at hb;obtain⟨r,hr,rfl⟩:=hb;rw[<- (hev x).cZ ha,<- (hev y).cZ hb']at hr;exact cR.same R (oD hr w) (.lit _)
  ·cases hb
 |unOp op t x =>
  simp only[av,SG,Prod.mk.injEq]at h;obtain⟨v',hb,rfl,rfl⟩:=h;unfold pK at hb;split at hb
  ·rename_i a ha;simp only[SG]at hb;obtain⟨r,hr,rfl⟩:=hb;rw[<- (hev x).cZ ha]at hr;exact cR.same R (oD hr w) (.lit _)
  ·cases hb
 |convert s d x =>
  simp only[av,SG,Prod.mk.injEq]at h;obtain⟨v',hb,rfl,rfl⟩:=h;exact Fs R (hev x) hb
 |makeInterface t x =>
  simp only[av]at h;split at h
  ·rename_i a ha;simp only[SG,Prod.mk.injEq]at h;obtain⟨r,hr,rfl,rfl⟩:=h;rw[<- (hev x).cZ ha]at hr;exact cR.same R (oD hr w) (.lit _)
  ·cases h
 |makeFunc fn first captured =>
  simp only[av]at h;split at h
  ·simp only[Option.some.injEq,Prod.mk.injEq]at h;obtain⟨rfl,rfl⟩:=h;refine cR.same R (cv:=.func (.func _) (first.map f) (captured.map f)) rfl ?_;have e1:first.map f=(first.toList.map f).toArray:=(by rw[<- VI,Vr]);have e2:captured.map f=(captured.toList.map f).toArray:=(by rw[<- VI,Vr]);rw[e1,e2];exact .clo (by simp) (by simp) (Al hev _) (Al hev _)
  ·cases h
 |makeSlice t l c =>
  simp only[av]at h;exact cR.new (EV R h (hev l) (hev c))
 |slice t x lo hi mx =>
  simp only[av]at h;split at h
  ·simp only[SG,Prod.mk.injEq]at h;obtain⟨v',hb,rfl,rfl⟩:=h;obtain⟨cv,h1,h2⟩:=EZ R hb (hev x) (An hev lo) (An hev hi);exact cR.same R h1 h2
  ·cases h
 |fieldAddr s x fi =>
  simp only[av,SL]at h;obtain⟨⟨off,ft⟩,hf,h⟩:=h;obtain⟨fs,fl,i,hd,hfl,hi,h0,rfl,rfl⟩:=Aq hf;have hx:=hev x;split at h
  ·rename_i id' gen off' hx';simp only[SG,Prod.mk.injEq]at h;obtain⟨⟨e,cells⟩,hl,rfl,rfl⟩:=h;rw[hx']at hx;obtain⟨a,ha,hr⟩:=zX (k:=fl.offset) hx hl;simp only[ha];exact cR.same R (Ar hd hfl hi h0) hr
  ·rename_i cells off' hx';simp only[Option.some.injEq,Prod.mk.injEq]at h;obtain⟨rfl,rfl⟩:=h;rw[hx']at hx;obtain⟨a,ha,hr⟩:=zY (k:=fl.offset) hx;simp only[ha];exact cR.same R (Ar hd hfl hi h0) hr
  ·cases h
 |field t x fi =>
  simp only[av,SL]at h;obtain⟨⟨off,ft⟩,hf,h⟩:=h;obtain⟨fs,fl,i,hd,hfl,hi,h0,rfl,rfl⟩:=Aq hf;have hx:=hev x;split at h
  ·rename_i cells hx';simp only[SG,Prod.mk.injEq]at h;obtain⟨v',hp,rfl,rfl⟩:=h;rw[hx']at hx;obtain⟨cs,hcv,hrl⟩:=Ap hx;obtain⟨cv,h1,h2⟩:=wy hp hrl;simp only[hcv];exact cR.same R ((As hd hfl).trans h1) h2
  ·rename_i cs hx';simp only[SG,Prod.mk.injEq]at h;obtain⟨v',hp,rfl,rfl⟩:=h;rw[hx']at hx;obtain⟨cv,h1,h2⟩:=wy hp (dW.lit (P:=P) (Γ:=Γ) (H:=H) (w:=w) cs);dsimp only;generalize f x=fx at hx ⊢;cases hx;exact cR.same R ((As hd hfl).trans h1) h2
  ·cases h
 |indexAddr t x i =>
  simp only[av]at h;have hi:=hev i;split at h
  ·rename_i k n hi';simp only[SG,Prod.mk.injEq]at h;obtain⟨v',hb,rfl,rfl⟩:=h;rw[hi']at hi;have:f i=.int k n:=by
    generalize f i=fi at hi;cases hi;rfl
   simp only[this];obtain⟨cv,h1,h2⟩:=EW (w:=w) (k:=k) hb (hev x);exact cR.same R h1 h2
  ·cases h
 |index t x i =>
  simp only[av,SG,Prod.mk.injEq]at h;obtain⟨v',hb,rfl,rfl⟩:=h;have hx:=hev x;have hi:=hev i;unfold tG at hb;split at hb
  ·rename_i cells k n hx' hi';rw[hx']at hx;rw[hi']at hi;have hfi:f i=.int k n:=by
    generalize f i=fi at hi;cases hi;rfl
   obtain⟨cs,hcv,hrl⟩:=Ap hx;split at hb
   ·rename_i len e hd;split at hb
    ·rename_i hn;obtain⟨cv,h1,h2⟩:=wy hb hrl;simp only[hcv,hfi];refine cR.same R ?_ h2;unfold Instr.index;rw[aA (wo k n)];simp only;rw[aA (cQ hd)];simp only;rw[SK hn];have:∃d,P.underlying e=some d:=by
      unfold iU at hb;split at hb
      ·cases hb
      ·rename_i d hd';exact⟨d,hd'⟩
     obtain⟨d,hde⟩:=this;rw[aA (jm hde)];exact h1
    ·cases hb
   ·cases hb
  ·rename_i vx vi hx' hi';rw[hx']at hx;rw[hi']at hi;simp only[SG]at hb;obtain⟨r,hr,rfl⟩:=hb;have h1:f x=vx:=by
    generalize f x=fx at hx;cases hx;rfl
   have h2:f i=vi:=by
    generalize f i=fx at hi;cases hi;rfl
   simp only[h1,h2];exact cR.same R (oD hr w) (.lit _)
  ·cases hb
 |extract t i =>
  simp only[av,SG,Prod.mk.injEq]at h;obtain⟨v',hb,rfl,rfl⟩:=h;obtain⟨cv,h1,h2⟩:=Fu (w:=w) hb (hev t);exact cR.same R h1 h2
 |call c =>
  simp only[av]at h;obtain⟨callee,args,ats⟩:=c;split at h
  ·rename_i b hb;simp only at hb h;subst hb;have:=Ft (ty:=type) (cs:=args.map fun|.const _=>true|_=>false) (cargs:=args.map f) R h (by simp) (fun i h1 h2=>by
    simp only[SV,TV,UV];exact hev _)
   exact this
  ·cases h
 |makeMap t r =>
  simp only[av]at h;split at h
  ·simp only[SG,Prod.mk.injEq]at h;obtain⟨H1,hlay,rfl,rfl⟩:=h;obtain⟨E,hn,R'⟩:=EI R hlay;obtain⟨hget,_⟩:=jR hlay;obtain⟨_,_,_,hid⟩:=mS R hlay;refine cR.new ⟨.map (some w.heap.size),_,_,?_,E,hn,R',.yld ⟨hid,rfl,by rw[hget,SK rfl];simp,fun st pend n env ps asg body hg=>(by rw[hget,SK rfl]at hg;cases hg),fun es hg=>⟨_,aK.eO _ _ _,rfl⟩⟩⟩;rfl
  ·cases h
 |lookup t x i ok =>
  simp only[av,SG,Prod.mk.injEq]at h;obtain⟨v',hb,rfl,rfl⟩:=h;obtain⟨cv,h1,h2⟩:=Fm R hb (hev x) (hev i);exact cR.same R h1 h2
 |mapUpdate t m k x =>
  simp only[av]at h;obtain⟨Γ',w',h1,h2,h3,h4,rfl⟩:=Ai R h (hev m) (hev k) (hev x);exact⟨.skip,undef,Γ',w',tP h1,.inr ⟨rfl,rfl⟩,h2,h3,h4,.lit _⟩
 |insert t m k x =>
  simp only[av]at h;obtain⟨Γ',w',h1,h2,h3,h4,rfl⟩:=Ai R h (hev m) (hev k) (hev x);exact⟨.skip,undef,Γ',w',tP h1,.inr ⟨rfl,rfl⟩,h2,h3,h4,.lit _⟩
 |mapEntry t m k =>
  simp only[av]at h;exact cR.new (Fo R h (hev m) (hev k))
 |entryStore t m s x =>
  simp only[av]at h;obtain⟨Γ',w',h1,h2,h3,h4,rfl⟩:=Fp (t:=t) R h (hev m) (hev s) (hev x);exact⟨.skip,undef,Γ',w',tP h1,.inr ⟨rfl,rfl⟩,h2,h3,h4,.lit _⟩
 |_=>simp[av]at h
end Go.Hx
namespace Go.Hx
variable {P:Program} {G:Nat->Option (List AVal)} {Γ Γ':aK} {H H':AHeap} {w w':World}
structure St where
 ρ:Env
 H:AHeap
inductive AX where
 |normal
 |exit (id:Nat)
 |goto (l:Nat)
 |ret
 |panic
def wz (chain:List PanicEntry):Prop:=∃t v,chain=[{ v:=.iface t v,recovered:=false }]
def wB:Exit->AX->Prop
 |.normal,.normal=>True
 |.exit i,.exit j=>i=j
 |.goto i,.goto j=>i=j
 |.ret,.ret=>True
 |.panic chain,.panic=>wz chain
 |_,_=>False
structure Base where
 lo:Nat
 ds:List Deferred
def Marks (lo:Nat)(Γ:aK)(w:World)(m:List Deferred):Prop :=
 (∀d,d∈m->∃r,d={ target:=.collected r,args:=#[] }/\lo<=r/\qR Γ w r)/\m.Pairwise (fun d e=>d.target≠e.target)
theorem Marks.nil {lo:Nat}:Marks lo Γ w []:=⟨fun _ h=>(by cases h),.nil⟩
theorem Marks.bE {lo:Nat}{m:List Deferred}(h:Marks lo Γ w m)(E:Evo Γ H w Γ' H' w'):Marks lo Γ' w' m :=
 ⟨fun d hd=>let ⟨r,h1,h2,h3⟩:=h.1 d hd;⟨r,h1,h2,h3.bE E⟩,h.2⟩
def rp (wb:Base)(Γ:aK)(w:World)(l:List Deferred):Prop:=∃m,l=m++wb.ds/\Marks wb.lo Γ w m
theorem rp.bE {wb:Base}{l:List Deferred}(h:rp wb Γ w l)(E:Evo Γ H w Γ' H' w'):rp wb Γ' w' l :=
 let ⟨m,h1,h2⟩:=h;⟨m,h1,h2.bE E⟩
structure RelS (P:Program)(G:Nat->Option (List AVal))(n:Nat)(wb:Base)(Γ:aK)(s:St)(a:Act)(w:World):Prop where
 size:a.tmps.size=n
 env:∀t,RelV P Γ s.H w (s.ρ t) (a.tmps.getD t undef)
 heap:RelH P G Γ s.H w
 defers:rp wb Γ w a.defers
 low:wb.lo<=w.heap.size
def fh (Γ:aK)(H:AHeap):Option Nat->Option Nat->Prop
 |none,rb=>rb=none
 |some id,rb=>∃b st pend n env ps asg body,rb=some b/\Γ id=some (b,0,0)/\H.get id=some (.loop st pend n env ps asg body)
def fT (H:AHeap):Option Nat->Prop
 |none=>True
 |some id=>∃st pend n env ps asg body,H.get id=some (.loop st pend n env ps asg body)
abbrev gh (rb:Option Nat):Fence:={ Fence.wide with round:=rb }
def wr:Code->Nat->Bool
 |.region _ ops _,t=>ops.toList.any fun o=>o.dst == some t
 |.seq a b,t|.cond _ a b,t=>wr a t ||wr b t
 |.block _ c,t|.loop c,t|.scope c,t=>wr c t
 |_,_=>false
def Fr (ch:Nat->Bool)(a a':Act):Prop:=∀t,ch t=false->a'.tmps[t]?=a.tmps[t]?
theorem Fr.refl (ch:Nat->Bool)(a:Act):Fr ch a a:=fun _ _=>rfl
theorem Fr.trans {ch:Nat->Bool}{a b c:Act}(h:Fr ch a b)(k:Fr ch b c):Fr ch a c:=fun t ht=>(k t ht).trans (h t ht)
theorem Fr.mono {ch ch':Nat->Bool}{a b:Act}(h:Fr ch a b)(hc:∀t,ch' t=false->ch t=false):Fr ch' a b:=fun t ht=>h t (hc t ht)
def iW (P:Program)(G:Nat->Option (List AVal))(n:Nat)(wb:Base)(rd rb:Option Nat)(ch:Nat->Bool)(Γ:aK)(H:AHeap)(a:Act)(w:World)(Q:AX->St->Prop)(e:Exit)(a':Act)(w':World):Prop :=
 ∃x s' Γ',wB e x/\Q x s'/\RelS P G n wb Γ' s' a' w'/\Evo Γ H w Γ' s'.H w'/\H.next<=s'.H.next/\fh Γ' s'.H rd rb/\Fr ch a a'
def W (P:Program)(G:Nat->Option (List AVal))(n:Nat)(rd:Option Nat)(c:Code)(Q:AX->St->Prop)(s:St):Prop :=
 ∀wb Γ a w rb,RelS P G n wb Γ s a w->fh Γ s.H rd rb->c.wpIn (gh rb) 0 P (iW P G n wb rd rb (wr c) Γ s.H a w Q) a w
def kv (K:St->Prop)(Q:AX->St->Prop):AX->St->Prop
 |.normal,s=>K s
 |x,s=>Q x s
def mq (id:Nat)(Q:AX->St->Prop):AX->St->Prop
 |.exit i,s=>if i=id then Q .normal s else Q (.exit i) s
 |x,s=>Q x s
section rules
variable {n:Nat} {rd:Option Nat} {Q Q':AX->St->Prop} {s:St}
theorem iW.mono {wb:Base}{rb:Option Nat}{ch:Nat->Bool}{e:Exit}{a a':Act}(h:iW P G n wb rd rb ch Γ H a w Q e a' w')(hq:∀x s,Q x s->Q' x s):iW P G n wb rd rb ch Γ H a w Q' e a' w' :=
 let ⟨x,s',Γ',h1,h2,h3⟩:=h;⟨x,s',Γ',h1,hq _ _ h2,h3⟩
theorem iW.step {wb:Base}{rb:Option Nat}{ch ch':Nat->Bool}{e:Exit}{a a₁ a':Act}{w₁:World}{H₁:AHeap}{Γ₁:aK}(E:Evo Γ H w Γ₁ H₁ w₁)(hn:H.next<=H₁.next)(hf:Fr ch' a a₁)
  (h:iW P G n wb rd rb ch Γ₁ H₁ a₁ w₁ Q e a' w') (hc:∀t,ch' t=false->ch t=false):iW P G n wb rd rb ch' Γ H a w Q e a' w' :=
 let ⟨x,s',Γ',h1,h2,h3,h4,h5,h6,h7⟩:=h;⟨x,s',Γ',h1,h2,h3,E.trans hn h4,Tt hn h5,h6,hf.trans (h7.mono hc)⟩
theorem W.mono {c:Code}(h:W P G n rd c Q s)(hq:∀x s,Q x s->Q' x s):W P G n rd c Q' s :=
 fun wb Γ a w rb hs hr=>wpIn_mono (h wb Γ a w rb hs hr) fun _ _ _ hp=>hp.mono hq
theorem iW.here {wb:Base}{rb:Option Nat}{ch:Nat->Bool}{e:Exit}{a:Act}{x:AX}(hx:wB e x)(h:Q x s)(hs:RelS P G n wb Γ s a w)(hr:fh Γ s.H rd rb):
  iW P G n wb rd rb ch Γ s.H a w Q e a w:=⟨x,s,Γ,hx,h,hs,Evo.refl _ _ _,Nat.le_refl _,hr,.refl _ _⟩
theorem W.skip (h:Q .normal s):W P G n rd .skip Q s:=fun _ _ _ _ _ hs hr=>wpIn_skip (.here (x:=.normal) trivial h hs hr)
theorem W.label {l:Nat}(h:Q .normal s):W P G n rd (.label l) Q s:=fun _ _ _ _ _ hs hr=>wpIn_label (.here (x:=.normal) trivial h hs hr)
theorem W.exit {id:Nat}(h:Q (.exit id) s):W P G n rd (.exit id) Q s:=fun _ _ _ _ _ hs hr=>wpIn_exit (.here (x:=.exit id) rfl h hs hr)
theorem W.goto {l:Nat}(h:Q (.goto l) s):W P G n rd (.goto l) Q s:=fun _ _ _ _ _ hs hr=>wpIn_goto (.here (x:=.goto l) rfl h hs hr)
theorem W.ret (h:Q .ret s):W P G n rd .ret Q s:=fun _ _ _ _ _ hs hr=>wpIn_ret (.here (x:=.ret) trivial h hs hr)
theorem Au {x y:Bool}(h:(x ||y)=false):x=false:=by cases x<;>simp_all
theorem Av {x y:Bool}(h:(x ||y)=false):y=false:=by cases x<;>simp_all
theorem W.seq {x y:Code}(h:W P G n rd x (kv (W P G n rd y Q) Q) s):W P G n rd (.seq x y) Q s:=by
 intro wb Γ a w rb hs hr;refine wpIn_seq (wpIn_mono (h wb Γ a w rb hs hr) ?_);rintro e a' w' ⟨x',s',Γ',hx,hq,hs',E,hn,hr',hf⟩;have hf':Fr (wr (.seq x y)) a a':=hf.mono fun t ht=>Au ht;cases e with
 |normal =>
  cases x' with
  |normal=>exact wpIn_mono (hq wb Γ' a' w' rb hs' hr') fun _ _ _ hp=>hp.step E hn hf' fun t ht=>Av ht
  |_=>exact hx.elim
 |exit i=>cases x' with
  |exit j=>exact⟨_,s',Γ',hx,hq,hs',E,hn,hr',hf'⟩
  |_=>exact hx.elim
 |goto i=>cases x' with
  |goto j=>exact⟨_,s',Γ',hx,hq,hs',E,hn,hr',hf'⟩
  |_=>exact hx.elim
 |ret=>cases x' with
  |ret=>exact⟨_,s',Γ',hx,hq,hs',E,hn,hr',hf'⟩
  |_=>exact hx.elim
 |panic c=>cases x' with
  |panic=>exact⟨_,s',Γ',hx,hq,hs',E,hn,hr',hf'⟩
  |_=>exact hx.elim
 |outgrown=>cases x'<;>exact hx.elim
theorem kz {wb:Base}{a:Act}(hs:RelS P G n wb Γ s a w)(x:Operand):RelV P Γ s.H w (aB G s.ρ x) (a.eval x):=by
 cases x with
 |tmp t=>exact hs.env t
 |const v=>exact .lit v
 |global g =>
  simp only[aB,Act.eval];cases hg:G g with
  |none=>exact .lit _
  |some cells=>exact hs.heap.glob g cells hg
 |func f=>exact RelV.clo (fs:=[]) (cs:=[]) rfl rfl (fun i h _=>absurd h (S4 _)) (fun i h _=>absurd h (S4 _))
theorem W.cond {c:Operand}{x y:Code}{t:Bool}(hc:aB G s.ρ c=.lit (.bool t))(h:W P G n rd (if t then x else y) Q s):W P G n rd (.cond c x y) Q s:=by
 intro wb Γ a w rb hs hr;have he:=kz hs c;rw[hc]at he;have:a.eval c=.bool t:=by
  generalize a.eval c=v at he;cases he;rfl
 refine wpIn_cond this (wpIn_mono (h wb Γ a w rb hs hr) ?_);rintro e a' w' ⟨x',s',Γ',h1,h2,h3,h4,h5,h6,h7⟩;refine⟨x',s',Γ',h1,h2,h3,h4,h5,h6,h7.mono fun i hi=>?_⟩;cases t with
 |true=>exact Au hi
 |false=>exact Av hi
theorem W.block {id:Nat}{c:Code}(h:W P G n rd c (mq id Q) s):W P G n rd (.block id c) Q s:=by
 intro wb Γ a w rb hs hr;refine wpIn_block (wpIn_mono (h wb Γ a w rb hs hr) ?_);rintro e a' w' ⟨x,s',Γ',hx,hq,hrest⟩;cases e with
 |exit i =>
  cases x with
  |exit j =>
   obtain rfl:i=j:=hx;simp only[Exit.inBlock];simp only[mq]at hq;split
   ·rename_i hi;rw[SK hi]at hq;exact⟨.normal,s',Γ',trivial,hq,hrest⟩
   ·rename_i hi;rw[SI hi]at hq;exact⟨.exit i,s',Γ',rfl,hq,hrest⟩
  |_=>exact hx.elim
 |normal=>cases x with
  |normal=>exact⟨_,s',Γ',hx,hq,hrest⟩
  |_=>exact hx.elim
 |goto i=>cases x with
  |goto j=>exact⟨_,s',Γ',hx,hq,hrest⟩
  |_=>exact hx.elim
 |ret=>cases x with
  |ret=>exact⟨_,s',Γ',hx,hq,hrest⟩
  |_=>exact hx.elim
 |panic c=>cases x with
  |panic=>exact⟨_,s',Γ',hx,hq,hrest⟩
  |_=>exact hx.elim
 |outgrown=>cases x<;>exact hx.elim
def cJ (P:Program)(G:Nat->Option (List AVal))(s s':St):Prop :=
 ∀n wb Γ a w,RelS P G n wb Γ s a w->∃ Γ',RelS P G n wb Γ' s' a w/\Evo Γ s.H w Γ' s'.H w /\
  (∀rd rb,fh Γ s.H rd rb->fT s'.H rd->fh Γ' s'.H rd rb)
theorem cJ.refl (s:St):cJ P G s s:=fun _ _ Γ _ _ h=>⟨Γ,h,Evo.refl _ _ _,fun _ _ h _=>h⟩
def mask (ws:Nat)(ρ ρ₀:Env):Env:=fun t=>if ws / 2 ^ t % 2=1 then ρ t else ρ₀ t
def mr (ws:Nat):Code->Bool
 |.region _ ops _=>ops.toList.all fun o=>match o.dst with|some d=>ws / 2 ^ d % 2 == 1|none=>true
 |.seq a b|.cond _ a b=>mr ws a && mr ws b
 |.block _ c|.loop c|.scope c=>mr ws c
 |_=>true
theorem Fv {ws:Nat}{t:Nat}(ht:¬ws / 2 ^ t % 2=1):∀ {c:Code},mr ws c=true->wr c t=false:=by
 intro c
 induction c with
 |region id ops d =>
  intro h;simp only[mr,Td]at h;simp only[wr,List.any_eq_false];intro o ho hd;have:=h o ho;have hd':o.dst=some t:=by simpa using hd
  rw[hd']at this;simp only[beq_iff_eq]at this;exact ht this
 |seq a b iha ihb=>intro h;simp only[mr,TQ]at h;simp only[wr,iha h.1,ihb h.2];rfl
 |cond x a b iha ihb=>intro h;simp only[mr,TQ]at h;simp only[wr,iha h.1,ihb h.2];rfl
 |block id c ih=>intro h;exact ih h
 |loop c ih=>intro h;exact ih h
 |scope c ih=>intro h;exact ih h
 |_=>intro _;rfl
theorem W.loop {c:Code}(ws:Nat)(hws:mr ws c=true)(I:Env->AHeap->Prop)(μ:Env->AHeap->Nat)(h0:I s.ρ s.H)
  (round:∀ ρ H,I ρ H->W P G n rd c (kv (fun s₂=>∃s₃,cJ P G s₂ s₃/\s.H.next<=s₃.H.next/\fT s₃.H rd/\I (mask ws s₃.ρ s.ρ) s₃.H/\μ (mask ws s₃.ρ s.ρ) s₃.H<μ (mask ws ρ s.ρ) H) Q) ⟨mask ws ρ s.ρ,H⟩):W P G n rd (.loop c) Q s:=by
 intro wb Γ a w rb hs hr
 let mJ:Env->AHeap->Act->World->Prop:=fun ρ H a₁ w₁=>∃ Γ₁,I ρ H/\RelS P G n wb Γ₁ ⟨mask ws ρ s.ρ,H⟩ a₁ w₁/\Evo Γ s.H w Γ₁ H w₁/\s.H.next<=H.next/\fh Γ₁ H rd rb/\Fr (wr c) a a₁
 let ex:Act->World->Prop:=fun a₁ w₁=>∃k ρ H,mJ ρ H a₁ w₁/\μ (mask ws ρ s.ρ) H=k
 let m:Act->World->Nat:=fun a₁ w₁=>Classical.epsilon fun k=>(∃ ρ H,mJ ρ H a₁ w₁/\μ (mask ws ρ s.ρ) H=k)/\∀j,(∃ ρ H,mJ ρ H a₁ w₁/\μ (mask ws ρ s.ρ) H=j)->k<=j
 have least:∀(p:Nat->Prop),(∃k,p k)->∃k,p k/\∀j,p j->k<=j:=by
  intro p ⟨k,hk⟩
  induction k using Nat.strongRecOn with
  |_ k ih =>
   by_cases h:∃j,j<k/\p j
   ·obtain⟨j,hj,hp⟩:=h;exact ih j hj hp
   ·exact⟨k,hk,fun j hj=>Nat.le_of_not_lt fun hlt=>h ⟨j,hlt,hj⟩⟩
 have mspec:∀a₁ w₁,ex a₁ w₁->(∃ ρ H,mJ ρ H a₁ w₁/\μ (mask ws ρ s.ρ) H=m a₁ w₁)/\∀j,(∃ ρ H,mJ ρ H a₁ w₁/\μ (mask ws ρ s.ρ) H=j)->m a₁ w₁<=j:=by
  intro a₁ w₁ h;exact Classical.epsilon_spec (p:=fun k=>(∃ ρ H,mJ ρ H a₁ w₁/\μ (mask ws ρ s.ρ) H=k)/\∀j,(∃ ρ H,mJ ρ H a₁ w₁/\μ (mask ws ρ s.ρ) H=j)->k<=j) (least _ h)
 have mask0:mask ws s.ρ s.ρ=s.ρ:=by
  funext t
  unfold mask;split<;>rfl
 have mask2:∀ ρ,mask ws (mask ws ρ s.ρ) s.ρ=mask ws ρ s.ρ:=by
  intro ρ
  funext t
  unfold mask;by_cases h:ws / 2 ^ t % 2=1
  ·rw[SK h,SK h]
  ·rw[SI h,SI h]
 refine wpIn_mono (Q:=fun e a' w'=>iW P G n wb rd rb (wr c) Γ s.H a w Q e a' w') ?_ fun _ _ _ hp=>hp;refine wpIn_loop ex m ⟨_,s.ρ,s.H,⟨Γ,h0,by rw[mask0];exact hs,Evo.refl _ _ _,Nat.le_refl _,hr,.refl _ _⟩,rfl⟩ ?_;intro a₁ w₁ hex;obtain⟨⟨ρ,H,⟨Γ₁,hI,hs₁,E₁,hn₁,hr₁,hf₁⟩,hm⟩,hmin⟩:=mspec a₁ w₁ hex;refine wpIn_mono (round ρ H hI wb Γ₁ a₁ w₁ rb hs₁ hr₁) ?_;rintro e a' w' ⟨x,s',Γ',hx,hq,hs',E,hn,hr',hf⟩;have hf':=hf₁.trans hf;cases e with
 |normal =>
  cases x with
  |normal =>
   obtain⟨s₃,hw,hn3,hri,hI3,hlt⟩:=hq;obtain⟨Γ₃,hs₃,E₃,hrd⟩:=hw n wb Γ' a' w' hs';have E₄:Evo Γ s.H w Γ₃ s₃.H w':=(E₁.trans hn₁ E).trans (Tt hn₁ hn) E₃;have hs₄:RelS P G n wb Γ₃ ⟨mask ws (mask ws s₃.ρ s.ρ) s.ρ,s₃.H⟩ a' w':=by
    rw[mask2];refine⟨hs₃.size,fun t=>?_,hs₃.heap,hs₃.defers,hs₃.low⟩;show RelV P Γ₃ s₃.H w' (if ws / 2 ^ t % 2=1 then s₃.ρ t else s.ρ t) _;by_cases ht:ws / 2 ^ t % 2=1
    ·rw[SK ht];exact hs₃.env t
    ·rw[SI ht];have hsame:=hf' t (Fv ht hws);have:a'.tmps.getD t undef=a.tmps.getD t undef:=by
      simp only[TE,hsame]
     rw[this];exact(hs.env t).bE E₄ hn3
   have hg:mJ (mask ws s₃.ρ s.ρ) s₃.H a' w':=⟨Γ₃,hI3,hs₄,E₄,hn3,hrd rd rb hr' hri,hf'⟩
   have hex':ex a' w':=⟨_,_,_,hg,rfl⟩
   refine⟨hex',Vv ((mspec a' w' hex').2 _ ⟨_,_,hg,rfl⟩) ?_⟩;rw[<- hm,mask2];exact hlt
  |_=>exact hx.elim
 |exit i=>cases x with
  |exit j=>exact⟨_,s',Γ',hx,hq,hs',E₁.trans hn₁ E,Tt hn₁ hn,hr',hf'⟩
  |_=>exact hx.elim
 |goto i=>cases x with
  |goto j=>exact⟨_,s',Γ',hx,hq,hs',E₁.trans hn₁ E,Tt hn₁ hn,hr',hf'⟩
  |_=>exact hx.elim
 |ret=>cases x with
  |ret=>exact⟨_,s',Γ',hx,hq,hs',E₁.trans hn₁ E,Tt hn₁ hn,hr',hf'⟩
  |_=>exact hx.elim
 |panic c=>cases x with
  |panic=>exact⟨_,s',Γ',hx,hq,hs',E₁.trans hn₁ E,Tt hn₁ hn,hr',hf'⟩
  |_=>exact hx.elim
 |outgrown=>cases x<;>exact hx.elim
theorem W.aG {c:Code}(ws:Nat)(hws:mr ws c=true)(I:Env->AHeap->Prop)(μ:Env->AHeap->Nat)(h0:I s.ρ s.H)
  (round:∀ ρ H,I ρ H->W P G n rd c (kv (fun s₂=>s.H.next<=s₂.H.next/\fT s₂.H rd/\I (mask ws s₂.ρ s.ρ) s₂.H/\μ (mask ws s₂.ρ s.ρ) s₂.H<μ (mask ws ρ s.ρ) H) Q) ⟨mask ws ρ s.ρ,H⟩):W P G n rd (.loop c) Q s :=
 W.loop ws hws I μ h0 fun ρ H hI=>(round ρ H hI).mono fun x s' hx=>by
  cases x with
  |normal=>exact⟨s',cJ.refl s',hx⟩
  |_=>exact hx
theorem W.wC {c:Code}{s':St}(hw:cJ P G s s')(hn:s.H.next<=s'.H.next)(hri:fT s'.H rd)(h:W P G n rd c Q s'):W P G n rd c Q s:=by
 intro wb Γ a w rb hs hr;obtain⟨Γ',hs',E,hrd⟩:=hw n wb Γ a w hs;exact wpIn_mono (h wb Γ' a w rb hs' (hrd rd rb hr hri)) fun _ _ _ hp=>hp.step E hn (.refl _ _) fun _ h=>h
end rules
end Go.Hx
namespace Go.Hx
variable {P:Program} {G:Nat->Option (List AVal)} {Γ Γ':aK} {H H':AHeap} {w w':World}
inductive ARes where
 |ret (v:AVal)
 |panic
def Fw (P:Program)(Γ:aK)(H:AHeap)(w:World):Ending->ARes->Prop
 |.returned cv,.ret v=>RelV P Γ H w v cv
 |.panicked chain,.panic=>wz chain
 |_,_=>False
def jD (P:Program)(G:Nat->Option (List AVal))(Γ:aK)(H:AHeap)(w:World)(K:ARes->AHeap->Prop)(e:Ending)(w':World):Prop :=
 ∃r H' Γ',Fw P Γ' H' w' e r/\K r H'/\RelH P G Γ' H' w'/\Evo Γ H w Γ' H' w'/\H.next<=H'.next
def ag (P:Program)(G:Nat->Option (List AVal))(f:FuncId)(args:List AVal)(H:AHeap)(K:ARes->AHeap->Prop):Prop :=
  (∃ fn, P.funcs[f]? = some fn ∧ fn.body.isNone = false ∧ (fn.name == "runtime.NumGoroutine") = false) ∧
 ∀ Γ w cargs,RelH P G Γ H w->dW P Γ H w args cargs->CallsIn Fence.wide 0 P f cargs w (jD P G Γ H w K)
def aw (P:Program)(G:Nat->Option (List AVal))(fv:AVal)(args:List AVal)(H:AHeap)(K:ARes->AHeap->Prop):Prop :=
 ∀ Γ w cfv cargs,RelH P G Γ H w->RelV P Γ H w fv cfv->dW P Γ H w args cargs ->
  ∃d,(Deferred.ofValue cfv cargs).run P w=.ok d w /\
   ((∃f as,(invoke d.target d.args).run P w=.ok (.enter f as) w/\CallsIn Fence.wide 0 P f as w (jD P G Γ H w K)) \/
    (∃l f tm asg body,(invoke d.target d.args).run P w=.ok (.round l f tm asg body) w/\RoundIn Fence.wide 0 P l f tm asg body w (jD P G Γ H w K)) \/
    (∃cv w',(invoke d.target d.args).run P w=.ok (.value cv) w'/\jD P G Γ H w K (.returned cv) w'))
theorem jD.mono {K K':ARes->AHeap->Prop}{e:Ending}(h:jD P G Γ H w K e w')(hk:∀r H',K r H'->K' r H'):jD P G Γ H w K' e w' :=
 let ⟨r,H',Γ',h1,h2,h3⟩:=h;⟨r,H',Γ',h1,hk _ _ h2,h3⟩
theorem ag.mono {f:FuncId}{args:List AVal}{K K':ARes->AHeap->Prop}(h:ag P G f args H K)(hk:∀r H',K r H'->K' r H'):ag P G f args H K' :=
 ⟨h.1,fun Γ w cargs R hr=>(h.2 Γ w cargs R hr).mono fun _ _ hp=>hp.mono hk⟩
theorem aw.mono {fv:AVal}{args:List AVal}{K K':ARes->AHeap->Prop}(h:aw P G fv args H K)(hk:∀r H',K r H'->K' r H'):aw P G fv args H K':=by
 intro Γ w cfv cargs R hv hr;obtain⟨d,h1,h2⟩:=h Γ w cfv cargs R hv hr;refine⟨d,h1,?_⟩;rcases h2 with ⟨f,as,h3,h4⟩|⟨l,f,tm,asg,body,h3,h4⟩|⟨cv,w',h3,h4⟩
 ·exact .inl ⟨f,as,h3,h4.mono fun _ _ hp=>hp.mono hk⟩
 ·exact .inr (.inl ⟨l,f,tm,asg,body,h3,h4.mono fun _ _ hp=>hp.mono hk⟩)
 ·exact .inr (.inr ⟨cv,w',h3,h4.mono hk⟩)
theorem tQ {a b:List AVal}{x y:Array Value}(h:dW P Γ H w a x)(k:dW P Γ H w b y):dW P Γ H w (a++b) (x++y):=by
 refine⟨by rw[Vz,List.length_append,h.1,k.1],fun i h1 h2=>?_⟩;have hx:=h.1;by_cases hi:i<a.length
 ·rw[TL hi,Array.getElem_append_left (by omega)];exact h.2 i hi _
 ·rw[TR (by omega),Array.getElem_append_right (by omega)];simp only[hx];exact k.2 _ (by simp only[List.length_append]at h1;omega) _
theorem aw.clo {f:FuncId}{first cap args:List AVal}{K:ARes->AHeap->Prop}(h:ag P G f (first++args++cap) H K):aw P G (.clo f first cap) args H K:=by
 intro Γ w cfv cargs R hv hr;cases hv with
 | @clo _ _ _ fs cs hfs hcs hf hc =>
  refine⟨{ target:=.fn (.func f) cs.toArray,args:=fs.toArray++cargs },rfl,.inl ⟨f,fs.toArray++cargs++cs.toArray,?_,?_⟩⟩
  ·obtain⟨fn,hfn,hb,hn⟩:=h.1;show (callFunc f (fs.toArray++cargs++cs.toArray)).run P w=_;unfold callFunc;rw[aA (run_program P w)];simp only[hfn];rw[hn,hb];rfl
  ·exact h.2 Γ w _ R (tQ (tQ ⟨by simpa using hfs,fun i h1 h2=>by simpa using hf i h1 (by simpa using h2)⟩ hr) ⟨by simpa using hcs,fun i h1 h2=>by simpa using hc i h1 (by simpa using h2)⟩)
theorem RelV.Fx {v cv:Value}(h:RelV P Γ H w (.lit v) cv):cv=v:=by cases h;rfl
theorem aw.ext {f:FuncId}{fn:Func}{e:Array Value->Sem Value}{args:List AVal}{vs:List Value}{v:Value}{r:AVal}{K:ARes->AHeap->Prop}(hf:P.funcs[f]?=some fn)(hb:fn.body.isNone=true)
    (hn : (fn.name == "runtime.NumGoroutine") = false) (h1 : Extern.findNext fn = none) (h2 : Extern.find fn = some e) (ha : args = vs.map .lit) (hrun : ∀ w, (e vs.toArray).run P w = .ok v w)
  (hrel:∀ Γ H w,RelV P Γ H w r v) (hK:K (.ret r) H):aw P G (.clo f [] []) args H K:=by
 intro Γ w cfv cargs R hv hr;subst ha;have hc:cargs=vs.toArray:=by
  obtain⟨hs,hr⟩:=hr;apply Array.ext
  ·simpa using hs
  ·intro i h1 h2;have:=hr i (by simpa using h2) h1;simp only[SV]at this;simpa using this.Fx
 subst hc;cases hv with
 | @clo _ _ _ fs cs hfs hcs hf' hc' =>
  obtain rfl:fs=[]:=SP (by simpa using hfs);obtain rfl:cs=[]:=SP (by simpa using hcs);refine⟨{ target:=.fn (.func f) #[],args:=#[]++vs.toArray },rfl,.inr (.inr ⟨v,w,?_,.ret r,H,Γ,hrel Γ H w,hK,R,Evo.refl _ _ _,Nat.le_refl _⟩)⟩;show (callFunc f (#[]++vs.toArray++#[])).run P w=_;unfold callFunc;rw[aA (run_program P w)];simp only[hf];rw[hn,hb];simp only[Bool.false_eq_true,if_false,if_true,h1,h2];have e0:#[]++vs.toArray++#[]=vs.toArray:=by simp
  rw[e0];have hm:(mark (.extern f)).run P w=.ok () w:=rfl;rw[aA hm];rw[aA (hrun w)];rfl
inductive TagK {α:Type}(K:α->Prop):Type where
 |mk
inductive TagR (K:ARes->AHeap->Prop):Type where
 |mk
inductive TagP (p q:Prop):Type where
 |mk
def bz {α:Type}(o:Option α)(K:α->Prop)(_d:TagK K:=.mk):Prop:=∃a,o=some a/\K a
def aX (ρ:Env)(dst:Option Tmp)(v:AVal):Env :=
 match dst with
 |some d=>fun t=>if t=d then v else ρ t
 |none=>ρ
def iB (all:Array Oper)(ρ:Env)(o:Oper):Option Bool :=
 match o.guard with
 |none=>some true
 |some (j,want) =>
  match (all[j]?).bind (·.dst) with
  |some d=>match ρ d with
   |.lit (.bool b)=>some (b == want)
   |.lit _=>some false
   |_=>none
  |none=>some false
def jn (n:Nat)(o:Oper):Bool:=match o.dst with|some d=>decide (d<n)|none=>true
def lF (H:AHeap)(op:BinOp)(x y:AVal):Option Bool :=
 match op,y with
 |.eql,.lit (.slice none 0 0)|.neq,.lit (.slice none 0 0)=>match x with
  |.vec n _=>some (decide (0<n))
  |.own id g _ n _=>match H.live id g with
   |some _=>some (decide (0<n))
   |none=>none
  |_=>none
 |_,_=>none
def pS (d:Option TypeDesc):Bool:=match d with|some (.slice _)=>true|_=>false
def ru (P:Program)(op:BinOp)(t:TypeId)(k:Option Bool)(Kb:AVal->Prop)(p:Prop):Prop :=
 match k with
 |some k=>pS (P.underlying t)=true/\∀b:Bool,(k=true->b=false)->Kb (.lit (.bool (if op == .neq then !b else b)))
 |none=>p
def aZ (P:Program)(G:Nat->Option (List AVal))(rd:Option Nat)(Q:AX->St->Prop)(o:Oper)(K:St->Prop)(s:St):Prop :=
 match o.op with
 |.call { callee:=.value fv,args,.. }=>aw P G (aB G s.ρ fv) (args.toList.map (aB G s.ρ)) s.H fun r H'=>fT H' rd/\match r with
  |.ret v=>K ⟨aX s.ρ o.dst v,H'⟩
  |.panic=>Q .panic ⟨s.ρ,H'⟩
 |.panic x=>(∃t v,(aB G s.ρ x)=.lit (.iface t v))/\Q .panic s
 |.binOp op t x y u=>ru P op t (lF s.H op (aB G s.ρ x) (aB G s.ρ y)) (fun v=>K ⟨aX s.ρ o.dst v,s.H⟩) (bz (av P G s.ρ s.H s.H.next (.binOp op t x y u)) fun vH=>K ⟨aX s.ρ o.dst vH.1,vH.2⟩)
 |op=>bz (av P G s.ρ s.H s.H.next op) fun vH=>K ⟨aX s.ρ o.dst vH.1,vH.2⟩
def fj (P:Program)(G:Nat->Option (List AVal))(rd:Option Nat)(Q:AX->St->Prop)(all:Array Oper):List Oper->St->Prop
 | [],s=>Q .normal s
 |o :: rest,s=>bz (iB all s.ρ o) fun t=>if t=true then aZ P G rd Q o (fj P G rd Q all rest) s else fj P G rd Q all rest ⟨aX s.ρ o.dst (.lit undef),s.H⟩
theorem tR {n:Nat}{wb:Base}{s:St}{a:Act}{all:Array Oper}{o:Oper}{t:Bool}(hs:RelS P G n wb Γ s a w)(h:iB all s.ρ o=some t):Region.wanted o (yielded all a.tmps)=t:=by
 unfold iB at h;unfold Region.wanted;split at h
 ·rename_i hg;rw[hg];simpa using h
 ·rename_i j want hg;rw[hg];simp only;split at h
  ·rename_i d hd;have he:=hs.env d;have hy:yielded all a.tmps j=match a.tmps[d]? with|some (.bool b)=>some b|_=>none:=by
    unfold yielded;rw[hd];rfl
   rw[hy];have hgd:a.tmps.getD d undef=(a.tmps[d]?).getD undef:=(by simp);rw[hgd]at he;split at h
   ·rename_i b hb;rw[hb]at he;simp only[Option.some.injEq]at h;cases hd:a.tmps[d]? with
    |none=>rw[hd]at he;cases he
    |some v =>
     rw[hd]at he;cases he;simp only;rw[<- h];cases b<;>cases want<;>rfl
   ·rename_i v hnb hb;rw[hb]at he;simp only[Option.some.injEq]at h;subst h;cases hd:a.tmps[d]? with
    |none=>simp
    |some cv =>
     rw[hd]at he;cases he;cases cv with
     |bool b=>exact(hnb b rfl).elim
     |_=>rfl
   ·cases h
  ·rename_i hd;have hy:yielded all a.tmps j=none:=(by unfold yielded;rw[hd];rfl);rw[hy];simpa using h
theorem mZ {n:Nat}{wb:Base}{s:St}{a:Act}{dst:Option Tmp}{v:AVal}{cv:Value}{H':AHeap}(hs:RelS P G n wb Γ s a w)(hd:∀d,dst=some d->d<n)(E:Evo Γ s.H w Γ' H' w')(hn:s.H.next<=H'.next)
  (R:RelH P G Γ' H' w') (hv:RelV P Γ' H' w' v cv):RelS P G n wb Γ' ⟨aX s.ρ dst v,H'⟩ (a.put dst cv) w':=by
 cases dst with
 |none=>exact⟨hs.size,fun t=>(hs.env t).bE E hn,R,hs.defers.bE E,Tt hs.low E.size⟩
 |some d =>
  have hdn:=hd d rfl;refine⟨by simp[Act.put,hs.size],fun t=>?_,R,hs.defers.bE E,Tt hs.low E.size⟩;simp only[Act.put,aX];by_cases ht:t=d
  ·subst ht;rw[SK rfl];have:(a.tmps.setIfInBounds t cv).getD t undef=cv:=(by simp[hs.size,hdn]);rw[this];exact hv
  ·rw[SI ht];have:(a.tmps.setIfInBounds d cv).getD t undef=a.tmps.getD t undef:=by
    simp only[TE];rw[TA,SI (by omega)]
   rw[this];exact(hs.env t).bE E hn
theorem fh.bE {rd rb:Option Nat}(h:fh Γ H rd rb)(E:Evo Γ H w Γ' H' w')(hn:H.next<=H'.next)(R:RelH P G Γ H w)(hi:fT H' rd):fh Γ' H' rd rb:=by
 cases rd with
 |none=>exact h
 |some id =>
  obtain⟨b,st,pend,n,env,ps,asg,body,h1,h2,h3⟩:=h;obtain⟨st',pend',n',env',ps',asg',body',h3'⟩:=hi;have hlt:=R.next id _ h3;obtain⟨x,hx,hle⟩:=E.live id hlt (S1 hlt hn) _ h3';rw[h3]at hx;cases hx;exact⟨b,_,_,_,_,_,_,_,h1,hle.1.trans h2,h3'⟩
theorem Fy {id:Nat}{b:Blk}(h:H.lay id b=some H'){j:Nat}{st:LoopState}{pend:Option Code}{n:Nat}{env:Env}{ps:Array Tmp}{asg body:Code}
  (hj:H.get j=some (.loop st pend n env ps asg body)) (hlt:j<H.next):H'.get j=some (.loop st pend n env ps asg body):=by
 obtain⟨h1,_⟩:=jR h;have hne:j≠id:=by
  rintro rfl;unfold AHeap.lay at h;rw[SI (by omega),hj]at h;cases h
 rw[h1,SI hne];exact hj
theorem Aw {rd rb:Option Nat}(h:fh Γ H rd rb)(hk:∀j st pend n env ps asg body,H.get j=some (.loop st pend n env ps asg body)->∃st pend n env ps asg body,H'.get j=some (.loop st pend n env ps asg body)):fT H' rd:=by
 cases rd with
 |none=>trivial
 |some id =>
  obtain⟨b,st,pend,n,env,ps,asg,body,h1,h2,h3⟩:=h;exact hk id _ _ _ _ _ _ _ h3
theorem Ax {ρ:Env}{o:Op}{v:AVal}{id:Nat}(R:RelH P G Γ H w)(h:av P G ρ H id o=some (v,H')):∀j st pend n env ps asg body,H.get j=some (.loop st pend n env ps asg body) ->
  ∃st pend n env ps asg body,H'.get j=some (.loop st pend n env ps asg body):=by
 have same:H'=H->∀j st pend n env ps asg body,H.get j=some (.loop st pend n env ps asg body)->∃st pend n env ps asg body,H'.get j=some (.loop st pend n env ps asg body):=by
  rintro rfl j st pend n env ps asg body hj;exact⟨_,_,_,_,_,_,_,hj⟩
 have lay:∀b,H.lay id b=some H'->∀j st pend n env ps asg body,H.get j=some (.loop st pend n env ps asg body)->∃st pend n env ps asg body,H'.get j=some (.loop st pend n env ps asg body):=by
  intro b hb j st pend n env ps asg body hj;exact⟨_,_,_,_,_,_,_,Fy hb hj (R.next j _ hj)⟩
 have upd:∀id g e cells b,H.get id=some (.arr g e cells)->H'=H.upd id b->∀j st pend n env ps asg body,H.get j=some (.loop st pend n env ps asg body)->∃st pend n env ps asg body,H'.get j=some (.loop st pend n env ps asg body):=by
  rintro id g e cells b hb rfl j st pend n env ps asg body hj;refine⟨st,pend,n,env,ps,asg,body,?_⟩;rw[ae,SI]
  ·exact hj
  ·rintro rfl;rw[hb]at hj;cases hj
 have updM:∀id es b,H.get id=some (.mp es)->H'=H.upd id b->∀j st pend n env ps asg body,H.get j=some (.loop st pend n env ps asg body)->∃st pend n env ps asg body,H'.get j=some (.loop st pend n env ps asg body):=by
  rintro id es b hb rfl j st pend n env ps asg body hj;refine⟨st,pend,n,env,ps,asg,body,?_⟩;rw[ae,SI]
  ·exact hj
  ·rintro rfl;rw[hb]at hj;cases hj
 have updU:∀t m k x,jA P H t m k x=some (v,H')->∀j st pend n env ps asg body,H.get j=some (.loop st pend n env ps asg body)->∃st pend n env ps asg body,H'.get j=some (.loop st pend n env ps asg body):=by
  intro t m k x h;unfold jA at h;split at h
  ·split at h
   ·split at h
    ·rename_i hg;simp only[Option.some.injEq,Prod.mk.injEq]at h;exact updM _ _ _ hg h.2.symm
    ·cases h
   ·cases h
  ·cases h
 cases o with
 |makeMap t r =>
  simp only[av]at h;split at h
  ·simp only[SG,Prod.mk.injEq]at h;obtain⟨_,hl,_,rfl⟩:=h;exact lay _ hl
  ·cases h
 |lookup a b c d=>simp only[av,SG,Prod.mk.injEq]at h;obtain⟨_,_,_,rfl⟩:=h;exact same rfl
 |mapUpdate t m k x=>simp only[av]at h;exact updU _ _ _ _ h
 |insert t m k x=>simp only[av]at h;exact updU _ _ _ _ h
 |mapEntry t m k =>
  simp only[av]at h;unfold oF at h;split at h
  ·split at h
   ·split at h
    ·rename_i hg;split at h
     ·simp only[Option.some.injEq,Prod.mk.injEq]at h;exact updM _ _ _ hg h.2.symm
     ·simp only[Option.some.injEq,Prod.mk.injEq]at h;exact updM _ _ _ hg h.2.symm
    ·cases h
   ·cases h
  ·cases h
 |entryStore t m s x =>
  simp only[av]at h;unfold pI at h;split at h
  ·split at h
   ·rename_i hg;split at h
    ·simp only[Option.some.injEq,Prod.mk.injEq]at h;exact updM _ _ _ hg h.2.symm
    ·cases h
   ·cases h
  ·cases h
 |alloc e =>
  simp only[av,SL,SG,Prod.mk.injEq]at h;obtain⟨_,_,_,hl,_,rfl⟩:=h;exact lay _ hl
 |box e x =>
  simp only[av,SG,Prod.mk.injEq]at h;obtain⟨_,hl,_,rfl⟩:=h;exact lay _ hl
 |buildSlice t len parts =>
  simp only[av,mW]at h;split at h
  ·split at h
   ·simp only[SL,SG,Prod.mk.injEq]at h;obtain⟨_,_,_,_,_,hl,_,rfl⟩:=h;exact lay _ hl
   ·cases h
  ·cases h
 |store t a x =>
  simp only[av]at h;split at h
  ·simp only[SG,Prod.mk.injEq]at h;obtain⟨_,hst,_,rfl⟩:=h;unfold jO at hst;split at hst
   ·split at hst
    ·rename_i hg;split at hst
     ·simp only[Option.some.injEq]at hst;exact upd _ _ _ _ _ hg hst.symm
     ·cases hst
    ·cases hst
   ·cases hst
  ·cases h
 |makeSlice t l c =>
  simp only[av,mj]at h;split at h
  ·split at h
   ·simp only[SL,SG,Prod.mk.injEq]at h;obtain⟨_,_,_,hl,_,rfl⟩:=h;exact lay _ hl
   ·cases h
  ·cases h
 |call c =>
  simp only[av]at h;split at h
  ·rename_i b hb;unfold gZ at h;split at h
   ·simp only[SG,Prod.mk.injEq]at h;obtain⟨_,_,_,rfl⟩:=h;exact same rfl
   ·unfold bM at h;split at h
    ·split at h
     ·simp only[SL]at h;obtain⟨_,_,_,_,h⟩:=h;split at h
      ·split at h
       ·simp only[Option.some.injEq,Prod.mk.injEq]at h;exact same h.2.symm
       ·split at h
        ·simp only[SG,Prod.mk.injEq]at h;obtain⟨_,hl,_,rfl⟩:=h;exact lay _ hl
        ·cases h
      ·simp only[SL]at h;obtain⟨⟨e',cells⟩,hl,h⟩:=h;simp only at h;split at h
       ·split at h
        ·simp only[Option.some.injEq,Prod.mk.injEq]at h;exact same h.2.symm
        ·simp only[Option.some.injEq,Prod.mk.injEq]at h;exact upd _ _ _ _ _ (jC hl) h.2.symm
       ·cases h
      ·cases h
     ·cases h
    ·cases h
   ·unfold lk at h;split at h
    ·split at h
     ·simp only[SL]at h;obtain⟨_,_,h⟩:=h;split at h
      ·simp only[SL]at h;obtain⟨⟨e',cells⟩,hl,h⟩:=h;simp only at h;split at h
       ·simp only[Option.some.injEq,Prod.mk.injEq]at h;exact upd _ _ _ _ _ (jC hl) h.2.symm
       ·cases h
      ·cases h
     ·cases h
    ·cases h
   ·unfold lu at h;split at h
    ·split at h
     ·simp only[Option.some.injEq,Prod.mk.injEq]at h;exact same h.2.symm
     ·simp only[SL]at h;obtain⟨⟨e',cells⟩,hl,h⟩:=h;simp only at h;split at h
      ·simp only[Option.some.injEq,Prod.mk.injEq]at h;exact same h.2.symm
      ·simp only[SL]at h;obtain⟨_,_,h⟩:=h;split at h
       ·simp only[Option.some.injEq,Prod.mk.injEq]at h;exact upd _ _ _ _ _ (jC hl) h.2.symm
       ·cases h
     ·cases h
    ·cases h
   ·simp only[SL,SG,Prod.mk.injEq]at h;obtain⟨_,_,_,_,_,rfl⟩:=h;exact same rfl
   ·simp only[SL,SG,Prod.mk.injEq]at h;obtain⟨_,_,_,_,_,rfl⟩:=h;exact same rfl
   ·cases h
  ·cases h
 |pick c a b =>
  simp only[av]at h;split at h
  ·simp only[Option.some.injEq,Prod.mk.injEq]at h;exact same h.2.symm
  ·cases h
 |makeFunc fn f c =>
  simp only[av]at h;split at h
  ·simp only[Option.some.injEq,Prod.mk.injEq]at h;exact same h.2.symm
  ·cases h
 |makeInterface t x =>
  simp only[av]at h;split at h
  ·simp only[SG,Prod.mk.injEq]at h;obtain⟨_,_,_,rfl⟩:=h;exact same rfl
  ·cases h
 |slice t x lo hi mx =>
  simp only[av]at h;split at h
  ·simp only[SG,Prod.mk.injEq]at h;obtain⟨_,_,_,rfl⟩:=h;exact same rfl
  ·cases h
 |fieldAddr s x f =>
  simp only[av,SL]at h;obtain⟨_,_,h⟩:=h;split at h
  ·simp only[SG,Prod.mk.injEq]at h;obtain⟨_,_,_,rfl⟩:=h;exact same rfl
  ·simp only[Option.some.injEq,Prod.mk.injEq]at h;exact same h.2.symm
  ·cases h
 |field s x f =>
  simp only[av,SL]at h;obtain⟨_,_,h⟩:=h;split at h
  ·simp only[SG,Prod.mk.injEq]at h;obtain⟨_,_,_,rfl⟩:=h;exact same rfl
  ·simp only[SG,Prod.mk.injEq]at h;obtain⟨_,_,_,rfl⟩:=h;exact same rfl
  ·cases h
 |indexAddr t x i =>
  simp only[av]at h;split at h
  ·simp only[SG,Prod.mk.injEq]at h;obtain⟨_,_,_,rfl⟩:=h;exact same rfl
  ·cases h
 |move x=>simp only[av,Option.some.injEq,Prod.mk.injEq]at h;exact same h.2.symm
 |assign x=>simp only[av,Option.some.injEq,Prod.mk.injEq]at h;exact same h.2.symm
 |build t p=>simp only[av,SG,Prod.mk.injEq]at h;obtain⟨_,_,_,rfl⟩:=h;exact same rfl
 |load t p=>simp only[av,SG,Prod.mk.injEq]at h;obtain⟨_,_,_,rfl⟩:=h;exact same rfl
 |nilCheck p=>simp only[av,SG,Prod.mk.injEq]at h;obtain⟨_,_,_,rfl⟩:=h;exact same rfl
 |binOp a b c d e=>simp only[av,SG,Prod.mk.injEq]at h;obtain⟨_,_,_,rfl⟩:=h;exact same rfl
 |unOp a b c=>simp only[av,SG,Prod.mk.injEq]at h;obtain⟨_,_,_,rfl⟩:=h;exact same rfl
 |convert a b c=>simp only[av,SG,Prod.mk.injEq]at h;obtain⟨_,_,_,rfl⟩:=h;exact same rfl
 |index a b c=>simp only[av,SG,Prod.mk.injEq]at h;obtain⟨_,_,_,rfl⟩:=h;exact same rfl
 |extract a b=>simp only[av,SG,Prod.mk.injEq]at h;obtain⟨_,_,_,rfl⟩:=h;exact same rfl
 |_=>simp[av]at h
end Go.Hx
namespace Go.Hx
variable {P:Program} {G:Nat->Option (List AVal)} {Γ Γ':aK} {H H':AHeap} {w w':World}
theorem Ay {n:Nat}{cells:List AVal}{cx:Value}(hx:RelV P Γ H w (.vec n cells) cx):∃a m c,cx=.slice a m c/\(decide (0<n)=true->a.isNone=false):=by
 cases hx with
 |vec0 a cap=>exact⟨a,0,cap,rfl,fun hk=>by simp at hk⟩
 |vec=>exact⟨_,_,_,rfl,fun _=>rfl⟩
theorem Az {id g o n z:Nat}{k:Bool}{cx:Value}(h:(match H.live id g with|some _=>some (decide (0<n))|none=>none)=some k)(hx:RelV P Γ H w (.own id g o n z) cx):∃a m c,cx=.slice a m c/\(k=true->a.isNone=false):=by
 split at h
 ·rename_i ec hl;simp only[Option.some.injEq]at h;rcases jS (e:=ec.1) (cells:=ec.2) hx hl with ⟨b,base,m,a,cap,_,rfl,_,_,_⟩|⟨_,_,rfl,rfl⟩
  ·exact⟨_,_,_,rfl,fun _=>rfl⟩
  ·refine⟨_,_,_,rfl,fun hk=>?_⟩;rw[<- h]at hk;simp at hk
 ·cases h
theorem FA {op:BinOp}{x y:AVal}{k:Bool}{cx cy:Value}(h:lF H op x y=some k)(hx:RelV P Γ H w x cx)(hy:RelV P Γ H w y cy):
  (op=.eql\/op=.neq)/\cy=.slice none 0 0/\∃a n c,cx=.slice a n c/\(k=true->a.isNone=false):=by
 unfold lF at h;split at h
 ·cases hy;split at h
  ·simp only[Option.some.injEq]at h;rw[<- h];exact⟨.inl rfl,rfl,Ay hx⟩
  ·exact⟨.inl rfl,rfl,Az h hx⟩
  ·cases h
 ·cases hy;split at h
  ·simp only[Option.some.injEq]at h;rw[<- h];exact⟨.inr rfl,rfl,Ay hx⟩
  ·exact⟨.inr rfl,rfl,Az h hx⟩
  ·cases h
 ·cases h
theorem AA {t:TypeId}(ht:pS (P.underlying t)=true)(a:Option Addr)(n c:Nat):(Op.equal t (.slice a n c) (.slice none 0 0)).run P w=.ok a.isNone w:=by
 unfold pS at ht;split at ht
 ·rename_i e he;show (Op.equalIn (9999+1) t (.slice a n c) (.slice none 0 0)).run P w=_;unfold Op.equalIn;rw[aA (cQ he)];cases a<;>rfl
 ·cases ht
section
variable {n:Nat} {wb:Base} {rd rb:Option Nat} {Q:AX->St->Prop}
theorem AB {o:Oper}{K:St->Prop}{s:St}{a:Act}{next:Act->World->Prop}{Q':Exit->Act->World->Prop}(hd:jn n o=true)(hs:RelS P G n wb Γ s a w)(hr:fh Γ s.H rd rb)(h:aZ P G rd Q o K s)
  (hnext:∀ Γ' s' a' w',K s'->RelS P G n wb Γ' s' a' w'->Evo Γ s.H w Γ' s'.H w'->s.H.next<=s'.H.next->fh Γ' s'.H rd rb->(∃cv,a'=a.put o.dst cv)->next a' w')
  (hq:∀ Γ' s' a' w' chain,Q .panic s'->wz chain->RelS P G n wb Γ' s' a' w'->Evo Γ s.H w Γ' s'.H w'->s.H.next<=s'.H.next->fh Γ' s'.H rd rb->a'=a->Q' (.panic chain) a' w'):
  o.wpIn (gh rb) 0 P a w next Q':=by
 have hdst:∀d,o.dst=some d->d<n:=by
  intro d hd';unfold jn at hd;rw[hd']at hd;simpa using hd
 have plain:∀vH:AVal × AHeap,av P G s.ρ s.H s.H.next o.op=some vH->K ⟨aX s.ρ o.dst vH.1,vH.2⟩->o.wpIn (gh rb) 0 P a w next Q':=by
  rintro⟨v,H'⟩ hop hk;refine⟨fun _ _=>trivial,?_⟩;rw[Oper.semAt_eq _ _ _ (fun c hc=>by rw[hc]at hop;simp[av]at hop)];obtain⟨nx,cv,Γ',w',hrun,hnx,E,hn,R,hv⟩:=At hs.heap (kz hs) hop;rw[hrun];have hri:=Aw hr (Ax hs.heap hop);have hs':=mZ hs hdst E hn R hv;have hr':=hr.bE E hn hs.heap hri;rcases hnx with rfl|⟨rfl,rfl⟩
  ·exact hnext Γ' _ _ w' hk hs' E hn hr' ⟨_,rfl⟩
  ·exact hnext Γ' _ _ w' hk hs' E hn hr' ⟨_,rfl⟩
 unfold aZ at h;split at h
 ·rename_i fv args ats hop;refine⟨fun _ _=>trivial,?_⟩;rw[Oper.semAt_eq _ _ _ (fun c hc=>by rw[hc]at hop;cases hop)];obtain⟨d,h1,h2⟩:=h Γ w (a.eval fv) (args.map a.eval) hs.heap (kz hs fv) ⟨by simp,fun i h1 h2=>by simp only[SV,UV,TV];exact kz hs _⟩;have hex:(execOp a.eval o).run P w=(invoke d.target d.args).run P w:=by
   unfold execOp;simp only[hop];unfold resolve;simp only;rw[aA h1]
  have cont:∀e w',jD P G Γ s.H w (fun r H'=>fT H' rd/\match r with
    |.ret v=>K ⟨aX s.ρ o.dst v,H'⟩
    |.panic=>Q .panic ⟨s.ρ,H'⟩) e w'->(match e with
     |.returned v=>next (a.put o.dst v) w'
     |.panicked chain=>Q' (.panic chain) a w'
     |.outgrown=>LetsOut Q'):=by
   rintro e w' ⟨r,H',Γ',hend,⟨hri,hk⟩,R,E,hn⟩;have hr':=hr.bE E hn hs.heap hri;cases e with
   |returned cv =>
    cases r with
    |ret v=>exact hnext Γ' _ _ w' hk (mZ hs hdst E hn R hend) E hn hr' ⟨_,rfl⟩
    |panic=>exact hend.elim
   |panicked chain =>
    cases r with
    |ret v=>exact hend.elim
    |panic =>
     exact hq Γ' ⟨s.ρ,H'⟩ a w' chain hk hend ⟨hs.size,fun t=>(hs.env t).bE E hn,R,hs.defers.bE E,Tt hs.low E.size⟩ E hn hr' rfl
   |outgrown=>cases r<;>exact hend.elim
  rw[hex];rcases h2 with ⟨f,as,h3,h4⟩|⟨l,f,tm,asg,body,h3,h4⟩|⟨cv,w',h3,h4⟩
  ·rw[h3];refine⟨fun hc=>by simp[Fence.wide]at hc,?_⟩;have h4':CallsIn (gh rb) 0 P f as w _:=h4;refine h4'.mono ?_;intro e w' hp;have:=cont e w' hp;cases e<;>exact this
  ·rw[h3];refine⟨fun hc=>by simp[Fence.wide]at hc,?_⟩;have h4':RoundIn (gh rb) 0 P l f tm asg body w _:=h4;refine h4'.mono ?_;intro e w' hp;have:=cont e w' hp;cases e<;>exact this
  ·rw[h3];exact cont (.returned cv) w' h4
 ·rename_i x hop;obtain⟨⟨t,v,hx⟩,hk⟩:=h;refine⟨fun _ _=>trivial,?_⟩;rw[Oper.semAt_eq _ _ _ (fun c hc=>by rw[hc]at hop;cases hop)];have he:=kz hs x;rw[hx]at he;have hev:a.eval x=.iface t v:=by
   generalize a.eval x=y at he;cases he;rfl
  have hex:(execOp a.eval o).run P w=.halt (.panic (.iface t v)) w:=by
   unfold execOp;simp only[hop,hev];rfl
  rw[hex];exact hq Γ s a w _ hk ⟨t,v,rfl⟩ hs (Evo.refl _ _ _) (Nat.le_refl _) hr rfl
 ·rename_i op t x y u hop;unfold ru at h;split at h
  ·rename_i k hk;obtain⟨ht,hall⟩:=h;obtain⟨hor,hcy,sa,sn,sc,hcx,hsome⟩:=FA hk (kz hs x) (kz hs y);refine⟨fun _ _=>trivial,?_⟩;rw[Oper.semAt_eq _ _ _ (fun c hc=>by rw[hc]at hop;cases hop)];have hex:(execOp a.eval o).run P w=.ok (.value (.bool (if op == .neq then !sa.isNone else sa.isNone))) w:=by
    unfold execOp;simp only[hop,hcx,hcy];rcases hor with rfl|rfl
    ·have h1:(eqGuard .eql t x y (.slice sa sn sc) (.slice none 0 0)).run P w=.ok () w:=rfl;have h2:(binOp .eql t (.slice sa sn sc) (.slice none 0 0)).run P w=.ok (.bool sa.isNone) w:=by
      show ((Op.equal t (.slice sa sn sc) (.slice none 0 0)) >>= fun b=>pure (Value.bool b)).run P w=_;rw[aA (AA ht sa sn sc)];rfl
     have h3:(do eqGuard .eql t x y (.slice sa sn sc) (.slice none 0 0);binOp .eql t (.slice sa sn sc) (.slice none 0 0)).run P w=.ok (.bool sa.isNone) w:=(by rw[aA h1];exact h2);rw[aA h3];rfl
    ·have h1:(eqGuard .neq t x y (.slice sa sn sc) (.slice none 0 0)).run P w=.ok () w:=rfl;have h2:(binOp .neq t (.slice sa sn sc) (.slice none 0 0)).run P w=.ok (.bool (!sa.isNone)) w:=by
      show ((Op.equal t (.slice sa sn sc) (.slice none 0 0)) >>= fun b=>pure (Value.bool !b)).run P w=_;rw[aA (AA ht sa sn sc)];rfl
     have h3:(do eqGuard .neq t x y (.slice sa sn sc) (.slice none 0 0);binOp .neq t (.slice sa sn sc) (.slice none 0 0)).run P w=.ok (.bool (!sa.isNone)) w:=(by rw[aA h1];exact h2);rw[aA h3];rfl
   rw[hex];exact hnext Γ _ _ w (hall sa.isNone hsome) (mZ hs hdst (Evo.refl _ _ _) (Nat.le_refl _) hs.heap (.lit _)) (Evo.refl _ _ _) (Nat.le_refl _) hr ⟨_,rfl⟩
  ·obtain⟨vH,hop',hk⟩:=h;exact plain vH (by rw[hop];exact hop') hk
 ·obtain⟨vH,hop,hk⟩:=h;exact plain vH hop hk
theorem ry {a:Act}{all:Array Oper}{i:Nat}(hi:i<all.size)(cv:Value):Fr (fun t=>all.toList.any fun o=>o.dst == some t) a (a.put all[i].dst cv):=by
 intro t ht;simp only[List.any_eq_false]at ht;have:=ht all[i] (by simp);cases hd:all[i].dst with
 |none=>rfl
 |some d =>
  simp only[Act.put];rw[TA,SI];intro hdt;rw[hd,hdt]at this;simp at this
theorem FB {id:Nat}{dr:Bool}{all:Array Oper}(hfit:∀o,o∈all.toList->jn n o=true):∀(is:List Nat) (s:St) (Γ:aK) (a:Act) (w:World),(∀i,i∈is->i<all.size) ->
  fj P G rd Q all (is.filterMap fun i=>all[i]?) s->RelS P G n wb Γ s a w->fh Γ s.H rd rb ->
  ∀(Q':Exit->Act->World->Prop),(∀e a' w',iW P G n wb rd rb (wr (.region id all dr)) Γ s.H a w Q e a' w'->Q' e a' w')->wpOpsIn (gh rb) 0 P all Q' is a w:=by
 intro is
 induction is with
 |nil =>
  intro s Γ a w _ h hs hr Q' hq;exact hq _ _ _ (.here (x:=.normal) trivial h hs hr)
 |cons i is ih =>
  intro s Γ a w hi h hs hr Q' hq;have hlt:=hi i (by simp);have ho:all[i]?=some all[i]:=S7 hlt;simp only[Wj,ho]at h;unfold wpOpsIn;rw[ho];simp only;obtain⟨t,ht,h⟩:=h;rw[tR hs ht];have hd:=hfit all[i] (by simp);cases t with
  |true =>
   simp only[if_true]at h ⊢;refine AB hd hs hr h ?_ ?_
   ·rintro Γ' s' a' w' hk hs' E hn hr' ⟨cv,rfl⟩;exact ih s' Γ' _ w' (fun j hj=>hi j (by simp[hj])) hk hs' hr' Q' fun e a'' w'' hp=>hq _ _ _ (hp.step E hn (ry hlt cv) fun _ h=>h)
   ·rintro Γ' s' a' w' chain hp hc hs' E hn hr' rfl;exact hq _ _ _ ⟨.panic,s',Γ',hc,hp,hs',E,hn,hr',.refl _ _⟩
  |false =>
   simp only[Bool.false_eq_true,if_false]at h ⊢;refine⟨fun _ _=>trivial,?_⟩;have hdst:∀d,all[i].dst=some d->d<n:=by
    intro d hd';unfold jn at hd;rw[hd']at hd;simpa using hd
   have hs':=mZ (v:=.lit undef) (cv:=undef) hs hdst (Evo.refl Γ s.H w) (Nat.le_refl _) hs.heap (.lit _);exact ih ⟨aX s.ρ all[i].dst (.lit undef),s.H⟩ Γ _ w (fun j hj=>hi j (by simp[hj])) h hs' hr Q' fun e a'' w'' hp=>hq _ _ _ (hp.step (Evo.refl _ _ _) (Nat.le_refl _) (ry hlt _) fun _ h=>h)
theorem FC {α:Type}(l:List α):(List.range l.length).filterMap (fun i=>l[i]?)=l:=by
 induction l with
 |nil=>rfl
 |cons x xs ih =>
  rw[List.length_cons,List.range_succ_eq_map,Wj];simp only[List.getElem?_cons_zero];rw[List.filterMap_map];congr 1
theorem W.region {id:Nat}{ops:Array Oper}{s:St}(hfit:ops.toList.all (jn n)=true)(h:fj P G rd Q ops ops.toList s):W P G n rd (.region id ops false) Q s:=by
 intro wb Γ a w rb hs hr;refine wpIn_region (FB (id:=id) (dr:=false) (fun o ho=>Td.1 hfit o ho) _ s Γ a w (fun i hi=>Tn.1 hi) ?_ hs hr _ fun _ _ _ hp=>hp);have:(List.range ops.size).filterMap (fun i=>ops[i]?)=ops.toList:=by
  have:=FC ops.toList;simpa using this
 rw[this];exact h
theorem rz {b:Frame}{a:Act}{k:List Item}{cs:List Frame}{c:Code}:
  step P (lone (b.atR a (.code (.scope c) :: k)) cs w)=.next (lone (b.atR a (.code c :: .inScope c :: k)) cs w) :=
 step_lone_go (by simp[stepG,stepG.exec,Frame.atR])
theorem FD {b:Frame}{a:Act}{k:List Item}{cs:List Frame}{c:Code}:
  step P (lone (b.atR a (.inScope c :: k)) cs w)=.next (lone (b.atR a k) cs w) :=
 step_lone_go (by simp[stepG,stepG.exec,Frame.atR])
def oH (Q:AX->St->Prop):AX->St->Prop
 |.goto _,_=>False
 |x,s=>Q x s
theorem W.scope {c:Code}{s:St}(h:W P G n rd c (oH Q) s):W P G n rd (.scope c) Q s:=by
 intro wb Γ a w rb hs hr b k cs hro hb hrm;have h0:(lone (b.atR a (.code (.scope c) :: k)) cs w).fenced P (gh rb):=fenced_calm hb hrm rfl;obtain⟨e,a',w',hp,harr⟩:=h wb Γ a w rb hs hr b (.inScope c :: k) cs hro hb hrm;obtain⟨x,s',Γ',hx,hq,hrest⟩:=hp;cases e with
 |normal =>
  cases x with
  |normal=>exact⟨.normal,a',w',⟨.normal,s',Γ',hx,hq,hrest⟩,.head h0 rz (StepsIn.trans harr (.one (fenced_calm hb hrm rfl) FD))⟩
  |_=>exact hx.elim
 |exit i =>
  cases x with
  |exit j =>
   have hk:exitTo i (.inScope c :: k)=exitTo i k:=(by simp[exitTo]);exact⟨.exit i,a',w',⟨.exit j,s',Γ',hx,hq,hrest⟩,fun k' hk'=>.head h0 rz (harr.1 k' (by rw[hk];exact hk')),
    fun hr' hk'=>let ⟨k₁,h1,h2⟩:=harr.2 hr' (by rw[hk];exact hk');⟨k₁,h1,.head h0 rz h2⟩⟩
  |_=>exact hx.elim
 |goto i=>cases x with
  |goto j=>exact hq.elim
  |_=>exact hx.elim
 |ret=>cases x with
  |ret=>exact⟨.ret,a',w',⟨.ret,s',Γ',hx,hq,hrest⟩,.of_steps (.one h0 rz) harr⟩
  |_=>exact hx.elim
 |panic ch=>cases x with
  |panic=>exact⟨.panic ch,a',w',⟨.panic,s',Γ',hx,hq,hrest⟩,.of_steps (.one h0 rz) harr⟩
  |_=>exact hx.elim
 |outgrown=>cases x<;>exact hx.elim
end
def iX (t:Bool)(p q:Prop)(_d:TagP p q:=.mk):Prop:=(t=true->p)/\(t=false->q)
def vc (P:Program)(G:Nat->Option (List AVal))(n:Nat)(rd:Option Nat):Code->(AX->St->Prop)->St->Prop
 |.skip,Q,s=>Q .normal s
 |.label _,Q,s=>Q .normal s
 |.region _ ops false,Q,s=>fj P G rd Q ops ops.toList s
 |.region id ops true,Q,s=>W P G n rd (.region id ops true) Q s
 |.seq a b,Q,s=>vc P G n rd a (kv (vc P G n rd b Q) Q) s
 |.cond c a b,Q,s=>bz (match aB G s.ρ c with|.lit (.bool t)=>some t|_=>none) fun t=>iX t (vc P G n rd a Q s) (vc P G n rd b Q s)
 |.block id c,Q,s=>vc P G n rd c (mq id Q) s
 |.loop c,Q,s=>W P G n rd (.loop c) Q s
 |.rangeFunc f ps asg body,Q,s=>W P G n rd (.rangeFunc f ps asg body) Q s
 |.exit id,Q,s=>Q (.exit id) s
 |.scope c,Q,s=>vc P G n rd c (oH Q) s
 |.goto l,Q,s=>Q (.goto l) s
 |.ret,Q,s=>Q .ret s
 |.refuse _,_,_=>False
def fits (n:Nat):Code->Bool
 |.region _ ops _=>ops.toList.all (jn n)
 |.seq a b|.cond _ a b|.rangeFunc _ _ a b=>fits n a && fits n b
 |.block _ c|.loop c|.scope c=>fits n c
 |_=>true
theorem tS {n:Nat}{rd:Option Nat}:∀(c:Code) (Q:AX->St->Prop) (s:St),fits n c=true->vc P G n rd c Q s->W P G n rd c Q s:=by
 intro c
 induction c with
 |skip=>exact fun Q s _ h=>.skip h
 |label l=>exact fun Q s _ h=>.label h
 |region id ops d =>
  intro Q s hf h;cases d with
  |false=>exact .region hf h
  |true=>exact h
 |seq a b iha ihb =>
  intro Q s hf h;simp only[fits,TQ]at hf;refine W.seq ((iha _ s hf.1 h).mono fun x s' hx=>?_);cases x with
  |normal=>exact ihb Q s' hf.2 hx
  |_=>exact hx
 |cond c a b iha ihb =>
  intro Q s hf h;simp only[fits,TQ]at hf;obtain⟨t,ht,h1,h2⟩:=h;split at ht
  ·rename_i t' hc;simp only[Option.some.injEq]at ht;subst ht;refine W.cond hc ?_;cases t' with
   |true=>exact iha Q s hf.1 (h1 rfl)
   |false=>exact ihb Q s hf.2 (h2 rfl)
  ·cases ht
 |block id c ih=>exact fun Q s hf h=>.block (ih _ s hf h)
 |loop c _=>exact fun Q s _ h=>h
 |rangeFunc=>exact fun Q s _ h=>h
 |exit id=>exact fun Q s _ h=>.exit h
 |scope c ih=>exact fun Q s hf h=>.scope (ih _ s hf h)
 |goto l=>exact fun Q s _ h=>.goto h
 |ret=>exact fun Q s _ h=>.ret h
 |refuse why=>exact fun Q s _ h=>h.elim
theorem W.vs {n:Nat}{rd:Option Nat}{c:Code}{Q:AX -> St -> Prop}{s:St}(h:vc P G n rd c Q s)(hf:fits n c=true := by rfl):W P G n rd c Q s := tS c Q s hf h
theorem W.sq {n:Nat}{rd:Option Nat}{x y:Code}{Q:AX -> St -> Prop}{s:St}(h:vc P G n rd x (kv (W P G n rd y Q) Q) s)(hf:fits n x=true := by rfl):W P G n rd (.seq x y) Q s := W.seq (tS x _ s hf h)
end Go.Hx
namespace Go.Hx
variable {P:Program} {G:Nat->Option (List AVal)} {Γ Γ':aK} {H H':AHeap} {w w':World}
theorem AC {r:Nat}{x:Option (List Deferred)}(hr:w.heap[r]?=some (.deferred x))(o:Obj)(ho:∀c e f,o≠.cells c e f)(b i:Nat):(bY w r o).cell? ⟨b,i,none⟩=w.cell? ⟨b,i,none⟩:=by
 simp only[World.cell?,fg];by_cases h:b=r/\r<w.heap.size
 ·rw[SK h,h.1,hr];cases o<;>first|rfl|exact absurd rfl (ho _ _ _)
 ·rw[SI h]
theorem RelV.closed {v:AVal}{cv:Value}{r:Nat}{x:Option (List Deferred)}(hr:w.heap[r]?=some (.deferred x)){o:Obj}(ho:∀c e f,o≠.cells c e f)(h:RelV P Γ H w v cv):RelV P Γ H (bY w r o) v cv:=by
 induction h with
 |lit v=>exact .lit v
 |vec0 a cap=>exact .vec0 a cap
 |vec hb hlt hlen hcs hcell hrel ih=>exact .vec hb (by rw[jN];exact hlt) hlen hcs (fun i hi=>(AC hr o ho _ _).trans (hcell i hi)) ih
 |own h=>exact .own h
 |ptr h=>exact .ptr h
 |vptr hb hlt hcs hcell hrel ih=>exact .vptr hb (by rw[jN];exact hlt) hcs (fun i hi=>(AC hr o ho _ _).trans (hcell i hi)) ih
 |agg hcs hrel ih=>exact .agg hcs ih
 |tup hcs hrel ih=>exact .tup hcs ih
 |clo hfs hcs hf hc ih1 ih2=>exact .clo hfs hcs ih1 ih2
 |yld h=>exact .yld h
theorem RelH.closed (R:RelH P G Γ H w){r:Nat}{x:Option (List Deferred)}(hr:w.heap[r]?=some (.deferred x))(hown:¬ Γ.iz r){o:Obj}(ho:∀c e f,o≠.cells c e f):RelH P G Γ H (bY w r o) where
 arr id g e cells hg:=by
  have h1:=R.arr id g e cells hg;cases hΓ:Γ id with
  |none=>rw[hΓ]at h1;exact h1
  |some y =>
   obtain⟨b,base,n⟩:=y;rw[hΓ]at h1;obtain⟨c,a1,a2,a3,a4⟩:=h1;refine⟨c,?_,a2,a3,fun i hi=>let ⟨cv,b1,b2⟩:=a4 i hi;⟨cv,b1,b2.closed hr ho⟩⟩;rw[fg,SI]
   ·exact a1
   ·rintro⟨rfl,_⟩;exact hown ⟨id,base,n,hΓ⟩
 loop id st pend n env ps asg body hg:=by
  obtain⟨b,rr,a1,a2,a3,a4,a5,a6,a7,a8,a9⟩:=R.loop id st pend n env ps asg body hg;refine⟨b,rr,a1,?_,a3,a4,a5,a6,a7,a8,fun t ht=>(a9 t ht).closed hr ho⟩;rw[fg,SI]
  ·exact a2
  ·rintro⟨rfl,_⟩;exact hown ⟨id,0,0,a1⟩
 mp id es hg:=by
  obtain⟨b,a1,a2⟩:=R.mp id es hg;refine⟨b,a1,?_⟩;rw[fg,SI]
  ·exact a2
  ·rintro⟨rfl,_⟩;exact hown ⟨id,0,0,a1⟩
 rsv:=R.rsv
 inj:=R.inj
 dom:=R.dom
 lt id b base n h:=by rw[jN];exact R.lt id b base n h
 next:=R.next
 glob g cells h:=(R.glob g cells h).closed hr ho
 gsz g cells h:=by
  obtain⟨c,e,f,h1,h2⟩:=R.gsz g cells h;refine⟨c,e,f,?_,h2⟩;rw[fg,SI]
  ·exact h1
  ·rintro⟨rfl,_⟩;rw[hr]at h1;cases h1
theorem Evo.closed {Γ₀:aK}{H₀:AHeap}{w₀:World}(E:Evo Γ₀ H₀ w₀ Γ H w){r:Nat}{x:Option (List Deferred)}(hx:w.heap[r]?=some (.deferred x))(hr:w₀.heap.size<=r)(o:Obj)(ho:∀c e f,o≠.cells c e f):Evo Γ₀ H₀ w₀ Γ H (bY w r o) where
 os:=E.os
 tape:=E.tape
 output:=E.output
 size:=by rw[jN];exact E.size
 keep b hb ho:=by
  obtain⟨h1,h2⟩:=E.keep b hb ho;refine⟨?_,h2⟩;rw[fg,SI (by omega)];exact h1
 live:=E.live
 frz a ha:=(qT hx (fun _ _ _ h=>by cases h) (fun c e f h=>absurd h (ho c e f)) a).trans (E.frz a ha)
theorem FE {fn:Func}{tmps:Array Value}{R:Ending->World->Prop}{u:FrameMode}{ρ:Env}{Γ₀:aK}{H₀:AHeap}{w₀:World}(hu:u≠.run):∀(ds:List Deferred) (w:World),
  (∀d,d∈ds->∃r,d={ target:=.collected r,args:=#[] }/\w₀.heap.size<=r/\qR Γ w r)->ds.Pairwise (fun d e=>d.target≠e.target) ->
  RelH P G Γ H w->(∀t,RelV P Γ H w (ρ t) (tmps.getD t undef))->Evo Γ₀ H₀ w₀ Γ H w ->
  (∀w',RelH P G Γ H w'->(∀t,RelV P Γ H w' (ρ t) (tmps.getD t undef))->Evo Γ₀ H₀ w₀ Γ H w'->LeavesIn Fence.wide 0 P fn tmps R [] u w') ->
  LeavesInM Fence.wide 0 P fn tmps R ds u w:=by
 intro ds
 induction ds with
 |nil=>intro w _ _ R0 he E h;exact h w R0 he E
 |cons d ds ih =>
  intro w hd hp R0 he E h;obtain⟨r,rfl,hle,hown,hblk⟩:=hd d (by simp);have ho:∀c e f,Obj.deferred none≠.cells c e f:=fun _ _ _ h=>by cases h
  refine⟨hu,.inl ⟨r,bY w r (.deferred none),rfl,?_,?_⟩⟩
  ·unfold Instr.takeDeferred;have hg:(getObj r).run P w=.ok (.deferred (some [])) w:=(by simp[getObj,Sem.run,hblk]);rw[aA hg];simp only;have hset:(setObj r (.deferred none)).run P w=.ok () (bY w r (.deferred none)):=(by simp[setObj,Sem.run,hblk,bY]);rw[aA hset];rfl
  ·refine ih _ (fun e he'=>?_) (Vy.1 hp).2 (R0.closed hblk hown ho) (fun t=>(he t).closed hblk ho) (E.closed hblk hle _ ho) h;obtain⟨r',rfl,hle',hown',hblk'⟩:=hd e (by simp[he']);refine⟨r',rfl,hle',hown',?_⟩;rw[fg,SI]
   ·exact hblk'
   ·rintro⟨rfl,_⟩;exact(Vy.1 hp).1 _ he' rfl
theorem FF {t:TypeId}{a v:AVal}{ca:Value}(R:RelH P G Γ H w)(h:gY P H t a=some v)(ha:RelV P Γ H w a ca):
  ∃ad cv,ca=.pointer (some ad)/\(loadVar t ad).run P w=.ok cv w/\RelV P Γ H w v cv:=by
 have h0:=h;unfold gY at h;split at h
 ·rename_i id gen off;split at h
  ·rename_i g e cells hg;split at h
   ·rename_i hgg;have hl:H.live id gen=some (e,cells):=(by simp[AHeap.live,hg,hgg]);obtain⟨b,base,n,hΓ,rfl⟩:=pM ha hl;obtain⟨cv,h1,h2⟩:=tH h (rf R hl hΓ);exact⟨_,cv,rfl,h1,h2⟩
   ·cases h
  ·cases h
 ·rename_i cells off;cases ha with
  |vptr hb hlt hcs hcell hrel =>
   obtain⟨cv,h1,h2⟩:=tH h ⟨_,hcs,hcell,hrel⟩;exact⟨_,cv,rfl,h1,h2⟩
 ·cases h
def ie (P:Program)(H:AHeap)(ρ:Env):List ResultVar->Option (List AVal)
 | []=>some []
 |.tmp t :: r=>(ie P H ρ r).map (ρ t :: ·)
 |.cell a t :: r=>(gY P H t (ρ a)).bind fun v=>(ie P H ρ r).map (v :: ·)
def m9:List AVal->AVal
 | [v]=>v
 |vs=>.tup vs
def pT (tmps:Array Value):ResultVar->Sem Value
 |.tmp t=>pure (tmps.getD t undef)
 |.cell a t=>do loadVar t (<- asAddr (tmps.getD a undef))
theorem FG {tmps:Array Value}{ρ:Env}(R:RelH P G Γ H w)(he:∀t,RelV P Γ H w (ρ t) (tmps.getD t undef)):∀(rs:List ResultVar) (vs:List AVal),ie P H ρ rs=some vs ->
  ∃cs:List Value,(rs.mapM (pT tmps)).run P w=.ok cs w/\cs.length=vs.length/\∀i (_:i<vs.length) (_:i<cs.length),RelV P Γ H w vs[i] cs[i]:=by
 intro rs
 induction rs with
 |nil =>
  intro vs h;simp only[ie,Option.some.injEq]at h;subst h;exact⟨[],rfl,rfl,fun i h _=>absurd h (S4 _)⟩
 |cons rv rs ih =>
  intro vs h;have cons:∀(v:AVal) (cv:Value) (vs':List AVal),(pT tmps rv).run P w=.ok cv w->RelV P Γ H w v cv->ie P H ρ rs=some vs'->∃cs:List Value,((rv :: rs).mapM (pT tmps)).run P w=.ok cs w /\
    cs.length=(v :: vs').length/\∀i (_:i<(v :: vs').length) (_:i<cs.length),RelV P Γ H w (v :: vs')[i] cs[i]:=by
   intro v cv vs' hm hv hr;obtain⟨cs,h1,h2,h3⟩:=ih vs' hr;refine⟨cv :: cs,?_,by simp[h2],fun i a b=>?_⟩
   ·rw[List.mapM_cons,aA hm,aA h1];rfl
   ·cases i with
    |zero=>exact hv
    |succ i=>exact h3 i (by simpa using a) (by simpa using b)
  cases rv with
  |tmp t =>
   simp only[ie,SG]at h;obtain⟨vs',h1,rfl⟩:=h;exact cons (ρ t) _ vs' rfl (he t) h1
  |cell a t =>
   simp only[ie,SL,SG]at h;obtain⟨v,hv,vs',h1,rfl⟩:=h;obtain⟨ad,cv,ha,hl,hr⟩:=FF R hv (he a);refine cons v cv vs' ?_ hr h1;simp only[pT,ha];have:(asAddr (.pointer (some ad))).run P w=.ok ad w:=rfl;rw[aA this];exact hl
theorem FH (fn:Func)(tmps:Array Value):results fn tmps=(do let vs <- fn.results.mapM (pT tmps);pure (if h:vs.size=1 then vs[0] else .tuple vs)):=by
 unfold results;congr 1
theorem FI {fn:Func}{tmps:Array Value}{ρ:Env}{vs:List AVal}(R:RelH P G Γ H w)(he:∀t,RelV P Γ H w (ρ t) (tmps.getD t undef))(h:ie P H ρ fn.results.toList=some vs):
  ∃cv,(results fn tmps).run P w=.ok cv w/\RelV P Γ H w (m9 vs) cv:=by
 obtain⟨cs,h1,h2,h3⟩:=FG R he _ _ h;have hm:(fn.results.mapM (pT tmps)).run P w=.ok cs.toArray w:=by
  rw[VU,Sem.run_map,h1];rfl
 rw[FH,aA hm]
 match vs,cs,h2,h3 with
 | [v],[c],_,h3=>exact⟨c,rfl,h3 0 (by simp) (by simp)⟩
 | [],[],_,h3=>exact⟨_,rfl,.tup (cs:=[]) rfl h3⟩
 |v :: v' :: vs,c :: c' :: cs,h2,h3 =>
  refine⟨.tuple (c :: c' :: cs).toArray,?_,.tup h2 h3⟩;have hne:¬(c :: c' :: cs).toArray.size=1:=by simp
  rw[dif_neg hne];rfl
def oI (P:Program)(G:Nat->Option (List AVal))(H:AHeap)(v:AVal)(H':AHeap)(v':AVal):Prop :=
 ∀ Γ w,RelH P G Γ H w->∃ Γ',RelH P G Γ' H' w/\Evo Γ H w Γ' H' w/\∀cv,RelV P Γ H w v cv->RelV P Γ' H' w v' cv
def ar (P:Program)(G:Nat->Option (List AVal))(H₀:AHeap)(K:ARes->AHeap->Prop)(v:AVal)(H:AHeap):Prop :=
 ∃v' H',oI P G H v H' v'/\H₀.next<=H'.next/\K (.ret v') H'
theorem oI.refl (H:AHeap)(v:AVal):oI P G H v H v:=fun Γ _ R=>⟨Γ,R,Evo.refl _ _ _,fun _ h=>h⟩
theorem ar.mk {H₀:AHeap}{K:ARes->AHeap->Prop}{v:AVal}{H:AHeap}(hn:H₀.next<=H.next)(hk:K (.ret v) H):ar P G H₀ K v H:=⟨v,H,oI.refl H v,hn,hk⟩
def pU (P:Program)(G:Nat->Option (List AVal))(rs:List ResultVar)(H₀:AHeap)(K:ARes->AHeap->Prop):AX->St->Prop
 |.normal,s|.ret,s=>bz (ie P s.H s.ρ rs) fun vs=>ar P G H₀ K (m9 vs) s.H
 |.panic,s=>∃H',oI P G s.H (.lit undef) H' (.lit undef)/\H₀.next<=H'.next/\K .panic H'
 |_,_=>False
def iC (args:List AVal):Env:=fun t=>(args[t]?).getD (.lit undef)
theorem ag.AD {f : FuncId} {fn : Func} {c : Code} {args : List AVal} {K : ARes → AHeap → Prop} {rs : List ResultVar} {n : Nat} (hf : P.funcs[f]? = some fn) (hb : fn.body = some c) (hres : fn.results.toList = rs) (hnt : fn.ntmps = n) (hname : (fn.name == "runtime.NumGoroutine") = false)
  (hargs:args.length<=n) (hW:W P G n none c (pU P G rs H K) ⟨iC args,H⟩):ag P G f args H K:=by
 subst hres;subst hnt;refine⟨⟨fn,hf,by rw[hb];rfl,hname⟩,fun Γ w cargs R hr=>?_⟩;refine callsIn_of_wp_marks hf hb trivial ?_;have hs:RelS P G fn.ntmps ⟨w.heap.size,[]⟩ Γ ⟨iC args,H⟩ { tmps:=cargs++Array.replicate (fn.ntmps-cargs.size) undef,defers:=[] } w:=by
  refine⟨by have:=hr.1;simp;omega,fun t=>?_,R,⟨[],rfl,Marks.nil⟩,Nat.le_refl _⟩;have hsz:=hr.1;by_cases ht:t<args.length
  ·have h1:(cargs++Array.replicate (fn.ntmps-cargs.size) undef).getD t undef=cargs[t]'(by omega):=by
    simp only[TE];rw[VS (by omega),S7 (by omega)];rfl
   have h2:iC args t=args[t]:=by
    unfold iC;rw[SJ ht];rfl
   rw[h1];show RelV P Γ H w (iC args t) _;rw[h2];exact hr.2 t ht (by omega)
  ·have h1:(cargs++Array.replicate (fn.ntmps-cargs.size) undef).getD t undef=undef:=by
    simp only[TE];rw[Array.getElem?_append_right (by omega),Ve];split<;>rfl
   have h2:iC args t=.lit undef:=by
    unfold iC;rw[SQ (by omega)];rfl
   rw[h1];show RelV P Γ H w (iC args t) _;rw[h2];exact .lit _
 refine wpIn_mono (hW ⟨w.heap.size,[]⟩ Γ _ w none hs rfl) ?_;rintro e a' w' ⟨x,s',Γ',hx,hq,hs',E,hn,_,_⟩;have leave:∀(u:FrameMode) (Q:World->Prop),u≠.run->(∀w'',RelH P G Γ' s'.H w''->(∀t,RelV P Γ' s'.H w'' (s'.ρ t) (a'.tmps.getD t undef))->Evo Γ H w Γ' s'.H w''->LeavesIn Fence.wide 0 P fn a'.tmps (jD P G Γ H w K) [] u w'') ->
   LeavesInM Fence.wide 0 P fn a'.tmps (jD P G Γ H w K) a'.defers u w' :=
  fun u _ hu hfin=>by
   obtain⟨m,hm,hmarks⟩:=hs'.defers;rw[hm,List.append_nil];exact FE hu m w' hmarks.1 hmarks.2 hs'.heap hs'.env E hfin
 have normal:bz (ie P s'.H s'.ρ fn.results.toList) (fun vs=>ar P G H K (m9 vs) s'.H)->LeavesInM Fence.wide 0 P fn a'.tmps (jD P G Γ H w K) a'.defers .returning w':=by
  rintro⟨vs,hvs,v',H',hw,hn',hk⟩;refine leave .returning (fun _=>True) (by simp) fun w'' R'' he'' E''=>?_;obtain⟨cv,h1,h2⟩:=FI R'' he'' hvs;obtain⟨Γ'',R3,E3,hv3⟩:=hw Γ' w'' R'';exact⟨cv,h1,.ret v',H',Γ'',hv3 cv h2,hk,R3,E''.trans hn E3,hn'⟩
 cases e with
 |normal=>cases x with
  |normal=>exact normal hq
  |_=>exact hx.elim
 |ret=>cases x with
  |ret=>exact normal hq
  |_=>exact hx.elim
 |panic chain=>cases x with
  |panic =>
   obtain⟨H',hw,hn',hk⟩:=hq;refine leave (.panicking chain) (fun _=>True) (by simp) fun w'' R'' he'' E''=>?_;obtain⟨Γ'',R3,E3,_⟩:=hw Γ' w'' R'';exact⟨.panic,H',Γ'',hx,hk,R3,E''.trans hn E3,hn'⟩
  |_=>exact hx.elim
 |exit i=>cases x with
  |exit j=>exact hq.elim
  |_=>exact hx.elim
 |goto i=>cases x with
  |goto j=>exact hq.elim
  |_=>exact hx.elim
 |outgrown=>cases x<;>exact hx.elim
theorem ag.FJ {f : FuncId} {fn : Func} {c : Code} {args : List AVal} {K : ARes → AHeap → Prop} {rs : List ResultVar} {n : Nat} (hf : P.funcs[f]? = some fn) (hb : fn.body = some c) (hres : fn.results.toList = rs) (hnt : fn.ntmps = n) (hname : (fn.name == "runtime.NumGoroutine") = false)
  (hfit:fits n c=true) (hargs:args.length<=n) (h:vc P G n none c (pU P G rs H K) ⟨iC args,H⟩):ag P G f args H K :=
 .AD hf hb hres hnt hname hargs (tS c _ _ hfit h)
end Go.Hx
