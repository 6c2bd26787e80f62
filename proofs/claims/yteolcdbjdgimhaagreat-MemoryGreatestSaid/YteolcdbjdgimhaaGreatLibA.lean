/-
  Abstract values, abstract heaps, and how they stand to the model's values and worlds. Own work: no program stands in this text.
-/
import Derived.RangeFuncLeaves
import Derived.KernelRfl
import Derived.Wp
import Derived.Laws.Cells
import Derived.Laws.Entries
import Derived.IntWalk
import Derived.Laws.BytesString
set_option linter.all false
namespace Go
theorem ZE {P:Prop}(h:P:=by omega):P:=h
theorem O {P:Prop}(h:P:=by omega):P:=h
theorem ZF {P:Prop}(h:P:=by simp):P:=h
theorem ZG {P:Prop}(h:P:=by decide):P:=h
theorem ZH {P:Prop}(h:P:=by kernel_rfl):P:=h
theorem ZI {n:Nat}:n<=n:=Nat.le_refl n
def an:=@List.mem_of_getElem?
def Vv:=@Go.IntWalk.i64_in
def Vw:=@Option.map_eq_some_iff
def Vx:=@if_neg
def Vy:=@List.take_of_length_le
def Vz:=@List.getElem?_eq_getElem
def VA:=@if_pos
def VB:=@List.getD_eq_getElem?_getD
def VC:=@Option.bind_eq_some_iff
def VD:=@List.getElem?_eq_none
def VE:=@Int.eq_ofNat_of_zero_le
def VF:=@List.eq_nil_of_length_eq_zero
def VG:=@List.mem_iff_getElem?
def VH:=@List.getElem?_append_left
def VI:=@List.mem_map
def VJ:=@List.length_map
def VK:=@List.length_take
def VL:=@Array.getElem?_eq_getElem
def VM:=@Nat.lt_of_lt_of_le
def VN:=@Nat.not_lt_zero
def VO:=@List.getElem_map
def VP:=@List.mem_range
def VQ:=@List.getElem?_set_self
def VR:=@List.length_replicate
def VS:=@List.getElem?_append_right
def VT:=@List.getElem?_range
def VU:=@List.mem_of_mem_take
def VV:=@Nat.lt_or_ge
def VW:=@List.length_set
def VX:=@List.getElem?_eq_some_iff
def VY:=@Int.mul_le_mul_of_nonneg_left
def VZ:=@List.all_eq_true
def V0:=@Nat.pow_le_pow_right
def V1:=@List.map_congr_left
def V2:=@Classical.byContradiction
def V3:=@List.mem_append
def V4:=@List.getElem?_take_of_lt
def V5:=@List.take_append_drop
def V6:=@List.foldl_cons
def V7:=@List.zip_cons_cons
def V8:=@decide_eq_true
def V9:=@List.ext_getElem?
def Wa:=@List.getElem?_set_ne
def Wb:=@List.zip_nil_right
def Wc:=@List.getElem?_replicate
def We:=@Nat.mul_le_mul_right
def Wf:=@List.idxOf_lt_length_of_mem
def Wg:=@Int.tmod_eq_emod_of_nonneg
def Wh:=@Bool.and_eq_true
def Wi:=@List.length_drop
def Wj:=@Option.isSome_iff_exists
def Wk:=@List.map_append
def Wl:=@List.length_singleton
def Wm:=@Nat.le_trans
def Wn:=@List.mem_or_eq_of_mem_set
def Wo:=@List.getElem_mem
def Wq:=@List.getElem_cons_zero
def Wr:=@Bool.or_eq_true
def Ws:=@List.foldl_nil
def Wt:=@List.drop_eq_getElem_cons
def Wu:=@Array.getD_eq_getD_getElem?
def Wv:=@List.eq_of_mem_replicate
def Ww:=@Int.mul_le_mul
def Wx:=@Nat.add_mul
def Wy:=@List.range_succ
def Wz:=@Array.getElem?_setIfInBounds
def WA:=@List.set_append_right
def WB:=@Int.emod_lt_of_pos
def WC:=@List.replicate_succ
def WD:=@List.foldl_append
def WE:=@Array.getElem_toList
def WG:=@List.length_range
def WH:=@List.getElem_append_left
def WI:=@List.getElem_idxOf
def WJ:=@List.getElem?_drop
def WK:=@Nat.testBit_or
def WL:=@List.getElem_append_right
def WM:=@Nat.eq_zero_or_pos
def WN:=@Bool.eq_false_or_eq_true
def WO:=@Nat.zero_le
def WQ:=@Nat.pow_succ
def WR:=@Nat.mul_le_mul_left
def WS:=@Int.emod_nonneg
def WT:=@Int.mul_nonneg
def WU:=@List.getElem?_set
def WV:=@List.getElem?_inj
def WW:=@Int.tdiv_eq_ediv_of_nonneg
def WX:=@Array.getElem?_eq_some_iff
def WY:=@Nat.pow_lt_pow_right
def WZ:=@List.mem_of_mem_drop
def W0:=@Nat.add_sub_cancel
def W1:=@Array.getElem?_eq_none
def W2:=@decide_eq_false
def W3:=@Nat.lt_succ_self
def W4:=@Int.pow_succ
def W5:=@Int.mul_comm
def W6:=@Nat.add_assoc
def W7:=@Nat.zero_testBit
def W8:=@Go.IntWalk.u64_in
def W9:=@Int.mul_le_mul_of_nonneg_right
def Xa:=@Nat.lt_or_eq_of_le
def Xb:=@Nat.div_eq_of_lt
def Xc:=@List.mem_flatten
def Xd:=@Nat.eq_of_testBit_eq
def Xe:=@Nat.div_lt_of_lt_mul
def Xf:=@Nat.mul_comm
def Xg:=@List.map_map
def Xh:=@Nat.lt_trichotomy
def Xi:=@Nat.le_of_lt_succ
def Xj:=@Nat.testBit_two_pow_sub_one
def Xk:=@Nat.min_eq_left
def Xl:=@Bool.eq_iff_iff
def Xm:=@Array.length_toList
def Xn:=@List.getElem_cons_succ
def Xo:=@Nat.lt_of_not_le
def Xp:=@List.nodup_range
def Xq:=@List.countP_cons
def Xr:=@Nat.mul_assoc
def Xs:=@List.getElem?_eq_none_iff
def Xt:=@List.drop_drop
def Xu:=@List.pairwise_append
def Xv:=@List.mem_cons_of_mem
def Xw:=@List.getElem?_zipIdx
def Xx:=@Nat.or_lt_two_pow
def Xy:=@List.nodup_append
def Xz:=@Int.emod_eq_of_lt
def XA:=@Bool.not_eq_true'
def XB:=@Nat.zero_mul
def XC:=@Nat.sub_self
def XD:=@List.map_set
def XE:=@Nat.add_sub_cancel_left
def XF:=@List.sum_cons
def XG:=@List.take_length
def XH:=@Int.ediv_eq_zero_of_lt
def XI:=@Int.natAbs_natCast
def XJ:=@Nat.one_mul
def XK:=@Nat.le_div_iff_mul_le
def XL:=@List.eq_nil_or_concat
def XM:=@List.concat_eq_append
def XN:=@Int.natCast_mul
def XO:=@Int.emod_add_mul_ediv
def XP:=@Int.add_zero
def XQ:=@List.getElem_take
def XR:=@List.getElem_drop
def XS:=@Array.getElem_map
def XT:=@List.any_eq_true
def XU:=@Nat.mul_add
def XV:=@Nat.le_succ
def XW:=@Nat.le_of_lt
def XX:=@Array.getElem?_replicate
def XY:=@Nat.testBit_and
def XZ:=@List.nodup_cons
def X0:=@List.map_replicate
def X1:=@Int.mul_assoc
def X2:=@Nat.div_div_eq_div_mul
def X3:=@List.pairwise_map
def X4:=@List.any_eq_false
def X5:=@Int.le_trans
def X6:=@Array.eq_empty_of_size_eq_zero
def X7:=@Nat.mod_eq_of_lt
def X8:=@Bool.not_eq_true
def X9:=@List.mem_append_left
def Ya:=@Nat.lt_irrefl
def Yb:=@Nat.mod_lt
def Yc:=@Nat.testBit_two_pow
def Yd:=@Nat.div_mul_le_self
def Ye:=@List.take_set_of_le
def Yf:=@List.map_const'
def Yg:=@Int.toNat_of_nonneg
def Yh:=@Int.one_mul
def Yi:=@Int.mul_one
def Yj:=@Int.mul_add
def Yk:=@Array.getElem?_push
def Yl:=@Nat.ne_of_lt
def Ym:=@List.set_set
def Yn:=@List.getElem?_take
def Yo:=@Nat.shiftRight_eq_div_pow
def Yp:=@List.pairwise_iff_getElem
def Yq:=@List.size_toArray
def Yr:=@decide_eq_false_iff_not
def Ys:=@Nat.mul_pos
def Yt:=@Int.pow_pos
def Yu:=@Nat.le_of_not_lt
def Yv:=@List.getElem_set
def Yw:=@Nat.testBit_lt_two_pow
def Yx:=@List.drop_of_length_le
def Yy:=@List.drop_eq_nil_of_le
def Yz:=@List.mem_append_right
def YA:=@List.getElem?_zipWith
def YB:=@Int.zero_add
def YC:=@Int.pow_zero
def YD:=@Classical.not_forall
def YE:=@Array.toArray_toList
def YF:=@Nat.mul_le_mul
def YG:=@List.replicate_zero
def YH:=@Nat.lt_of_le_of_lt
def YI:=@List.set_eq_take_append_cons_drop
def YJ:=@List.pairwise_cons
def YK:=@List.mem_cons_self
def YL:=@List.map_singleton
def YM:=@List.find?_eq_none
def YN:=@List.take_add_one
def YO:=@Classical.not_imp
def YP:=@Array.size_append
def YQ:=@Nat.succ_mul
def YR:=@Nat.pow_zero
def YS:=@Int.zero_mul
def YT:=@List.take_append_of_le_length
def YU:=@Array.toList_map
def YV:=@Int.gcd_pos_of_ne_zero_right
def YW:=@Nat.two_pow_pos
def YX:=@Nat.div_le_self
def YY:=@Nat.div_add_mod
def YZ:=@List.sum_append
def Y0:=@List.getElem?_concat_length
def Y1:=@Int.natAbs_tmod
def Y2:=@Int.natAbs_tdiv
def Y3:=@Int.ediv_nonneg
def Y4:=@Int.add_mul
def Y5:=@Int.fdiv_eq_ediv_of_nonneg
def Y6:=@Int.add_mul_emod_self_left
def Y7:=@Array.getElem?_append_left
def Y8:=@List.mem_of_find?_eq_some
def Y9:=@Int.natAbs_neg
def Za:=@Int.le_of_mul_le_mul_left
def Zb:=@Array.mapM_eq_mapM_toList
def Zc:=@Int.mul_tdiv_cancel_left
def Zd:=@Nat.le_mul_of_pos_right
def Ze:=@Go.IntWalk.u8_in
def Zg:=@List.pairwise_lt_range
def Zh:=@Int.add_mul_ediv_right
def Zi:=@Nat.gcd_comm
def Zj:=@List.length_filter_le
def Zk:=@List.contains_iff_mem
def Zl:=@Int.sub_zero
def Zm:=@Int.mul_zero
def Zn:=@Int.add_mul_ediv_left
def Zo:=@Int.add_comm
def Zp:=@List.replicate_succ'
def Zq:=@List.mem_of_getLast?
def Zr:=@List.mem_iff_getElem
def Zs:=@List.drop_eq_nil_iff
def Zt:=@Int.mul_ediv_self_le
def Zu:=@Int.emod_emod_of_dvd
def Zv:=@Nat.pow_pos
def Zw:=@Nat.pow_add
def Zx:=@Nat.lt_mul_div_succ
def Zy:=@Nat.div_one
def Zz:=@List.length_pos_iff
def ZA:=@List.getD_cons_zero
def ZB:=@List.getD_cons_succ
def ZC:=@List.filterMap_cons
def ZD:=@List.drop_set_of_lt
end Go
namespace Go.Hx
variable {id off:Nat}{P:Program}{cv:Value}{w w':World}
inductive ZK where
 |lit (v:Value)
 |Q (len:Nat) (cells:List ZK)
 |U (id gen off len sz:Nat)
 |M (id gen off:Nat)
 |ni (cells:List ZK) (off:Nat)
 |agg (cells:List ZK)
 |nf (vs:List ZK)
 |Z (f:FuncId) (first cap:List ZK)
 |np (id:Nat)
instance:Inhabited ZK:=⟨.lit undef⟩
abbrev Env:=Nat->ZK
inductive ZQ where
 |J (gen:Nat) (elem:TypeId) (cells:List ZK)
 |loop (st:LoopState) (pend:Option Code) (n:Nat) (env:Env) (ps:Array Tmp) (asg body:Code)
 |mp (es:List (Int × Int))
 |nt
structure ZJ where
 get:Nat->Option ZQ
 A:Nat
abbrev aH:=Nat->Option (Nat × Nat × Nat)
def aH.iL (Γ:aH)(b:Nat):Prop:=∃id base n,Γ id=some (b,base,n)
def vu (Γ:aH)(H:ZJ)(id gen off len sz:Nat)(cv:Value):Prop :=
 id<H.A/\cv.oneCell=true/\H.get id≠some .nt/\∀g e cells,H.get id=some (.J g e cells)->gen<=g/\(gen=g ->
  match Γ id with
  |some (b,base,n)=>∃a cap,cv=.slice (some a) len cap/\len<=cap/\off+len*sz<=cells.length /\
    ((a=⟨b,base+off,none⟩/\base+off+cap*sz<=n)\/(len=0/\cap=0))
  |none=>off=0/\len=0/\cv=.slice none 0 0)
def vv (Γ:aH)(H:ZJ)(id gen off:Nat)(cv:Value):Prop :=
 id<H.A/\cv.oneCell=true/\H.get id≠some .nt/\∀g e cells,H.get id=some (.J g e cells)->gen<=g/\(gen=g ->
  ∃b base n,Γ id=some (b,base,n)/\cv=.pointer (some ⟨b,base+off,none⟩))
def eB:Nat->List (Int × Int)->List MapEntry
 |_,[]=>[]
 |i,(k,v) :: l=>⟨.int .i64 k,.int .i64 v,i⟩ :: eB (i+1) l
def iM (es:List (Int × Int)):Obj:=.map (eB 0 es).toArray es.length
def vw (Γ:aH)(H:ZJ)(id:Nat)(cv:Value):Prop :=
 id<H.A/\cv.oneCell=true/\H.get id≠some .nt/\(∀st pend n env ps asg body,H.get id=some (.loop st pend n env ps asg body) ->
  ∃b,Γ id=some (b,0,0)/\cv=.func (.yield b) #[] #[])/\∀es,H.get id=some (.mp es)->∃b,Γ id=some (b,0,0)/\cv=.map (some b)
inductive ZO (P:Program)(Γ:aH)(H:ZJ)(w:World):ZK->Value->Prop
 |lit (v:Value):ZO P Γ H w (.lit v) v
 |nu (a:Option Addr) (cap:Nat):ZO P Γ H w (.Q 0 []) (.slice a 0 cap)
 |Q {len:Nat} {cells:List ZK} {b off cap:Nat} {cs:List Value} (hb:¬ Γ.iL b) (hlt:b<w.heap.size) (hlen:len<=cap)
   (hcs:cs.length=cells.length)
   (hcell:∀i (h:i<cs.length),w.cell? ⟨b,off+i,none⟩=some cs[i])
   (hrel:∀i (h:i<cells.length) (h':i<cs.length),ZO P Γ H w cells[i] cs[i]):
   ZO P Γ H w (.Q len cells) (.slice (some ⟨b,off,none⟩) len cap)
 |U {id gen off len sz:Nat} {cv:Value} (h:vu Γ H id gen off len sz cv):ZO P Γ H w (.U id gen off len sz) cv
 |M {id gen off:Nat} {cv:Value} (h:vv Γ H id gen off cv):ZO P Γ H w (.M id gen off) cv
 |ni {cells:List ZK} {off b o:Nat} {cs:List Value} (hb:¬ Γ.iL b) (hlt:b<w.heap.size)
   (hcs:cs.length=cells.length)
   (hcell:∀i (h:i<cs.length),w.cell? ⟨b,o+i,none⟩=some cs[i])
   (hrel:∀i (h:i<cells.length) (h':i<cs.length),ZO P Γ H w cells[i] cs[i]):
   ZO P Γ H w (.ni cells off) (.pointer (some ⟨b,o+off,none⟩))
 |agg {cells:List ZK} {cs:List Value} (hcs:cs.length=cells.length)
   (hrel:∀i (h:i<cells.length) (h':i<cs.length),ZO P Γ H w cells[i] cs[i]):ZO P Γ H w (.agg cells) (.agg cs.toArray)
 |nf {cells:List ZK} {cs:List Value} (hcs:cs.length=cells.length)
   (hrel:∀i (h:i<cells.length) (h':i<cs.length),ZO P Γ H w cells[i] cs[i]):ZO P Γ H w (.nf cells) (.tuple cs.toArray)
 |Z {f:FuncId} {first cap:List ZK} {fs cs:List Value} (hfs:fs.length=first.length) (hcs:cs.length=cap.length)
   (hf:∀i (h:i<first.length) (h':i<fs.length),ZO P Γ H w first[i] fs[i])
   (hc:∀i (h:i<cap.length) (h':i<cs.length),ZO P Γ H w cap[i] cs[i]):
   ZO P Γ H w (.Z f first cap) (.func (.func f) fs.toArray cs.toArray)
 |np {id:Nat} {cv:Value} (h:vw Γ H id cv):ZO P Γ H w (.np id) cv
def ZQ.le (Γ Γ':aH)(id:Nat):ZQ->ZQ->Prop
 |.J g e cells,.J g' e' cells'=>g<=g'/\(g=g'->Γ' id=Γ id/\e'=e/\cells'.length=cells.length)
 |.loop _ _ n env ps asg body,.loop _ _ n' env' ps' asg' body'=>Γ' id=Γ id/\n'=n/\env'=env/\ps'=ps/\asg'=asg/\body'=body
 |.mp _,.mp _=>Γ' id=Γ id
 |.nt,_=>True
 |_,_=>False
structure ZX (Γ:aH)(H:ZJ)(w:World)(Γ':aH)(H':ZJ)(w':World):Prop where
 os:w'.os=w.os
 tape:w'.tape=w.tape
 output:w'.output=w.output
 size:w.heap.size<=w'.heap.size
 nc:∀b,b<w.heap.size->¬ Γ.iL b->w'.heap[b]?=w.heap[b]?/\¬ Γ'.iL b
 V:∀id,id<H.A->id<H'.A->∀x',H'.get id=some x'->∃x,H.get id=some x/\ZQ.le Γ Γ' id x x'
 nz:∀a,a.block<w.heap.size->w'.frozen? a=w.frozen? a
def ZQ.le_refl (Γ:aH)(id:Nat)(x:ZQ):ZQ.le Γ Γ id x x:=by
 cases x<;>simp[ZQ.le]
def ZX.refl (Γ:aH)(H:ZJ)(w:World):ZX Γ H w Γ H w :=
 ⟨rfl,rfl,rfl,ZI,fun _ _ h=>⟨rfl,h⟩,fun _ _ _ x' h=>⟨x',h,ZQ.le_refl _ _ _⟩,fun _ _=>rfl⟩
variable {Γ Γ':aH}
def ZQ.ya {x:ZQ}(h:ZQ.le Γ Γ' id x .nt):x=.nt:=by
 cases x<;>simp_all[ZQ.le]
def ZQ.le_trans {Γ₁ Γ₂ Γ₃:aH}{id:Nat}{x y z:ZQ}(h:ZQ.le Γ₁ Γ₂ id x y)(k:ZQ.le Γ₂ Γ₃ id y z):ZQ.le Γ₁ Γ₃ id x z:=by
 cases x<;>cases y<;>cases z<;>simp only[ZQ.le]at *
 ·rename_i g e c g' e' c' g'' e'' c'';refine⟨O,fun hg=>?_⟩;obtain⟨h1,h2⟩:=h;obtain⟨k1,k2⟩:=k;obtain⟨a1,a2,a3⟩:=h2 O;obtain⟨b1,b2,b3⟩:=k2 O;exact⟨b1.trans a1,b2.trans a2,b3.trans a3⟩
 ·obtain⟨a1,a2,a3,a4,a5,a6⟩:=h;obtain⟨b1,b2,b3,b4,b5,b6⟩:=k;exact⟨b1.trans a1,b2.trans a2,b3.trans a3,b4.trans a4,b5.trans a5,b6.trans a6⟩
 ·exact k.trans h
theorem ZX.trans {Γ₁ Γ₂ Γ₃:aH}{H₁ H₂ H₃:ZJ}{w₁ w₂ w₃:World}(h:ZX Γ₁ H₁ w₁ Γ₂ H₂ w₂)(hn:H₁.A<=H₂.A)
  (k:ZX Γ₂ H₂ w₂ Γ₃ H₃ w₃):ZX Γ₁ H₁ w₁ Γ₃ H₃ w₃ where
 os:=k.os.trans h.os
 tape:=k.tape.trans h.tape
 output:=k.output.trans h.output
 size:=Wm h.size k.size
 nc b hb ho:=by
  obtain⟨a1,a2⟩:=h.nc b hb ho;obtain⟨b1,b2⟩:=k.nc b (VM hb h.size) a2;exact⟨b1.trans a1,b2⟩
 V id h1 h3 z hz:=by
  obtain⟨y,hy,hyz⟩:=k.V id (VM h1 hn) h3 z hz;obtain⟨x,hx,hxy⟩:=h.V id h1 (VM h1 hn) y hy;exact⟨x,hx,ZQ.le_trans hxy hyz⟩
 nz a ha:=(k.nz a (VM ha h.size)).trans (h.nz a ha)
variable {H H':ZJ}
theorem ZX.cell (h:ZX Γ H w Γ' H' w'){b o:Nat}(hb:b<w.heap.size)(ho:¬ Γ.iL b):
  w'.cell? ⟨b,o,none⟩=w.cell? ⟨b,o,none⟩:=by
 have:=(h.nc b hb ho).1;simp only[World.cell?,this]
def vu.bK {gen len sz:Nat}(h:vu Γ H id gen off len sz cv)
  (k:ZX Γ H w Γ' H' w') (hn:H.A<=H'.A):vu Γ' H' id gen off len sz cv:=by
 obtain⟨h1,h2,h0,h3⟩:=h;refine⟨O,h2,fun hr=>(by
  obtain⟨x,hx,hle⟩:=k.V id h1 O _ hr;exact h0 (ZQ.ya hle ▸ hx)),fun g' e' cells' hg'=>?_⟩
 obtain⟨x,hx,hle⟩:=k.V id h1 O _ hg';cases x with
 |loop=>exact hle.elim
 |mp=>exact hle.elim
 |nt=>exact absurd hx h0
 |J g e cells =>
  obtain⟨a1,a2⟩:=hle;obtain⟨b1,b2⟩:=h3 g e cells hx;refine⟨O,fun hgg=>?_⟩;obtain⟨c1,c2,c3⟩:=a2 O;have:=b2 O;rw[c1,c3];exact this
def vv.bK {gen:Nat}(h:vv Γ H id gen off cv)
  (k:ZX Γ H w Γ' H' w') (hn:H.A<=H'.A):vv Γ' H' id gen off cv:=by
 obtain⟨h1,h2,h0,h3⟩:=h;refine⟨O,h2,fun hr=>(by
  obtain⟨x,hx,hle⟩:=k.V id h1 O _ hr;exact h0 (ZQ.ya hle ▸ hx)),fun g' e' cells' hg'=>?_⟩
 obtain⟨x,hx,hle⟩:=k.V id h1 O _ hg';cases x with
 |loop=>exact hle.elim
 |mp=>exact hle.elim
 |nt=>exact absurd hx h0
 |J g e cells =>
  obtain⟨a1,a2⟩:=hle;obtain⟨b1,b2⟩:=h3 g e cells hx;refine⟨O,fun hgg=>?_⟩;obtain⟨c1,c2,c3⟩:=a2 O;have:=b2 O;rw[c1];exact this
def vw.bK (h:vw Γ H id cv)
  (k:ZX Γ H w Γ' H' w') (hn:H.A<=H'.A):vw Γ' H' id cv:=by
 obtain⟨h1,h2,h0,h3,h4⟩:=h;refine⟨O,h2,fun hr=>(by
  obtain⟨x,hx,hle⟩:=k.V id h1 O _ hr;exact h0 (ZQ.ya hle ▸ hx)),fun st pend n env ps asg body hg'=>?_,fun es hg'=>?_⟩
 ·obtain⟨x,hx,hle⟩:=k.V id h1 O _ hg';cases x with
  |J g e cells=>exact hle.elim
  |mp=>exact hle.elim
  |nt=>exact absurd hx h0
  |loop st0 pend0 n0 env0 ps0 asg0 body0 =>
   obtain⟨a1,_⟩:=hle;obtain⟨b,hb,hc⟩:=h3 _ _ _ _ _ _ _ hx;exact⟨b,a1.trans hb,hc⟩
 ·obtain⟨x,hx,hle⟩:=k.V id h1 O _ hg';cases x with
  |J g e cells=>exact hle.elim
  |loop=>exact hle.elim
  |nt=>exact absurd hx h0
  |mp es0 =>
   obtain⟨b,hb,hc⟩:=h4 _ hx;exact⟨b,Eq.trans hle hb,hc⟩
theorem ZO.bK {v:ZK}(h:ZO P Γ H w v cv)
  (k:ZX Γ H w Γ' H' w') (hn:H.A<=H'.A):ZO P Γ' H' w' v cv:=by
 induction h with
 |lit v=>exact .lit v
 |nu a cap=>exact .nu a cap
 |Q hb hlt hlen hcs hcell hrel ih =>
  exact .Q (k.nc _ hlt hb).2 (VM hlt k.size) hlen hcs (fun i hi=>(k.cell hlt hb).trans (hcell i hi)) ih
 |U h=>exact .U (h.bK k hn)
 |M h=>exact .M (h.bK k hn)
 |ni hb hlt hcs hcell hrel ih =>
  exact .ni (k.nc _ hlt hb).2 (VM hlt k.size) hcs (fun i hi=>(k.cell hlt hb).trans (hcell i hi)) ih
 |agg hcs hrel ih=>exact .agg hcs ih
 |nf hcs hrel ih=>exact .nf hcs ih
 |Z hfs hcs hf hc ih1 ih2=>exact .Z hfs hcs ih1 ih2
 |np h=>exact .np (h.bK k hn)
def tv (Γ:aH)(w:World)(r:Nat):Prop:=¬ Γ.iL r/\w.heap[r]?=some (.deferred (some []))
def tv.bK {r:Nat}(h:tv Γ w r)(k:ZX Γ H w Γ' H' w'):tv Γ' w' r:=by
 obtain⟨h1,h2⟩:=h;have hlt:r<w.heap.size:=by
  rcases VV r w.heap.size with h|h
  ·exact h
  ·rw[W1 h]at h2;cases h2
 obtain⟨a,b⟩:=k.nc r hlt h1;exact⟨b,a.trans h2⟩
structure ZT (P:Program)(G:Nat->Option (List ZK))(Γ:aH)(H:ZJ)(w:World):Prop where
 J:∀id g e cells,H.get id=some (.J g e cells) ->
  match Γ id with
  |some (b,base,n)=>∃c,w.heap[b]?=some (.cells c e (0,0))/\c.size=n/\base+cells.length<=n /\
    ∀i (h:i<cells.length),∃cv,c[base+i]?=some cv/\ZO P Γ H w cells[i] cv
  |none=>cells=[]
 loop:∀id st pend n env ps asg body,H.get id=some (.loop st pend n env ps asg body) ->
  ∃b r,Γ id=some (b,0,0)/\w.heap[b]?=some (.loop r)/\r.state=st/\r.pending=pend/\r.params=ps/\r.assign=asg/\r.body=body /\
   r.tmps.size=n/\(∀t (h:t<r.tmps.size),ZO P Γ H w (env t) r.tmps[t])
 mp:∀id es,H.get id=some (.mp es)->∃b,Γ id=some (b,0,0)/\w.heap[b]?=some (iM es)
 nt:∀id,H.get id=some .nt->Γ id=none
 inj:∀id id' b base n base' n',Γ id=some (b,base,n)->Γ id'=some (b,base',n')->id=id'
 nI:∀id x,Γ id=some x->∃y,H.get id=some y
 lt:∀id b base n,Γ id=some (b,base,n)->b<w.heap.size
 A:∀id y,H.get id=some y->id<H.A
 nH:∀g cells,G g=some cells->ZO P Γ H w (.ni cells 0) (.pointer (some ⟨g,0,none⟩))
 gsz:∀g cells,G g=some cells->∃c e f,w.heap[g]?=some (.cells c e f)/\c.size=cells.length
def GB {cells:List ZK}(h:ZO P Γ H w (.ni cells off) cv):∀ {g x:Nat},cv=.pointer (some ⟨g,x,none⟩)->¬ Γ.iL g/\g<w.heap.size:=by
 intro g x e;cases h with
 |ni hb hlt hcs hcell hrel=>cases e;exact⟨hb,hlt⟩
def ZT.rj {G:Nat->Option (List ZK)}(R:ZT P G Γ H w)(E:ZX Γ H w Γ' H' w')(g:Nat)(cells:List ZK)(h:G g=some cells):∃c e f,w'.heap[g]?=some (.cells c e f)/\c.size=cells.length:=by
 obtain⟨hb,hlt⟩:=GB (R.nH g cells h) rfl;rw[(E.nc g hlt hb).1];exact R.gsz g cells h
end Go.Hx
namespace Go.Hx
variable {α:Type}
def ZK.cells:ZK->List ZK
 |.lit v=>v.cells.toList.map .lit
 |.agg cs=>cs
 |.Q l c=>[.Q l c]
 |.U a b c d e=>[.U a b c d e]
 |.M a b c=>[.M a b c]
 |.ni a b=>[.ni a b]
 |.nf vs=>[.nf vs]
 |.Z f a b=>[.Z f a b]
 |.np i=>[.np i]
def ZK.one:ZK->Bool
 |.lit v=>v.oneCell
 |.agg _|.nf _=>false
 |_=>true
def rm:List ZK->Option (List Value)
 | []=>some []
 |.lit v :: r=>(rm r).map (v :: ·)
 |_ :: _=>none
def ZK.dG:ZK->Option Value
 |.lit v=>some v
 |.agg cs=>(rm cs).map fun l=>.agg l.toArray
 |_=>none
def bQ (P:Program):Sem α->Option α
 |.pure a=>some a
 |.program k=>bQ P (k P)
 |.mark _ k=>bQ P k
 |_=>none
def qi {P:Program}{s:Sem α}{a:α}(h:bQ P s=some a)(w:World):s.run P w=.ok a w:=by
 induction s<;>simp_all[bQ,Sem.run]
section
variable {P:Program} {w w':World}
def az {α β:Type}{s:Sem α}{f:α->Sem β}{a:α}(h:s.run P w=.ok a w'):(s >>= f).run P w=(f a).run P w':=by
 rw[Sem.run_bind,h];rfl
def dp {t:TypeId}{d:TypeDesc}(h:P.underlying t=some d):(underlying t).run P w=.ok d w:=run_underlying h w
def Bd {t:TypeId}{d:TypeDesc}(h:P.underlying t=some d):∃i,P.info? t=some i:=by
 unfold Program.underlying at h;cases hi:P.info? t with
 |none=>simp[hi]at h
 |some i=>exact⟨i,rfl⟩
def run_typeInfo {t:TypeId}{i:TypeInfo}(h:P.info? t=some i):(typeInfo t).run P w=.ok i w:=by
 unfold typeInfo;rw[az (run_program P w)];simp[h]
def run_sizeOf {t:TypeId}{i:TypeInfo}(h:P.info? t=some i):(sizeOf t).run P w=.ok (P.cellsOf t) w:=by
 unfold sizeOf;rw[az (run_typeInfo h)];simp[Program.cellsOf,h]
def jO {t:TypeId}{d:TypeDesc}(h:P.underlying t=some d):(sizeOf t).run P w=.ok (P.cellsOf t) w:=by
 obtain⟨i,hi⟩:=Bd h;exact run_sizeOf hi
def rp (d:TypeDesc):Bool:=match d with|.struct _|.array _ _=>true|_=>false
def yb {t:TypeId}{d:TypeDesc}(h:P.underlying t=some d):(isAgg t).run P w=.ok (rp d) w:=by
 unfold isAgg;rw[az (dp h)];cases d<;>rfl
def GC {a:Addr}{v:Value}(h:w.cell? a=some v):(load a).run P w=.ok v w:=by
 simp[run_load,h]
def lQ (b o i:Nat):(Addr.add ⟨b,o,none⟩ i)=⟨b,o+i,none⟩:=by
 unfold Addr.add;by_cases h:i=0
 ·simp[h]
 ·simp[h]
def ru {b o:Nat}{cs:List Value}(h:∀i (hi:i<cs.length),w.cell? ⟨b,o+i,none⟩=some cs[i]):
  (loadCells ⟨b,o,none⟩ cs.length).run P w=.ok cs.toArray w:=by
 refine run_loadCells_list w ⟨b,o,none⟩ cs fun j v hj=>?_;rw[lQ];obtain⟨hlt,hv⟩:=VX.1 hj;rw[<- hv];exact h j hlt
def GE {t:TypeId}{d:TypeDesc}{b o:Nat}{cs:List Value}(hd:P.underlying t=some d)(ha:rp d=true)(hl:cs.length=P.cellsOf t)
  (h:∀i (hi:i<cs.length),w.cell? ⟨b,o+i,none⟩=some cs[i]):(loadVar t ⟨b,o,none⟩).run P w=.ok (.agg cs.toArray) w:=by
 unfold loadVar;rw[az (yb hd),ha];simp only[if_true];rw[az (jO hd),<- hl,az (ru h)];rfl
def GF {t:TypeId}{d:TypeDesc}{a:Addr}{v:Value}(hd:P.underlying t=some d)(ha:rp d=false)
  (h:w.cell? a=some v):(loadVar t a).run P w=.ok v w:=by
 unfold loadVar;rw[az (yb hd),ha];simp only[Bool.false_eq_true,if_false];exact GC h
def setRow (c:Array Value)(o:Nat):List Value->Array Value
 | []=>c
 |v :: vs=>setRow (c.setIfInBounds o v) (o+1) vs
def size_setRow (c:Array Value)(o:Nat)(vs:List Value):(setRow c o vs).size=c.size:=by
 induction vs generalizing c o with
 |nil=>rfl
 |cons v vs ih=>simp[setRow,ih]
def Be (c:Array Value)(o:Nat)(vs:List Value)(h:o+vs.length<=c.size)(i:Nat):
  (setRow c o vs)[i]?=if o<=i/\i<o+vs.length then vs[i-o]? else c[i]?:=by
 induction vs generalizing c o with
 |nil=>simp only[setRow,List.length_nil];rw[Vx O]
 |cons v vs ih =>
  simp only[List.length_cons]at h;rw[setRow,ih _ _ (by simp;omega)];simp only[List.length_cons];by_cases h1:o+1<=i/\i<o+1+vs.length
  ·rw[VA h1,VA O];have:i-o=(i-(o+1))+1:=O;rw[this,List.getElem?_cons_succ]
  ·rw[Vx h1];by_cases h2:i=o
   ·subst h2;rw[VA O];simp[Wz];omega
   ·rw[Vx O];rw[Wz,Vx O]
def cB (w:World)(b:Nat)(o:Obj):World:={ w with heap:=w.heap.setIfInBounds b o }
def tw {w:World}{b:Nat}{o o':Obj}(h:w.heap[b]?=some o)(h1:∀c e f,o=.cells c e f->f=(0,0))(h2:∀c e f,o'=.cells c e f->f=(0,0))(a:Addr):(cB w b o').frozen? a=w.frozen? a:=by
 have hlt:b<w.heap.size:=by
  rcases VV b w.heap.size with h'|h'
  ·exact h'
  ·rw[W1 h']at h;cases h
 unfold World.frozen? cB;simp only[Wz];by_cases hb:b=a.block
 ·subst hb;rw[VA rfl,VA hlt,h];cases o with
  |cells c e f =>
   obtain rfl:=h1 c e f rfl;cases o' with
   |cells c' e' f' =>
    obtain rfl:=h2 c' e' f' rfl;simp
   |_=>simp
  |_ =>
   cases o' with
   |cells c' e' f' =>
    obtain rfl:=h2 c' e' f' rfl;simp
   |_=>rfl
 ·rw[Vx hb]
def ry {w w':World}{o:Obj}(hw:w'.heap=w.heap.push o)(ho:∀c e f,o=.cells c e f->f=(0,0))(a:Addr):w'.frozen? a=w.frozen? a:=by
 unfold World.frozen?;rw[hw,Yk];by_cases h:a.block=w.heap.size
 ·rw[VA h,h,W1 ZI];cases o with
  |cells c e f =>
   obtain rfl:=ho c e f rfl;simp
  |_=>rfl
 ·rw[Vx h]
def GG {b o:Nat}{c:Array Value}{e:TypeId}{v:Value}(h:w.heap[b]?=some (.cells c e (0,0))):
  w.setCell ⟨b,o,none⟩ v=cB w b (.cells (c.setIfInBounds o v) e (0,0)):=by
 unfold World.setCell cB;congr 1;apply Array.ext_getElem?;intro i;rw[Array.getElem?_modify,Wz];by_cases hi:b=i
 ·subst hi;have hlt:b<w.heap.size:=by
   rcases VV b w.heap.size with h'|h'
   ·exact h'
   ·rw[W1 h']at h;cases h
  have hb:w.heap[b]=.cells c e (0,0):=by simpa[VL hlt] using h
  simp[hlt,hb]
 ·simp[hi]
def Bf {b:Nat}{o:Obj}(h:w.heap[b]?=some o):b<w.heap.size:=by
 rcases VV b w.heap.size with h'|h'
 ·exact h'
 ·rw[W1 h']at h;cases h
def fP (b:Nat)(o:Obj)(i:Nat):(cB w b o).heap[i]?=if i=b/\b<w.heap.size then some o else w.heap[i]?:=by
 unfold cB;simp only[Wz];by_cases h:b=i
 ·subst h;by_cases h':b<w.heap.size
  ·simp[h']
  ·simp[h']
 ·rw[Vx h,Vx O]
def kM (b:Nat)(o:Obj):(cB w b o).heap.size=w.heap.size:=by simp[cB]
def GH (b:Nat)(o o':Obj):cB (cB w b o) b o'=cB w b o':=by
 unfold cB;simp
def Bg {b i:Nat}{c:Array Value}{e:TypeId}{f:Nat × Nat}(h:w.heap[b]?=some (.cells c e f)):w.cell? ⟨b,i,none⟩=c[i]?:=by
 simp[World.cell?,h]
def tx {b:Nat}{e:TypeId}:∀(vs:List Value) (c:Array Value) (o i:Nat) (w:World),w.heap[b]?=some (.cells c e (0,0)) ->
  o+i+vs.length<=c.size->(∀v,v∈vs->v.oneCell=true) ->
  (storeCells ⟨b,o,none⟩ vs i).run P w=.ok () (cB w b (.cells (setRow c (o+i) vs) e (0,0))):=by
 intro vs
 induction vs with
 |nil =>
  intro c o i w h _ _;have:cB w b (.cells (setRow c (o+i) []) e (0,0))=w:=by
   unfold cB setRow;have hlt:=Bf h;have:w.heap.setIfInBounds b (.cells c e (0,0))=w.heap:=by
    apply Array.ext_getElem?;intro j;rw[Wz];by_cases hj:b=j
    ·subst hj;have hb:w.heap[b]=.cells c e (0,0):=(by simpa[VL hlt] using h);simp[hlt,hb]
    ·simp[hj]
   rw[this]
  rw[this];rfl
 |cons v vs ih =>
  intro c o i w h hle hone;simp only[List.length_cons]at hle;have hv:v.oneCell=true:=hone v ZF;have hlt:=Bf h;have hst:(store (Addr.add ⟨b,o,none⟩ i) v).run P w=.ok () (cB w b (.cells (c.setIfInBounds (o+i) v) e (0,0))):=by
   rw[lQ];have hc:w.cell? ⟨b,o+i,none⟩=some (c[o+i]' O):=(by rw[Bg h];simp);have hf:w.frozen? ⟨b,o+i,none⟩=false:=(by simp[World.frozen?,h]);rw[<- GG h];cases v<;>simp_all[store,Sem.run,Value.oneCell]
  rw[storeCells,az hst];rw[ih (c.setIfInBounds (o+i) v) o (i+1) _ (by rw[fP,VA ⟨rfl,hlt⟩]) (by simp;omega) (fun x hx=>hone x (by simp[hx]))];rw[GH];rfl
end
def setAt (cells:List ZK)(off:Nat)(vs:List ZK):List ZK:=cells.take off++vs++cells.drop (off+vs.length)
def rz {cells:List ZK}{off:Nat}{vs:List ZK}(h:off+vs.length<=cells.length):(setAt cells off vs).length=cells.length:=by
 simp[setAt];omega
def GI {cells:List ZK}{off:Nat}{vs:List ZK}(h:off+vs.length<=cells.length)(i:Nat):
  (setAt cells off vs)[i]?=if off<=i/\i<off+vs.length then vs[i-off]? else cells[i]?:=by
 unfold setAt;by_cases h1:i<off
 ·rw[Vx O,List.append_assoc,VH (by simp;omega),Yn,VA h1]
 ·by_cases h2:i<off+vs.length
  ·rw[VA O,VH (by simp;omega),VS (by simp;omega)];congr 1;simp;omega
  ·rw[Vx O,VS (by simp;omega),WJ];congr 1;simp;omega
def jv (P:Program)(t:TypeId)(cells:List ZK)(off:Nat):Option ZK :=
 match P.underlying t with
 |none=>none
 |some d =>
  if rp d then (if off+P.cellsOf t<=cells.length then some (.agg ((cells.drop off).take (P.cellsOf t))) else none)
  else cells[off]?
def ZJ.upd (H:ZJ)(id:Nat)(b:ZQ):ZJ:={ get:=fun j=>if j=id then some b else H.get j,A:=H.A }
def ZJ.lay (H:ZJ)(id:Nat)(b:ZQ):Option ZJ :=
 if id=H.A then some { get:=fun j=>if j=id then some b else H.get j,A:=H.A+1 }
 else match H.get id with
  |some .nt=>some (H.upd id b)
  |_=>none
def iN (P:Program)(H:ZJ)(t:TypeId):ZK->Option ZK
 |.M id gen off =>
  match H.get id with
  |some (.J g _ cells)=>if g=gen then jv P t cells off else none
  |_=>none
 |.ni cells off=>jv P t cells off
 |_=>none
def kO (P:Program)(H:ZJ)(t:TypeId)(a v:ZK):Option ZJ :=
 match a with
 |.M id gen off =>
  match H.get id with
  |some (.J g e cells) =>
   if g=gen/\v.cells.length=P.cellsOf t/\v.cells.all ZK.one=true/\off+v.cells.length<=cells.length then some (H.upd id (.J g e (setAt cells off v.cells))) else none
  |_=>none
 |_=>none
def gM (place:Nat->Option (Nat × Nat))(cells:List ZK):List (Nat × ZK)->Option (List ZK)
 | []=>some cells
 |(i,v) :: rest =>
  match place i with
  |none=>none
  |some (off,size)=>if v.cells.length=size/\off+v.cells.length<=cells.length then gM place (setAt cells off v.cells) rest else none
end Go.Hx
namespace Go.Hx
variable {P:Program} {G:Nat->Option (List ZK)} {Γ Γ':aH} {H H':ZJ} {w w':World}
variable {c':Array Value}{cells':List ZK}{b g id n:Nat}{e:TypeId}{cv:Value}{v:ZK}
def yd (h:cv.oneCell=true):cv.cells=#[cv]:=by
 cases cv<;>simp_all[Value.oneCell,Value.cells]
theorem ZO.cells (h:ZO P Γ H w v cv):cv.cells.toList.length=v.cells.length /\
  ∀i (_:i<v.cells.length) (_:i<cv.cells.toList.length),ZO P Γ H w v.cells[i] cv.cells.toList[i]:=by
 have one:∀ {v:ZK} {cv:Value},ZO P Γ H w v cv->v.cells=[v]->cv.cells=#[cv]->cv.cells.toList.length=v.cells.length /\
   ∀i (_:i<v.cells.length) (_:i<cv.cells.toList.length),ZO P Γ H w v.cells[i] cv.cells.toList[i]:=by
  intro v cv h hv hc;simp only[hv,hc];refine⟨rfl,fun i h1 h2=>?_⟩;simp only[List.length_cons,List.length_nil]at h1;have:i=0:=O
  subst this;exact h
 cases h with
 |lit v =>
  simp only[ZK.cells];refine⟨ZF,fun i h1 h2=>?_⟩;simp only[VO];exact .lit _
 |nu a cap=>exact one (.nu a cap) rfl rfl
 |Q hb hlt hlen hcs hcell hrel=>exact one (.Q hb hlt hlen hcs hcell hrel) rfl rfl
 |U h=>exact one (.U h) rfl (yd h.2.1)
 |M h=>exact one (.M h) rfl (yd h.2.1)
 |ni hb hlt hcs hcell hrel=>exact one (.ni hb hlt hcs hcell hrel) rfl rfl
 |agg hcs hrel=>exact⟨by simpa[ZK.cells,Value.cells] using hcs,fun i h1 h2=>hrel i h1 h2⟩
 |nf hcs hrel=>exact one (.nf hcs hrel) rfl rfl
 |Z hfs hcs hf hc=>exact one (.Z hfs hcs hf hc) rfl rfl
 |np h=>exact one (.np h) rfl (yd h.2.1)
theorem ZO.one (h:ZO P Γ H w v cv)(hv:v.one=true):cv.oneCell=true:=by
 cases h with
 |lit v=>exact hv
 |U h=>exact h.2.1
 |M h=>exact h.2.1
 |np h=>exact h.2.1
 |agg=>simp[ZK.one]at hv
 |nf=>simp[ZK.one]at hv
 |_=>rfl
def GP:∀ {cells:List ZK} {cs vs:List Value},rm cells=some vs->cs.length=cells.length ->
  (∀i (_:i<cells.length) (_:i<cs.length),ZO P Γ H w cells[i] cs[i])->cs=vs:=by
 intro cells
 induction cells with
 |nil=>intro cs vs h hl _;simp only[rm,Option.some.injEq]at h;subst h;simpa using hl
 |cons c cells ih =>
  intro cs vs h hl hr;cases c with
  |lit v =>
   simp only[rm,Vw]at h;obtain⟨vs',h1,rfl⟩:=h;cases cs with
   |nil=>simp at hl
   |cons x cs =>
    have h0:=hr 0 ZF ZF;simp only[Wq]at h0;cases h0;have:=ih h1 (by simpa using hl) (fun i a b=>hr (i+1) (by simpa using a) (by simpa using b));rw[this]
  |_=>simp[rm]at h
theorem ZO.dG {x:Value}(h:ZO P Γ H w v cv)(hx:v.dG=some x):cv=x:=by
 cases h with
 |lit v=>simpa[ZK.dG] using hx
 |agg hcs hrel =>
  simp only[ZK.dG,Vw]at hx;obtain⟨l,h1,rfl⟩:=hx;rw[GP h1 hcs hrel]
 |_=>simp[ZK.dG]at hx
def ZQ.vz (h:Γ' id=Γ id)(x:ZQ):ZQ.le Γ Γ' id x x:=by
 cases x<;>simp[ZQ.le,h]
def ZT.qj (R:ZT P G Γ H w)(E:ZX Γ H w Γ' H' w')(hn:H.A<=H'.A)(hget:∀j,j≠id->H'.get j=H.get j)
  (hΓ:∀j,j≠id->Γ' j=Γ j) (hheap:∀j b base n,j≠id->Γ j=some (b,base,n)->w'.heap[b]?=w.heap[b]?)
  (harr:∀g e cells,H'.get id=some (.J g e cells) ->
   match Γ' id with
   |some (b,base,n)=>∃c,w'.heap[b]?=some (.cells c e (0,0))/\c.size=n/\base+cells.length<=n /\
     ∀i (_:i<cells.length),∃cv,c[base+i]?=some cv/\ZO P Γ' H' w' cells[i] cv
   |none=>cells=[])
  (hloop:∀st pend n env ps asg body,H'.get id=some (.loop st pend n env ps asg body) ->
   ∃b r,Γ' id=some (b,0,0)/\w'.heap[b]?=some (.loop r)/\r.state=st/\r.pending=pend/\r.params=ps/\r.assign=asg/\r.body=body /\
    r.tmps.size=n/\(∀t (_:t<r.tmps.size),ZO P Γ' H' w' (env t) r.tmps[t]))
  (hmp:∀es,H'.get id=some (.mp es)->∃b,Γ' id=some (b,0,0)/\w'.heap[b]?=some (iM es))
  (hrsv:H'.get id=some .nt->Γ' id=none)
  (hinj:∀j b base n base' n',j≠id->Γ' id=some (b,base,n)->Γ j=some (b,base',n')->False)
  (hdom:∀x,Γ' id=some x->∃y,H'.get id=some y) (hlt:∀b base n,Γ' id=some (b,base,n)->b<w'.heap.size)
  (hnext:∀y,H'.get id=some y->id<H'.A):ZT P G Γ' H' w' where
 J j g e cells hj:=by
  by_cases h:j=id
  ·subst h;exact harr g e cells hj
  ·rw[hget j h]at hj;have h1:=R.J j g e cells hj;rw[hΓ j h];cases hg:Γ j with
   |none=>rw[hg]at h1;exact h1
   |some x =>
    obtain⟨b,base,n⟩:=x;rw[hg]at h1;obtain⟨c,a1,a2,a3,a4⟩:=h1;exact⟨c,(hheap j b base n h hg).trans a1,a2,a3,fun i hi=>let ⟨cv,b1,b2⟩:=a4 i hi;⟨cv,b1,b2.bK E hn⟩⟩
 loop j st pend n env ps asg body hj:=by
  by_cases h:j=id
  ·subst h;exact hloop st pend n env ps asg body hj
  ·rw[hget j h]at hj;obtain⟨b,r,a1,a2,a3,a4,a5,a6,a7,a8,a9⟩:=R.loop j st pend n env ps asg body hj;exact⟨b,r,(hΓ j h).trans a1,(hheap j b 0 0 h a1).trans a2,a3,a4,a5,a6,a7,a8,fun t ht=>(a9 t ht).bK E hn⟩
 mp j es hj:=by
  by_cases h:j=id
  ·subst h;exact hmp es hj
  ·rw[hget j h]at hj;obtain⟨b,a1,a2⟩:=R.mp j es hj;exact⟨b,(hΓ j h).trans a1,(hheap j b 0 0 h a1).trans a2⟩
 nt j hj:=by
  by_cases h:j=id
  ·subst h;exact hrsv hj
  ·rw[hget j h]at hj;rw[hΓ j h];exact R.nt j hj
 inj i j b base n base' n' h1 h2:=by
  by_cases hi:i=id
  ·by_cases hj:j=id
   ·rw[hi,hj]
   ·rw[hi]at h1;rw[hΓ j hj]at h2;exact(hinj j b base n base' n' hj h1 h2).elim
  ·by_cases hj:j=id
   ·rw[hj]at h2;rw[hΓ i hi]at h1;exact(hinj i b base' n' base n hi h2 h1).elim
   ·rw[hΓ i hi]at h1;rw[hΓ j hj]at h2;exact R.inj i j b base n base' n' h1 h2
 nI j x hx:=by
  by_cases h:j=id
  ·subst h;exact hdom x hx
  ·rw[hΓ j h]at hx;rw[hget j h];exact R.nI j x hx
 lt j b base n hx:=by
  by_cases h:j=id
  ·subst h;exact hlt b base n hx
  ·rw[hΓ j h]at hx;exact VM (R.lt j b base n hx) E.size
 A j y hy:=by
  by_cases h:j=id
  ·subst h;exact hnext y hy
  ·rw[hget j h]at hy;exact VM (R.A j y hy) hn
 nH g cells hg:=(R.nH g cells hg).bK E hn
 gsz:=R.rj E
def aH.upd (Γ:aH)(id:Nat)(x:Option (Nat × Nat × Nat)):aH:=fun j=>if j=id then x else Γ j
def aH.fh (Γ:aH)(id:Nat)(x:Option (Nat × Nat × Nat)):Γ.upd id x id=x:=by simp[aH.upd]
def aH.kP (Γ:aH)(id:Nat)(x:Option (Nat × Nat × Nat)){j:Nat}(h:j≠id):Γ.upd id x j=Γ j:=by simp[aH.upd,h]
def heap_alloc (w:World)(o:Obj)(b:Nat):(w.alloc o).heap[b]?=if b=w.heap.size then some o else w.heap[b]?:=by
 show (w.heap.push o)[b]?=_;rw[Yk]
def rA {w:World}{o:Obj}(h:b<w.heap.size):(w.alloc o).heap[b]?=w.heap[b]?:=by
 rw[heap_alloc,Vx O]
def kQ {b:ZQ}(h:H.lay id b=some H'):
  (∀j,H'.get j=if j=id then some b else H.get j)/\((id=H.A/\H'.A=H.A+1)\/(H.get id=some .nt/\H'.A=H.A)):=by
 unfold ZJ.lay at h;split at h
 ·rename_i hid;simp only[Option.some.injEq]at h;subst h;exact⟨fun j=>rfl,.inl ⟨hid,rfl⟩⟩
 ·split at h
  ·rename_i hr;simp only[Option.some.injEq]at h;subst h;exact⟨fun j=>rfl,.inr ⟨hr,rfl⟩⟩
  ·cases h
def oW (R:ZT P G Γ H w){b:ZQ}(h:H.lay id b=some H'):Γ id=none/\(H.get id=none\/H.get id=some .nt)/\H.A<=H'.A/\id<H'.A:=by
 obtain⟨_,h2|h2⟩:=kQ h
 ·have hn:H.get id=none:=by
   cases hg:H.get id with
   |none=>rfl
   |some y=>have:=R.A id y hg;omega
  have hΓ:Γ id=none:=by
   cases hg:Γ id with
   |none=>rfl
   |some x=>obtain⟨y,hy⟩:=R.nI id x hg;rw[hn]at hy;cases hy
  exact⟨hΓ,.inl hn,O,O⟩
 ·have:=R.A id _ h2.1;exact⟨R.nt id h2.1,.inr h2.1,O,O⟩
def rB {cells:List ZK}{c:Array Value}(R:ZT P G Γ H w)(h:H.lay id (.J 0 e cells)=some H')
  (hlen:cells.length<=c.size) (hrel:∀i (_:i<cells.length),∃cv,c[i]?=some cv/\ZO P Γ H w cells[i] cv):
  ZX Γ H w (Γ.upd id (some (w.heap.size,0,c.size))) H' (w.alloc (.cells c e))/\H.A<=H'.A /\
   ZT P G (Γ.upd id (some (w.heap.size,0,c.size))) H' (w.alloc (.cells c e)):=by
 obtain⟨f1,f2,f3,f4⟩:=oW R h;obtain⟨hget,_⟩:=kQ h;have E:ZX Γ H w (Γ.upd id (some (w.heap.size,0,c.size))) H' (w.alloc (.cells c e)):=by
  refine⟨rfl,rfl,rfl,ZF,fun b hb ho=>⟨rA hb,?_⟩,fun j hj hj' x' hx'=>?_,?_⟩
  ·rintro⟨j,base,n,hj⟩;by_cases hji:j=id
   ·rw[hji,aH.fh]at hj;simp only[Option.some.injEq,Prod.mk.injEq]at hj;omega
   ·rw[aH.kP _ _ _ hji]at hj;exact ho ⟨j,base,n,hj⟩
  ·rw[hget]at hx';by_cases hji:j=id
   ·subst hji;rcases f2 with f2|f2
    ·obtain⟨_,h2|h2⟩:=kQ h
     ·omega
     ·rw[f2]at h2;cases h2.1
    ·exact⟨.nt,f2,trivial⟩
   ·rw[Vx hji]at hx';exact⟨x',hx',ZQ.vz (aH.kP _ _ _ hji) _⟩
  ·exact fun a _=>ry rfl (fun _ _ _ h=>by cases h;rfl) a
 refine⟨E,f3,R.qj (id:=id) E f3 (fun j hj=>by rw[hget,Vx hj]) (fun j hj=>aH.kP _ _ _ hj)
  (fun j b base n hj hg=>rA (R.lt j b base n hg)) ?_ ?_ ?_ ?_ ?_ ?_ ?_ ?_⟩
 ·intro g e' cells' hg;rw[hget,VA rfl]at hg;simp only[Option.some.injEq,ZQ.J.injEq]at hg;obtain⟨_,rfl,rfl⟩:=hg;rw[aH.fh];refine⟨c,by rw[heap_alloc,VA rfl],rfl,O,fun i hi=>?_⟩;obtain⟨cv,h1,h2⟩:=hrel i hi;exact⟨cv,by rw[Nat.zero_add];exact h1,h2.bK E f3⟩
 ·intro st pend n env ps asg body hg;rw[hget,VA rfl]at hg;cases hg
 ·intro es hg;rw[hget,VA rfl]at hg;cases hg
 ·intro hg;rw[hget,VA rfl]at hg;cases hg
 ·intro j b base n base' n' hj h1 h2;rw[aH.fh]at h1;simp only[Option.some.injEq,Prod.mk.injEq]at h1;have:=R.lt j b base' n' h2;omega
 ·exact fun x _=>⟨_,by rw[hget,VA rfl]⟩
 ·intro b base n h1;rw[aH.fh]at h1;simp only[Option.some.injEq,Prod.mk.injEq]at h1;simp;omega
 ·exact fun _ _=>f4
def af (H:ZJ)(id:Nat)(b:ZQ)(j:Nat):(H.upd id b).get j=if j=id then some b else H.get j:=rfl
def ye {cells:List ZK}{base:Nat}(R:ZT P G Γ H w)
  (hg:H.get id=some (.J g e cells)) (hΓ:Γ id=some (b,base,n)) (hlen:cells'.length=cells.length) (hsz:c'.size=n)
  (hrel:∀i (_:i<cells'.length),∃cv,c'[base+i]?=some cv/\ZO P Γ H w cells'[i] cv):
  ZX Γ H w Γ (H.upd id (.J g e cells')) (cB w b (.cells c' e (0,0)))/\ZT P G Γ (H.upd id (.J g e cells')) (cB w b (.cells c' e (0,0))):=by
 have hblk:=R.lt id b base n hΓ;have E:ZX Γ H w Γ (H.upd id (.J g e cells')) (cB w b (.cells c' e (0,0))):=by
  refine⟨rfl,rfl,rfl,by rw[kM];exact Nat.le_refl _,fun b' hb ho=>⟨?_,ho⟩,fun j hj hj' x' hx'=>?_,?_⟩
  ·rw[fP,Vx];rintro⟨rfl,_⟩;exact ho ⟨id,base,n,hΓ⟩
  ·rw[af]at hx';by_cases hji:j=id
   ·subst hji;rw[VA rfl]at hx';cases hx';exact⟨_,hg,ZI,fun _=>⟨rfl,rfl,hlen⟩⟩
   ·rw[Vx hji]at hx';exact⟨x',hx',ZQ.le_refl _ _ _⟩
  ·have h0:=R.J id g e cells hg;rw[hΓ]at h0;obtain⟨c,a1,_⟩:=h0;exact fun a _=>tw a1 (fun _ _ _ h=>by cases h;rfl) (fun _ _ _ h=>by cases h;rfl) a
 have h0:=R.J id g e cells hg;rw[hΓ]at h0;obtain⟨c,a1,a2,a3,a4⟩:=h0;refine⟨E,R.qj (id:=id) E ZI (fun j hj=>by rw[af,Vx hj]) (fun j hj=>rfl)
  (fun j b' base' n' hj hg'=>?_) ?_ ?_ ?_ ?_ ?_ ?_ ?_ ?_⟩
 ·rw[fP,Vx];rintro⟨rfl,_⟩;exact hj (R.inj j id b' base' n' base n hg' hΓ)
 ·intro g' e' cells'' hg';rw[af,VA rfl]at hg';simp only[Option.some.injEq,ZQ.J.injEq]at hg';obtain⟨rfl,rfl,rfl⟩:=hg';rw[hΓ];refine⟨c',by rw[fP,VA ⟨rfl,hblk⟩],hsz,O,fun i hi=>?_⟩;obtain⟨cv,h1,h2⟩:=hrel i hi;exact⟨cv,h1,h2.bK E ZI⟩
 ·intro st pend n env ps asg body hg';rw[af,VA rfl]at hg';cases hg'
 ·intro es hg';rw[af,VA rfl]at hg';cases hg'
 ·intro hg';rw[af,VA rfl]at hg';cases hg'
 ·intro j b' base' n' base'' n'' hj h1 h2;rw[hΓ]at h1;simp only[Option.some.injEq,Prod.mk.injEq]at h1;obtain⟨rfl,rfl,rfl⟩:=h1;exact hj (R.inj j id _ _ _ _ _ h2 hΓ)
 ·exact fun x _=>⟨_,by rw[af,VA rfl]⟩
 ·intro b' base' n' h1;rw[kM];exact R.lt id b' base' n' h1
 ·exact fun _ _=>R.A id _ hg
def GQ {cells:List ZK}{base base':Nat}(R:ZT P G Γ H w)
  (hg:H.get id=some (.J g e cells)) (hΓ:Γ id=some (b,base,n)) (hsz:c'.size=n) (hle:base'+cells'.length<=n)
  (hrel:∀i (_:i<cells'.length),∃cv,c'[base'+i]?=some cv/\ZO P Γ H w cells'[i] cv):
  ZX Γ H w (Γ.upd id (some (b,base',n))) (H.upd id (.J (g+1) e cells')) (cB w b (.cells c' e (0,0))) /\
   ZT P G (Γ.upd id (some (b,base',n))) (H.upd id (.J (g+1) e cells')) (cB w b (.cells c' e (0,0))):=by
 have hblk:=R.lt id b base n hΓ;have E:ZX Γ H w (Γ.upd id (some (b,base',n))) (H.upd id (.J (g+1) e cells')) (cB w b (.cells c' e (0,0))):=by
  refine⟨rfl,rfl,rfl,by rw[kM];exact Nat.le_refl _,fun b' hb ho=>⟨?_,?_⟩,fun j hj hj' x' hx'=>?_,?_⟩
  ·rw[fP,Vx];rintro⟨rfl,_⟩;exact ho ⟨id,base,n,hΓ⟩
  ·rintro⟨j,base'',n'',hj⟩;by_cases hji:j=id
   ·rw[hji,aH.fh]at hj;simp only[Option.some.injEq,Prod.mk.injEq]at hj;exact ho ⟨id,base,n,by rw[hΓ,hj.1]⟩
   ·rw[aH.kP _ _ _ hji]at hj;exact ho ⟨j,base'',n'',hj⟩
  ·rw[af]at hx';by_cases hji:j=id
   ·subst hji;rw[VA rfl]at hx';cases hx';exact⟨_,hg,XV _,fun h=>O⟩
   ·rw[Vx hji]at hx';exact⟨x',hx',ZQ.vz (aH.kP _ _ _ hji) _⟩
  ·have h0:=R.J id g e cells hg;rw[hΓ]at h0;obtain⟨c,a1,_⟩:=h0;exact fun a _=>tw a1 (fun _ _ _ h=>by cases h;rfl) (fun _ _ _ h=>by cases h;rfl) a
 refine⟨E,R.qj (id:=id) E ZI (fun j hj=>by rw[af,Vx hj]) (fun j hj=>aH.kP _ _ _ hj)
  (fun j b' base' n' hj hg'=>?_) ?_ ?_ ?_ ?_ ?_ ?_ ?_ ?_⟩
 ·rw[fP,Vx];rintro⟨rfl,_⟩;exact hj (R.inj j id b' base' n' base n hg' hΓ)
 ·intro g' e' cells'' hg';rw[af,VA rfl]at hg';simp only[Option.some.injEq,ZQ.J.injEq]at hg';obtain⟨rfl,rfl,rfl⟩:=hg';rw[aH.fh];refine⟨c',by rw[fP,VA ⟨rfl,hblk⟩],hsz,hle,fun i hi=>?_⟩;obtain⟨cv,h1,h2⟩:=hrel i hi;exact⟨cv,h1,h2.bK E ZI⟩
 ·intro st pend n env ps asg body hg';rw[af,VA rfl]at hg';cases hg'
 ·intro es hg';rw[af,VA rfl]at hg';cases hg'
 ·intro hg';rw[af,VA rfl]at hg';cases hg'
 ·intro j b' base' n' base'' n'' hj h1 h2;rw[aH.fh]at h1;simp only[Option.some.injEq,Prod.mk.injEq]at h1;obtain⟨rfl,rfl,rfl⟩:=h1;exact hj (R.inj j id _ _ _ _ _ h2 hΓ)
 ·exact fun x _=>⟨_,by rw[af,VA rfl]⟩
 ·intro b' base'' n' h1;rw[aH.fh]at h1;simp only[Option.some.injEq,Prod.mk.injEq]at h1;rw[kM];omega
 ·exact fun _ _=>R.A id _ hg
def GR {cells:List ZK}(R:ZT P G Γ H w)
  (hg:H.get id=some (.J g e cells)) (hle:cells'.length<=c'.size)
  (hrel:∀i (_:i<cells'.length),∃cv,c'[i]?=some cv/\ZO P Γ H w cells'[i] cv):
  ZX Γ H w (Γ.upd id (some (w.heap.size,0,c'.size))) (H.upd id (.J (g+1) e cells')) (w.alloc (.cells c' e)) /\
   ZT P G (Γ.upd id (some (w.heap.size,0,c'.size))) (H.upd id (.J (g+1) e cells')) (w.alloc (.cells c' e)):=by
 have E:ZX Γ H w (Γ.upd id (some (w.heap.size,0,c'.size))) (H.upd id (.J (g+1) e cells')) (w.alloc (.cells c' e)):=by
  refine⟨rfl,rfl,rfl,ZF,fun b' hb ho=>⟨rA hb,?_⟩,fun j hj hj' x' hx'=>?_,?_⟩
  ·rintro⟨j,base'',n'',hj⟩;by_cases hji:j=id
   ·rw[hji,aH.fh]at hj;simp only[Option.some.injEq,Prod.mk.injEq]at hj;omega
   ·rw[aH.kP _ _ _ hji]at hj;exact ho ⟨j,base'',n'',hj⟩
  ·rw[af]at hx';by_cases hji:j=id
   ·subst hji;rw[VA rfl]at hx';cases hx';exact⟨_,hg,XV _,fun h=>O⟩
   ·rw[Vx hji]at hx';exact⟨x',hx',ZQ.vz (aH.kP _ _ _ hji) _⟩
  ·exact fun a _=>ry rfl (fun _ _ _ h=>by cases h;rfl) a
 refine⟨E,R.qj (id:=id) E ZI (fun j hj=>by rw[af,Vx hj]) (fun j hj=>aH.kP _ _ _ hj)
  (fun j b' base' n' hj hg'=>rA (R.lt j b' base' n' hg')) ?_ ?_ ?_ ?_ ?_ ?_ ?_ ?_⟩
 ·intro g' e' cells'' hg';rw[af,VA rfl]at hg';simp only[Option.some.injEq,ZQ.J.injEq]at hg';obtain⟨rfl,rfl,rfl⟩:=hg';rw[aH.fh];refine⟨c',by rw[heap_alloc,VA rfl],rfl,O,fun i hi=>?_⟩;obtain⟨cv,h1,h2⟩:=hrel i hi;exact⟨cv,by rw[Nat.zero_add];exact h1,h2.bK E ZI⟩
 ·intro st pend n env ps asg body hg';rw[af,VA rfl]at hg';cases hg'
 ·intro es hg';rw[af,VA rfl]at hg';cases hg'
 ·intro hg';rw[af,VA rfl]at hg';cases hg'
 ·intro j b' base' n' base'' n'' hj h1 h2;rw[aH.fh]at h1;simp only[Option.some.injEq,Prod.mk.injEq]at h1;have:=R.lt j _ _ _ h2;omega
 ·exact fun x _=>⟨_,by rw[af,VA rfl]⟩
 ·intro b' base'' n' h1;rw[aH.fh]at h1;simp only[Option.some.injEq,Prod.mk.injEq]at h1;simp;omega
 ·exact fun _ _=>R.A id _ hg
def tz (Γ:aH)(H:ZJ)(w:World)(n:Nat):ZX Γ H w Γ H { w with drawn:=n } :=
 ⟨rfl,rfl,rfl,ZI,fun _ _ h=>⟨rfl,h⟩,fun _ _ _ x' h=>⟨x',h,ZQ.le_refl _ _ _⟩,fun _ _=>rfl⟩
def ZT.drew (R:ZT P G Γ H w)(n:Nat):ZT P G Γ H { w with drawn:=n } :=
 R.qj (id:=H.A) (tz Γ H w n) ZI (fun _ _=>rfl) (fun _ _=>rfl) (fun _ _ _ _ _ _=>rfl)
  (fun g e cells h=>absurd (R.A _ _ h) (Ya _)) (fun st pend n env ps asg body h=>absurd (R.A _ _ h) (Ya _)) (fun es h=>absurd (R.A _ _ h) (Ya _))
  (fun h=>absurd (R.A _ _ h) (Ya _))
  (fun j b base n base' n' hj h1 h2=>by obtain⟨y,hy⟩:=R.nI _ _ h1;exact absurd (R.A _ _ hy) (Ya _))
  (fun x hx=>R.nI _ x hx) (fun b base n hx=>R.lt _ b base n hx) (fun y hy=>R.A _ y hy)
def GS (R:ZT P G Γ H w)(h:H.lay id (.mp [])=some H'):
  ZX Γ H w (Γ.upd id (some (w.heap.size,0,0))) H' (w.alloc (iM []))/\H.A<=H'.A/\ZT P G (Γ.upd id (some (w.heap.size,0,0))) H' (w.alloc (iM [])):=by
 obtain⟨f1,f2,f3,f4⟩:=oW R h;obtain⟨hget,hor⟩:=kQ h;have E:ZX Γ H w (Γ.upd id (some (w.heap.size,0,0))) H' (w.alloc (iM [])):=by
  refine⟨rfl,rfl,rfl,ZF,fun b hb ho=>⟨rA hb,?_⟩,fun j hj hj' x' hx'=>?_,?_⟩
  ·rintro⟨j,base,n,hj⟩;by_cases hji:j=id
   ·rw[hji,aH.fh]at hj;simp only[Option.some.injEq,Prod.mk.injEq]at hj;omega
   ·rw[aH.kP _ _ _ hji]at hj;exact ho ⟨j,base,n,hj⟩
  ·rw[hget]at hx';by_cases hji:j=id
   ·subst hji;rcases f2 with f2|f2
    ·rcases hor with ⟨h1,h2⟩|h2
     ·omega
     ·rw[f2]at h2;cases h2.1
    ·exact⟨.nt,f2,trivial⟩
   ·rw[Vx hji]at hx';exact⟨x',hx',ZQ.vz (aH.kP _ _ _ hji) _⟩
  ·exact fun a _=>ry rfl (fun _ _ _ h=>by cases h) a
 refine⟨E,f3,R.qj (id:=id) E f3 (fun j hj=>by rw[hget,Vx hj]) (fun j hj=>aH.kP _ _ _ hj)
  (fun j b base n hj hg=>rA (R.lt j b base n hg)) ?_ ?_ ?_ ?_ ?_ ?_ ?_ ?_⟩
 ·intro g e' cells' hg;rw[hget,VA rfl]at hg;cases hg
 ·intro st pend n env ps asg body hg;rw[hget,VA rfl]at hg;cases hg
 ·intro es hg;rw[hget,VA rfl]at hg;cases hg;exact⟨w.heap.size,aH.fh _ _ _,by rw[heap_alloc,VA rfl]⟩
 ·intro hg;rw[hget,VA rfl]at hg;cases hg
 ·intro j b base n base' n' hj h1 h2;rw[aH.fh]at h1;simp only[Option.some.injEq,Prod.mk.injEq]at h1;have:=R.lt j b base' n' h2;omega
 ·exact fun x _=>⟨_,by rw[hget,VA rfl]⟩
 ·intro b base n h1;rw[aH.fh]at h1;simp only[Option.some.injEq,Prod.mk.injEq]at h1;simp;omega
 ·exact fun _ _=>f4
def vA {es:List (Int × Int)}(es':List (Int × Int))(R:ZT P G Γ H w)(hg:H.get id=some (.mp es))(hΓ:Γ id=some (b,0,0))(hb:w.heap[b]?=some (iM es)):
  ZX Γ H w Γ (H.upd id (.mp es')) (cB w b (iM es'))/\ZT P G Γ (H.upd id (.mp es')) (cB w b (iM es')):=by
 have hblk:=R.lt id b 0 0 hΓ;have E:ZX Γ H w Γ (H.upd id (.mp es')) (cB w b (iM es')):=by
  refine⟨rfl,rfl,rfl,by rw[kM];exact Nat.le_refl _,fun b' hb ho=>⟨?_,ho⟩,fun j hj hj' x' hx'=>?_,?_⟩
  ·rw[fP,Vx];rintro⟨rfl,_⟩;exact ho ⟨id,0,0,hΓ⟩
  ·rw[af]at hx';by_cases hji:j=id
   ·subst hji;rw[VA rfl]at hx';cases hx';exact⟨_,hg,rfl⟩
   ·rw[Vx hji]at hx';exact⟨x',hx',ZQ.le_refl _ _ _⟩
  ·exact fun a _=>tw hb (fun _ _ _ h=>by cases h) (fun _ _ _ h=>by cases h) a
 refine⟨E,R.qj (id:=id) E ZI (fun j hj=>by rw[af,Vx hj]) (fun j hj=>rfl)
  (fun j b' base' n' hj hg'=>?_) ?_ ?_ ?_ ?_ ?_ ?_ ?_ ?_⟩
 ·rw[fP,Vx];rintro⟨rfl,_⟩;exact hj (R.inj j id b' base' n' 0 0 hg' hΓ)
 ·intro g' e' cells'' hg';rw[af,VA rfl]at hg';cases hg'
 ·intro st pend n env ps asg body hg';rw[af,VA rfl]at hg';cases hg'
 ·intro es2 hg';rw[af,VA rfl]at hg';cases hg';exact⟨b,hΓ,by rw[fP,VA ⟨rfl,hblk⟩]⟩
 ·intro hg';rw[af,VA rfl]at hg';cases hg'
 ·intro j b' base' n' base'' n'' hj h1 h2;rw[hΓ]at h1;simp only[Option.some.injEq,Prod.mk.injEq]at h1;obtain⟨rfl,rfl,rfl⟩:=h1;exact hj (R.inj j id _ _ _ _ _ h2 hΓ)
 ·exact fun x _=>⟨_,by rw[af,VA rfl]⟩
 ·intro b' base' n' h1;rw[kM];exact R.lt id b' base' n' h1
 ·exact fun _ _=>R.A id _ hg
end Go.Hx
namespace Go.Hx
def ay (G:Nat->Option (List ZK))(ρ:Env):Operand->ZK
 |.tmp t=>ρ t
 |.const v=>.lit v
 |.global g=>match G g with|some cells=>.ni cells 0|none=>.lit (.pointer (some ⟨g,0,none⟩))
 |.func f=>.Z f [] []
def cw (P:Program)(t:TypeId):Option (List ZK) :=
 match P.info? t with
 |some i=>match i.zero with
  |some z=>if z.cells.size=i.size then some (z.cells.toList.map .lit) else none
  |none=>none
 |none=>none
def lS (P:Program)(t:TypeId)(n:Nat):Option (List ZK):=(cw P t).map fun z=>(List.replicate n z).flatten
def jw (P:Program)(t:TypeId):Option (List (Nat × Nat)) :=
 match P.underlying t with
 |some (.struct fs)=>if fs.toList.all fun f=>(P.info? f.type).isSome then some (fs.toList.map fun f=>(f.offset,P.cellsOf f.type)) else none
 |_=>none
def bU (P:Program)(t:TypeId)(i:Nat):Option (Nat × TypeId) :=
 match P.underlying t with
 |some (.struct fs)=>match fs[i]? with
  |some f=>if (P.info? f.type).isSome/\P.cellsOf f.type≠0 then some (f.offset,f.type) else none
  |none=>none
 |_=>none
def ZJ.V (H:ZJ)(id gen:Nat):Option (TypeId × List ZK) :=
 match H.get id with
 |some (.J g e cells)=>if g=gen then some (e,cells) else none
 |_=>none
def cK:Option ZK->Nat->Nat->Option Nat
 |none,d,_=>some d
 |some (.lit (.int _ i)),_,m=>if 0<=i/\i<=(m:Int) then some i.toNat else none
 |_,_,_=>none
def oX (P:Program)(H:ZJ)(t:TypeId)(x:ZK)(i:Int):Option ZK :=
 match P.underlying t with
 |some (.array n e) =>
  if 0<=i/\i<(n:Int)/\(P.underlying e).isSome then
   match x with
   |.M id gen off=>(H.V id gen).map fun _=>.M id gen (off+i.toNat*P.cellsOf e)
   |.ni cells off=>some (.ni cells (off+i.toNat*P.cellsOf e))
   |_=>none
  else none
 |some (.slice e) =>
  if (P.underlying e).isSome then
   match x with
   |.U id gen off len sz=>if 0<=i/\i<(len:Int)/\sz=P.cellsOf e then (H.V id gen).map fun _=>.M id gen (off+i.toNat*P.cellsOf e) else none
   |.Q len cells=>if 0<=i/\i<(len:Int)/\cells≠[] then some (.ni cells (i.toNat*P.cellsOf e)) else none
   |_=>none
  else none
 |_=>none
def oY (P:Program)(H:ZJ)(t:TypeId)(x:ZK)(lo hi:Option ZK):Option ZK :=
 match P.underlying t with
 |some (.array n e) =>
  if (P.underlying e).isSome then
   match x with
   |.M id gen off =>
    match H.V id gen with
    |some (_,cells) =>
     if off+n*P.cellsOf e<=cells.length then
      (cK hi n n).bind fun h=>(cK lo 0 h).map fun l=>.U id gen (off+l*P.cellsOf e) (h-l) (P.cellsOf e)
     else none
    |none=>none
   | .ni cells off=>if off+n*P.cellsOf e≤cells.length then
      (cK hi n n).bind fun h=>(cK lo 0 h).map fun l=>.Q (h-l) ((cells.drop (off+l*P.cellsOf e)).take ((h-l)*P.cellsOf e))
     else none
   |_=>none
  else none
 |some (.slice e) =>
  if (P.underlying e).isSome then
   match x with
   |.U id gen off len sz=>if sz=P.cellsOf e then (H.V id gen).bind fun _=>(cK hi len len).bind fun h=>(cK lo 0 h).map fun l=>.U id gen (off+l*sz) (h-l) sz else none
   |.Q len cells=>if cells.length=len*P.cellsOf e then (cK hi len len).bind fun h=>(cK lo 0 h).map fun l=>.Q (h-l) ((cells.drop (l*P.cellsOf e)).take ((h-l)*P.cellsOf e)) else none
   |.lit (.slice none 0 0)=>(cK hi 0 0).bind fun h=>(cK lo 0 h).map fun _=>.lit (.slice none 0 0)
   |_=>none
  else none
 |some .string =>
  match x with
  |.lit (.string s)=>(cK hi s.size s.size).bind fun h=>(cK lo 0 h).map fun l=>.lit (.string (s.extract l h))
  |_=>none
 |_=>none
def dH (H:ZJ)(sz:Nat):ZK->Option (Nat × List ZK)
 |.Q len cells=>if cells.length=len*sz then some (len,cells) else none
 |.U id gen off len sz'=>if sz'=sz then (H.V id gen).map fun x=>(len,(x.2.drop off).take (len*sz)) else none
 |.lit (.slice none 0 0)=>some (0,[])
 |_=>none
def cr (P:Program)(H:ZJ)(id:Nat)(at0 at1:TypeId)(s x:ZK):Option (ZK × ZJ) :=
 match P.underlying at0 with
 |some (.slice e) =>
  match P.underlying at1 with
  |some (.slice _) =>
   (cw P e).bind fun _ =>
   (dH H (P.cellsOf e) x).bind fun nx =>
    match s with
    |.lit (.slice none 0 0) =>
     if nx.1=0 then some (s,H)
     else if nx.1*P.bytesOf e<=2 ^ 46/\nx.1<=2 ^ 46 then (H.lay id (.J 0 e nx.2)).map fun H'=>(.U id 0 0 nx.1 (P.cellsOf e),H')
     else none
    |.U id' gen off len sz =>
     (H.V id' gen).bind fun ec =>
      if ec.1=e/\sz=P.cellsOf e/\off+len*sz=ec.2.length/\(len+nx.1)*P.bytesOf e<=2 ^ 46/\len+nx.1<=2 ^ 46/\nx.2.all ZK.one=true then
       if nx.1=0 then some (s,H)
       else some (.U id' (gen+1) 0 (len+nx.1) sz,H.upd id' (.J (gen+1) e (ec.2.drop off++nx.2)))
      else none
    |_=>none
  |_=>none
 |_=>none
def mC (P:Program)(H:ZJ)(at0:TypeId)(d x:ZK):Option (ZK × ZJ) :=
 match P.underlying at0 with
 |some (.slice e) =>
  if (P.underlying e).isSome then
   (dH H (P.cellsOf e) x).bind fun nx =>
    match d with
    |.U id gen off len sz =>
     (H.V id gen).bind fun ec =>
      if sz=P.cellsOf e/\off+len*sz<=ec.2.length/\nx.2.all ZK.one=true then
       some (.lit (.int .i64 (min nx.1 len:Nat)),H.upd id (.J gen ec.1 (setAt ec.2 off (nx.2.take (min nx.1 len*sz)))))
      else none
    |_=>none
  else none
 |_=>none
def nI (P:Program)(H:ZJ)(t:TypeId)(x:ZK):Option ZK :=
 match P.underlying t with
 |some (.slice _) =>
  match x with
  |.Q len _=>some (.lit (.int .i64 len))
  |.U id gen _ len _=>(H.V id gen).map fun _=>.lit (.int .i64 len)
  |.lit (.slice none 0 0)=>some (.lit (.int .i64 0))
  |_=>none
 |some .string =>
  match x with
  |.lit (.string s)=>some (.lit (.int .i64 s.size))
  |_=>none
 |some (.array n _)=>some (.lit (.int .i64 n))
 |_=>none
def o9 (P:Program)(t:TypeId):Bool:=match P.underlying t with
 |some (.map kt et)=>(match P.underlying kt with|some (.int .i64)=>true|_=>false) && (match (P.info? et).bind (·.zero) with|some (.int .i64 0)=>true|_=>false)
 |_=>false
def gW (k:Int):Nat->List (Int × Int)->Option (Nat × Int)
 |_,[]=>none
 |i,(a,v) :: l=>if k=a then some (i,v) else gW k (i+1) l
def rC (es:List (Int × Int))(k v:Int):List (Int × Int):=match gW k 0 es with
 |some (i,_)=>es.set i (k,v)
 |none=>es++[(k,v)]
def yf (es:List (Int × Int))(i:Nat)(v:Int):List (Int × Int):=match es[i]? with
 |some (k,_)=>es.set i (k,v)
 |none=>es
def tA (ok:Bool)(r:Option (Nat × Int)):ZK:=match r with
 |some (_,v)=>if ok then .nf [.lit (.int .i64 v),.lit (.bool true)] else .lit (.int .i64 v)
 |none=>if ok then .nf [.lit (.int .i64 0),.lit (.bool false)] else .lit (.int .i64 0)
def nJ (P:Program)(H:ZJ)(t:TypeId)(x i:ZK)(ok:Bool):Option ZK:=if o9 P t=true then
  match x,i with
  |.lit (.map none),.lit (.int .i64 _)=>some (tA ok none)
  |.np id,.lit (.int .i64 k)=>match H.get id with
   |some (.mp es)=>some (tA ok (gW k 0 es))
   |_=>none
  |_,_=>none
 else none
def kg (P:Program)(H:ZJ)(t:TypeId)(m k x:ZK):Option (ZK × ZJ):=if o9 P t=true then
  match m,k,x with
  |.np id,.lit (.int .i64 k),.lit (.int .i64 v)=>match H.get id with
   |some (.mp es)=>some (.lit undef,H.upd id (.mp (rC es k v)))
   |_=>none
  |_,_,_=>none
 else none
def qk (P:Program)(H:ZJ)(t:TypeId)(m k:ZK):Option (ZK × ZJ):=if o9 P t=true then
  match m,k with
  |.np id,.lit (.int .i64 k)=>match H.get id with
   |some (.mp es)=>match gW k 0 es with
    |some (i,v)=>some (.nf [.lit (.int .i64 v),.lit (.int .i64 i)],H.upd id (.mp es))
    |none=>some (.nf [.lit (.int .i64 0),.lit (.int .i64 es.length)],H.upd id (.mp (es++[(k,0)])))
   |_=>none
  |_,_=>none
 else none
def rD (H:ZJ)(m s x:ZK):Option (ZK × ZJ) :=
 match m,s,x with
 |.np id,.lit (.int .i64 s),.lit (.int .i64 v)=>match H.get id with
  |some (.mp es)=>if 0<=s/\s<es.length then some (.lit undef,H.upd id (.mp (yf es s.toNat v))) else none
  |_=>none
 |_,_,_=>none
def mD (P:Program)(H:ZJ)(at0:TypeId)(d:ZK):Option (ZK × ZJ) :=
 match P.underlying at0 with
 |some (.slice e) =>
  match d with
  |.lit (.slice none 0 0)=>some (.nf [],H)
  |.U id gen off len sz =>
   (H.V id gen).bind fun ec =>
    if len=0 then some (.nf [],H)
    else (lS P e len).bind fun z =>
     if z.length=len*sz/\off+len*sz<=ec.2.length/\z.all ZK.one=true then some (.nf [],H.upd id (.J gen ec.1 (setAt ec.2 off z)))
     else none
  |_=>none
 |_=>none
def rE:List ZK->Option (List Value)
 | []=>some []
 |v :: r=>(v.dG).bind fun x=>(rE r).map (x :: ·)
def iO (P:Program)(H:ZJ)(id:Nat)(b:Builtin)(ats:List TypeId)(args:List ZK):Option (ZK × ZJ) :=
 match b,ats,args with
 |.len,[t],[x]=>(nI P H t x).map fun v=>(v,H)
 |.append,[t,u],[s,x]=>cr P H id t u s x
 |.copy,[t,_],[d,x]=>mC P H t d x
 |.clear,[t],[d]=>mD P H t d
 |.min,_,args=>(rE args).bind fun vs=>(bQ P (Builtin.min_ #[] 0 vs.toArray)).map fun v=>(.lit v,H)
 |.max,_,args=>(rE args).bind fun vs=>(bQ P (Builtin.max_ #[] 0 vs.toArray)).map fun v=>(.lit v,H)
 |_,_,_=>none
def nK (P:Program)(H:ZJ)(id:Nat)(t:TypeId)(l c:ZK):Option (ZK × ZJ) :=
 match P.underlying t,l,c with
 |some (.slice e),.lit (.int _ l),.lit (.int _ c) =>
  if 0<=l/\l<=c/\c*P.bytesOf e<=2 ^ 46/\c<=2 ^ 46 then
   (lS P e l.toNat).bind fun cells=>(H.lay id (.J 0 e cells)).map fun H'=>(.U id 0 0 l.toNat (P.cellsOf e),H')
  else none
 |_,_,_=>none
def tB (P:Program)(t:TypeId)(parts:List (Nat × ZK)):Option ZK :=
 (cw P t).bind fun z =>
  match P.underlying t with
  |some (.struct _)=>(jw P t).bind fun pl=>(gM (fun i=>pl[i]?) z parts).map .agg
  |some (.array _ e)=>if (P.underlying e).isSome then (gM (fun i=>some (i*P.cellsOf e,P.cellsOf e)) z parts).map .agg else none
  |_=>none
def pe (P:Program)(H:ZJ)(id:Nat)(t:TypeId)(len:Nat)(parts:List (Nat × ZK)):Option (ZK × ZJ) :=
 match P.underlying t with
 |some (.slice e) =>
  if len*P.cellsOf e<=2 ^ 24 then
   (lS P e len).bind fun z=>(gM (fun i=>some (i*P.cellsOf e,P.cellsOf e)) z parts).bind fun cells =>
    (H.lay id (.J 0 e cells)).map fun H'=>(.U id 0 0 len (P.cellsOf e),H')
  else none
 |_=>none
def bI (P:Program)(op:BinOp)(t:TypeId)(x y:Operand)(a b:ZK):Option ZK :=
 match a.dG,b.dG with
 |some a,some b=>(bQ P (do eqGuard op t x y a b;binOp op t a b)).map .lit
 |_,_=>none
def rF (P:Program)(op:UnOp)(a:ZK):Option ZK :=
 match a.dG with
 |some a=>(bQ P (Op.unary op a)).map .lit
 |none=>none
def mE (P:Program)(s d:TypeId)(a:ZK):Option ZK :=
 match a.dG with
 |some a=>(bQ P (convert s d a)).map .lit
 |none=>none
def rG:List ZK->Option (List Int)
 | []=>some []
 |.lit (.int .u8 n) :: l=>(rG l).map (n :: ·)
 |_ :: _=>none
def Bi (l:List Int):ByteArray:=l.foldl (fun r n=>r.push (UInt8.ofNat n.toNat)) ByteArray.empty
def Bj (P:Program)(s d:TypeId):Bool:=match P.underlying s,P.underlying d with
 |some (.slice e),some .string=>match P.underlying e with
  |some (.int .u8)=>true
  |_=>false
 |_,_=>false
def pf (P:Program)(H:ZJ)(s d:TypeId)(x:ZK):Option ZK :=
 if Bj P s d then (dH H 1 x).bind fun nl=>(rG nl.2).map fun l=>.lit (.string (Bi l)) else none
def mF (P:Program)(H:ZJ)(s d:TypeId)(x:ZK):Option ZK:=match x with
 |.U id g o l z=>pf P H s d (.U id g o l z)
 |.Q l c=>pf P H s d (.Q l c)
 |x=>mE P s d x
def mG (H:ZJ):ZK->Option ZK
 |.M id gen off=>(H.V id gen).map fun _=>.M id gen off
 |.ni cells off=>some (.ni cells off)
 |.Z f a b=>some (.Z f a b)
 |_=>none
def qm (P:Program)(t:TypeId)(x:ZK)(i:ZK):Option ZK :=
 match x,i with
 |.agg cells,.lit (.int _ i) =>
  match P.underlying t with
  |some (.array n e)=>if 0<=i/\i<(n:Int) then jv P e cells (i.toNat*P.cellsOf e) else none
  |_=>none
 |.lit v,.lit i=>(bQ P (Instr.index t v i)).map .lit
 |_,_=>none
def ph:ZK->Nat->Option ZK
 |.nf vs,i=>vs[i]?
 |.lit (.tuple vs),i=>(vs[i]?).map .lit
 |_,_=>none
def ar (P:Program)(G:Nat->Option (List ZK))(ρ:Env)(H:ZJ)(id:Nat)(o:Op):Option (ZK × ZJ) :=
 match o with
 |.move x|.assign x=>some (ay G ρ x,H)
 |.pick c a b=>match ay G ρ c with
  |.lit (.bool t)=>some (if t then ay G ρ a else ay G ρ b,H)
  |_=>none
 |.alloc e=>(cw P e).bind fun z=>(H.lay id (.J 0 e z)).map fun H'=>(.M id 0 0,H')
 |.box e x=>(H.lay id (.J 0 e (ay G ρ x).cells)).map fun H'=>(.M id 0 0,H')
 |.build t parts=>(tB P t (parts.toList.map fun p=>(p.1,ay G ρ p.2))).map fun v=>(v,H)
 |.buildSlice t len parts=>pe P H id t len (parts.toList.map fun p=>(p.1,ay G ρ p.2))
 |.load t a=>(iN P H t (ay G ρ a)).map fun v=>(v,H)
 |.store t a x=>if (P.underlying t).isSome then (kO P H t (ay G ρ a) (ay G ρ x)).map fun H'=>(.lit undef,H') else none
 |.nilCheck x=>(mG H (ay G ρ x)).map fun v=>(v,H)
 |.binOp op t x y _=>(bI P op t x y (ay G ρ x) (ay G ρ y)).map fun v=>(v,H)
 |.unOp op _ x=>(rF P op (ay G ρ x)).map fun v=>(v,H)
 |.convert s d x=>(mF P H s d (ay G ρ x)).map fun v=>(v,H)
 |.makeInterface t x=>match (ay G ρ x).dG with
  |some v=>(bQ P (Instr.makeInterface t v)).map fun r=>(.lit r,H)
  |none=>none
 |.makeFunc fn first captured=>match fn with
  |.func f=>some (.Z f (first.toList.map (ay G ρ)) (captured.toList.map (ay G ρ)),H)
  |_=>none
 |.makeSlice t l c=>nK P H id t (ay G ρ l) (ay G ρ c)
 |.slice t x lo hi mx=>match mx with
  |none=>(oY P H t (ay G ρ x) (lo.map (ay G ρ)) (hi.map (ay G ρ))).map fun v=>(v,H)
  |some _=>none
 |.fieldAddr s x f=>(bU P s f).bind fun of=>match ay G ρ x with
  |.M id gen off=>(H.V id gen).map fun _=>(.M id gen (off+of.1),H)
  |.ni cells off=>some (.ni cells (off+of.1),H)
  |_=>none
 |.field t x f=>(bU P t f).bind fun of=>match ay G ρ x with
  |.agg cells=>(jv P of.2 cells of.1).map fun v=>(v,H)
  |.lit (.agg cs)=>(jv P of.2 (cs.toList.map .lit) of.1).map fun v=>(v,H)
  |_=>none
 |.indexAddr t x i=>match ay G ρ i with
  |.lit (.int _ i)=>(oX P H t (ay G ρ x) i).map fun v=>(v,H)
  |_=>none
 |.index t x i=>(qm P t (ay G ρ x) (ay G ρ i)).map fun v=>(v,H)
 |.extract t i=>(ph (ay G ρ t) i).map fun v=>(v,H)
 |.makeMap _ r=>match r with
  |none=>(H.lay id (.mp [])).map fun H'=>(.np id,H')
  |some _=>none
 |.lookup t x i ok=>(nJ P H t (ay G ρ x) (ay G ρ i) ok).map fun v=>(v,H)
 |.mapUpdate t m k x|.insert t m k x=>kg P H t (ay G ρ m) (ay G ρ k) (ay G ρ x)
 |.mapEntry t m k=>qk P H t (ay G ρ m) (ay G ρ k)
 |.entryStore _ m s x=>rD H (ay G ρ m) (ay G ρ s) (ay G ρ x)
 |.call c=>match c.callee with
  |.builtin b=>iO P H id b c.argTypes.toList (c.args.toList.map (ay G ρ))
  |_=>none
 |_=>none
end Go.Hx
namespace Go.Hx
variable {P:Program} {G:Nat->Option (List ZK)} {Γ Γ':aH} {H H':ZJ} {w w':World}
variable {c:Array Value}{b base gen id n o off:Nat}{e t:TypeId}{ca cv:Value}{a v:ZK}
def kh {cells:List ZK}(h:H.V id gen=some (e,cells)):H.get id=some (.J gen e cells):=by
 unfold ZJ.V at h;split at h
 ·rename_i g e' cells' hg;split at h
  ·rename_i hgg;simp only[Option.some.injEq,Prod.mk.injEq]at h;rw[hg,hgg,h.1,h.2]
  ·cases h
 ·cases h
def nng (P:Program)(Γ:aH)(H:ZJ)(w:World)(b o:Nat)(cells:List ZK):Prop :=
 ∃cs:List Value,cs.length=cells.length/\(∀i (h:i<cs.length),w.cell? ⟨b,o+i,none⟩=some cs[i]) /\
  ∀i (_:i<cells.length) (_:i<cs.length),ZO P Γ H w cells[i] cs[i]
def GT {f:Nat × Nat}{cells:List ZK}(hb:w.heap[b]?=some (.cells c e f))(hle:base+cells.length<=c.size)
  (hrel:∀i (_:i<cells.length),∃cv,c[base+i]?=some cv/\ZO P Γ H w cells[i] cv):nng P Γ H w b base cells:=by
 refine⟨(c.toList.drop base).take cells.length,by simp;omega,fun i hi=>?_,fun i h1 h2=>?_⟩
 ·rw[Bg hb];simp only[VK,Wi,Xm]at hi;simp only[XQ,XR,WE];rw[VL O]
 ·obtain⟨cv,a1,a2⟩:=hrel i h1;simp only[XQ,XR,WE];rw[VL O]at a1;simp only[Option.some.injEq]at a1;rw[a1];exact a2
theorem nng.drop {cells:List ZK}(h:nng P Γ H w b o cells)(k n:Nat)(hk:k+n<=cells.length):nng P Γ H w b (o+k) ((cells.drop k).take n):=by
 obtain⟨cs,h1,h2,h3⟩:=h;refine⟨(cs.drop k).take n,by simp[h1],fun i hi=>?_,fun i a1 a2=>?_⟩
 ·simp only[VK,Wi]at hi;have:=h2 (k+i) O;simp only[XQ,XR];rw[<- this];congr 2;omega
 ·simp only[XQ,XR];simp only[VK,Wi]at a1 a2;exact h3 (k+i) O (O)
def vB {cells:List ZK}(hp:jv P t cells off=some v)(hr:nng P Γ H w b o cells):
  ∃cv,(loadVar t ⟨b,o+off,none⟩).run P w=.ok cv w/\ZO P Γ H w v cv:=by
 unfold jv at hp;split at hp
 ·cases hp
 ·rename_i d hd;split at hp
  ·rename_i ha;split at hp
   ·rename_i hle;simp only[Option.some.injEq]at hp;subst hp;obtain⟨cs,h1,h2,h3⟩:=hr.drop off (P.cellsOf t) hle;refine⟨.agg cs.toArray,GE hd ha ?_ h2,.agg h1 h3⟩;rw[h1];simp;omega
   ·cases hp
  ·rename_i ha;obtain⟨cs,h1,h2,h3⟩:=hr;obtain⟨hlt,hv⟩:=VX.1 hp;subst hv;exact⟨cs[off]' O,GF hd (by simpa using ha) (h2 off O),h3 off hlt O⟩
def rH {cells:List ZK}(h:ZO P Γ H w (.M id gen off) cv)(hl:H.V id gen=some (e,cells)):
  ∃b base n,Γ id=some (b,base,n)/\cv=.pointer (some ⟨b,base+off,none⟩):=by
 cases h with
 |M h=>exact(h.2.2.2 gen e cells (kh hl)).2 rfl
def kR {len sz:Nat}{cells:List ZK}(h:ZO P Γ H w (.U id gen off len sz) cv)(hl:H.V id gen=some (e,cells)):
  (∃b base n a cap,Γ id=some (b,base,n)/\cv=.slice (some a) len cap/\len<=cap/\off+len*sz<=cells.length /\
   ((a=⟨b,base+off,none⟩/\base+off+cap*sz<=n)\/(len=0/\cap=0))) \/
  (Γ id=none/\off=0/\len=0/\cv=.slice none 0 0):=by
 cases h with
 |U h =>
  have:=(h.2.2.2 gen e cells (kh hl)).2 rfl;cases hg:Γ id with
  |none=>rw[hg]at this;exact .inr ⟨rfl,this⟩
  |some x =>
   obtain⟨b,base,n⟩:=x;rw[hg]at this;obtain⟨a,cap,h1,h2,h3,h4⟩:=this;exact .inl ⟨b,base,n,a,cap,rfl,h1,h2,h3,h4⟩
def rI (R:ZT P G Γ H w){cells:List ZK}(hl:H.V id gen=some (e,cells))(hΓ:Γ id=some (b,base,n)):
  ∃c,w.heap[b]?=some (.cells c e (0,0))/\c.size=n/\base+cells.length<=n/\∀i (_:i<cells.length),∃cv,c[base+i]?=some cv/\ZO P Γ H w cells[i] cv:=by
 have:=R.J id gen e cells (kh hl);rw[hΓ]at this;exact this
def tC (R:ZT P G Γ H w){cells:List ZK}(hl:H.V id gen=some (e,cells))(hΓ:Γ id=some (b,base,n)):
  nng P Γ H w b base cells:=by
 obtain⟨c,h1,h2,h3,h4⟩:=rI R hl hΓ;exact GT h1 O h4
def GU (R:ZT P G Γ H w)(h:iN P H t a=some v)(ha:ZO P Γ H w a ca):
  ∃cv,(Instr.loadAt t ca).run P w=.ok cv w/\ZO P Γ H w v cv:=by
 unfold iN at h;split at h
 ·rename_i id gen off;split at h
  ·rename_i g e cells hg;split at h
   ·rename_i hgg;have hl:H.V id gen=some (e,cells):=(by simp[ZJ.V,hg,hgg]);obtain⟨b,base,n,hΓ,rfl⟩:=rH ha hl;obtain⟨cv,h1,h2⟩:=vB h (tC R hl hΓ);refine⟨cv,?_,h2⟩;unfold Instr.loadAt Instr.sureAddr;exact h1
   ·cases h
  ·cases h
 ·rename_i cells off;cases ha with
  |ni hb hlt hcs hcell hrel =>
   obtain⟨cv,h1,h2⟩:=vB h ⟨_,hcs,hcell,hrel⟩;exact⟨cv,h1,h2⟩
 ·cases h
def vC {cells:List ZK}{cs:List Value}(h:cells.all ZK.one=true)(hl:cs.length=cells.length)
  (hr:∀i (_:i<cells.length) (_:i<cs.length),ZO P Γ H w cells[i] cs[i]):∀v,v∈cs->v.oneCell=true:=by
 intro v hv;obtain⟨i,hi,rfl⟩:=List.getElem_of_mem hv;exact(hr i O hi).one (VZ.1 h _ (Wo O))
def vD {cells vs:List ZK}{cvs:List Value}(hle:off+vs.length<=cells.length)(hc:base+cells.length<=c.size)
  (hl:cvs.length=vs.length) (hrel:∀i (_:i<cells.length),∃cv,c[base+i]?=some cv/\ZO P Γ H w cells[i] cv)
  (hv:∀i (_:i<vs.length) (_:i<cvs.length),ZO P Γ H w vs[i] cvs[i]):
  ∀i (_:i<(setAt cells off vs).length),∃cv,(setRow c (base+off) cvs)[base+i]?=some cv/\ZO P Γ H w (setAt cells off vs)[i] cv:=by
 intro i hi;have hi':=hi;rw[rz hle]at hi';rw[Be _ _ _ O];have hg:(setAt cells off vs)[i]?=some (setAt cells off vs)[i]:=Vz hi;rw[GI hle]at hg;by_cases h1:off<=i/\i<off+vs.length
 ·rw[VA h1]at hg;rw[VA O];have h2:i-off<vs.length:=O
  rw[Vz h2]at hg;simp only[Option.some.injEq]at hg;rw[<- hg];refine⟨cvs[i-off]' O,?_,hv _ h2 O⟩;rw[show base+i-(base+off)=i-off from by omega,Vz O]
 ·rw[Vx h1,Vz hi']at hg;rw[Vx O];simp only[Option.some.injEq]at hg;rw[<- hg];exact hrel i hi'
def GV (R:ZT P G Γ H w)(h:kO P H t a v=some H')(ht:∃i,P.info? t=some i)(ha:ZO P Γ H w a ca)(hv:ZO P Γ H w v cv):
  ∃w',(Instr.storeAt t ca cv).run P w=.ok () w'/\ZX Γ H w Γ H' w'/\H.A<=H'.A/\ZT P G Γ H' w':=by
 unfold kO at h;split at h
 ·rename_i id gen off;split at h
  ·rename_i g e cells hg;split at h
   ·rename_i hgg;obtain⟨hgg,h1,h2,h3⟩:=hgg;simp only[Option.some.injEq]at h;subst h;have hl:H.V id gen=some (e,cells):=(by simp[ZJ.V,hg,hgg]);obtain⟨b,base,n,hΓ,rfl⟩:=rH ha hl;obtain⟨c,c1,c2,c3,c4⟩:=rI R hl hΓ;obtain⟨v1,v2⟩:=hv.cells;obtain⟨i,hi⟩:=ht;have hrun:(Instr.storeAt t (.pointer (some ⟨b,base+off,none⟩)) cv).run P w=.ok () (cB w b (.cells (setRow c (base+off) cv.cells.toList) e (0,0))):=by
     unfold Instr.storeAt Instr.sureAddr;rw[az (Sem.run_pure P w _)];unfold storeVar;rw[az (run_sizeOf hi)];have:¬(cv.cells.size≠P.cellsOf t):=(by rw[<- h1,<- v1];simp);rw[Vx this];have hrun:=tx (P:=P) cv.cells.toList c (base+off) 0 w c1 O (vC h2 v1 v2);exact hrun
    obtain⟨E,R'⟩:=ye (cells':=setAt cells off v.cells) (c':=setRow c (base+off) cv.cells.toList) R hg hΓ (rz h3) (by rw[size_setRow,c2])
     (vD h3 O v1 c4 v2)
    exact⟨_,hrun,E,ZI,R'⟩
   ·cases h
  ·cases h
 ·cases h
end Go.Hx
namespace Go.Hx
variable {P:Program} {G:Nat->Option (List ZK)} {Γ Γ':aH} {H H':ZJ} {w w':World}
variable {cparts:Array (Nat × Value)}{cs:Array Value}{parts:List (Nat × ZK)}{z:List ZK}{b id n:Nat}{place:Nat->Option (Nat × Nat)}{e t:TypeId}{v:Value}
def eE (P:Program)(Γ:aH)(H:ZJ)(w:World)(cells:List ZK)(cs:Array Value):Prop :=
 cs.size=cells.length/\∀i (_:i<cells.length) (h:i<cs.size),ZO P Γ H w cells[i] cs[i]
theorem eE.lit (cs:Array Value):eE P Γ H w (cs.toList.map .lit) cs :=
 ⟨ZF,fun i h1 h2=>by simp only[VO,WE];exact .lit _⟩
def eE.get {cells:List ZK}(h:eE P Γ H w cells cs){i:Nat}(hi:i<cells.length):∃cv,cs[i]?=some cv/\ZO P Γ H w cells[i] cv :=
 ⟨cs[i]'(by rw[h.1];exact hi),by rw[VL],h.2 i hi (by rw[h.1];exact hi)⟩
def rM (h:cw P t=some z):∃i v,P.info? t=some i/\i.zero=some v/\v.cells.size=i.size/\z=v.cells.toList.map .lit/\P.cellsOf t=i.size:=by
 unfold cw at h;split at h
 ·rename_i i hi;split at h
  ·rename_i v hv;split at h
   ·rename_i hs;simp only[Option.some.injEq]at h;exact⟨i,v,hi,hv,hs,h.symm,by simp[Program.cellsOf,hi]⟩
   ·cases h
  ·cases h
 ·cases h
def qw {i:TypeInfo}(hi:P.info? t=some i)(hv:i.zero=some v):(zeroValue t).run P w=.ok v w:=by
 unfold zeroValue;rw[az (run_typeInfo hi)];simp[hv]
def GZ:∀(vs:List Value) (cs:Array Value) (off k:Nat),
  (vs.zipIdx k).foldl (fun cs (p:Value × Nat)=>cs.setIfInBounds (off+p.2) p.1) cs=setRow cs (off+k) vs:=by
 intro vs
 induction vs with
 |nil=>intro cs off k;rfl
 |cons v vs ih=>intro cs off k;rw[List.zipIdx_cons,V6,ih];rfl
def G1 {cells vs:List ZK}{cvs:List Value}{off:Nat}(h:eE P Γ H w cells cs)(hle:off+vs.length<=cells.length)(hl:cvs.length=vs.length)
  (hv:∀i (_:i<vs.length) (_:i<cvs.length),ZO P Γ H w vs[i] cvs[i]):eE P Γ H w (setAt cells off vs) (setRow cs off cvs):=by
 refine⟨by rw[size_setRow,rz hle,h.1],fun i h1 h2=>?_⟩;have:=vD (base:=0) hle (by rw[h.1];omega) hl (fun i hi=>by rw[Nat.zero_add];exact h.get hi) hv i h1;rw[Nat.zero_add,Nat.zero_add]at this;obtain⟨cv,a1,a2⟩:=this;rw[VL h2]at a1;simp only[Option.some.injEq]at a1;rw[a1];exact a2
def yr :∀(parts:List (Nat × ZK)) (cparts:List (Nat × Value)) (cells cells':List ZK) (cs:Array Value),
  gM place cells parts=some cells'->eE P Γ H w cells cs->cparts.length=parts.length ->
  (∀i (h1:i<parts.length) (h2:i<cparts.length),parts[i].1=cparts[i].1/\ZO P Γ H w parts[i].2 cparts[i].2) ->
  ∃cs',Instr.fill place cs cparts=some cs'/\eE P Γ H w cells' cs':=by
 intro parts
 induction parts with
 |nil =>
  intro cparts cells cells' cs h hr hl _;simp only[gM,Option.some.injEq]at h;subst h;have:cparts=[]:=by simpa using hl
  subst this;exact⟨cs,rfl,hr⟩
 |cons p parts ih =>
  intro cparts cells cells' cs h hr hl hp;cases cparts with
  |nil=>simp at hl
  |cons cp cparts =>
   obtain⟨i,v⟩:=p;obtain⟨ci,cv⟩:=cp;obtain⟨h0,hv⟩:=hp 0 ZF ZF;simp only[Wq]at h0 hv;subst h0;simp only[gM]at h;simp only[Instr.fill];split at h
   ·cases h
   ·rename_i off size hpl;rw[hpl];split at h
    ·rename_i hc;obtain⟨v1,v2⟩:=hv.cells;have hn:(decide (cv.cells.size≠size) ||decide (off+cv.cells.size > cs.size))=false:=by
      have:cv.cells.size=v.cells.length:=(by rw[<- v1];simp);have:=hr.1;simp;omega
     simp only[hn,Bool.false_eq_true,if_false];have hf:cv.cells.zipIdx.foldl (fun cs (p:Value × Nat)=>cs.setIfInBounds (off+p.2) p.1) cs=setRow cs off cv.cells.toList:=by
      have:=GZ cv.cells.toList cs off 0;rw[Nat.add_zero]at this;rw[<- this,<- Array.foldl_toList,Array.toList_zipIdx]
     rw[hf];exact ih cparts _ _ _ h (G1 hr hc.2 v1 v2) (by simpa using hl)
      (fun i h1 h2=>hp (i+1) (by simpa using h1) (by simpa using h2))
    ·cases h
def G2 :∀ {parts:List (Nat × ZK)} {cells cells':List ZK},gM place cells parts=some cells'->cells'.length=cells.length:=by
 intro parts
 induction parts with
 |nil=>intro cells cells' h;simp only[gM,Option.some.injEq]at h;rw[h]
 |cons p parts ih =>
  intro cells cells' h;obtain⟨i,v⟩:=p;simp only[gM]at h;split at h
  ·cases h
  ·split at h
   ·rename_i hc;rw[ih h,rz hc.2]
   ·cases h
def yt {α:Type}(z:List α):∀(n i:Nat) (_:i<n*z.length),(List.replicate n z).flatten[i]?=z[i % z.length]?:=by
 intro n
 induction n with
 |zero=>intro i h;simp at h
 |succ n ih =>
  intro i h;rw[WC,List.flatten_cons];by_cases hi:i<z.length
  ·rw[VH hi,X7 hi]
  ·rw[VS O,ih (i-z.length) (by rw[YQ]at h;omega)];rw[<- Nat.mod_eq_sub_mod O]
def yu (hz:z=v.cells.toList.map .lit):
  eE P Γ H w (List.replicate n z).flatten ((Array.range (n*v.cells.size)).map (v.cells[· % v.cells.size]!)):=by
 have hzl:z.length=v.cells.size:=by rw[hz];simp
 refine⟨by simp[hzl],fun i h1 h2=>?_⟩;have hi:i<n*v.cells.size:=by simpa using h2
 have hpos:0<v.cells.size:=by
  rcases WM v.cells.size with h|h
  ·rw[h]at hi;simp at hi
  ·exact h
 have hg:=yt z n i (by rw[hzl];exact hi);rw[Vz h1,hzl]at hg;have hm:i % v.cells.size<v.cells.size:=Yb _ hpos;have hz2:z[i % v.cells.size]?=some (.lit v.cells[i % v.cells.size]):=by
  rw[hz,List.getElem?_map,Array.getElem?_toList,VL hm];rfl
 rw[hz2]at hg;simp only[Option.some.injEq]at hg;rw[hg];simp only[XS,Array.getElem_range];rw[getElem!_pos v.cells _ hm];exact .lit _
def G3 {v:ZK}(h:tB P t parts=some v)(hl:cparts.toList.length=parts.length)
  (hp:∀i (h1:i<parts.length) (h2:i<cparts.toList.length),parts[i].1=cparts.toList[i].1/\ZO P Γ H w parts[i].2 cparts.toList[i].2):
  ∃cv,(Instr.build t cparts).run P w=.ok cv w/\ZO P Γ H w v cv:=by
 unfold tB at h;simp only[VC]at h;obtain⟨z,hz,h⟩:=h;obtain⟨i,zv,hi,hzv,_,hzz,_⟩:=rM hz;unfold Instr.build;rw[az (qw hi hzv)];have hz0:eE P Γ H w z zv.cells:=hzz ▸ eE.lit _;split at h
 ·rename_i fs hd;simp only[VC,Vw]at h;obtain⟨pl,hpl,cells,hf,rfl⟩:=h;rw[az (dp hd)];simp only;unfold jw at hpl;rw[hd]at hpl;simp only at hpl;split at hpl
  ·rename_i hall;simp only[Option.some.injEq]at hpl;have hplaces:(fs.mapM fun (f:Field)=>(do pure (f.offset,<- sizeOf f.type):Sem (Nat × Nat))).run P w=.ok (fs.map fun f=>(f.offset,P.cellsOf f.type)) w:=by
    rw[Zb];have key:∀(l:List Field),(l.all fun f=>(P.info? f.type).isSome)=true ->
      (l.mapM fun (f:Field)=>(do pure (f.offset,<- sizeOf f.type):Sem (Nat × Nat))).run P w=.ok (l.map fun f=>(f.offset,P.cellsOf f.type)) w:=by
     intro l
     induction l with
     |nil=>intro _;rfl
     |cons f l ih =>
      intro ha;simp only[List.all_cons,Wh]at ha;obtain⟨j,hj⟩:=Wj.1 ha.1;rw[List.mapM_cons,az (a:=(f.offset,P.cellsOf f.type)) (w':=w) (by rw[az (run_sizeOf hj)];rfl),az (ih ha.2)];rfl
    rw[Sem.run_map,key _ hall,Result.andThen_ok,<- YU,YE]
   rw[az hplaces];obtain⟨cs',hc1,hc2⟩:=yr parts cparts.toList z cells zv.cells hf hz0 hl hp;have hpe:(fun i:Nat=>(fs.map fun f=>(f.offset,P.cellsOf f.type))[i]?)=fun i=>pl[i]?:=by
    funext i
    rw[<- hpl];simp
   rw[hpe,hc1];exact⟨_,rfl,.agg (by simpa using hc2.1) (fun i h1 h2=>by simpa using hc2.2 i h1 (by simpa using h2))⟩
  ·cases hpl
 ·rename_i n e hd;split at h
  ·rename_i he;simp only[Vw]at h;obtain⟨cells,hf,rfl⟩:=h;obtain⟨d,hde⟩:=Wj.1 he;rw[az (dp hd)];simp only;rw[az (jO hde)];obtain⟨cs',hc1,hc2⟩:=yr parts cparts.toList z cells zv.cells hf hz0 hl hp;rw[hc1];exact⟨_,rfl,.agg (by simpa using hc2.1) (fun i h1 h2=>by simpa using hc2.2 i h1 (by simpa using h2))⟩
  ·cases h
 ·cases h
def yw {cells:List ZK}{len cap sz:Nat}{Γ':aH}(hget:H'.get id=some (.J 0 e cells))(hn:id<H'.A)(hΓ:Γ' id=some (b,0,n))
  (hlen:len<=cap) (hle:len*sz<=cells.length) (hcap:cap*sz<=n):ZO P Γ' H' w' (.U id 0 0 len sz) (.slice (some ⟨b,0,none⟩) len cap):=by
 refine .U ⟨hn,rfl,by rw[hget];simp,fun g e' cells' hg=>?_⟩;rw[hget]at hg;simp only[Option.some.injEq,ZQ.J.injEq]at hg;obtain⟨rfl,rfl,rfl⟩:=hg;refine⟨ZI,fun _=>?_⟩;rw[hΓ];exact⟨⟨b,0,none⟩,cap,rfl,hlen,O,.inl ⟨rfl,O⟩⟩
def Bm {cells:List ZK}{Γ':aH}(hget:H'.get id=some (.J 0 e cells))(hn:id<H'.A)(hΓ:Γ' id=some (b,0,n)):
  ZO P Γ' H' w' (.M id 0 0) (.pointer (some ⟨b,0,none⟩)):=by
 refine .M ⟨hn,rfl,by rw[hget];simp,fun g e' cells' hg=>?_⟩;rw[hget]at hg;simp only[Option.some.injEq,ZQ.J.injEq]at hg;obtain⟨rfl,rfl,rfl⟩:=hg;exact⟨ZI,fun _=>⟨b,0,n,hΓ,ZF⟩⟩
def G4 {len:Nat}{v:ZK}(R:ZT P G Γ H w)(h:pe P H id t len parts=some (v,H'))(hl:cparts.toList.length=parts.length)
  (hp:∀i (h1:i<parts.length) (h2:i<cparts.toList.length),parts[i].1=cparts.toList[i].1/\ZO P Γ H w parts[i].2 cparts.toList[i].2):
  ∃cv Γ' w',(Instr.buildSlice t len cparts).run P w=.ok cv w'/\ZX Γ H w Γ' H' w'/\H.A<=H'.A/\ZT P G Γ' H' w'/\ZO P Γ' H' w' v cv:=by
 unfold pe at h;split at h
 ·rename_i e hd;split at h
  ·rename_i hle;simp only[VC,Vw,Prod.mk.injEq]at h;obtain⟨zs,hzs,cells,hf,H1,hlay,rfl,rfl⟩:=h;unfold lS at hzs;simp only[Vw]at hzs;obtain⟨z,hz,rfl⟩:=hzs;obtain⟨i,zv,hi,hzv,hsz,hzz,hcells⟩:=rM hz;have hz0:eE P Γ H w (List.replicate len z).flatten ((Array.range (len*zv.cells.size)).map (zv.cells[· % zv.cells.size]!)):=yu hzz;obtain⟨cs',hc1,hc2⟩:=yr parts cparts.toList _ cells _ hf hz0 hl hp;have hrun:(Instr.buildSlice t len cparts).run P w=.ok (.slice (some ⟨w.heap.size,0,none⟩) len len) (w.alloc (.cells cs' e)):=by
    unfold Instr.buildSlice;rw[az (dp hd)];simp only;rw[az (run_sizeOf hi)];rw[Vx O];have hcs:P.cellsOf e=zv.cells.size:=(by rw[hcells,hsz]);rw[hcs];rw[hcs]at hc1;by_cases h0:len*zv.cells.size=0
    ·rw[h0]at hc1;rw[VA h0];rw[az (Sem.run_pure P w _)];have he:∀f:Nat->Value,(Array.range 0).map f=#[]:=fun _=>X6 ZF;have he2:∀f:Nat->Value,(Array.range (len*zv.cells.size)).map f=#[]:=fun _=>X6 (by simp[h0]);rw[he]at hc1;rw[he2,hc1];rfl
    ·rw[Vx h0];rw[az (qw hi hzv),az (Sem.run_pure P w _),hc1];rfl
   have hlen:len*P.cellsOf e<=cells.length:=by
    have h1:=G2 hf;rw[h1];simp[hzz,hcells,hsz]
   obtain⟨E,hn,R'⟩:=rB (c:=cs') R hlay (by rw[hc2.1];exact Nat.le_refl _) (fun i hi=>hc2.get hi);obtain⟨hget,_⟩:=kQ hlay;obtain⟨_,_,_,hid⟩:=oW R hlay;exact⟨_,_,_,hrun,E,hn,R',yw (by rw[hget,VA rfl]) hid (aH.fh _ _ _) ZI hlen (by rw[hc2.1];exact hlen)⟩
  ·cases h
 ·cases h
end Go.Hx
namespace Go.Hx
variable {P:Program} {G:Nat->Option (List ZK)} {Γ Γ':aH} {H H':ZJ} {w w':World}
variable {id k:Nat}{t:TypeId}{cv:Value}{v:ZK}
def wrap_small {n:Int}(h0:0<=n)(h1:n<=2 ^ 46):IntKind.i64.wrap n=n:=Vv n (O)
def Bq {i:TypeInfo}(h:P.info? t=some i):P.bytesOf t=i.bytes:=by simp[Program.bytesOf,h]
def G7 {l c:ZK}{cl cc:Value}(R:ZT P G Γ H w)(h:nK P H id t l c=some (v,H'))(hl:ZO P Γ H w l cl)(hc:ZO P Γ H w c cc):
  ∃cv Γ' w',(Instr.makeSlice t cl cc).run P w=.ok cv w'/\ZX Γ H w Γ' H' w'/\H.A<=H'.A/\ZT P G Γ' H' w'/\ZO P Γ' H' w' v cv:=by
 unfold nK at h;split at h
 ·rename_i e kl ln kc cn hd;cases hl;cases hc;split at h
  ·rename_i hb;obtain ⟨b1,b2,b3,b4⟩:=hb;simp only [VC,Vw,Prod.mk.injEq] at h;obtain ⟨zs,hzs,H1,hlay,rfl,rfl⟩:=h;unfold lS at hzs;simp only [Vw] at hzs;obtain ⟨z,hz,rfl⟩:=hzs;obtain ⟨i,zv,hi,hzv,hsz,hzz,hcells⟩:=rM hz;have hcs : P.cellsOf e=zv.cells.size:=(by rw [hcells,hsz]);have hw1:=wrap_small b1 (by omega : ln≤2 ^ 46);have hw2:=wrap_small (by omega : 0≤cn) b4;have hzr : eE P Γ H w (List.replicate cn.toNat z).flatten ((Array.range (cn.toNat*zv.cells.size)).map (zv.cells[· % zv.cells.size]!)):=yu hzz;have hrun : (Instr.makeSlice t (.int kl ln) (.int kc cn)).run P w=.ok (.slice (some ⟨w.heap.size,0,none⟩) ln.toNat cn.toNat)
     (w.alloc (.cells ((Array.range (cn.toNat*zv.cells.size)).map (zv.cells[· % zv.cells.size]!)) e)):=by
    unfold Instr.makeSlice;rw[az (dp hd)];simp only;have ai:∀(k:IntKind) (n:Int),(asInt (.int k n)).run P w=.ok n w:=fun _ _=>rfl;rw[az (ai _ _),az (ai _ _),az (run_typeInfo hi)];simp only[hw1,hw2];have hbi:=Bq hi;have hmul:(i.bytes:Int)*cn<=2 ^ 46:=(by rw[<- hbi,W5];exact b3);rw[Vx (by simp;omega)];rw[az (run_askRoom P w _),az (run_sizeOf hi)];rw[hcs];by_cases h0:cn.toNat*zv.cells.size=0
    ·rw[VA h0,az (Sem.run_pure P w _)];have he2:∀f:Nat->Value,(Array.range (cn.toNat*zv.cells.size)).map f=#[]:=fun _=>X6 (by simp[h0]);rw[he2,he2];rfl
    ·rw[Vx h0,az (qw hi hzv),az (Sem.run_pure P w _)];rfl
   have hzl:z.length=zv.cells.size:=(by rw[hzz];simp);have hsize:((Array.range (cn.toNat*zv.cells.size)).map (zv.cells[· % zv.cells.size]!)).size=cn.toNat*zv.cells.size:=ZF;have hle:ln.toNat*zv.cells.size<=cn.toNat*zv.cells.size:=We _ O;have hlen1:(List.replicate ln.toNat z).flatten.length=ln.toNat*zv.cells.size:=(by simp[hzl]);obtain⟨E,hn,R'⟩:=rB (c:=(Array.range (cn.toNat*zv.cells.size)).map (zv.cells[· % zv.cells.size]!)) R hlay (by rw[hsize,hlen1];exact hle)
    (fun i hi=>by
     rw[hlen1]at hi;have h1:=yt z ln.toNat i (by rw[hzl];exact hi);have h2:=yt z cn.toNat i (by rw[hzl];omega);obtain⟨cv,a1,a2⟩:=hzr.get (i:=i) (by simp[hzl];omega);refine⟨cv,a1,?_⟩;have:(List.replicate ln.toNat z).flatten[i]=(List.replicate cn.toNat z).flatten[i]'(by simp[hzl];omega):=by
      rw[Vz (by rw[hlen1];exact hi)]at h1;rw[Vz (by simp[hzl];omega)]at h2;rw[<- h1]at h2;simpa using h2.symm
     rw[this];exact a2)
   obtain⟨hget,_⟩:=kQ hlay;obtain⟨_,_,_,hid⟩:=oW R hlay;refine⟨_,_,_,hrun,E,hn,R',yw (by rw[hget,VA rfl]) hid (aH.fh _ _ _) O ?_ ?_⟩
   ·rw[hlen1,hcs];exact Nat.le_refl _
   ·rw[hsize,hcs];exact Nat.le_refl _
  ·cases h
 ·cases h
def yx (k:IntKind)(n:Int):(asIntOf (.int k n)).run P w=.ok (k,n) w:=rfl
def Br {gen off:Nat}{e:TypeId}{cells:List ZK}(h:ZO P Γ H w (.M id gen off) cv)(hl:H.V id gen=some (e,cells)):
  ∃a,cv=.pointer (some a)/\ZO P Γ H w (.M id gen (off+k)) (.pointer (some (a.add k))):=by
 obtain⟨b,base,n,hΓ,rfl⟩:=rH h hl;refine⟨_,rfl,?_⟩;rw[lQ];cases h with
 |M h =>
  refine .M ⟨h.1,rfl,h.2.2.1,fun g e' cells' hg=>?_⟩;refine⟨(h.2.2.2 g e' cells' hg).1,fun _=>⟨b,base,n,hΓ,?_⟩⟩;rw[W6]
def Bs {cells:List ZK}{off:Nat}(h:ZO P Γ H w (.ni cells off) cv):
  ∃a,cv=.pointer (some a)/\ZO P Γ H w (.ni cells (off+k)) (.pointer (some (a.add k))):=by
 cases h with
 |ni hb hlt hcs hcell hrel =>
  refine⟨_,rfl,?_⟩;rw[lQ,W6];exact .ni hb hlt hcs hcell hrel
def G8 {x:ZK}{k:IntKind}{i:Int}{cx:Value}(h:oX P H t x i=some v)(hx:ZO P Γ H w x cx):
  ∃cv,(Instr.indexAt t cx (.int k i)).run P w=.ok cv w/\ZO P Γ H w v cv:=by
 unfold oX at h;unfold Instr.indexAt;rw[az (yx k i)];simp only;split at h
 ·rename_i n e hd;split at h
  ·rename_i hc;obtain ⟨c1,c2,c3⟩:=hc;obtain ⟨d,hde⟩:=Wj.1 c3;rw [az (dp hd)];simp only;have fin : ∀ a : Addr,((do
      let tiny:=decide (n<=1) && (match <- underlying t with|.array ..=>true|_=>false)
      match (some a:Option Addr) with
      |some a =>
       if 0≤i∧i<(n : Int) then pure (.pointer (some (a.add (i.toNat*(← sizeOf e)))))
              else if tiny then unsupported (.noEntry "op/indexAddr.an index out of range at an array of length 0 or 1 (ledger 616)")
       else boundsPanic k i n .index
      |none=>boundsPanic k i 0 .index):Sem Value).run P w=.ok (.pointer (some (a.add (i.toNat*P.cellsOf e)))) w:=by
    intro a;rw[az (dp hd)];simp only;rw[VA ⟨c1,c2⟩,az (jO hde)];rfl
   split at h
   ·rename_i id gen off;simp only[Vw]at h;obtain⟨ec,hl,rfl⟩:=h;obtain⟨a,rfl,hr⟩:=Br (k:=i.toNat*P.cellsOf e) hx hl;exact⟨_,fin a,hr⟩
   ·rename_i cells off;simp only[Option.some.injEq]at h;subst h;obtain⟨a,rfl,hr⟩:=Bs (k:=i.toNat*P.cellsOf e) hx;exact⟨_,fin a,hr⟩
   ·cases h
  ·cases h
 ·rename_i e hd;split at h
  ·rename_i hc;obtain ⟨d,hde⟩:=Wj.1 hc;rw [az (dp hd)];have fin : ∀ (a : Addr) (len : Nat),0≤i∧i<(len : Int)→((do
      let tiny:=decide (len<=1) && (match <- underlying t with|.array ..=>true|_=>false)
      match (some a:Option Addr) with
      |some a =>
       if 0≤i∧i<(len : Int) then pure (.pointer (some (a.add (i.toNat*(← sizeOf e)))))
              else if tiny then unsupported (.noEntry "op/indexAddr.an index out of range at an array of length 0 or 1 (ledger 616)")
       else boundsPanic k i len .index
      |none=>boundsPanic k i 0 .index):Sem Value).run P w=.ok (.pointer (some (a.add (i.toNat*P.cellsOf e)))) w:=by
    intro a len hi;rw[az (dp hd)];simp only;rw[VA hi,az (jO hde)];rfl
   split at h
   ·rename_i id gen off len sz;split at h
    ·rename_i hi;simp only[Vw]at h;obtain⟨⟨e',cells⟩,hl,rfl⟩:=h;rcases kR hx hl with ⟨b,base,n,a,cap,hΓ,rfl,h1,h2,h3⟩|⟨_,_,h0,_⟩
     ·have ha:a=⟨b,base+off,none⟩:=by
       rcases h3 with h3|h3
       ·exact h3.1
       ·omega
      subst ha;refine⟨_,fin _ len ⟨hi.1,hi.2.1⟩,?_⟩;rw[lQ];cases hx with
      |U hx =>
       refine .M ⟨hx.1,rfl,hx.2.2.1,fun g e'' cells'' hg=>?_⟩;refine⟨(hx.2.2.2 g e'' cells'' hg).1,fun _=>⟨b,base,n,hΓ,?_⟩⟩;rw[W6]
     ·omega
    ·cases h
   ·rename_i len cells;split at h
    ·rename_i hi;simp only[Option.some.injEq]at h;subst h;cases hx with
     |nu=>exact absurd rfl hi.2.2
     |Q hb hlt hlen hcs hcell hrel =>
      refine⟨_,fin _ len ⟨hi.1,hi.2.1⟩,?_⟩;rw[lQ];exact .ni hb hlt hcs hcell hrel
    ·cases h
   ·cases h
  ·cases h
 ·cases h
end Go.Hx
namespace Go.Hx
variable {P:Program} {G:Nat->Option (List ZK)} {Γ Γ':aH} {H H':ZJ} {w w':World}
variable {hi lo:Option ZK}{cv:Value}
def rN (P:Program)(Γ:aH)(H:ZJ)(w:World):Option ZK->Option Value->Prop
 |none,none=>True
 |some v,some cv=>ZO P Γ H w v cv
 |_,_=>False
def run_sliceBound {k:IntKind}{i:Int}{y:Nat}{code:BoundsCode}(h:0<=i/\i<=(y:Int)):(Instr.sliceBound (.int k i) y code).run P w=.ok i.toNat w:=by
 unfold Instr.sliceBound;rw[az (yx k i)];simp only;rw[VA h];rfl
def Bt {o:Option ZK}{co:Option Value}{d m n:Nat}(h:cK o d m=some n)(hr:rN P Γ H w o co):
  (o=none/\co=none/\n=d)\/∃k i,co=some (.int k i)/\0<=i/\i<=(m:Int)/\n=i.toNat:=by
 cases o with
 |none =>
  cases co with
  |none=>simp only[cK,Option.some.injEq]at h;exact .inl ⟨rfl,rfl,h.symm⟩
  |some _=>exact hr.elim
 |some v =>
  cases co with
  |none=>exact hr.elim
  |some cv =>
   have hv:ZO P Γ H w v cv:=hr;cases v with
   |lit x =>
    cases x with
    |int k i =>
     cases hv;simp only[cK]at h;split at h
     ·rename_i hi;simp only[Option.some.injEq]at h;exact .inr ⟨k,i,rfl,hi.1,hi.2,h.symm⟩
     ·cases h
    |_=>simp[cK]at h
   |_=>simp[cK]at h
def nN {Z chi:Option Value}{s:Bool}{len cap l h:Nat}(hh:cK hi len len=some h)(hl:cK lo 0 h=some l)(hlen:len<=cap)
  (rh:rN P Γ H w hi chi) (rl:rN P Γ H w lo Z):(Instr.sliceBounds s len cap Z chi none).run P w=.ok (l,h,cap) w/\l<=h/\h<=len:=by
 rcases Bt hh rh with ⟨rfl,rfl,rfl⟩|⟨k,i,rfl,i0,i1,rfl⟩<;>rcases Bt hl rl with ⟨rfl,rfl,rfl⟩|⟨k',j,rfl,j0,j1,rfl⟩
 ·exact⟨rfl,O,ZI⟩
 ·refine⟨?_,O,ZI⟩;unfold Instr.sliceBounds;simp only[pure_bind];rw[az (run_sliceBound ⟨j0,j1⟩)];rfl
 ·refine⟨?_,O,O⟩;unfold Instr.sliceBounds;simp only[pure_bind];rw[az (run_sliceBound ⟨i0,O⟩)];rfl
 ·refine⟨?_,O,O⟩;unfold Instr.sliceBounds;simp only[pure_bind];rw[az (run_sliceBound ⟨i0,O⟩),az (run_sliceBound ⟨j0,j1⟩)];rfl
def vE {a b c:Nat}(h:a<=b):a*c<=b*c:=We _ h
def G9 {id gen off len sz l h:Nat}{e:TypeId}{cells:List ZK}(hx:ZO P Γ H w (.U id gen off len sz) cv)(hl:H.V id gen=some (e,cells))(h1:l<=h)(h2:h<=len):
  (∃a cap,cv=.slice (some a) len cap/\len<=cap/\ZO P Γ H w (.U id gen (off+l*sz) (h-l) sz) (.slice (some (if cap=l then a else a.add (l*sz))) (h-l) (cap-l))) \/
  (cv=.slice none 0 0/\len=0/\ZO P Γ H w (.U id gen (off+l*sz) (h-l) sz) (.slice none 0 0)):=by
 cases hx with
 |U hx =>
  rcases kR (P:=P) (w:=w) (.U hx) hl with ⟨b,base,n,a,cap,hΓ,rfl,c1,c2,c3⟩|⟨hΓ,rfl,rfl,rfl⟩
  ·left;refine⟨a,cap,rfl,c1,.U ⟨hx.1,rfl,hx.2.2.1,fun g e' cells' hg=>?_⟩⟩;refine⟨(hx.2.2.2 g e' cells' hg).1,fun hgg=>?_⟩;rw[kh hl]at hg;simp only[Option.some.injEq,ZQ.J.injEq]at hg;obtain⟨_,rfl,rfl⟩:=hg;rw[hΓ];have e1:l*sz+(h-l)*sz=h*sz:=(by rw[<- Wx];congr 1;omega);have e2:h*sz<=len*sz:=vE h2;refine⟨_,_,rfl,O,O,?_⟩;rcases c3 with ⟨rfl,c3⟩|⟨rfl,rfl⟩
   ·by_cases hcl:cap=l
    ·right;omega
    ·left;rw[Vx hcl,lQ,W6];refine⟨rfl,?_⟩;have e3:l*sz+(cap-l)*sz=cap*sz:=(by rw[<- Wx];congr 1;omega);omega
   ·right;omega
  ·right;have:l=0:=O;subst this;have:h=0:=O;subst this;refine⟨rfl,rfl,.U ⟨hx.1,rfl,hx.2.2.1,fun g e' cells' hg=>?_⟩⟩;refine⟨(hx.2.2.2 g e' cells' hg).1,fun hgg=>?_⟩;rw[hΓ];simp
def Hh {len sz l h:Nat}{cells:List ZK}(hx:ZO P Γ H w (.Q len cells) cv)(hc:cells.length=len*sz)(h1:l<=h)(h2:h<=len):
  ∃a cap,cv=.slice a len cap/\len<=cap/\ZO P Γ H w (.Q (h-l) ((cells.drop (l*sz)).take ((h-l)*sz))) (.slice (if cap=l then a else a.map (·.add (l*sz))) (h-l) (cap-l)):=by
 cases hx with
 |nu a cap =>
  have:h=0:=O
  subst this;have:l=0:=O
  subst this;refine⟨a,cap,rfl,WO _,?_⟩;simp only[XB,XC,List.take_zero];exact .nu _ _
 | @Q _ _ b off cap cs hb hlt hlen hcs hcell hrel =>
  refine⟨_,_,rfl,hlen,?_⟩;by_cases hhl:h=l
  ·subst hhl;simp only[XC,XB,List.take_zero];exact .nu _ _
  ·have hcl:cap≠l:=O;have e1:l*sz+(h-l)*sz=h*sz:=(by rw[<- Wx];congr 1;omega);have e2:h*sz<=len*sz:=vE h2;rw[Vx hcl,Option.map_some,lQ];obtain⟨cs',k1,k2,k3⟩:=nng.drop ⟨cs,hcs,hcell,hrel⟩ (l*sz) ((h-l)*sz) O;exact .Q hb hlt O k1 k2 k3
def Hi {t:TypeId}{x v:ZK}{cx:Value}{Z chi:Option Value}(R:ZT P G Γ H w)(h:oY P H t x lo hi=some v)(hx:ZO P Γ H w x cx)
  (rl:rN P Γ H w lo Z) (rh:rN P Γ H w hi chi):∃cv,(Instr.sliceAt t cx Z chi none).run P w=.ok cv w/\ZO P Γ H w v cv:=by
 unfold oY at h;unfold Instr.sliceAt;split at h
 ·rename_i n e hd;rw[az (dp hd)];simp only;split at h
  ·rename_i hc;obtain⟨d,hde⟩:=Wj.1 hc;split at h
   ·rename_i id gen off;split at h
    ·rename_i e' cells hl;split at h
     ·rename_i hle;simp only[VC,Vw]at h;obtain⟨h',hh,l,hlo,rfl⟩:=h;obtain⟨b,base,nn,hΓ,rfl⟩:=rH hx hl;have sa:(Instr.sureAddr (.pointer (some ⟨b,base+off,none⟩))).run P w=.ok ⟨b,base+off,none⟩ w:=rfl;obtain⟨r1,r2,r3⟩:=nN (s:=false) hh hlo (Nat.le_refl n) rh rl;rw[az sa,az r1];simp only;rw[az (jO hde)];refine⟨_,rfl,?_⟩;cases hx with
      |M hx =>
       refine .U ⟨hx.1,rfl,hx.2.2.1,fun g e'' cells'' hg=>?_⟩;refine⟨(hx.2.2.2 g e'' cells'' hg).1,fun hgg=>?_⟩;rw[kh hl]at hg;simp only[Option.some.injEq,ZQ.J.injEq]at hg;obtain⟨_,rfl,rfl⟩:=hg;rw[hΓ];have e1:l*P.cellsOf e+(h'-l)*P.cellsOf e=h'*P.cellsOf e:=(by rw[<- Wx];congr 1;omega);have e2:h'*P.cellsOf e<=n*P.cellsOf e:=vE r3;refine⟨_,_,rfl,O,O,?_⟩;by_cases hnl:n=l
       ·right;omega
       ·left;rw[Vx hnl,lQ,W6];refine⟨rfl,?_⟩;have e3:l*P.cellsOf e+(n-l)*P.cellsOf e=n*P.cellsOf e:=(by rw[<- Wx];congr 1;omega);obtain⟨_,_,q2,q3,_⟩:=rI R hl hΓ;omega
     ·cases h
    ·cases h
   ·rename_i cells off;split at h
    ·rename_i hle;simp only[VC,Vw]at h;obtain⟨h',hh,l,hlo,rfl⟩:=h;cases hx with
     | @ni _ _ b o cs hb hlt hcs hcell hrel =>
      have sa:(Instr.sureAddr (.pointer (some ⟨b,o+off,none⟩))).run P w=.ok ⟨b,o+off,none⟩ w:=rfl;obtain⟨r1,r2,r3⟩:=nN (s:=false) hh hlo (Nat.le_refl n) rh rl;rw[az sa,az r1];simp only;rw[az (jO hde)];refine⟨_,rfl,?_⟩;have e1:l*P.cellsOf e+(h'-l)*P.cellsOf e=h'*P.cellsOf e:=(by rw[<- Wx];congr 1;omega);have e2:h'*P.cellsOf e<=n*P.cellsOf e:=vE r3;by_cases hhl:h'=l
      ·subst hhl;simp only[XC,XB,List.take_zero];exact .nu _ _
      ·rw[Vx O,lQ];obtain⟨cs',k1,k2,k3⟩:=nng.drop ⟨cs,hcs,hcell,hrel⟩ (off+l*P.cellsOf e) ((h'-l)*P.cellsOf e) O;rw[show o+off+l*P.cellsOf e=o+(off+l*P.cellsOf e) from by omega];exact .Q hb hlt O k1 k2 k3
    ·cases h
   ·cases h
  ·cases h
 ·rename_i e hd;rw[az (dp hd)];simp only;unfold Instr.slice;rw[az (dp hd)];split at h
  ·rename_i hc;obtain⟨d,hde⟩:=Wj.1 hc;split at h
   ·rename_i id gen off len sz;split at h
    ·rename_i hsz;subst hsz;simp only[VC,Vw]at h;obtain⟨⟨e',cells⟩,hl,h',hh,l,hlo,rfl⟩:=h;obtain⟨_,q1,q2⟩:=nN (s:=true) hh hlo (Nat.le_refl len) rh rl;rcases G9 hx hl q1 q2 with ⟨a,cap,rfl,c1,c2⟩|⟨rfl,rfl,c2⟩
     ·obtain⟨r1,r2,r3⟩:=nN (s:=true) hh hlo c1 rh rl;simp only;rw[az r1];simp only;rw[az (jO hde)];refine⟨_,rfl,?_⟩;by_cases hcl:cap=l
      ·rw[VA hcl]at c2 ⊢;exact c2
      ·rw[Vx hcl]at c2 ⊢;exact c2
     ·obtain⟨r1,r2,r3⟩:=nN (s:=true) hh hlo (Nat.le_refl 0) rh rl;simp only;rw[az r1];simp only;rw[az (jO hde)];refine⟨_,rfl,?_⟩;have:l=0:=O;subst this;have:h'=0:=O;subst this;exact c2
    ·cases h
   ·rename_i len cells;split at h
    ·rename_i hcl;simp only[VC,Vw]at h;obtain⟨h',hh,l,hlo,rfl⟩:=h;obtain⟨_,q1,q2⟩:=nN (s:=true) hh hlo (Nat.le_refl len) rh rl;obtain⟨a,cap,rfl,c1,c2⟩:=Hh hx hcl q1 q2;obtain⟨r1,r2,r3⟩:=nN (s:=true) hh hlo c1 rh rl;simp only;rw[az r1];simp only;rw[az (jO hde)];exact⟨_,rfl,c2⟩
    ·cases h
   ·simp only[VC,Vw]at h;obtain⟨h',hh,l,hlo,rfl⟩:=h;cases hx;obtain⟨r1,r2,r3⟩:=nN (s:=true) hh hlo (Nat.le_refl 0) rh rl;simp only;rw[az r1];simp only;rw[az (jO hde)];refine⟨_,rfl,?_⟩;have:l=0:=O;subst this;have:h'=0:=O;subst this;exact .lit _
   ·cases h
  ·cases h
 ·rename_i hd;rw[az (dp hd)];simp only;unfold Instr.slice;rw[az (dp hd)];split at h
  ·rename_i s;simp only[VC,Vw]at h;obtain⟨h',hh,l,hlo,rfl⟩:=h;cases hx;obtain⟨r1,r2,r3⟩:=nN (s:=false) hh hlo (Nat.le_refl s.size) rh rl;simp only[Option.isSome_none,Bool.false_eq_true,if_false];rw[az r1];exact⟨_,rfl,.lit _⟩
  ·cases h
 ·cases h
end Go.Hx
namespace Go.Hx
variable {P:Program} {G:Nat->Option (List ZK)} {Γ Γ':aH} {H H':ZJ} {w w':World}
variable {cs:List Value}{cap n:Nat}{base:Option Addr}{at0 at1 ty:TypeId}{cx x:Value}{v:ZK}
def vF {sz:Nat}{x:ZK}{cells:List ZK}(R:ZT P G Γ H w)(h:dH H sz x=some (n,cells))(hx:ZO P Γ H w x cx):
    (Builtin.lenOf cx).run P w=.ok n w/\cells.length=n*sz/\∃cs:List Value,(Builtin.firstCells sz n cx).run P w=.ok cs.toArray w/\cs.length=cells.length /\
      ∀i (_:i<cells.length) (_:i<cs.length),ZO P Γ H w cells[i] cs[i]:=by
  unfold dH at h;split at h
  · rename_i len cells';split at h
    · rename_i hl;simp only[Option.some.injEq,Prod.mk.injEq]at h;obtain⟨rfl,rfl⟩:=h;cases hx with
      |nu a cap =>
        refine⟨rfl,hl,[],?_,rfl,fun i h1 _=>absurd h1 (VN _)⟩;cases a with
        |none=>rfl
        |some a=>unfold Builtin.firstCells;rw[XB];rfl
      | @Q _ _ b off cap cs hb hlt hlen hcs hcell hrel =>
        refine⟨rfl,hl,cs,?_,hcs,hrel⟩;unfold Builtin.firstCells;rw[<- hl,<- hcs];exact ru hcell
    · cases h
  · rename_i id gen off len sz';split at h
    · rename_i hsz;subst hsz;simp only[Vw,Prod.mk.injEq]at h;obtain⟨⟨e,cells'⟩,hl,rfl,rfl⟩:=h;rcases kR hx hl with ⟨b,base,nn,a,cap,hΓ,rfl,c1,c2,c3⟩|⟨hΓ,rfl,rfl,rfl⟩
      · refine⟨rfl,by simp only[VK,Wi];omega,?_⟩;rcases c3 with ⟨rfl,c3⟩|⟨rfl,rfl⟩
        · obtain⟨cs,k1,k2,k3⟩:=(tC R hl hΓ).drop off (len*sz') c2;refine⟨cs,?_,k1,k3⟩;unfold Builtin.firstCells;have:len*sz'=cs.length:=(by rw[k1];simp only[VK,Wi];omega);rw[this];exact ru k2
        · refine⟨[],?_,ZF,fun i h1 _=>?_⟩
          · unfold Builtin.firstCells;rw[XB];rfl
          · simp at h1
      · refine⟨rfl,ZF,[],rfl,ZF,fun i h1 _=>?_⟩;simp at h1
    · cases h
  · simp only[Option.some.injEq,Prod.mk.injEq]at h;obtain⟨rfl,rfl⟩:=h;cases hx;exact⟨rfl,ZF,[],rfl,rfl,fun i h1 _=>absurd h1 (VN _)⟩
  · cases h
def Hl (newLen:Nat):∀(k c:Nat),256<=c->c<newLen->Builtin.growBy newLen k c<=2*newLen:=by
  intro k
  induction k with
  |zero=>intro c _ h;simp only[Builtin.growBy];omega
  |succ k ih =>
    intro c h1 h2;simp only[Builtin.growBy];rw[Vx O];by_cases h3:c+(c+768) / 4<newLen
    · exact ih _ O h3
    · cases k with
      |zero=>simp only[Builtin.growBy];omega
      |succ k=>simp only[Builtin.growBy];rw[VA O];omega
def nextslicecap_le {need:Nat}(h:cap<need):Builtin.nextslicecap need cap<=2*need:=by
  unfold Builtin.nextslicecap;split
  · omega
  · split
    · omega
    · exact Hl _ _ _ O h
def Bu (z:Array Value)(n:Nat):(Builtin.zeroCells z n).size=n*z.size:=by simp[Builtin.zeroCells]
def run_append_fits {e e1:TypeId}{len:Nat}(hd:P.underlying at0=some (.slice e))(hd1:P.underlying at1=some (.slice e1))(he:∃i,P.info? e=some i)
    (hlen:(Builtin.lenOf x).run P w=.ok n w) (hcs:(Builtin.firstCells (P.cellsOf e) n x).run P w=.ok cs.toArray w) (hfit:len+n<=cap)
    (hst:match base with|some a=>(storeCells (a.add (len*P.cellsOf e)) cs).run P w=.ok () w'|none=>w'=w):
    (Builtin.append_ #[at0,at1] ty #[.slice base len cap,x]).run P w=.ok (.slice base (len+n) cap) w':=by
  obtain⟨i,hi⟩:=he;unfold Builtin.append_;simp only[List.getElem?_toArray,List.getElem?_cons_zero,List.getElem?_cons_succ];rw[az (dp hd)];simp only;rw[az (run_sizeOf hi)];rw[az (dp hd1),az (Sem.run_pure P w _)];simp only[Bool.false_eq_true,if_false,Bool.not_false,if_true];rw[az hlen];rw[VA hfit,az hcs];cases base with
  |none=>subst hst;rfl
  |some a=>rw[az hst];rfl
def Bv {e e1:TypeId}{len:Nat}{zv:Value}{os:List Value}{i:TypeInfo}(hd:P.underlying at0=some (.slice e))(hd1:P.underlying at1=some (.slice e1))
    (hi:P.info? e=some i) (hz:i.zero=some zv)
    (hlen:(Builtin.lenOf x).run P w=.ok n w) (hcs:(Builtin.firstCells (P.cellsOf e) n x).run P { w with drawn:=w.drawn+1 }=.ok cs.toArray { w with drawn:=w.drawn+1 })
    (hos:(Builtin.firstCells (P.cellsOf e) len (.slice base len cap)).run P { w with drawn:=w.drawn+1 }=.ok os.toArray { w with drawn:=w.drawn+1 })
    (hfit:cap<len+n) (hb:(len+n)*P.bytesOf e<=2 ^ 46) (hn:len+n<=2 ^ 46):
    ∃newCap,len+n<=newCap/\(Builtin.append_ #[at0,at1] ty #[.slice base len cap,x]).run P w =
      .ok (.slice (some ⟨w.heap.size,0,none⟩) (len+n) newCap)
        (({ w with drawn:=w.drawn+1 }:World).alloc (.cells (os.toArray++cs.toArray++Builtin.zeroCells zv.cells (newCap-(len+n))) e)):=by
  refine⟨(Question.appendCap (len+n) cap e).cut (w.tape w.drawn (.appendCap (len+n) cap e)),?_,?_⟩
  · simp only[Question.cut];omega
  · unfold Builtin.append_;simp only [List.getElem?_toArray,List.getElem?_cons_zero,List.getElem?_cons_succ];rw [az (dp hd)];simp only;rw [az (run_sizeOf hi)];rw [az (dp hd1),az (Sem.run_pure P w _)];simp only [Bool.false_eq_true,if_false,Bool.not_false,if_true];rw [az hlen];rw [Vx O];rw [az (run_typeInfo hi)];have hmax : IntKind.i64.max=9223372036854775807:=ZG;rw [Vx (by rw [hmax];omega)];rw [az (run_typeInfo hi)];have hbi:=Bq hi;have h2:=nextslicecap_le hfit;have h3 : Builtin.nextslicecap (len+n) cap*i.bytes≤2*(len+n)*i.bytes:=We _ h2;rw [Vx (by rw [hbi] at hb;rw [Xr] at h3;omega)];have hch : (choose (.appendCap (len+n) cap e)).run P w=.ok ((Question.appendCap (len+n) cap e).cut (w.tape w.drawn (.appendCap (len+n) cap e))) { w with drawn:=w.drawn+1 }:=by
      rw[run_choose];rfl
    rw[az hch,az (run_typeInfo hi),az (run_askRoom P _ _),az hos,az hcs,az (qw hi hz)];rfl
def ZO.drew {cv:Value}(h:ZO P Γ H w v cv)(n:Nat):ZO P Γ H { w with drawn:=n } v cv:=h.bK (tz Γ H w n) (Nat.le_refl _)
def Bw {cells:List ZK}{rest:Array Value}(hl:cs.length=cells.length)(hr:∀i (_:i<cells.length) (_:i<cs.length),ZO P Γ H w cells[i] cs[i]):
    ∀i (_:i<cells.length),∃cv,(cs.toArray++rest)[i]?=some cv/\ZO P Γ H w cells[i] cv:=fun i hi =>
  ⟨cs[i]' O,by rw[Y7 (by simp;omega)];simp,hr i hi O⟩
def Hn {id:Nat}{s x:ZK}{cs:Value}(R:ZT P G Γ H w)(h:cr P H id at0 at1 s x=some (v,H'))(hs:ZO P Γ H w s cs)(hx:ZO P Γ H w x cx):
    ∃cv Γ' w',(Builtin.append_ #[at0,at1] ty #[cs,cx]).run P w=.ok cv w'/\ZX Γ H w Γ' H' w'/\H.A<=H'.A/\ZT P G Γ' H' w'/\ZO P Γ' H' w' v cv:=by
  unfold cr at h;split at h
  · rename_i e hd;split at h
    · rename_i e1 hd1;simp only[VC]at h;obtain⟨z,hz,⟨n,nc⟩,hsrc,h⟩:=h;obtain⟨i,zv,hi,hzv,hsz,hzz,hcells⟩:=rM hz;obtain⟨hlen,hncl,xs,hxs,hxl,hxr⟩:=vF R hsrc hx;obtain⟨_,_,ys,hsrcd,hyl,hyr⟩:=vF (R.drew (w.drawn+1)) hsrc (hx.drew (w.drawn+1));split at h
      · -- a nil slice
        cases hs;simp only at h;split at h
        · rename_i h0;simp only[Option.some.injEq,Prod.mk.injEq]at h;obtain⟨rfl,rfl⟩:=h;subst h0;exact⟨_,Γ,w,run_append_fits hd hd1 ⟨i,hi⟩ hlen hxs O rfl,ZX.refl _ _ _,ZI,R,.lit _⟩
        · rename_i h0;split at h
          · rename_i hb;simp only [Vw,Prod.mk.injEq] at h;obtain ⟨H1,hlay,rfl,rfl⟩:=h;obtain ⟨newCap,hc,hrun⟩:=Bv (base:=none) (len:=0) (cap:=0) (os:=[]) (ty:=ty) hd hd1 hi hzv hlen hsrcd rfl O (by rw [Nat.zero_add];exact hb.1) O;rw [Nat.zero_add n] at hc hrun;have R1:=R.drew (w.drawn+1);have harr : ∀ j (_ : j<nc.length),∃ cv,(([] : List Value).toArray++ys.toArray++Builtin.zeroCells zv.cells (newCap - n))[j]?=some cv∧ZO P Γ H { w with drawn:=w.drawn+1 } nc[j] cv:=by
              simp only[Array.empty_append];exact Bw hyl hyr
            have hsize:(([]:List Value).toArray++ys.toArray++Builtin.zeroCells zv.cells (newCap-n)).size=newCap*P.cellsOf e:=by
              simp only[YP,Bu,Yq,List.length_nil,hyl,hncl];rw[hsz,<- hcells,Nat.zero_add,<- Wx];congr 1;omega
            obtain⟨E,hn,R'⟩:=rB R1 hlay (by rw[hsize,hncl];exact We _ O) harr;obtain⟨hget,_⟩:=kQ hlay;obtain⟨_,_,_,hid⟩:=oW R hlay;refine⟨_,_,_,hrun,(tz Γ H w _).trans ZI E,hn,R',?_⟩;exact yw (by rw[hget,VA rfl]) hid (aH.fh _ _ _) O (by rw[hncl];exact Nat.le_refl _) (by rw[hsize];exact Nat.le_refl _)
          · cases h
      · rename_i id' gen off len sz;simp only[VC]at h;obtain⟨⟨e',cells⟩,hl,h⟩:=h;simp only at h;split at h
        · rename_i hc;obtain⟨rfl,rfl,h1,h2,h3,h4⟩:=hc;split at h
          · rename_i h0;simp only [Option.some.injEq,Prod.mk.injEq] at h;obtain ⟨rfl,rfl⟩:=h;subst h0;have hxs0 : xs=[]:=by
              have:xs.length=0:=(by rw[hxl,hncl];simp);simpa using this
            subst hxs0;rcases kR hs hl with ⟨b,base,nn,a,cap,hΓ,rfl,c1,c2,c3⟩|⟨hΓ,rfl,rfl,rfl⟩
            · exact⟨_,Γ,w,run_append_fits hd hd1 ⟨i,hi⟩ hlen hxs O rfl,ZX.refl _ _ _,ZI,R,hs⟩
            · exact⟨_,Γ,w,run_append_fits hd hd1 ⟨i,hi⟩ hlen hxs O rfl,ZX.refl _ _ _,ZI,R,hs⟩
          · rename_i h0;simp only[Option.some.injEq,Prod.mk.injEq]at h;obtain⟨rfl,rfl⟩:=h;have hnpos:0<n:=O;have hg:=kh hl
            -- where a new array is made
            have grows : ∀ (base : Option Addr) (cap : Nat) (os : List Value),(Builtin.firstCells (P.cellsOf e') len (.slice base len cap)).run P { w with drawn:=w.drawn+1 }=.ok os.toArray { w with drawn:=w.drawn+1 } →
                os.length=(cells.drop off).length->(∀j (_:j<(cells.drop off).length) (_:j<os.length),ZO P Γ H { w with drawn:=w.drawn+1 } (cells.drop off)[j] os[j])->cap<len+n ->
                ∃cv Γ' w',(Builtin.append_ #[at0,at1] ty #[.slice base len cap,cx]).run P w=.ok cv w'/\ZX Γ H w Γ' (H.upd id' (.J (gen+1) e' (cells.drop off++nc))) w' /\
                  H.A<=(H.upd id' (.J (gen+1) e' (cells.drop off++nc))).A/\ZT P G Γ' (H.upd id' (.J (gen+1) e' (cells.drop off++nc))) w' /\
                  ZO P Γ' (H.upd id' (.J (gen+1) e' (cells.drop off++nc))) w' (.U id' (gen+1) 0 (len+n) (P.cellsOf e')) cv:=by
              intro base cap os hos hol hor hcap;obtain⟨newCap,hcp,hrun⟩:=Bv (base:=base) (ty:=ty) hd hd1 hi hzv hlen hsrcd hos hcap h2 h3;have R1:=R.drew (w.drawn+1);have hdl:(cells.drop off).length=len*P.cellsOf e':=(by simp only[Wi];omega);have hsize:(os.toArray++ys.toArray++Builtin.zeroCells zv.cells (newCap-(len+n))).size=newCap*P.cellsOf e':=by
                simp only[YP,Bu,Yq,hol,hdl,hyl,hncl];rw[hsz,<- hcells,<- Wx,<- Wx];congr 1;omega
              have hdn : (cells.drop off++nc).length=(len+n)*P.cellsOf e':=(by rw [List.length_append,hdl,hncl,Wx]);have harr : ∀ j (_ : j<(cells.drop off++nc).length),∃ cv,(os.toArray++ys.toArray++Builtin.zeroCells zv.cells (newCap - (len+n)))[j]?=some cv ∧
                  ZO P Γ H { w with drawn:=w.drawn+1 } (cells.drop off++nc)[j] cv:=by
                intro j hj;have:=Bw (P:=P) (Γ:=Γ) (H:=H) (w:={ w with drawn:=w.drawn+1 }) (cells:=cells.drop off++nc) (cs:=os++ys) (rest:=Builtin.zeroCells zv.cells (newCap-(len+n)))
                  (by rw[List.length_append,List.length_append,hol,hyl]) (fun k a b=>?_) j hj
                · simpa using this
                · by_cases hk:k<(cells.drop off).length
                  · rw[WH hk,WH O];exact hor k hk (O)
                  · rw[WL O,WL O];simp only[hol];exact hyr _ (by simp only[List.length_append]at a;omega) (by simp only[List.length_append]at b;omega)
              obtain⟨E,R'⟩:=GR R1 hg (by rw[hsize,hdn];exact We _ hcp) harr;refine⟨_,_,_,hrun,(tz Γ H w _).trans ZI E,ZI,R',.U ⟨R.A id' _ hg,rfl,by rw[af,VA rfl];simp,fun g'' e'' cells'' hg''=>?_⟩⟩;rw[af,VA rfl]at hg'';simp only[Option.some.injEq,ZQ.J.injEq]at hg'';obtain⟨rfl,rfl,rfl⟩:=hg'';refine⟨ZI,fun _=>?_⟩;rw[aH.fh];exact⟨_,_,rfl,hcp,by rw[hdn,Nat.zero_add];exact Nat.le_refl _,.inl ⟨rfl,by rw[hsize,Nat.zero_add];omega⟩⟩
            rcases kR hs hl with ⟨b,base,nn,a,cap,hΓ,rfl,c1,c2,c3⟩|⟨hΓ,rfl,rfl,rfl⟩
            · by_cases hcap:len+n<=cap
              · -- there is room
                have ha:a=⟨b,base+off,none⟩/\base+off+cap*P.cellsOf e'<=nn:=by
                  rcases c3 with c3|c3
                  · exact c3
                  · omega
                obtain⟨rfl,c4⟩:=ha;obtain⟨c,q1,q2,q3,q4⟩:=rI R hl hΓ;have hroom:(len+n)*P.cellsOf e'<=cap*P.cellsOf e':=We _ hcap;rw[Wx]at hroom;have hst:=tx (P:=P) xs c (base+off+len*P.cellsOf e') 0 w q1 (by rw[hxl,hncl];omega) (vC h4 hxl hxr);have hrun:=run_append_fits (ty:=ty) (base:=some ⟨b,base+off,none⟩) hd hd1 ⟨i,hi⟩ hlen hxs hcap (by
                  show (storeCells (Addr.add ⟨b,base+off,none⟩ (len*P.cellsOf e')) xs).run P w=_;rw[lQ];exact hst)
                have hdl:(cells.drop off).length=len*P.cellsOf e':=(by simp only[Wi];omega);have hdn:(cells.drop off++nc).length=len*P.cellsOf e'+n*P.cellsOf e':=(by rw[List.length_append,hdl,hncl]);have harr:∀j (_:j<(cells.drop off++nc).length),∃cv,(setRow c (base+off+len*P.cellsOf e'+0) xs)[base+off+j]?=some cv/\ZO P Γ H w (cells.drop off++nc)[j] cv:=by
                  intro j hj;rw[Be _ _ _ (by rw[hxl,hncl];omega)];by_cases hk:j<(cells.drop off).length
                  · rw[Vx O,WH hk];obtain⟨cv,k1,k2⟩:=q4 (off+j) (by simp only[Wi]at hk;omega);refine⟨cv,by rw[W6];exact k1,?_⟩;simp only[XR];exact k2
                  · rw[WL O,VA (by rw[hxl,hncl];omega)];have hj2:j-(cells.drop off).length<nc.length:=(by simp only[List.length_append]at hj;omega);refine⟨xs[j-(cells.drop off).length]' O,?_,hxr _ hj2 O⟩;rw[show base+off+j-(base+off+len*P.cellsOf e'+0)=j-(cells.drop off).length from by omega];exact Vz (O)
                obtain⟨E,R'⟩:=GQ (base':=base+off) R hg hΓ (by rw[size_setRow];exact q2) (by rw[hdn];omega) harr;refine⟨_,_,_,hrun,E,ZI,R',.U ⟨R.A id' _ hg,rfl,by rw[af,VA rfl];simp,fun g'' e'' cells'' hg''=>?_⟩⟩;rw[af,VA rfl]at hg'';simp only[Option.some.injEq,ZQ.J.injEq]at hg'';obtain⟨rfl,rfl,rfl⟩:=hg'';refine⟨ZI,fun _=>?_⟩;rw[aH.fh];exact⟨_,_,rfl,hcap,by rw[hdn,Nat.zero_add,Wx];exact Nat.le_refl _,.inl ⟨rfl,c4⟩⟩
              · -- there is none
                rcases c3 with ⟨rfl,c3⟩|⟨rfl,rfl⟩
                · obtain⟨os,k1,k2,k3⟩:=(tC (R.drew (w.drawn+1)) hl hΓ).drop off (len*P.cellsOf e') O;have htk:(cells.drop off).take (len*P.cellsOf e')=cells.drop off:=Vy (by simp only[Wi];omega);rw[htk]at k1 k3;refine grows _ cap os ?_ k1 k3 O;unfold Builtin.firstCells;have:len*P.cellsOf e'=os.length:=(by rw[k1];simp only[Wi];omega);rw[this];exact ru k2
                · refine grows _ 0 [] ?_ (by simp only[List.length_nil,Wi];omega) (fun j _ h=>absurd h (VN _)) O;unfold Builtin.firstCells;rw[XB];rfl
            · refine grows none 0 [] rfl (by simp only[List.length_nil,Wi];omega) (fun j _ h=>absurd h (VN _)) (O)
        · cases h
      · cases h
    · cases h
  · cases h
end Go.Hx
namespace Go.Hx
variable {P:Program} {G:Nat->Option (List ZK)} {Γ Γ':aH} {H H':ZJ} {w w':World}
variable {at0 ty:TypeId}{cd cx:Value}{d v x:ZK}
def Ho {t:TypeId}(h:nI P H t x=some v)(hx:ZO P Γ H w x cx):
  ∃cv,(Builtin.len_ #[t] ty #[cx]).run P w=.ok cv w/\ZO P Γ H w v cv:=by
 unfold nI at h;unfold Builtin.len_;simp only[List.getElem?_toArray,List.getElem?_cons_zero];split at h
 ·rename_i e hd;rw[az (dp hd)];split at h
  ·rename_i len cells;simp only[Option.some.injEq]at h;subst h;cases hx<;>exact⟨_,rfl,.lit _⟩
  ·rename_i id gen off len sz;simp only[Vw]at h;obtain⟨⟨e',cells⟩,hl,rfl⟩:=h;rcases kR hx hl with ⟨b,base,n,a,cap,hΓ,rfl,_⟩|⟨hΓ,rfl,rfl,rfl⟩<;>exact⟨_,rfl,.lit _⟩
  ·simp only[Option.some.injEq]at h;subst h;cases hx;exact⟨_,rfl,.lit _⟩
  ·cases h
 ·rename_i hd;rw[az (dp hd)];split at h
  ·simp only[Option.some.injEq]at h;subst h;cases hx;exact⟨_,rfl,.lit _⟩
  ·cases h
 ·rename_i n e hd;rw[az (dp hd)];simp only[Option.some.injEq]at h;subst h;exact⟨_,rfl,.lit _⟩
 ·cases h
def Ht {sz n m:Nat}{cells:List ZK}(R:ZT P G Γ H w)(h:dH H sz x=some (n,cells))(hx:ZO P Γ H w x cx)(hm:m<=n):
  ∃cs:List Value,(Builtin.firstCells sz m cx).run P w=.ok cs.toArray w/\cs.length=(cells.take (m*sz)).length /\
   ∀i (_:i<(cells.take (m*sz)).length) (_:i<cs.length),ZO P Γ H w (cells.take (m*sz))[i] cs[i]:=by
 have hms:m*sz<=n*sz:=We _ hm;unfold dH at h;split at h
 ·rename_i len cells';split at h
  ·rename_i hl;simp only[Option.some.injEq,Prod.mk.injEq]at h;obtain⟨rfl,rfl⟩:=h;cases hx with
   |nu a cap =>
    have:m=0:=O;subst this;refine⟨[],?_,ZF,fun i h1 _=>by simp at h1⟩;cases a with
    |none=>rfl
    |some a=>unfold Builtin.firstCells;rw[XB];rfl
   | @Q _ _ b off cap cs hb hlt hlen hcs hcell hrel =>
    obtain⟨cs',k1,k2,k3⟩:=nng.drop (k:=0) (n:=m*sz) ⟨cs,hcs,hcell,hrel⟩ O;rw[List.drop_zero]at k1 k3;refine⟨cs',?_,k1,k3⟩;unfold Builtin.firstCells;have:m*sz=cs'.length:=(by rw[k1,VK];omega);rw[this];exact ru k2
  ·cases h
 ·rename_i id gen off len sz';split at h
  ·rename_i hsz;subst hsz;simp only[Vw,Prod.mk.injEq]at h;obtain⟨⟨e,cells'⟩,hl,rfl,rfl⟩:=h;rcases kR hx hl with ⟨b,base,nn,a,cap,hΓ,rfl,c1,c2,c3⟩|⟨hΓ,rfl,rfl,rfl⟩
   ·rcases c3 with ⟨rfl,c3⟩|⟨rfl,rfl⟩
    ·obtain⟨cs,k1,k2,k3⟩:=(tC R hl hΓ).drop off (m*sz') O;have he:((cells'.drop off).take (len*sz')).take (m*sz')=(cells'.drop off).take (m*sz'):=by
      rw[List.take_take,Xk hms]
     simp only[he];refine⟨cs,?_,k1,k3⟩;unfold Builtin.firstCells;have:m*sz'=cs.length:=(by rw[k1];simp only[VK,Wi];omega);rw[this];exact ru k2
    ·have:m=0:=O;subst this;refine⟨[],?_,ZF,fun i h1 _=>by simp at h1⟩;unfold Builtin.firstCells;rw[XB];rfl
   ·have:m=0:=O;subst this;exact⟨[],rfl,ZF,fun i h1 _=>by simp at h1⟩
  ·cases h
 ·simp only[Option.some.injEq,Prod.mk.injEq]at h;obtain⟨rfl,rfl⟩:=h;cases hx;have:m=0:=O
  subst this;exact⟨[],rfl,ZF,fun i h1 _=>by simp at h1⟩
 ·cases h
def Hv {at1:TypeId}(R:ZT P G Γ H w)(h:mC P H at0 d x=some (v,H'))(hd:ZO P Γ H w d cd)(hx:ZO P Γ H w x cx):
  ∃cv Γ' w',(Builtin.copy_ #[at0,at1] ty #[cd,cx]).run P w=.ok cv w'/\ZX Γ H w Γ' H' w'/\H.A<=H'.A/\ZT P G Γ' H' w'/\ZO P Γ' H' w' v cv:=by
 unfold mC at h;split at h
 ·rename_i e hu;split at h
  ·rename_i he;obtain⟨du,hde⟩:=Wj.1 he;simp only[VC]at h;obtain⟨⟨n,nc⟩,hsrc,h⟩:=h;obtain⟨hlen,hncl,xs,hxs,hxl,hxr⟩:=vF R hsrc hx;split at h
   ·rename_i id gen off len sz;simp only[VC]at h;obtain⟨⟨e',cells⟩,hl,h⟩:=h;simp only at h;split at h
    ·rename_i hc;obtain ⟨rfl,h1,h2⟩:=hc;simp only [Option.some.injEq,Prod.mk.injEq] at h;obtain ⟨rfl,rfl⟩:=h;have hmin : min n len*P.cellsOf e≤nc.length:=(by rw [hncl];exact We _ (Nat.min_le_left _ _));have hmin2 : min n len*P.cellsOf e≤len*P.cellsOf e:=We _ (Nat.min_le_right _ _)
          -- the first cells of the source
     obtain⟨ys,hys,hyl,hyr⟩:∃ys:List Value,(Builtin.firstCells (P.cellsOf e) (min n len) cx).run P w=.ok ys.toArray w/\ys.length=(nc.take (min n len*P.cellsOf e)).length /\
       ∀i (_:i<(nc.take (min n len*P.cellsOf e)).length) (_:i<ys.length),ZO P Γ H w (nc.take (min n len*P.cellsOf e))[i] ys[i]:=Ht R hsrc hx (Nat.min_le_left n len)
     have hall:(nc.take (min n len*P.cellsOf e)).all ZK.one=true:=by
      rw[VZ]at h2 ⊢;exact fun v hv=>h2 v (VU hv)
     have htl:(nc.take (min n len*P.cellsOf e)).length=min n len*P.cellsOf e:=(by rw[VK];omega);rcases kR hd hl with ⟨b,base,nn,a,cap,hΓ,rfl,c1,c2,c3⟩|⟨hΓ,rfl,rfl,rfl⟩
     ·obtain⟨c,q1,q2,q3,q4⟩:=rI R hl hΓ;have hst:(storeCells a ys).run P w=.ok () (cB w b (.cells (setRow c (base+off) ys) e' (0,0))):=by
       rcases c3 with ⟨rfl,c3⟩|⟨rfl,rfl⟩
       ·exact tx (P:=P) ys c (base+off) 0 w q1 (by rw[hyl,htl];omega) (vC hall hyl hyr)
       ·have:ys=[]:=by
         have:ys.length=0:=(by rw[hyl,htl];simp);simpa using this
        subst this;have hsame:cB w b (.cells (setRow c (base+off) []) e' (0,0))=w:=by
         have:=tx (P:=P) [] c (base+off) 0 w q1 (by simp;omega) (fun v h=>by simp at h);simp only[storeCells,Sem.run_pure,Result.ok.injEq,true_and]at this;exact this.symm
        rw[hsame];rfl
      have hrun:(Builtin.copy_ #[at0,at1] ty #[.slice (some a) len cap,cx]).run P w=.ok (.int .i64 (min n len:Nat)) (cB w b (.cells (setRow c (base+off) ys) e' (0,0))):=by
       unfold Builtin.copy_;simp only[List.getElem?_toArray,List.getElem?_cons_zero,List.getElem?_cons_succ];rw[az (dp hu)];simp only;rw[az hlen,az (jO hde)];rw[az hys,az hst];rfl
      obtain⟨E,R'⟩:=ye (cells':=setAt cells off (nc.take (min n len*P.cellsOf e))) (c':=setRow c (base+off) ys) R (kh hl) hΓ (rz (by rw[htl];omega)) (by rw[size_setRow,q2])
       (vD (by rw[htl];omega) O hyl q4 hyr)
      exact⟨_,_,_,hrun,E,ZI,R',.lit _⟩
     ·have:min n 0=0:=O;rw[this]at hys hyl ⊢;have hys0:ys=[]:=by
       have:ys.length=0:=(by rw[hyl];simp);simpa using this
      subst hys0;have hrun:(Builtin.copy_ #[at0,at1] ty #[.slice none 0 0,cx]).run P w=.ok (.int .i64 (0:Nat)) w:=by
       unfold Builtin.copy_;simp only[List.getElem?_toArray,List.getElem?_cons_zero,List.getElem?_cons_succ];rw[az (dp hu)];simp only;rw[az hlen,az (jO hde)];have:Nat.min n 0=0:=(by show min n 0=0;omega);rw[this,az hys];rfl
      have hset:H.upd id (.J gen e' (setAt cells 0 (nc.take (0*P.cellsOf e))))=H:=by
       have hs:setAt cells 0 (nc.take (0*P.cellsOf e))=cells:=(by simp[setAt]);rw[hs];have:∀j,(H.upd id (.J gen e' cells)).get j=H.get j:=by
        intro j;rw[af];by_cases hj:j=id
        ·rw[VA hj,hj,kh hl]
        ·rw[Vx hj]
       show ({ get:=(H.upd id (.J gen e' cells)).get,A:=H.A }:ZJ)=H;rw[funext this]
      rw[hset];exact⟨_,Γ,w,hrun,ZX.refl _ _ _,ZI,R,.lit _⟩
    ·cases h
   ·cases h
  ·cases h
 ·cases h
def HA (R:ZT P G Γ H w)(h:mD P H at0 d=some (v,H'))(hd:ZO P Γ H w d cd):
  ∃cv Γ' w',(Builtin.clear_ #[at0] ty #[cd]).run P w=.ok cv w'/\ZX Γ H w Γ' H' w'/\H.A<=H'.A/\ZT P G Γ' H' w'/\ZO P Γ' H' w' v cv:=by
 have tup0:∀(Γ:aH) (H:ZJ) (w:World),ZO P Γ H w (.nf []) (.tuple #[]):=fun Γ H w=>ZO.nf (cells:=[]) (cs:=[]) rfl fun i h _=>absurd h (VN _);unfold mD at h;split at h
 ·rename_i e hu;split at h
  ·simp only[Option.some.injEq,Prod.mk.injEq]at h;obtain⟨rfl,rfl⟩:=h;cases hd;refine⟨.tuple #[],Γ,w,?_,ZX.refl _ _ _,ZI,R,tup0 _ _ _⟩;unfold Builtin.clear_;simp only[List.getElem?_toArray,List.getElem?_cons_zero];rw[az (dp hu)];rfl
  ·rename_i id gen off len sz;simp only[VC]at h;obtain⟨⟨e',cells⟩,hl,h⟩:=h;simp only at h;split at h
   ·rename_i h0;subst h0;simp only[Option.some.injEq,Prod.mk.injEq]at h;obtain⟨rfl,rfl⟩:=h;refine⟨.tuple #[],Γ,w,?_,ZX.refl _ _ _,ZI,R,tup0 _ _ _⟩;rcases kR hd hl with ⟨b,base,nn,a,cap,hΓ,rfl,c1,c2,c3⟩|⟨hΓ,rfl,_,rfl⟩
    ·unfold Builtin.clear_;simp only[List.getElem?_toArray,List.getElem?_cons_zero];rw[az (dp hu)];rfl
    ·unfold Builtin.clear_;simp only[List.getElem?_toArray,List.getElem?_cons_zero];rw[az (dp hu)];rfl
   ·rename_i h0;simp only[VC]at h;obtain⟨zs,hzs,h⟩:=h;split at h
    ·rename_i hc;obtain⟨h1,h2,h3⟩:=hc;simp only[Option.some.injEq,Prod.mk.injEq]at h;obtain⟨rfl,rfl⟩:=h;unfold lS at hzs;simp only[Vw]at hzs;obtain⟨z,hz,rfl⟩:=hzs;obtain⟨i,zv,hi,hzv,hsz,hzz,hcells⟩:=rM hz;have hzr:eE P Γ H w (List.replicate len z).flatten (Builtin.zeroCells zv.cells len):=yu hzz;have hyl:(Builtin.zeroCells zv.cells len).toList.length=(List.replicate len z).flatten.length:=(by rw[Xm];exact hzr.1);have hyr:∀i (_:i<(List.replicate len z).flatten.length) (_:i<(Builtin.zeroCells zv.cells len).toList.length),ZO P Γ H w (List.replicate len z).flatten[i] (Builtin.zeroCells zv.cells len).toList[i]:=fun i h1 h2=>hzr.2 i h1 (by rw[Xm]at h2;exact h2);rcases kR hd hl with ⟨b,base,nn,a,cap,hΓ,rfl,c1,c2,c3⟩|⟨hΓ,_,h4,_⟩
     ·rcases c3 with ⟨rfl,c3⟩|⟨h4,_⟩
      ·obtain⟨c,q1,q2,q3,q4⟩:=rI R hl hΓ;have hst:(storeCells ⟨b,base+off,none⟩ (Builtin.zeroCells zv.cells len).toList).run P w=.ok () (cB w b (.cells (setRow c (base+off) (Builtin.zeroCells zv.cells len).toList) e' (0,0))) :=
        tx (P:=P) _ c (base+off) 0 w q1 (by rw[hyl,h1];omega) (vC h3 hyl hyr)
       have hrun:(Builtin.clear_ #[at0] ty #[.slice (some ⟨b,base+off,none⟩) len cap]).run P w=.ok (.tuple #[]) (cB w b (.cells (setRow c (base+off) (Builtin.zeroCells zv.cells len).toList) e' (0,0))):=by
        obtain⟨m,rfl⟩:∃m,len=m+1:=⟨len-1,O⟩
        unfold Builtin.clear_;simp only[List.getElem?_toArray,List.getElem?_cons_zero];rw[az (dp hu)];simp only;rw[az (qw hi hzv),az hst];rfl
       obtain⟨E,R'⟩:=ye (cells':=setAt cells off (List.replicate len z).flatten) (c':=setRow c (base+off) (Builtin.zeroCells zv.cells len).toList) R (kh hl) hΓ (rz (by rw[h1];exact h2)) (by rw[size_setRow,q2])
        (vD (by rw[h1];exact h2) O hyl q4 hyr)
       exact⟨_,_,_,hrun,E,ZI,R',tup0 _ _ _⟩
      ·exact absurd h4 h0
     ·exact absurd h4 h0
    ·cases h
  ·cases h
 ·cases h
end Go.Hx
namespace Go.Hx
variable {P:Program} {G:Nat->Option (List ZK)} {Γ Γ':aH} {H H':ZJ} {w w':World}
variable {k:Int}{es:List (Int × Int)}{b i:Nat}{kt t:TypeId}{ck cm cx:Value}{v:ZK}
def HB (k:Int):∀(es:List (Int × Int)) (j i:Nat),Instr.findNow (.int .i64) (.int .i64 k) (eB j es) i=some ((gW k i es).map fun p=>(p.1,.int .i64 p.2)):=by
 intro es
 induction es with
 |nil=>intro j i;rfl
 |cons e es ih =>
  intro j i;obtain⟨a,v⟩:=e;simp only[eB,Instr.findNow,Instr.sameNow,if_true,gW];by_cases h:k=a
  ·subst h;simp
  ·have:(k == a)=false:=(by simp[h]);rw[this];simp only[Vx h];exact ih (j+1) (i+1)
def HC:∀(es fs:List (Int × Int)) (j:Nat),eB j (es++fs)=eB j es++eB (j+es.length) fs:=by
 intro es
 induction es with
 |nil=>intro fs j;simp[eB]
 |cons e es ih =>
  intro fs j;obtain⟨a,v⟩:=e;simp only[List.cons_append,eB,ih,List.length_cons];rw[show j+1+es.length=j+(es.length+1) by omega]
def Bx:∀(es:List (Int × Int)) (j i:Nat),(eB j es)[i]?=es[i]?.map fun p=>⟨.int .i64 p.1,.int .i64 p.2,j+i⟩:=by
 intro es
 induction es with
 |nil=>intro j i;simp[eB]
 |cons e es ih =>
  intro j i;obtain⟨a,v⟩:=e;cases i with
  |zero=>simp[eB]
  |succ i =>
   simp only[eB,List.getElem?_cons_succ,ih];rw[show j+1+i=j+(i+1) by omega]
def HD (f:MapEntry->MapEntry):∀(es:List (Int × Int)) (j i:Nat) (k v k' v':Int),es[i]?=some (k,v)->f ⟨.int .i64 k,.int .i64 v,j+i⟩=⟨.int .i64 k',.int .i64 v',j+i⟩->(eB j es).modify i f=eB j (es.set i (k',v')):=by
 intro es
 induction es with
 |nil=>intro j i k v k' v' h _;simp at h
 |cons e es ih =>
  intro j i k v k' v' h hf;obtain⟨a,u⟩:=e;cases i with
  |zero =>
   simp only[List.getElem?_cons_zero,Option.some.injEq,Prod.mk.injEq]at h;obtain⟨rfl,rfl⟩:=h;simp only[Nat.add_zero]at hf;simp[eB,hf]
  |succ i =>
   simp only[List.getElem?_cons_succ]at h;have:=ih (j+1) i k v k' v' h (by rw[show j+1+i=j+(i+1) by omega];exact hf);simp only[eB,List.modify_succ_cons,List.set_cons_succ,this]
def By :∀ {es:List (Int × Int)} {i n:Nat} {v:Int},gW k i es=some (n,v)->i<=n/\es[n-i]?=some (k,v):=by
 intro es
 induction es with
 |nil=>intro i n v h;cases h
 |cons e es ih =>
  intro i n v h;obtain⟨a,u⟩:=e;simp only[gW]at h;by_cases hk:k=a
  ·rw[VA hk]at h;cases h;subst hk;exact⟨ZI,ZF⟩
  ·rw[Vx hk]at h;obtain⟨h1,h2⟩:=ih h;refine⟨O,?_⟩;rw[show n-i=(n-(i+1))+1 by omega];exact h2
def HE:∀(es:List (Int × Int)) (j n:Nat),n<es.length->(eB j es).findIdx? (fun e=>(e.born:Int) == ((j+n:Nat):Int))=some n:=by
 intro es
 induction es with
 |nil=>intro j n h;simp at h
 |cons e es ih =>
  intro j n h;obtain⟨a,u⟩:=e;simp only[eB,List.findIdx?_cons];cases n with
  |zero=>simp
  |succ n =>
   have hne:((j:Int) == ((j+(n+1):Nat):Int))=false:=by
    rw[beq_eq_false_iff_ne];omega
   rw[hne];have:=ih (j+1) n (by simpa using h);rw[show j+1+n=j+(n+1) by omega]at this;simp only[Bool.false_eq_true,if_false,this];rfl
def Bz (k v:Int):Obj.map ((eB 0 es).toArray.push ⟨.int .i64 k,.int .i64 v,es.length⟩) (es.length+1)=iM (es++[(k,v)]):=by
 unfold iM;rw[HC];simp[eB]
def yy {v k' v':Int}(f:MapEntry->MapEntry)(h:es[i]?=some (k,v))(hf:f ⟨.int .i64 k,.int .i64 v,i⟩=⟨.int .i64 k',.int .i64 v',i⟩):
  Obj.map ((eB 0 es).toArray.modify i f) es.length=iM (es.set i (k',v')):=by
 unfold iM;have:=HD f es 0 i k v k' v' h (by simpa using hf);rw[<- this,VW];congr 1;apply Array.ext';simp
def HF {v:Int}(h:es[i]?=some (k,v)):es.set i (k,v)=es:=by
 obtain⟨hi,he⟩:=VX.1 h;rw[<- he];exact List.set_getElem_self hi
structure IntMap (P:Program)(t:TypeId)(kt et:TypeId):Prop where
 und:P.underlying t=some (.map kt et)
 key:P.underlying kt=some (.int .i64)
 zero:∀w:World,(zeroValue et).run P w=.ok (.int .i64 0) w
def yz (h:o9 P t=true):∃kt et,IntMap P t kt et:=by
 unfold o9 at h;split at h
 ·rename_i kt et ht;simp only[Wh]at h;obtain⟨h1,h2⟩:=h;split at h1
  ·rename_i hk;split at h2
   ·rename_i hz;rw[VC]at hz;obtain⟨i,hi,hz⟩:=hz;exact⟨kt,et,ht,hk,fun w=>qw hi hz⟩
   ·cases h2
  ·cases h1
 ·cases h
def run_checkKey {e:Bool}(hk:P.underlying kt=some (.int .i64)):(Instr.checkKey e 10000 kt (.int .i64 k)).run P w=.ok () w:=by
 show (Instr.checkKey e (9999+1) kt (.int .i64 k)).run P w=.ok () w;unfold Instr.checkKey;rw[az (dp hk)];rfl
def run_findKey (hk:P.underlying kt=some (.int .i64)):(Instr.findKey kt (.int .i64 k) (eB 0 es)).run P w=.ok ((gW k 0 es).map fun p=>(p.1,.int .i64 p.2)) w:=by
 unfold Instr.findKey;rw[az (dp hk),HB];rfl
def BA :(Instr.keyThatStays (.int .i64 k) (.int .i64 k)).run P w=.ok (.int .i64 k) w:=by
 unfold Instr.keyThatStays;have:Instr.sameBits 10000 (.int .i64 k) (.int .i64 k)=true:=by
  show (IntKind.i64 == IntKind.i64 && k == k)=true;simp
 rw[this];rfl
def tJ (h:w.heap[b]?=some (iM es)):(getObj b).run P w=.ok (.map (eB 0 es).toArray es.length) w:=by simp[getObj,Sem.run,h,iM]
def tK (o:Obj)(h:w.heap[b]?=some (iM es)):(setObj b o).run P w=.ok () (cB w b o):=by
 have h':w.heap[b]?=some (.map (eB 0 es).toArray es.length):=h;simp[setObj,Sem.run,h',cB]
def vG {id:Nat}{cv:Value}(R:ZT P G Γ H w)(h:ZO P Γ H w (.np id) cv)(hg:H.get id=some (.mp es)):∃b,Γ id=some (b,0,0)/\cv=.map (some b)/\w.heap[b]?=some (iM es):=by
 cases h with
 |np h =>
  obtain⟨b,h1,h2⟩:=h.2.2.2.2 es hg;obtain⟨b',h3,h4⟩:=R.mp id es hg;rw[h1]at h3;cases h3;exact⟨b,h1,h2,h4⟩
def BB (ok:Bool)(r:Option (Nat × Int))(v:Value)(b:Bool)(h:(v,b)=match r with|some (_,v)=>(Value.int .i64 v,true)|none=>(Value.int .i64 0,false)):ZO P Γ H w (tA ok r) (if ok=true then .tuple #[v,.bool b] else v):=by
 have two:∀x y:Value,ZO P Γ H w (.nf [.lit x,.lit y]) (.tuple #[x,y]):=fun x y=>ZO.nf (cells:=[.lit x,.lit y]) (cs:=[x,y]) rfl fun i h _=>match i,h with
  |0,_=>.lit _
  |1,_=>.lit _
 cases r with
 |none =>
  simp only[Prod.mk.injEq]at h;obtain⟨rfl,rfl⟩:=h;cases ok
  ·exact .lit _
  ·exact two _ _
 |some p =>
  obtain⟨n,u⟩:=p;simp only[Prod.mk.injEq]at h;obtain⟨rfl,rfl⟩:=h;cases ok
  ·exact .lit _
  ·exact two _ _
def HG {x i:ZK}{ok:Bool}{ci:Value}(R:ZT P G Γ H w)(h:nJ P H t x i ok=some v)(hx:ZO P Γ H w x cx)(hi:ZO P Γ H w i ci):
  ∃cv,(Instr.lookup t cx ci ok).run P w=.ok cv w/\ZO P Γ H w v cv:=by
 unfold nJ at h;split at h
 ·rename_i hm;obtain⟨kt,et,M⟩:=yz hm;split at h
  ·rename_i k;cases hx;cases hi;cases h;refine⟨_,?_,BB ok none (.int .i64 0) false rfl⟩;unfold Instr.lookup;rw[az (dp M.und)];simp only;refine(az (Sem.run_pure P w _)).trans ?_;refine(az (run_checkKey M.key)).trans ?_;refine(az (run_findKey (es:=[]) M.key)).trans ?_;refine(az (M.zero w)).trans ?_;cases ok<;>rfl
  ·rename_i id k;cases hi;split at h
   ·rename_i es hg;cases h;obtain⟨b,hΓ,rfl,hb⟩:=vG R hx hg;have fin:∀(u:Value) (d:Bool),((u,d)=match gW k 0 es with|some (_,v)=>(Value.int .i64 v,true)|none=>(Value.int .i64 0,false))->∃cv,(Instr.lookup t (.map (some b)) (.int .i64 k) ok).run P w=.ok cv w/\ZO P Γ H w (tA ok (gW k 0 es)) cv:=by
     intro u d hud;refine⟨_,?_,BB ok _ u d hud⟩;unfold Instr.lookup;rw[az (dp M.und)];simp only;refine(az (tJ hb)).trans ?_;refine(az (Sem.run_pure P w _)).trans ?_;refine(az (run_checkKey M.key)).trans ?_;refine(az (run_findKey (es:=es) M.key)).trans ?_;cases hf:gW k 0 es with
     |none =>
      rw[hf]at hud;cases hud;refine(az (M.zero w)).trans ?_;cases ok<;>rfl
     |some p =>
      rw[hf]at hud;cases hud;cases ok<;>rfl
    exact fin _ _ rfl
   ·cases h
  ·cases h
 ·cases h
def BC {m k x:ZK}(R:ZT P G Γ H w)(h:kg P H t m k x=some (v,H'))(hm:ZO P Γ H w m cm)(hk:ZO P Γ H w k ck)(hx:ZO P Γ H w x cx):
  ∃ Γ' w',(Instr.mapUpdate t cm ck cx).run P w=.ok () w'/\ZX Γ H w Γ' H' w'/\H.A<=H'.A/\ZT P G Γ' H' w'/\v=.lit undef:=by
 unfold kg at h;split at h
 ·rename_i him;obtain⟨kt,et,M⟩:=yz him;split at h
  ·rename_i id k u;cases hk;cases hx;split at h
   ·rename_i es hg;simp only[Option.some.injEq,Prod.mk.injEq]at h;obtain⟨rfl,rfl⟩:=h;obtain⟨b,hΓ,rfl,hb⟩:=vG R hm hg;obtain⟨E,R'⟩:=vA (rC es k u) R hg hΓ hb;refine⟨Γ,_,?_,E,ZI,R',rfl⟩;unfold Instr.mapUpdate;rw[az (dp M.und)];simp only;refine(az (tJ hb)).trans ?_;refine(az (run_checkKey M.key)).trans ?_;refine(az (run_findKey (es:=es) M.key)).trans ?_;unfold rC;cases hf:gW k 0 es with
    |none =>
     simp only[Option.map_none];rw[tK _ hb,Bz]
    |some p =>
     obtain⟨n,nb⟩:=p;obtain⟨_,hn⟩:=By hf;simp only[Nat.sub_zero]at hn;have he:(eB 0 es).toArray[n]?=some ⟨.int .i64 k,.int .i64 nb,n⟩:=by
      rw[List.getElem?_toArray,Bx,hn];simp
     simp only[Option.map_some,he,Option.getD_some];refine(az BA).trans ?_;rw[tK _ hb];rw[yy (k':=k) (v':=u) _ hn rfl]
   ·cases h
  ·cases h
 ·cases h
def HH {m k:ZK}(R:ZT P G Γ H w)(h:qk P H t m k=some (v,H'))(hm:ZO P Γ H w m cm)(hk:ZO P Γ H w k ck):
  ∃cv Γ' w',(Instr.mapEntry t cm ck).run P w=.ok cv w'/\ZX Γ H w Γ' H' w'/\H.A<=H'.A/\ZT P G Γ' H' w'/\ZO P Γ' H' w' v cv:=by
 have two:∀(Γ:aH) (H:ZJ) (w:World) (x y:Value),ZO P Γ H w (.nf [.lit x,.lit y]) (.tuple #[x,y]):=fun Γ H w x y=>ZO.nf (cells:=[.lit x,.lit y]) (cs:=[x,y]) rfl fun i h _=>match i,h with
  |0,_=>.lit _
  |1,_=>.lit _
 unfold qk at h;split at h
 ·rename_i him;obtain⟨kt,et,M⟩:=yz him;split at h
  ·rename_i id k;cases hk;split at h
   ·rename_i es hg;obtain⟨b,hΓ,rfl,hb⟩:=vG R hm hg;split at h
    ·rename_i n u hf;simp only[Option.some.injEq,Prod.mk.injEq]at h;obtain⟨rfl,rfl⟩:=h;obtain⟨_,hn⟩:=By hf;simp only[Nat.sub_zero]at hn;have he:(eB 0 es).toArray[n]?=some ⟨.int .i64 k,.int .i64 u,n⟩:=by
      rw[List.getElem?_toArray,Bx,hn];simp
     obtain⟨E,R'⟩:=vA es R hg hΓ hb;refine⟨_,Γ,_,?_,E,ZI,R',two _ _ _ (.int .i64 u) (.int .i64 n)⟩;unfold Instr.mapEntry;rw[az (dp M.und)];simp only;refine(az (tJ hb)).trans ?_;refine(az (run_checkKey M.key)).trans ?_;refine(az (run_findKey (es:=es) M.key)).trans ?_;rw[hf];simp only[Option.map_some,he,Option.getD_some];refine(az BA).trans ?_;rw[az (tK _ hb),yy (k':=k) (v':=u) _ hn rfl,HF hn];rfl
    ·rename_i hf;simp only[Option.some.injEq,Prod.mk.injEq]at h;obtain⟨rfl,rfl⟩:=h;obtain⟨E,R'⟩:=vA (es++[(k,0)]) R hg hΓ hb;refine⟨_,Γ,_,?_,E,ZI,R',two _ _ _ (.int .i64 0) (.int .i64 es.length)⟩;unfold Instr.mapEntry;rw[az (dp M.und)];simp only;refine(az (tJ hb)).trans ?_;refine(az (run_checkKey M.key)).trans ?_;refine(az (run_findKey (es:=es) M.key)).trans ?_;rw[hf];simp only[Option.map_none];refine(az (M.zero w)).trans ?_;rw[az (tK _ hb),Bz];rfl
   ·cases h
  ·cases h
 ·cases h
def HI {m s x:ZK}{cs:Value}(R:ZT P G Γ H w)(h:rD H m s x=some (v,H'))(hm:ZO P Γ H w m cm)(hs:ZO P Γ H w s cs)(hx:ZO P Γ H w x cx):
  ∃ Γ' w',(Instr.entryStore t cm cs cx).run P w=.ok () w'/\ZX Γ H w Γ' H' w'/\H.A<=H'.A/\ZT P G Γ' H' w'/\v=.lit undef:=by
 unfold rD at h;split at h
 ·rename_i id s u;cases hs;cases hx;split at h
  ·rename_i es hg;split at h
   ·rename_i hlt;simp only[Option.some.injEq,Prod.mk.injEq]at h;obtain⟨rfl,rfl⟩:=h;obtain⟨b,hΓ,rfl,hb⟩:=vG R hm hg;obtain⟨n,rfl⟩:=VE hlt.1;have hn:n<es.length:=O;obtain⟨E,R'⟩:=vA (yf es n u) R hg hΓ hb;refine⟨Γ,_,?_,E,ZI,R',rfl⟩;unfold Instr.entryStore;simp only;refine(az (tJ hb)).trans ?_;have hi:(asInt (.int .i64 (n:Int))).run P w=.ok (n:Int) w:=rfl;refine(az hi).trans ?_;have hf:=HE es 0 n hn;simp only[Nat.zero_add]at hf;have hf2:(eB 0 es).toArray.findIdx? (fun e=>(e.born:Int) == (n:Int))=some n:=by
     rw[List.findIdx?_toArray];exact hf
    rw[hf2];simp only;have hg2:es[n]?=some es[n]:=Vz hn;rw[tK _ hb];unfold yf;rw[hg2];simp only;rw[yy (k:=es[n].1) (v:=es[n].2) (k':=es[n].1) (v':=u) _ hg2 rfl]
   ·cases h
  ·cases h
 ·cases h
end Go.Hx
namespace Go.Hx
variable {P:Program} {G:Nat->Option (List ZK)} {Γ Γ':aH} {H H':ZJ} {w w':World}
variable {fs:Array Field}{cs:Array Value}{ρ:Env}{fl:Field}{id off:Nat}{f:Operand->Value}{cv cx:Value}{v x:ZK}
def BD {s:Sem Value}(h:s.run P w=.ok cv w'):(do pure (Next.value (<- s)):Sem Next).run P w=.ok (.value cv) w':=by
 rw[az h];rfl
def vI {s:Sem Unit}(h:s.run P w=.ok () w'):(do s;pure Next.skip:Sem Next).run P w=.ok .skip w':=by
 rw[az h];rfl
def dq (P:Program)(G:Nat->Option (List ZK))(Γ:aH)(H:ZJ)(w:World)(v:ZK)(H':ZJ)(s:Sem Next):Prop :=
 ∃nx cv Γ' w',s.run P w=.ok nx w'/\(nx=.value cv\/(nx=.skip/\cv=undef))/\ZX Γ H w Γ' H' w'/\H.A<=H'.A/\ZT P G Γ' H' w'/\ZO P Γ' H' w' v cv
def dq.same {s:Sem Value}(R:ZT P G Γ H w)(h:s.run P w=.ok cv w)(hv:ZO P Γ H w v cv):
  dq P G Γ H w v H (do pure (Next.value (<- s))) :=
 ⟨.value cv,cv,Γ,w,BD h,.inl rfl,ZX.refl _ _ _,ZI,R,hv⟩
theorem BE:∀ {cells:List ZK} {l:List Int} {cs:List Value},rG cells=some l->cs.length=cells.length->(∀i (_:i<cells.length) (_:i<cs.length),ZO P Γ H w cells[i] cs[i])->cs=l.map (Value.int .u8)
 | [],l,cs,hb,hl,_=>by
  obtain rfl:l=[]:=by simpa[rG] using hb.symm
  exact VF hl
 |x :: cells,l,[],hb,hl,_=>by simp at hl
 |x :: cells,l,c :: cs,hb,hl,hr=>by
  have h0:=hr 0 ZF ZF;simp only[Wq]at h0;unfold rG at hb;split at hb
  ·rename_i hx;cases hx
  ·rename_i n r hx;cases hx;simp only[Vw]at hb;obtain⟨l',hl',rfl⟩:=hb;have hc:c=.int .u8 n:=(by cases h0;rfl);subst hc;have:=BE (cs:=cs) hl' (by simpa using hl) fun i h1 h2=>by
    have:=hr (i+1) (by simp;omega) (by simp;omega);simpa using this
   rw[this];rfl
  ·cases hb
def HJ {n:Nat}{cells:List ZK}{l:List Int}(R:ZT P G Γ H w)(hs:dH H 1 x=some (n,cells))(hx:ZO P Γ H w x cx)(hc:∃a m c,cx=.slice a m c)(hb:rG cells=some l):
  (Conv.bytesToString cx).run P w=.ok (.string (Bi l)) w:=by
 obtain⟨h1,h2,cs,h3,h4,h5⟩:=vF R hs hx;have h6:=BE hb h4 h5;obtain⟨a,m,c,rfl⟩:=hc;have hm:m=n:=by
  have h1':(Builtin.lenOf (.slice a m c)).run P w=.ok m w:=rfl;rw[h1']at h1;exact(Result.ok.inj h1).1
 subst hm;cases a with
 |none =>
  have h3':(Builtin.firstCells 1 m (.slice none m c)).run P w=.ok #[] w:=rfl;rw[h3']at h3;have:cs=[]:=by
   have:=(Result.ok.inj h3).1;have h7:=congrArg Array.toList this;simpa using h7.symm
  rw[this]at h6;have hl:l=[]:=by simpa using h6.symm
  subst hl;rfl
 |some a =>
  have h3':(loadCells a m).run P w=.ok cs.toArray w:=by
   have:=h3;unfold Builtin.firstCells at this
   rwa [Nat.mul_one]at this
  rw[h6]at h3';exact run_bytesToString w a m c l h3'
def HK {s d:TypeId}(R:ZT P G Γ H w)(hx:ZO P Γ H w x cx)(hb:mF P H s d x=some v):dq P G Γ H w v H (do pure (Next.value (<- convert s d cx))):=by
 have bytes:∀y:ZK,ZO P Γ H w y cx->(∀n cells,dH H 1 y=some (n,cells)->∃a m c,cx=.slice a m c)->pf P H s d y=some v->dq P G Γ H w v H (do pure (Next.value (<- convert s d cx))):=by
  intro y hy hc hb;unfold pf at hb;split at hb
  ·rename_i hsb;simp only[VC,Vw]at hb;obtain⟨⟨n,cells⟩,hs,l,hl,rfl⟩:=hb;have hsl:=hc n cells hs;have hrun:=HJ R hs hy hsl hl;unfold Bj at hsb;split at hsb
   ·rename_i e h1 h2;split at hsb
    ·rename_i h3;obtain⟨a,m,c,rfl⟩:=hsl;exact dq.same R ((run_convert_bytes_string w s d e a m c h1 h3 h2).trans hrun) (.lit _)
    ·cases hsb
   ·cases hsb
  ·cases hb
 unfold mF at hb;split at hb
 ·rename_i id g o l z;refine bytes _ hx (fun n cells hs=>?_) hb;unfold dH at hs;simp only at hs;split at hs
  ·simp only[Vw]at hs;obtain⟨⟨e,cells'⟩,hl,_⟩:=hs;rcases kR hx hl with ⟨b,base,nn,a,cap,hΓ,rfl,_⟩|⟨hΓ,_,_,rfl⟩
   ·exact⟨_,_,_,rfl⟩
   ·exact⟨_,_,_,rfl⟩
  ·cases hs
 ·refine bytes _ hx (fun n cells hs=>?_) hb;cases hx with
  |nu a cap=>exact⟨_,_,_,rfl⟩
  |Q=>exact⟨_,_,_,rfl⟩
 ·unfold mE at hb;split at hb
  ·rename_i a ha;simp only[Vw]at hb;obtain⟨r,hr,rfl⟩:=hb;rw[<- hx.dG ha]at hr;exact dq.same R (qi hr w) (.lit _)
  ·cases hb
def dq.new {s:Sem Value}(h:∃cv Γ' w',s.run P w=.ok cv w'/\ZX Γ H w Γ' H' w'/\H.A<=H'.A/\ZT P G Γ' H' w'/\ZO P Γ' H' w' v cv):
  dq P G Γ H w v H' (do pure (Next.value (<- s))) :=
 let ⟨cv,Γ',w',h1,h2,h3,h4,h5⟩:=h
 ⟨.value cv,cv,Γ',w',BD h1,.inl rfl,h2,h3,h4,h5⟩
def BG {G:Nat->Option (List ZK)}(hev:∀x,ZO P Γ H w (ay G ρ x) (f x))(l:List Operand):
  ∀i (_:i<(l.map (ay G ρ)).length) (_:i<(l.map f).length),ZO P Γ H w (l.map (ay G ρ))[i] (l.map f)[i]:=by
 intro i h1 h2;simp only[VO];exact hev _
def BH (hev:∀x,ZO P Γ H w (ay G ρ x) (f x))(parts:Array (Nat × Operand)):
  (parts.map fun (p:Nat × Operand)=>(p.1,f p.2)).toList.length=(parts.toList.map fun p=>(p.1,ay G ρ p.2)).length /\
  ∀i (h1:i<(parts.toList.map fun p=>(p.1,ay G ρ p.2)).length) (h2:i<(parts.map fun (p:Nat × Operand)=>(p.1,f p.2)).toList.length),
   (parts.toList.map fun p=>(p.1,ay G ρ p.2))[i].1=(parts.map fun (p:Nat × Operand)=>(p.1,f p.2)).toList[i].1 /\
   ZO P Γ H w (parts.toList.map fun p=>(p.1,ay G ρ p.2))[i].2 (parts.map fun (p:Nat × Operand)=>(p.1,f p.2)).toList[i].2:=by
 refine⟨ZF,fun i h1 h2=>?_⟩;simp only[VO,WE,XS];exact⟨trivial,hev _⟩
def BI (hev:∀x,ZO P Γ H w (ay G ρ x) (f x))(o:Option Operand):rN P Γ H w (o.map (ay G ρ)) (o.map f):=by
 cases o with
 |none=>trivial
 |some x=>exact hev x
def BJ:∀ {args:List ZK} {vs cs:List Value},rE args=some vs->cs.length=args.length->(∀i (_:i<args.length) (_:i<cs.length),ZO P Γ H w args[i] cs[i])->cs=vs:=by
 intro args
 induction args with
 |nil=>intro vs cs h hl _;simp only[rE,Option.some.injEq]at h;subst h;simpa using hl
 |cons a args ih =>
  intro vs cs h hl hr;simp only[rE,VC,Vw]at h;obtain⟨x,hx,l,hl2,rfl⟩:=h;cases cs with
  |nil=>simp at hl
  |cons c cs =>
   have h0:=hr 0 ZF ZF;simp only[Wq]at h0;rw[h0.dG hx];have:=ih hl2 (by simpa using hl) (fun i a b=>hr (i+1) (by simpa using a) (by simpa using b));rw[this]
def HL {b:Builtin}{ats:Array TypeId}{args:List ZK}{cargs:Array Value}{ty:TypeId}{cs:Array Bool}(R:ZT P G Γ H w)(h:iO P H id b ats.toList args=some (v,H'))
  (hl:cargs.toList.length=args.length) (hr:∀i (_:i<args.length) (_:i<cargs.toList.length),ZO P Γ H w args[i] cargs.toList[i]):
  dq P G Γ H w v H' (builtin b ats ty cs cargs):=by
 obtain⟨ats⟩:=ats;obtain⟨cargs⟩:=cargs;simp only at h hl hr;unfold iO at h;split at h
 ·rename_i t x;simp only[Vw,Prod.mk.injEq]at h;obtain⟨v',hv,rfl,rfl⟩:=h
  match cargs,hl,hr with
  | [cx],_,hr =>
   obtain⟨cv,h1,h2⟩:=Ho (ty:=ty) hv (hr 0 ZF ZF);exact dq.same R h1 h2
 ·rename_i t u s x
  match cargs,hl,hr with
  | [c1,c2],_,hr=>exact dq.new (Hn R h (hr 0 ZF ZF) (hr 1 ZF ZF))
 ·rename_i t u d x
  match cargs,hl,hr with
  | [c1,c2],_,hr=>exact dq.new (Hv R h (hr 0 ZF ZF) (hr 1 ZF ZF))
 ·rename_i t d
  match cargs,hl,hr with
  | [c1],_,hr=>exact dq.new (HA R h (hr 0 ZF ZF))
 ·simp only[VC,Vw,Prod.mk.injEq]at h;obtain⟨vs,hvs,r,hp,rfl,rfl⟩:=h;have:=BJ hvs hl hr;subst this;exact dq.same R (qi hp w) (.lit _)
 ·simp only[VC,Vw,Prod.mk.injEq]at h;obtain⟨vs,hvs,r,hp,rfl,rfl⟩:=h;have:=BJ hvs hl hr;subst this;exact dq.same R (qi hp w) (.lit _)
 ·cases h
def yA {t:TypeId}{cells:List ZK}(h:jv P t cells off=some v)(hc:eE P Γ H w cells cs):
  ∃cv,(part t cs off).run P w=.ok cv w/\ZO P Γ H w v cv:=by
 unfold jv at h;unfold part;split at h
 ·cases h
 ·rename_i d hd;rw[az (yb hd)];split at h
  ·rename_i ha;split at h
   ·rename_i hle;simp only[Option.some.injEq]at h;subst h;rw[ha,VA rfl,az (jO hd)];refine⟨_,rfl,?_⟩;have he:(cs.extract off (off+P.cellsOf t))=((cs.toList.drop off).take (P.cellsOf t)).toArray:=by
     apply Array.ext';simp[List.extract_eq_take_drop]
    rw[he];have hsz:=hc.1;refine .agg (by simp only[VK,Wi,Xm];omega) (fun i h1 h2=>?_);simp only[XQ,XR,WE];simp only[VK,Wi]at h1;exact hc.2 (off+i) O (O)
   ·cases h
  ·rename_i ha;have:rp d=false:=(by simpa using ha);rw[this];simp only[Bool.false_eq_true,if_false];obtain⟨hlt,hv⟩:=VX.1 h;subst hv;obtain⟨cv,h1,h2⟩:=hc.get hlt;rw[h1];exact⟨cv,rfl,h2⟩
def BK {cells:List ZK}(h:ZO P Γ H w (.agg cells) cv):∃cs:Array Value,cv=.agg cs/\eE P Γ H w cells cs:=by
 cases h with
 | @agg _ cs hcs hrel=>exact⟨cs.toArray,rfl,by simpa using hcs,fun i h1 h2=>by simpa using hrel i h1 (by simpa using h2)⟩
def BL {t f:Nat}{ft:TypeId}(h:bU P t f=some (off,ft)):∃fs fl i,P.underlying t=some (.struct fs)/\fs[f]?=some fl/\P.info? fl.type=some i/\P.cellsOf fl.type≠0/\off=fl.offset/\ft=fl.type:=by
 unfold bU at h;split at h
 ·rename_i fs hd;split at h
  ·rename_i fl hf;split at h
   ·rename_i hi;obtain⟨i,hi1⟩:=Wj.1 hi.1;simp only[Option.some.injEq,Prod.mk.injEq]at h;exact⟨fs,fl,i,hd,hf,hi1,hi.2,h.1.symm,h.2.symm⟩
   ·cases h
  ·cases h
 ·cases h
def BM {t f:Nat}{i:TypeInfo}{a:Addr}(hd:P.underlying t=some (.struct fs))(hf:fs[f]?=some fl)(hi:P.info? fl.type=some i)(h0:P.cellsOf fl.type≠0):
  (Instr.fieldAt t (.pointer (some a)) f).run P w=.ok (.pointer (some (a.add fl.offset))) w:=by
 unfold Instr.fieldAt;rw[az (dp hd)];simp only[hf];have sa:(Instr.sureAddr (.pointer (some a))).run P w=.ok a w:=rfl;rw[az sa];unfold fieldPlace;have:(do if (<- sizeOf fl.type)=0 then partAt a fl.offset fl.byteOffset else pure (a.add fl.offset):Sem Addr).run P w=.ok (a.add fl.offset) w:=by
  rw[az (run_sizeOf hi),Vx h0];rfl
 rw[az this];rfl
def BN {t f:Nat}(hd:P.underlying t=some (.struct fs))(hf:fs[f]?=some fl):
  (Instr.field t (.agg cs) f).run P w=(part fl.type cs fl.offset).run P w:=by
 unfold Instr.field;rw[az (dp hd)];simp only[hf];have sa:(asAgg (.agg cs)).run P w=.ok cs w:=rfl;rw[az sa]
def HM {i:Nat}(h:ph x i=some v)(hx:ZO P Γ H w x cx):∃cv,(Instr.extract cx i).run P w=.ok cv w/\ZO P Γ H w v cv:=by
 cases hx with
 | @nf vs cs hcs hrel =>
  simp only[ph]at h;obtain⟨hlt,hv⟩:=VX.1 h;subst hv;refine⟨cs[i]' O,?_,hrel i hlt O⟩;have:Instr.extract (.tuple cs.toArray) i=(pure (cs[i]' O):Sem Value):=by
   unfold Instr.extract;simp only[List.getElem?_toArray];rw[Vz O]
  rw[this];rfl
 |lit =>
  cases cx with
  |tuple vs =>
   simp only[ph,Vw]at h;obtain⟨r,hr,rfl⟩:=h;refine⟨r,?_,.lit _⟩;have:Instr.extract (.tuple vs) i=(pure r:Sem Value):=by
    unfold Instr.extract;simp[hr]
   rw[this];rfl
  |_=>simp[ph]at h
 |_=>simp[ph]at h
def yB {o:Oper}(R:ZT P G Γ H w)(hev:∀x,ZO P Γ H w (ay G ρ x) (f x))(h:ar P G ρ H id o.op=some (v,H')):
  dq P G Γ H w v H' (execOp f o):=by
 obtain⟨dst,op,type,pos,after,guard⟩:=o;simp only at h;unfold execOp;cases op with
 |move x =>
  simp only[ar,Option.some.injEq,Prod.mk.injEq]at h;obtain⟨rfl,rfl⟩:=h;exact⟨_,_,Γ,w,rfl,.inl rfl,ZX.refl _ _ _,ZI,R,hev x⟩
 |assign x =>
  simp only[ar,Option.some.injEq,Prod.mk.injEq]at h;obtain⟨rfl,rfl⟩:=h;exact⟨_,_,Γ,w,rfl,.inl rfl,ZX.refl _ _ _,ZI,R,hev x⟩
 |pick c a b =>
  simp only[ar]at h;have hc:=hev c;split at h
  ·rename_i t ht;rw[ht]at hc;simp only[Option.some.injEq,Prod.mk.injEq]at h;obtain⟨rfl,rfl⟩:=h;dsimp only;generalize f c=fc at hc ⊢;cases hc;refine⟨.value (if t then f a else f b),(if t then f a else f b),Γ,w,?_,.inl rfl,ZX.refl _ _ _,ZI,R,?_⟩
   ·cases t<;>rfl
   ·cases t
    ·exact hev b
    ·exact hev a
  ·cases h
 |alloc e =>
  simp only[ar,VC,Vw,Prod.mk.injEq]at h;obtain⟨z,hz,H1,hlay,rfl,rfl⟩:=h;obtain⟨i,zv,hi,hzv,hsz,hzz,hcells⟩:=rM hz;have hz0:eE P Γ H w z zv.cells:=hzz ▸ eE.lit _;obtain⟨E,hn,R'⟩:=rB (c:=zv.cells) R hlay (by rw[hz0.1];exact Nat.le_refl _) (fun i hi=>hz0.get hi);obtain⟨hget,_⟩:=kQ hlay;obtain⟨_,_,_,hid⟩:=oW R hlay;refine dq.new ⟨_,_,_,?_,E,hn,R',Bm (by rw[hget,VA rfl]) hid (aH.fh _ _ _)⟩;unfold Instr.alloc;rw[az (qw hi hzv)];rfl
 |box e x =>
  simp only[ar,Vw,Prod.mk.injEq]at h;obtain⟨H1,hlay,rfl,rfl⟩:=h;obtain⟨v1,v2⟩:=(hev x).cells;obtain⟨E,hn,R'⟩:=rB (c:=(f x).cells) R hlay (by rw[<- v1];simp) (fun i hi=>⟨(f x).cells[i]'(by rw[<- v1]at hi;simpa using hi),VL _,by
   have:=v2 i hi (by rw[v1];exact hi);simpa using this⟩)
  obtain⟨hget,_⟩:=kQ hlay;obtain⟨_,_,_,hid⟩:=oW R hlay;exact dq.new ⟨_,_,_,rfl,E,hn,R',Bm (by rw[hget,VA rfl]) hid (aH.fh _ _ _)⟩
 |build t parts =>
  simp only[ar,Vw,Prod.mk.injEq]at h;obtain⟨v',hb,rfl,rfl⟩:=h;obtain⟨p1,p2⟩:=BH hev parts;obtain⟨cv,h1,h2⟩:=G3 (w:=w) hb p1 p2;exact dq.same R h1 h2
 |buildSlice t len parts =>
  simp only[ar]at h;obtain⟨p1,p2⟩:=BH hev parts;exact dq.new (G4 R h p1 p2)
 |load t a =>
  simp only[ar,Vw,Prod.mk.injEq]at h;obtain⟨v',hb,rfl,rfl⟩:=h;obtain⟨cv,h1,h2⟩:=GU R hb (hev a);exact dq.same R h1 h2
 |store t a x =>
  simp only[ar]at h;split at h
  ·rename_i hu;obtain⟨d,hd⟩:=Wj.1 hu;simp only[Vw,Prod.mk.injEq]at h;obtain⟨H1,hst,rfl,rfl⟩:=h;obtain⟨w',h1,h2,h3,h4⟩:=GV R hst (Bd hd) (hev a) (hev x);exact⟨.skip,undef,Γ,w',vI h1,.inr ⟨rfl,rfl⟩,h2,h3,h4,.lit _⟩
  ·cases h
 |nilCheck x =>
  simp only[ar,Vw,Prod.mk.injEq]at h;obtain⟨v',hb,rfl,rfl⟩:=h;have hx:=hev x;unfold mG at hb;split at hb
  ·rename_i id' gen off hx';simp only[Vw]at hb;obtain⟨⟨e,cells⟩,hl,rfl⟩:=hb;rw[hx']at hx;obtain⟨b,base,n,hΓ,hcv⟩:=rH hx hl;simp only[hcv]at hx ⊢;exact⟨_,_,Γ,w,rfl,.inl rfl,ZX.refl _ _ _,ZI,R,hx⟩
  ·rename_i cells off hx';simp only[Option.some.injEq]at hb;subst hb;rw[hx']at hx;dsimp only;generalize f x=fx at hx ⊢;cases hx with
   |ni a b c d e=>exact⟨_,_,Γ,w,rfl,.inl rfl,ZX.refl _ _ _,ZI,R,.ni a b c d e⟩
  ·rename_i ff a b hx';simp only[Option.some.injEq]at hb;subst hb;rw[hx']at hx;dsimp only;generalize f x=fx at hx ⊢;cases hx with
   |Z a b c d=>exact⟨_,_,Γ,w,rfl,.inl rfl,ZX.refl _ _ _,ZI,R,.Z a b c d⟩
  ·cases hb
 |binOp op t x y u =>
  simp only[ar,Vw,Prod.mk.injEq]at h;obtain⟨v',hb,rfl,rfl⟩:=h;unfold bI at hb;split at hb
  ·rename_i a b ha hb';simp only[Vw]at hb;obtain⟨r,hr,rfl⟩:=hb;rw[<- (hev x).dG ha,<- (hev y).dG hb']at hr;exact dq.same R (qi hr w) (.lit _)
  ·cases hb
 |unOp op t x =>
  simp only[ar,Vw,Prod.mk.injEq]at h;obtain⟨v',hb,rfl,rfl⟩:=h;unfold rF at hb;split at hb
  ·rename_i a ha;simp only[Vw]at hb;obtain⟨r,hr,rfl⟩:=hb;rw[<- (hev x).dG ha]at hr;exact dq.same R (qi hr w) (.lit _)
  ·cases hb
 |convert s d x =>
  simp only[ar,Vw,Prod.mk.injEq]at h;obtain⟨v',hb,rfl,rfl⟩:=h;exact HK R (hev x) hb
 |makeInterface t x =>
  simp only[ar]at h;split at h
  ·rename_i a ha;simp only[Vw,Prod.mk.injEq]at h;obtain⟨r,hr,rfl,rfl⟩:=h;rw[<- (hev x).dG ha]at hr;exact dq.same R (qi hr w) (.lit _)
  ·cases h
 |makeFunc fn first captured =>
  simp only[ar]at h;split at h
  ·simp only[Option.some.injEq,Prod.mk.injEq]at h;obtain⟨rfl,rfl⟩:=h;refine dq.same R (cv:=.func (.func _) (first.map f) (captured.map f)) rfl ?_;have e1:first.map f=(first.toList.map f).toArray:=(by rw[<- YU,YE]);have e2:captured.map f=(captured.toList.map f).toArray:=(by rw[<- YU,YE]);rw[e1,e2];exact .Z ZF ZF (BG hev _) (BG hev _)
  ·cases h
 |makeSlice t l c =>
  simp only[ar]at h;exact dq.new (G7 R h (hev l) (hev c))
 |slice t x lo hi mx =>
  simp only[ar]at h;split at h
  ·simp only[Vw,Prod.mk.injEq]at h;obtain⟨v',hb,rfl,rfl⟩:=h;obtain⟨cv,h1,h2⟩:=Hi R hb (hev x) (BI hev lo) (BI hev hi);exact dq.same R h1 h2
  ·cases h
 |fieldAddr s x fi =>
  simp only[ar,VC]at h;obtain⟨⟨off,ft⟩,hf,h⟩:=h;obtain⟨fs,fl,i,hd,hfl,hi,h0,rfl,rfl⟩:=BL hf;have hx:=hev x;split at h
  ·rename_i id' gen off' hx';simp only[Vw,Prod.mk.injEq]at h;obtain⟨⟨e,cells⟩,hl,rfl,rfl⟩:=h;rw[hx']at hx;obtain⟨a,ha,hr⟩:=Br (k:=fl.offset) hx hl;simp only[ha];exact dq.same R (BM hd hfl hi h0) hr
  ·rename_i cells off' hx';simp only[Option.some.injEq,Prod.mk.injEq]at h;obtain⟨rfl,rfl⟩:=h;rw[hx']at hx;obtain⟨a,ha,hr⟩:=Bs (k:=fl.offset) hx;simp only[ha];exact dq.same R (BM hd hfl hi h0) hr
  ·cases h
 |field t x fi =>
  simp only[ar,VC]at h;obtain⟨⟨off,ft⟩,hf,h⟩:=h;obtain⟨fs,fl,i,hd,hfl,hi,h0,rfl,rfl⟩:=BL hf;have hx:=hev x;split at h
  ·rename_i cells hx';simp only[Vw,Prod.mk.injEq]at h;obtain⟨v',hp,rfl,rfl⟩:=h;rw[hx']at hx;obtain⟨cs,hcv,hrl⟩:=BK hx;obtain⟨cv,h1,h2⟩:=yA hp hrl;simp only[hcv];exact dq.same R ((BN hd hfl).trans h1) h2
  ·rename_i cs hx';simp only[Vw,Prod.mk.injEq]at h;obtain⟨v',hp,rfl,rfl⟩:=h;rw[hx']at hx;obtain⟨cv,h1,h2⟩:=yA hp (eE.lit (P:=P) (Γ:=Γ) (H:=H) (w:=w) cs);dsimp only;generalize f x=fx at hx ⊢;cases hx;exact dq.same R ((BN hd hfl).trans h1) h2
  ·cases h
 |indexAddr t x i =>
  simp only[ar]at h;have hi:=hev i;split at h
  ·rename_i k n hi';simp only[Vw,Prod.mk.injEq]at h;obtain⟨v',hb,rfl,rfl⟩:=h;rw[hi']at hi;have:f i=.int k n:=by
    generalize f i=fi at hi;cases hi;rfl
   simp only[this];obtain⟨cv,h1,h2⟩:=G8 (w:=w) (k:=k) hb (hev x);exact dq.same R h1 h2
  ·cases h
 |index t x i =>
  simp only[ar,Vw,Prod.mk.injEq]at h;obtain⟨v',hb,rfl,rfl⟩:=h;have hx:=hev x;have hi:=hev i;unfold qm at hb;split at hb
  ·rename_i cells k n hx' hi';rw[hx']at hx;rw[hi']at hi;have hfi:f i=.int k n:=by
    generalize f i=fi at hi;cases hi;rfl
   obtain⟨cs,hcv,hrl⟩:=BK hx;split at hb
   ·rename_i len e hd;split at hb
    ·rename_i hn;obtain⟨cv,h1,h2⟩:=yA hb hrl;simp only[hcv,hfi];refine dq.same R ?_ h2;unfold Instr.index;rw[az (yx k n)];simp only;rw[az (dp hd)];simp only;rw[VA hn];have:∃d,P.underlying e=some d:=by
      unfold jv at hb;split at hb
      ·cases hb
      ·rename_i d hd';exact⟨d,hd'⟩
     obtain⟨d,hde⟩:=this;rw[az (jO hde)];exact h1
    ·cases hb
   ·cases hb
  ·rename_i vx vi hx' hi';rw[hx']at hx;rw[hi']at hi;simp only[Vw]at hb;obtain⟨r,hr,rfl⟩:=hb;have h1:f x=vx:=by
    generalize f x=fx at hx;cases hx;rfl
   have h2:f i=vi:=by
    generalize f i=fx at hi;cases hi;rfl
   simp only[h1,h2];exact dq.same R (qi hr w) (.lit _)
  ·cases hb
 |extract t i =>
  simp only[ar,Vw,Prod.mk.injEq]at h;obtain⟨v',hb,rfl,rfl⟩:=h;obtain⟨cv,h1,h2⟩:=HM (w:=w) hb (hev t);exact dq.same R h1 h2
 |call c =>
  simp only[ar]at h;obtain⟨callee,args,ats⟩:=c;split at h
  ·rename_i b hb;simp only at hb h;subst hb;have:=HL (ty:=type) (cs:=args.map fun|.const _=>true|_=>false) (cargs:=args.map f) R h ZF (fun i h1 h2=>by
    simp only[VO,WE,XS];exact hev _)
   exact this
  ·cases h
 |makeMap t r =>
  simp only[ar]at h;split at h
  ·simp only[Vw,Prod.mk.injEq]at h;obtain⟨H1,hlay,rfl,rfl⟩:=h;obtain⟨E,hn,R'⟩:=GS R hlay;obtain⟨hget,_⟩:=kQ hlay;obtain⟨_,_,_,hid⟩:=oW R hlay;refine dq.new ⟨.map (some w.heap.size),_,_,?_,E,hn,R',.np ⟨hid,rfl,by rw[hget,VA rfl];simp,fun st pend n env ps asg body hg=>(by rw[hget,VA rfl]at hg;cases hg),fun es hg=>⟨_,aH.fh _ _ _,rfl⟩⟩⟩;rfl
  ·cases h
 |lookup t x i ok =>
  simp only[ar,Vw,Prod.mk.injEq]at h;obtain⟨v',hb,rfl,rfl⟩:=h;obtain⟨cv,h1,h2⟩:=HG R hb (hev x) (hev i);exact dq.same R h1 h2
 |mapUpdate t m k x =>
  simp only[ar]at h;obtain⟨Γ',w',h1,h2,h3,h4,rfl⟩:=BC R h (hev m) (hev k) (hev x);exact⟨.skip,undef,Γ',w',vI h1,.inr ⟨rfl,rfl⟩,h2,h3,h4,.lit _⟩
 |insert t m k x =>
  simp only[ar]at h;obtain⟨Γ',w',h1,h2,h3,h4,rfl⟩:=BC R h (hev m) (hev k) (hev x);exact⟨.skip,undef,Γ',w',vI h1,.inr ⟨rfl,rfl⟩,h2,h3,h4,.lit _⟩
 |mapEntry t m k =>
  simp only[ar]at h;exact dq.new (HH R h (hev m) (hev k))
 |entryStore t m s x =>
  simp only[ar]at h;obtain⟨Γ',w',h1,h2,h3,h4,rfl⟩:=HI (t:=t) R h (hev m) (hev s) (hev x);exact⟨.skip,undef,Γ',w',vI h1,.inr ⟨rfl,rfl⟩,h2,h3,h4,.lit _⟩
 |_=>simp[ar]at h
end Go.Hx
namespace Go.Hx
variable {P:Program} {G:Nat->Option (List ZK)} {Γ Γ':aH} {H H':ZJ} {w w':World}
variable {a b:Act}{lo:Nat}{ch:Nat->Bool}
structure St where
 ρ:Env
 H:ZJ
inductive AX where
 |normal
 |exit (id:Nat)
 |goto (l:Nat)
 |ret
 |panic
def yD (chain:List PanicEntry):Prop:=∃t v,chain=[{ v:=.iface t v,recovered:=false }]
def yE:Exit->AX->Prop
 |.normal,.normal=>True
 |.exit i,.exit j=>i=j
 |.goto i,.goto j=>i=j
 |.ret,.ret=>True
 |.panic chain,.panic=>yD chain
 |_,_=>False
structure nnb where
 lo:Nat
 ds:List Deferred
def Marks (lo:Nat)(Γ:aH)(w:World)(m:List Deferred):Prop :=
 (∀d,d∈m->∃r,d={ target:=.collected r,args:=#[] }/\lo<=r/\tv Γ w r)/\m.Pairwise (fun d e=>d.target≠e.target)
theorem Marks.nil :Marks lo Γ w []:=⟨fun _ h=>(by cases h),.nil⟩
theorem Marks.bK {m:List Deferred}(h:Marks lo Γ w m)(E:ZX Γ H w Γ' H' w'):Marks lo Γ' w' m :=
 ⟨fun d hd=>let ⟨r,h1,h2,h3⟩:=h.1 d hd;⟨r,h1,h2,h3.bK E⟩,h.2⟩
def tL (wb:nnb)(Γ:aH)(w:World)(l:List Deferred):Prop:=∃m,l=m++wb.ds/\Marks wb.lo Γ w m
theorem tL.bK {wb:nnb}{l:List Deferred}(h:tL wb Γ w l)(E:ZX Γ H w Γ' H' w'):tL wb Γ' w' l :=
 let ⟨m,h1,h2⟩:=h;⟨m,h1,h2.bK E⟩
structure Z4 (P:Program)(G:Nat->Option (List ZK))(n:Nat)(wb:nnb)(Γ:aH)(s:St)(a:Act)(w:World):Prop where
 size:a.tmps.size=n
 env:∀t,ZO P Γ s.H w (s.ρ t) (a.tmps.getD t undef)
 heap:ZT P G Γ s.H w
 defers:tL wb Γ w a.defers
 low:wb.lo<=w.heap.size
def eW (Γ:aH)(H:ZJ):Option Nat->Option Nat->Prop
 |none,rb=>rb=none
 |some id,rb=>∃b st pend n env ps asg body,rb=some b/\Γ id=some (b,0,0)/\H.get id=some (.loop st pend n env ps asg body)
def fZ (H:ZJ):Option Nat->Prop
 |none=>True
 |some id=>∃st pend n env ps asg body,H.get id=some (.loop st pend n env ps asg body)
abbrev fB (rb:Option Nat):Fence:={ Fence.wide with round:=rb }
def wr:Code->Nat->Bool
 |.region _ ops _,t=>ops.toList.any fun o=>o.dst == some t
 |.seq a b,t|.cond _ a b,t=>wr a t ||wr b t
 |.block _ c,t|.loop c,t|.scope c,t=>wr c t
 |_,_=>false
def Fr (ch:Nat->Bool)(a a':Act):Prop:=∀t,ch t=false->a'.tmps[t]?=a.tmps[t]?
def Fr.refl (ch:Nat->Bool)(a:Act):Fr ch a a:=fun _ _=>rfl
theorem Fr.trans {c:Act}(h:Fr ch a b)(k:Fr ch b c):Fr ch a c:=fun t ht=>(k t ht).trans (h t ht)
def Fr.mono {ch':Nat->Bool}(h:Fr ch a b)(hc:∀t,ch' t=false->ch t=false):Fr ch' a b:=fun t ht=>h t (hc t ht)
def iZ (P:Program)(G:Nat->Option (List ZK))(n:Nat)(wb:nnb)(rd rb:Option Nat)(ch:Nat->Bool)(Γ:aH)(H:ZJ)(a:Act)(w:World)(Q:AX->St->Prop)(e:Exit)(a':Act)(w':World):Prop :=
 ∃x s' Γ',yE e x/\Q x s'/\Z4 P G n wb Γ' s' a' w'/\ZX Γ H w Γ' s'.H w'/\H.A<=s'.H.A/\eW Γ' s'.H rd rb/\Fr ch a a'
def W (P:Program)(G:Nat->Option (List ZK))(n:Nat)(rd:Option Nat)(c:Code)(Q:AX->St->Prop)(s:St):Prop :=
 ∀wb Γ a w rb,Z4 P G n wb Γ s a w->eW Γ s.H rd rb->c.wpIn (fB rb) 0 P (iZ P G n wb rd rb (wr c) Γ s.H a w Q) a w
def lU (K:St->Prop)(Q:AX->St->Prop):AX->St->Prop
 |.normal,s=>K s
 |x,s=>Q x s
def nO (id:Nat)(Q:AX->St->Prop):AX->St->Prop
 |.exit i,s=>if i=id then Q .normal s else Q (.exit i) s
 |x,s=>Q x s
section rules
variable {n:Nat} {rd:Option Nat} {Q Q':AX->St->Prop} {s:St}
def iZ.mono {wb:nnb}{rb:Option Nat}{ch:Nat->Bool}{e:Exit}{a a':Act}(h:iZ P G n wb rd rb ch Γ H a w Q e a' w')(hq:∀x s,Q x s->Q' x s):iZ P G n wb rd rb ch Γ H a w Q' e a' w' :=
 let ⟨x,s',Γ',h1,h2,h3⟩:=h;⟨x,s',Γ',h1,hq _ _ h2,h3⟩
def iZ.step {wb:nnb}{rb:Option Nat}{ch ch':Nat->Bool}{e:Exit}{a a₁ a':Act}{w₁:World}{H₁:ZJ}{Γ₁:aH}(E:ZX Γ H w Γ₁ H₁ w₁)(hn:H.A<=H₁.A)(hf:Fr ch' a a₁)
  (h:iZ P G n wb rd rb ch Γ₁ H₁ a₁ w₁ Q e a' w') (hc:∀t,ch' t=false->ch t=false):iZ P G n wb rd rb ch' Γ H a w Q e a' w' :=
 let ⟨x,s',Γ',h1,h2,h3,h4,h5,h6,h7⟩:=h;⟨x,s',Γ',h1,h2,h3,E.trans hn h4,Wm hn h5,h6,hf.trans (h7.mono hc)⟩
theorem W.mono {c:Code}(h:W P G n rd c Q s)(hq:∀x s,Q x s->Q' x s):W P G n rd c Q' s :=
 fun wb Γ a w rb hs hr=>wpIn_mono (h wb Γ a w rb hs hr) fun _ _ _ hp=>hp.mono hq
def iZ.here {wb:nnb}{rb:Option Nat}{ch:Nat->Bool}{e:Exit}{a:Act}{x:AX}(hx:yE e x)(h:Q x s)(hs:Z4 P G n wb Γ s a w)(hr:eW Γ s.H rd rb):
  iZ P G n wb rd rb ch Γ s.H a w Q e a w:=⟨x,s,Γ,hx,h,hs,ZX.refl _ _ _,ZI,hr,.refl _ _⟩
theorem W.skip (h:Q .normal s):W P G n rd .skip Q s:=fun _ _ _ _ _ hs hr=>wpIn_skip (.here (x:=.normal) trivial h hs hr)
theorem W.label {l:Nat}(h:Q .normal s):W P G n rd (.label l) Q s:=fun _ _ _ _ _ hs hr=>wpIn_label (.here (x:=.normal) trivial h hs hr)
theorem W.exit {id:Nat}(h:Q (.exit id) s):W P G n rd (.exit id) Q s:=fun _ _ _ _ _ hs hr=>wpIn_exit (.here (x:=.exit id) rfl h hs hr)
theorem W.goto {l:Nat}(h:Q (.goto l) s):W P G n rd (.goto l) Q s:=fun _ _ _ _ _ hs hr=>wpIn_goto (.here (x:=.goto l) rfl h hs hr)
theorem W.ret (h:Q .ret s):W P G n rd .ret Q s:=fun _ _ _ _ _ hs hr=>wpIn_ret (.here (x:=.ret) trivial h hs hr)
def BO {x y:Bool}(h:(x ||y)=false):x=false:=by cases x<;>simp_all
def BP {x y:Bool}(h:(x ||y)=false):y=false:=by cases x<;>simp_all
theorem W.seq {x y:Code}(h:W P G n rd x (lU (W P G n rd y Q) Q) s):W P G n rd (.seq x y) Q s:=by
 intro wb Γ a w rb hs hr;refine wpIn_seq (wpIn_mono (h wb Γ a w rb hs hr) ?_);rintro e a' w' ⟨x',s',Γ',hx,hq,hs',E,hn,hr',hf⟩;have hf':Fr (wr (.seq x y)) a a':=hf.mono fun t ht=>BO ht;cases e with
 |normal =>
  cases x' with
  |normal=>exact wpIn_mono (hq wb Γ' a' w' rb hs' hr') fun _ _ _ hp=>hp.step E hn hf' fun t ht=>BP ht
  |_=>exact hx.elim
 |exit i=>cases x' with
  |exit j=>exact⟨_,s',Γ',hx,hq,hs',E,hn,hr',hf'⟩
  |_=>exact hx.elim
 |goto i=>cases x' with
  |goto j=>exact⟨_,s',Γ',hx,hq,hs',E,hn,hr',hf'⟩
  |_=>exact hx.elim
 |ret=>cases x' with
  |ret=>exact⟨_,s',Γ',hx,hq,hs',E,hn,hr',hf'⟩
  |_=>exact hx.elim
 |panic c=>cases x' with
  |panic=>exact⟨_,s',Γ',hx,hq,hs',E,hn,hr',hf'⟩
  |_=>exact hx.elim
 |outgrown=>cases x'<;>exact hx.elim
def jR {wb:nnb}{a:Act}(hs:Z4 P G n wb Γ s a w)(x:Operand):ZO P Γ s.H w (ay G s.ρ x) (a.eval x):=by
 cases x with
 |tmp t=>exact hs.env t
 |const v=>exact .lit v
 |global g =>
  simp only[ay,Act.eval];cases hg:G g with
  |none=>exact .lit _
  |some cells=>exact hs.heap.nH g cells hg
 |func f=>exact ZO.Z (fs:=[]) (cs:=[]) rfl rfl (fun i h _=>absurd h (VN _)) (fun i h _=>absurd h (VN _))
theorem W.cond {c:Operand}{x y:Code}{t:Bool}(hc:ay G s.ρ c=.lit (.bool t))(h:W P G n rd (if t then x else y) Q s):W P G n rd (.cond c x y) Q s:=by
 intro wb Γ a w rb hs hr;have he:=jR hs c;rw[hc]at he;have:a.eval c=.bool t:=by
  generalize a.eval c=v at he;cases he;rfl
 refine wpIn_cond this (wpIn_mono (h wb Γ a w rb hs hr) ?_);rintro e a' w' ⟨x',s',Γ',h1,h2,h3,h4,h5,h6,h7⟩;refine⟨x',s',Γ',h1,h2,h3,h4,h5,h6,h7.mono fun i hi=>?_⟩;cases t with
 |true=>exact BO hi
 |false=>exact BP hi
theorem W.block {id:Nat}{c:Code}(h:W P G n rd c (nO id Q) s):W P G n rd (.block id c) Q s:=by
 intro wb Γ a w rb hs hr;refine wpIn_block (wpIn_mono (h wb Γ a w rb hs hr) ?_);rintro e a' w' ⟨x,s',Γ',hx,hq,hrest⟩;cases e with
 |exit i =>
  cases x with
  |exit j =>
   obtain rfl:i=j:=hx;simp only[Exit.inBlock];simp only[nO]at hq;split
   ·rename_i hi;rw[VA hi]at hq;exact⟨.normal,s',Γ',trivial,hq,hrest⟩
   ·rename_i hi;rw[Vx hi]at hq;exact⟨.exit i,s',Γ',rfl,hq,hrest⟩
  |_=>exact hx.elim
 |normal=>cases x with
  |normal=>exact⟨_,s',Γ',hx,hq,hrest⟩
  |_=>exact hx.elim
 |goto i=>cases x with
  |goto j=>exact⟨_,s',Γ',hx,hq,hrest⟩
  |_=>exact hx.elim
 |ret=>cases x with
  |ret=>exact⟨_,s',Γ',hx,hq,hrest⟩
  |_=>exact hx.elim
 |panic c=>cases x with
  |panic=>exact⟨_,s',Γ',hx,hq,hrest⟩
  |_=>exact hx.elim
 |outgrown=>cases x<;>exact hx.elim
def eF (P:Program)(G:Nat->Option (List ZK))(s s':St):Prop :=
 ∀n wb Γ a w,Z4 P G n wb Γ s a w->∃ Γ',Z4 P G n wb Γ' s' a w/\ZX Γ s.H w Γ' s'.H w /\
  (∀rd rb,eW Γ s.H rd rb->fZ s'.H rd->eW Γ' s'.H rd rb)
theorem eF.refl (s:St):eF P G s s:=fun _ _ Γ _ _ h=>⟨Γ,h,ZX.refl _ _ _,fun _ _ h _=>h⟩
def mask (ws:Nat)(ρ ρ₀:Env):Env:=fun t=>if ws / 2 ^ t % 2=1 then ρ t else ρ₀ t
def nP (ws:Nat):Code->Bool
 |.region _ ops _=>ops.toList.all fun o=>match o.dst with|some d=>ws / 2 ^ d % 2 == 1|none=>true
 |.seq a b|.cond _ a b=>nP ws a && nP ws b
 |.block _ c|.loop c|.scope c=>nP ws c
 |_=>true
def HN {ws:Nat}{t:Nat}(ht:¬ws / 2 ^ t % 2=1):∀ {c:Code},nP ws c=true->wr c t=false:=by
 intro c
 induction c with
 |region id ops d =>
  intro h;simp only[nP,VZ]at h;simp only[wr,X4];intro o ho hd;have:=h o ho;have hd':o.dst=some t:=by simpa using hd
  rw[hd']at this;simp only[beq_iff_eq]at this;exact ht this
 |seq a b iha ihb=>intro h;simp only[nP,Wh]at h;simp only[wr,iha h.1,ihb h.2];rfl
 |cond x a b iha ihb=>intro h;simp only[nP,Wh]at h;simp only[wr,iha h.1,ihb h.2];rfl
 |block id c ih=>intro h;exact ih h
 |loop c ih=>intro h;exact ih h
 |scope c ih=>intro h;exact ih h
 |_=>intro _;rfl
theorem W.loop {c:Code}(ws:Nat)(hws:nP ws c=true)(I:Env->ZJ->Prop)(μ:Env->ZJ->Nat)(h0:I s.ρ s.H)
  (round:∀ ρ H,I ρ H->W P G n rd c (lU (fun s₂=>∃s₃,eF P G s₂ s₃/\s.H.A<=s₃.H.A/\fZ s₃.H rd/\I (mask ws s₃.ρ s.ρ) s₃.H/\μ (mask ws s₃.ρ s.ρ) s₃.H<μ (mask ws ρ s.ρ) H) Q) ⟨mask ws ρ s.ρ,H⟩):W P G n rd (.loop c) Q s:=by
 intro wb Γ a w rb hs hr
 let iF:Env->ZJ->Act->World->Prop:=fun ρ H a₁ w₁=>∃ Γ₁,I ρ H/\Z4 P G n wb Γ₁ ⟨mask ws ρ s.ρ,H⟩ a₁ w₁/\ZX Γ s.H w Γ₁ H w₁/\s.H.A<=H.A/\eW Γ₁ H rd rb/\Fr (wr c) a a₁
 let ex:Act->World->Prop:=fun a₁ w₁=>∃k ρ H,iF ρ H a₁ w₁/\μ (mask ws ρ s.ρ) H=k
 let m:Act->World->Nat:=fun a₁ w₁=>Classical.epsilon fun k=>(∃ ρ H,iF ρ H a₁ w₁/\μ (mask ws ρ s.ρ) H=k)/\∀j,(∃ ρ H,iF ρ H a₁ w₁/\μ (mask ws ρ s.ρ) H=j)->k<=j
 have least:∀(p:Nat->Prop),(∃k,p k)->∃k,p k/\∀j,p j->k<=j:=by
  intro p ⟨k,hk⟩
  induction k using Nat.strongRecOn with
  |_ k ih =>
   by_cases h:∃j,j<k/\p j
   ·obtain⟨j,hj,hp⟩:=h;exact ih j hj hp
   ·exact⟨k,hk,fun j hj=>Yu fun hlt=>h ⟨j,hlt,hj⟩⟩
 have mspec:∀a₁ w₁,ex a₁ w₁->(∃ ρ H,iF ρ H a₁ w₁/\μ (mask ws ρ s.ρ) H=m a₁ w₁)/\∀j,(∃ ρ H,iF ρ H a₁ w₁/\μ (mask ws ρ s.ρ) H=j)->m a₁ w₁<=j:=by
  intro a₁ w₁ h;exact Classical.epsilon_spec (p:=fun k=>(∃ ρ H,iF ρ H a₁ w₁/\μ (mask ws ρ s.ρ) H=k)/\∀j,(∃ ρ H,iF ρ H a₁ w₁/\μ (mask ws ρ s.ρ) H=j)->k<=j) (least _ h)
 have mask0:mask ws s.ρ s.ρ=s.ρ:=by
  funext t
  unfold mask;split<;>rfl
 have mask2:∀ ρ,mask ws (mask ws ρ s.ρ) s.ρ=mask ws ρ s.ρ:=by
  intro ρ
  funext t
  unfold mask;by_cases h:ws / 2 ^ t % 2=1
  ·rw[VA h,VA h]
  ·rw[Vx h,Vx h]
 refine wpIn_mono (Q:=fun e a' w'=>iZ P G n wb rd rb (wr c) Γ s.H a w Q e a' w') ?_ fun _ _ _ hp=>hp;refine wpIn_loop ex m ⟨_,s.ρ,s.H,⟨Γ,h0,by rw[mask0];exact hs,ZX.refl _ _ _,ZI,hr,.refl _ _⟩,rfl⟩ ?_;intro a₁ w₁ hex;obtain⟨⟨ρ,H,⟨Γ₁,hI,hs₁,E₁,hn₁,hr₁,hf₁⟩,hm⟩,hmin⟩:=mspec a₁ w₁ hex;refine wpIn_mono (round ρ H hI wb Γ₁ a₁ w₁ rb hs₁ hr₁) ?_;rintro e a' w' ⟨x,s',Γ',hx,hq,hs',E,hn,hr',hf⟩;have hf':=hf₁.trans hf;cases e with
 |normal =>
  cases x with
  |normal =>
   obtain⟨s₃,hw,hn3,hri,hI3,hlt⟩:=hq;obtain⟨Γ₃,hs₃,E₃,hrd⟩:=hw n wb Γ' a' w' hs';have E₄:ZX Γ s.H w Γ₃ s₃.H w':=(E₁.trans hn₁ E).trans (Wm hn₁ hn) E₃;have hs₄:Z4 P G n wb Γ₃ ⟨mask ws (mask ws s₃.ρ s.ρ) s.ρ,s₃.H⟩ a' w':=by
    rw[mask2];refine⟨hs₃.size,fun t=>?_,hs₃.heap,hs₃.defers,hs₃.low⟩;show ZO P Γ₃ s₃.H w' (if ws / 2 ^ t % 2=1 then s₃.ρ t else s.ρ t) _;by_cases ht:ws / 2 ^ t % 2=1
    ·rw[VA ht];exact hs₃.env t
    ·rw[Vx ht];have hsame:=hf' t (HN ht hws);have:a'.tmps.getD t undef=a.tmps.getD t undef:=by
      simp only[Wu,hsame]
     rw[this];exact(hs.env t).bK E₄ hn3
   have hg:iF (mask ws s₃.ρ s.ρ) s₃.H a' w':=⟨Γ₃,hI3,hs₄,E₄,hn3,hrd rd rb hr' hri,hf'⟩
   have hex':ex a' w':=⟨_,_,_,hg,rfl⟩
   refine⟨hex',YH ((mspec a' w' hex').2 _ ⟨_,_,hg,rfl⟩) ?_⟩;rw[<- hm,mask2];exact hlt
  |_=>exact hx.elim
 |exit i=>cases x with
  |exit j=>exact⟨_,s',Γ',hx,hq,hs',E₁.trans hn₁ E,Wm hn₁ hn,hr',hf'⟩
  |_=>exact hx.elim
 |goto i=>cases x with
  |goto j=>exact⟨_,s',Γ',hx,hq,hs',E₁.trans hn₁ E,Wm hn₁ hn,hr',hf'⟩
  |_=>exact hx.elim
 |ret=>cases x with
  |ret=>exact⟨_,s',Γ',hx,hq,hs',E₁.trans hn₁ E,Wm hn₁ hn,hr',hf'⟩
  |_=>exact hx.elim
 |panic c=>cases x with
  |panic=>exact⟨_,s',Γ',hx,hq,hs',E₁.trans hn₁ E,Wm hn₁ hn,hr',hf'⟩
  |_=>exact hx.elim
 |outgrown=>cases x<;>exact hx.elim
def W.aP {c:Code}(ws:Nat)(hws:nP ws c=true)(I:Env->ZJ->Prop)(μ:Env->ZJ->Nat)(h0:I s.ρ s.H)
  (round:∀ ρ H,I ρ H->W P G n rd c (lU (fun s₂=>s.H.A<=s₂.H.A/\fZ s₂.H rd/\I (mask ws s₂.ρ s.ρ) s₂.H/\μ (mask ws s₂.ρ s.ρ) s₂.H<μ (mask ws ρ s.ρ) H) Q) ⟨mask ws ρ s.ρ,H⟩):W P G n rd (.loop c) Q s :=
 W.loop ws hws I μ h0 fun ρ H hI=>(round ρ H hI).mono fun x s' hx=>by
  cases x with
  |normal=>exact⟨s',eF.refl s',hx⟩
  |_=>exact hx
def W.BQ {c:Code}{s':St}(hw:eF P G s s')(hn:s.H.A<=s'.H.A)(hri:fZ s'.H rd)(h:W P G n rd c Q s'):W P G n rd c Q s:=by
 intro wb Γ a w rb hs hr;obtain⟨Γ',hs',E,hrd⟩:=hw n wb Γ a w hs;exact wpIn_mono (h wb Γ' a w rb hs' (hrd rd rb hr hri)) fun _ _ _ hp=>hp.step E hn (.refl _ _) fun _ h=>h
end rules
end Go.Hx
namespace Go.Hx
variable {P:Program} {G:Nat->Option (List ZK)} {Γ Γ':aH} {H H':ZJ} {w w':World}
variable {a:Act}{f:FuncId}{args:List ZK}{id n:Nat}{rb rd:Option Nat}{cv v:Value}{wb:nnb}
inductive ZP where
 |ret (v:ZK)
 |panic
def HO (P:Program)(Γ:aH)(H:ZJ)(w:World):Ending->ZP->Prop
 |.returned cv,.ret v=>ZO P Γ H w v cv
 |.panicked chain,.panic=>yD chain
 |_,_=>False
def jS (P:Program)(G:Nat->Option (List ZK))(Γ:aH)(H:ZJ)(w:World)(K:ZP->ZJ->Prop)(e:Ending)(w':World):Prop :=
 ∃r H' Γ',HO P Γ' H' w' e r/\K r H'/\ZT P G Γ' H' w'/\ZX Γ H w Γ' H' w'/\H.A<=H'.A
def ag (P:Program)(G:Nat->Option (List ZK))(f:FuncId)(args:List ZK)(H:ZJ)(K:ZP->ZJ->Prop):Prop :=
  (∃ fn, P.funcs[f]? = some fn ∧ fn.body.isNone = false ∧ (fn.name == "runtime.NumGoroutine") = false) ∧
 ∀ Γ w cargs,ZT P G Γ H w->eE P Γ H w args cargs->CallsIn Fence.wide 0 P f cargs w (jS P G Γ H w K)
def au (P:Program)(G:Nat->Option (List ZK))(fv:ZK)(args:List ZK)(H:ZJ)(K:ZP->ZJ->Prop):Prop :=
 ∀ Γ w cfv cargs,ZT P G Γ H w->ZO P Γ H w fv cfv->eE P Γ H w args cargs ->
  ∃d,(Deferred.ofValue cfv cargs).run P w=.ok d w /\
   ((∃f as,(invoke d.target d.args).run P w=.ok (.enter f as) w/\CallsIn Fence.wide 0 P f as w (jS P G Γ H w K)) \/
    (∃l f tm asg body,(invoke d.target d.args).run P w=.ok (.round l f tm asg body) w/\RoundIn Fence.wide 0 P l f tm asg body w (jS P G Γ H w K)) \/
    (∃cv w',(invoke d.target d.args).run P w=.ok (.value cv) w'/\jS P G Γ H w K (.returned cv) w'))
variable {K K':ZP->ZJ->Prop}
def jS.mono {e:Ending}(h:jS P G Γ H w K e w')(hk:∀r H',K r H'->K' r H'):jS P G Γ H w K' e w' :=
 let ⟨r,H',Γ',h1,h2,h3⟩:=h;⟨r,H',Γ',h1,hk _ _ h2,h3⟩
theorem ag.mono (h:ag P G f args H K)(hk:∀r H',K r H'->K' r H'):ag P G f args H K' :=
 ⟨h.1,fun Γ w cargs R hr=>(h.2 Γ w cargs R hr).mono fun _ _ hp=>hp.mono hk⟩
theorem au.mono {fv:ZK}(h:au P G fv args H K)(hk:∀r H',K r H'->K' r H'):au P G fv args H K':=by
 intro Γ w cfv cargs R hv hr;obtain⟨d,h1,h2⟩:=h Γ w cfv cargs R hv hr;refine⟨d,h1,?_⟩;rcases h2 with ⟨f,as,h3,h4⟩|⟨l,f,tm,asg,body,h3,h4⟩|⟨cv,w',h3,h4⟩
 ·exact .inl ⟨f,as,h3,h4.mono fun _ _ hp=>hp.mono hk⟩
 ·exact .inr (.inl ⟨l,f,tm,asg,body,h3,h4.mono fun _ _ hp=>hp.mono hk⟩)
 ·exact .inr (.inr ⟨cv,w',h3,h4.mono hk⟩)
def vJ {a b:List ZK}{x y:Array Value}(h:eE P Γ H w a x)(k:eE P Γ H w b y):eE P Γ H w (a++b) (x++y):=by
 refine⟨by rw[YP,List.length_append,h.1,k.1],fun i h1 h2=>?_⟩;have hx:=h.1;by_cases hi:i<a.length
 ·rw[WH hi,Array.getElem_append_left O];exact h.2 i hi _
 ·rw[WL O,Array.getElem_append_right O];simp only[hx];exact k.2 _ (by simp only[List.length_append]at h1;omega) _
theorem au.Z {f:FuncId}{first cap args:List ZK}{K:ZP->ZJ->Prop}(h:ag P G f (first++args++cap) H K):au P G (.Z f first cap) args H K:=by
 intro Γ w cfv cargs R hv hr;cases hv with
 | @Z _ _ _ fs cs hfs hcs hf hc =>
  refine⟨{ target:=.fn (.func f) cs.toArray,args:=fs.toArray++cargs },rfl,.inl ⟨f,fs.toArray++cargs++cs.toArray,?_,?_⟩⟩
  ·obtain⟨fn,hfn,hb,hn⟩:=h.1;show (callFunc f (fs.toArray++cargs++cs.toArray)).run P w=_;unfold callFunc;rw[az (run_program P w)];simp only[hfn];rw[hn,hb];rfl
  ·exact h.2 Γ w _ R (vJ (vJ ⟨by simpa using hfs,fun i h1 h2=>by simpa using hf i h1 (by simpa using h2)⟩ hr) ⟨by simpa using hcs,fun i h1 h2=>by simpa using hc i h1 (by simpa using h2)⟩)
def ZO.HP (h:ZO P Γ H w (.lit v) cv):cv=v:=by cases h;rfl
theorem au.ext {fn:Func}{e:Array Value->Sem Value}{vs:List Value}{r:ZK}(hf:P.funcs[f]?=some fn)(hb:fn.body.isNone=true)
    (hn : (fn.name == "runtime.NumGoroutine") = false) (h1 : Extern.findNext fn = none) (h2 : Extern.find fn = some e) (ha : args = vs.map .lit) (hrun : ∀ w, (e vs.toArray).run P w = .ok v w)
  (hrel:∀ Γ H w,ZO P Γ H w r v) (hK:K (.ret r) H):au P G (.Z f [] []) args H K:=by
 intro Γ w cfv cargs R hv hr;subst ha;have hc:cargs=vs.toArray:=by
  obtain⟨hs,hr⟩:=hr;apply Array.ext
  ·simpa using hs
  ·intro i h1 h2;have:=hr i (by simpa using h2) h1;simp only[VO]at this;simpa using this.HP
 subst hc;cases hv with
 | @Z _ _ _ fs cs hfs hcs hf' hc' =>
  obtain rfl:fs=[]:=VF (by simpa using hfs);obtain rfl:cs=[]:=VF (by simpa using hcs);refine⟨{ target:=.fn (.func f) #[],args:=#[]++vs.toArray },rfl,.inr (.inr ⟨v,w,?_,.ret r,H,Γ,hrel Γ H w,hK,R,ZX.refl _ _ _,ZI⟩)⟩;show (callFunc f (#[]++vs.toArray++#[])).run P w=_;unfold callFunc;rw[az (run_program P w)];simp only[hf];rw[hn,hb];simp only[Bool.false_eq_true,if_false,if_true,h1,h2];have e0:#[]++vs.toArray++#[]=vs.toArray:=ZF
  rw[e0];have hm:(mark (.extern f)).run P w=.ok () w:=rfl;rw[az hm];rw[az (hrun w)];rfl
inductive TagK {α:Type}(K:α->Prop):Type where
 |mk
inductive TagR (K:ZP->ZJ->Prop):Type where
 |mk
inductive TagP (p q:Prop):Type where
 |mk
def bG {α:Type}(o:Option α)(K:α->Prop)(_d:TagK K:=.mk):Prop:=∃a,o=some a/\K a
def aW (ρ:Env)(dst:Option Tmp)(v:ZK):Env :=
 match dst with
 |some d=>fun t=>if t=d then v else ρ t
 |none=>ρ
def iu (all:Array Oper)(ρ:Env)(o:Oper):Option Bool :=
 match o.guard with
 |none=>some true
 |some (j,want) =>
  match (all[j]?).bind (·.dst) with
  |some d=>match ρ d with
   |.lit (.bool b)=>some (b == want)
   |.lit _=>some false
   |_=>none
  |none=>some false
def gX (n:Nat)(o:Oper):Bool:=match o.dst with|some d=>decide (d<n)|none=>true
def lV (H:ZJ)(op:BinOp)(x y:ZK):Option Bool :=
 match op,y with
 |.eql,.lit (.slice none 0 0)|.neq,.lit (.slice none 0 0)=>match x with
  |.Q n _=>some (decide (0<n))
  |.U id g _ n _=>match H.V id g with
   |some _=>some (decide (0<n))
   |none=>none
  |_=>none
 |_,_=>none
def tM (d:Option TypeDesc):Bool:=match d with|some (.slice _)=>true|_=>false
def tO (P:Program)(op:BinOp)(t:TypeId)(k:Option Bool)(Kb:ZK->Prop)(p:Prop):Prop :=
 match k with
 |some k=>tM (P.underlying t)=true/\∀b:Bool,(k=true->b=false)->Kb (.lit (.bool (if op == .neq then !b else b)))
 |none=>p
def bd (P:Program)(G:Nat->Option (List ZK))(rd:Option Nat)(Q:AX->St->Prop)(o:Oper)(K:St->Prop)(s:St):Prop :=
 match o.op with
 |.call { callee:=.value fv,args,.. }=>au P G (ay G s.ρ fv) (args.toList.map (ay G s.ρ)) s.H fun r H'=>fZ H' rd/\match r with
  |.ret v=>K ⟨aW s.ρ o.dst v,H'⟩
  |.panic=>Q .panic ⟨s.ρ,H'⟩
 |.panic x=>(∃t v,(ay G s.ρ x)=.lit (.iface t v))/\Q .panic s
 |.binOp op t x y u=>tO P op t (lV s.H op (ay G s.ρ x) (ay G s.ρ y)) (fun v=>K ⟨aW s.ρ o.dst v,s.H⟩) (bG (ar P G s.ρ s.H s.H.A (.binOp op t x y u)) fun vH=>K ⟨aW s.ρ o.dst vH.1,vH.2⟩)
 |op=>bG (ar P G s.ρ s.H s.H.A op) fun vH=>K ⟨aW s.ρ o.dst vH.1,vH.2⟩
def opsV (P:Program)(G:Nat->Option (List ZK))(rd:Option Nat)(Q:AX->St->Prop)(all:Array Oper):List Oper->St->Prop
 | [],s=>Q .normal s
 |o :: rest,s=>bG (iu all s.ρ o) fun t=>if t=true then bd P G rd Q o (opsV P G rd Q all rest) s else opsV P G rd Q all rest ⟨aW s.ρ o.dst (.lit undef),s.H⟩
def rO {s:St}{all:Array Oper}{o:Oper}{t:Bool}(hs:Z4 P G n wb Γ s a w)(h:iu all s.ρ o=some t):Region.wanted o (yielded all a.tmps)=t:=by
 unfold iu at h;unfold Region.wanted;split at h
 ·rename_i hg;rw[hg];simpa using h
 ·rename_i j want hg;rw[hg];simp only;split at h
  ·rename_i d hd;have he:=hs.env d;have hy:yielded all a.tmps j=match a.tmps[d]? with|some (.bool b)=>some b|_=>none:=by
    unfold yielded;rw[hd];rfl
   rw[hy];have hgd:a.tmps.getD d undef=(a.tmps[d]?).getD undef:=ZF;rw[hgd]at he;split at h
   ·rename_i b hb;rw[hb]at he;simp only[Option.some.injEq]at h;cases hd:a.tmps[d]? with
    |none=>rw[hd]at he;cases he
    |some v =>
     rw[hd]at he;cases he;simp only;rw[<- h];cases b<;>cases want<;>rfl
   ·rename_i v hnb hb;rw[hb]at he;simp only[Option.some.injEq]at h;subst h;cases hd:a.tmps[d]? with
    |none=>simp
    |some cv =>
     rw[hd]at he;cases he;cases cv with
     |bool b=>exact(hnb b rfl).elim
     |_=>rfl
   ·cases h
  ·rename_i hd;have hy:yielded all a.tmps j=none:=(by unfold yielded;rw[hd];rfl);rw[hy];simpa using h
def lW {s:St}{dst:Option Tmp}{v:ZK}{H':ZJ}(hs:Z4 P G n wb Γ s a w)(hd:∀d,dst=some d->d<n)(E:ZX Γ s.H w Γ' H' w')(hn:s.H.A<=H'.A)
  (R:ZT P G Γ' H' w') (hv:ZO P Γ' H' w' v cv):Z4 P G n wb Γ' ⟨aW s.ρ dst v,H'⟩ (a.put dst cv) w':=by
 cases dst with
 |none=>exact⟨hs.size,fun t=>(hs.env t).bK E hn,R,hs.defers.bK E,Wm hs.low E.size⟩
 |some d =>
  have hdn:=hd d rfl;refine⟨by simp[Act.put,hs.size],fun t=>?_,R,hs.defers.bK E,Wm hs.low E.size⟩;simp only[Act.put,aW];by_cases ht:t=d
  ·subst ht;rw[VA rfl];have:(a.tmps.setIfInBounds t cv).getD t undef=cv:=(by simp[hs.size,hdn]);rw[this];exact hv
  ·rw[Vx ht];have:(a.tmps.setIfInBounds d cv).getD t undef=a.tmps.getD t undef:=by
    simp only[Wu];rw[Wz,Vx O]
   rw[this];exact(hs.env t).bK E hn
def eW.bK (h:eW Γ H rd rb)(E:ZX Γ H w Γ' H' w')(hn:H.A<=H'.A)(R:ZT P G Γ H w)(hi:fZ H' rd):eW Γ' H' rd rb:=by
 cases rd with
 |none=>exact h
 |some id =>
  obtain⟨b,st,pend,n,env,ps,asg,body,h1,h2,h3⟩:=h;obtain⟨st',pend',n',env',ps',asg',body',h3'⟩:=hi;have hlt:=R.A id _ h3;obtain⟨x,hx,hle⟩:=E.V id hlt (VM hlt hn) _ h3';rw[h3]at hx;cases hx;exact⟨b,_,_,_,_,_,_,_,h1,hle.1.trans h2,h3'⟩
def HQ {b:ZQ}(h:H.lay id b=some H'){j:Nat}{st:LoopState}{pend:Option Code}{env:Env}{ps:Array Tmp}{asg body:Code}
  (hj:H.get j=some (.loop st pend n env ps asg body)) (hlt:j<H.A):H'.get j=some (.loop st pend n env ps asg body):=by
 obtain⟨h1,_⟩:=kQ h;have hne:j≠id:=by
  rintro rfl;unfold ZJ.lay at h;rw[Vx O,hj]at h;cases h
 rw[h1,Vx hne];exact hj
def yF (h:eW Γ H rd rb)(hk:∀j st pend n env ps asg body,H.get j=some (.loop st pend n env ps asg body)->∃st pend n env ps asg body,H'.get j=some (.loop st pend n env ps asg body)):fZ H' rd:=by
 cases rd with
 |none=>trivial
 |some id =>
  obtain⟨b,st,pend,n,env,ps,asg,body,h1,h2,h3⟩:=h;exact hk id _ _ _ _ _ _ _ h3
def yG {ρ:Env}{o:Op}{v:ZK}(R:ZT P G Γ H w)(h:ar P G ρ H id o=some (v,H')):∀j st pend n env ps asg body,H.get j=some (.loop st pend n env ps asg body) ->
  ∃st pend n env ps asg body,H'.get j=some (.loop st pend n env ps asg body):=by
 have same:H'=H->∀j st pend n env ps asg body,H.get j=some (.loop st pend n env ps asg body)->∃st pend n env ps asg body,H'.get j=some (.loop st pend n env ps asg body):=by
  rintro rfl j st pend n env ps asg body hj;exact⟨_,_,_,_,_,_,_,hj⟩
 have lay:∀b,H.lay id b=some H'->∀j st pend n env ps asg body,H.get j=some (.loop st pend n env ps asg body)->∃st pend n env ps asg body,H'.get j=some (.loop st pend n env ps asg body):=by
  intro b hb j st pend n env ps asg body hj;exact⟨_,_,_,_,_,_,_,HQ hb hj (R.A j _ hj)⟩
 have upd:∀id g e cells b,H.get id=some (.J g e cells)->H'=H.upd id b->∀j st pend n env ps asg body,H.get j=some (.loop st pend n env ps asg body)->∃st pend n env ps asg body,H'.get j=some (.loop st pend n env ps asg body):=by
  rintro id g e cells b hb rfl j st pend n env ps asg body hj;refine⟨st,pend,n,env,ps,asg,body,?_⟩;rw[af,Vx]
  ·exact hj
  ·rintro rfl;rw[hb]at hj;cases hj
 have updM:∀id es b,H.get id=some (.mp es)->H'=H.upd id b->∀j st pend n env ps asg body,H.get j=some (.loop st pend n env ps asg body)->∃st pend n env ps asg body,H'.get j=some (.loop st pend n env ps asg body):=by
  rintro id es b hb rfl j st pend n env ps asg body hj;refine⟨st,pend,n,env,ps,asg,body,?_⟩;rw[af,Vx]
  ·exact hj
  ·rintro rfl;rw[hb]at hj;cases hj
 have updU:∀t m k x,kg P H t m k x=some (v,H')->∀j st pend n env ps asg body,H.get j=some (.loop st pend n env ps asg body)->∃st pend n env ps asg body,H'.get j=some (.loop st pend n env ps asg body):=by
  intro t m k x h;unfold kg at h;split at h
  ·split at h
   ·split at h
    ·rename_i hg;simp only[Option.some.injEq,Prod.mk.injEq]at h;exact updM _ _ _ hg h.2.symm
    ·cases h
   ·cases h
  ·cases h
 cases o with
 |makeMap t r =>
  simp only[ar]at h;split at h
  ·simp only[Vw,Prod.mk.injEq]at h;obtain⟨_,hl,_,rfl⟩:=h;exact lay _ hl
  ·cases h
 |lookup a b c d=>simp only[ar,Vw,Prod.mk.injEq]at h;obtain⟨_,_,_,rfl⟩:=h;exact same rfl
 |mapUpdate t m k x=>simp only[ar]at h;exact updU _ _ _ _ h
 |insert t m k x=>simp only[ar]at h;exact updU _ _ _ _ h
 |mapEntry t m k =>
  simp only[ar]at h;unfold qk at h;split at h
  ·split at h
   ·split at h
    ·rename_i hg;split at h
     ·simp only[Option.some.injEq,Prod.mk.injEq]at h;exact updM _ _ _ hg h.2.symm
     ·simp only[Option.some.injEq,Prod.mk.injEq]at h;exact updM _ _ _ hg h.2.symm
    ·cases h
   ·cases h
  ·cases h
 |entryStore t m s x =>
  simp only[ar]at h;unfold rD at h;split at h
  ·split at h
   ·rename_i hg;split at h
    ·simp only[Option.some.injEq,Prod.mk.injEq]at h;exact updM _ _ _ hg h.2.symm
    ·cases h
   ·cases h
  ·cases h
 |alloc e =>
  simp only[ar,VC,Vw,Prod.mk.injEq]at h;obtain⟨_,_,_,hl,_,rfl⟩:=h;exact lay _ hl
 |box e x =>
  simp only[ar,Vw,Prod.mk.injEq]at h;obtain⟨_,hl,_,rfl⟩:=h;exact lay _ hl
 |buildSlice t len parts =>
  simp only[ar,pe]at h;split at h
  ·split at h
   ·simp only[VC,Vw,Prod.mk.injEq]at h;obtain⟨_,_,_,_,_,hl,_,rfl⟩:=h;exact lay _ hl
   ·cases h
  ·cases h
 |store t a x =>
  simp only[ar]at h;split at h
  ·simp only[Vw,Prod.mk.injEq]at h;obtain⟨_,hst,_,rfl⟩:=h;unfold kO at hst;split at hst
   ·split at hst
    ·rename_i hg;split at hst
     ·simp only[Option.some.injEq]at hst;exact upd _ _ _ _ _ hg hst.symm
     ·cases hst
    ·cases hst
   ·cases hst
  ·cases h
 |makeSlice t l c =>
  simp only[ar,nK]at h;split at h
  ·split at h
   ·simp only[VC,Vw,Prod.mk.injEq]at h;obtain⟨_,_,_,hl,_,rfl⟩:=h;exact lay _ hl
   ·cases h
  ·cases h
 |call c =>
  simp only[ar]at h;split at h
  ·rename_i b hb;unfold iO at h;split at h
   ·simp only[Vw,Prod.mk.injEq]at h;obtain⟨_,_,_,rfl⟩:=h;exact same rfl
   ·unfold cr at h;split at h
    ·split at h
     ·simp only[VC]at h;obtain⟨_,_,_,_,h⟩:=h;split at h
      ·split at h
       ·simp only[Option.some.injEq,Prod.mk.injEq]at h;exact same h.2.symm
       ·split at h
        ·simp only[Vw,Prod.mk.injEq]at h;obtain⟨_,hl,_,rfl⟩:=h;exact lay _ hl
        ·cases h
      ·simp only[VC]at h;obtain⟨⟨e',cells⟩,hl,h⟩:=h;simp only at h;split at h
       ·split at h
        ·simp only[Option.some.injEq,Prod.mk.injEq]at h;exact same h.2.symm
        ·simp only[Option.some.injEq,Prod.mk.injEq]at h;exact upd _ _ _ _ _ (kh hl) h.2.symm
       ·cases h
      ·cases h
     ·cases h
    ·cases h
   ·unfold mC at h;split at h
    ·split at h
     ·simp only[VC]at h;obtain⟨_,_,h⟩:=h;split at h
      ·simp only[VC]at h;obtain⟨⟨e',cells⟩,hl,h⟩:=h;simp only at h;split at h
       ·simp only[Option.some.injEq,Prod.mk.injEq]at h;exact upd _ _ _ _ _ (kh hl) h.2.symm
       ·cases h
      ·cases h
     ·cases h
    ·cases h
   ·unfold mD at h;split at h
    ·split at h
     ·simp only[Option.some.injEq,Prod.mk.injEq]at h;exact same h.2.symm
     ·simp only[VC]at h;obtain⟨⟨e',cells⟩,hl,h⟩:=h;simp only at h;split at h
      ·simp only[Option.some.injEq,Prod.mk.injEq]at h;exact same h.2.symm
      ·simp only[VC]at h;obtain⟨_,_,h⟩:=h;split at h
       ·simp only[Option.some.injEq,Prod.mk.injEq]at h;exact upd _ _ _ _ _ (kh hl) h.2.symm
       ·cases h
     ·cases h
    ·cases h
   ·simp only[VC,Vw,Prod.mk.injEq]at h;obtain⟨_,_,_,_,_,rfl⟩:=h;exact same rfl
   ·simp only[VC,Vw,Prod.mk.injEq]at h;obtain⟨_,_,_,_,_,rfl⟩:=h;exact same rfl
   ·cases h
  ·cases h
 |pick c a b =>
  simp only[ar]at h;split at h
  ·simp only[Option.some.injEq,Prod.mk.injEq]at h;exact same h.2.symm
  ·cases h
 |makeFunc fn f c =>
  simp only[ar]at h;split at h
  ·simp only[Option.some.injEq,Prod.mk.injEq]at h;exact same h.2.symm
  ·cases h
 |makeInterface t x =>
  simp only[ar]at h;split at h
  ·simp only[Vw,Prod.mk.injEq]at h;obtain⟨_,_,_,rfl⟩:=h;exact same rfl
  ·cases h
 |slice t x lo hi mx =>
  simp only[ar]at h;split at h
  ·simp only[Vw,Prod.mk.injEq]at h;obtain⟨_,_,_,rfl⟩:=h;exact same rfl
  ·cases h
 |fieldAddr s x f =>
  simp only[ar,VC]at h;obtain⟨_,_,h⟩:=h;split at h
  ·simp only[Vw,Prod.mk.injEq]at h;obtain⟨_,_,_,rfl⟩:=h;exact same rfl
  ·simp only[Option.some.injEq,Prod.mk.injEq]at h;exact same h.2.symm
  ·cases h
 |field s x f =>
  simp only[ar,VC]at h;obtain⟨_,_,h⟩:=h;split at h
  ·simp only[Vw,Prod.mk.injEq]at h;obtain⟨_,_,_,rfl⟩:=h;exact same rfl
  ·simp only[Vw,Prod.mk.injEq]at h;obtain⟨_,_,_,rfl⟩:=h;exact same rfl
  ·cases h
 |indexAddr t x i =>
  simp only[ar]at h;split at h
  ·simp only[Vw,Prod.mk.injEq]at h;obtain⟨_,_,_,rfl⟩:=h;exact same rfl
  ·cases h
 |move x=>simp only[ar,Option.some.injEq,Prod.mk.injEq]at h;exact same h.2.symm
 |assign x=>simp only[ar,Option.some.injEq,Prod.mk.injEq]at h;exact same h.2.symm
 |build t p=>simp only[ar,Vw,Prod.mk.injEq]at h;obtain⟨_,_,_,rfl⟩:=h;exact same rfl
 |load t p=>simp only[ar,Vw,Prod.mk.injEq]at h;obtain⟨_,_,_,rfl⟩:=h;exact same rfl
 |nilCheck p=>simp only[ar,Vw,Prod.mk.injEq]at h;obtain⟨_,_,_,rfl⟩:=h;exact same rfl
 |binOp a b c d e=>simp only[ar,Vw,Prod.mk.injEq]at h;obtain⟨_,_,_,rfl⟩:=h;exact same rfl
 |unOp a b c=>simp only[ar,Vw,Prod.mk.injEq]at h;obtain⟨_,_,_,rfl⟩:=h;exact same rfl
 |convert a b c=>simp only[ar,Vw,Prod.mk.injEq]at h;obtain⟨_,_,_,rfl⟩:=h;exact same rfl
 |index a b c=>simp only[ar,Vw,Prod.mk.injEq]at h;obtain⟨_,_,_,rfl⟩:=h;exact same rfl
 |extract a b=>simp only[ar,Vw,Prod.mk.injEq]at h;obtain⟨_,_,_,rfl⟩:=h;exact same rfl
 |_=>simp[ar]at h
end Go.Hx
namespace Go.Hx
variable {P:Program} {G:Nat->Option (List ZK)} {Γ Γ':aH} {H H':ZJ} {w w':World}
variable {k:Bool}{n:Nat}{cx:Value}
def BR {cells:List ZK}(hx:ZO P Γ H w (.Q n cells) cx):∃a m c,cx=.slice a m c/\(decide (0<n)=true->a.isNone=false):=by
 cases hx with
 |nu a cap=>exact⟨a,0,cap,rfl,fun hk=>by simp at hk⟩
 |Q=>exact⟨_,_,_,rfl,fun _=>rfl⟩
def BS {id g o z:Nat}(h:(match H.V id g with|some _=>some (decide (0<n))|none=>none)=some k)(hx:ZO P Γ H w (.U id g o n z) cx):∃a m c,cx=.slice a m c/\(k=true->a.isNone=false):=by
 split at h
 ·rename_i ec hl;simp only[Option.some.injEq]at h;rcases kR (e:=ec.1) (cells:=ec.2) hx hl with ⟨b,base,m,a,cap,_,rfl,_,_,_⟩|⟨_,_,rfl,rfl⟩
  ·exact⟨_,_,_,rfl,fun _=>rfl⟩
  ·refine⟨_,_,_,rfl,fun hk=>?_⟩;rw[<- h]at hk;simp at hk
 ·cases h
def HR {op:BinOp}{x y:ZK}{cy:Value}(h:lV H op x y=some k)(hx:ZO P Γ H w x cx)(hy:ZO P Γ H w y cy):
  (op=.eql\/op=.neq)/\cy=.slice none 0 0/\∃a n c,cx=.slice a n c/\(k=true->a.isNone=false):=by
 unfold lV at h;split at h
 ·cases hy;split at h
  ·simp only[Option.some.injEq]at h;rw[<- h];exact⟨.inl rfl,rfl,BR hx⟩
  ·exact⟨.inl rfl,rfl,BS h hx⟩
  ·cases h
 ·cases hy;split at h
  ·simp only[Option.some.injEq]at h;rw[<- h];exact⟨.inr rfl,rfl,BR hx⟩
  ·exact⟨.inr rfl,rfl,BS h hx⟩
  ·cases h
 ·cases h
def BU {t:TypeId}(ht:tM (P.underlying t)=true)(a:Option Addr)(n c:Nat):(Op.equal t (.slice a n c) (.slice none 0 0)).run P w=.ok a.isNone w:=by
 unfold tM at ht;split at ht
 ·rename_i e he;show (Op.equalIn (9999+1) t (.slice a n c) (.slice none 0 0)).run P w=_;unfold Op.equalIn;rw[az (dp he)];cases a<;>rfl
 ·cases ht
section
variable {n:Nat} {wb:nnb} {rd rb:Option Nat} {Q:AX->St->Prop}
def BV {o:Oper}{K:St->Prop}{s:St}{a:Act}{A:Act->World->Prop}{Q':Exit->Act->World->Prop}(hd:gX n o=true)(hs:Z4 P G n wb Γ s a w)(hr:eW Γ s.H rd rb)(h:bd P G rd Q o K s)
  (hnext:∀ Γ' s' a' w',K s'->Z4 P G n wb Γ' s' a' w'->ZX Γ s.H w Γ' s'.H w'->s.H.A<=s'.H.A->eW Γ' s'.H rd rb->(∃cv,a'=a.put o.dst cv)->A a' w')
  (hq:∀ Γ' s' a' w' chain,Q .panic s'->yD chain->Z4 P G n wb Γ' s' a' w'->ZX Γ s.H w Γ' s'.H w'->s.H.A<=s'.H.A->eW Γ' s'.H rd rb->a'=a->Q' (.panic chain) a' w'):
  o.wpIn (fB rb) 0 P a w A Q':=by
 have hdst:∀d,o.dst=some d->d<n:=by
  intro d hd';unfold gX at hd;rw[hd']at hd;simpa using hd
 have plain:∀vH:ZK × ZJ,ar P G s.ρ s.H s.H.A o.op=some vH->K ⟨aW s.ρ o.dst vH.1,vH.2⟩->o.wpIn (fB rb) 0 P a w A Q':=by
  rintro⟨v,H'⟩ hop hk;refine⟨fun _ _=>trivial,?_⟩;rw[Oper.semAt_eq _ _ _ (fun c hc=>by rw[hc]at hop;simp[ar]at hop)];obtain⟨nx,cv,Γ',w',hrun,hnx,E,hn,R,hv⟩:=yB hs.heap (jR hs) hop;rw[hrun];have hri:=yF hr (yG hs.heap hop);have hs':=lW hs hdst E hn R hv;have hr':=hr.bK E hn hs.heap hri;rcases hnx with rfl|⟨rfl,rfl⟩
  ·exact hnext Γ' _ _ w' hk hs' E hn hr' ⟨_,rfl⟩
  ·exact hnext Γ' _ _ w' hk hs' E hn hr' ⟨_,rfl⟩
 unfold bd at h;split at h
 ·rename_i fv args ats hop;refine⟨fun _ _=>trivial,?_⟩;rw[Oper.semAt_eq _ _ _ (fun c hc=>by rw[hc]at hop;cases hop)];obtain⟨d,h1,h2⟩:=h Γ w (a.eval fv) (args.map a.eval) hs.heap (jR hs fv) ⟨ZF,fun i h1 h2=>by simp only[VO,XS,WE];exact jR hs _⟩;have hex:(execOp a.eval o).run P w=(invoke d.target d.args).run P w:=by
   unfold execOp;simp only[hop];unfold resolve;simp only;rw[az h1]
  have cont:∀e w',jS P G Γ s.H w (fun r H'=>fZ H' rd/\match r with
    |.ret v=>K ⟨aW s.ρ o.dst v,H'⟩
    |.panic=>Q .panic ⟨s.ρ,H'⟩) e w'->(match e with
     |.returned v=>A (a.put o.dst v) w'
     |.panicked chain=>Q' (.panic chain) a w'
     |.outgrown=>LetsOut Q'):=by
   rintro e w' ⟨r,H',Γ',hend,⟨hri,hk⟩,R,E,hn⟩;have hr':=hr.bK E hn hs.heap hri;cases e with
   |returned cv =>
    cases r with
    |ret v=>exact hnext Γ' _ _ w' hk (lW hs hdst E hn R hend) E hn hr' ⟨_,rfl⟩
    |panic=>exact hend.elim
   |panicked chain =>
    cases r with
    |ret v=>exact hend.elim
    |panic =>
     exact hq Γ' ⟨s.ρ,H'⟩ a w' chain hk hend ⟨hs.size,fun t=>(hs.env t).bK E hn,R,hs.defers.bK E,Wm hs.low E.size⟩ E hn hr' rfl
   |outgrown=>cases r<;>exact hend.elim
  rw[hex];rcases h2 with ⟨f,as,h3,h4⟩|⟨l,f,tm,asg,body,h3,h4⟩|⟨cv,w',h3,h4⟩
  ·rw[h3];refine⟨fun hc=>by simp[Fence.wide]at hc,?_⟩;have h4':CallsIn (fB rb) 0 P f as w _:=h4;refine h4'.mono ?_;intro e w' hp;have:=cont e w' hp;cases e<;>exact this
  ·rw[h3];refine⟨fun hc=>by simp[Fence.wide]at hc,?_⟩;have h4':RoundIn (fB rb) 0 P l f tm asg body w _:=h4;refine h4'.mono ?_;intro e w' hp;have:=cont e w' hp;cases e<;>exact this
  ·rw[h3];exact cont (.returned cv) w' h4
 ·rename_i x hop;obtain⟨⟨t,v,hx⟩,hk⟩:=h;refine⟨fun _ _=>trivial,?_⟩;rw[Oper.semAt_eq _ _ _ (fun c hc=>by rw[hc]at hop;cases hop)];have he:=jR hs x;rw[hx]at he;have hev:a.eval x=.iface t v:=by
   generalize a.eval x=y at he;cases he;rfl
  have hex:(execOp a.eval o).run P w=.halt (.panic (.iface t v)) w:=by
   unfold execOp;simp only[hop,hev];rfl
  rw[hex];exact hq Γ s a w _ hk ⟨t,v,rfl⟩ hs (ZX.refl _ _ _) ZI hr rfl
 ·rename_i op t x y u hop;unfold tO at h;split at h
  ·rename_i k hk;obtain⟨ht,hall⟩:=h;obtain⟨hor,hcy,sa,sn,sc,hcx,hsome⟩:=HR hk (jR hs x) (jR hs y);refine⟨fun _ _=>trivial,?_⟩;rw[Oper.semAt_eq _ _ _ (fun c hc=>by rw[hc]at hop;cases hop)];have hex:(execOp a.eval o).run P w=.ok (.value (.bool (if op == .neq then !sa.isNone else sa.isNone))) w:=by
    unfold execOp;simp only[hop,hcx,hcy];rcases hor with rfl|rfl
    ·have h1:(eqGuard .eql t x y (.slice sa sn sc) (.slice none 0 0)).run P w=.ok () w:=rfl;have h2:(binOp .eql t (.slice sa sn sc) (.slice none 0 0)).run P w=.ok (.bool sa.isNone) w:=by
      show ((Op.equal t (.slice sa sn sc) (.slice none 0 0)) >>= fun b=>pure (Value.bool b)).run P w=_;rw[az (BU ht sa sn sc)];rfl
     have h3:(do eqGuard .eql t x y (.slice sa sn sc) (.slice none 0 0);binOp .eql t (.slice sa sn sc) (.slice none 0 0)).run P w=.ok (.bool sa.isNone) w:=(by rw[az h1];exact h2);rw[az h3];rfl
    ·have h1:(eqGuard .neq t x y (.slice sa sn sc) (.slice none 0 0)).run P w=.ok () w:=rfl;have h2:(binOp .neq t (.slice sa sn sc) (.slice none 0 0)).run P w=.ok (.bool (!sa.isNone)) w:=by
      show ((Op.equal t (.slice sa sn sc) (.slice none 0 0)) >>= fun b=>pure (Value.bool !b)).run P w=_;rw[az (BU ht sa sn sc)];rfl
     have h3:(do eqGuard .neq t x y (.slice sa sn sc) (.slice none 0 0);binOp .neq t (.slice sa sn sc) (.slice none 0 0)).run P w=.ok (.bool (!sa.isNone)) w:=(by rw[az h1];exact h2);rw[az h3];rfl
   rw[hex];exact hnext Γ _ _ w (hall sa.isNone hsome) (lW hs hdst (ZX.refl _ _ _) ZI hs.heap (.lit _)) (ZX.refl _ _ _) ZI hr ⟨_,rfl⟩
  ·obtain⟨vH,hop',hk⟩:=h;exact plain vH (by rw[hop];exact hop') hk
 ·obtain⟨vH,hop,hk⟩:=h;exact plain vH hop hk
def rP {a:Act}{all:Array Oper}{i:Nat}(hi:i<all.size)(cv:Value):Fr (fun t=>all.toList.any fun o=>o.dst == some t) a (a.put all[i].dst cv):=by
 intro t ht;simp only[X4]at ht;have:=ht all[i] ZF;cases hd:all[i].dst with
 |none=>rfl
 |some d =>
  simp only[Act.put];rw[Wz,Vx];intro hdt;rw[hd,hdt]at this;simp at this
def HS {id:Nat}{dr:Bool}{all:Array Oper}(hfit:∀o,o∈all.toList->gX n o=true):∀(is:List Nat) (s:St) (Γ:aH) (a:Act) (w:World),(∀i,i∈is->i<all.size) ->
  opsV P G rd Q all (is.filterMap fun i=>all[i]?) s->Z4 P G n wb Γ s a w->eW Γ s.H rd rb ->
  ∀(Q':Exit->Act->World->Prop),(∀e a' w',iZ P G n wb rd rb (wr (.region id all dr)) Γ s.H a w Q e a' w'->Q' e a' w')->wpOpsIn (fB rb) 0 P all Q' is a w:=by
 intro is
 induction is with
 |nil =>
  intro s Γ a w _ h hs hr Q' hq;exact hq _ _ _ (.here (x:=.normal) trivial h hs hr)
 |cons i is ih =>
  intro s Γ a w hi h hs hr Q' hq;have hlt:=hi i ZF;have ho:all[i]?=some all[i]:=VL hlt;simp only[ZC,ho]at h;unfold wpOpsIn;rw[ho];simp only;obtain⟨t,ht,h⟩:=h;rw[rO hs ht];have hd:=hfit all[i] ZF;cases t with
  |true =>
   simp only[if_true]at h ⊢;refine BV hd hs hr h ?_ ?_
   ·rintro Γ' s' a' w' hk hs' E hn hr' ⟨cv,rfl⟩;exact ih s' Γ' _ w' (fun j hj=>hi j (by simp[hj])) hk hs' hr' Q' fun e a'' w'' hp=>hq _ _ _ (hp.step E hn (rP hlt cv) fun _ h=>h)
   ·rintro Γ' s' a' w' chain hp hc hs' E hn hr' rfl;exact hq _ _ _ ⟨.panic,s',Γ',hc,hp,hs',E,hn,hr',.refl _ _⟩
  |false =>
   simp only[Bool.false_eq_true,if_false]at h ⊢;refine⟨fun _ _=>trivial,?_⟩;have hdst:∀d,all[i].dst=some d->d<n:=by
    intro d hd';unfold gX at hd;rw[hd']at hd;simpa using hd
   have hs':=lW (v:=.lit undef) (cv:=undef) hs hdst (ZX.refl Γ s.H w) ZI hs.heap (.lit _);exact ih ⟨aW s.ρ all[i].dst (.lit undef),s.H⟩ Γ _ w (fun j hj=>hi j (by simp[hj])) h hs' hr Q' fun e a'' w'' hp=>hq _ _ _ (hp.step (ZX.refl _ _ _) ZI (rP hlt _) fun _ h=>h)
def HT {α:Type}(l:List α):(List.range l.length).filterMap (fun i=>l[i]?)=l:=by
 induction l with
 |nil=>rfl
 |cons x xs ih =>
  rw[List.length_cons,List.range_succ_eq_map,ZC];simp only[List.getElem?_cons_zero];rw[List.filterMap_map];congr 1
theorem W.region {id:Nat}{ops:Array Oper}{s:St}(hfit:ops.toList.all (gX n)=true)(h:opsV P G rd Q ops ops.toList s):W P G n rd (.region id ops false) Q s:=by
 intro wb Γ a w rb hs hr;refine wpIn_region (HS (id:=id) (dr:=false) (fun o ho=>VZ.1 hfit o ho) _ s Γ a w (fun i hi=>VP.1 hi) ?_ hs hr _ fun _ _ _ hp=>hp);have:(List.range ops.size).filterMap (fun i=>ops[i]?)=ops.toList:=by
  have:=HT ops.toList;simpa using this
 rw[this];exact h
def tP {b:Frame}{a:Act}{k:List Item}{cs:List Frame}{c:Code}:
  step P (lone (b.atR a (.code (.scope c) :: k)) cs w)=.next (lone (b.atR a (.code c :: .inScope c :: k)) cs w) :=
 step_lone_go (by simp[stepG,stepG.exec,Frame.atR])
def HU {b:Frame}{a:Act}{k:List Item}{cs:List Frame}{c:Code}:
  step P (lone (b.atR a (.inScope c :: k)) cs w)=.next (lone (b.atR a k) cs w) :=
 step_lone_go (by simp[stepG,stepG.exec,Frame.atR])
def noGoto (Q:AX->St->Prop):AX->St->Prop
 |.goto _,_=>False
 |x,s=>Q x s
theorem W.scope {c:Code}{s:St}(h:W P G n rd c (noGoto Q) s):W P G n rd (.scope c) Q s:=by
 intro wb Γ a w rb hs hr b k cs hro hb hrm;have h0:(lone (b.atR a (.code (.scope c) :: k)) cs w).fenced P (fB rb):=fenced_calm hb hrm rfl;obtain⟨e,a',w',hp,harr⟩:=h wb Γ a w rb hs hr b (.inScope c :: k) cs hro hb hrm;obtain⟨x,s',Γ',hx,hq,hrest⟩:=hp;cases e with
 |normal =>
  cases x with
  |normal=>exact⟨.normal,a',w',⟨.normal,s',Γ',hx,hq,hrest⟩,.head h0 tP (StepsIn.trans harr (.one (fenced_calm hb hrm rfl) HU))⟩
  |_=>exact hx.elim
 |exit i =>
  cases x with
  |exit j =>
   have hk:exitTo i (.inScope c :: k)=exitTo i k:=(by simp[exitTo]);exact⟨.exit i,a',w',⟨.exit j,s',Γ',hx,hq,hrest⟩,fun k' hk'=>.head h0 tP (harr.1 k' (by rw[hk];exact hk')),
    fun hr' hk'=>let ⟨k₁,h1,h2⟩:=harr.2 hr' (by rw[hk];exact hk');⟨k₁,h1,.head h0 tP h2⟩⟩
  |_=>exact hx.elim
 |goto i=>cases x with
  |goto j=>exact hq.elim
  |_=>exact hx.elim
 |ret=>cases x with
  |ret=>exact⟨.ret,a',w',⟨.ret,s',Γ',hx,hq,hrest⟩,.of_steps (.one h0 tP) harr⟩
  |_=>exact hx.elim
 |panic ch=>cases x with
  |panic=>exact⟨.panic ch,a',w',⟨.panic,s',Γ',hx,hq,hrest⟩,.of_steps (.one h0 tP) harr⟩
  |_=>exact hx.elim
 |outgrown=>cases x<;>exact hx.elim
end
def jx (t:Bool)(p q:Prop)(_d:TagP p q:=.mk):Prop:=(t=true->p)/\(t=false->q)
def vc (P:Program)(G:Nat->Option (List ZK))(n:Nat)(rd:Option Nat):Code->(AX->St->Prop)->St->Prop
 |.skip,Q,s=>Q .normal s
 |.label _,Q,s=>Q .normal s
 |.region _ ops false,Q,s=>opsV P G rd Q ops ops.toList s
 |.region id ops true,Q,s=>W P G n rd (.region id ops true) Q s
 |.seq a b,Q,s=>vc P G n rd a (lU (vc P G n rd b Q) Q) s
 |.cond c a b,Q,s=>bG (match ay G s.ρ c with|.lit (.bool t)=>some t|_=>none) fun t=>jx t (vc P G n rd a Q s) (vc P G n rd b Q s)
 |.block id c,Q,s=>vc P G n rd c (nO id Q) s
 |.loop c,Q,s=>W P G n rd (.loop c) Q s
 |.rangeFunc f ps asg body,Q,s=>W P G n rd (.rangeFunc f ps asg body) Q s
 |.exit id,Q,s=>Q (.exit id) s
 |.scope c,Q,s=>vc P G n rd c (noGoto Q) s
 |.goto l,Q,s=>Q (.goto l) s
 |.ret,Q,s=>Q .ret s
 |.refuse _,_,_=>False
def fits (n:Nat):Code->Bool
 |.region _ ops _=>ops.toList.all (gX n)
 |.seq a b|.cond _ a b|.rangeFunc _ _ a b=>fits n a && fits n b
 |.block _ c|.loop c|.scope c=>fits n c
 |_=>true
def vK {n:Nat}{rd:Option Nat}:∀(c:Code) (Q:AX->St->Prop) (s:St),fits n c=true->vc P G n rd c Q s->W P G n rd c Q s:=by
 intro c
 induction c with
 |skip=>exact fun Q s _ h=>.skip h
 |label l=>exact fun Q s _ h=>.label h
 |region id ops d =>
  intro Q s hf h;cases d with
  |false=>exact .region hf h
  |true=>exact h
 |seq a b iha ihb =>
  intro Q s hf h;simp only[fits,Wh]at hf;refine W.seq ((iha _ s hf.1 h).mono fun x s' hx=>?_);cases x with
  |normal=>exact ihb Q s' hf.2 hx
  |_=>exact hx
 |cond c a b iha ihb =>
  intro Q s hf h;simp only[fits,Wh]at hf;obtain⟨t,ht,h1,h2⟩:=h;split at ht
  ·rename_i t' hc;simp only[Option.some.injEq]at ht;subst ht;refine W.cond hc ?_;cases t' with
   |true=>exact iha Q s hf.1 (h1 rfl)
   |false=>exact ihb Q s hf.2 (h2 rfl)
  ·cases ht
 |block id c ih=>exact fun Q s hf h=>.block (ih _ s hf h)
 |loop c _=>exact fun Q s _ h=>h
 |rangeFunc=>exact fun Q s _ h=>h
 |exit id=>exact fun Q s _ h=>.exit h
 |scope c ih=>exact fun Q s hf h=>.scope (ih _ s hf h)
 |goto l=>exact fun Q s _ h=>.goto h
 |ret=>exact fun Q s _ h=>.ret h
 |refuse why=>exact fun Q s _ h=>h.elim
def W.vs {n:Nat}{rd:Option Nat}{c:Code}{Q:AX -> St -> Prop}{s:St}(h:vc P G n rd c Q s)(hf:fits n c=true := by rfl):W P G n rd c Q s := vK c Q s hf h
def W.sq {n:Nat}{rd:Option Nat}{x y:Code}{Q:AX -> St -> Prop}{s:St}(h:vc P G n rd x (lU (W P G n rd y Q) Q) s)(hf:fits n x=true := by rfl):W P G n rd (.seq x y) Q s := W.seq (vK x _ s hf h)
end Go.Hx
namespace Go.Hx
variable {P:Program} {G:Nat->Option (List ZK)} {Γ Γ':aH} {H H':ZJ} {w w':World}
variable {tmps:Array Value}{c:Code}{ρ:Env}{fn:Func}{f:FuncId}{rs:List ResultVar}{args:List ZK}{n r:Nat}{o:Obj}{x:Option (List Deferred)}{w₀:World}{H₀:ZJ}{v:ZK}{K:ZP → ZJ → Prop}{Γ₀:aH}
def BW (hr:w.heap[r]?=some (.deferred x))(o:Obj)(ho:∀c e f,o≠.cells c e f)(b i:Nat):(cB w r o).cell? ⟨b,i,none⟩=w.cell? ⟨b,i,none⟩:=by
 simp only[World.cell?,fP];by_cases h:b=r/\r<w.heap.size
 ·rw[VA h,h.1,hr];cases o<;>first|rfl|exact absurd rfl (ho _ _ _)
 ·rw[Vx h]
def ZO.closed {cv:Value}(hr:w.heap[r]?=some (.deferred x))(ho:∀c e f,o≠.cells c e f)(h:ZO P Γ H w v cv):ZO P Γ H (cB w r o) v cv:=by
 induction h with
 |lit v=>exact .lit v
 |nu a cap=>exact .nu a cap
 |Q hb hlt hlen hcs hcell hrel ih=>exact .Q hb (by rw[kM];exact hlt) hlen hcs (fun i hi=>(BW hr o ho _ _).trans (hcell i hi)) ih
 |U h=>exact .U h
 |M h=>exact .M h
 |ni hb hlt hcs hcell hrel ih=>exact .ni hb (by rw[kM];exact hlt) hcs (fun i hi=>(BW hr o ho _ _).trans (hcell i hi)) ih
 |agg hcs hrel ih=>exact .agg hcs ih
 |nf hcs hrel ih=>exact .nf hcs ih
 |Z hfs hcs hf hc ih1 ih2=>exact .Z hfs hcs ih1 ih2
 |np h=>exact .np h
theorem ZT.closed (R:ZT P G Γ H w)(hr:w.heap[r]?=some (.deferred x))(hown:¬ Γ.iL r)(ho:∀c e f,o≠.cells c e f):ZT P G Γ H (cB w r o) where
 J id g e cells hg:=by
  have h1:=R.J id g e cells hg;cases hΓ:Γ id with
  |none=>rw[hΓ]at h1;exact h1
  |some y =>
   obtain⟨b,base,n⟩:=y;rw[hΓ]at h1;obtain⟨c,a1,a2,a3,a4⟩:=h1;refine⟨c,?_,a2,a3,fun i hi=>let ⟨cv,b1,b2⟩:=a4 i hi;⟨cv,b1,b2.closed hr ho⟩⟩;rw[fP,Vx]
   ·exact a1
   ·rintro⟨rfl,_⟩;exact hown ⟨id,base,n,hΓ⟩
 loop id st pend n env ps asg body hg:=by
  obtain⟨b,rr,a1,a2,a3,a4,a5,a6,a7,a8,a9⟩:=R.loop id st pend n env ps asg body hg;refine⟨b,rr,a1,?_,a3,a4,a5,a6,a7,a8,fun t ht=>(a9 t ht).closed hr ho⟩;rw[fP,Vx]
  ·exact a2
  ·rintro⟨rfl,_⟩;exact hown ⟨id,0,0,a1⟩
 mp id es hg:=by
  obtain⟨b,a1,a2⟩:=R.mp id es hg;refine⟨b,a1,?_⟩;rw[fP,Vx]
  ·exact a2
  ·rintro⟨rfl,_⟩;exact hown ⟨id,0,0,a1⟩
 nt:=R.nt
 inj:=R.inj
 nI:=R.nI
 lt id b base n h:=by rw[kM];exact R.lt id b base n h
 A:=R.A
 nH g cells h:=(R.nH g cells h).closed hr ho
 gsz g cells h:=by
  obtain⟨c,e,f,h1,h2⟩:=R.gsz g cells h;refine⟨c,e,f,?_,h2⟩;rw[fP,Vx]
  ·exact h1
  ·rintro⟨rfl,_⟩;rw[hr]at h1;cases h1
def ZX.closed (E:ZX Γ₀ H₀ w₀ Γ H w)(hx:w.heap[r]?=some (.deferred x))(hr:w₀.heap.size<=r)(o:Obj)(ho:∀c e f,o≠.cells c e f):ZX Γ₀ H₀ w₀ Γ H (cB w r o) where
 os:=E.os
 tape:=E.tape
 output:=E.output
 size:=by rw[kM];exact E.size
 nc b hb ho:=by
  obtain⟨h1,h2⟩:=E.nc b hb ho;refine⟨?_,h2⟩;rw[fP,Vx O];exact h1
 V:=E.V
 nz a ha:=(tw hx (fun _ _ _ h=>by cases h) (fun c e f h=>absurd h (ho c e f)) a).trans (E.nz a ha)
def HV {R:Ending->World->Prop}{u:FrameMode}(hu:u≠.run):∀(ds:List Deferred) (w:World),
  (∀d,d∈ds->∃r,d={ target:=.collected r,args:=#[] }/\w₀.heap.size<=r/\tv Γ w r)->ds.Pairwise (fun d e=>d.target≠e.target) ->
  ZT P G Γ H w->(∀t,ZO P Γ H w (ρ t) (tmps.getD t undef))->ZX Γ₀ H₀ w₀ Γ H w ->
  (∀w',ZT P G Γ H w'->(∀t,ZO P Γ H w' (ρ t) (tmps.getD t undef))->ZX Γ₀ H₀ w₀ Γ H w'->LeavesIn Fence.wide 0 P fn tmps R [] u w') ->
  LeavesInM Fence.wide 0 P fn tmps R ds u w:=by
 intro ds
 induction ds with
 |nil=>intro w _ _ R0 he E h;exact h w R0 he E
 |cons d ds ih =>
  intro w hd hp R0 he E h;obtain⟨r,rfl,hle,hown,hblk⟩:=hd d ZF;have ho:∀c e f,Obj.deferred none≠.cells c e f:=fun _ _ _ h=>by cases h
  refine⟨hu,.inl ⟨r,cB w r (.deferred none),rfl,?_,?_⟩⟩
  ·unfold Instr.takeDeferred;have hg:(getObj r).run P w=.ok (.deferred (some [])) w:=(by simp[getObj,Sem.run,hblk]);rw[az hg];simp only;have hset:(setObj r (.deferred none)).run P w=.ok () (cB w r (.deferred none)):=(by simp[setObj,Sem.run,hblk,cB]);rw[az hset];rfl
  ·refine ih _ (fun e he'=>?_) (YJ.1 hp).2 (R0.closed hblk hown ho) (fun t=>(he t).closed hblk ho) (E.closed hblk hle _ ho) h;obtain⟨r',rfl,hle',hown',hblk'⟩:=hd e (by simp[he']);refine⟨r',rfl,hle',hown',?_⟩;rw[fP,Vx]
   ·exact hblk'
   ·rintro⟨rfl,_⟩;exact(YJ.1 hp).1 _ he' rfl
def HW {t:TypeId}{a:ZK}{ca:Value}(R:ZT P G Γ H w)(h:iN P H t a=some v)(ha:ZO P Γ H w a ca):
  ∃ad cv,ca=.pointer (some ad)/\(loadVar t ad).run P w=.ok cv w/\ZO P Γ H w v cv:=by
 have h0:=h;unfold iN at h;split at h
 ·rename_i id gen off;split at h
  ·rename_i g e cells hg;split at h
   ·rename_i hgg;have hl:H.V id gen=some (e,cells):=(by simp[ZJ.V,hg,hgg]);obtain⟨b,base,n,hΓ,rfl⟩:=rH ha hl;obtain⟨cv,h1,h2⟩:=vB h (tC R hl hΓ);exact⟨_,cv,rfl,h1,h2⟩
   ·cases h
  ·cases h
 ·rename_i cells off;cases ha with
  |ni hb hlt hcs hcell hrel =>
   obtain⟨cv,h1,h2⟩:=vB h ⟨_,hcs,hcell,hrel⟩;exact⟨_,cv,rfl,h1,h2⟩
 ·cases h
def iQ (P:Program)(H:ZJ)(ρ:Env):List ResultVar->Option (List ZK)
 | []=>some []
 |.tmp t :: r=>(iQ P H ρ r).map (ρ t :: ·)
 |.cell a t :: r=>(iN P H t (ρ a)).bind fun v=>(iQ P H ρ r).map (v :: ·)
def pq:List ZK->ZK
 | [v]=>v
 |vs=>.nf vs
def rQ (tmps:Array Value):ResultVar->Sem Value
 |.tmp t=>pure (tmps.getD t undef)
 |.cell a t=>do loadVar t (<- asAddr (tmps.getD a undef))
def HX (R:ZT P G Γ H w)(he:∀t,ZO P Γ H w (ρ t) (tmps.getD t undef)):∀(rs:List ResultVar) (vs:List ZK),iQ P H ρ rs=some vs ->
  ∃cs:List Value,(rs.mapM (rQ tmps)).run P w=.ok cs w/\cs.length=vs.length/\∀i (_:i<vs.length) (_:i<cs.length),ZO P Γ H w vs[i] cs[i]:=by
 intro rs
 induction rs with
 |nil =>
  intro vs h;simp only[iQ,Option.some.injEq]at h;subst h;exact⟨[],rfl,rfl,fun i h _=>absurd h (VN _)⟩
 |cons rv rs ih =>
  intro vs h;have cons:∀(v:ZK) (cv:Value) (vs':List ZK),(rQ tmps rv).run P w=.ok cv w->ZO P Γ H w v cv->iQ P H ρ rs=some vs'->∃cs:List Value,((rv :: rs).mapM (rQ tmps)).run P w=.ok cs w /\
    cs.length=(v :: vs').length/\∀i (_:i<(v :: vs').length) (_:i<cs.length),ZO P Γ H w (v :: vs')[i] cs[i]:=by
   intro v cv vs' hm hv hr;obtain⟨cs,h1,h2,h3⟩:=ih vs' hr;refine⟨cv :: cs,?_,by simp[h2],fun i a b=>?_⟩
   ·rw[List.mapM_cons,az hm,az h1];rfl
   ·cases i with
    |zero=>exact hv
    |succ i=>exact h3 i (by simpa using a) (by simpa using b)
  cases rv with
  |tmp t =>
   simp only[iQ,Vw]at h;obtain⟨vs',h1,rfl⟩:=h;exact cons (ρ t) _ vs' rfl (he t) h1
  |cell a t =>
   simp only[iQ,VC,Vw]at h;obtain⟨v,hv,vs',h1,rfl⟩:=h;obtain⟨ad,cv,ha,hl,hr⟩:=HW R hv (he a);refine cons v cv vs' ?_ hr h1;simp only[rQ,ha];have:(asAddr (.pointer (some ad))).run P w=.ok ad w:=rfl;rw[az this];exact hl
def HY (fn:Func)(tmps:Array Value):results fn tmps=(do let vs <- fn.results.mapM (rQ tmps);pure (if h:vs.size=1 then vs[0] else .tuple vs)):=by
 unfold results;congr 1
def HZ {vs:List ZK}(R:ZT P G Γ H w)(he:∀t,ZO P Γ H w (ρ t) (tmps.getD t undef))(h:iQ P H ρ fn.results.toList=some vs):
  ∃cv,(results fn tmps).run P w=.ok cv w/\ZO P Γ H w (pq vs) cv:=by
 obtain⟨cs,h1,h2,h3⟩:=HX R he _ _ h;have hm:(fn.results.mapM (rQ tmps)).run P w=.ok cs.toArray w:=by
  rw[Zb,Sem.run_map,h1];rfl
 rw[HY,az hm]
 match vs,cs,h2,h3 with
 | [v],[c],_,h3=>exact⟨c,rfl,h3 0 ZF ZF⟩
 | [],[],_,h3=>exact⟨_,rfl,.nf (cs:=[]) rfl h3⟩
 |v :: v' :: vs,c :: c' :: cs,h2,h3 =>
  refine⟨.tuple (c :: c' :: cs).toArray,?_,.nf h2 h3⟩;have hne:¬(c :: c' :: cs).toArray.size=1:=ZF
  rw[dif_neg hne];rfl
def qx (P:Program)(G:Nat->Option (List ZK))(H:ZJ)(v:ZK)(H':ZJ)(v':ZK):Prop :=
 ∀ Γ w,ZT P G Γ H w->∃ Γ',ZT P G Γ' H' w/\ZX Γ H w Γ' H' w/\∀cv,ZO P Γ H w v cv->ZO P Γ' H' w v' cv
def aq (P:Program)(G:Nat->Option (List ZK))(H₀:ZJ)(K:ZP->ZJ->Prop)(v:ZK)(H:ZJ):Prop :=
 ∃v' H',qx P G H v H' v'/\H₀.A<=H'.A/\K (.ret v') H'
theorem qx.refl (H:ZJ)(v:ZK):qx P G H v H v:=fun Γ _ R=>⟨Γ,R,ZX.refl _ _ _,fun _ h=>h⟩
def aq.mk {K:ZP->ZJ->Prop}{H:ZJ}(hn:H₀.A<=H.A)(hk:K (.ret v) H):aq P G H₀ K v H:=⟨v,H,qx.refl H v,hn,hk⟩
def rR (P:Program)(G:Nat->Option (List ZK))(rs:List ResultVar)(H₀:ZJ)(K:ZP->ZJ->Prop):AX->St->Prop
 |.normal,s|.ret,s=>bG (iQ P s.H s.ρ rs) fun vs=>aq P G H₀ K (pq vs) s.H
 |.panic,s=>∃H',qx P G s.H (.lit undef) H' (.lit undef)/\H₀.A<=H'.A/\K .panic H'
 |_,_=>False
def ja (args:List ZK):Env:=fun t=>(args[t]?).getD (.lit undef)
def ag.BX        (hf : P.funcs[f]? = some fn) (hb : fn.body = some c) (hres : fn.results.toList = rs) (hnt : fn.ntmps = n) (hname : (fn.name == "runtime.NumGoroutine") = false)
  (hargs:args.length<=n) (hW:W P G n none c (rR P G rs H K) ⟨ja args,H⟩):ag P G f args H K:=by
 subst hres;subst hnt;refine⟨⟨fn,hf,by rw[hb];rfl,hname⟩,fun Γ w cargs R hr=>?_⟩;refine callsIn_of_wp_marks hf hb trivial ?_;have hs:Z4 P G fn.ntmps ⟨w.heap.size,[]⟩ Γ ⟨ja args,H⟩ { tmps:=cargs++Array.replicate (fn.ntmps-cargs.size) undef,defers:=[] } w:=by
  refine⟨by have:=hr.1;simp;omega,fun t=>?_,R,⟨[],rfl,Marks.nil⟩,ZI⟩;have hsz:=hr.1;by_cases ht:t<args.length
  ·have h1:(cargs++Array.replicate (fn.ntmps-cargs.size) undef).getD t undef=cargs[t]' O:=by
    simp only[Wu];rw[Y7 O,VL O];rfl
   have h2:ja args t=args[t]:=by
    unfold ja;rw[Vz ht];rfl
   rw[h1];show ZO P Γ H w (ja args t) _;rw[h2];exact hr.2 t ht (O)
  ·have h1:(cargs++Array.replicate (fn.ntmps-cargs.size) undef).getD t undef=undef:=by
    simp only[Wu];rw[Array.getElem?_append_right O,XX];split<;>rfl
   have h2:ja args t=.lit undef:=by
    unfold ja;rw[VD O];rfl
   rw[h1];show ZO P Γ H w (ja args t) _;rw[h2];exact .lit _
 refine wpIn_mono (hW ⟨w.heap.size,[]⟩ Γ _ w none hs rfl) ?_;rintro e a' w' ⟨x,s',Γ',hx,hq,hs',E,hn,_,_⟩;have leave:∀(u:FrameMode) (Q:World->Prop),u≠.run->(∀w'',ZT P G Γ' s'.H w''->(∀t,ZO P Γ' s'.H w'' (s'.ρ t) (a'.tmps.getD t undef))->ZX Γ H w Γ' s'.H w''->LeavesIn Fence.wide 0 P fn a'.tmps (jS P G Γ H w K) [] u w'') ->
   LeavesInM Fence.wide 0 P fn a'.tmps (jS P G Γ H w K) a'.defers u w' :=
  fun u _ hu hfin=>by
   obtain⟨m,hm,hmarks⟩:=hs'.defers;rw[hm,List.append_nil];exact HV hu m w' hmarks.1 hmarks.2 hs'.heap hs'.env E hfin
 have normal:bG (iQ P s'.H s'.ρ fn.results.toList) (fun vs=>aq P G H K (pq vs) s'.H)->LeavesInM Fence.wide 0 P fn a'.tmps (jS P G Γ H w K) a'.defers .returning w':=by
  rintro⟨vs,hvs,v',H',hw,hn',hk⟩;refine leave .returning (fun _=>True) ZF fun w'' R'' he'' E''=>?_;obtain⟨cv,h1,h2⟩:=HZ R'' he'' hvs;obtain⟨Γ'',R3,E3,hv3⟩:=hw Γ' w'' R'';exact⟨cv,h1,.ret v',H',Γ'',hv3 cv h2,hk,R3,E''.trans hn E3,hn'⟩
 cases e with
 |normal=>cases x with
  |normal=>exact normal hq
  |_=>exact hx.elim
 |ret=>cases x with
  |ret=>exact normal hq
  |_=>exact hx.elim
 |panic chain=>cases x with
  |panic =>
   obtain⟨H',hw,hn',hk⟩:=hq;refine leave (.panicking chain) (fun _=>True) ZF fun w'' R'' he'' E''=>?_;obtain⟨Γ'',R3,E3,_⟩:=hw Γ' w'' R'';exact⟨.panic,H',Γ'',hx,hk,R3,E''.trans hn E3,hn'⟩
  |_=>exact hx.elim
 |exit i=>cases x with
  |exit j=>exact hq.elim
  |_=>exact hx.elim
 |goto i=>cases x with
  |goto j=>exact hq.elim
  |_=>exact hx.elim
 |outgrown=>cases x<;>exact hx.elim
def ag.Ia        (hf : P.funcs[f]? = some fn) (hb : fn.body = some c) (hres : fn.results.toList = rs) (hnt : fn.ntmps = n) (hname : (fn.name == "runtime.NumGoroutine") = false)
  (hfit:fits n c=true) (hargs:args.length<=n) (h:vc P G n none c (rR P G rs H K) ⟨ja args,H⟩):ag P G f args H K :=
 .BX hf hb hres hnt hname hargs (vK c _ _ hfit h)
end Go.Hx
