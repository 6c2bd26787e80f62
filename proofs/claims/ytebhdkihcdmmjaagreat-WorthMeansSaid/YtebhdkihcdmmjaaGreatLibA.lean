/-
  Abstract values, abstract heaps, and how they stand to the model's values and worlds. Own work: no program stands in this text.
-/
import Derived.RangeFuncLeaves
import Derived.KernelRfl
import Derived.Wp
import Derived.Laws.Cells
import Derived.Laws.Entries
import Derived.IntWalk
import Derived.Laws.BytesString
set_option linter.all false
namespace Go
theorem ZF {P:Prop}(h:P:=by omega):P:=h
theorem V {P:Prop}(h:P:=by omega):P:=h
theorem ZG {P:Prop}(h:P:=by simp):P:=h
theorem ZH {P:Prop}(h:P:=by decide):P:=h
theorem ZI {P:Prop}(h:P:=by kernel_rfl):P:=h
theorem ZJ {n:Nat}:n<=n:=Nat.le_refl n
def an:=@List.mem_of_getElem?
def Vd:=@Go.IntWalk.i64_in
def Ve:=@Option.map_eq_some_iff
def Vf:=@List.getElem?_eq_getElem
def Vg:=@if_neg
def Vh:=@if_pos
def Vi:=@List.take_of_length_le
def Vj:=@List.getD_eq_getElem?_getD
def Vk:=@Option.bind_eq_some_iff
def Vl:=@List.mem_iff_getElem?
def Vm:=@Int.eq_ofNat_of_zero_le
def Vn:=@Nat.lt_of_lt_of_le
def Vo:=@List.getElem?_eq_none
def Vp:=@List.eq_nil_of_length_eq_zero
def Vq:=@Array.getElem?_eq_getElem
def Vr:=@Nat.pow_le_pow_right
def Vs:=@List.mem_range
def Vt:=@Nat.not_lt_zero
def Vu:=@List.mem_map
def Vv:=@List.length_take
def Vw:=@List.getElem_map
def Vx:=@List.getElem?_append_left
def Vy:=@Nat.testBit_or
def Vz:=@List.getElem?_take_of_lt
def VA:=@List.length_map
def VB:=@List.getElem?_set_self
def VC:=@Nat.lt_or_ge
def VD:=@decide_eq_true
def VE:=@List.mem_of_mem_take
def VF:=@List.length_set
def VG:=@List.all_eq_true
def VH:=@List.mem_append
def VI:=@List.map_congr_left
def VJ:=@List.getElem?_eq_some_iff
def VK:=@Go.IntWalk.u64_in
def VL:=@Bool.and_eq_true
def VM:=@Nat.le_trans
def VN:=@Bool.or_eq_true
def VO:=@Nat.mul_le_mul_right
def VP:=@List.getElem?_set_ne
def VQ:=@Option.isSome_iff_exists
def VR:=@List.getElem?_range
def VS:=@List.getElem?_append_right
def VT:=@Nat.add_mul
def VU:=@Int.mul_le_mul_of_nonneg_left
def VV:=@Int.tmod_eq_emod_of_nonneg
def VW:=@Nat.eq_of_testBit_eq
def VX:=@List.range_succ
def VY:=@List.idxOf_lt_length_of_mem
def VZ:=@Classical.byContradiction
def V0:=@Array.getD_eq_getD_getElem?
def V1:=@Int.tdiv_eq_ediv_of_nonneg
def V2:=@List.take_append_drop
def V3:=@List.ext_getElem?
def V4:=@Nat.zero_testBit
def V5:=@List.length_drop
def V6:=@Nat.testBit_two_pow_self
def V7:=@decide_eq_false
def V8:=@List.map_append
def V9:=@List.getElem_cons_zero
def Wa:=@List.mem_or_eq_of_mem_set
def Wb:=@List.drop_eq_getElem_cons
def Wc:=@Nat.testBit_and
def We:=@List.getElem_mem
def Wf:=@Array.getElem?_eq_some_iff
def Wg:=@Array.getElem?_setIfInBounds
def Wh:=@List.length_singleton
def Wi:=@Nat.lt_succ_self
def Wj:=@List.getElem_append_left
def Wk:=@List.foldl_cons
def Wl:=@Nat.mul_le_mul_left
def Wm:=@Array.getElem_toList
def Wn:=@List.foldl_append
def Wo:=@Nat.eq_zero_or_pos
def Wq:=@List.getElem_idxOf
def Wr:=@Nat.lt_of_not_le
def Ws:=@List.pairwise_iff_getElem
def Wt:=@List.getElem_append_right
def Wu:=@List.getElem?_inj
def Wv:=@Nat.pow_succ
def Ww:=@Nat.pow_lt_pow_right
def Wx:=@Int.mul_comm
def Wy:=@Nat.testBit_lt_two_pow
def Wz:=@List.getElem?_drop
def WA:=@Int.natAbs_natCast
def WB:=@Bool.eq_false_or_eq_true
def WC:=@List.set_append_right
def WD:=@List.length_replicate
def WE:=@Int.natCast_mul
def WG:=@Bool.eq_iff_iff
def WH:=@Nat.lt_trichotomy
def WI:=@List.sum_cons
def WJ:=@List.getElem?_replicate
def WK:=@Nat.zero_le
def WL:=@Nat.mul_comm
def WM:=@Nat.add_sub_cancel
def WN:=@Array.getElem?_eq_none
def WO:=@Nat.div_le_self
def WQ:=@Int.natAbs_mul
def WR:=@Nat.or_lt_two_pow
def WT:=@List.length_range
def WU:=@List.eq_of_mem_replicate
def WV:=@Int.mul_le_mul
def WW:=@Nat.testBit_two_pow_sub_one
def WX:=@List.zip_cons_cons
def WY:=@List.filter_append
def WZ:=@Nat.gcd_dvd_right
def W0:=@List.replicate_succ
def W1:=@List.getElem?_set
def W2:=@Int.mul_nonneg
def W3:=@Int.mul_le_mul_of_nonneg_right
def W4:=@Nat.lt_of_le_of_lt
def W5:=@List.zip_nil_right
def W6:=@Nat.div_eq_of_lt
def W7:=@Nat.div_lt_of_lt_mul
def W8:=@Int.gcd_pos_of_ne_zero_right
def W9:=@List.nodup_cons
def Xa:=@List.mem_filter
def Xb:=@Array.length_toList
def Xc:=@List.getElem_cons_succ
def Xd:=@List.countP_cons
def Xe:=@Bool.not_eq_true
def Xf:=@Nat.mul_assoc
def Xg:=@Nat.add_assoc
def Xh:=@Int.mul_assoc
def Xi:=@Nat.mul_add
def Xj:=@List.pairwise_append
def Xk:=@List.mem_of_mem_drop
def Xl:=@List.mem_cons_of_mem
def Xm:=@List.getElem?_zipIdx
def Xn:=@Nat.two_pow_pos
def Xo:=@Nat.div_add_mod
def Xp:=@List.nodup_append
def Xq:=@Bool.not_eq_true'
def Xr:=@Array.getElem?_replicate
def Xs:=@Nat.zero_mul
def Xt:=@Int.pow_succ
def Xu:=@Nat.testBit_two_pow
def Xv:=@Nat.one_mul
def Xw:=@Nat.le_succ
def Xx:=@Int.toNat_of_nonneg
def Xy:=@Nat.mod_eq_of_lt
def Xz:=@List.nodup_range
def XA:=@Nat.mul_le_mul
def XB:=@List.foldl_nil
def XC:=@List.drop_drop
def XD:=@Int.natAbs_neg
def XE:=@Int.ediv_eq_zero_of_lt
def XF:=@Nat.lt_or_eq_of_le
def XG:=@List.pairwise_cons
def XH:=@List.find?_eq_none
def XI:=@Int.emod_lt_of_pos
def XJ:=@Nat.min_eq_left
def XK:=@Nat.le_div_iff_mul_le
def XL:=@Int.add_zero
def XM:=@List.getElem_take
def XN:=@List.getElem_drop
def XO:=@Array.getElem_map
def XP:=@Nat.shiftRight_eq_div_pow
def XQ:=@List.getElem?_eq_none_iff
def XR:=@List.take_length
def XS:=@List.mem_flatten
def XT:=@Array.getElem?_push
def XU:=@Nat.mod_lt
def XV:=@Nat.gcd_comm
def XW:=@List.map_map
def XX:=@Nat.add_sub_cancel_left
def XY:=@Nat.div_div_eq_div_mul
def XZ:=@Int.add_mul_ediv_right
def X0:=@Nat.le_of_lt_succ
def X1:=@Int.mul_add
def X2:=@Int.emod_eq_of_lt
def X3:=@Nat.sub_self
def X4:=@Nat.le_of_lt
def X5:=@Nat.le_of_ble_eq_true
def X6:=@List.map_set
def X7:=@List.eq_nil_or_concat
def X8:=@List.concat_eq_append
def X9:=@Array.eq_empty_of_size_eq_zero
def Ya:=@List.any_eq_true
def Yb:=@Nat.mul_div_mul_left
def Yc:=@List.mem_append_left
def Yd:=@Nat.lt_irrefl
def Ye:=@Nat.mul_div_cancel'
def Yf:=@Nat.div_mul_le_self
def Yg:=@List.take_set_of_le
def Yh:=@List.idxOf_cons
def Yi:=@Int.one_mul
def Yj:=@Int.emod_nonneg
def Yk:=@Int.fdiv_eq_ediv_of_nonneg
def Yl:=@Array.getElem?_append_left
def Ym:=@decide_eq_true_iff
def Yn:=@Nat.ne_of_lt
def Yo:=@List.map_replicate
def Yp:=@Int.le_trans
def Yq:=@Int.add_comm
def Yr:=@Array.mapM_eq_mapM_toList
def Ys:=@Nat.shiftRight_le
def Yt:=@List.any_eq_false
def Yu:=@decide_eq_false_iff_not
def Yv:=@Nat.le_of_dvd
def Yw:=@Nat.le_of_not_lt
def Yx:=@Nat.gcd_dvd_left
def Yy:=@List.getElem_set
def Yz:=@Int.natCast_ediv
def YA:=@List.drop_of_length_le
def YB:=@List.drop_eq_nil_of_le
def YC:=@Nat.succ_mul
def YD:=@Nat.ble_eq_true_of_le
def YE:=@Nat.and_le_left
def YF:=@List.sum_append
def YG:=@List.mem_append_right
def YH:=@List.length_filter_le
def YI:=@Int.zero_mul
def YJ:=@Int.zero_add
def YK:=@Int.emod_add_mul_ediv
def YL:=@Array.toArray_toList
def YM:=@List.flatten_append
def YN:=@List.flatMap_append
def YO:=@List.filterMap_cons
def YP:=@Int.add_mul
def YQ:=@Nat.dvd_trans
def YR:=@List.set_eq_take_append_cons_drop
def YS:=@List.getElem?_take
def YT:=@Nat.mul_left_comm
def YU:=@Array.size_append
def YV:=@Nat.pow_zero
def YW:=@Nat.and_two_pow_sub_one_eq_mod
def YX:=@List.set_set
def YY:=@Int.mul_zero
def YZ:=@Nat.dvd_mul_left
def Y0:=@List.take_append_of_le_length
def Y1:=@Array.toList_map
def Y2:=@Nat.mul_pos
def Y3:=@Nat.gcd_rec
def Y4:=@List.getElem?_concat_length
def Y5:=@List.forIn_cons
def Y6:=@Int.pow_pos
def Y7:=@Int.natAbs_tmod
def Y8:=@Int.natAbs_tdiv
def Y9:=@Array.getElem?_append_right
def Za:=@List.nodup_iff_pairwise_ne
def Zb:=@Int.eq_of_mul_eq_mul_right
def Zc:=@List.mem_of_find?_eq_some
def Zd:=@List.forIn_nil
def Ze:=@Int.le_of_mul_le_mul_left
def Zf:=@Nat.gcd_pos_of_pos_right
def Zg:=@Int.mul_tdiv_cancel_left
def Zh:=@Nat.le_mul_of_pos_right
def Zi:=@Go.IntWalk.u8_in
def Zj:=@Int.gcd_natCast_natCast
def Zk:=@Bool.or_false
def Zl:=@List.range_succ_eq_map
def Zm:=@List.countP_eq_length
def Zn:=@Int.sub_zero
def Zo:=@Int.lt_or_le
def Zp:=@List.mem_of_getLast?
def Zq:=@List.mem_iff_getElem
def Zr:=@List.drop_eq_nil_iff
def Zs:=@Int.ofNat_eq_natCast
def Zt:=@Int.mul_ediv_self_le
def Zu:=@Classical.not_forall
def Zv:=@Nat.pow_pos
def Zw:=@Nat.pow_add
def Zx:=@Nat.lt_mul_div_succ
def Zy:=@Nat.div_one
def Zz:=@List.getD_cons_zero
def ZA:=@List.getD_cons_succ
def ZB:=@List.drop_set_of_lt
def ZC:=@Int.neg_mul
def ZD:=@Int.neg_gcd
def ZE:=@Int.mul_one
end Go
namespace Go.Hx
variable {id off:Nat}{P:Program}{cv:Value}{w w':World}
inductive ZL where
 |lit (v:Value)
 |Q (len:Nat) (cells:List ZL)
 |U (id gen off len sz:Nat)
 |O (id gen off:Nat)
 |ni (cells:List ZL) (off:Nat)
 |agg (cells:List ZL)
 |nc (vs:List ZL)
 |X (f:FuncId) (first cap:List ZL)
 |nk (id:Nat)
instance:Inhabited ZL:=⟨.lit undef⟩
abbrev Env:=Nat->ZL
inductive ZR where
 |J (gen:Nat) (elem:TypeId) (cells:List ZL)
 |loop (st:LoopState) (pend:Option Code) (n:Nat) (env:Env) (ps:Array Tmp) (asg body:Code)
 |mp (es:List (Int × Int))
 |nq
structure ZK where
 get:Nat->Option ZR
 A:Nat
abbrev aD:=Nat->Option (Nat × Nat × Nat)
def aD.fH (Γ:aD)(b:Nat):Prop:=∃id base n,Γ id=some (b,base,n)
def uo (Γ:aD)(H:ZK)(id gen off len sz:Nat)(cv:Value):Prop :=
 id<H.A/\cv.oneCell=true/\H.get id≠some .nq/\∀g e cells,H.get id=some (.J g e cells)->gen<=g/\(gen=g ->
  match Γ id with
  |some (b,base,n)=>∃a cap,cv=.slice (some a) len cap/\len<=cap/\off+len*sz<=cells.length /\
    ((a=⟨b,base+off,none⟩/\base+off+cap*sz<=n)\/(len=0/\cap=0))
  |none=>off=0/\len=0/\cv=.slice none 0 0)
def uq (Γ:aD)(H:ZK)(id gen off:Nat)(cv:Value):Prop :=
 id<H.A/\cv.oneCell=true/\H.get id≠some .nq/\∀g e cells,H.get id=some (.J g e cells)->gen<=g/\(gen=g ->
  ∃b base n,Γ id=some (b,base,n)/\cv=.pointer (some ⟨b,base+off,none⟩))
def dV:Nat->List (Int × Int)->List MapEntry
 |_,[]=>[]
 |i,(k,v) :: l=>⟨.int .i64 k,.int .i64 v,i⟩ :: dV (i+1) l
def iq (es:List (Int × Int)):Obj:=.map (dV 0 es).toArray es.length
def ur (Γ:aD)(H:ZK)(id:Nat)(cv:Value):Prop :=
 id<H.A/\cv.oneCell=true/\H.get id≠some .nq/\(∀st pend n env ps asg body,H.get id=some (.loop st pend n env ps asg body) ->
  ∃b,Γ id=some (b,0,0)/\cv=.func (.yield b) #[] #[])/\∀es,H.get id=some (.mp es)->∃b,Γ id=some (b,0,0)/\cv=.map (some b)
inductive ZO (P:Program)(Γ:aD)(H:ZK)(w:World):ZL->Value->Prop
 |lit (v:Value):ZO P Γ H w (.lit v) v
 |nu (a:Option Addr) (cap:Nat):ZO P Γ H w (.Q 0 []) (.slice a 0 cap)
 |Q {len:Nat} {cells:List ZL} {b off cap:Nat} {cs:List Value} (hb:¬ Γ.fH b) (hlt:b<w.heap.size) (hlen:len<=cap)
   (hcs:cs.length=cells.length)
   (hcell:∀i (h:i<cs.length),w.cell? ⟨b,off+i,none⟩=some cs[i])
   (hrel:∀i (h:i<cells.length) (h':i<cs.length),ZO P Γ H w cells[i] cs[i]):
   ZO P Γ H w (.Q len cells) (.slice (some ⟨b,off,none⟩) len cap)
 |U {id gen off len sz:Nat} {cv:Value} (h:uo Γ H id gen off len sz cv):ZO P Γ H w (.U id gen off len sz) cv
 |O {id gen off:Nat} {cv:Value} (h:uq Γ H id gen off cv):ZO P Γ H w (.O id gen off) cv
 |ni {cells:List ZL} {off b o:Nat} {cs:List Value} (hb:¬ Γ.fH b) (hlt:b<w.heap.size)
   (hcs:cs.length=cells.length)
   (hcell:∀i (h:i<cs.length),w.cell? ⟨b,o+i,none⟩=some cs[i])
   (hrel:∀i (h:i<cells.length) (h':i<cs.length),ZO P Γ H w cells[i] cs[i]):
   ZO P Γ H w (.ni cells off) (.pointer (some ⟨b,o+off,none⟩))
 |agg {cells:List ZL} {cs:List Value} (hcs:cs.length=cells.length)
   (hrel:∀i (h:i<cells.length) (h':i<cs.length),ZO P Γ H w cells[i] cs[i]):ZO P Γ H w (.agg cells) (.agg cs.toArray)
 |nc {cells:List ZL} {cs:List Value} (hcs:cs.length=cells.length)
   (hrel:∀i (h:i<cells.length) (h':i<cs.length),ZO P Γ H w cells[i] cs[i]):ZO P Γ H w (.nc cells) (.tuple cs.toArray)
 |X {f:FuncId} {first cap:List ZL} {fs cs:List Value} (hfs:fs.length=first.length) (hcs:cs.length=cap.length)
   (hf:∀i (h:i<first.length) (h':i<fs.length),ZO P Γ H w first[i] fs[i])
   (hc:∀i (h:i<cap.length) (h':i<cs.length),ZO P Γ H w cap[i] cs[i]):
   ZO P Γ H w (.X f first cap) (.func (.func f) fs.toArray cs.toArray)
 |nk {id:Nat} {cv:Value} (h:ur Γ H id cv):ZO P Γ H w (.nk id) cv
def ZR.le (Γ Γ':aD)(id:Nat):ZR->ZR->Prop
 |.J g e cells,.J g' e' cells'=>g<=g'/\(g=g'->Γ' id=Γ id/\e'=e/\cells'.length=cells.length)
 |.loop _ _ n env ps asg body,.loop _ _ n' env' ps' asg' body'=>Γ' id=Γ id/\n'=n/\env'=env/\ps'=ps/\asg'=asg/\body'=body
 |.mp _,.mp _=>Γ' id=Γ id
 |.nq,_=>True
 |_,_=>False
def Kind (w w':World):Prop:=∀(b:Nat) (c:Array Value) (e:TypeId) (f:Nat × Nat),w.heap[b]?=some (.cells c e f)->∃c',w'.heap[b]?=some (.cells c' e f)/\c'.size=c.size
def Kind.refl (w:World):Kind w w:=fun _ c _ _ h=>⟨c,h,rfl⟩
theorem Kind.trans {w'':World}(h:Kind w w')(k:Kind w' w''):Kind w w'':=fun b c e f hb=>by
 obtain⟨c1,h1,h2⟩:=h b c e f hb;obtain⟨c2,h3,h4⟩:=k b c1 e f h1;exact⟨c2,h3,h4.trans h2⟩
def sA (Γ:aD)(w:World)(Γ':aD):Prop:=∀id b x y,Γ' id=some (b,x,y)->b<w.heap.size->∃x' y',Γ id=some (b,x',y')
def sA.refl (Γ:aD)(w:World):sA Γ w Γ:=fun _ _ x y h _=>⟨x,y,h⟩
structure ZV (Γ:aD)(H:ZK)(w:World)(Γ':aD)(H':ZK)(w':World):Prop where
 os:w'.os=w.os
 tape:w'.tape=w.tape
 output:w'.output=w.output
 size:w.heap.size<=w'.heap.size
 ng:∀b,b<w.heap.size->¬ Γ.fH b->w'.heap[b]?=w.heap[b]?/\¬ Γ'.fH b
 na:∀id,id<H.A->id<H'.A->∀x',H'.get id=some x'->∃x,H.get id=some x/\ZR.le Γ Γ' id x x'
 ny:∀a,a.block<w.heap.size->w'.frozen? a=w.frozen? a
 kind:Kind w w'
 newb:sA Γ w Γ'
def ZR.le_refl (Γ:aD)(id:Nat)(x:ZR):ZR.le Γ Γ id x x:=by
 cases x<;>simp[ZR.le]
theorem ZV.refl (Γ:aD)(H:ZK)(w:World):ZV Γ H w Γ H w :=
 ⟨rfl,rfl,rfl,ZJ,fun _ _ h=>⟨rfl,h⟩,fun _ _ _ x' h=>⟨x',h,ZR.le_refl _ _ _⟩,fun _ _=>rfl,.refl _,.refl _ _⟩
variable {Γ Γ':aD}
def ZR.xJ {x:ZR}(h:ZR.le Γ Γ' id x .nq):x=.nq:=by
 cases x<;>simp_all[ZR.le]
def ZR.le_trans {Γ₁ Γ₂ Γ₃:aD}{id:Nat}{x y z:ZR}(h:ZR.le Γ₁ Γ₂ id x y)(k:ZR.le Γ₂ Γ₃ id y z):ZR.le Γ₁ Γ₃ id x z:=by
 cases x<;>cases y<;>cases z<;>simp only[ZR.le]at *
 ·rename_i g e c g' e' c' g'' e'' c'';refine⟨V,fun hg=>?_⟩;obtain⟨h1,h2⟩:=h;obtain⟨k1,k2⟩:=k;obtain⟨a1,a2,a3⟩:=h2 V;obtain⟨b1,b2,b3⟩:=k2 V;exact⟨b1.trans a1,b2.trans a2,b3.trans a3⟩
 ·obtain⟨a1,a2,a3,a4,a5,a6⟩:=h;obtain⟨b1,b2,b3,b4,b5,b6⟩:=k;exact⟨b1.trans a1,b2.trans a2,b3.trans a3,b4.trans a4,b5.trans a5,b6.trans a6⟩
 ·exact k.trans h
theorem ZV.trans {Γ₁ Γ₂ Γ₃:aD}{H₁ H₂ H₃:ZK}{w₁ w₂ w₃:World}(h:ZV Γ₁ H₁ w₁ Γ₂ H₂ w₂)(hn:H₁.A<=H₂.A)
  (k:ZV Γ₂ H₂ w₂ Γ₃ H₃ w₃):ZV Γ₁ H₁ w₁ Γ₃ H₃ w₃ where
 os:=k.os.trans h.os
 tape:=k.tape.trans h.tape
 output:=k.output.trans h.output
 size:=VM h.size k.size
 ng b hb ho:=by
  obtain⟨a1,a2⟩:=h.ng b hb ho;obtain⟨b1,b2⟩:=k.ng b (Vn hb h.size) a2;exact⟨b1.trans a1,b2⟩
 na id h1 h3 z hz:=by
  obtain⟨y,hy,hyz⟩:=k.na id (Vn h1 hn) h3 z hz;obtain⟨x,hx,hxy⟩:=h.na id h1 (Vn h1 hn) y hy;exact⟨x,hx,ZR.le_trans hxy hyz⟩
 ny a ha:=(k.ny a (Vn ha h.size)).trans (h.ny a ha)
 kind:=h.kind.trans k.kind
 newb id b x y hb hlt:=by
  obtain⟨x1,y1,h1⟩:=k.newb id b x y hb (Vn hlt h.size);exact h.newb id b x1 y1 h1 hlt
variable {H H':ZK}
theorem ZV.cell (h:ZV Γ H w Γ' H' w'){b o:Nat}(hb:b<w.heap.size)(ho:¬ Γ.fH b):
  w'.cell? ⟨b,o,none⟩=w.cell? ⟨b,o,none⟩:=by
 have:=(h.ng b hb ho).1;simp only[World.cell?,this]
def uo.ba {gen len sz:Nat}(h:uo Γ H id gen off len sz cv)
  (k:ZV Γ H w Γ' H' w') (hn:H.A<=H'.A):uo Γ' H' id gen off len sz cv:=by
 obtain⟨h1,h2,h0,h3⟩:=h;refine⟨V,h2,fun hr=>(by
  obtain⟨x,hx,hle⟩:=k.na id h1 V _ hr;exact h0 (ZR.xJ hle ▸ hx)),fun g' e' cells' hg'=>?_⟩
 obtain⟨x,hx,hle⟩:=k.na id h1 V _ hg';cases x with
 |loop=>exact hle.elim
 |mp=>exact hle.elim
 |nq=>exact absurd hx h0
 |J g e cells =>
  obtain⟨a1,a2⟩:=hle;obtain⟨b1,b2⟩:=h3 g e cells hx;refine⟨V,fun hgg=>?_⟩;obtain⟨c1,c2,c3⟩:=a2 V;have:=b2 V;rw[c1,c3];exact this
def uq.ba {gen:Nat}(h:uq Γ H id gen off cv)
  (k:ZV Γ H w Γ' H' w') (hn:H.A<=H'.A):uq Γ' H' id gen off cv:=by
 obtain⟨h1,h2,h0,h3⟩:=h;refine⟨V,h2,fun hr=>(by
  obtain⟨x,hx,hle⟩:=k.na id h1 V _ hr;exact h0 (ZR.xJ hle ▸ hx)),fun g' e' cells' hg'=>?_⟩
 obtain⟨x,hx,hle⟩:=k.na id h1 V _ hg';cases x with
 |loop=>exact hle.elim
 |mp=>exact hle.elim
 |nq=>exact absurd hx h0
 |J g e cells =>
  obtain⟨a1,a2⟩:=hle;obtain⟨b1,b2⟩:=h3 g e cells hx;refine⟨V,fun hgg=>?_⟩;obtain⟨c1,c2,c3⟩:=a2 V;have:=b2 V;rw[c1];exact this
def ur.ba (h:ur Γ H id cv)
  (k:ZV Γ H w Γ' H' w') (hn:H.A<=H'.A):ur Γ' H' id cv:=by
 obtain⟨h1,h2,h0,h3,h4⟩:=h;refine⟨V,h2,fun hr=>(by
  obtain⟨x,hx,hle⟩:=k.na id h1 V _ hr;exact h0 (ZR.xJ hle ▸ hx)),fun st pend n env ps asg body hg'=>?_,fun es hg'=>?_⟩
 ·obtain⟨x,hx,hle⟩:=k.na id h1 V _ hg';cases x with
  |J g e cells=>exact hle.elim
  |mp=>exact hle.elim
  |nq=>exact absurd hx h0
  |loop st0 pend0 n0 env0 ps0 asg0 body0 =>
   obtain⟨a1,_⟩:=hle;obtain⟨b,hb,hc⟩:=h3 _ _ _ _ _ _ _ hx;exact⟨b,a1.trans hb,hc⟩
 ·obtain⟨x,hx,hle⟩:=k.na id h1 V _ hg';cases x with
  |J g e cells=>exact hle.elim
  |loop=>exact hle.elim
  |nq=>exact absurd hx h0
  |mp es0 =>
   obtain⟨b,hb,hc⟩:=h4 _ hx;exact⟨b,Eq.trans hle hb,hc⟩
theorem ZO.ba {v:ZL}(h:ZO P Γ H w v cv)
  (k:ZV Γ H w Γ' H' w') (hn:H.A<=H'.A):ZO P Γ' H' w' v cv:=by
 induction h with
 |lit v=>exact .lit v
 |nu a cap=>exact .nu a cap
 |Q hb hlt hlen hcs hcell hrel ih =>
  exact .Q (k.ng _ hlt hb).2 (Vn hlt k.size) hlen hcs (fun i hi=>(k.cell hlt hb).trans (hcell i hi)) ih
 |U h=>exact .U (h.ba k hn)
 |O h=>exact .O (h.ba k hn)
 |ni hb hlt hcs hcell hrel ih =>
  exact .ni (k.ng _ hlt hb).2 (Vn hlt k.size) hcs (fun i hi=>(k.cell hlt hb).trans (hcell i hi)) ih
 |agg hcs hrel ih=>exact .agg hcs ih
 |nc hcs hrel ih=>exact .nc hcs ih
 |X hfs hcs hf hc ih1 ih2=>exact .X hfs hcs ih1 ih2
 |nk h=>exact .nk (h.ba k hn)
def qx (Γ:aD)(w:World)(r:Nat):Prop:=¬ Γ.fH r/\w.heap[r]?=some (.deferred (some []))
def qx.ba {r:Nat}(h:qx Γ w r)(k:ZV Γ H w Γ' H' w'):qx Γ' w' r:=by
 obtain⟨h1,h2⟩:=h;have hlt:r<w.heap.size:=by
  rcases VC r w.heap.size with h|h
  ·exact h
  ·rw[WN h]at h2;cases h2
 obtain⟨a,b⟩:=k.ng r hlt h1;exact⟨b,a.trans h2⟩
structure ZT (P:Program)(G:Nat->Option (List ZL))(Γ:aD)(H:ZK)(w:World):Prop where
 J:∀id g e cells,H.get id=some (.J g e cells) ->
  match Γ id with
  |some (b,base,n)=>∃c,w.heap[b]?=some (.cells c e (0,0))/\c.size=n/\base+cells.length<=n /\
    ∀i (h:i<cells.length),∃cv,c[base+i]?=some cv/\ZO P Γ H w cells[i] cv
  |none=>cells=[]
 loop:∀id st pend n env ps asg body,H.get id=some (.loop st pend n env ps asg body) ->
  ∃b r,Γ id=some (b,0,0)/\w.heap[b]?=some (.loop r)/\r.state=st/\r.pending=pend/\r.params=ps/\r.assign=asg/\r.body=body /\
   r.tmps.size=n/\(∀t (h:t<r.tmps.size),ZO P Γ H w (env t) r.tmps[t])
 mp:∀id es,H.get id=some (.mp es)->∃b,Γ id=some (b,0,0)/\w.heap[b]?=some (iq es)
 nq:∀id,H.get id=some .nq->Γ id=none
 inj:∀id id' b base n base' n',Γ id=some (b,base,n)->Γ id'=some (b,base',n')->id=id'
 nE:∀id x,Γ id=some x->∃y,H.get id=some y
 lt:∀id b base n,Γ id=some (b,base,n)->b<w.heap.size
 A:∀id y,H.get id=some y->id<H.A
 nD:∀g cells,G g=some cells->ZO P Γ H w (.ni cells 0) (.pointer (some ⟨g,0,none⟩))
 gsz:∀g cells,G g=some cells->∃c e f,w.heap[g]?=some (.cells c e f)/\c.size=cells.length
def GK {cells:List ZL}(h:ZO P Γ H w (.ni cells off) cv):∀ {g x:Nat},cv=.pointer (some ⟨g,x,none⟩)->¬ Γ.fH g/\g<w.heap.size:=by
 intro g x e;cases h with
 |ni hb hlt hcs hcell hrel=>cases e;exact⟨hb,hlt⟩
def ZT.qA {G:Nat->Option (List ZL)}(R:ZT P G Γ H w)(E:ZV Γ H w Γ' H' w')(g:Nat)(cells:List ZL)(h:G g=some cells):∃c e f,w'.heap[g]?=some (.cells c e f)/\c.size=cells.length:=by
 obtain⟨hb,hlt⟩:=GK (R.nD g cells h) rfl;rw[(E.ng g hlt hb).1];exact R.gsz g cells h
end Go.Hx
namespace Go.Hx
variable {α:Type}
def ZL.cells:ZL->List ZL
 |.lit v=>v.cells.toList.map .lit
 |.agg cs=>cs
 |.Q l c=>[.Q l c]
 |.U a b c d e=>[.U a b c d e]
 |.O a b c=>[.O a b c]
 |.ni a b=>[.ni a b]
 |.nc vs=>[.nc vs]
 |.X f a b=>[.X f a b]
 |.nk i=>[.nk i]
def ZL.one:ZL->Bool
 |.lit v=>v.oneCell
 |.agg _|.nc _=>false
 |_=>true
def qB:List ZL->Option (List Value)
 | []=>some []
 |.lit v :: r=>(qB r).map (v :: ·)
 |_ :: _=>none
def ZL.cU:ZL->Option Value
 |.lit v=>some v
 |.agg cs=>(qB cs).map fun l=>.agg l.toArray
 |_=>none
def aP (P:Program):Sem α->Option α
 |.pure a=>some a
 |.program k=>aP P (k P)
 |.mark _ k=>aP P k
 |_=>none
def pj {P:Program}{s:Sem α}{a:α}(h:aP P s=some a)(w:World):s.run P w=.ok a w:=by
 induction s<;>simp_all[aP,Sem.run]
section
variable {P:Program} {w w':World}
def aq {α β:Type}{s:Sem α}{f:α->Sem β}{a:α}(h:s.run P w=.ok a w'):(s >>= f).run P w=(f a).run P w':=by
 rw[Sem.run_bind,h];rfl
def cO {t:TypeId}{d:TypeDesc}(h:P.underlying t=some d):(underlying t).run P w=.ok d w:=run_underlying h w
def uu {t:TypeId}{d:TypeDesc}(h:P.underlying t=some d):∃i,P.info? t=some i:=by
 unfold Program.underlying at h;cases hi:P.info? t with
 |none=>simp[hi]at h
 |some i=>exact⟨i,rfl⟩
def run_typeInfo {t:TypeId}{i:TypeInfo}(h:P.info? t=some i):(typeInfo t).run P w=.ok i w:=by
 unfold typeInfo;rw[aq (run_program P w)];simp[h]
def run_sizeOf {t:TypeId}{i:TypeInfo}(h:P.info? t=some i):(sizeOf t).run P w=.ok (P.cellsOf t) w:=by
 unfold sizeOf;rw[aq (run_typeInfo h)];simp[Program.cellsOf,h]
def jn {t:TypeId}{d:TypeDesc}(h:P.underlying t=some d):(sizeOf t).run P w=.ok (P.cellsOf t) w:=by
 obtain⟨i,hi⟩:=uu h;exact run_sizeOf hi
def qC (d:TypeDesc):Bool:=match d with|.struct _|.array _ _=>true|_=>false
def xK {t:TypeId}{d:TypeDesc}(h:P.underlying t=some d):(isAgg t).run P w=.ok (qC d) w:=by
 unfold isAgg;rw[aq (cO h)];cases d<;>rfl
def GL {a:Addr}{v:Value}(h:w.cell? a=some v):(load a).run P w=.ok v w:=by
 simp[run_load,h]
def kO (b o i:Nat):(Addr.add ⟨b,o,none⟩ i)=⟨b,o+i,none⟩:=by
 unfold Addr.add;by_cases h:i=0
 ·simp[h]
 ·simp[h]
def qD {b o:Nat}{cs:List Value}(h:∀i (hi:i<cs.length),w.cell? ⟨b,o+i,none⟩=some cs[i]):
  (loadCells ⟨b,o,none⟩ cs.length).run P w=.ok cs.toArray w:=by
 refine run_loadCells_list w ⟨b,o,none⟩ cs fun j v hj=>?_;rw[kO];obtain⟨hlt,hv⟩:=VJ.1 hj;rw[<- hv];exact h j hlt
def GM {t:TypeId}{d:TypeDesc}{b o:Nat}{cs:List Value}(hd:P.underlying t=some d)(ha:qC d=true)(hl:cs.length=P.cellsOf t)
  (h:∀i (hi:i<cs.length),w.cell? ⟨b,o+i,none⟩=some cs[i]):(loadVar t ⟨b,o,none⟩).run P w=.ok (.agg cs.toArray) w:=by
 unfold loadVar;rw[aq (xK hd),ha];simp only[if_true];rw[aq (jn hd),<- hl,aq (qD h)];rfl
def GN {t:TypeId}{d:TypeDesc}{a:Addr}{v:Value}(hd:P.underlying t=some d)(ha:qC d=false)
  (h:w.cell? a=some v):(loadVar t a).run P w=.ok v w:=by
 unfold loadVar;rw[aq (xK hd),ha];simp only[Bool.false_eq_true,if_false];exact GL h
def setRow (c:Array Value)(o:Nat):List Value->Array Value
 | []=>c
 |v :: vs=>setRow (c.setIfInBounds o v) (o+1) vs
def size_setRow (c:Array Value)(o:Nat)(vs:List Value):(setRow c o vs).size=c.size:=by
 induction vs generalizing c o with
 |nil=>rfl
 |cons v vs ih=>simp[setRow,ih]
def Ba (c:Array Value)(o:Nat)(vs:List Value)(h:o+vs.length<=c.size)(i:Nat):
  (setRow c o vs)[i]?=if o<=i/\i<o+vs.length then vs[i-o]? else c[i]?:=by
 induction vs generalizing c o with
 |nil=>simp only[setRow,List.length_nil];rw[Vg V]
 |cons v vs ih =>
  simp only[List.length_cons]at h;rw[setRow,ih _ _ (by simp;omega)];simp only[List.length_cons];by_cases h1:o+1<=i/\i<o+1+vs.length
  ·rw[Vh h1,Vh V];have:i-o=(i-(o+1))+1:=V;rw[this,List.getElem?_cons_succ]
  ·rw[Vg h1];by_cases h2:i=o
   ·subst h2;rw[Vh V];simp[Wg];omega
   ·rw[Vg V];rw[Wg,Vg V]
def bH (w:World)(b:Nat)(o:Obj):World:={ w with heap:=w.heap.setIfInBounds b o }
def sB {w:World}{b:Nat}{o o':Obj}(h:w.heap[b]?=some o)(h1:∀c e f,o=.cells c e f->f=(0,0))(h2:∀c e f,o'=.cells c e f->f=(0,0))(a:Addr):(bH w b o').frozen? a=w.frozen? a:=by
 have hlt:b<w.heap.size:=by
  rcases VC b w.heap.size with h'|h'
  ·exact h'
  ·rw[WN h']at h;cases h
 unfold World.frozen? bH;simp only[Wg];by_cases hb:b=a.block
 ·subst hb;rw[Vh rfl,Vh hlt,h];cases o with
  |cells c e f =>
   obtain rfl:=h1 c e f rfl;cases o' with
   |cells c' e' f' =>
    obtain rfl:=h2 c' e' f' rfl;simp
   |_=>simp
  |_ =>
   cases o' with
   |cells c' e' f' =>
    obtain rfl:=h2 c' e' f' rfl;simp
   |_=>rfl
 ·rw[Vg hb]
def qE {w w':World}{o:Obj}(hw:w'.heap=w.heap.push o)(ho:∀c e f,o=.cells c e f->f=(0,0))(a:Addr):w'.frozen? a=w.frozen? a:=by
 unfold World.frozen?;rw[hw,XT];by_cases h:a.block=w.heap.size
 ·rw[Vh h,h,WN ZJ];cases o with
  |cells c e f =>
   obtain rfl:=ho c e f rfl;simp
  |_=>rfl
 ·rw[Vg h]
def GO {b o:Nat}{c:Array Value}{e:TypeId}{v:Value}(h:w.heap[b]?=some (.cells c e (0,0))):
  w.setCell ⟨b,o,none⟩ v=bH w b (.cells (c.setIfInBounds o v) e (0,0)):=by
 unfold World.setCell bH;congr 1;apply Array.ext_getElem?;intro i;rw[Array.getElem?_modify,Wg];by_cases hi:b=i
 ·subst hi;have hlt:b<w.heap.size:=by
   rcases VC b w.heap.size with h'|h'
   ·exact h'
   ·rw[WN h']at h;cases h
  have hb:w.heap[b]=.cells c e (0,0):=by simpa[Vq hlt] using h
  simp[hlt,hb]
 ·simp[hi]
def Bc {b:Nat}{o:Obj}(h:w.heap[b]?=some o):b<w.heap.size:=by
 rcases VC b w.heap.size with h'|h'
 ·exact h'
 ·rw[WN h']at h;cases h
def eO (b:Nat)(o:Obj)(i:Nat):(bH w b o).heap[i]?=if i=b/\b<w.heap.size then some o else w.heap[i]?:=by
 unfold bH;simp only[Wg];by_cases h:b=i
 ·subst h;by_cases h':b<w.heap.size
  ·simp[h']
  ·simp[h']
 ·rw[Vg h,Vg V]
def j8 (b:Nat)(o:Obj):(bH w b o).heap.size=w.heap.size:=by simp[bH]
def Bd {b:Nat}{c c':Array Value}{e:TypeId}{f:Nat × Nat}(h:w.heap[b]?=some (.cells c e f))(hs:c'.size=c.size):Kind w (bH w b (.cells c' e f)):=fun i d e' f' hi=>by
 rw[eO];by_cases hib:i=b
 ·subst hib;rw[h]at hi;cases hi;rw[Vh ⟨rfl,(Wf.1 h).1⟩];exact⟨c',rfl,hs⟩
 ·rw[Vg fun h=>hib h.1];exact⟨d,hi,rfl⟩
def xL {b:Nat}{o o':Obj}(h:w.heap[b]?=some o)(ho:∀c e f,o≠.cells c e f):Kind w (bH w b o'):=fun i d e' f' hi=>by
 rw[eO,Vg]
 ·exact⟨d,hi,rfl⟩
 ·rintro⟨rfl,_⟩;rw[h]at hi;exact ho _ _ _ (Option.some.inj hi)
def uw {w w':World}{o:Obj}(hw:w'.heap=w.heap.push o):Kind w w':=fun i d e' f' hi=>by
 have:=(Wf.1 hi).1;refine⟨d,?_,rfl⟩;rw[hw,XT,Vg V];exact hi
def GP {w w':World}(hk:∀b,b<w.heap.size->w'.heap[b]?=w.heap[b]?):Kind w w':=fun i d e' f' hi=>⟨d,by rw[hk i (Wf.1 hi).1];exact hi,rfl⟩
def GQ (b:Nat)(o o':Obj):bH (bH w b o) b o'=bH w b o':=by
 unfold bH;simp
def Be {b i:Nat}{c:Array Value}{e:TypeId}{f:Nat × Nat}(h:w.heap[b]?=some (.cells c e f)):w.cell? ⟨b,i,none⟩=c[i]?:=by
 simp[World.cell?,h]
def sC {b:Nat}{e:TypeId}:∀(vs:List Value) (c:Array Value) (o i:Nat) (w:World),w.heap[b]?=some (.cells c e (0,0)) ->
  o+i+vs.length<=c.size->(∀v,v∈vs->v.oneCell=true) ->
  (storeCells ⟨b,o,none⟩ vs i).run P w=.ok () (bH w b (.cells (setRow c (o+i) vs) e (0,0))):=by
 intro vs
 induction vs with
 |nil =>
  intro c o i w h _ _;have:bH w b (.cells (setRow c (o+i) []) e (0,0))=w:=by
   unfold bH setRow;have hlt:=Bc h;have:w.heap.setIfInBounds b (.cells c e (0,0))=w.heap:=by
    apply Array.ext_getElem?;intro j;rw[Wg];by_cases hj:b=j
    ·subst hj;have hb:w.heap[b]=.cells c e (0,0):=(by simpa[Vq hlt] using h);simp[hlt,hb]
    ·simp[hj]
   rw[this]
  rw[this];rfl
 |cons v vs ih =>
  intro c o i w h hle hone;simp only[List.length_cons]at hle;have hv:v.oneCell=true:=hone v ZG;have hlt:=Bc h;have hst:(store (Addr.add ⟨b,o,none⟩ i) v).run P w=.ok () (bH w b (.cells (c.setIfInBounds (o+i) v) e (0,0))):=by
   rw[kO];have hc:w.cell? ⟨b,o+i,none⟩=some (c[o+i]' V):=(by rw[Be h];simp);have hf:w.frozen? ⟨b,o+i,none⟩=false:=(by simp[World.frozen?,h]);rw[<- GO h];cases v<;>simp_all[store,Sem.run,Value.oneCell]
  rw[storeCells,aq hst];rw[ih (c.setIfInBounds (o+i) v) o (i+1) _ (by rw[eO,Vh ⟨rfl,hlt⟩]) (by simp;omega) (fun x hx=>hone x (by simp[hx]))];rw[GQ];rfl
end
def setAt (cells:List ZL)(off:Nat)(vs:List ZL):List ZL:=cells.take off++vs++cells.drop (off+vs.length)
def qF {cells:List ZL}{off:Nat}{vs:List ZL}(h:off+vs.length<=cells.length):(setAt cells off vs).length=cells.length:=by
 simp[setAt];omega
def GR {cells:List ZL}{off:Nat}{vs:List ZL}(h:off+vs.length<=cells.length)(i:Nat):
  (setAt cells off vs)[i]?=if off<=i/\i<off+vs.length then vs[i-off]? else cells[i]?:=by
 unfold setAt;by_cases h1:i<off
 ·rw[Vg V,List.append_assoc,Vx (by simp;omega),YS,Vh h1]
 ·by_cases h2:i<off+vs.length
  ·rw[Vh V,Vx (by simp;omega),VS (by simp;omega)];congr 1;simp;omega
  ·rw[Vg V,VS (by simp;omega),Wz];congr 1;simp;omega
def iY (P:Program)(t:TypeId)(cells:List ZL)(off:Nat):Option ZL :=
 match P.underlying t with
 |none=>none
 |some d =>
  if qC d then (if off+P.cellsOf t<=cells.length then some (.agg ((cells.drop off).take (P.cellsOf t))) else none)
  else cells[off]?
def ZK.upd (H:ZK)(id:Nat)(b:ZR):ZK:={ get:=fun j=>if j=id then some b else H.get j,A:=H.A }
def ZK.lay (H:ZK)(id:Nat)(b:ZR):Option ZK :=
 if id=H.A then some { get:=fun j=>if j=id then some b else H.get j,A:=H.A+1 }
 else match H.get id with
  |some .nq=>some (H.upd id b)
  |_=>none
def ir (P:Program)(H:ZK)(t:TypeId):ZL->Option ZL
 |.O id gen off =>
  match H.get id with
  |some (.J g _ cells)=>if g=gen then iY P t cells off else none
  |_=>none
 |.ni cells off=>iY P t cells off
 |_=>none
def j9 (P:Program)(H:ZK)(t:TypeId)(a v:ZL):Option ZK :=
 match a with
 |.O id gen off =>
  match H.get id with
  |some (.J g e cells) =>
   if g=gen/\v.cells.length=P.cellsOf t/\v.cells.all ZL.one=true/\off+v.cells.length<=cells.length then some (H.upd id (.J g e (setAt cells off v.cells))) else none
  |_=>none
 |_=>none
def fR (place:Nat->Option (Nat × Nat))(cells:List ZL):List (Nat × ZL)->Option (List ZL)
 | []=>some cells
 |(i,v) :: rest =>
  match place i with
  |none=>none
  |some (off,size)=>if v.cells.length=size/\off+v.cells.length<=cells.length then fR place (setAt cells off v.cells) rest else none
end Go.Hx
namespace Go.Hx
variable {P:Program} {G:Nat->Option (List ZL)} {Γ Γ':aD} {H H':ZK} {w w':World}
variable {c':Array Value}{cells':List ZL}{b g id n:Nat}{e:TypeId}{cv:Value}{v:ZL}
def xN (h:cv.oneCell=true):cv.cells=#[cv]:=by
 cases cv<;>simp_all[Value.oneCell,Value.cells]
theorem ZO.cells (h:ZO P Γ H w v cv):cv.cells.toList.length=v.cells.length /\
  ∀i (_:i<v.cells.length) (_:i<cv.cells.toList.length),ZO P Γ H w v.cells[i] cv.cells.toList[i]:=by
 have one:∀ {v:ZL} {cv:Value},ZO P Γ H w v cv->v.cells=[v]->cv.cells=#[cv]->cv.cells.toList.length=v.cells.length /\
   ∀i (_:i<v.cells.length) (_:i<cv.cells.toList.length),ZO P Γ H w v.cells[i] cv.cells.toList[i]:=by
  intro v cv h hv hc;simp only[hv,hc];refine⟨rfl,fun i h1 h2=>?_⟩;simp only[List.length_cons,List.length_nil]at h1;have:i=0:=V
  subst this;exact h
 cases h with
 |lit v =>
  simp only[ZL.cells];refine⟨ZG,fun i h1 h2=>?_⟩;simp only[Vw];exact .lit _
 |nu a cap=>exact one (.nu a cap) rfl rfl
 |Q hb hlt hlen hcs hcell hrel=>exact one (.Q hb hlt hlen hcs hcell hrel) rfl rfl
 |U h=>exact one (.U h) rfl (xN h.2.1)
 |O h=>exact one (.O h) rfl (xN h.2.1)
 |ni hb hlt hcs hcell hrel=>exact one (.ni hb hlt hcs hcell hrel) rfl rfl
 |agg hcs hrel=>exact⟨by simpa[ZL.cells,Value.cells] using hcs,fun i h1 h2=>hrel i h1 h2⟩
 |nc hcs hrel=>exact one (.nc hcs hrel) rfl rfl
 |X hfs hcs hf hc=>exact one (.X hfs hcs hf hc) rfl rfl
 |nk h=>exact one (.nk h) rfl (xN h.2.1)
theorem ZO.one (h:ZO P Γ H w v cv)(hv:v.one=true):cv.oneCell=true:=by
 cases h with
 |lit v=>exact hv
 |U h=>exact h.2.1
 |O h=>exact h.2.1
 |nk h=>exact h.2.1
 |agg=>simp[ZL.one]at hv
 |nc=>simp[ZL.one]at hv
 |_=>rfl
def GY:∀ {cells:List ZL} {cs vs:List Value},qB cells=some vs->cs.length=cells.length ->
  (∀i (_:i<cells.length) (_:i<cs.length),ZO P Γ H w cells[i] cs[i])->cs=vs:=by
 intro cells
 induction cells with
 |nil=>intro cs vs h hl _;simp only[qB,Option.some.injEq]at h;subst h;simpa using hl
 |cons c cells ih =>
  intro cs vs h hl hr;cases c with
  |lit v =>
   simp only[qB,Ve]at h;obtain⟨vs',h1,rfl⟩:=h;cases cs with
   |nil=>simp at hl
   |cons x cs =>
    have h0:=hr 0 ZG ZG;simp only[V9]at h0;cases h0;have:=ih h1 (by simpa using hl) (fun i a b=>hr (i+1) (by simpa using a) (by simpa using b));rw[this]
  |_=>simp[qB]at h
theorem ZO.cU {x:Value}(h:ZO P Γ H w v cv)(hx:v.cU=some x):cv=x:=by
 cases h with
 |lit v=>simpa[ZL.cU] using hx
 |agg hcs hrel =>
  simp only[ZL.cU,Ve]at hx;obtain⟨l,h1,rfl⟩:=hx;rw[GY h1 hcs hrel]
 |_=>simp[ZL.cU]at hx
def ZR.ux (h:Γ' id=Γ id)(x:ZR):ZR.le Γ Γ' id x x:=by
 cases x<;>simp[ZR.le,h]
def ZT.po (R:ZT P G Γ H w)(E:ZV Γ H w Γ' H' w')(hn:H.A<=H'.A)(hget:∀j,j≠id->H'.get j=H.get j)
  (hΓ:∀j,j≠id->Γ' j=Γ j) (hheap:∀j b base n,j≠id->Γ j=some (b,base,n)->w'.heap[b]?=w.heap[b]?)
  (harr:∀g e cells,H'.get id=some (.J g e cells) ->
   match Γ' id with
   |some (b,base,n)=>∃c,w'.heap[b]?=some (.cells c e (0,0))/\c.size=n/\base+cells.length<=n /\
     ∀i (_:i<cells.length),∃cv,c[base+i]?=some cv/\ZO P Γ' H' w' cells[i] cv
   |none=>cells=[])
  (hloop:∀st pend n env ps asg body,H'.get id=some (.loop st pend n env ps asg body) ->
   ∃b r,Γ' id=some (b,0,0)/\w'.heap[b]?=some (.loop r)/\r.state=st/\r.pending=pend/\r.params=ps/\r.assign=asg/\r.body=body /\
    r.tmps.size=n/\(∀t (_:t<r.tmps.size),ZO P Γ' H' w' (env t) r.tmps[t]))
  (hmp:∀es,H'.get id=some (.mp es)->∃b,Γ' id=some (b,0,0)/\w'.heap[b]?=some (iq es))
  (hrsv:H'.get id=some .nq->Γ' id=none)
  (hinj:∀j b base n base' n',j≠id->Γ' id=some (b,base,n)->Γ j=some (b,base',n')->False)
  (hdom:∀x,Γ' id=some x->∃y,H'.get id=some y) (hlt:∀b base n,Γ' id=some (b,base,n)->b<w'.heap.size)
  (hnext:∀y,H'.get id=some y->id<H'.A):ZT P G Γ' H' w' where
 J j g e cells hj:=by
  by_cases h:j=id
  ·subst h;exact harr g e cells hj
  ·rw[hget j h]at hj;have h1:=R.J j g e cells hj;rw[hΓ j h];cases hg:Γ j with
   |none=>rw[hg]at h1;exact h1
   |some x =>
    obtain⟨b,base,n⟩:=x;rw[hg]at h1;obtain⟨c,a1,a2,a3,a4⟩:=h1;exact⟨c,(hheap j b base n h hg).trans a1,a2,a3,fun i hi=>let ⟨cv,b1,b2⟩:=a4 i hi;⟨cv,b1,b2.ba E hn⟩⟩
 loop j st pend n env ps asg body hj:=by
  by_cases h:j=id
  ·subst h;exact hloop st pend n env ps asg body hj
  ·rw[hget j h]at hj;obtain⟨b,r,a1,a2,a3,a4,a5,a6,a7,a8,a9⟩:=R.loop j st pend n env ps asg body hj;exact⟨b,r,(hΓ j h).trans a1,(hheap j b 0 0 h a1).trans a2,a3,a4,a5,a6,a7,a8,fun t ht=>(a9 t ht).ba E hn⟩
 mp j es hj:=by
  by_cases h:j=id
  ·subst h;exact hmp es hj
  ·rw[hget j h]at hj;obtain⟨b,a1,a2⟩:=R.mp j es hj;exact⟨b,(hΓ j h).trans a1,(hheap j b 0 0 h a1).trans a2⟩
 nq j hj:=by
  by_cases h:j=id
  ·subst h;exact hrsv hj
  ·rw[hget j h]at hj;rw[hΓ j h];exact R.nq j hj
 inj i j b base n base' n' h1 h2:=by
  by_cases hi:i=id
  ·by_cases hj:j=id
   ·rw[hi,hj]
   ·rw[hi]at h1;rw[hΓ j hj]at h2;exact(hinj j b base n base' n' hj h1 h2).elim
  ·by_cases hj:j=id
   ·rw[hj]at h2;rw[hΓ i hi]at h1;exact(hinj i b base' n' base n hi h2 h1).elim
   ·rw[hΓ i hi]at h1;rw[hΓ j hj]at h2;exact R.inj i j b base n base' n' h1 h2
 nE j x hx:=by
  by_cases h:j=id
  ·subst h;exact hdom x hx
  ·rw[hΓ j h]at hx;rw[hget j h];exact R.nE j x hx
 lt j b base n hx:=by
  by_cases h:j=id
  ·subst h;exact hlt b base n hx
  ·rw[hΓ j h]at hx;exact Vn (R.lt j b base n hx) E.size
 A j y hy:=by
  by_cases h:j=id
  ·subst h;exact hnext y hy
  ·rw[hget j h]at hy;exact Vn (R.A j y hy) hn
 nD g cells hg:=(R.nD g cells hg).ba E hn
 gsz:=R.qA E
def aD.upd (Γ:aD)(id:Nat)(x:Option (Nat × Nat × Nat)):aD:=fun j=>if j=id then x else Γ j
def aD.eI (Γ:aD)(id:Nat)(x:Option (Nat × Nat × Nat)):Γ.upd id x id=x:=by simp[aD.upd]
def aD.jo (Γ:aD)(id:Nat)(x:Option (Nat × Nat × Nat)){j:Nat}(h:j≠id):Γ.upd id x j=Γ j:=by simp[aD.upd,h]
def xO {x0 y0:Nat}:sA Γ w (Γ.upd id (some (w.heap.size,x0,y0))):=fun j b x y h hlt=>by
 by_cases hj:j=id
 ·subst hj;rw[aD.eI]at h;simp only[Option.some.injEq,Prod.mk.injEq]at h;omega
 ·rw[aD.jo _ _ _ hj]at h;exact⟨x,y,h⟩
def GZ {b0 x0 y0 x1 y1:Nat}(h0:Γ id=some (b0,x0,y0)):sA Γ w (Γ.upd id (some (b0,x1,y1))):=fun j b x y h hlt=>by
 by_cases hj:j=id
 ·subst hj;rw[aD.eI]at h;simp only[Option.some.injEq,Prod.mk.injEq]at h;exact⟨x0,y0,by rw[h0,h.1]⟩
 ·rw[aD.jo _ _ _ hj]at h;exact⟨x,y,h⟩
def heap_alloc (w:World)(o:Obj)(b:Nat):(w.alloc o).heap[b]?=if b=w.heap.size then some o else w.heap[b]?:=by
 show (w.heap.push o)[b]?=_;rw[XT]
def qG {w:World}{o:Obj}(h:b<w.heap.size):(w.alloc o).heap[b]?=w.heap[b]?:=by
 rw[heap_alloc,Vg V]
def ke {b:ZR}(h:H.lay id b=some H'):
  (∀j,H'.get j=if j=id then some b else H.get j)/\((id=H.A/\H'.A=H.A+1)\/(H.get id=some .nq/\H'.A=H.A)):=by
 unfold ZK.lay at h;split at h
 ·rename_i hid;simp only[Option.some.injEq]at h;subst h;exact⟨fun j=>rfl,.inl ⟨hid,rfl⟩⟩
 ·split at h
  ·rename_i hr;simp only[Option.some.injEq]at h;subst h;exact⟨fun j=>rfl,.inr ⟨hr,rfl⟩⟩
  ·cases h
def nN (R:ZT P G Γ H w){id:Nat}{b:ZR}(h:H.lay id b=some H'):Γ id=none/\(H.get id=none\/H.get id=some .nq)/\H.A<=H'.A/\id<H'.A:=by
 obtain⟨_,h2|h2⟩:=ke h
 ·have hn:H.get id=none:=by
   cases hg:H.get id with
   |none=>rfl
   |some y=>have:=R.A id y hg;omega
  have hΓ:Γ id=none:=by
   cases hg:Γ id with
   |none=>rfl
   |some x=>obtain⟨y,hy⟩:=R.nE id x hg;rw[hn]at hy;cases hy
  exact⟨hΓ,.inl hn,V,V⟩
 ·have:=R.A id _ h2.1;exact⟨R.nq id h2.1,.inr h2.1,V,V⟩
def sD {cells:List ZL}{c:Array Value}(R:ZT P G Γ H w)(h:H.lay id (.J 0 e cells)=some H')
  (hlen:cells.length<=c.size) (hrel:∀i (_:i<cells.length),∃cv,c[i]?=some cv/\ZO P Γ H w cells[i] cv):
  ZV Γ H w (Γ.upd id (some (w.heap.size,0,c.size))) H' (w.alloc (.cells c e))/\H.A<=H'.A /\
   ZT P G (Γ.upd id (some (w.heap.size,0,c.size))) H' (w.alloc (.cells c e)):=by
 obtain⟨f1,f2,f3,f4⟩:=nN R h;obtain⟨hget,_⟩:=ke h;have E:ZV Γ H w (Γ.upd id (some (w.heap.size,0,c.size))) H' (w.alloc (.cells c e)):=by
  refine⟨rfl,rfl,rfl,ZG,fun b hb ho=>⟨qG hb,?_⟩,fun j hj hj' x' hx'=>?_,?_,uw rfl,xO⟩
  ·rintro⟨j,base,n,hj⟩;by_cases hji:j=id
   ·rw[hji,aD.eI]at hj;simp only[Option.some.injEq,Prod.mk.injEq]at hj;omega
   ·rw[aD.jo _ _ _ hji]at hj;exact ho ⟨j,base,n,hj⟩
  ·rw[hget]at hx';by_cases hji:j=id
   ·subst hji;rcases f2 with f2|f2
    ·obtain⟨_,h2|h2⟩:=ke h
     ·omega
     ·rw[f2]at h2;cases h2.1
    ·exact⟨.nq,f2,trivial⟩
   ·rw[Vg hji]at hx';exact⟨x',hx',ZR.ux (aD.jo _ _ _ hji) _⟩
  ·exact fun a _=>qE rfl (fun _ _ _ h=>by cases h;rfl) a
 refine⟨E,f3,R.po (id:=id) E f3 (fun j hj=>by rw[hget,Vg hj]) (fun j hj=>aD.jo _ _ _ hj)
  (fun j b base n hj hg=>qG (R.lt j b base n hg)) ?_ ?_ ?_ ?_ ?_ ?_ ?_ ?_⟩
 ·intro g e' cells' hg;rw[hget,Vh rfl]at hg;simp only[Option.some.injEq,ZR.J.injEq]at hg;obtain⟨_,rfl,rfl⟩:=hg;rw[aD.eI];refine⟨c,by rw[heap_alloc,Vh rfl],rfl,V,fun i hi=>?_⟩;obtain⟨cv,h1,h2⟩:=hrel i hi;exact⟨cv,by rw[Nat.zero_add];exact h1,h2.ba E f3⟩
 ·intro st pend n env ps asg body hg;rw[hget,Vh rfl]at hg;cases hg
 ·intro es hg;rw[hget,Vh rfl]at hg;cases hg
 ·intro hg;rw[hget,Vh rfl]at hg;cases hg
 ·intro j b base n base' n' hj h1 h2;rw[aD.eI]at h1;simp only[Option.some.injEq,Prod.mk.injEq]at h1;have:=R.lt j b base' n' h2;omega
 ·exact fun x _=>⟨_,by rw[hget,Vh rfl]⟩
 ·intro b base n h1;rw[aD.eI]at h1;simp only[Option.some.injEq,Prod.mk.injEq]at h1;simp;omega
 ·exact fun _ _=>f4
def ah (H:ZK)(id:Nat)(b:ZR)(j:Nat):(H.upd id b).get j=if j=id then some b else H.get j:=rfl
def xP {cells:List ZL}{base:Nat}(R:ZT P G Γ H w)
  (hg:H.get id=some (.J g e cells)) (hΓ:Γ id=some (b,base,n)) (hlen:cells'.length=cells.length) (hsz:c'.size=n)
  (hrel:∀i (_:i<cells'.length),∃cv,c'[base+i]?=some cv/\ZO P Γ H w cells'[i] cv):
  ZV Γ H w Γ (H.upd id (.J g e cells')) (bH w b (.cells c' e (0,0)))/\ZT P G Γ (H.upd id (.J g e cells')) (bH w b (.cells c' e (0,0))):=by
 have hblk:=R.lt id b base n hΓ;have E:ZV Γ H w Γ (H.upd id (.J g e cells')) (bH w b (.cells c' e (0,0))):=by
  refine⟨rfl,rfl,rfl,by rw[j8];exact Nat.le_refl _,fun b' hb ho=>⟨?_,ho⟩,fun j hj hj' x' hx'=>?_,?_,?_,.refl _ _⟩
  ·rw[eO,Vg];rintro⟨rfl,_⟩;exact ho ⟨id,base,n,hΓ⟩
  ·rw[ah]at hx';by_cases hji:j=id
   ·subst hji;rw[Vh rfl]at hx';cases hx';exact⟨_,hg,ZJ,fun _=>⟨rfl,rfl,hlen⟩⟩
   ·rw[Vg hji]at hx';exact⟨x',hx',ZR.le_refl _ _ _⟩
  ·have h0:=R.J id g e cells hg;rw[hΓ]at h0;obtain⟨c,a1,_⟩:=h0;exact fun a _=>sB a1 (fun _ _ _ h=>by cases h;rfl) (fun _ _ _ h=>by cases h;rfl) a
  ·have h0:=R.J id g e cells hg;rw[hΓ]at h0;obtain⟨c,a1,a2,_⟩:=h0;exact Bd a1 (by rw[hsz,a2])
 have h0:=R.J id g e cells hg;rw[hΓ]at h0;obtain⟨c,a1,a2,a3,a4⟩:=h0;refine⟨E,R.po (id:=id) E ZJ (fun j hj=>by rw[ah,Vg hj]) (fun j hj=>rfl)
  (fun j b' base' n' hj hg'=>?_) ?_ ?_ ?_ ?_ ?_ ?_ ?_ ?_⟩
 ·rw[eO,Vg];rintro⟨rfl,_⟩;exact hj (R.inj j id b' base' n' base n hg' hΓ)
 ·intro g' e' cells'' hg';rw[ah,Vh rfl]at hg';simp only[Option.some.injEq,ZR.J.injEq]at hg';obtain⟨rfl,rfl,rfl⟩:=hg';rw[hΓ];refine⟨c',by rw[eO,Vh ⟨rfl,hblk⟩],hsz,V,fun i hi=>?_⟩;obtain⟨cv,h1,h2⟩:=hrel i hi;exact⟨cv,h1,h2.ba E ZJ⟩
 ·intro st pend n env ps asg body hg';rw[ah,Vh rfl]at hg';cases hg'
 ·intro es hg';rw[ah,Vh rfl]at hg';cases hg'
 ·intro hg';rw[ah,Vh rfl]at hg';cases hg'
 ·intro j b' base' n' base'' n'' hj h1 h2;rw[hΓ]at h1;simp only[Option.some.injEq,Prod.mk.injEq]at h1;obtain⟨rfl,rfl,rfl⟩:=h1;exact hj (R.inj j id _ _ _ _ _ h2 hΓ)
 ·exact fun x _=>⟨_,by rw[ah,Vh rfl]⟩
 ·intro b' base' n' h1;rw[j8];exact R.lt id b' base' n' h1
 ·exact fun _ _=>R.A id _ hg
def G1 {cells:List ZL}{base base':Nat}(R:ZT P G Γ H w)
  (hg:H.get id=some (.J g e cells)) (hΓ:Γ id=some (b,base,n)) (hsz:c'.size=n) (hle:base'+cells'.length<=n)
  (hrel:∀i (_:i<cells'.length),∃cv,c'[base'+i]?=some cv/\ZO P Γ H w cells'[i] cv):
  ZV Γ H w (Γ.upd id (some (b,base',n))) (H.upd id (.J (g+1) e cells')) (bH w b (.cells c' e (0,0))) /\
   ZT P G (Γ.upd id (some (b,base',n))) (H.upd id (.J (g+1) e cells')) (bH w b (.cells c' e (0,0))):=by
 have hblk:=R.lt id b base n hΓ;have E:ZV Γ H w (Γ.upd id (some (b,base',n))) (H.upd id (.J (g+1) e cells')) (bH w b (.cells c' e (0,0))):=by
  refine⟨rfl,rfl,rfl,by rw[j8];exact Nat.le_refl _,fun b' hb ho=>⟨?_,?_⟩,fun j hj hj' x' hx'=>?_,?_,?_,GZ hΓ⟩
  ·rw[eO,Vg];rintro⟨rfl,_⟩;exact ho ⟨id,base,n,hΓ⟩
  ·rintro⟨j,base'',n'',hj⟩;by_cases hji:j=id
   ·rw[hji,aD.eI]at hj;simp only[Option.some.injEq,Prod.mk.injEq]at hj;exact ho ⟨id,base,n,by rw[hΓ,hj.1]⟩
   ·rw[aD.jo _ _ _ hji]at hj;exact ho ⟨j,base'',n'',hj⟩
  ·rw[ah]at hx';by_cases hji:j=id
   ·subst hji;rw[Vh rfl]at hx';cases hx';exact⟨_,hg,Xw _,fun h=>V⟩
   ·rw[Vg hji]at hx';exact⟨x',hx',ZR.ux (aD.jo _ _ _ hji) _⟩
  ·have h0:=R.J id g e cells hg;rw[hΓ]at h0;obtain⟨c,a1,_⟩:=h0;exact fun a _=>sB a1 (fun _ _ _ h=>by cases h;rfl) (fun _ _ _ h=>by cases h;rfl) a
  ·have h0:=R.J id g e cells hg;rw[hΓ]at h0;obtain⟨c,a1,a2,_⟩:=h0;exact Bd a1 (by rw[hsz,a2])
 refine⟨E,R.po (id:=id) E ZJ (fun j hj=>by rw[ah,Vg hj]) (fun j hj=>aD.jo _ _ _ hj)
  (fun j b' base' n' hj hg'=>?_) ?_ ?_ ?_ ?_ ?_ ?_ ?_ ?_⟩
 ·rw[eO,Vg];rintro⟨rfl,_⟩;exact hj (R.inj j id b' base' n' base n hg' hΓ)
 ·intro g' e' cells'' hg';rw[ah,Vh rfl]at hg';simp only[Option.some.injEq,ZR.J.injEq]at hg';obtain⟨rfl,rfl,rfl⟩:=hg';rw[aD.eI];refine⟨c',by rw[eO,Vh ⟨rfl,hblk⟩],hsz,hle,fun i hi=>?_⟩;obtain⟨cv,h1,h2⟩:=hrel i hi;exact⟨cv,h1,h2.ba E ZJ⟩
 ·intro st pend n env ps asg body hg';rw[ah,Vh rfl]at hg';cases hg'
 ·intro es hg';rw[ah,Vh rfl]at hg';cases hg'
 ·intro hg';rw[ah,Vh rfl]at hg';cases hg'
 ·intro j b' base' n' base'' n'' hj h1 h2;rw[aD.eI]at h1;simp only[Option.some.injEq,Prod.mk.injEq]at h1;obtain⟨rfl,rfl,rfl⟩:=h1;exact hj (R.inj j id _ _ _ _ _ h2 hΓ)
 ·exact fun x _=>⟨_,by rw[ah,Vh rfl]⟩
 ·intro b' base'' n' h1;rw[aD.eI]at h1;simp only[Option.some.injEq,Prod.mk.injEq]at h1;rw[j8];omega
 ·exact fun _ _=>R.A id _ hg
def G2 {cells:List ZL}(R:ZT P G Γ H w)
  (hg:H.get id=some (.J g e cells)) (hle:cells'.length<=c'.size)
  (hrel:∀i (_:i<cells'.length),∃cv,c'[i]?=some cv/\ZO P Γ H w cells'[i] cv):
  ZV Γ H w (Γ.upd id (some (w.heap.size,0,c'.size))) (H.upd id (.J (g+1) e cells')) (w.alloc (.cells c' e)) /\
   ZT P G (Γ.upd id (some (w.heap.size,0,c'.size))) (H.upd id (.J (g+1) e cells')) (w.alloc (.cells c' e)):=by
 have E:ZV Γ H w (Γ.upd id (some (w.heap.size,0,c'.size))) (H.upd id (.J (g+1) e cells')) (w.alloc (.cells c' e)):=by
  refine⟨rfl,rfl,rfl,ZG,fun b' hb ho=>⟨qG hb,?_⟩,fun j hj hj' x' hx'=>?_,?_,uw rfl,xO⟩
  ·rintro⟨j,base'',n'',hj⟩;by_cases hji:j=id
   ·rw[hji,aD.eI]at hj;simp only[Option.some.injEq,Prod.mk.injEq]at hj;omega
   ·rw[aD.jo _ _ _ hji]at hj;exact ho ⟨j,base'',n'',hj⟩
  ·rw[ah]at hx';by_cases hji:j=id
   ·subst hji;rw[Vh rfl]at hx';cases hx';exact⟨_,hg,Xw _,fun h=>V⟩
   ·rw[Vg hji]at hx';exact⟨x',hx',ZR.ux (aD.jo _ _ _ hji) _⟩
  ·exact fun a _=>qE rfl (fun _ _ _ h=>by cases h;rfl) a
 refine⟨E,R.po (id:=id) E ZJ (fun j hj=>by rw[ah,Vg hj]) (fun j hj=>aD.jo _ _ _ hj)
  (fun j b' base' n' hj hg'=>qG (R.lt j b' base' n' hg')) ?_ ?_ ?_ ?_ ?_ ?_ ?_ ?_⟩
 ·intro g' e' cells'' hg';rw[ah,Vh rfl]at hg';simp only[Option.some.injEq,ZR.J.injEq]at hg';obtain⟨rfl,rfl,rfl⟩:=hg';rw[aD.eI];refine⟨c',by rw[heap_alloc,Vh rfl],rfl,V,fun i hi=>?_⟩;obtain⟨cv,h1,h2⟩:=hrel i hi;exact⟨cv,by rw[Nat.zero_add];exact h1,h2.ba E ZJ⟩
 ·intro st pend n env ps asg body hg';rw[ah,Vh rfl]at hg';cases hg'
 ·intro es hg';rw[ah,Vh rfl]at hg';cases hg'
 ·intro hg';rw[ah,Vh rfl]at hg';cases hg'
 ·intro j b' base' n' base'' n'' hj h1 h2;rw[aD.eI]at h1;simp only[Option.some.injEq,Prod.mk.injEq]at h1;have:=R.lt j _ _ _ h2;omega
 ·exact fun x _=>⟨_,by rw[ah,Vh rfl]⟩
 ·intro b' base'' n' h1;rw[aD.eI]at h1;simp only[Option.some.injEq,Prod.mk.injEq]at h1;simp;omega
 ·exact fun _ _=>R.A id _ hg
def uy (Γ:aD)(H:ZK)(w:World)(n:Nat):ZV Γ H w Γ H { w with drawn:=n } :=
 ⟨rfl,rfl,rfl,ZJ,fun _ _ h=>⟨rfl,h⟩,fun _ _ _ x' h=>⟨x',h,ZR.le_refl _ _ _⟩,fun _ _=>rfl,.refl _,.refl _ _⟩
def ZT.drew (R:ZT P G Γ H w)(n:Nat):ZT P G Γ H { w with drawn:=n } :=
 R.po (id:=H.A) (uy Γ H w n) ZJ (fun _ _=>rfl) (fun _ _=>rfl) (fun _ _ _ _ _ _=>rfl)
  (fun g e cells h=>absurd (R.A _ _ h) (Yd _)) (fun st pend n env ps asg body h=>absurd (R.A _ _ h) (Yd _)) (fun es h=>absurd (R.A _ _ h) (Yd _))
  (fun h=>absurd (R.A _ _ h) (Yd _))
  (fun j b base n base' n' hj h1 h2=>by obtain⟨y,hy⟩:=R.nE _ _ h1;exact absurd (R.A _ _ hy) (Yd _))
  (fun x hx=>R.nE _ x hx) (fun b base n hx=>R.lt _ b base n hx) (fun y hy=>R.A _ y hy)
def G3 (R:ZT P G Γ H w)(h:H.lay id (.mp [])=some H'):
  ZV Γ H w (Γ.upd id (some (w.heap.size,0,0))) H' (w.alloc (iq []))/\H.A<=H'.A/\ZT P G (Γ.upd id (some (w.heap.size,0,0))) H' (w.alloc (iq [])):=by
 obtain⟨f1,f2,f3,f4⟩:=nN R h;obtain⟨hget,hor⟩:=ke h;have E:ZV Γ H w (Γ.upd id (some (w.heap.size,0,0))) H' (w.alloc (iq [])):=by
  refine⟨rfl,rfl,rfl,ZG,fun b hb ho=>⟨qG hb,?_⟩,fun j hj hj' x' hx'=>?_,?_,uw rfl,xO⟩
  ·rintro⟨j,base,n,hj⟩;by_cases hji:j=id
   ·rw[hji,aD.eI]at hj;simp only[Option.some.injEq,Prod.mk.injEq]at hj;omega
   ·rw[aD.jo _ _ _ hji]at hj;exact ho ⟨j,base,n,hj⟩
  ·rw[hget]at hx';by_cases hji:j=id
   ·subst hji;rcases f2 with f2|f2
    ·rcases hor with ⟨h1,h2⟩|h2
     ·omega
     ·rw[f2]at h2;cases h2.1
    ·exact⟨.nq,f2,trivial⟩
   ·rw[Vg hji]at hx';exact⟨x',hx',ZR.ux (aD.jo _ _ _ hji) _⟩
  ·exact fun a _=>qE rfl (fun _ _ _ h=>by cases h) a
 refine⟨E,f3,R.po (id:=id) E f3 (fun j hj=>by rw[hget,Vg hj]) (fun j hj=>aD.jo _ _ _ hj)
  (fun j b base n hj hg=>qG (R.lt j b base n hg)) ?_ ?_ ?_ ?_ ?_ ?_ ?_ ?_⟩
 ·intro g e' cells' hg;rw[hget,Vh rfl]at hg;cases hg
 ·intro st pend n env ps asg body hg;rw[hget,Vh rfl]at hg;cases hg
 ·intro es hg;rw[hget,Vh rfl]at hg;cases hg;exact⟨w.heap.size,aD.eI _ _ _,by rw[heap_alloc,Vh rfl]⟩
 ·intro hg;rw[hget,Vh rfl]at hg;cases hg
 ·intro j b base n base' n' hj h1 h2;rw[aD.eI]at h1;simp only[Option.some.injEq,Prod.mk.injEq]at h1;have:=R.lt j b base' n' h2;omega
 ·exact fun x _=>⟨_,by rw[hget,Vh rfl]⟩
 ·intro b base n h1;rw[aD.eI]at h1;simp only[Option.some.injEq,Prod.mk.injEq]at h1;simp;omega
 ·exact fun _ _=>f4
def uz {es:List (Int × Int)}(es':List (Int × Int))(R:ZT P G Γ H w)(hg:H.get id=some (.mp es))(hΓ:Γ id=some (b,0,0))(hb:w.heap[b]?=some (iq es)):
  ZV Γ H w Γ (H.upd id (.mp es')) (bH w b (iq es'))/\ZT P G Γ (H.upd id (.mp es')) (bH w b (iq es')):=by
 have hblk:=R.lt id b 0 0 hΓ;have E:ZV Γ H w Γ (H.upd id (.mp es')) (bH w b (iq es')):=by
  refine⟨rfl,rfl,rfl,by rw[j8];exact Nat.le_refl _,fun b' hb ho=>⟨?_,ho⟩,fun j hj hj' x' hx'=>?_,?_,xL hb fun _ _ _ h=>(by cases h),.refl _ _⟩
  ·rw[eO,Vg];rintro⟨rfl,_⟩;exact ho ⟨id,0,0,hΓ⟩
  ·rw[ah]at hx';by_cases hji:j=id
   ·subst hji;rw[Vh rfl]at hx';cases hx';exact⟨_,hg,rfl⟩
   ·rw[Vg hji]at hx';exact⟨x',hx',ZR.le_refl _ _ _⟩
  ·exact fun a _=>sB hb (fun _ _ _ h=>by cases h) (fun _ _ _ h=>by cases h) a
 refine⟨E,R.po (id:=id) E ZJ (fun j hj=>by rw[ah,Vg hj]) (fun j hj=>rfl)
  (fun j b' base' n' hj hg'=>?_) ?_ ?_ ?_ ?_ ?_ ?_ ?_ ?_⟩
 ·rw[eO,Vg];rintro⟨rfl,_⟩;exact hj (R.inj j id b' base' n' 0 0 hg' hΓ)
 ·intro g' e' cells'' hg';rw[ah,Vh rfl]at hg';cases hg'
 ·intro st pend n env ps asg body hg';rw[ah,Vh rfl]at hg';cases hg'
 ·intro es2 hg';rw[ah,Vh rfl]at hg';cases hg';exact⟨b,hΓ,by rw[eO,Vh ⟨rfl,hblk⟩]⟩
 ·intro hg';rw[ah,Vh rfl]at hg';cases hg'
 ·intro j b' base' n' base'' n'' hj h1 h2;rw[hΓ]at h1;simp only[Option.some.injEq,Prod.mk.injEq]at h1;obtain⟨rfl,rfl,rfl⟩:=h1;exact hj (R.inj j id _ _ _ _ _ h2 hΓ)
 ·exact fun x _=>⟨_,by rw[ah,Vh rfl]⟩
 ·intro b' base' n' h1;rw[j8];exact R.lt id b' base' n' h1
 ·exact fun _ _=>R.A id _ hg
end Go.Hx
namespace Go.Hx
def ar (G:Nat->Option (List ZL))(ρ:Env):Operand->ZL
 |.tmp t=>ρ t
 |.const v=>.lit v
 |.global g=>match G g with|some cells=>.ni cells 0|none=>.lit (.pointer (some ⟨g,0,none⟩))
 |.func f=>.X f [] []
def bQ (P:Program)(t:TypeId):Option (List ZL) :=
 match P.info? t with
 |some i=>match i.zero with
  |some z=>if z.cells.size=i.size then some (z.cells.toList.map .lit) else none
  |none=>none
 |none=>none
def kf (P:Program)(t:TypeId)(n:Nat):Option (List ZL):=(bQ P t).map fun z=>(List.replicate n z).flatten
def iZ (P:Program)(t:TypeId):Option (List (Nat × Nat)) :=
 match P.underlying t with
 |some (.struct fs)=>if fs.toList.all fun f=>(P.info? f.type).isSome then some (fs.toList.map fun f=>(f.offset,P.cellsOf f.type)) else none
 |_=>none
def bJ (P:Program)(t:TypeId)(i:Nat):Option (Nat × TypeId) :=
 match P.underlying t with
 |some (.struct fs)=>match fs[i]? with
  |some f=>if (P.info? f.type).isSome/\P.cellsOf f.type≠0 then some (f.offset,f.type) else none
  |none=>none
 |_=>none
def ZK.na (H:ZK)(id gen:Nat):Option (TypeId × List ZL) :=
 match H.get id with
 |some (.J g e cells)=>if g=gen then some (e,cells) else none
 |_=>none
def cz:Option ZL->Nat->Nat->Option Nat
 |none,d,_=>some d
 |some (.lit (.int _ i)),_,m=>if 0<=i/\i<=(m:Int) then some i.toNat else none
 |_,_,_=>none
def nO (P:Program)(H:ZK)(t:TypeId)(x:ZL)(i:Int):Option ZL :=
 match P.underlying t with
 |some (.array n e) =>
  if 0<=i/\i<(n:Int)/\(P.underlying e).isSome then
   match x with
   |.O id gen off=>(H.na id gen).map fun _=>.O id gen (off+i.toNat*P.cellsOf e)
   |.ni cells off=>some (.ni cells (off+i.toNat*P.cellsOf e))
   |_=>none
  else none
 |some (.slice e) =>
  if (P.underlying e).isSome then
   match x with
   |.U id gen off len sz=>if 0<=i/\i<(len:Int)/\sz=P.cellsOf e then (H.na id gen).map fun _=>.O id gen (off+i.toNat*P.cellsOf e) else none
   |.Q len cells=>if 0<=i/\i<(len:Int)/\cells≠[] then some (.ni cells (i.toNat*P.cellsOf e)) else none
   |_=>none
  else none
 |_=>none
def nP (P:Program)(H:ZK)(t:TypeId)(x:ZL)(lo hi:Option ZL):Option ZL :=
 match P.underlying t with
 |some (.array n e) =>
  if (P.underlying e).isSome then
   match x with
   |.O id gen off =>
    match H.na id gen with
    |some (_,cells) =>
     if off+n*P.cellsOf e<=cells.length then
      (cz hi n n).bind fun h=>(cz lo 0 h).map fun l=>.U id gen (off+l*P.cellsOf e) (h-l) (P.cellsOf e)
     else none
    |none=>none
   | .ni cells off=>if off+n*P.cellsOf e≤cells.length then
      (cz hi n n).bind fun h=>(cz lo 0 h).map fun l=>.Q (h-l) ((cells.drop (off+l*P.cellsOf e)).take ((h-l)*P.cellsOf e))
     else none
   |_=>none
  else none
 |some (.slice e) =>
  if (P.underlying e).isSome then
   match x with
   |.U id gen off len sz=>if sz=P.cellsOf e then (H.na id gen).bind fun _=>(cz hi len len).bind fun h=>(cz lo 0 h).map fun l=>.U id gen (off+l*sz) (h-l) sz else none
   |.Q len cells=>if cells.length=len*P.cellsOf e then (cz hi len len).bind fun h=>(cz lo 0 h).map fun l=>.Q (h-l) ((cells.drop (l*P.cellsOf e)).take ((h-l)*P.cellsOf e)) else none
   |.lit (.slice none 0 0)=>(cz hi 0 0).bind fun h=>(cz lo 0 h).map fun _=>.lit (.slice none 0 0)
   |_=>none
  else none
 |some .string =>
  match x with
  |.lit (.string s)=>(cz hi s.size s.size).bind fun h=>(cz lo 0 h).map fun l=>.lit (.string (s.extract l h))
  |_=>none
 |_=>none
def dc (H:ZK)(sz:Nat):ZL->Option (Nat × List ZL)
 |.Q len cells=>if cells.length=len*sz then some (len,cells) else none
 |.U id gen off len sz'=>if sz'=sz then (H.na id gen).map fun x=>(len,(x.2.drop off).take (len*sz)) else none
 |.lit (.slice none 0 0)=>some (0,[])
 |_=>none
def bS (P:Program)(H:ZK)(id:Nat)(at0 at1:TypeId)(s x:ZL):Option (ZL × ZK) :=
 match P.underlying at0 with
 |some (.slice e) =>
  match P.underlying at1 with
  |some (.slice _) =>
   (bQ P e).bind fun _ =>
   (dc H (P.cellsOf e) x).bind fun nx =>
    match s with
    |.lit (.slice none 0 0) =>
     if nx.1=0 then some (s,H)
     else if nx.1*P.bytesOf e<=2 ^ 47/\nx.1<=2 ^ 47 then (H.lay id (.J 0 e nx.2)).map fun H'=>(.U id 0 0 nx.1 (P.cellsOf e),H')
     else none
    |.U id' gen off len sz =>
     (H.na id' gen).bind fun ec =>
      if ec.1=e/\sz=P.cellsOf e/\off+len*sz=ec.2.length/\(len+nx.1)*P.bytesOf e<=2 ^ 47/\len+nx.1<=2 ^ 47/\nx.2.all ZL.one=true then
       if nx.1=0 then some (s,H)
       else some (.U id' (gen+1) 0 (len+nx.1) sz,H.upd id' (.J (gen+1) e (ec.2.drop off++nx.2)))
      else none
    |_=>none
  |_=>none
 |_=>none
def lS (P:Program)(H:ZK)(at0:TypeId)(d x:ZL):Option (ZL × ZK) :=
 match P.underlying at0 with
 |some (.slice e) =>
  if (P.underlying e).isSome then
   (dc H (P.cellsOf e) x).bind fun nx =>
    match d with
    |.U id gen off len sz =>
     (H.na id gen).bind fun ec =>
      if sz=P.cellsOf e/\off+len*sz<=ec.2.length/\nx.2.all ZL.one=true then
       some (.lit (.int .i64 (min nx.1 len:Nat)),H.upd id (.J gen ec.1 (setAt ec.2 off (nx.2.take (min nx.1 len*sz)))))
      else none
    |_=>none
  else none
 |_=>none
def nS (P:Program)(H:ZK)(t:TypeId)(x:ZL):Option ZL :=
 match P.underlying t with
 |some (.slice _) =>
  match x with
  |.Q len _=>some (.lit (.int .i64 len))
  |.U id gen _ len _=>(H.na id gen).map fun _=>.lit (.int .i64 len)
  |.lit (.slice none 0 0)=>some (.lit (.int .i64 0))
  |_=>none
 |some .string =>
  match x with
  |.lit (.string s)=>some (.lit (.int .i64 s.size))
  |_=>none
 |some (.array n _)=>some (.lit (.int .i64 n))
 |_=>none
def sE (P:Program)(t:TypeId):Bool:=match P.underlying t with
 |some (.map kt et)=>(match P.underlying kt with|some (.int .i64)=>true|_=>false) && (match (P.info? et).bind (·.zero) with|some (.int .i64 0)=>true|_=>false)
 |_=>false
def jI (k:Int):Nat->List (Int × Int)->Option (Nat × Int)
 |_,[]=>none
 |i,(a,v) :: l=>if k=a then some (i,v) else jI k (i+1) l
def xQ (es:List (Int × Int))(k v:Int):List (Int × Int):=match jI k 0 es with
 |some (i,_)=>es.set i (k,v)
 |none=>es++[(k,v)]
def xR (es:List (Int × Int))(i:Nat)(v:Int):List (Int × Int):=match es[i]? with
 |some (k,_)=>es.set i (k,v)
 |none=>es
def uA (ok:Bool)(r:Option (Nat × Int)):ZL:=match r with
 |some (_,v)=>if ok then .nc [.lit (.int .i64 v),.lit (.bool true)] else .lit (.int .i64 v)
 |none=>if ok then .nc [.lit (.int .i64 0),.lit (.bool false)] else .lit (.int .i64 0)
def qH (P:Program)(H:ZK)(t:TypeId)(x i:ZL)(ok:Bool):Option ZL:=if sE P t=true then
  match x,i with
  |.lit (.map none),.lit (.int .i64 _)=>some (uA ok none)
  |.nk id,.lit (.int .i64 k)=>match H.get id with
   |some (.mp es)=>some (uA ok (jI k 0 es))
   |_=>none
  |_,_=>none
 else none
def mG (P:Program)(H:ZK)(t:TypeId)(m k x:ZL):Option (ZL × ZK):=if sE P t=true then
  match m,k,x with
  |.nk id,.lit (.int .i64 k),.lit (.int .i64 v)=>match H.get id with
   |some (.mp es)=>some (.lit undef,H.upd id (.mp (xQ es k v)))
   |_=>none
  |_,_,_=>none
 else none
def pq (P:Program)(H:ZK)(t:TypeId)(m k:ZL):Option (ZL × ZK):=if sE P t=true then
  match m,k with
  |.nk id,.lit (.int .i64 k)=>match H.get id with
   |some (.mp es)=>match jI k 0 es with
    |some (i,v)=>some (.nc [.lit (.int .i64 v),.lit (.int .i64 i)],H.upd id (.mp es))
    |none=>some (.nc [.lit (.int .i64 0),.lit (.int .i64 es.length)],H.upd id (.mp (es++[(k,0)])))
   |_=>none
  |_,_=>none
 else none
def qI (H:ZK)(m s x:ZL):Option (ZL × ZK) :=
 match m,s,x with
 |.nk id,.lit (.int .i64 s),.lit (.int .i64 v)=>match H.get id with
  |some (.mp es)=>if 0<=s/\s<es.length then some (.lit undef,H.upd id (.mp (xR es s.toNat v))) else none
  |_=>none
 |_,_,_=>none
def jq (P:Program)(H:ZK)(at0:TypeId)(d:ZL):Option (ZL × ZK) :=
 match P.underlying at0 with
 |some (.slice e) =>
  match d with
  |.lit (.slice none 0 0)=>some (.nc [],H)
  |.U id gen off len sz =>
   (H.na id gen).bind fun ec =>
    if len=0 then some (.nc [],H)
    else (kf P e len).bind fun z =>
     if z.length=len*sz/\off+len*sz<=ec.2.length/\z.all ZL.one=true then some (.nc [],H.upd id (.J gen ec.1 (setAt ec.2 off z)))
     else none
  |_=>none
 |_=>none
def qJ:List ZL->Option (List Value)
 | []=>some []
 |v :: r=>(v.cU).bind fun x=>(qJ r).map (x :: ·)
def gT (P:Program)(H:ZK)(id:Nat)(b:Builtin)(ats:List TypeId)(args:List ZL):Option (ZL × ZK) :=
 match b,ats,args with
 |.len,[t],[x]=>(nS P H t x).map fun v=>(v,H)
 |.append,[t,u],[s,x]=>bS P H id t u s x
 |.copy,[t,_],[d,x]=>lS P H t d x
 |.clear,[t],[d]=>jq P H t d
 |.min,_,args=>(qJ args).bind fun vs=>(aP P (Builtin.min_ #[] 0 vs.toArray)).map fun v=>(.lit v,H)
 |.max,_,args=>(qJ args).bind fun vs=>(aP P (Builtin.max_ #[] 0 vs.toArray)).map fun v=>(.lit v,H)
 |_,_,_=>none
def mH (P:Program)(H:ZK)(id:Nat)(t:TypeId)(l c:ZL):Option (ZL × ZK) :=
 match P.underlying t,l,c with
 |some (.slice e),.lit (.int _ l),.lit (.int _ c) =>
  if 0<=l/\l<=c/\c*P.bytesOf e<=2 ^ 46/\c<=2 ^ 46 then
   (kf P e l.toNat).bind fun cells=>(H.lay id (.J 0 e cells)).map fun H'=>(.U id 0 0 l.toNat (P.cellsOf e),H')
  else none
 |_,_,_=>none
def sF (P:Program)(t:TypeId)(parts:List (Nat × ZL)):Option ZL :=
 (bQ P t).bind fun z =>
  match P.underlying t with
  |some (.struct _)=>(iZ P t).bind fun pl=>(fR (fun i=>pl[i]?) z parts).map .agg
  |some (.array _ e)=>if (P.underlying e).isSome then (fR (fun i=>some (i*P.cellsOf e,P.cellsOf e)) z parts).map .agg else none
  |_=>none
def nU (P:Program)(H:ZK)(id:Nat)(t:TypeId)(len:Nat)(parts:List (Nat × ZL)):Option (ZL × ZK) :=
 match P.underlying t with
 |some (.slice e) =>
  if len*P.cellsOf e<=2 ^ 24 then
   (kf P e len).bind fun z=>(fR (fun i=>some (i*P.cellsOf e,P.cellsOf e)) z parts).bind fun cells =>
    (H.lay id (.J 0 e cells)).map fun H'=>(.U id 0 0 len (P.cellsOf e),H')
  else none
 |_=>none
def aU (P:Program)(op:BinOp)(t:TypeId)(x y:Operand)(a b:ZL):Option ZL :=
 match a.cU,b.cU with
 |some a,some b=>(aP P (do eqGuard op t x y a b;binOp op t a b)).map .lit
 |_,_=>none
def qK (P:Program)(op:UnOp)(a:ZL):Option ZL :=
 match a.cU with
 |some a=>(aP P (Op.unary op a)).map .lit
 |none=>none
def lU (P:Program)(s d:TypeId)(a:ZL):Option ZL :=
 match a.cU with
 |some a=>(aP P (convert s d a)).map .lit
 |none=>none
def qL:List ZL->Option (List Int)
 | []=>some []
 |.lit (.int .u8 n) :: l=>(qL l).map (n :: ·)
 |_ :: _=>none
def Bg (l:List Int):ByteArray:=l.foldl (fun r n=>r.push (UInt8.ofNat n.toNat)) ByteArray.empty
def Bh (P:Program)(s d:TypeId):Bool:=match P.underlying s,P.underlying d with
 |some (.slice e),some .string=>match P.underlying e with
  |some (.int .u8)=>true
  |_=>false
 |_,_=>false
def nV (P:Program)(H:ZK)(s d:TypeId)(x:ZL):Option ZL :=
 if Bh P s d then (dc H 1 x).bind fun nl=>(qL nl.2).map fun l=>.lit (.string (Bg l)) else none
def lV (P:Program)(H:ZK)(s d:TypeId)(x:ZL):Option ZL:=match x with
 |.U id g o l z=>nV P H s d (.U id g o l z)
 |.Q l c=>nV P H s d (.Q l c)
 |x=>lU P s d x
def lW (H:ZK):ZL->Option ZL
 |.O id gen off=>(H.na id gen).map fun _=>.O id gen off
 |.ni cells off=>some (.ni cells off)
 |.X f a b=>some (.X f a b)
 |_=>none
def pr (P:Program)(t:TypeId)(x:ZL)(i:ZL):Option ZL :=
 match x,i with
 |.agg cells,.lit (.int _ i) =>
  match P.underlying t with
  |some (.array n e)=>if 0<=i/\i<(n:Int) then iY P e cells (i.toNat*P.cellsOf e) else none
  |_=>none
 |.lit v,.lit i=>(aP P (Instr.index t v i)).map .lit
 |_,_=>none
def nW:ZL->Nat->Option ZL
 |.nc vs,i=>vs[i]?
 |.lit (.tuple vs),i=>(vs[i]?).map .lit
 |_,_=>none
def ao (P:Program)(G:Nat->Option (List ZL))(ρ:Env)(H:ZK)(id:Nat)(o:Op):Option (ZL × ZK) :=
 match o with
 |.move x|.assign x=>some (ar G ρ x,H)
 |.pick c a b=>match ar G ρ c with
  |.lit (.bool t)=>some (if t then ar G ρ a else ar G ρ b,H)
  |_=>none
 |.alloc e=>(bQ P e).bind fun z=>(H.lay id (.J 0 e z)).map fun H'=>(.O id 0 0,H')
 |.box e x=>(H.lay id (.J 0 e (ar G ρ x).cells)).map fun H'=>(.O id 0 0,H')
 |.build t parts=>(sF P t (parts.toList.map fun p=>(p.1,ar G ρ p.2))).map fun v=>(v,H)
 |.buildSlice t len parts=>nU P H id t len (parts.toList.map fun p=>(p.1,ar G ρ p.2))
 |.load t a=>(ir P H t (ar G ρ a)).map fun v=>(v,H)
 |.store t a x=>if (P.underlying t).isSome then (j9 P H t (ar G ρ a) (ar G ρ x)).map fun H'=>(.lit undef,H') else none
 |.nilCheck x=>(lW H (ar G ρ x)).map fun v=>(v,H)
 |.binOp op t x y _=>(aU P op t x y (ar G ρ x) (ar G ρ y)).map fun v=>(v,H)
 |.unOp op _ x=>(qK P op (ar G ρ x)).map fun v=>(v,H)
 |.convert s d x=>(lV P H s d (ar G ρ x)).map fun v=>(v,H)
 |.makeInterface t x=>match (ar G ρ x).cU with
  |some v=>(aP P (Instr.makeInterface t v)).map fun r=>(.lit r,H)
  |none=>none
 |.makeFunc fn first captured=>match fn with
  |.func f=>some (.X f (first.toList.map (ar G ρ)) (captured.toList.map (ar G ρ)),H)
  |_=>none
 |.makeSlice t l c=>mH P H id t (ar G ρ l) (ar G ρ c)
 |.slice t x lo hi mx=>match mx with
  |none=>(nP P H t (ar G ρ x) (lo.map (ar G ρ)) (hi.map (ar G ρ))).map fun v=>(v,H)
  |some _=>none
 |.fieldAddr s x f=>(bJ P s f).bind fun of=>match ar G ρ x with
  |.O id gen off=>(H.na id gen).map fun _=>(.O id gen (off+of.1),H)
  |.ni cells off=>some (.ni cells (off+of.1),H)
  |_=>none
 |.field t x f=>(bJ P t f).bind fun of=>match ar G ρ x with
  |.agg cells=>(iY P of.2 cells of.1).map fun v=>(v,H)
  |.lit (.agg cs)=>(iY P of.2 (cs.toList.map .lit) of.1).map fun v=>(v,H)
  |_=>none
 |.indexAddr t x i=>match ar G ρ i with
  |.lit (.int _ i)=>(nO P H t (ar G ρ x) i).map fun v=>(v,H)
  |_=>none
 |.index t x i=>(pr P t (ar G ρ x) (ar G ρ i)).map fun v=>(v,H)
 |.extract t i=>(nW (ar G ρ t) i).map fun v=>(v,H)
 |.makeMap _ r=>match r with
  |none=>(H.lay id (.mp [])).map fun H'=>(.nk id,H')
  |some _=>none
 |.lookup t x i ok=>(qH P H t (ar G ρ x) (ar G ρ i) ok).map fun v=>(v,H)
 |.mapUpdate t m k x|.insert t m k x=>mG P H t (ar G ρ m) (ar G ρ k) (ar G ρ x)
 |.mapEntry t m k=>pq P H t (ar G ρ m) (ar G ρ k)
 |.entryStore _ m s x=>qI H (ar G ρ m) (ar G ρ s) (ar G ρ x)
 |.call c=>match c.callee with
  |.builtin b=>gT P H id b c.argTypes.toList (c.args.toList.map (ar G ρ))
  |_=>none
 |_=>none
end Go.Hx
namespace Go.Hx
variable {P:Program} {G:Nat->Option (List ZL)} {Γ Γ':aD} {H H':ZK} {w w':World}
variable {c:Array Value}{b base gen id n o off:Nat}{e t:TypeId}{ca cv:Value}{a v:ZL}
def jJ {cells:List ZL}(h:H.na id gen=some (e,cells)):H.get id=some (.J gen e cells):=by
 unfold ZK.na at h;split at h
 ·rename_i g e' cells' hg;split at h
  ·rename_i hgg;simp only[Option.some.injEq,Prod.mk.injEq]at h;rw[hg,hgg,h.1,h.2]
  ·cases h
 ·cases h
def nni (P:Program)(Γ:aD)(H:ZK)(w:World)(b o:Nat)(cells:List ZL):Prop :=
 ∃cs:List Value,cs.length=cells.length/\(∀i (h:i<cs.length),w.cell? ⟨b,o+i,none⟩=some cs[i]) /\
  ∀i (_:i<cells.length) (_:i<cs.length),ZO P Γ H w cells[i] cs[i]
def G4 {f:Nat × Nat}{cells:List ZL}(hb:w.heap[b]?=some (.cells c e f))(hle:base+cells.length<=c.size)
  (hrel:∀i (_:i<cells.length),∃cv,c[base+i]?=some cv/\ZO P Γ H w cells[i] cv):nni P Γ H w b base cells:=by
 refine⟨(c.toList.drop base).take cells.length,by simp;omega,fun i hi=>?_,fun i h1 h2=>?_⟩
 ·rw[Be hb];simp only[Vv,V5,Xb]at hi;simp only[XM,XN,Wm];rw[Vq V]
 ·obtain⟨cv,a1,a2⟩:=hrel i h1;simp only[XM,XN,Wm];rw[Vq V]at a1;simp only[Option.some.injEq]at a1;rw[a1];exact a2
theorem nni.drop {cells:List ZL}(h:nni P Γ H w b o cells)(k n:Nat)(hk:k+n<=cells.length):nni P Γ H w b (o+k) ((cells.drop k).take n):=by
 obtain⟨cs,h1,h2,h3⟩:=h;refine⟨(cs.drop k).take n,by simp[h1],fun i hi=>?_,fun i a1 a2=>?_⟩
 ·simp only[Vv,V5]at hi;have:=h2 (k+i) V;simp only[XM,XN];rw[<- this];congr 2;omega
 ·simp only[XM,XN];simp only[Vv,V5]at a1 a2;exact h3 (k+i) V (V)
def uB {cells:List ZL}(hp:iY P t cells off=some v)(hr:nni P Γ H w b o cells):
  ∃cv,(loadVar t ⟨b,o+off,none⟩).run P w=.ok cv w/\ZO P Γ H w v cv:=by
 unfold iY at hp;split at hp
 ·cases hp
 ·rename_i d hd;split at hp
  ·rename_i ha;split at hp
   ·rename_i hle;simp only[Option.some.injEq]at hp;subst hp;obtain⟨cs,h1,h2,h3⟩:=hr.drop off (P.cellsOf t) hle;refine⟨.agg cs.toArray,GM hd ha ?_ h2,.agg h1 h3⟩;rw[h1];simp;omega
   ·cases hp
  ·rename_i ha;obtain⟨cs,h1,h2,h3⟩:=hr;obtain⟨hlt,hv⟩:=VJ.1 hp;subst hv;exact⟨cs[off]' V,GN hd (by simpa using ha) (h2 off V),h3 off hlt V⟩
def qM {cells:List ZL}(h:ZO P Γ H w (.O id gen off) cv)(hl:H.na id gen=some (e,cells)):
  ∃b base n,Γ id=some (b,base,n)/\cv=.pointer (some ⟨b,base+off,none⟩):=by
 cases h with
 |O h=>exact(h.2.2.2 gen e cells (jJ hl)).2 rfl
def kg {len sz:Nat}{cells:List ZL}(h:ZO P Γ H w (.U id gen off len sz) cv)(hl:H.na id gen=some (e,cells)):
  (∃b base n a cap,Γ id=some (b,base,n)/\cv=.slice (some a) len cap/\len<=cap/\off+len*sz<=cells.length /\
   ((a=⟨b,base+off,none⟩/\base+off+cap*sz<=n)\/(len=0/\cap=0))) \/
  (Γ id=none/\off=0/\len=0/\cv=.slice none 0 0):=by
 cases h with
 |U h =>
  have:=(h.2.2.2 gen e cells (jJ hl)).2 rfl;cases hg:Γ id with
  |none=>rw[hg]at this;exact .inr ⟨rfl,this⟩
  |some x =>
   obtain⟨b,base,n⟩:=x;rw[hg]at this;obtain⟨a,cap,h1,h2,h3,h4⟩:=this;exact .inl ⟨b,base,n,a,cap,rfl,h1,h2,h3,h4⟩
def qN (R:ZT P G Γ H w){cells:List ZL}(hl:H.na id gen=some (e,cells))(hΓ:Γ id=some (b,base,n)):
  ∃c,w.heap[b]?=some (.cells c e (0,0))/\c.size=n/\base+cells.length<=n/\∀i (_:i<cells.length),∃cv,c[base+i]?=some cv/\ZO P Γ H w cells[i] cv:=by
 have:=R.J id gen e cells (jJ hl);rw[hΓ]at this;exact this
def sG (R:ZT P G Γ H w){cells:List ZL}(hl:H.na id gen=some (e,cells))(hΓ:Γ id=some (b,base,n)):
  nni P Γ H w b base cells:=by
 obtain⟨c,h1,h2,h3,h4⟩:=qN R hl hΓ;exact G4 h1 V h4
def G5 (R:ZT P G Γ H w)(h:ir P H t a=some v)(ha:ZO P Γ H w a ca):
  ∃cv,(Instr.loadAt t ca).run P w=.ok cv w/\ZO P Γ H w v cv:=by
 unfold ir at h;split at h
 ·rename_i id gen off;split at h
  ·rename_i g e cells hg;split at h
   ·rename_i hgg;have hl:H.na id gen=some (e,cells):=(by simp[ZK.na,hg,hgg]);obtain⟨b,base,n,hΓ,rfl⟩:=qM ha hl;obtain⟨cv,h1,h2⟩:=uB h (sG R hl hΓ);refine⟨cv,?_,h2⟩;unfold Instr.loadAt Instr.sureAddr;exact h1
   ·cases h
  ·cases h
 ·rename_i cells off;cases ha with
  |ni hb hlt hcs hcell hrel =>
   obtain⟨cv,h1,h2⟩:=uB h ⟨_,hcs,hcell,hrel⟩;exact⟨cv,h1,h2⟩
 ·cases h
def uC {cells:List ZL}{cs:List Value}(h:cells.all ZL.one=true)(hl:cs.length=cells.length)
  (hr:∀i (_:i<cells.length) (_:i<cs.length),ZO P Γ H w cells[i] cs[i]):∀v,v∈cs->v.oneCell=true:=by
 intro v hv;obtain⟨i,hi,rfl⟩:=List.getElem_of_mem hv;exact(hr i V hi).one (VG.1 h _ (We V))
def uD {cells vs:List ZL}{cvs:List Value}(hle:off+vs.length<=cells.length)(hc:base+cells.length<=c.size)
  (hl:cvs.length=vs.length) (hrel:∀i (_:i<cells.length),∃cv,c[base+i]?=some cv/\ZO P Γ H w cells[i] cv)
  (hv:∀i (_:i<vs.length) (_:i<cvs.length),ZO P Γ H w vs[i] cvs[i]):
  ∀i (_:i<(setAt cells off vs).length),∃cv,(setRow c (base+off) cvs)[base+i]?=some cv/\ZO P Γ H w (setAt cells off vs)[i] cv:=by
 intro i hi;have hi':=hi;rw[qF hle]at hi';rw[Ba _ _ _ V];have hg:(setAt cells off vs)[i]?=some (setAt cells off vs)[i]:=Vf hi;rw[GR hle]at hg;by_cases h1:off<=i/\i<off+vs.length
 ·rw[Vh h1]at hg;rw[Vh V];have h2:i-off<vs.length:=V
  rw[Vf h2]at hg;simp only[Option.some.injEq]at hg;rw[<- hg];refine⟨cvs[i-off]' V,?_,hv _ h2 V⟩;rw[show base+i-(base+off)=i-off from by omega,Vf V]
 ·rw[Vg h1,Vf hi']at hg;rw[Vg V];simp only[Option.some.injEq]at hg;rw[<- hg];exact hrel i hi'
def G6 (R:ZT P G Γ H w)(h:j9 P H t a v=some H')(ht:∃i,P.info? t=some i)(ha:ZO P Γ H w a ca)(hv:ZO P Γ H w v cv):
  ∃w',(Instr.storeAt t ca cv).run P w=.ok () w'/\ZV Γ H w Γ H' w'/\H.A<=H'.A/\ZT P G Γ H' w':=by
 unfold j9 at h;split at h
 ·rename_i id gen off;split at h
  ·rename_i g e cells hg;split at h
   ·rename_i hgg;obtain⟨hgg,h1,h2,h3⟩:=hgg;simp only[Option.some.injEq]at h;subst h;have hl:H.na id gen=some (e,cells):=(by simp[ZK.na,hg,hgg]);obtain⟨b,base,n,hΓ,rfl⟩:=qM ha hl;obtain⟨c,c1,c2,c3,c4⟩:=qN R hl hΓ;obtain⟨v1,v2⟩:=hv.cells;obtain⟨i,hi⟩:=ht;have hrun:(Instr.storeAt t (.pointer (some ⟨b,base+off,none⟩)) cv).run P w=.ok () (bH w b (.cells (setRow c (base+off) cv.cells.toList) e (0,0))):=by
     unfold Instr.storeAt Instr.sureAddr;rw[aq (Sem.run_pure P w _)];unfold storeVar;rw[aq (run_sizeOf hi)];have:¬(cv.cells.size≠P.cellsOf t):=(by rw[<- h1,<- v1];simp);rw[Vg this];have hrun:=sC (P:=P) cv.cells.toList c (base+off) 0 w c1 V (uC h2 v1 v2);exact hrun
    obtain⟨E,R'⟩:=xP (cells':=setAt cells off v.cells) (c':=setRow c (base+off) cv.cells.toList) R hg hΓ (qF h3) (by rw[size_setRow,c2])
     (uD h3 V v1 c4 v2)
    exact⟨_,hrun,E,ZJ,R'⟩
   ·cases h
  ·cases h
 ·cases h
end Go.Hx
namespace Go.Hx
variable {P:Program} {G:Nat->Option (List ZL)} {Γ Γ':aD} {H H':ZK} {w w':World}
variable {cparts:Array (Nat × Value)}{cs:Array Value}{parts:List (Nat × ZL)}{z:List ZL}{b id n:Nat}{place:Nat->Option (Nat × Nat)}{e t:TypeId}{v:Value}
def dH (P:Program)(Γ:aD)(H:ZK)(w:World)(cells:List ZL)(cs:Array Value):Prop :=
 cs.size=cells.length/\∀i (_:i<cells.length) (h:i<cs.size),ZO P Γ H w cells[i] cs[i]
theorem dH.lit (cs:Array Value):dH P Γ H w (cs.toList.map .lit) cs :=
 ⟨ZG,fun i h1 h2=>by simp only[Vw,Wm];exact .lit _⟩
def dH.get {cells:List ZL}(h:dH P Γ H w cells cs){i:Nat}(hi:i<cells.length):∃cv,cs[i]?=some cv/\ZO P Γ H w cells[i] cv :=
 ⟨cs[i]'(by rw[h.1];exact hi),by rw[Vq],h.2 i hi (by rw[h.1];exact hi)⟩
def qP (h:bQ P t=some z):∃i v,P.info? t=some i/\i.zero=some v/\v.cells.size=i.size/\z=v.cells.toList.map .lit/\P.cellsOf t=i.size:=by
 unfold bQ at h;split at h
 ·rename_i i hi;split at h
  ·rename_i v hv;split at h
   ·rename_i hs;simp only[Option.some.injEq]at h;exact⟨i,v,hi,hv,hs,h.symm,by simp[Program.cellsOf,hi]⟩
   ·cases h
  ·cases h
 ·cases h
def pB {i:TypeInfo}(hi:P.info? t=some i)(hv:i.zero=some v):(zeroValue t).run P w=.ok v w:=by
 unfold zeroValue;rw[aq (run_typeInfo hi)];simp[hv]
def G8:∀(vs:List Value) (cs:Array Value) (off k:Nat),
  (vs.zipIdx k).foldl (fun cs (p:Value × Nat)=>cs.setIfInBounds (off+p.2) p.1) cs=setRow cs (off+k) vs:=by
 intro vs
 induction vs with
 |nil=>intro cs off k;rfl
 |cons v vs ih=>intro cs off k;rw[List.zipIdx_cons,Wk,ih];rfl
def G9 {cells vs:List ZL}{cvs:List Value}{off:Nat}(h:dH P Γ H w cells cs)(hle:off+vs.length<=cells.length)(hl:cvs.length=vs.length)
  (hv:∀i (_:i<vs.length) (_:i<cvs.length),ZO P Γ H w vs[i] cvs[i]):dH P Γ H w (setAt cells off vs) (setRow cs off cvs):=by
 refine⟨by rw[size_setRow,qF hle,h.1],fun i h1 h2=>?_⟩;have:=uD (base:=0) hle (by rw[h.1];omega) hl (fun i hi=>by rw[Nat.zero_add];exact h.get hi) hv i h1;rw[Nat.zero_add,Nat.zero_add]at this;obtain⟨cv,a1,a2⟩:=this;rw[Vq h2]at a1;simp only[Option.some.injEq]at a1;rw[a1];exact a2
def x9 :∀(parts:List (Nat × ZL)) (cparts:List (Nat × Value)) (cells cells':List ZL) (cs:Array Value),
  fR place cells parts=some cells'->dH P Γ H w cells cs->cparts.length=parts.length ->
  (∀i (h1:i<parts.length) (h2:i<cparts.length),parts[i].1=cparts[i].1/\ZO P Γ H w parts[i].2 cparts[i].2) ->
  ∃cs',Instr.fill place cs cparts=some cs'/\dH P Γ H w cells' cs':=by
 intro parts
 induction parts with
 |nil =>
  intro cparts cells cells' cs h hr hl _;simp only[fR,Option.some.injEq]at h;subst h;have:cparts=[]:=by simpa using hl
  subst this;exact⟨cs,rfl,hr⟩
 |cons p parts ih =>
  intro cparts cells cells' cs h hr hl hp;cases cparts with
  |nil=>simp at hl
  |cons cp cparts =>
   obtain⟨i,v⟩:=p;obtain⟨ci,cv⟩:=cp;obtain⟨h0,hv⟩:=hp 0 ZG ZG;simp only[V9]at h0 hv;subst h0;simp only[fR]at h;simp only[Instr.fill];split at h
   ·cases h
   ·rename_i off size hpl;rw[hpl];split at h
    ·rename_i hc;obtain⟨v1,v2⟩:=hv.cells;have hn:(decide (cv.cells.size≠size) ||decide (off+cv.cells.size > cs.size))=false:=by
      have:cv.cells.size=v.cells.length:=(by rw[<- v1];simp);have:=hr.1;simp;omega
     simp only[hn,Bool.false_eq_true,if_false];have hf:cv.cells.zipIdx.foldl (fun cs (p:Value × Nat)=>cs.setIfInBounds (off+p.2) p.1) cs=setRow cs off cv.cells.toList:=by
      have:=G8 cv.cells.toList cs off 0;rw[Nat.add_zero]at this;rw[<- this,<- Array.foldl_toList,Array.toList_zipIdx]
     rw[hf];exact ih cparts _ _ _ h (G9 hr hc.2 v1 v2) (by simpa using hl)
      (fun i h1 h2=>hp (i+1) (by simpa using h1) (by simpa using h2))
    ·cases h
def Hd :∀ {parts:List (Nat × ZL)} {cells cells':List ZL},fR place cells parts=some cells'->cells'.length=cells.length:=by
 intro parts
 induction parts with
 |nil=>intro cells cells' h;simp only[fR,Option.some.injEq]at h;rw[h]
 |cons p parts ih =>
  intro cells cells' h;obtain⟨i,v⟩:=p;simp only[fR]at h;split at h
  ·cases h
  ·split at h
   ·rename_i hc;rw[ih h,qF hc.2]
   ·cases h
def ya {α:Type}(z:List α):∀(n i:Nat) (_:i<n*z.length),(List.replicate n z).flatten[i]?=z[i % z.length]?:=by
 intro n
 induction n with
 |zero=>intro i h;simp at h
 |succ n ih =>
  intro i h;rw[W0,List.flatten_cons];by_cases hi:i<z.length
  ·rw[Vx hi,Xy hi]
  ·rw[VS V,ih (i-z.length) (by rw[YC]at h;omega)];rw[<- Nat.mod_eq_sub_mod V]
def yb (hz:z=v.cells.toList.map .lit):
  dH P Γ H w (List.replicate n z).flatten ((Array.range (n*v.cells.size)).map (v.cells[· % v.cells.size]!)):=by
 have hzl:z.length=v.cells.size:=by rw[hz];simp
 refine⟨by simp[hzl],fun i h1 h2=>?_⟩;have hi:i<n*v.cells.size:=by simpa using h2
 have hpos:0<v.cells.size:=by
  rcases Wo v.cells.size with h|h
  ·rw[h]at hi;simp at hi
  ·exact h
 have hg:=ya z n i (by rw[hzl];exact hi);rw[Vf h1,hzl]at hg;have hm:i % v.cells.size<v.cells.size:=XU _ hpos;have hz2:z[i % v.cells.size]?=some (.lit v.cells[i % v.cells.size]):=by
  rw[hz,List.getElem?_map,Array.getElem?_toList,Vq hm];rfl
 rw[hz2]at hg;simp only[Option.some.injEq]at hg;rw[hg];simp only[XO,Array.getElem_range];rw[getElem!_pos v.cells _ hm];exact .lit _
def Hf {v:ZL}(h:sF P t parts=some v)(hl:cparts.toList.length=parts.length)
  (hp:∀i (h1:i<parts.length) (h2:i<cparts.toList.length),parts[i].1=cparts.toList[i].1/\ZO P Γ H w parts[i].2 cparts.toList[i].2):
  ∃cv,(Instr.build t cparts).run P w=.ok cv w/\ZO P Γ H w v cv:=by
 unfold sF at h;simp only[Vk]at h;obtain⟨z,hz,h⟩:=h;obtain⟨i,zv,hi,hzv,_,hzz,_⟩:=qP hz;unfold Instr.build;rw[aq (pB hi hzv)];have hz0:dH P Γ H w z zv.cells:=hzz ▸ dH.lit _;split at h
 ·rename_i fs hd;simp only[Vk,Ve]at h;obtain⟨pl,hpl,cells,hf,rfl⟩:=h;rw[aq (cO hd)];simp only;unfold iZ at hpl;rw[hd]at hpl;simp only at hpl;split at hpl
  ·rename_i hall;simp only[Option.some.injEq]at hpl;have hplaces:(fs.mapM fun (f:Field)=>(do pure (f.offset,<- sizeOf f.type):Sem (Nat × Nat))).run P w=.ok (fs.map fun f=>(f.offset,P.cellsOf f.type)) w:=by
    rw[Yr];have key:∀(l:List Field),(l.all fun f=>(P.info? f.type).isSome)=true ->
      (l.mapM fun (f:Field)=>(do pure (f.offset,<- sizeOf f.type):Sem (Nat × Nat))).run P w=.ok (l.map fun f=>(f.offset,P.cellsOf f.type)) w:=by
     intro l
     induction l with
     |nil=>intro _;rfl
     |cons f l ih =>
      intro ha;simp only[List.all_cons,VL]at ha;obtain⟨j,hj⟩:=VQ.1 ha.1;rw[List.mapM_cons,aq (a:=(f.offset,P.cellsOf f.type)) (w':=w) (by rw[aq (run_sizeOf hj)];rfl),aq (ih ha.2)];rfl
    rw[Sem.run_map,key _ hall,Result.andThen_ok,<- Y1,YL]
   rw[aq hplaces];obtain⟨cs',hc1,hc2⟩:=x9 parts cparts.toList z cells zv.cells hf hz0 hl hp;have hpe:(fun i:Nat=>(fs.map fun f=>(f.offset,P.cellsOf f.type))[i]?)=fun i=>pl[i]?:=by
    funext i
    rw[<- hpl];simp
   rw[hpe,hc1];exact⟨_,rfl,.agg (by simpa using hc2.1) (fun i h1 h2=>by simpa using hc2.2 i h1 (by simpa using h2))⟩
  ·cases hpl
 ·rename_i n e hd;split at h
  ·rename_i he;simp only[Ve]at h;obtain⟨cells,hf,rfl⟩:=h;obtain⟨d,hde⟩:=VQ.1 he;rw[aq (cO hd)];simp only;rw[aq (jn hde)];obtain⟨cs',hc1,hc2⟩:=x9 parts cparts.toList z cells zv.cells hf hz0 hl hp;rw[hc1];exact⟨_,rfl,.agg (by simpa using hc2.1) (fun i h1 h2=>by simpa using hc2.2 i h1 (by simpa using h2))⟩
  ·cases h
 ·cases h
def yc {cells:List ZL}{len cap sz:Nat}{Γ':aD}(hget:H'.get id=some (.J 0 e cells))(hn:id<H'.A)(hΓ:Γ' id=some (b,0,n))
  (hlen:len<=cap) (hle:len*sz<=cells.length) (hcap:cap*sz<=n):ZO P Γ' H' w' (.U id 0 0 len sz) (.slice (some ⟨b,0,none⟩) len cap):=by
 refine .U ⟨hn,rfl,by rw[hget];simp,fun g e' cells' hg=>?_⟩;rw[hget]at hg;simp only[Option.some.injEq,ZR.J.injEq]at hg;obtain⟨rfl,rfl,rfl⟩:=hg;refine⟨ZJ,fun _=>?_⟩;rw[hΓ];exact⟨⟨b,0,none⟩,cap,rfl,hlen,V,.inl ⟨rfl,V⟩⟩
def Bm {cells:List ZL}{Γ':aD}(hget:H'.get id=some (.J 0 e cells))(hn:id<H'.A)(hΓ:Γ' id=some (b,0,n)):
  ZO P Γ' H' w' (.O id 0 0) (.pointer (some ⟨b,0,none⟩)):=by
 refine .O ⟨hn,rfl,by rw[hget];simp,fun g e' cells' hg=>?_⟩;rw[hget]at hg;simp only[Option.some.injEq,ZR.J.injEq]at hg;obtain⟨rfl,rfl,rfl⟩:=hg;exact⟨ZJ,fun _=>⟨b,0,n,hΓ,ZG⟩⟩
def Hh {len:Nat}{v:ZL}(R:ZT P G Γ H w)(h:nU P H id t len parts=some (v,H'))(hl:cparts.toList.length=parts.length)
  (hp:∀i (h1:i<parts.length) (h2:i<cparts.toList.length),parts[i].1=cparts.toList[i].1/\ZO P Γ H w parts[i].2 cparts.toList[i].2):
  ∃cv Γ' w',(Instr.buildSlice t len cparts).run P w=.ok cv w'/\ZV Γ H w Γ' H' w'/\H.A<=H'.A/\ZT P G Γ' H' w'/\ZO P Γ' H' w' v cv:=by
 unfold nU at h;split at h
 ·rename_i e hd;split at h
  ·rename_i hle;simp only[Vk,Ve,Prod.mk.injEq]at h;obtain⟨zs,hzs,cells,hf,H1,hlay,rfl,rfl⟩:=h;unfold kf at hzs;simp only[Ve]at hzs;obtain⟨z,hz,rfl⟩:=hzs;obtain⟨i,zv,hi,hzv,hsz,hzz,hcells⟩:=qP hz;have hz0:dH P Γ H w (List.replicate len z).flatten ((Array.range (len*zv.cells.size)).map (zv.cells[· % zv.cells.size]!)):=yb hzz;obtain⟨cs',hc1,hc2⟩:=x9 parts cparts.toList _ cells _ hf hz0 hl hp;have hrun:(Instr.buildSlice t len cparts).run P w=.ok (.slice (some ⟨w.heap.size,0,none⟩) len len) (w.alloc (.cells cs' e)):=by
    unfold Instr.buildSlice;rw[aq (cO hd)];simp only;rw[aq (run_sizeOf hi)];rw[Vg V];have hcs:P.cellsOf e=zv.cells.size:=(by rw[hcells,hsz]);rw[hcs];rw[hcs]at hc1;by_cases h0:len*zv.cells.size=0
    ·rw[h0]at hc1;rw[Vh h0];rw[aq (Sem.run_pure P w _)];have he:∀f:Nat->Value,(Array.range 0).map f=#[]:=fun _=>X9 ZG;have he2:∀f:Nat->Value,(Array.range (len*zv.cells.size)).map f=#[]:=fun _=>X9 (by simp[h0]);rw[he]at hc1;rw[he2,hc1];rfl
    ·rw[Vg h0];rw[aq (pB hi hzv),aq (Sem.run_pure P w _),hc1];rfl
   have hlen:len*P.cellsOf e<=cells.length:=by
    have h1:=Hd hf;rw[h1];simp[hzz,hcells,hsz]
   obtain⟨E,hn,R'⟩:=sD (c:=cs') R hlay (by rw[hc2.1];exact Nat.le_refl _) (fun i hi=>hc2.get hi);obtain⟨hget,_⟩:=ke hlay;obtain⟨_,_,_,hid⟩:=nN R hlay;exact⟨_,_,_,hrun,E,hn,R',yc (by rw[hget,Vh rfl]) hid (aD.eI _ _ _) ZJ hlen (by rw[hc2.1];exact hlen)⟩
  ·cases h
 ·cases h
end Go.Hx
namespace Go.Hx
variable {P:Program} {G:Nat->Option (List ZL)} {Γ Γ':aD} {H H':ZK} {w w':World}
variable {id k:Nat}{t:TypeId}{cv:Value}{v:ZL}
def wrap_small {n:Int}(h0:0<=n)(h1:n<=2 ^ 46):IntKind.i64.wrap n=n:=Vd n (V)
def Bp {i:TypeInfo}(h:P.info? t=some i):P.bytesOf t=i.bytes:=by simp[Program.bytesOf,h]
def Hl {l c:ZL}{cl cc:Value}(R:ZT P G Γ H w)(h:mH P H id t l c=some (v,H'))(hl:ZO P Γ H w l cl)(hc:ZO P Γ H w c cc):
  ∃cv Γ' w',(Instr.makeSlice t cl cc).run P w=.ok cv w'/\ZV Γ H w Γ' H' w'/\H.A<=H'.A/\ZT P G Γ' H' w'/\ZO P Γ' H' w' v cv:=by
 unfold mH at h;split at h
 ·rename_i e kl ln kc cn hd;cases hl;cases hc;split at h
  ·rename_i hb;obtain ⟨b1,b2,b3,b4⟩:=hb;simp only [Vk,Ve,Prod.mk.injEq] at h;obtain ⟨zs,hzs,H1,hlay,rfl,rfl⟩:=h;unfold kf at hzs;simp only [Ve] at hzs;obtain ⟨z,hz,rfl⟩:=hzs;obtain ⟨i,zv,hi,hzv,hsz,hzz,hcells⟩:=qP hz;have hcs : P.cellsOf e=zv.cells.size:=(by rw [hcells,hsz]);have hw1:=wrap_small b1 (by omega : ln≤2 ^ 46);have hw2:=wrap_small (by omega : 0≤cn) b4;have hzr : dH P Γ H w (List.replicate cn.toNat z).flatten ((Array.range (cn.toNat*zv.cells.size)).map (zv.cells[· % zv.cells.size]!)):=yb hzz;have hrun : (Instr.makeSlice t (.int kl ln) (.int kc cn)).run P w=.ok (.slice (some ⟨w.heap.size,0,none⟩) ln.toNat cn.toNat)
     (w.alloc (.cells ((Array.range (cn.toNat*zv.cells.size)).map (zv.cells[· % zv.cells.size]!)) e)):=by
    unfold Instr.makeSlice;rw[aq (cO hd)];simp only;have ai:∀(k:IntKind) (n:Int),(asInt (.int k n)).run P w=.ok n w:=fun _ _=>rfl;rw[aq (ai _ _),aq (ai _ _),aq (run_typeInfo hi)];simp only[hw1,hw2];have hbi:=Bp hi;have hmul:(i.bytes:Int)*cn<=2 ^ 46:=(by rw[<- hbi,Wx];exact b3);rw[Vg (by simp;omega)];rw[aq (run_askRoom P w _),aq (run_sizeOf hi)];rw[hcs];by_cases h0:cn.toNat*zv.cells.size=0
    ·rw[Vh h0,aq (Sem.run_pure P w _)];have he2:∀f:Nat->Value,(Array.range (cn.toNat*zv.cells.size)).map f=#[]:=fun _=>X9 (by simp[h0]);rw[he2,he2];rfl
    ·rw[Vg h0,aq (pB hi hzv),aq (Sem.run_pure P w _)];rfl
   have hzl:z.length=zv.cells.size:=(by rw[hzz];simp);have hsize:((Array.range (cn.toNat*zv.cells.size)).map (zv.cells[· % zv.cells.size]!)).size=cn.toNat*zv.cells.size:=ZG;have hle:ln.toNat*zv.cells.size<=cn.toNat*zv.cells.size:=VO _ V;have hlen1:(List.replicate ln.toNat z).flatten.length=ln.toNat*zv.cells.size:=(by simp[hzl]);obtain⟨E,hn,R'⟩:=sD (c:=(Array.range (cn.toNat*zv.cells.size)).map (zv.cells[· % zv.cells.size]!)) R hlay (by rw[hsize,hlen1];exact hle)
    (fun i hi=>by
     rw[hlen1]at hi;have h1:=ya z ln.toNat i (by rw[hzl];exact hi);have h2:=ya z cn.toNat i (by rw[hzl];omega);obtain⟨cv,a1,a2⟩:=hzr.get (i:=i) (by simp[hzl];omega);refine⟨cv,a1,?_⟩;have:(List.replicate ln.toNat z).flatten[i]=(List.replicate cn.toNat z).flatten[i]'(by simp[hzl];omega):=by
      rw[Vf (by rw[hlen1];exact hi)]at h1;rw[Vf (by simp[hzl];omega)]at h2;rw[<- h1]at h2;simpa using h2.symm
     rw[this];exact a2)
   obtain⟨hget,_⟩:=ke hlay;obtain⟨_,_,_,hid⟩:=nN R hlay;refine⟨_,_,_,hrun,E,hn,R',yc (by rw[hget,Vh rfl]) hid (aD.eI _ _ _) V ?_ ?_⟩
   ·rw[hlen1,hcs];exact Nat.le_refl _
   ·rw[hsize,hcs];exact Nat.le_refl _
  ·cases h
 ·cases h
def yd (k:IntKind)(n:Int):(asIntOf (.int k n)).run P w=.ok (k,n) w:=rfl
def Bq {gen off:Nat}{e:TypeId}{cells:List ZL}(h:ZO P Γ H w (.O id gen off) cv)(hl:H.na id gen=some (e,cells)):
  ∃a,cv=.pointer (some a)/\ZO P Γ H w (.O id gen (off+k)) (.pointer (some (a.add k))):=by
 obtain⟨b,base,n,hΓ,rfl⟩:=qM h hl;refine⟨_,rfl,?_⟩;rw[kO];cases h with
 |O h =>
  refine .O ⟨h.1,rfl,h.2.2.1,fun g e' cells' hg=>?_⟩;refine⟨(h.2.2.2 g e' cells' hg).1,fun _=>⟨b,base,n,hΓ,?_⟩⟩;rw[Xg]
def Br {cells:List ZL}{off:Nat}(h:ZO P Γ H w (.ni cells off) cv):
  ∃a,cv=.pointer (some a)/\ZO P Γ H w (.ni cells (off+k)) (.pointer (some (a.add k))):=by
 cases h with
 |ni hb hlt hcs hcell hrel =>
  refine⟨_,rfl,?_⟩;rw[kO,Xg];exact .ni hb hlt hcs hcell hrel
def Hn {x:ZL}{k:IntKind}{i:Int}{cx:Value}(h:nO P H t x i=some v)(hx:ZO P Γ H w x cx):
  ∃cv,(Instr.indexAt t cx (.int k i)).run P w=.ok cv w/\ZO P Γ H w v cv:=by
 unfold nO at h;unfold Instr.indexAt;rw[aq (yd k i)];simp only;split at h
 ·rename_i n e hd;split at h
  ·rename_i hc;obtain ⟨c1,c2,c3⟩:=hc;obtain ⟨d,hde⟩:=VQ.1 c3;rw [aq (cO hd)];simp only;have fin : ∀ a : Addr,((do
      let tiny:=decide (n<=1) && (match <- underlying t with|.array ..=>true|_=>false)
      match (some a:Option Addr) with
      |some a =>
       if 0≤i∧i<(n : Int) then pure (.pointer (some (a.add (i.toNat*(← sizeOf e)))))
              else if tiny then unsupported (.noEntry "op/indexAddr.an index out of range at an array of length 0 or 1 (ledger 616)")
       else boundsPanic k i n .index
      |none=>boundsPanic k i 0 .index):Sem Value).run P w=.ok (.pointer (some (a.add (i.toNat*P.cellsOf e)))) w:=by
    intro a;rw[aq (cO hd)];simp only;rw[Vh ⟨c1,c2⟩,aq (jn hde)];rfl
   split at h
   ·rename_i id gen off;simp only[Ve]at h;obtain⟨ec,hl,rfl⟩:=h;obtain⟨a,rfl,hr⟩:=Bq (k:=i.toNat*P.cellsOf e) hx hl;exact⟨_,fin a,hr⟩
   ·rename_i cells off;simp only[Option.some.injEq]at h;subst h;obtain⟨a,rfl,hr⟩:=Br (k:=i.toNat*P.cellsOf e) hx;exact⟨_,fin a,hr⟩
   ·cases h
  ·cases h
 ·rename_i e hd;split at h
  ·rename_i hc;obtain ⟨d,hde⟩:=VQ.1 hc;rw [aq (cO hd)];have fin : ∀ (a : Addr) (len : Nat),0≤i∧i<(len : Int)→((do
      let tiny:=decide (len<=1) && (match <- underlying t with|.array ..=>true|_=>false)
      match (some a:Option Addr) with
      |some a =>
       if 0≤i∧i<(len : Int) then pure (.pointer (some (a.add (i.toNat*(← sizeOf e)))))
              else if tiny then unsupported (.noEntry "op/indexAddr.an index out of range at an array of length 0 or 1 (ledger 616)")
       else boundsPanic k i len .index
      |none=>boundsPanic k i 0 .index):Sem Value).run P w=.ok (.pointer (some (a.add (i.toNat*P.cellsOf e)))) w:=by
    intro a len hi;rw[aq (cO hd)];simp only;rw[Vh hi,aq (jn hde)];rfl
   split at h
   ·rename_i id gen off len sz;split at h
    ·rename_i hi;simp only[Ve]at h;obtain⟨⟨e',cells⟩,hl,rfl⟩:=h;rcases kg hx hl with ⟨b,base,n,a,cap,hΓ,rfl,h1,h2,h3⟩|⟨_,_,h0,_⟩
     ·have ha:a=⟨b,base+off,none⟩:=by
       rcases h3 with h3|h3
       ·exact h3.1
       ·omega
      subst ha;refine⟨_,fin _ len ⟨hi.1,hi.2.1⟩,?_⟩;rw[kO];cases hx with
      |U hx =>
       refine .O ⟨hx.1,rfl,hx.2.2.1,fun g e'' cells'' hg=>?_⟩;refine⟨(hx.2.2.2 g e'' cells'' hg).1,fun _=>⟨b,base,n,hΓ,?_⟩⟩;rw[Xg]
     ·omega
    ·cases h
   ·rename_i len cells;split at h
    ·rename_i hi;simp only[Option.some.injEq]at h;subst h;cases hx with
     |nu=>exact absurd rfl hi.2.2
     |Q hb hlt hlen hcs hcell hrel =>
      refine⟨_,fin _ len ⟨hi.1,hi.2.1⟩,?_⟩;rw[kO];exact .ni hb hlt hcs hcell hrel
    ·cases h
   ·cases h
  ·cases h
 ·cases h
end Go.Hx
namespace Go.Hx
variable {P:Program} {G:Nat->Option (List ZL)} {Γ Γ':aD} {H H':ZK} {w w':World}
variable {hi lo:Option ZL}{cv:Value}
def qQ (P:Program)(Γ:aD)(H:ZK)(w:World):Option ZL->Option Value->Prop
 |none,none=>True
 |some v,some cv=>ZO P Γ H w v cv
 |_,_=>False
def run_sliceBound {k:IntKind}{i:Int}{y:Nat}{code:BoundsCode}(h:0<=i/\i<=(y:Int)):(Instr.sliceBound (.int k i) y code).run P w=.ok i.toNat w:=by
 unfold Instr.sliceBound;rw[aq (yd k i)];simp only;rw[Vh h];rfl
def Bt {o:Option ZL}{co:Option Value}{d m n:Nat}(h:cz o d m=some n)(hr:qQ P Γ H w o co):
  (o=none/\co=none/\n=d)\/∃k i,co=some (.int k i)/\0<=i/\i<=(m:Int)/\n=i.toNat:=by
 cases o with
 |none =>
  cases co with
  |none=>simp only[cz,Option.some.injEq]at h;exact .inl ⟨rfl,rfl,h.symm⟩
  |some _=>exact hr.elim
 |some v =>
  cases co with
  |none=>exact hr.elim
  |some cv =>
   have hv:ZO P Γ H w v cv:=hr;cases v with
   |lit x =>
    cases x with
    |int k i =>
     cases hv;simp only[cz]at h;split at h
     ·rename_i hi;simp only[Option.some.injEq]at h;exact .inr ⟨k,i,rfl,hi.1,hi.2,h.symm⟩
     ·cases h
    |_=>simp[cz]at h
   |_=>simp[cz]at h
def mL {X nO:Option Value}{s:Bool}{len cap l h:Nat}(hh:cz hi len len=some h)(hl:cz lo 0 h=some l)(hlen:len<=cap)
  (rh:qQ P Γ H w hi nO) (rl:qQ P Γ H w lo X):(Instr.sliceBounds s len cap X nO none).run P w=.ok (l,h,cap) w/\l<=h/\h<=len:=by
 rcases Bt hh rh with ⟨rfl,rfl,rfl⟩|⟨k,i,rfl,i0,i1,rfl⟩<;>rcases Bt hl rl with ⟨rfl,rfl,rfl⟩|⟨k',j,rfl,j0,j1,rfl⟩
 ·exact⟨rfl,V,ZJ⟩
 ·refine⟨?_,V,ZJ⟩;unfold Instr.sliceBounds;simp only[pure_bind];rw[aq (run_sliceBound ⟨j0,j1⟩)];rfl
 ·refine⟨?_,V,V⟩;unfold Instr.sliceBounds;simp only[pure_bind];rw[aq (run_sliceBound ⟨i0,V⟩)];rfl
 ·refine⟨?_,V,V⟩;unfold Instr.sliceBounds;simp only[pure_bind];rw[aq (run_sliceBound ⟨i0,V⟩),aq (run_sliceBound ⟨j0,j1⟩)];rfl
def uE {a b c:Nat}(h:a<=b):a*c<=b*c:=VO _ h
def Hv {id gen off len sz l h:Nat}{e:TypeId}{cells:List ZL}(hx:ZO P Γ H w (.U id gen off len sz) cv)(hl:H.na id gen=some (e,cells))(h1:l<=h)(h2:h<=len):
  (∃a cap,cv=.slice (some a) len cap/\len<=cap/\ZO P Γ H w (.U id gen (off+l*sz) (h-l) sz) (.slice (some (if cap=l then a else a.add (l*sz))) (h-l) (cap-l))) \/
  (cv=.slice none 0 0/\len=0/\ZO P Γ H w (.U id gen (off+l*sz) (h-l) sz) (.slice none 0 0)):=by
 cases hx with
 |U hx =>
  rcases kg (P:=P) (w:=w) (.U hx) hl with ⟨b,base,n,a,cap,hΓ,rfl,c1,c2,c3⟩|⟨hΓ,rfl,rfl,rfl⟩
  ·left;refine⟨a,cap,rfl,c1,.U ⟨hx.1,rfl,hx.2.2.1,fun g e' cells' hg=>?_⟩⟩;refine⟨(hx.2.2.2 g e' cells' hg).1,fun hgg=>?_⟩;rw[jJ hl]at hg;simp only[Option.some.injEq,ZR.J.injEq]at hg;obtain⟨_,rfl,rfl⟩:=hg;rw[hΓ];have e1:l*sz+(h-l)*sz=h*sz:=(by rw[<- VT];congr 1;omega);have e2:h*sz<=len*sz:=uE h2;refine⟨_,_,rfl,V,V,?_⟩;rcases c3 with ⟨rfl,c3⟩|⟨rfl,rfl⟩
   ·by_cases hcl:cap=l
    ·right;omega
    ·left;rw[Vg hcl,kO,Xg];refine⟨rfl,?_⟩;have e3:l*sz+(cap-l)*sz=cap*sz:=(by rw[<- VT];congr 1;omega);omega
   ·right;omega
  ·right;have:l=0:=V;subst this;have:h=0:=V;subst this;refine⟨rfl,rfl,.U ⟨hx.1,rfl,hx.2.2.1,fun g e' cells' hg=>?_⟩⟩;refine⟨(hx.2.2.2 g e' cells' hg).1,fun hgg=>?_⟩;rw[hΓ];simp
def HA {len sz l h:Nat}{cells:List ZL}(hx:ZO P Γ H w (.Q len cells) cv)(hc:cells.length=len*sz)(h1:l<=h)(h2:h<=len):
  ∃a cap,cv=.slice a len cap/\len<=cap/\ZO P Γ H w (.Q (h-l) ((cells.drop (l*sz)).take ((h-l)*sz))) (.slice (if cap=l then a else a.map (·.add (l*sz))) (h-l) (cap-l)):=by
 cases hx with
 |nu a cap =>
  have:h=0:=V
  subst this;have:l=0:=V
  subst this;refine⟨a,cap,rfl,WK _,?_⟩;simp only[Xs,X3,List.take_zero];exact .nu _ _
 | @Q _ _ b off cap cs hb hlt hlen hcs hcell hrel =>
  refine⟨_,_,rfl,hlen,?_⟩;by_cases hhl:h=l
  ·subst hhl;simp only[X3,Xs,List.take_zero];exact .nu _ _
  ·have hcl:cap≠l:=V;have e1:l*sz+(h-l)*sz=h*sz:=(by rw[<- VT];congr 1;omega);have e2:h*sz<=len*sz:=uE h2;rw[Vg hcl,Option.map_some,kO];obtain⟨cs',k1,k2,k3⟩:=nni.drop ⟨cs,hcs,hcell,hrel⟩ (l*sz) ((h-l)*sz) V;exact .Q hb hlt V k1 k2 k3
def HB {t:TypeId}{x v:ZL}{cx:Value}{X nO:Option Value}(R:ZT P G Γ H w)(h:nP P H t x lo hi=some v)(hx:ZO P Γ H w x cx)
  (rl:qQ P Γ H w lo X) (rh:qQ P Γ H w hi nO):∃cv,(Instr.sliceAt t cx X nO none).run P w=.ok cv w/\ZO P Γ H w v cv:=by
 unfold nP at h;unfold Instr.sliceAt;split at h
 ·rename_i n e hd;rw[aq (cO hd)];simp only;split at h
  ·rename_i hc;obtain⟨d,hde⟩:=VQ.1 hc;split at h
   ·rename_i id gen off;split at h
    ·rename_i e' cells hl;split at h
     ·rename_i hle;simp only[Vk,Ve]at h;obtain⟨h',hh,l,hlo,rfl⟩:=h;obtain⟨b,base,nn,hΓ,rfl⟩:=qM hx hl;have sa:(Instr.sureAddr (.pointer (some ⟨b,base+off,none⟩))).run P w=.ok ⟨b,base+off,none⟩ w:=rfl;obtain⟨r1,r2,r3⟩:=mL (s:=false) hh hlo (Nat.le_refl n) rh rl;rw[aq sa,aq r1];simp only;rw[aq (jn hde)];refine⟨_,rfl,?_⟩;cases hx with
      |O hx =>
       refine .U ⟨hx.1,rfl,hx.2.2.1,fun g e'' cells'' hg=>?_⟩;refine⟨(hx.2.2.2 g e'' cells'' hg).1,fun hgg=>?_⟩;rw[jJ hl]at hg;simp only[Option.some.injEq,ZR.J.injEq]at hg;obtain⟨_,rfl,rfl⟩:=hg;rw[hΓ];have e1:l*P.cellsOf e+(h'-l)*P.cellsOf e=h'*P.cellsOf e:=(by rw[<- VT];congr 1;omega);have e2:h'*P.cellsOf e<=n*P.cellsOf e:=uE r3;refine⟨_,_,rfl,V,V,?_⟩;by_cases hnl:n=l
       ·right;omega
       ·left;rw[Vg hnl,kO,Xg];refine⟨rfl,?_⟩;have e3:l*P.cellsOf e+(n-l)*P.cellsOf e=n*P.cellsOf e:=(by rw[<- VT];congr 1;omega);obtain⟨_,_,q2,q3,_⟩:=qN R hl hΓ;omega
     ·cases h
    ·cases h
   ·rename_i cells off;split at h
    ·rename_i hle;simp only[Vk,Ve]at h;obtain⟨h',hh,l,hlo,rfl⟩:=h;cases hx with
     | @ni _ _ b o cs hb hlt hcs hcell hrel =>
      have sa:(Instr.sureAddr (.pointer (some ⟨b,o+off,none⟩))).run P w=.ok ⟨b,o+off,none⟩ w:=rfl;obtain⟨r1,r2,r3⟩:=mL (s:=false) hh hlo (Nat.le_refl n) rh rl;rw[aq sa,aq r1];simp only;rw[aq (jn hde)];refine⟨_,rfl,?_⟩;have e1:l*P.cellsOf e+(h'-l)*P.cellsOf e=h'*P.cellsOf e:=(by rw[<- VT];congr 1;omega);have e2:h'*P.cellsOf e<=n*P.cellsOf e:=uE r3;by_cases hhl:h'=l
      ·subst hhl;simp only[X3,Xs,List.take_zero];exact .nu _ _
      ·rw[Vg V,kO];obtain⟨cs',k1,k2,k3⟩:=nni.drop ⟨cs,hcs,hcell,hrel⟩ (off+l*P.cellsOf e) ((h'-l)*P.cellsOf e) V;rw[show o+off+l*P.cellsOf e=o+(off+l*P.cellsOf e) from by omega];exact .Q hb hlt V k1 k2 k3
    ·cases h
   ·cases h
  ·cases h
 ·rename_i e hd;rw[aq (cO hd)];simp only;unfold Instr.slice;rw[aq (cO hd)];split at h
  ·rename_i hc;obtain⟨d,hde⟩:=VQ.1 hc;split at h
   ·rename_i id gen off len sz;split at h
    ·rename_i hsz;subst hsz;simp only[Vk,Ve]at h;obtain⟨⟨e',cells⟩,hl,h',hh,l,hlo,rfl⟩:=h;obtain⟨_,q1,q2⟩:=mL (s:=true) hh hlo (Nat.le_refl len) rh rl;rcases Hv hx hl q1 q2 with ⟨a,cap,rfl,c1,c2⟩|⟨rfl,rfl,c2⟩
     ·obtain⟨r1,r2,r3⟩:=mL (s:=true) hh hlo c1 rh rl;simp only;rw[aq r1];simp only;rw[aq (jn hde)];refine⟨_,rfl,?_⟩;by_cases hcl:cap=l
      ·rw[Vh hcl]at c2 ⊢;exact c2
      ·rw[Vg hcl]at c2 ⊢;exact c2
     ·obtain⟨r1,r2,r3⟩:=mL (s:=true) hh hlo (Nat.le_refl 0) rh rl;simp only;rw[aq r1];simp only;rw[aq (jn hde)];refine⟨_,rfl,?_⟩;have:l=0:=V;subst this;have:h'=0:=V;subst this;exact c2
    ·cases h
   ·rename_i len cells;split at h
    ·rename_i hcl;simp only[Vk,Ve]at h;obtain⟨h',hh,l,hlo,rfl⟩:=h;obtain⟨_,q1,q2⟩:=mL (s:=true) hh hlo (Nat.le_refl len) rh rl;obtain⟨a,cap,rfl,c1,c2⟩:=HA hx hcl q1 q2;obtain⟨r1,r2,r3⟩:=mL (s:=true) hh hlo c1 rh rl;simp only;rw[aq r1];simp only;rw[aq (jn hde)];exact⟨_,rfl,c2⟩
    ·cases h
   ·simp only[Vk,Ve]at h;obtain⟨h',hh,l,hlo,rfl⟩:=h;cases hx;obtain⟨r1,r2,r3⟩:=mL (s:=true) hh hlo (Nat.le_refl 0) rh rl;simp only;rw[aq r1];simp only;rw[aq (jn hde)];refine⟨_,rfl,?_⟩;have:l=0:=V;subst this;have:h'=0:=V;subst this;exact .lit _
   ·cases h
  ·cases h
 ·rename_i hd;rw[aq (cO hd)];simp only;unfold Instr.slice;rw[aq (cO hd)];split at h
  ·rename_i s;simp only[Vk,Ve]at h;obtain⟨h',hh,l,hlo,rfl⟩:=h;cases hx;obtain⟨r1,r2,r3⟩:=mL (s:=false) hh hlo (Nat.le_refl s.size) rh rl;simp only[Option.isSome_none,Bool.false_eq_true,if_false];rw[aq r1];exact⟨_,rfl,.lit _⟩
  ·cases h
 ·cases h
end Go.Hx
namespace Go.Hx
variable {P:Program} {G:Nat->Option (List ZL)} {Γ Γ':aD} {H H':ZK} {w w':World}
variable {cs:List Value}{cap n:Nat}{base:Option Addr}{at0 at1 ty:TypeId}{cx x:Value}{v:ZL}
def uF {sz:Nat}{x:ZL}{cells:List ZL}(R:ZT P G Γ H w)(h:dc H sz x=some (n,cells))(hx:ZO P Γ H w x cx):
    (Builtin.lenOf cx).run P w=.ok n w/\cells.length=n*sz/\∃cs:List Value,(Builtin.firstCells sz n cx).run P w=.ok cs.toArray w/\cs.length=cells.length /\
      ∀i (_:i<cells.length) (_:i<cs.length),ZO P Γ H w cells[i] cs[i]:=by
  unfold dc at h;split at h
  · rename_i len cells';split at h
    · rename_i hl;simp only[Option.some.injEq,Prod.mk.injEq]at h;obtain⟨rfl,rfl⟩:=h;cases hx with
      |nu a cap =>
        refine⟨rfl,hl,[],?_,rfl,fun i h1 _=>absurd h1 (Vt _)⟩;cases a with
        |none=>rfl
        |some a=>unfold Builtin.firstCells;rw[Xs];rfl
      | @Q _ _ b off cap cs hb hlt hlen hcs hcell hrel =>
        refine⟨rfl,hl,cs,?_,hcs,hrel⟩;unfold Builtin.firstCells;rw[<- hl,<- hcs];exact qD hcell
    · cases h
  · rename_i id gen off len sz';split at h
    · rename_i hsz;subst hsz;simp only[Ve,Prod.mk.injEq]at h;obtain⟨⟨e,cells'⟩,hl,rfl,rfl⟩:=h;rcases kg hx hl with ⟨b,base,nn,a,cap,hΓ,rfl,c1,c2,c3⟩|⟨hΓ,rfl,rfl,rfl⟩
      · refine⟨rfl,by simp only[Vv,V5];omega,?_⟩;rcases c3 with ⟨rfl,c3⟩|⟨rfl,rfl⟩
        · obtain⟨cs,k1,k2,k3⟩:=(sG R hl hΓ).drop off (len*sz') c2;refine⟨cs,?_,k1,k3⟩;unfold Builtin.firstCells;have:len*sz'=cs.length:=(by rw[k1];simp only[Vv,V5];omega);rw[this];exact qD k2
        · refine⟨[],?_,ZG,fun i h1 _=>?_⟩
          · unfold Builtin.firstCells;rw[Xs];rfl
          · simp at h1
      · refine⟨rfl,ZG,[],rfl,ZG,fun i h1 _=>?_⟩;simp at h1
    · cases h
  · simp only[Option.some.injEq,Prod.mk.injEq]at h;obtain⟨rfl,rfl⟩:=h;cases hx;exact⟨rfl,ZG,[],rfl,rfl,fun i h1 _=>absurd h1 (Vt _)⟩
  · cases h
def HC (newLen:Nat):∀(k c:Nat),256<=c->c<newLen->Builtin.growBy newLen k c<=2*newLen:=by
  intro k
  induction k with
  |zero=>intro c _ h;simp only[Builtin.growBy];omega
  |succ k ih =>
    intro c h1 h2;simp only[Builtin.growBy];rw[Vg V];by_cases h3:c+(c+768) / 4<newLen
    · exact ih _ V h3
    · cases k with
      |zero=>simp only[Builtin.growBy];omega
      |succ k=>simp only[Builtin.growBy];rw[Vh V];omega
def nextslicecap_le {need:Nat}(h:cap<need):Builtin.nextslicecap need cap<=2*need:=by
  unfold Builtin.nextslicecap;split
  · omega
  · split
    · omega
    · exact HC _ _ _ V h
def Bu (z:Array Value)(n:Nat):(Builtin.zeroCells z n).size=n*z.size:=by simp[Builtin.zeroCells]
def run_append_fits {e e1:TypeId}{len:Nat}(hd:P.underlying at0=some (.slice e))(hd1:P.underlying at1=some (.slice e1))(he:∃i,P.info? e=some i)
    (hlen:(Builtin.lenOf x).run P w=.ok n w) (hcs:(Builtin.firstCells (P.cellsOf e) n x).run P w=.ok cs.toArray w) (hfit:len+n<=cap)
    (hst:match base with|some a=>(storeCells (a.add (len*P.cellsOf e)) cs).run P w=.ok () w'|none=>w'=w):
    (Builtin.append_ #[at0,at1] ty #[.slice base len cap,x]).run P w=.ok (.slice base (len+n) cap) w':=by
  obtain⟨i,hi⟩:=he;unfold Builtin.append_;simp only[List.getElem?_toArray,List.getElem?_cons_zero,List.getElem?_cons_succ];rw[aq (cO hd)];simp only;rw[aq (run_sizeOf hi)];rw[aq (cO hd1),aq (Sem.run_pure P w _)];simp only[Bool.false_eq_true,if_false,Bool.not_false,if_true];rw[aq hlen];rw[Vh hfit,aq hcs];cases base with
  |none=>subst hst;rfl
  |some a=>rw[aq hst];rfl
def Bv {e e1:TypeId}{len:Nat}{zv:Value}{os:List Value}{i:TypeInfo}(hd:P.underlying at0=some (.slice e))(hd1:P.underlying at1=some (.slice e1))
    (hi:P.info? e=some i) (hz:i.zero=some zv)
    (hlen:(Builtin.lenOf x).run P w=.ok n w) (hcs:(Builtin.firstCells (P.cellsOf e) n x).run P { w with drawn:=w.drawn+1 }=.ok cs.toArray { w with drawn:=w.drawn+1 })
    (hos:(Builtin.firstCells (P.cellsOf e) len (.slice base len cap)).run P { w with drawn:=w.drawn+1 }=.ok os.toArray { w with drawn:=w.drawn+1 })
    (hfit:cap<len+n) (hb:(len+n)*P.bytesOf e<=2 ^ 47) (hn:len+n<=2 ^ 47):
    ∃newCap,len+n<=newCap/\(Builtin.append_ #[at0,at1] ty #[.slice base len cap,x]).run P w =
      .ok (.slice (some ⟨w.heap.size,0,none⟩) (len+n) newCap)
        (({ w with drawn:=w.drawn+1 }:World).alloc (.cells (os.toArray++cs.toArray++Builtin.zeroCells zv.cells (newCap-(len+n))) e)):=by
  refine⟨(Question.appendCap (len+n) cap e).cut (w.tape w.drawn (.appendCap (len+n) cap e)),?_,?_⟩
  · simp only[Question.cut];omega
  · unfold Builtin.append_;simp only [List.getElem?_toArray,List.getElem?_cons_zero,List.getElem?_cons_succ];rw [aq (cO hd)];simp only;rw [aq (run_sizeOf hi)];rw [aq (cO hd1),aq (Sem.run_pure P w _)];simp only [Bool.false_eq_true,if_false,Bool.not_false,if_true];rw [aq hlen];rw [Vg V];rw [aq (run_typeInfo hi)];have hmax : IntKind.i64.max=9223372036854775807:=ZH;rw [Vg (by rw [hmax];omega)];rw [aq (run_typeInfo hi)];have hbi:=Bp hi;have h2:=nextslicecap_le hfit;have h3 : Builtin.nextslicecap (len+n) cap*i.bytes≤2*(len+n)*i.bytes:=VO _ h2;rw [Vg (by rw [hbi] at hb;rw [Xf] at h3;omega)];have hch : (choose (.appendCap (len+n) cap e)).run P w=.ok ((Question.appendCap (len+n) cap e).cut (w.tape w.drawn (.appendCap (len+n) cap e))) { w with drawn:=w.drawn+1 }:=by
      rw[run_choose];rfl
    rw[aq hch,aq (run_typeInfo hi),aq (run_askRoom P _ _),aq hos,aq hcs,aq (pB hi hz)];rfl
def ZO.drew {cv:Value}(h:ZO P Γ H w v cv)(n:Nat):ZO P Γ H { w with drawn:=n } v cv:=h.ba (uy Γ H w n) (Nat.le_refl _)
def Bw {cells:List ZL}{rest:Array Value}(hl:cs.length=cells.length)(hr:∀i (_:i<cells.length) (_:i<cs.length),ZO P Γ H w cells[i] cs[i]):
    ∀i (_:i<cells.length),∃cv,(cs.toArray++rest)[i]?=some cv/\ZO P Γ H w cells[i] cv:=fun i hi =>
  ⟨cs[i]' V,by rw[Yl (by simp;omega)];simp,hr i hi V⟩
def HD {id:Nat}{s x:ZL}{cs:Value}(R:ZT P G Γ H w)(h:bS P H id at0 at1 s x=some (v,H'))(hs:ZO P Γ H w s cs)(hx:ZO P Γ H w x cx):
    ∃cv Γ' w',(Builtin.append_ #[at0,at1] ty #[cs,cx]).run P w=.ok cv w'/\ZV Γ H w Γ' H' w'/\H.A<=H'.A/\ZT P G Γ' H' w'/\ZO P Γ' H' w' v cv:=by
  unfold bS at h;split at h
  · rename_i e hd;split at h
    · rename_i e1 hd1;simp only[Vk]at h;obtain⟨z,hz,⟨n,nc⟩,hsrc,h⟩:=h;obtain⟨i,zv,hi,hzv,hsz,hzz,hcells⟩:=qP hz;obtain⟨hlen,hncl,xs,hxs,hxl,hxr⟩:=uF R hsrc hx;obtain⟨_,_,ys,hsrcd,hyl,hyr⟩:=uF (R.drew (w.drawn+1)) hsrc (hx.drew (w.drawn+1));split at h
      · -- a nil slice
        cases hs;simp only at h;split at h
        · rename_i h0;simp only[Option.some.injEq,Prod.mk.injEq]at h;obtain⟨rfl,rfl⟩:=h;subst h0;exact⟨_,Γ,w,run_append_fits hd hd1 ⟨i,hi⟩ hlen hxs V rfl,ZV.refl _ _ _,ZJ,R,.lit _⟩
        · rename_i h0;split at h
          · rename_i hb;simp only [Ve,Prod.mk.injEq] at h;obtain ⟨H1,hlay,rfl,rfl⟩:=h;obtain ⟨newCap,hc,hrun⟩:=Bv (base:=none) (len:=0) (cap:=0) (os:=[]) (ty:=ty) hd hd1 hi hzv hlen hsrcd rfl V (by rw [Nat.zero_add];exact hb.1) V;rw [Nat.zero_add n] at hc hrun;have R1:=R.drew (w.drawn+1);have harr : ∀ j (_ : j<nc.length),∃ cv,(([] : List Value).toArray++ys.toArray++Builtin.zeroCells zv.cells (newCap - n))[j]?=some cv∧ZO P Γ H { w with drawn:=w.drawn+1 } nc[j] cv:=by
              simp only[Array.empty_append];exact Bw hyl hyr
            have hsize:(([]:List Value).toArray++ys.toArray++Builtin.zeroCells zv.cells (newCap-n)).size=newCap*P.cellsOf e:=by
              simp only[YU,Bu,List.size_toArray,List.length_nil,hyl,hncl];rw[hsz,<- hcells,Nat.zero_add,<- VT];congr 1;omega
            obtain⟨E,hn,R'⟩:=sD R1 hlay (by rw[hsize,hncl];exact VO _ V) harr;obtain⟨hget,_⟩:=ke hlay;obtain⟨_,_,_,hid⟩:=nN R hlay;refine⟨_,_,_,hrun,(uy Γ H w _).trans ZJ E,hn,R',?_⟩;exact yc (by rw[hget,Vh rfl]) hid (aD.eI _ _ _) V (by rw[hncl];exact Nat.le_refl _) (by rw[hsize];exact Nat.le_refl _)
          · cases h
      · rename_i id' gen off len sz;simp only[Vk]at h;obtain⟨⟨e',cells⟩,hl,h⟩:=h;simp only at h;split at h
        · rename_i hc;obtain⟨rfl,rfl,h1,h2,h3,h4⟩:=hc;split at h
          · rename_i h0;simp only [Option.some.injEq,Prod.mk.injEq] at h;obtain ⟨rfl,rfl⟩:=h;subst h0;have hxs0 : xs=[]:=by
              have:xs.length=0:=(by rw[hxl,hncl];simp);simpa using this
            subst hxs0;rcases kg hs hl with ⟨b,base,nn,a,cap,hΓ,rfl,c1,c2,c3⟩|⟨hΓ,rfl,rfl,rfl⟩
            · exact⟨_,Γ,w,run_append_fits hd hd1 ⟨i,hi⟩ hlen hxs V rfl,ZV.refl _ _ _,ZJ,R,hs⟩
            · exact⟨_,Γ,w,run_append_fits hd hd1 ⟨i,hi⟩ hlen hxs V rfl,ZV.refl _ _ _,ZJ,R,hs⟩
          · rename_i h0;simp only[Option.some.injEq,Prod.mk.injEq]at h;obtain⟨rfl,rfl⟩:=h;have hnpos:0<n:=V;have hg:=jJ hl
            -- where a new array is made
            have grows : ∀ (base : Option Addr) (cap : Nat) (os : List Value),(Builtin.firstCells (P.cellsOf e') len (.slice base len cap)).run P { w with drawn:=w.drawn+1 }=.ok os.toArray { w with drawn:=w.drawn+1 } →
                os.length=(cells.drop off).length->(∀j (_:j<(cells.drop off).length) (_:j<os.length),ZO P Γ H { w with drawn:=w.drawn+1 } (cells.drop off)[j] os[j])->cap<len+n ->
                ∃cv Γ' w',(Builtin.append_ #[at0,at1] ty #[.slice base len cap,cx]).run P w=.ok cv w'/\ZV Γ H w Γ' (H.upd id' (.J (gen+1) e' (cells.drop off++nc))) w' /\
                  H.A<=(H.upd id' (.J (gen+1) e' (cells.drop off++nc))).A/\ZT P G Γ' (H.upd id' (.J (gen+1) e' (cells.drop off++nc))) w' /\
                  ZO P Γ' (H.upd id' (.J (gen+1) e' (cells.drop off++nc))) w' (.U id' (gen+1) 0 (len+n) (P.cellsOf e')) cv:=by
              intro base cap os hos hol hor hcap;obtain⟨newCap,hcp,hrun⟩:=Bv (base:=base) (ty:=ty) hd hd1 hi hzv hlen hsrcd hos hcap h2 h3;have R1:=R.drew (w.drawn+1);have hdl:(cells.drop off).length=len*P.cellsOf e':=(by simp only[V5];omega);have hsize:(os.toArray++ys.toArray++Builtin.zeroCells zv.cells (newCap-(len+n))).size=newCap*P.cellsOf e':=by
                simp only[YU,Bu,List.size_toArray,hol,hdl,hyl,hncl];rw[hsz,<- hcells,<- VT,<- VT];congr 1;omega
              have hdn : (cells.drop off++nc).length=(len+n)*P.cellsOf e':=(by rw [List.length_append,hdl,hncl,VT]);have harr : ∀ j (_ : j<(cells.drop off++nc).length),∃ cv,(os.toArray++ys.toArray++Builtin.zeroCells zv.cells (newCap - (len+n)))[j]?=some cv ∧
                  ZO P Γ H { w with drawn:=w.drawn+1 } (cells.drop off++nc)[j] cv:=by
                intro j hj;have:=Bw (P:=P) (Γ:=Γ) (H:=H) (w:={ w with drawn:=w.drawn+1 }) (cells:=cells.drop off++nc) (cs:=os++ys) (rest:=Builtin.zeroCells zv.cells (newCap-(len+n)))
                  (by rw[List.length_append,List.length_append,hol,hyl]) (fun k a b=>?_) j hj
                · simpa using this
                · by_cases hk:k<(cells.drop off).length
                  · rw[Wj hk,Wj V];exact hor k hk (V)
                  · rw[Wt V,Wt V];simp only[hol];exact hyr _ (by simp only[List.length_append]at a;omega) (by simp only[List.length_append]at b;omega)
              obtain⟨E,R'⟩:=G2 R1 hg (by rw[hsize,hdn];exact VO _ hcp) harr;refine⟨_,_,_,hrun,(uy Γ H w _).trans ZJ E,ZJ,R',.U ⟨R.A id' _ hg,rfl,by rw[ah,Vh rfl];simp,fun g'' e'' cells'' hg''=>?_⟩⟩;rw[ah,Vh rfl]at hg'';simp only[Option.some.injEq,ZR.J.injEq]at hg'';obtain⟨rfl,rfl,rfl⟩:=hg'';refine⟨ZJ,fun _=>?_⟩;rw[aD.eI];exact⟨_,_,rfl,hcp,by rw[hdn,Nat.zero_add];exact Nat.le_refl _,.inl ⟨rfl,by rw[hsize,Nat.zero_add];omega⟩⟩
            rcases kg hs hl with ⟨b,base,nn,a,cap,hΓ,rfl,c1,c2,c3⟩|⟨hΓ,rfl,rfl,rfl⟩
            · by_cases hcap:len+n<=cap
              · -- there is room
                have ha:a=⟨b,base+off,none⟩/\base+off+cap*P.cellsOf e'<=nn:=by
                  rcases c3 with c3|c3
                  · exact c3
                  · omega
                obtain⟨rfl,c4⟩:=ha;obtain⟨c,q1,q2,q3,q4⟩:=qN R hl hΓ;have hroom:(len+n)*P.cellsOf e'<=cap*P.cellsOf e':=VO _ hcap;rw[VT]at hroom;have hst:=sC (P:=P) xs c (base+off+len*P.cellsOf e') 0 w q1 (by rw[hxl,hncl];omega) (uC h4 hxl hxr);have hrun:=run_append_fits (ty:=ty) (base:=some ⟨b,base+off,none⟩) hd hd1 ⟨i,hi⟩ hlen hxs hcap (by
                  show (storeCells (Addr.add ⟨b,base+off,none⟩ (len*P.cellsOf e')) xs).run P w=_;rw[kO];exact hst)
                have hdl:(cells.drop off).length=len*P.cellsOf e':=(by simp only[V5];omega);have hdn:(cells.drop off++nc).length=len*P.cellsOf e'+n*P.cellsOf e':=(by rw[List.length_append,hdl,hncl]);have harr:∀j (_:j<(cells.drop off++nc).length),∃cv,(setRow c (base+off+len*P.cellsOf e'+0) xs)[base+off+j]?=some cv/\ZO P Γ H w (cells.drop off++nc)[j] cv:=by
                  intro j hj;rw[Ba _ _ _ (by rw[hxl,hncl];omega)];by_cases hk:j<(cells.drop off).length
                  · rw[Vg V,Wj hk];obtain⟨cv,k1,k2⟩:=q4 (off+j) (by simp only[V5]at hk;omega);refine⟨cv,by rw[Xg];exact k1,?_⟩;simp only[XN];exact k2
                  · rw[Wt V,Vh (by rw[hxl,hncl];omega)];have hj2:j-(cells.drop off).length<nc.length:=(by simp only[List.length_append]at hj;omega);refine⟨xs[j-(cells.drop off).length]' V,?_,hxr _ hj2 V⟩;rw[show base+off+j-(base+off+len*P.cellsOf e'+0)=j-(cells.drop off).length from by omega];exact Vf (V)
                obtain⟨E,R'⟩:=G1 (base':=base+off) R hg hΓ (by rw[size_setRow];exact q2) (by rw[hdn];omega) harr;refine⟨_,_,_,hrun,E,ZJ,R',.U ⟨R.A id' _ hg,rfl,by rw[ah,Vh rfl];simp,fun g'' e'' cells'' hg''=>?_⟩⟩;rw[ah,Vh rfl]at hg'';simp only[Option.some.injEq,ZR.J.injEq]at hg'';obtain⟨rfl,rfl,rfl⟩:=hg'';refine⟨ZJ,fun _=>?_⟩;rw[aD.eI];exact⟨_,_,rfl,hcap,by rw[hdn,Nat.zero_add,VT];exact Nat.le_refl _,.inl ⟨rfl,c4⟩⟩
              · -- there is none
                rcases c3 with ⟨rfl,c3⟩|⟨rfl,rfl⟩
                · obtain⟨os,k1,k2,k3⟩:=(sG (R.drew (w.drawn+1)) hl hΓ).drop off (len*P.cellsOf e') V;have htk:(cells.drop off).take (len*P.cellsOf e')=cells.drop off:=Vi (by simp only[V5];omega);rw[htk]at k1 k3;refine grows _ cap os ?_ k1 k3 V;unfold Builtin.firstCells;have:len*P.cellsOf e'=os.length:=(by rw[k1];simp only[V5];omega);rw[this];exact qD k2
                · refine grows _ 0 [] ?_ (by simp only[List.length_nil,V5];omega) (fun j _ h=>absurd h (Vt _)) V;unfold Builtin.firstCells;rw[Xs];rfl
            · refine grows none 0 [] rfl (by simp only[List.length_nil,V5];omega) (fun j _ h=>absurd h (Vt _)) (V)
        · cases h
      · cases h
    · cases h
  · cases h
end Go.Hx
namespace Go.Hx
variable {P:Program} {G:Nat->Option (List ZL)} {Γ Γ':aD} {H H':ZK} {w w':World}
variable {at0 ty:TypeId}{cd cx:Value}{d v x:ZL}
def HE {t:TypeId}(h:nS P H t x=some v)(hx:ZO P Γ H w x cx):
  ∃cv,(Builtin.len_ #[t] ty #[cx]).run P w=.ok cv w/\ZO P Γ H w v cv:=by
 unfold nS at h;unfold Builtin.len_;simp only[List.getElem?_toArray,List.getElem?_cons_zero];split at h
 ·rename_i e hd;rw[aq (cO hd)];split at h
  ·rename_i len cells;simp only[Option.some.injEq]at h;subst h;cases hx<;>exact⟨_,rfl,.lit _⟩
  ·rename_i id gen off len sz;simp only[Ve]at h;obtain⟨⟨e',cells⟩,hl,rfl⟩:=h;rcases kg hx hl with ⟨b,base,n,a,cap,hΓ,rfl,_⟩|⟨hΓ,rfl,rfl,rfl⟩<;>exact⟨_,rfl,.lit _⟩
  ·simp only[Option.some.injEq]at h;subst h;cases hx;exact⟨_,rfl,.lit _⟩
  ·cases h
 ·rename_i hd;rw[aq (cO hd)];split at h
  ·simp only[Option.some.injEq]at h;subst h;cases hx;exact⟨_,rfl,.lit _⟩
  ·cases h
 ·rename_i n e hd;rw[aq (cO hd)];simp only[Option.some.injEq]at h;subst h;exact⟨_,rfl,.lit _⟩
 ·cases h
def HF {sz n m:Nat}{cells:List ZL}(R:ZT P G Γ H w)(h:dc H sz x=some (n,cells))(hx:ZO P Γ H w x cx)(hm:m<=n):
  ∃cs:List Value,(Builtin.firstCells sz m cx).run P w=.ok cs.toArray w/\cs.length=(cells.take (m*sz)).length /\
   ∀i (_:i<(cells.take (m*sz)).length) (_:i<cs.length),ZO P Γ H w (cells.take (m*sz))[i] cs[i]:=by
 have hms:m*sz<=n*sz:=VO _ hm;unfold dc at h;split at h
 ·rename_i len cells';split at h
  ·rename_i hl;simp only[Option.some.injEq,Prod.mk.injEq]at h;obtain⟨rfl,rfl⟩:=h;cases hx with
   |nu a cap =>
    have:m=0:=V;subst this;refine⟨[],?_,ZG,fun i h1 _=>by simp at h1⟩;cases a with
    |none=>rfl
    |some a=>unfold Builtin.firstCells;rw[Xs];rfl
   | @Q _ _ b off cap cs hb hlt hlen hcs hcell hrel =>
    obtain⟨cs',k1,k2,k3⟩:=nni.drop (k:=0) (n:=m*sz) ⟨cs,hcs,hcell,hrel⟩ V;rw[List.drop_zero]at k1 k3;refine⟨cs',?_,k1,k3⟩;unfold Builtin.firstCells;have:m*sz=cs'.length:=(by rw[k1,Vv];omega);rw[this];exact qD k2
  ·cases h
 ·rename_i id gen off len sz';split at h
  ·rename_i hsz;subst hsz;simp only[Ve,Prod.mk.injEq]at h;obtain⟨⟨e,cells'⟩,hl,rfl,rfl⟩:=h;rcases kg hx hl with ⟨b,base,nn,a,cap,hΓ,rfl,c1,c2,c3⟩|⟨hΓ,rfl,rfl,rfl⟩
   ·rcases c3 with ⟨rfl,c3⟩|⟨rfl,rfl⟩
    ·obtain⟨cs,k1,k2,k3⟩:=(sG R hl hΓ).drop off (m*sz') V;have he:((cells'.drop off).take (len*sz')).take (m*sz')=(cells'.drop off).take (m*sz'):=by
      rw[List.take_take,XJ hms]
     simp only[he];refine⟨cs,?_,k1,k3⟩;unfold Builtin.firstCells;have:m*sz'=cs.length:=(by rw[k1];simp only[Vv,V5];omega);rw[this];exact qD k2
    ·have:m=0:=V;subst this;refine⟨[],?_,ZG,fun i h1 _=>by simp at h1⟩;unfold Builtin.firstCells;rw[Xs];rfl
   ·have:m=0:=V;subst this;exact⟨[],rfl,ZG,fun i h1 _=>by simp at h1⟩
  ·cases h
 ·simp only[Option.some.injEq,Prod.mk.injEq]at h;obtain⟨rfl,rfl⟩:=h;cases hx;have:m=0:=V
  subst this;exact⟨[],rfl,ZG,fun i h1 _=>by simp at h1⟩
 ·cases h
def HG {at1:TypeId}(R:ZT P G Γ H w)(h:lS P H at0 d x=some (v,H'))(hd:ZO P Γ H w d cd)(hx:ZO P Γ H w x cx):
  ∃cv Γ' w',(Builtin.copy_ #[at0,at1] ty #[cd,cx]).run P w=.ok cv w'/\ZV Γ H w Γ' H' w'/\H.A<=H'.A/\ZT P G Γ' H' w'/\ZO P Γ' H' w' v cv:=by
 unfold lS at h;split at h
 ·rename_i e hu;split at h
  ·rename_i he;obtain⟨du,hde⟩:=VQ.1 he;simp only[Vk]at h;obtain⟨⟨n,nc⟩,hsrc,h⟩:=h;obtain⟨hlen,hncl,xs,hxs,hxl,hxr⟩:=uF R hsrc hx;split at h
   ·rename_i id gen off len sz;simp only[Vk]at h;obtain⟨⟨e',cells⟩,hl,h⟩:=h;simp only at h;split at h
    ·rename_i hc;obtain ⟨rfl,h1,h2⟩:=hc;simp only [Option.some.injEq,Prod.mk.injEq] at h;obtain ⟨rfl,rfl⟩:=h;have hmin : min n len*P.cellsOf e≤nc.length:=(by rw [hncl];exact VO _ (Nat.min_le_left _ _));have hmin2 : min n len*P.cellsOf e≤len*P.cellsOf e:=VO _ (Nat.min_le_right _ _)
          -- the first cells of the source
     obtain⟨ys,hys,hyl,hyr⟩:∃ys:List Value,(Builtin.firstCells (P.cellsOf e) (min n len) cx).run P w=.ok ys.toArray w/\ys.length=(nc.take (min n len*P.cellsOf e)).length /\
       ∀i (_:i<(nc.take (min n len*P.cellsOf e)).length) (_:i<ys.length),ZO P Γ H w (nc.take (min n len*P.cellsOf e))[i] ys[i]:=HF R hsrc hx (Nat.min_le_left n len)
     have hall:(nc.take (min n len*P.cellsOf e)).all ZL.one=true:=by
      rw[VG]at h2 ⊢;exact fun v hv=>h2 v (VE hv)
     have htl:(nc.take (min n len*P.cellsOf e)).length=min n len*P.cellsOf e:=(by rw[Vv];omega);rcases kg hd hl with ⟨b,base,nn,a,cap,hΓ,rfl,c1,c2,c3⟩|⟨hΓ,rfl,rfl,rfl⟩
     ·obtain⟨c,q1,q2,q3,q4⟩:=qN R hl hΓ;have hst:(storeCells a ys).run P w=.ok () (bH w b (.cells (setRow c (base+off) ys) e' (0,0))):=by
       rcases c3 with ⟨rfl,c3⟩|⟨rfl,rfl⟩
       ·exact sC (P:=P) ys c (base+off) 0 w q1 (by rw[hyl,htl];omega) (uC hall hyl hyr)
       ·have:ys=[]:=by
         have:ys.length=0:=(by rw[hyl,htl];simp);simpa using this
        subst this;have hsame:bH w b (.cells (setRow c (base+off) []) e' (0,0))=w:=by
         have:=sC (P:=P) [] c (base+off) 0 w q1 (by simp;omega) (fun v h=>by simp at h);simp only[storeCells,Sem.run_pure,Result.ok.injEq,true_and]at this;exact this.symm
        rw[hsame];rfl
      have hrun:(Builtin.copy_ #[at0,at1] ty #[.slice (some a) len cap,cx]).run P w=.ok (.int .i64 (min n len:Nat)) (bH w b (.cells (setRow c (base+off) ys) e' (0,0))):=by
       unfold Builtin.copy_;simp only[List.getElem?_toArray,List.getElem?_cons_zero,List.getElem?_cons_succ];rw[aq (cO hu)];simp only;rw[aq hlen,aq (jn hde)];rw[aq hys,aq hst];rfl
      obtain⟨E,R'⟩:=xP (cells':=setAt cells off (nc.take (min n len*P.cellsOf e))) (c':=setRow c (base+off) ys) R (jJ hl) hΓ (qF (by rw[htl];omega)) (by rw[size_setRow,q2])
       (uD (by rw[htl];omega) V hyl q4 hyr)
      exact⟨_,_,_,hrun,E,ZJ,R',.lit _⟩
     ·have:min n 0=0:=V;rw[this]at hys hyl ⊢;have hys0:ys=[]:=by
       have:ys.length=0:=(by rw[hyl];simp);simpa using this
      subst hys0;have hrun:(Builtin.copy_ #[at0,at1] ty #[.slice none 0 0,cx]).run P w=.ok (.int .i64 (0:Nat)) w:=by
       unfold Builtin.copy_;simp only[List.getElem?_toArray,List.getElem?_cons_zero,List.getElem?_cons_succ];rw[aq (cO hu)];simp only;rw[aq hlen,aq (jn hde)];have:Nat.min n 0=0:=(by show min n 0=0;omega);rw[this,aq hys];rfl
      have hset:H.upd id (.J gen e' (setAt cells 0 (nc.take (0*P.cellsOf e))))=H:=by
       have hs:setAt cells 0 (nc.take (0*P.cellsOf e))=cells:=(by simp[setAt]);rw[hs];have:∀j,(H.upd id (.J gen e' cells)).get j=H.get j:=by
        intro j;rw[ah];by_cases hj:j=id
        ·rw[Vh hj,hj,jJ hl]
        ·rw[Vg hj]
       show ({ get:=(H.upd id (.J gen e' cells)).get,A:=H.A }:ZK)=H;rw[funext this]
      rw[hset];exact⟨_,Γ,w,hrun,ZV.refl _ _ _,ZJ,R,.lit _⟩
    ·cases h
   ·cases h
  ·cases h
 ·cases h
def HH (R:ZT P G Γ H w)(h:jq P H at0 d=some (v,H'))(hd:ZO P Γ H w d cd):
  ∃cv Γ' w',(Builtin.clear_ #[at0] ty #[cd]).run P w=.ok cv w'/\ZV Γ H w Γ' H' w'/\H.A<=H'.A/\ZT P G Γ' H' w'/\ZO P Γ' H' w' v cv:=by
 have tup0:∀(Γ:aD) (H:ZK) (w:World),ZO P Γ H w (.nc []) (.tuple #[]):=fun Γ H w=>ZO.nc (cells:=[]) (cs:=[]) rfl fun i h _=>absurd h (Vt _);unfold jq at h;split at h
 ·rename_i e hu;split at h
  ·simp only[Option.some.injEq,Prod.mk.injEq]at h;obtain⟨rfl,rfl⟩:=h;cases hd;refine⟨.tuple #[],Γ,w,?_,ZV.refl _ _ _,ZJ,R,tup0 _ _ _⟩;unfold Builtin.clear_;simp only[List.getElem?_toArray,List.getElem?_cons_zero];rw[aq (cO hu)];rfl
  ·rename_i id gen off len sz;simp only[Vk]at h;obtain⟨⟨e',cells⟩,hl,h⟩:=h;simp only at h;split at h
   ·rename_i h0;subst h0;simp only[Option.some.injEq,Prod.mk.injEq]at h;obtain⟨rfl,rfl⟩:=h;refine⟨.tuple #[],Γ,w,?_,ZV.refl _ _ _,ZJ,R,tup0 _ _ _⟩;rcases kg hd hl with ⟨b,base,nn,a,cap,hΓ,rfl,c1,c2,c3⟩|⟨hΓ,rfl,_,rfl⟩
    ·unfold Builtin.clear_;simp only[List.getElem?_toArray,List.getElem?_cons_zero];rw[aq (cO hu)];rfl
    ·unfold Builtin.clear_;simp only[List.getElem?_toArray,List.getElem?_cons_zero];rw[aq (cO hu)];rfl
   ·rename_i h0;simp only[Vk]at h;obtain⟨zs,hzs,h⟩:=h;split at h
    ·rename_i hc;obtain⟨h1,h2,h3⟩:=hc;simp only[Option.some.injEq,Prod.mk.injEq]at h;obtain⟨rfl,rfl⟩:=h;unfold kf at hzs;simp only[Ve]at hzs;obtain⟨z,hz,rfl⟩:=hzs;obtain⟨i,zv,hi,hzv,hsz,hzz,hcells⟩:=qP hz;have hzr:dH P Γ H w (List.replicate len z).flatten (Builtin.zeroCells zv.cells len):=yb hzz;have hyl:(Builtin.zeroCells zv.cells len).toList.length=(List.replicate len z).flatten.length:=(by rw[Xb];exact hzr.1);have hyr:∀i (_:i<(List.replicate len z).flatten.length) (_:i<(Builtin.zeroCells zv.cells len).toList.length),ZO P Γ H w (List.replicate len z).flatten[i] (Builtin.zeroCells zv.cells len).toList[i]:=fun i h1 h2=>hzr.2 i h1 (by rw[Xb]at h2;exact h2);rcases kg hd hl with ⟨b,base,nn,a,cap,hΓ,rfl,c1,c2,c3⟩|⟨hΓ,_,h4,_⟩
     ·rcases c3 with ⟨rfl,c3⟩|⟨h4,_⟩
      ·obtain⟨c,q1,q2,q3,q4⟩:=qN R hl hΓ;have hst:(storeCells ⟨b,base+off,none⟩ (Builtin.zeroCells zv.cells len).toList).run P w=.ok () (bH w b (.cells (setRow c (base+off) (Builtin.zeroCells zv.cells len).toList) e' (0,0))) :=
        sC (P:=P) _ c (base+off) 0 w q1 (by rw[hyl,h1];omega) (uC h3 hyl hyr)
       have hrun:(Builtin.clear_ #[at0] ty #[.slice (some ⟨b,base+off,none⟩) len cap]).run P w=.ok (.tuple #[]) (bH w b (.cells (setRow c (base+off) (Builtin.zeroCells zv.cells len).toList) e' (0,0))):=by
        obtain⟨m,rfl⟩:∃m,len=m+1:=⟨len-1,V⟩
        unfold Builtin.clear_;simp only[List.getElem?_toArray,List.getElem?_cons_zero];rw[aq (cO hu)];simp only;rw[aq (pB hi hzv),aq hst];rfl
       obtain⟨E,R'⟩:=xP (cells':=setAt cells off (List.replicate len z).flatten) (c':=setRow c (base+off) (Builtin.zeroCells zv.cells len).toList) R (jJ hl) hΓ (qF (by rw[h1];exact h2)) (by rw[size_setRow,q2])
        (uD (by rw[h1];exact h2) V hyl q4 hyr)
       exact⟨_,_,_,hrun,E,ZJ,R',tup0 _ _ _⟩
      ·exact absurd h4 h0
     ·exact absurd h4 h0
    ·cases h
  ·cases h
 ·cases h
end Go.Hx
namespace Go.Hx
variable {P:Program} {G:Nat->Option (List ZL)} {Γ Γ':aD} {H H':ZK} {w w':World}
variable {k:Int}{es:List (Int × Int)}{b i:Nat}{kt t:TypeId}{ck cm cx:Value}{v:ZL}
def HI (k:Int):∀(es:List (Int × Int)) (j i:Nat),Instr.findNow (.int .i64) (.int .i64 k) (dV j es) i=some ((jI k i es).map fun p=>(p.1,.int .i64 p.2)):=by
 intro es
 induction es with
 |nil=>intro j i;rfl
 |cons e es ih =>
  intro j i;obtain⟨a,v⟩:=e;simp only[dV,Instr.findNow,Instr.sameNow,if_true,jI];by_cases h:k=a
  ·subst h;simp
  ·have:(k == a)=false:=(by simp[h]);rw[this];simp only[Vg h];exact ih (j+1) (i+1)
def HJ:∀(es fs:List (Int × Int)) (j:Nat),dV j (es++fs)=dV j es++dV (j+es.length) fs:=by
 intro es
 induction es with
 |nil=>intro fs j;simp[dV]
 |cons e es ih =>
  intro fs j;obtain⟨a,v⟩:=e;simp only[List.cons_append,dV,ih,List.length_cons];rw[show j+1+es.length=j+(es.length+1) by omega]
def Bx:∀(es:List (Int × Int)) (j i:Nat),(dV j es)[i]?=es[i]?.map fun p=>⟨.int .i64 p.1,.int .i64 p.2,j+i⟩:=by
 intro es
 induction es with
 |nil=>intro j i;simp[dV]
 |cons e es ih =>
  intro j i;obtain⟨a,v⟩:=e;cases i with
  |zero=>simp[dV]
  |succ i =>
   simp only[dV,List.getElem?_cons_succ,ih];rw[show j+1+i=j+(i+1) by omega]
def HK (f:MapEntry->MapEntry):∀(es:List (Int × Int)) (j i:Nat) (k v k' v':Int),es[i]?=some (k,v)->f ⟨.int .i64 k,.int .i64 v,j+i⟩=⟨.int .i64 k',.int .i64 v',j+i⟩->(dV j es).modify i f=dV j (es.set i (k',v')):=by
 intro es
 induction es with
 |nil=>intro j i k v k' v' h _;simp at h
 |cons e es ih =>
  intro j i k v k' v' h hf;obtain⟨a,u⟩:=e;cases i with
  |zero =>
   simp only[List.getElem?_cons_zero,Option.some.injEq,Prod.mk.injEq]at h;obtain⟨rfl,rfl⟩:=h;simp only[Nat.add_zero]at hf;simp[dV,hf]
  |succ i =>
   simp only[List.getElem?_cons_succ]at h;have:=ih (j+1) i k v k' v' h (by rw[show j+1+i=j+(i+1) by omega];exact hf);simp only[dV,List.modify_succ_cons,List.set_cons_succ,this]
def By :∀ {es:List (Int × Int)} {i n:Nat} {v:Int},jI k i es=some (n,v)->i<=n/\es[n-i]?=some (k,v):=by
 intro es
 induction es with
 |nil=>intro i n v h;cases h
 |cons e es ih =>
  intro i n v h;obtain⟨a,u⟩:=e;simp only[jI]at h;by_cases hk:k=a
  ·rw[Vh hk]at h;cases h;subst hk;exact⟨ZJ,ZG⟩
  ·rw[Vg hk]at h;obtain⟨h1,h2⟩:=ih h;refine⟨V,?_⟩;rw[show n-i=(n-(i+1))+1 by omega];exact h2
def HL:∀(es:List (Int × Int)) (j n:Nat),n<es.length->(dV j es).findIdx? (fun e=>(e.born:Int) == ((j+n:Nat):Int))=some n:=by
 intro es
 induction es with
 |nil=>intro j n h;simp at h
 |cons e es ih =>
  intro j n h;obtain⟨a,u⟩:=e;simp only[dV,List.findIdx?_cons];cases n with
  |zero=>simp
  |succ n =>
   have hne:((j:Int) == ((j+(n+1):Nat):Int))=false:=by
    rw[beq_eq_false_iff_ne];omega
   rw[hne];have:=ih (j+1) n (by simpa using h);rw[show j+1+n=j+(n+1) by omega]at this;simp only[Bool.false_eq_true,if_false,this];rfl
def Bz (k v:Int):Obj.map ((dV 0 es).toArray.push ⟨.int .i64 k,.int .i64 v,es.length⟩) (es.length+1)=iq (es++[(k,v)]):=by
 unfold iq;rw[HJ];simp[dV]
def yk {v k' v':Int}(f:MapEntry->MapEntry)(h:es[i]?=some (k,v))(hf:f ⟨.int .i64 k,.int .i64 v,i⟩=⟨.int .i64 k',.int .i64 v',i⟩):
  Obj.map ((dV 0 es).toArray.modify i f) es.length=iq (es.set i (k',v')):=by
 unfold iq;have:=HK f es 0 i k v k' v' h (by simpa using hf);rw[<- this,VF];congr 1;apply Array.ext';simp
def HM {v:Int}(h:es[i]?=some (k,v)):es.set i (k,v)=es:=by
 obtain⟨hi,he⟩:=VJ.1 h;rw[<- he];exact List.set_getElem_self hi
structure IntMap (P:Program)(t:TypeId)(kt et:TypeId):Prop where
 und:P.underlying t=some (.map kt et)
 key:P.underlying kt=some (.int .i64)
 zero:∀w:World,(zeroValue et).run P w=.ok (.int .i64 0) w
def ym (h:sE P t=true):∃kt et,IntMap P t kt et:=by
 unfold sE at h;split at h
 ·rename_i kt et ht;simp only[VL]at h;obtain⟨h1,h2⟩:=h;split at h1
  ·rename_i hk;split at h2
   ·rename_i hz;rw[Vk]at hz;obtain⟨i,hi,hz⟩:=hz;exact⟨kt,et,ht,hk,fun w=>pB hi hz⟩
   ·cases h2
  ·cases h1
 ·cases h
def run_checkKey {e:Bool}(hk:P.underlying kt=some (.int .i64)):(Instr.checkKey e 10000 kt (.int .i64 k)).run P w=.ok () w:=by
 show (Instr.checkKey e (9999+1) kt (.int .i64 k)).run P w=.ok () w;unfold Instr.checkKey;rw[aq (cO hk)];rfl
def run_findKey (hk:P.underlying kt=some (.int .i64)):(Instr.findKey kt (.int .i64 k) (dV 0 es)).run P w=.ok ((jI k 0 es).map fun p=>(p.1,.int .i64 p.2)) w:=by
 unfold Instr.findKey;rw[aq (cO hk),HI];rfl
def BA :(Instr.keyThatStays (.int .i64 k) (.int .i64 k)).run P w=.ok (.int .i64 k) w:=by
 unfold Instr.keyThatStays;have:Instr.sameBits 10000 (.int .i64 k) (.int .i64 k)=true:=by
  show (IntKind.i64 == IntKind.i64 && k == k)=true;simp
 rw[this];rfl
def sO (h:w.heap[b]?=some (iq es)):(getObj b).run P w=.ok (.map (dV 0 es).toArray es.length) w:=by simp[getObj,Sem.run,h,iq]
def sP (o:Obj)(h:w.heap[b]?=some (iq es)):(setObj b o).run P w=.ok () (bH w b o):=by
 have h':w.heap[b]?=some (.map (dV 0 es).toArray es.length):=h;simp[setObj,Sem.run,h',bH]
def uG {id:Nat}{cv:Value}(R:ZT P G Γ H w)(h:ZO P Γ H w (.nk id) cv)(hg:H.get id=some (.mp es)):∃b,Γ id=some (b,0,0)/\cv=.map (some b)/\w.heap[b]?=some (iq es):=by
 cases h with
 |nk h =>
  obtain⟨b,h1,h2⟩:=h.2.2.2.2 es hg;obtain⟨b',h3,h4⟩:=R.mp id es hg;rw[h1]at h3;cases h3;exact⟨b,h1,h2,h4⟩
def BB (ok:Bool)(r:Option (Nat × Int))(v:Value)(b:Bool)(h:(v,b)=match r with|some (_,v)=>(Value.int .i64 v,true)|none=>(Value.int .i64 0,false)):ZO P Γ H w (uA ok r) (if ok=true then .tuple #[v,.bool b] else v):=by
 have two:∀x y:Value,ZO P Γ H w (.nc [.lit x,.lit y]) (.tuple #[x,y]):=fun x y=>ZO.nc (cells:=[.lit x,.lit y]) (cs:=[x,y]) rfl fun i h _=>match i,h with
  |0,_=>.lit _
  |1,_=>.lit _
 cases r with
 |none =>
  simp only[Prod.mk.injEq]at h;obtain⟨rfl,rfl⟩:=h;cases ok
  ·exact .lit _
  ·exact two _ _
 |some p =>
  obtain⟨n,u⟩:=p;simp only[Prod.mk.injEq]at h;obtain⟨rfl,rfl⟩:=h;cases ok
  ·exact .lit _
  ·exact two _ _
def HN {x i:ZL}{ok:Bool}{ci:Value}(R:ZT P G Γ H w)(h:qH P H t x i ok=some v)(hx:ZO P Γ H w x cx)(hi:ZO P Γ H w i ci):
  ∃cv,(Instr.lookup t cx ci ok).run P w=.ok cv w/\ZO P Γ H w v cv:=by
 unfold qH at h;split at h
 ·rename_i hm;obtain⟨kt,et,M⟩:=ym hm;split at h
  ·rename_i k;cases hx;cases hi;cases h;refine⟨_,?_,BB ok none (.int .i64 0) false rfl⟩;unfold Instr.lookup;rw[aq (cO M.und)];simp only;refine(aq (Sem.run_pure P w _)).trans ?_;refine(aq (run_checkKey M.key)).trans ?_;refine(aq (run_findKey (es:=[]) M.key)).trans ?_;refine(aq (M.zero w)).trans ?_;cases ok<;>rfl
  ·rename_i id k;cases hi;split at h
   ·rename_i es hg;cases h;obtain⟨b,hΓ,rfl,hb⟩:=uG R hx hg;have fin:∀(u:Value) (d:Bool),((u,d)=match jI k 0 es with|some (_,v)=>(Value.int .i64 v,true)|none=>(Value.int .i64 0,false))->∃cv,(Instr.lookup t (.map (some b)) (.int .i64 k) ok).run P w=.ok cv w/\ZO P Γ H w (uA ok (jI k 0 es)) cv:=by
     intro u d hud;refine⟨_,?_,BB ok _ u d hud⟩;unfold Instr.lookup;rw[aq (cO M.und)];simp only;refine(aq (sO hb)).trans ?_;refine(aq (Sem.run_pure P w _)).trans ?_;refine(aq (run_checkKey M.key)).trans ?_;refine(aq (run_findKey (es:=es) M.key)).trans ?_;cases hf:jI k 0 es with
     |none =>
      rw[hf]at hud;cases hud;refine(aq (M.zero w)).trans ?_;cases ok<;>rfl
     |some p =>
      rw[hf]at hud;cases hud;cases ok<;>rfl
    exact fin _ _ rfl
   ·cases h
  ·cases h
 ·cases h
def BC {m k x:ZL}(R:ZT P G Γ H w)(h:mG P H t m k x=some (v,H'))(hm:ZO P Γ H w m cm)(hk:ZO P Γ H w k ck)(hx:ZO P Γ H w x cx):
  ∃ Γ' w',(Instr.mapUpdate t cm ck cx).run P w=.ok () w'/\ZV Γ H w Γ' H' w'/\H.A<=H'.A/\ZT P G Γ' H' w'/\v=.lit undef:=by
 unfold mG at h;split at h
 ·rename_i him;obtain⟨kt,et,M⟩:=ym him;split at h
  ·rename_i id k u;cases hk;cases hx;split at h
   ·rename_i es hg;simp only[Option.some.injEq,Prod.mk.injEq]at h;obtain⟨rfl,rfl⟩:=h;obtain⟨b,hΓ,rfl,hb⟩:=uG R hm hg;obtain⟨E,R'⟩:=uz (xQ es k u) R hg hΓ hb;refine⟨Γ,_,?_,E,ZJ,R',rfl⟩;unfold Instr.mapUpdate;rw[aq (cO M.und)];simp only;refine(aq (sO hb)).trans ?_;refine(aq (run_checkKey M.key)).trans ?_;refine(aq (run_findKey (es:=es) M.key)).trans ?_;unfold xQ;cases hf:jI k 0 es with
    |none =>
     simp only[Option.map_none];rw[sP _ hb,Bz]
    |some p =>
     obtain⟨n,nf⟩:=p;obtain⟨_,hn⟩:=By hf;simp only[Nat.sub_zero]at hn;have he:(dV 0 es).toArray[n]?=some ⟨.int .i64 k,.int .i64 nf,n⟩:=by
      rw[List.getElem?_toArray,Bx,hn];simp
     simp only[Option.map_some,he,Option.getD_some];refine(aq BA).trans ?_;rw[sP _ hb];rw[yk (k':=k) (v':=u) _ hn rfl]
   ·cases h
  ·cases h
 ·cases h
def HO {m k:ZL}(R:ZT P G Γ H w)(h:pq P H t m k=some (v,H'))(hm:ZO P Γ H w m cm)(hk:ZO P Γ H w k ck):
  ∃cv Γ' w',(Instr.mapEntry t cm ck).run P w=.ok cv w'/\ZV Γ H w Γ' H' w'/\H.A<=H'.A/\ZT P G Γ' H' w'/\ZO P Γ' H' w' v cv:=by
 have two:∀(Γ:aD) (H:ZK) (w:World) (x y:Value),ZO P Γ H w (.nc [.lit x,.lit y]) (.tuple #[x,y]):=fun Γ H w x y=>ZO.nc (cells:=[.lit x,.lit y]) (cs:=[x,y]) rfl fun i h _=>match i,h with
  |0,_=>.lit _
  |1,_=>.lit _
 unfold pq at h;split at h
 ·rename_i him;obtain⟨kt,et,M⟩:=ym him;split at h
  ·rename_i id k;cases hk;split at h
   ·rename_i es hg;obtain⟨b,hΓ,rfl,hb⟩:=uG R hm hg;split at h
    ·rename_i n u hf;simp only[Option.some.injEq,Prod.mk.injEq]at h;obtain⟨rfl,rfl⟩:=h;obtain⟨_,hn⟩:=By hf;simp only[Nat.sub_zero]at hn;have he:(dV 0 es).toArray[n]?=some ⟨.int .i64 k,.int .i64 u,n⟩:=by
      rw[List.getElem?_toArray,Bx,hn];simp
     obtain⟨E,R'⟩:=uz es R hg hΓ hb;refine⟨_,Γ,_,?_,E,ZJ,R',two _ _ _ (.int .i64 u) (.int .i64 n)⟩;unfold Instr.mapEntry;rw[aq (cO M.und)];simp only;refine(aq (sO hb)).trans ?_;refine(aq (run_checkKey M.key)).trans ?_;refine(aq (run_findKey (es:=es) M.key)).trans ?_;rw[hf];simp only[Option.map_some,he,Option.getD_some];refine(aq BA).trans ?_;rw[aq (sP _ hb),yk (k':=k) (v':=u) _ hn rfl,HM hn];rfl
    ·rename_i hf;simp only[Option.some.injEq,Prod.mk.injEq]at h;obtain⟨rfl,rfl⟩:=h;obtain⟨E,R'⟩:=uz (es++[(k,0)]) R hg hΓ hb;refine⟨_,Γ,_,?_,E,ZJ,R',two _ _ _ (.int .i64 0) (.int .i64 es.length)⟩;unfold Instr.mapEntry;rw[aq (cO M.und)];simp only;refine(aq (sO hb)).trans ?_;refine(aq (run_checkKey M.key)).trans ?_;refine(aq (run_findKey (es:=es) M.key)).trans ?_;rw[hf];simp only[Option.map_none];refine(aq (M.zero w)).trans ?_;rw[aq (sP _ hb),Bz];rfl
   ·cases h
  ·cases h
 ·cases h
def HP {m s x:ZL}{cs:Value}(R:ZT P G Γ H w)(h:qI H m s x=some (v,H'))(hm:ZO P Γ H w m cm)(hs:ZO P Γ H w s cs)(hx:ZO P Γ H w x cx):
  ∃ Γ' w',(Instr.entryStore t cm cs cx).run P w=.ok () w'/\ZV Γ H w Γ' H' w'/\H.A<=H'.A/\ZT P G Γ' H' w'/\v=.lit undef:=by
 unfold qI at h;split at h
 ·rename_i id s u;cases hs;cases hx;split at h
  ·rename_i es hg;split at h
   ·rename_i hlt;simp only[Option.some.injEq,Prod.mk.injEq]at h;obtain⟨rfl,rfl⟩:=h;obtain⟨b,hΓ,rfl,hb⟩:=uG R hm hg;obtain⟨n,rfl⟩:=Vm hlt.1;have hn:n<es.length:=V;obtain⟨E,R'⟩:=uz (xR es n u) R hg hΓ hb;refine⟨Γ,_,?_,E,ZJ,R',rfl⟩;unfold Instr.entryStore;simp only;refine(aq (sO hb)).trans ?_;have hi:(asInt (.int .i64 (n:Int))).run P w=.ok (n:Int) w:=rfl;refine(aq hi).trans ?_;have hf:=HL es 0 n hn;simp only[Nat.zero_add]at hf;have hf2:(dV 0 es).toArray.findIdx? (fun e=>(e.born:Int) == (n:Int))=some n:=by
     rw[List.findIdx?_toArray];exact hf
    rw[hf2];simp only;have hg2:es[n]?=some es[n]:=Vf hn;rw[sP _ hb];unfold xR;rw[hg2];simp only;rw[yk (k:=es[n].1) (v:=es[n].2) (k':=es[n].1) (v':=u) _ hg2 rfl]
   ·cases h
  ·cases h
 ·cases h
end Go.Hx
namespace Go.Hx
variable {P:Program} {G:Nat->Option (List ZL)} {Γ Γ':aD} {H H':ZK} {w w':World}
variable {fs:Array Field}{cs:Array Value}{ρ:Env}{fl:Field}{id off:Nat}{f:Operand->Value}{cv cx:Value}{v x:ZL}
def BD {s:Sem Value}(h:s.run P w=.ok cv w'):(do pure (Next.value (<- s)):Sem Next).run P w=.ok (.value cv) w':=by
 rw[aq h];rfl
def uH {s:Sem Unit}(h:s.run P w=.ok () w'):(do s;pure Next.skip:Sem Next).run P w=.ok .skip w':=by
 rw[aq h];rfl
def cP (P:Program)(G:Nat->Option (List ZL))(Γ:aD)(H:ZK)(w:World)(v:ZL)(H':ZK)(s:Sem Next):Prop :=
 ∃nx cv Γ' w',s.run P w=.ok nx w'/\(nx=.value cv\/(nx=.skip/\cv=undef))/\ZV Γ H w Γ' H' w'/\H.A<=H'.A/\ZT P G Γ' H' w'/\ZO P Γ' H' w' v cv
def cP.same {s:Sem Value}(R:ZT P G Γ H w)(h:s.run P w=.ok cv w)(hv:ZO P Γ H w v cv):
  cP P G Γ H w v H (do pure (Next.value (<- s))) :=
 ⟨.value cv,cv,Γ,w,BD h,.inl rfl,ZV.refl _ _ _,ZJ,R,hv⟩
theorem BE:∀ {cells:List ZL} {l:List Int} {cs:List Value},qL cells=some l->cs.length=cells.length->(∀i (_:i<cells.length) (_:i<cs.length),ZO P Γ H w cells[i] cs[i])->cs=l.map (Value.int .u8)
 | [],l,cs,hb,hl,_=>by
  obtain rfl:l=[]:=by simpa[qL] using hb.symm
  exact Vp hl
 |x :: cells,l,[],hb,hl,_=>by simp at hl
 |x :: cells,l,c :: cs,hb,hl,hr=>by
  have h0:=hr 0 ZG ZG;simp only[V9]at h0;unfold qL at hb;split at hb
  ·rename_i hx;cases hx
  ·rename_i n r hx;cases hx;simp only[Ve]at hb;obtain⟨l',hl',rfl⟩:=hb;have hc:c=.int .u8 n:=(by cases h0;rfl);subst hc;have:=BE (cs:=cs) hl' (by simpa using hl) fun i h1 h2=>by
    have:=hr (i+1) (by simp;omega) (by simp;omega);simpa using this
   rw[this];rfl
  ·cases hb
def HQ {n:Nat}{cells:List ZL}{l:List Int}(R:ZT P G Γ H w)(hs:dc H 1 x=some (n,cells))(hx:ZO P Γ H w x cx)(hc:∃a m c,cx=.slice a m c)(hb:qL cells=some l):
  (Conv.bytesToString cx).run P w=.ok (.string (Bg l)) w:=by
 obtain⟨h1,h2,cs,h3,h4,h5⟩:=uF R hs hx;have h6:=BE hb h4 h5;obtain⟨a,m,c,rfl⟩:=hc;have hm:m=n:=by
  have h1':(Builtin.lenOf (.slice a m c)).run P w=.ok m w:=rfl;rw[h1']at h1;exact(Result.ok.inj h1).1
 subst hm;cases a with
 |none =>
  have h3':(Builtin.firstCells 1 m (.slice none m c)).run P w=.ok #[] w:=rfl;rw[h3']at h3;have:cs=[]:=by
   have:=(Result.ok.inj h3).1;have h7:=congrArg Array.toList this;simpa using h7.symm
  rw[this]at h6;have hl:l=[]:=by simpa using h6.symm
  subst hl;rfl
 |some a =>
  have h3':(loadCells a m).run P w=.ok cs.toArray w:=by
   have:=h3;unfold Builtin.firstCells at this
   rwa [Nat.mul_one]at this
  rw[h6]at h3';exact run_bytesToString w a m c l h3'
def HR {s d:TypeId}(R:ZT P G Γ H w)(hx:ZO P Γ H w x cx)(hb:lV P H s d x=some v):cP P G Γ H w v H (do pure (Next.value (<- convert s d cx))):=by
 have bytes:∀y:ZL,ZO P Γ H w y cx->(∀n cells,dc H 1 y=some (n,cells)->∃a m c,cx=.slice a m c)->nV P H s d y=some v->cP P G Γ H w v H (do pure (Next.value (<- convert s d cx))):=by
  intro y hy hc hb;unfold nV at hb;split at hb
  ·rename_i hsb;simp only[Vk,Ve]at hb;obtain⟨⟨n,cells⟩,hs,l,hl,rfl⟩:=hb;have hsl:=hc n cells hs;have hrun:=HQ R hs hy hsl hl;unfold Bh at hsb;split at hsb
   ·rename_i e h1 h2;split at hsb
    ·rename_i h3;obtain⟨a,m,c,rfl⟩:=hsl;exact cP.same R ((run_convert_bytes_string w s d e a m c h1 h3 h2).trans hrun) (.lit _)
    ·cases hsb
   ·cases hsb
  ·cases hb
 unfold lV at hb;split at hb
 ·rename_i id g o l z;refine bytes _ hx (fun n cells hs=>?_) hb;unfold dc at hs;simp only at hs;split at hs
  ·simp only[Ve]at hs;obtain⟨⟨e,cells'⟩,hl,_⟩:=hs;rcases kg hx hl with ⟨b,base,nn,a,cap,hΓ,rfl,_⟩|⟨hΓ,_,_,rfl⟩
   ·exact⟨_,_,_,rfl⟩
   ·exact⟨_,_,_,rfl⟩
  ·cases hs
 ·refine bytes _ hx (fun n cells hs=>?_) hb;cases hx with
  |nu a cap=>exact⟨_,_,_,rfl⟩
  |Q=>exact⟨_,_,_,rfl⟩
 ·unfold lU at hb;split at hb
  ·rename_i a ha;simp only[Ve]at hb;obtain⟨r,hr,rfl⟩:=hb;rw[<- hx.cU ha]at hr;exact cP.same R (pj hr w) (.lit _)
  ·cases hb
def cP.new {s:Sem Value}(h:∃cv Γ' w',s.run P w=.ok cv w'/\ZV Γ H w Γ' H' w'/\H.A<=H'.A/\ZT P G Γ' H' w'/\ZO P Γ' H' w' v cv):
  cP P G Γ H w v H' (do pure (Next.value (<- s))) :=
 let ⟨cv,Γ',w',h1,h2,h3,h4,h5⟩:=h
 ⟨.value cv,cv,Γ',w',BD h1,.inl rfl,h2,h3,h4,h5⟩
def BG {G:Nat->Option (List ZL)}(hev:∀x,ZO P Γ H w (ar G ρ x) (f x))(l:List Operand):
  ∀i (_:i<(l.map (ar G ρ)).length) (_:i<(l.map f).length),ZO P Γ H w (l.map (ar G ρ))[i] (l.map f)[i]:=by
 intro i h1 h2;simp only[Vw];exact hev _
def BH (hev:∀x,ZO P Γ H w (ar G ρ x) (f x))(parts:Array (Nat × Operand)):
  (parts.map fun (p:Nat × Operand)=>(p.1,f p.2)).toList.length=(parts.toList.map fun p=>(p.1,ar G ρ p.2)).length /\
  ∀i (h1:i<(parts.toList.map fun p=>(p.1,ar G ρ p.2)).length) (h2:i<(parts.map fun (p:Nat × Operand)=>(p.1,f p.2)).toList.length),
   (parts.toList.map fun p=>(p.1,ar G ρ p.2))[i].1=(parts.map fun (p:Nat × Operand)=>(p.1,f p.2)).toList[i].1 /\
   ZO P Γ H w (parts.toList.map fun p=>(p.1,ar G ρ p.2))[i].2 (parts.map fun (p:Nat × Operand)=>(p.1,f p.2)).toList[i].2:=by
 refine⟨ZG,fun i h1 h2=>?_⟩;simp only[Vw,Wm,XO];exact⟨trivial,hev _⟩
def BI (hev:∀x,ZO P Γ H w (ar G ρ x) (f x))(o:Option Operand):qQ P Γ H w (o.map (ar G ρ)) (o.map f):=by
 cases o with
 |none=>trivial
 |some x=>exact hev x
def BJ:∀ {args:List ZL} {vs cs:List Value},qJ args=some vs->cs.length=args.length->(∀i (_:i<args.length) (_:i<cs.length),ZO P Γ H w args[i] cs[i])->cs=vs:=by
 intro args
 induction args with
 |nil=>intro vs cs h hl _;simp only[qJ,Option.some.injEq]at h;subst h;simpa using hl
 |cons a args ih =>
  intro vs cs h hl hr;simp only[qJ,Vk,Ve]at h;obtain⟨x,hx,l,hl2,rfl⟩:=h;cases cs with
  |nil=>simp at hl
  |cons c cs =>
   have h0:=hr 0 ZG ZG;simp only[V9]at h0;rw[h0.cU hx];have:=ih hl2 (by simpa using hl) (fun i a b=>hr (i+1) (by simpa using a) (by simpa using b));rw[this]
def HS {b:Builtin}{ats:Array TypeId}{args:List ZL}{cargs:Array Value}{ty:TypeId}{cs:Array Bool}(R:ZT P G Γ H w)(h:gT P H id b ats.toList args=some (v,H'))
  (hl:cargs.toList.length=args.length) (hr:∀i (_:i<args.length) (_:i<cargs.toList.length),ZO P Γ H w args[i] cargs.toList[i]):
  cP P G Γ H w v H' (builtin b ats ty cs cargs):=by
 obtain⟨ats⟩:=ats;obtain⟨cargs⟩:=cargs;simp only at h hl hr;unfold gT at h;split at h
 ·rename_i t x;simp only[Ve,Prod.mk.injEq]at h;obtain⟨v',hv,rfl,rfl⟩:=h
  match cargs,hl,hr with
  | [cx],_,hr =>
   obtain⟨cv,h1,h2⟩:=HE (ty:=ty) hv (hr 0 ZG ZG);exact cP.same R h1 h2
 ·rename_i t u s x
  match cargs,hl,hr with
  | [c1,c2],_,hr=>exact cP.new (HD R h (hr 0 ZG ZG) (hr 1 ZG ZG))
 ·rename_i t u d x
  match cargs,hl,hr with
  | [c1,c2],_,hr=>exact cP.new (HG R h (hr 0 ZG ZG) (hr 1 ZG ZG))
 ·rename_i t d
  match cargs,hl,hr with
  | [c1],_,hr=>exact cP.new (HH R h (hr 0 ZG ZG))
 ·simp only[Vk,Ve,Prod.mk.injEq]at h;obtain⟨vs,hvs,r,hp,rfl,rfl⟩:=h;have:=BJ hvs hl hr;subst this;exact cP.same R (pj hp w) (.lit _)
 ·simp only[Vk,Ve,Prod.mk.injEq]at h;obtain⟨vs,hvs,r,hp,rfl,rfl⟩:=h;have:=BJ hvs hl hr;subst this;exact cP.same R (pj hp w) (.lit _)
 ·cases h
def yn {t:TypeId}{cells:List ZL}(h:iY P t cells off=some v)(hc:dH P Γ H w cells cs):
  ∃cv,(part t cs off).run P w=.ok cv w/\ZO P Γ H w v cv:=by
 unfold iY at h;unfold part;split at h
 ·cases h
 ·rename_i d hd;rw[aq (xK hd)];split at h
  ·rename_i ha;split at h
   ·rename_i hle;simp only[Option.some.injEq]at h;subst h;rw[ha,Vh rfl,aq (jn hd)];refine⟨_,rfl,?_⟩;have he:(cs.extract off (off+P.cellsOf t))=((cs.toList.drop off).take (P.cellsOf t)).toArray:=by
     apply Array.ext';simp[List.extract_eq_take_drop]
    rw[he];have hsz:=hc.1;refine .agg (by simp only[Vv,V5,Xb];omega) (fun i h1 h2=>?_);simp only[XM,XN,Wm];simp only[Vv,V5]at h1;exact hc.2 (off+i) V (V)
   ·cases h
  ·rename_i ha;have:qC d=false:=(by simpa using ha);rw[this];simp only[Bool.false_eq_true,if_false];obtain⟨hlt,hv⟩:=VJ.1 h;subst hv;obtain⟨cv,h1,h2⟩:=hc.get hlt;rw[h1];exact⟨cv,rfl,h2⟩
def BK {cells:List ZL}(h:ZO P Γ H w (.agg cells) cv):∃cs:Array Value,cv=.agg cs/\dH P Γ H w cells cs:=by
 cases h with
 | @agg _ cs hcs hrel=>exact⟨cs.toArray,rfl,by simpa using hcs,fun i h1 h2=>by simpa using hrel i h1 (by simpa using h2)⟩
def BL {t f:Nat}{ft:TypeId}(h:bJ P t f=some (off,ft)):∃fs fl i,P.underlying t=some (.struct fs)/\fs[f]?=some fl/\P.info? fl.type=some i/\P.cellsOf fl.type≠0/\off=fl.offset/\ft=fl.type:=by
 unfold bJ at h;split at h
 ·rename_i fs hd;split at h
  ·rename_i fl hf;split at h
   ·rename_i hi;obtain⟨i,hi1⟩:=VQ.1 hi.1;simp only[Option.some.injEq,Prod.mk.injEq]at h;exact⟨fs,fl,i,hd,hf,hi1,hi.2,h.1.symm,h.2.symm⟩
   ·cases h
  ·cases h
 ·cases h
def BM {t f:Nat}{i:TypeInfo}{a:Addr}(hd:P.underlying t=some (.struct fs))(hf:fs[f]?=some fl)(hi:P.info? fl.type=some i)(h0:P.cellsOf fl.type≠0):
  (Instr.fieldAt t (.pointer (some a)) f).run P w=.ok (.pointer (some (a.add fl.offset))) w:=by
 unfold Instr.fieldAt;rw[aq (cO hd)];simp only[hf];have sa:(Instr.sureAddr (.pointer (some a))).run P w=.ok a w:=rfl;rw[aq sa];unfold fieldPlace;have:(do if (<- sizeOf fl.type)=0 then partAt a fl.offset fl.byteOffset else pure (a.add fl.offset):Sem Addr).run P w=.ok (a.add fl.offset) w:=by
  rw[aq (run_sizeOf hi),Vg h0];rfl
 rw[aq this];rfl
def BN {t f:Nat}(hd:P.underlying t=some (.struct fs))(hf:fs[f]?=some fl):
  (Instr.field t (.agg cs) f).run P w=(part fl.type cs fl.offset).run P w:=by
 unfold Instr.field;rw[aq (cO hd)];simp only[hf];have sa:(asAgg (.agg cs)).run P w=.ok cs w:=rfl;rw[aq sa]
def HT {i:Nat}(h:nW x i=some v)(hx:ZO P Γ H w x cx):∃cv,(Instr.extract cx i).run P w=.ok cv w/\ZO P Γ H w v cv:=by
 cases hx with
 | @nc vs cs hcs hrel =>
  simp only[nW]at h;obtain⟨hlt,hv⟩:=VJ.1 h;subst hv;refine⟨cs[i]' V,?_,hrel i hlt V⟩;have:Instr.extract (.tuple cs.toArray) i=(pure (cs[i]' V):Sem Value):=by
   unfold Instr.extract;simp only[List.getElem?_toArray];rw[Vf V]
  rw[this];rfl
 |lit =>
  cases cx with
  |tuple vs =>
   simp only[nW,Ve]at h;obtain⟨r,hr,rfl⟩:=h;refine⟨r,?_,.lit _⟩;have:Instr.extract (.tuple vs) i=(pure r:Sem Value):=by
    unfold Instr.extract;simp[hr]
   rw[this];rfl
  |_=>simp[nW]at h
 |_=>simp[nW]at h
def yo {o:Oper}(R:ZT P G Γ H w)(hev:∀x,ZO P Γ H w (ar G ρ x) (f x))(h:ao P G ρ H id o.op=some (v,H')):
  cP P G Γ H w v H' (execOp f o):=by
 obtain⟨dst,op,type,pos,after,guard⟩:=o;simp only at h;unfold execOp;cases op with
 |move x =>
  simp only[ao,Option.some.injEq,Prod.mk.injEq]at h;obtain⟨rfl,rfl⟩:=h;exact⟨_,_,Γ,w,rfl,.inl rfl,ZV.refl _ _ _,ZJ,R,hev x⟩
 |assign x =>
  simp only[ao,Option.some.injEq,Prod.mk.injEq]at h;obtain⟨rfl,rfl⟩:=h;exact⟨_,_,Γ,w,rfl,.inl rfl,ZV.refl _ _ _,ZJ,R,hev x⟩
 |pick c a b =>
  simp only[ao]at h;have hc:=hev c;split at h
  ·rename_i t ht;rw[ht]at hc;simp only[Option.some.injEq,Prod.mk.injEq]at h;obtain⟨rfl,rfl⟩:=h;dsimp only;generalize f c=fc at hc ⊢;cases hc;refine⟨.value (if t then f a else f b),(if t then f a else f b),Γ,w,?_,.inl rfl,ZV.refl _ _ _,ZJ,R,?_⟩
   ·cases t<;>rfl
   ·cases t
    ·exact hev b
    ·exact hev a
  ·cases h
 |alloc e =>
  simp only[ao,Vk,Ve,Prod.mk.injEq]at h;obtain⟨z,hz,H1,hlay,rfl,rfl⟩:=h;obtain⟨i,zv,hi,hzv,hsz,hzz,hcells⟩:=qP hz;have hz0:dH P Γ H w z zv.cells:=hzz ▸ dH.lit _;obtain⟨E,hn,R'⟩:=sD (c:=zv.cells) R hlay (by rw[hz0.1];exact Nat.le_refl _) (fun i hi=>hz0.get hi);obtain⟨hget,_⟩:=ke hlay;obtain⟨_,_,_,hid⟩:=nN R hlay;refine cP.new ⟨_,_,_,?_,E,hn,R',Bm (by rw[hget,Vh rfl]) hid (aD.eI _ _ _)⟩;unfold Instr.alloc;rw[aq (pB hi hzv)];rfl
 |box e x =>
  simp only[ao,Ve,Prod.mk.injEq]at h;obtain⟨H1,hlay,rfl,rfl⟩:=h;obtain⟨v1,v2⟩:=(hev x).cells;obtain⟨E,hn,R'⟩:=sD (c:=(f x).cells) R hlay (by rw[<- v1];simp) (fun i hi=>⟨(f x).cells[i]'(by rw[<- v1]at hi;simpa using hi),Vq _,by
   have:=v2 i hi (by rw[v1];exact hi);simpa using this⟩)
  obtain⟨hget,_⟩:=ke hlay;obtain⟨_,_,_,hid⟩:=nN R hlay;exact cP.new ⟨_,_,_,rfl,E,hn,R',Bm (by rw[hget,Vh rfl]) hid (aD.eI _ _ _)⟩
 |build t parts =>
  simp only[ao,Ve,Prod.mk.injEq]at h;obtain⟨v',hb,rfl,rfl⟩:=h;obtain⟨p1,p2⟩:=BH hev parts;obtain⟨cv,h1,h2⟩:=Hf (w:=w) hb p1 p2;exact cP.same R h1 h2
 |buildSlice t len parts =>
  simp only[ao]at h;obtain⟨p1,p2⟩:=BH hev parts;exact cP.new (Hh R h p1 p2)
 |load t a =>
  simp only[ao,Ve,Prod.mk.injEq]at h;obtain⟨v',hb,rfl,rfl⟩:=h;obtain⟨cv,h1,h2⟩:=G5 R hb (hev a);exact cP.same R h1 h2
 |store t a x =>
  simp only[ao]at h;split at h
  ·rename_i hu;obtain⟨d,hd⟩:=VQ.1 hu;simp only[Ve,Prod.mk.injEq]at h;obtain⟨H1,hst,rfl,rfl⟩:=h;obtain⟨w',h1,h2,h3,h4⟩:=G6 R hst (uu hd) (hev a) (hev x);exact⟨.skip,undef,Γ,w',uH h1,.inr ⟨rfl,rfl⟩,h2,h3,h4,.lit _⟩
  ·cases h
 |nilCheck x =>
  simp only[ao,Ve,Prod.mk.injEq]at h;obtain⟨v',hb,rfl,rfl⟩:=h;have hx:=hev x;unfold lW at hb;split at hb
  ·rename_i id' gen off hx';simp only[Ve]at hb;obtain⟨⟨e,cells⟩,hl,rfl⟩:=hb;rw[hx']at hx;obtain⟨b,base,n,hΓ,hcv⟩:=qM hx hl;simp only[hcv]at hx ⊢;exact⟨_,_,Γ,w,rfl,.inl rfl,ZV.refl _ _ _,ZJ,R,hx⟩
  ·rename_i cells off hx';simp only[Option.some.injEq]at hb;subst hb;rw[hx']at hx;dsimp only;generalize f x=fx at hx ⊢;cases hx with
   |ni a b c d e=>exact⟨_,_,Γ,w,rfl,.inl rfl,ZV.refl _ _ _,ZJ,R,.ni a b c d e⟩
  ·rename_i ff a b hx';simp only[Option.some.injEq]at hb;subst hb;rw[hx']at hx;dsimp only;generalize f x=fx at hx ⊢;cases hx with
   |X a b c d=>exact⟨_,_,Γ,w,rfl,.inl rfl,ZV.refl _ _ _,ZJ,R,.X a b c d⟩
  ·cases hb
 |binOp op t x y u =>
  simp only[ao,Ve,Prod.mk.injEq]at h;obtain⟨v',hb,rfl,rfl⟩:=h;unfold aU at hb;split at hb
  ·rename_i a b ha hb';simp only[Ve]at hb;obtain⟨r,hr,rfl⟩:=hb;rw[<- (hev x).cU ha,<- (hev y).cU hb']at hr;exact cP.same R (pj hr w) (.lit _)
  ·cases hb
 |unOp op t x =>
  simp only[ao,Ve,Prod.mk.injEq]at h;obtain⟨v',hb,rfl,rfl⟩:=h;unfold qK at hb;split at hb
  ·rename_i a ha;simp only[Ve]at hb;obtain⟨r,hr,rfl⟩:=hb;rw[<- (hev x).cU ha]at hr;exact cP.same R (pj hr w) (.lit _)
  ·cases hb
 |convert s d x =>
  simp only[ao,Ve,Prod.mk.injEq]at h;obtain⟨v',hb,rfl,rfl⟩:=h;exact HR R (hev x) hb
 |makeInterface t x =>
  simp only[ao]at h;split at h
  ·rename_i a ha;simp only[Ve,Prod.mk.injEq]at h;obtain⟨r,hr,rfl,rfl⟩:=h;rw[<- (hev x).cU ha]at hr;exact cP.same R (pj hr w) (.lit _)
  ·cases h
 |makeFunc fn first captured =>
  simp only[ao]at h;split at h
  ·simp only[Option.some.injEq,Prod.mk.injEq]at h;obtain⟨rfl,rfl⟩:=h;refine cP.same R (cv:=.func (.func _) (first.map f) (captured.map f)) rfl ?_;have e1:first.map f=(first.toList.map f).toArray:=(by rw[<- Y1,YL]);have e2:captured.map f=(captured.toList.map f).toArray:=(by rw[<- Y1,YL]);rw[e1,e2];exact .X ZG ZG (BG hev _) (BG hev _)
  ·cases h
 |makeSlice t l c =>
  simp only[ao]at h;exact cP.new (Hl R h (hev l) (hev c))
 |slice t x lo hi mx =>
  simp only[ao]at h;split at h
  ·simp only[Ve,Prod.mk.injEq]at h;obtain⟨v',hb,rfl,rfl⟩:=h;obtain⟨cv,h1,h2⟩:=HB R hb (hev x) (BI hev lo) (BI hev hi);exact cP.same R h1 h2
  ·cases h
 |fieldAddr s x fi =>
  simp only[ao,Vk]at h;obtain⟨⟨off,ft⟩,hf,h⟩:=h;obtain⟨fs,fl,i,hd,hfl,hi,h0,rfl,rfl⟩:=BL hf;have hx:=hev x;split at h
  ·rename_i id' gen off' hx';simp only[Ve,Prod.mk.injEq]at h;obtain⟨⟨e,cells⟩,hl,rfl,rfl⟩:=h;rw[hx']at hx;obtain⟨a,ha,hr⟩:=Bq (k:=fl.offset) hx hl;simp only[ha];exact cP.same R (BM hd hfl hi h0) hr
  ·rename_i cells off' hx';simp only[Option.some.injEq,Prod.mk.injEq]at h;obtain⟨rfl,rfl⟩:=h;rw[hx']at hx;obtain⟨a,ha,hr⟩:=Br (k:=fl.offset) hx;simp only[ha];exact cP.same R (BM hd hfl hi h0) hr
  ·cases h
 |field t x fi =>
  simp only[ao,Vk]at h;obtain⟨⟨off,ft⟩,hf,h⟩:=h;obtain⟨fs,fl,i,hd,hfl,hi,h0,rfl,rfl⟩:=BL hf;have hx:=hev x;split at h
  ·rename_i cells hx';simp only[Ve,Prod.mk.injEq]at h;obtain⟨v',hp,rfl,rfl⟩:=h;rw[hx']at hx;obtain⟨cs,hcv,hrl⟩:=BK hx;obtain⟨cv,h1,h2⟩:=yn hp hrl;simp only[hcv];exact cP.same R ((BN hd hfl).trans h1) h2
  ·rename_i cs hx';simp only[Ve,Prod.mk.injEq]at h;obtain⟨v',hp,rfl,rfl⟩:=h;rw[hx']at hx;obtain⟨cv,h1,h2⟩:=yn hp (dH.lit (P:=P) (Γ:=Γ) (H:=H) (w:=w) cs);dsimp only;generalize f x=fx at hx ⊢;cases hx;exact cP.same R ((BN hd hfl).trans h1) h2
  ·cases h
 |indexAddr t x i =>
  simp only[ao]at h;have hi:=hev i;split at h
  ·rename_i k n hi';simp only[Ve,Prod.mk.injEq]at h;obtain⟨v',hb,rfl,rfl⟩:=h;rw[hi']at hi;have:f i=.int k n:=by
    generalize f i=fi at hi;cases hi;rfl
   simp only[this];obtain⟨cv,h1,h2⟩:=Hn (w:=w) (k:=k) hb (hev x);exact cP.same R h1 h2
  ·cases h
 |index t x i =>
  simp only[ao,Ve,Prod.mk.injEq]at h;obtain⟨v',hb,rfl,rfl⟩:=h;have hx:=hev x;have hi:=hev i;unfold pr at hb;split at hb
  ·rename_i cells k n hx' hi';rw[hx']at hx;rw[hi']at hi;have hfi:f i=.int k n:=by
    generalize f i=fi at hi;cases hi;rfl
   obtain⟨cs,hcv,hrl⟩:=BK hx;split at hb
   ·rename_i len e hd;split at hb
    ·rename_i hn;obtain⟨cv,h1,h2⟩:=yn hb hrl;simp only[hcv,hfi];refine cP.same R ?_ h2;unfold Instr.index;rw[aq (yd k n)];simp only;rw[aq (cO hd)];simp only;rw[Vh hn];have:∃d,P.underlying e=some d:=by
      unfold iY at hb;split at hb
      ·cases hb
      ·rename_i d hd';exact⟨d,hd'⟩
     obtain⟨d,hde⟩:=this;rw[aq (jn hde)];exact h1
    ·cases hb
   ·cases hb
  ·rename_i vx vi hx' hi';rw[hx']at hx;rw[hi']at hi;simp only[Ve]at hb;obtain⟨r,hr,rfl⟩:=hb;have h1:f x=vx:=by
    generalize f x=fx at hx;cases hx;rfl
   have h2:f i=vi:=by
    generalize f i=fx at hi;cases hi;rfl
   simp only[h1,h2];exact cP.same R (pj hr w) (.lit _)
  ·cases hb
 |extract t i =>
  simp only[ao,Ve,Prod.mk.injEq]at h;obtain⟨v',hb,rfl,rfl⟩:=h;obtain⟨cv,h1,h2⟩:=HT (w:=w) hb (hev t);exact cP.same R h1 h2
 |call c =>
  simp only[ao]at h;obtain⟨callee,args,ats⟩:=c;split at h
  ·rename_i b hb;simp only at hb h;subst hb;have:=HS (ty:=type) (cs:=args.map fun|.const _=>true|_=>false) (cargs:=args.map f) R h ZG (fun i h1 h2=>by
    simp only[Vw,Wm,XO];exact hev _)
   exact this
  ·cases h
 |makeMap t r =>
  simp only[ao]at h;split at h
  ·simp only[Ve,Prod.mk.injEq]at h;obtain⟨H1,hlay,rfl,rfl⟩:=h;obtain⟨E,hn,R'⟩:=G3 R hlay;obtain⟨hget,_⟩:=ke hlay;obtain⟨_,_,_,hid⟩:=nN R hlay;refine cP.new ⟨.map (some w.heap.size),_,_,?_,E,hn,R',.nk ⟨hid,rfl,by rw[hget,Vh rfl];simp,fun st pend n env ps asg body hg=>(by rw[hget,Vh rfl]at hg;cases hg),fun es hg=>⟨_,aD.eI _ _ _,rfl⟩⟩⟩;rfl
  ·cases h
 |lookup t x i ok =>
  simp only[ao,Ve,Prod.mk.injEq]at h;obtain⟨v',hb,rfl,rfl⟩:=h;obtain⟨cv,h1,h2⟩:=HN R hb (hev x) (hev i);exact cP.same R h1 h2
 |mapUpdate t m k x =>
  simp only[ao]at h;obtain⟨Γ',w',h1,h2,h3,h4,rfl⟩:=BC R h (hev m) (hev k) (hev x);exact⟨.skip,undef,Γ',w',uH h1,.inr ⟨rfl,rfl⟩,h2,h3,h4,.lit _⟩
 |insert t m k x =>
  simp only[ao]at h;obtain⟨Γ',w',h1,h2,h3,h4,rfl⟩:=BC R h (hev m) (hev k) (hev x);exact⟨.skip,undef,Γ',w',uH h1,.inr ⟨rfl,rfl⟩,h2,h3,h4,.lit _⟩
 |mapEntry t m k =>
  simp only[ao]at h;exact cP.new (HO R h (hev m) (hev k))
 |entryStore t m s x =>
  simp only[ao]at h;obtain⟨Γ',w',h1,h2,h3,h4,rfl⟩:=HP (t:=t) R h (hev m) (hev s) (hev x);exact⟨.skip,undef,Γ',w',uH h1,.inr ⟨rfl,rfl⟩,h2,h3,h4,.lit _⟩
 |_=>simp[ao]at h
end Go.Hx
namespace Go.Hx
variable {P:Program} {G:Nat->Option (List ZL)} {Γ Γ':aD} {H H':ZK} {w w':World}
variable {a b:Act}{lo:Nat}{ch:Nat->Bool}
structure St where
 ρ:Env
 H:ZK
inductive AX where
 |normal
 |exit (id:Nat)
 |goto (l:Nat)
 |ret
 |panic
def yp (chain:List PanicEntry):Prop:=∃t v,chain=[{ v:=.iface t v,recovered:=false }]
def yq:Exit->AX->Prop
 |.normal,.normal=>True
 |.exit i,.exit j=>i=j
 |.goto i,.goto j=>i=j
 |.ret,.ret=>True
 |.panic chain,.panic=>yp chain
 |_,_=>False
structure nnc where
 lo:Nat
 ds:List Deferred
def Marks (lo:Nat)(Γ:aD)(w:World)(m:List Deferred):Prop :=
 (∀d,d∈m->∃r,d={ target:=.collected r,args:=#[] }/\lo<=r/\qx Γ w r)/\m.Pairwise (fun d e=>d.target≠e.target)
theorem Marks.nil :Marks lo Γ w []:=⟨fun _ h=>(by cases h),.nil⟩
theorem Marks.ba {m:List Deferred}(h:Marks lo Γ w m)(E:ZV Γ H w Γ' H' w'):Marks lo Γ' w' m :=
 ⟨fun d hd=>let ⟨r,h1,h2,h3⟩:=h.1 d hd;⟨r,h1,h2,h3.ba E⟩,h.2⟩
def sQ (wb:nnc)(Γ:aD)(w:World)(l:List Deferred):Prop:=∃m,l=m++wb.ds/\Marks wb.lo Γ w m
theorem sQ.ba {wb:nnc}{l:List Deferred}(h:sQ wb Γ w l)(E:ZV Γ H w Γ' H' w'):sQ wb Γ' w' l :=
 let ⟨m,h1,h2⟩:=h;⟨m,h1,h2.ba E⟩
structure Z1 (P:Program)(G:Nat->Option (List ZL))(n:Nat)(wb:nnc)(Γ:aD)(s:St)(a:Act)(w:World):Prop where
 size:a.tmps.size=n
 env:∀t,ZO P Γ s.H w (s.ρ t) (a.tmps.getD t undef)
 heap:ZT P G Γ s.H w
 defers:sQ wb Γ w a.defers
 low:wb.lo<=w.heap.size
def dN (Γ:aD)(H:ZK):Option Nat->Option Nat->Prop
 |none,rb=>rb=none
 |some id,rb=>∃b st pend n env ps asg body,rb=some b/\Γ id=some (b,0,0)/\H.get id=some (.loop st pend n env ps asg body)
def fI (H:ZK):Option Nat->Prop
 |none=>True
 |some id=>∃st pend n env ps asg body,H.get id=some (.loop st pend n env ps asg body)
abbrev dZ (rb:Option Nat):Fence:={ Fence.wide with round:=rb }
def wr:Code->Nat->Bool
 |.region _ ops _,t=>ops.toList.any fun o=>o.dst == some t
 |.seq a b,t|.cond _ a b,t=>wr a t ||wr b t
 |.block _ c,t|.loop c,t|.scope c,t=>wr c t
 |_,_=>false
def Fr (ch:Nat->Bool)(a a':Act):Prop:=∀t,ch t=false->a'.tmps[t]?=a.tmps[t]?
def Fr.refl (ch:Nat->Bool)(a:Act):Fr ch a a:=fun _ _=>rfl
theorem Fr.trans {c:Act}(h:Fr ch a b)(k:Fr ch b c):Fr ch a c:=fun t ht=>(k t ht).trans (h t ht)
def Fr.mono {ch':Nat->Bool}(h:Fr ch a b)(hc:∀t,ch' t=false->ch t=false):Fr ch' a b:=fun t ht=>h t (hc t ht)
def iy (P:Program)(G:Nat->Option (List ZL))(n:Nat)(wb:nnc)(rd rb:Option Nat)(ch:Nat->Bool)(Γ:aD)(H:ZK)(a:Act)(w:World)(Q:AX->St->Prop)(e:Exit)(a':Act)(w':World):Prop :=
 ∃x s' Γ',yq e x/\Q x s'/\Z1 P G n wb Γ' s' a' w'/\ZV Γ H w Γ' s'.H w'/\H.A<=s'.H.A/\dN Γ' s'.H rd rb/\Fr ch a a'
def W (P:Program)(G:Nat->Option (List ZL))(n:Nat)(rd:Option Nat)(c:Code)(Q:AX->St->Prop)(s:St):Prop :=
 ∀wb Γ a w rb,Z1 P G n wb Γ s a w->dN Γ s.H rd rb->c.wpIn (dZ rb) 0 P (iy P G n wb rd rb (wr c) Γ s.H a w Q) a w
def kQ (K:St->Prop)(Q:AX->St->Prop):AX->St->Prop
 |.normal,s=>K s
 |x,s=>Q x s
def mM (id:Nat)(Q:AX->St->Prop):AX->St->Prop
 |.exit i,s=>if i=id then Q .normal s else Q (.exit i) s
 |x,s=>Q x s
section rules
variable {n:Nat} {rd:Option Nat} {Q Q':AX->St->Prop} {s:St}
def iy.mono {wb:nnc}{rb:Option Nat}{ch:Nat->Bool}{e:Exit}{a a':Act}(h:iy P G n wb rd rb ch Γ H a w Q e a' w')(hq:∀x s,Q x s->Q' x s):iy P G n wb rd rb ch Γ H a w Q' e a' w' :=
 let ⟨x,s',Γ',h1,h2,h3⟩:=h;⟨x,s',Γ',h1,hq _ _ h2,h3⟩
def iy.step {wb:nnc}{rb:Option Nat}{ch ch':Nat->Bool}{e:Exit}{a a₁ a':Act}{w₁:World}{H₁:ZK}{Γ₁:aD}(E:ZV Γ H w Γ₁ H₁ w₁)(hn:H.A<=H₁.A)(hf:Fr ch' a a₁)
  (h:iy P G n wb rd rb ch Γ₁ H₁ a₁ w₁ Q e a' w') (hc:∀t,ch' t=false->ch t=false):iy P G n wb rd rb ch' Γ H a w Q e a' w' :=
 let ⟨x,s',Γ',h1,h2,h3,h4,h5,h6,h7⟩:=h;⟨x,s',Γ',h1,h2,h3,E.trans hn h4,VM hn h5,h6,hf.trans (h7.mono hc)⟩
theorem W.mono {c:Code}(h:W P G n rd c Q s)(hq:∀x s,Q x s->Q' x s):W P G n rd c Q' s :=
 fun wb Γ a w rb hs hr=>wpIn_mono (h wb Γ a w rb hs hr) fun _ _ _ hp=>hp.mono hq
def iy.here {wb:nnc}{rb:Option Nat}{ch:Nat->Bool}{e:Exit}{a:Act}{x:AX}(hx:yq e x)(h:Q x s)(hs:Z1 P G n wb Γ s a w)(hr:dN Γ s.H rd rb):
  iy P G n wb rd rb ch Γ s.H a w Q e a w:=⟨x,s,Γ,hx,h,hs,ZV.refl _ _ _,ZJ,hr,.refl _ _⟩
theorem W.skip (h:Q .normal s):W P G n rd .skip Q s:=fun _ _ _ _ _ hs hr=>wpIn_skip (.here (x:=.normal) trivial h hs hr)
theorem W.label {l:Nat}(h:Q .normal s):W P G n rd (.label l) Q s:=fun _ _ _ _ _ hs hr=>wpIn_label (.here (x:=.normal) trivial h hs hr)
theorem W.exit {id:Nat}(h:Q (.exit id) s):W P G n rd (.exit id) Q s:=fun _ _ _ _ _ hs hr=>wpIn_exit (.here (x:=.exit id) rfl h hs hr)
theorem W.goto {l:Nat}(h:Q (.goto l) s):W P G n rd (.goto l) Q s:=fun _ _ _ _ _ hs hr=>wpIn_goto (.here (x:=.goto l) rfl h hs hr)
theorem W.ret (h:Q .ret s):W P G n rd .ret Q s:=fun _ _ _ _ _ hs hr=>wpIn_ret (.here (x:=.ret) trivial h hs hr)
def BO {x y:Bool}(h:(x ||y)=false):x=false:=by cases x<;>simp_all
def BP {x y:Bool}(h:(x ||y)=false):y=false:=by cases x<;>simp_all
theorem W.seq {x y:Code}(h:W P G n rd x (kQ (W P G n rd y Q) Q) s):W P G n rd (.seq x y) Q s:=by
 intro wb Γ a w rb hs hr;refine wpIn_seq (wpIn_mono (h wb Γ a w rb hs hr) ?_);rintro e a' w' ⟨x',s',Γ',hx,hq,hs',E,hn,hr',hf⟩;have hf':Fr (wr (.seq x y)) a a':=hf.mono fun t ht=>BO ht;cases e with
 |normal =>
  cases x' with
  |normal=>exact wpIn_mono (hq wb Γ' a' w' rb hs' hr') fun _ _ _ hp=>hp.step E hn hf' fun t ht=>BP ht
  |_=>exact hx.elim
 |exit i=>cases x' with
  |exit j=>exact⟨_,s',Γ',hx,hq,hs',E,hn,hr',hf'⟩
  |_=>exact hx.elim
 |goto i=>cases x' with
  |goto j=>exact⟨_,s',Γ',hx,hq,hs',E,hn,hr',hf'⟩
  |_=>exact hx.elim
 |ret=>cases x' with
  |ret=>exact⟨_,s',Γ',hx,hq,hs',E,hn,hr',hf'⟩
  |_=>exact hx.elim
 |panic c=>cases x' with
  |panic=>exact⟨_,s',Γ',hx,hq,hs',E,hn,hr',hf'⟩
  |_=>exact hx.elim
 |outgrown=>cases x'<;>exact hx.elim
def jr {wb:nnc}{a:Act}(hs:Z1 P G n wb Γ s a w)(x:Operand):ZO P Γ s.H w (ar G s.ρ x) (a.eval x):=by
 cases x with
 |tmp t=>exact hs.env t
 |const v=>exact .lit v
 |global g =>
  simp only[ar,Act.eval];cases hg:G g with
  |none=>exact .lit _
  |some cells=>exact hs.heap.nD g cells hg
 |func f=>exact ZO.X (fs:=[]) (cs:=[]) rfl rfl (fun i h _=>absurd h (Vt _)) (fun i h _=>absurd h (Vt _))
theorem W.cond {c:Operand}{x y:Code}{t:Bool}(hc:ar G s.ρ c=.lit (.bool t))(h:W P G n rd (if t then x else y) Q s):W P G n rd (.cond c x y) Q s:=by
 intro wb Γ a w rb hs hr;have he:=jr hs c;rw[hc]at he;have:a.eval c=.bool t:=by
  generalize a.eval c=v at he;cases he;rfl
 refine wpIn_cond this (wpIn_mono (h wb Γ a w rb hs hr) ?_);rintro e a' w' ⟨x',s',Γ',h1,h2,h3,h4,h5,h6,h7⟩;refine⟨x',s',Γ',h1,h2,h3,h4,h5,h6,h7.mono fun i hi=>?_⟩;cases t with
 |true=>exact BO hi
 |false=>exact BP hi
theorem W.block {id:Nat}{c:Code}(h:W P G n rd c (mM id Q) s):W P G n rd (.block id c) Q s:=by
 intro wb Γ a w rb hs hr;refine wpIn_block (wpIn_mono (h wb Γ a w rb hs hr) ?_);rintro e a' w' ⟨x,s',Γ',hx,hq,hrest⟩;cases e with
 |exit i =>
  cases x with
  |exit j =>
   obtain rfl:i=j:=hx;simp only[Exit.inBlock];simp only[mM]at hq;split
   ·rename_i hi;rw[Vh hi]at hq;exact⟨.normal,s',Γ',trivial,hq,hrest⟩
   ·rename_i hi;rw[Vg hi]at hq;exact⟨.exit i,s',Γ',rfl,hq,hrest⟩
  |_=>exact hx.elim
 |normal=>cases x with
  |normal=>exact⟨_,s',Γ',hx,hq,hrest⟩
  |_=>exact hx.elim
 |goto i=>cases x with
  |goto j=>exact⟨_,s',Γ',hx,hq,hrest⟩
  |_=>exact hx.elim
 |ret=>cases x with
  |ret=>exact⟨_,s',Γ',hx,hq,hrest⟩
  |_=>exact hx.elim
 |panic c=>cases x with
  |panic=>exact⟨_,s',Γ',hx,hq,hrest⟩
  |_=>exact hx.elim
 |outgrown=>cases x<;>exact hx.elim
def eV (P:Program)(G:Nat->Option (List ZL))(s s':St):Prop :=
 ∀n wb Γ a w,Z1 P G n wb Γ s a w->∃ Γ',Z1 P G n wb Γ' s' a w/\ZV Γ s.H w Γ' s'.H w /\
  (∀rd rb,dN Γ s.H rd rb->fI s'.H rd->dN Γ' s'.H rd rb)
theorem eV.refl (s:St):eV P G s s:=fun _ _ Γ _ _ h=>⟨Γ,h,ZV.refl _ _ _,fun _ _ h _=>h⟩
def mask (ws:Nat)(ρ ρ₀:Env):Env:=fun t=>if ws / 2 ^ t % 2=1 then ρ t else ρ₀ t
def mO (ws:Nat):Code->Bool
 |.region _ ops _=>ops.toList.all fun o=>match o.dst with|some d=>ws / 2 ^ d % 2 == 1|none=>true
 |.seq a b|.cond _ a b=>mO ws a && mO ws b
 |.block _ c|.loop c|.scope c=>mO ws c
 |_=>true
def HU {ws:Nat}{t:Nat}(ht:¬ws / 2 ^ t % 2=1):∀ {c:Code},mO ws c=true->wr c t=false:=by
 intro c
 induction c with
 |region id ops d =>
  intro h;simp only[mO,VG]at h;simp only[wr,Yt];intro o ho hd;have:=h o ho;have hd':o.dst=some t:=by simpa using hd
  rw[hd']at this;simp only[beq_iff_eq]at this;exact ht this
 |seq a b iha ihb=>intro h;simp only[mO,VL]at h;simp only[wr,iha h.1,ihb h.2];rfl
 |cond x a b iha ihb=>intro h;simp only[mO,VL]at h;simp only[wr,iha h.1,ihb h.2];rfl
 |block id c ih=>intro h;exact ih h
 |loop c ih=>intro h;exact ih h
 |scope c ih=>intro h;exact ih h
 |_=>intro _;rfl
theorem W.loop {c:Code}(ws:Nat)(hws:mO ws c=true)(I:Env->ZK->Prop)(μ:Env->ZK->Nat)(h0:I s.ρ s.H)
  (round:∀ ρ H,I ρ H->W P G n rd c (kQ (fun s₂=>∃s₃,eV P G s₂ s₃/\s.H.A<=s₃.H.A/\fI s₃.H rd/\I (mask ws s₃.ρ s.ρ) s₃.H/\μ (mask ws s₃.ρ s.ρ) s₃.H<μ (mask ws ρ s.ρ) H) Q) ⟨mask ws ρ s.ρ,H⟩):W P G n rd (.loop c) Q s:=by
 intro wb Γ a w rb hs hr
 let ij:Env->ZK->Act->World->Prop:=fun ρ H a₁ w₁=>∃ Γ₁,I ρ H/\Z1 P G n wb Γ₁ ⟨mask ws ρ s.ρ,H⟩ a₁ w₁/\ZV Γ s.H w Γ₁ H w₁/\s.H.A<=H.A/\dN Γ₁ H rd rb/\Fr (wr c) a a₁
 let ex:Act->World->Prop:=fun a₁ w₁=>∃k ρ H,ij ρ H a₁ w₁/\μ (mask ws ρ s.ρ) H=k
 let m:Act->World->Nat:=fun a₁ w₁=>Classical.epsilon fun k=>(∃ ρ H,ij ρ H a₁ w₁/\μ (mask ws ρ s.ρ) H=k)/\∀j,(∃ ρ H,ij ρ H a₁ w₁/\μ (mask ws ρ s.ρ) H=j)->k<=j
 have least:∀(p:Nat->Prop),(∃k,p k)->∃k,p k/\∀j,p j->k<=j:=by
  intro p ⟨k,hk⟩
  induction k using Nat.strongRecOn with
  |_ k ih =>
   by_cases h:∃j,j<k/\p j
   ·obtain⟨j,hj,hp⟩:=h;exact ih j hj hp
   ·exact⟨k,hk,fun j hj=>Yw fun hlt=>h ⟨j,hlt,hj⟩⟩
 have mspec:∀a₁ w₁,ex a₁ w₁->(∃ ρ H,ij ρ H a₁ w₁/\μ (mask ws ρ s.ρ) H=m a₁ w₁)/\∀j,(∃ ρ H,ij ρ H a₁ w₁/\μ (mask ws ρ s.ρ) H=j)->m a₁ w₁<=j:=by
  intro a₁ w₁ h;exact Classical.epsilon_spec (p:=fun k=>(∃ ρ H,ij ρ H a₁ w₁/\μ (mask ws ρ s.ρ) H=k)/\∀j,(∃ ρ H,ij ρ H a₁ w₁/\μ (mask ws ρ s.ρ) H=j)->k<=j) (least _ h)
 have mask0:mask ws s.ρ s.ρ=s.ρ:=by
  funext t
  unfold mask;split<;>rfl
 have mask2:∀ ρ,mask ws (mask ws ρ s.ρ) s.ρ=mask ws ρ s.ρ:=by
  intro ρ
  funext t
  unfold mask;by_cases h:ws / 2 ^ t % 2=1
  ·rw[Vh h,Vh h]
  ·rw[Vg h,Vg h]
 refine wpIn_mono (Q:=fun e a' w'=>iy P G n wb rd rb (wr c) Γ s.H a w Q e a' w') ?_ fun _ _ _ hp=>hp;refine wpIn_loop ex m ⟨_,s.ρ,s.H,⟨Γ,h0,by rw[mask0];exact hs,ZV.refl _ _ _,ZJ,hr,.refl _ _⟩,rfl⟩ ?_;intro a₁ w₁ hex;obtain⟨⟨ρ,H,⟨Γ₁,hI,hs₁,E₁,hn₁,hr₁,hf₁⟩,hm⟩,hmin⟩:=mspec a₁ w₁ hex;refine wpIn_mono (round ρ H hI wb Γ₁ a₁ w₁ rb hs₁ hr₁) ?_;rintro e a' w' ⟨x,s',Γ',hx,hq,hs',E,hn,hr',hf⟩;have hf':=hf₁.trans hf;cases e with
 |normal =>
  cases x with
  |normal =>
   obtain⟨s₃,hw,hn3,hri,hI3,hlt⟩:=hq;obtain⟨Γ₃,hs₃,E₃,hrd⟩:=hw n wb Γ' a' w' hs';have E₄:ZV Γ s.H w Γ₃ s₃.H w':=(E₁.trans hn₁ E).trans (VM hn₁ hn) E₃;have hs₄:Z1 P G n wb Γ₃ ⟨mask ws (mask ws s₃.ρ s.ρ) s.ρ,s₃.H⟩ a' w':=by
    rw[mask2];refine⟨hs₃.size,fun t=>?_,hs₃.heap,hs₃.defers,hs₃.low⟩;show ZO P Γ₃ s₃.H w' (if ws / 2 ^ t % 2=1 then s₃.ρ t else s.ρ t) _;by_cases ht:ws / 2 ^ t % 2=1
    ·rw[Vh ht];exact hs₃.env t
    ·rw[Vg ht];have hsame:=hf' t (HU ht hws);have:a'.tmps.getD t undef=a.tmps.getD t undef:=by
      simp only[V0,hsame]
     rw[this];exact(hs.env t).ba E₄ hn3
   have hg:ij (mask ws s₃.ρ s.ρ) s₃.H a' w':=⟨Γ₃,hI3,hs₄,E₄,hn3,hrd rd rb hr' hri,hf'⟩
   have hex':ex a' w':=⟨_,_,_,hg,rfl⟩
   refine⟨hex',W4 ((mspec a' w' hex').2 _ ⟨_,_,hg,rfl⟩) ?_⟩;rw[<- hm,mask2];exact hlt
  |_=>exact hx.elim
 |exit i=>cases x with
  |exit j=>exact⟨_,s',Γ',hx,hq,hs',E₁.trans hn₁ E,VM hn₁ hn,hr',hf'⟩
  |_=>exact hx.elim
 |goto i=>cases x with
  |goto j=>exact⟨_,s',Γ',hx,hq,hs',E₁.trans hn₁ E,VM hn₁ hn,hr',hf'⟩
  |_=>exact hx.elim
 |ret=>cases x with
  |ret=>exact⟨_,s',Γ',hx,hq,hs',E₁.trans hn₁ E,VM hn₁ hn,hr',hf'⟩
  |_=>exact hx.elim
 |panic c=>cases x with
  |panic=>exact⟨_,s',Γ',hx,hq,hs',E₁.trans hn₁ E,VM hn₁ hn,hr',hf'⟩
  |_=>exact hx.elim
 |outgrown=>cases x<;>exact hx.elim
def W.aS {c:Code}(ws:Nat)(hws:mO ws c=true)(I:Env->ZK->Prop)(μ:Env->ZK->Nat)(h0:I s.ρ s.H)
  (round:∀ ρ H,I ρ H->W P G n rd c (kQ (fun s₂=>s.H.A<=s₂.H.A/\fI s₂.H rd/\I (mask ws s₂.ρ s.ρ) s₂.H/\μ (mask ws s₂.ρ s.ρ) s₂.H<μ (mask ws ρ s.ρ) H) Q) ⟨mask ws ρ s.ρ,H⟩):W P G n rd (.loop c) Q s :=
 W.loop ws hws I μ h0 fun ρ H hI=>(round ρ H hI).mono fun x s' hx=>by
  cases x with
  |normal=>exact⟨s',eV.refl s',hx⟩
  |_=>exact hx
def W.BQ {c:Code}{s':St}(hw:eV P G s s')(hn:s.H.A<=s'.H.A)(hri:fI s'.H rd)(h:W P G n rd c Q s'):W P G n rd c Q s:=by
 intro wb Γ a w rb hs hr;obtain⟨Γ',hs',E,hrd⟩:=hw n wb Γ a w hs;exact wpIn_mono (h wb Γ' a w rb hs' (hrd rd rb hr hri)) fun _ _ _ hp=>hp.step E hn (.refl _ _) fun _ h=>h
end rules
end Go.Hx
namespace Go.Hx
variable {P:Program} {G:Nat->Option (List ZL)} {Γ Γ':aD} {H H':ZK} {w w':World}
variable {a:Act}{f:FuncId}{args:List ZL}{id n:Nat}{rb rd:Option Nat}{cv v:Value}{wb:nnc}
inductive ZQ where
 |ret (v:ZL)
 |panic
def HV (P:Program)(Γ:aD)(H:ZK)(w:World):Ending->ZQ->Prop
 |.returned cv,.ret v=>ZO P Γ H w v cv
 |.panicked chain,.panic=>yp chain
 |_,_=>False
def fJ (P:Program)(G:Nat->Option (List ZL))(Γ:aD)(H:ZK)(w:World)(K:ZQ->ZK->Prop)(e:Ending)(w':World):Prop :=
 ∃r H' Γ',HV P Γ' H' w' e r/\K r H'/\ZT P G Γ' H' w'/\ZV Γ H w Γ' H' w'/\H.A<=H'.A
def ae (P:Program)(G:Nat->Option (List ZL))(f:FuncId)(args:List ZL)(H:ZK)(K:ZQ->ZK->Prop):Prop :=
  (∃ fn, P.funcs[f]? = some fn ∧ fn.body.isNone = false ∧ (fn.name == "runtime.NumGoroutine") = false) ∧
 ∀ Γ w cargs,ZT P G Γ H w->dH P Γ H w args cargs->CallsIn Fence.wide 0 P f cargs w (fJ P G Γ H w K)
def ak (P:Program)(G:Nat->Option (List ZL))(fv:ZL)(args:List ZL)(H:ZK)(K:ZQ->ZK->Prop):Prop :=
 ∀ Γ w cfv cargs,ZT P G Γ H w->ZO P Γ H w fv cfv->dH P Γ H w args cargs ->
  ∃d,(Deferred.ofValue cfv cargs).run P w=.ok d w /\
   ((∃f as,(invoke d.target d.args).run P w=.ok (.enter f as) w/\CallsIn Fence.wide 0 P f as w (fJ P G Γ H w K)) \/
    (∃l f tm asg body,(invoke d.target d.args).run P w=.ok (.round l f tm asg body) w/\RoundIn Fence.wide 0 P l f tm asg body w (fJ P G Γ H w K)) \/
    (∃cv w',(invoke d.target d.args).run P w=.ok (.value cv) w'/\fJ P G Γ H w K (.returned cv) w'))
variable {K K':ZQ->ZK->Prop}
def fJ.mono {e:Ending}(h:fJ P G Γ H w K e w')(hk:∀r H',K r H'->K' r H'):fJ P G Γ H w K' e w' :=
 let ⟨r,H',Γ',h1,h2,h3⟩:=h;⟨r,H',Γ',h1,hk _ _ h2,h3⟩
theorem ae.mono (h:ae P G f args H K)(hk:∀r H',K r H'->K' r H'):ae P G f args H K' :=
 ⟨h.1,fun Γ w cargs R hr=>(h.2 Γ w cargs R hr).mono fun _ _ hp=>hp.mono hk⟩
theorem ak.mono {fv:ZL}(h:ak P G fv args H K)(hk:∀r H',K r H'->K' r H'):ak P G fv args H K':=by
 intro Γ w cfv cargs R hv hr;obtain⟨d,h1,h2⟩:=h Γ w cfv cargs R hv hr;refine⟨d,h1,?_⟩;rcases h2 with ⟨f,as,h3,h4⟩|⟨l,f,tm,asg,body,h3,h4⟩|⟨cv,w',h3,h4⟩
 ·exact .inl ⟨f,as,h3,h4.mono fun _ _ hp=>hp.mono hk⟩
 ·exact .inr (.inl ⟨l,f,tm,asg,body,h3,h4.mono fun _ _ hp=>hp.mono hk⟩)
 ·exact .inr (.inr ⟨cv,w',h3,h4.mono hk⟩)
def uI {a b:List ZL}{x y:Array Value}(h:dH P Γ H w a x)(k:dH P Γ H w b y):dH P Γ H w (a++b) (x++y):=by
 refine⟨by rw[YU,List.length_append,h.1,k.1],fun i h1 h2=>?_⟩;have hx:=h.1;by_cases hi:i<a.length
 ·rw[Wj hi,Array.getElem_append_left V];exact h.2 i hi _
 ·rw[Wt V,Array.getElem_append_right V];simp only[hx];exact k.2 _ (by simp only[List.length_append]at h1;omega) _
theorem ak.X {f:FuncId}{first cap args:List ZL}{K:ZQ->ZK->Prop}(h:ae P G f (first++args++cap) H K):ak P G (.X f first cap) args H K:=by
 intro Γ w cfv cargs R hv hr;cases hv with
 | @X _ _ _ fs cs hfs hcs hf hc =>
  refine⟨{ target:=.fn (.func f) cs.toArray,args:=fs.toArray++cargs },rfl,.inl ⟨f,fs.toArray++cargs++cs.toArray,?_,?_⟩⟩
  ·obtain⟨fn,hfn,hb,hn⟩:=h.1;show (callFunc f (fs.toArray++cargs++cs.toArray)).run P w=_;unfold callFunc;rw[aq (run_program P w)];simp only[hfn];rw[hn,hb];rfl
  ·exact h.2 Γ w _ R (uI (uI ⟨by simpa using hfs,fun i h1 h2=>by simpa using hf i h1 (by simpa using h2)⟩ hr) ⟨by simpa using hcs,fun i h1 h2=>by simpa using hc i h1 (by simpa using h2)⟩)
def ZO.HW (h:ZO P Γ H w (.lit v) cv):cv=v:=by cases h;rfl
theorem ak.ext {fn:Func}{e:Array Value->Sem Value}{vs:List Value}{r:ZL}(hf:P.funcs[f]?=some fn)(hb:fn.body.isNone=true)
    (hn : (fn.name == "runtime.NumGoroutine") = false) (h1 : Extern.findNext fn = none) (h2 : Extern.find fn = some e) (ha : args = vs.map .lit) (hrun : ∀ w, (e vs.toArray).run P w = .ok v w)
  (hrel:∀ Γ H w,ZO P Γ H w r v) (hK:K (.ret r) H):ak P G (.X f [] []) args H K:=by
 intro Γ w cfv cargs R hv hr;subst ha;have hc:cargs=vs.toArray:=by
  obtain⟨hs,hr⟩:=hr;apply Array.ext
  ·simpa using hs
  ·intro i h1 h2;have:=hr i (by simpa using h2) h1;simp only[Vw]at this;simpa using this.HW
 subst hc;cases hv with
 | @X _ _ _ fs cs hfs hcs hf' hc' =>
  obtain rfl:fs=[]:=Vp (by simpa using hfs);obtain rfl:cs=[]:=Vp (by simpa using hcs);refine⟨{ target:=.fn (.func f) #[],args:=#[]++vs.toArray },rfl,.inr (.inr ⟨v,w,?_,.ret r,H,Γ,hrel Γ H w,hK,R,ZV.refl _ _ _,ZJ⟩)⟩;show (callFunc f (#[]++vs.toArray++#[])).run P w=_;unfold callFunc;rw[aq (run_program P w)];simp only[hf];rw[hn,hb];simp only[Bool.false_eq_true,if_false,if_true,h1,h2];have e0:#[]++vs.toArray++#[]=vs.toArray:=ZG
  rw[e0];have hm:(mark (.extern f)).run P w=.ok () w:=rfl;rw[aq hm];rw[aq (hrun w)];rfl
inductive TagK {α:Type}(K:α->Prop):Type where
 |mk
inductive TagR (K:ZQ->ZK->Prop):Type where
 |mk
inductive TagP (p q:Prop):Type where
 |mk
def bj {α:Type}(o:Option α)(K:α->Prop)(_d:TagK K:=.mk):Prop:=∃a,o=some a/\K a
def aH (ρ:Env)(dst:Option Tmp)(v:ZL):Env :=
 match dst with
 |some d=>fun t=>if t=d then v else ρ t
 |none=>ρ
def gU (all:Array Oper)(ρ:Env)(o:Oper):Option Bool :=
 match o.guard with
 |none=>some true
 |some (j,want) =>
  match (all[j]?).bind (·.dst) with
  |some d=>match ρ d with
   |.lit (.bool b)=>some (b == want)
   |.lit _=>some false
   |_=>none
  |none=>some false
def eP (n:Nat)(o:Oper):Bool:=match o.dst with|some d=>decide (d<n)|none=>true
def lY (H:ZK)(op:BinOp)(x y:ZL):Option Bool :=
 match op,y with
 |.eql,.lit (.slice none 0 0)|.neq,.lit (.slice none 0 0)=>match x with
  |.Q n _=>some (decide (0<n))
  |.U id g _ n _=>match H.na id g with
   |some _=>some (decide (0<n))
   |none=>none
  |_=>none
 |_,_=>none
def sR (d:Option TypeDesc):Bool:=match d with|some (.slice _)=>true|_=>false
def sS (P:Program)(op:BinOp)(t:TypeId)(k:Option Bool)(Kb:ZL->Prop)(p:Prop):Prop :=
 match k with
 |some k=>sR (P.underlying t)=true/\∀b:Bool,(k=true->b=false)->Kb (.lit (.bool (if op == .neq then !b else b)))
 |none=>p
def aX (P:Program)(G:Nat->Option (List ZL))(rd:Option Nat)(Q:AX->St->Prop)(o:Oper)(K:St->Prop)(s:St):Prop :=
 match o.op with
 |.call { callee:=.value fv,args,.. }=>ak P G (ar G s.ρ fv) (args.toList.map (ar G s.ρ)) s.H fun r H'=>fI H' rd/\match r with
  |.ret v=>K ⟨aH s.ρ o.dst v,H'⟩
  |.panic=>Q .panic ⟨s.ρ,H'⟩
 |.panic x=>(∃t v,(ar G s.ρ x)=.lit (.iface t v))/\Q .panic s
 |.binOp op t x y u=>sS P op t (lY s.H op (ar G s.ρ x) (ar G s.ρ y)) (fun v=>K ⟨aH s.ρ o.dst v,s.H⟩) (bj (ao P G s.ρ s.H s.H.A (.binOp op t x y u)) fun vH=>K ⟨aH s.ρ o.dst vH.1,vH.2⟩)
 |op=>bj (ao P G s.ρ s.H s.H.A op) fun vH=>K ⟨aH s.ρ o.dst vH.1,vH.2⟩
def opsV (P:Program)(G:Nat->Option (List ZL))(rd:Option Nat)(Q:AX->St->Prop)(all:Array Oper):List Oper->St->Prop
 | [],s=>Q .normal s
 |o :: rest,s=>bj (gU all s.ρ o) fun t=>if t=true then aX P G rd Q o (opsV P G rd Q all rest) s else opsV P G rd Q all rest ⟨aH s.ρ o.dst (.lit undef),s.H⟩
def pC {s:St}{all:Array Oper}{o:Oper}{t:Bool}(hs:Z1 P G n wb Γ s a w)(h:gU all s.ρ o=some t):Region.wanted o (yielded all a.tmps)=t:=by
 unfold gU at h;unfold Region.wanted;split at h
 ·rename_i hg;rw[hg];simpa using h
 ·rename_i j want hg;rw[hg];simp only;split at h
  ·rename_i d hd;have he:=hs.env d;have hy:yielded all a.tmps j=match a.tmps[d]? with|some (.bool b)=>some b|_=>none:=by
    unfold yielded;rw[hd];rfl
   rw[hy];have hgd:a.tmps.getD d undef=(a.tmps[d]?).getD undef:=ZG;rw[hgd]at he;split at h
   ·rename_i b hb;rw[hb]at he;simp only[Option.some.injEq]at h;cases hd:a.tmps[d]? with
    |none=>rw[hd]at he;cases he
    |some v =>
     rw[hd]at he;cases he;simp only;rw[<- h];cases b<;>cases want<;>rfl
   ·rename_i v hnb hb;rw[hb]at he;simp only[Option.some.injEq]at h;subst h;cases hd:a.tmps[d]? with
    |none=>simp
    |some cv =>
     rw[hd]at he;cases he;cases cv with
     |bool b=>exact(hnb b rfl).elim
     |_=>rfl
   ·cases h
  ·rename_i hd;have hy:yielded all a.tmps j=none:=(by unfold yielded;rw[hd];rfl);rw[hy];simpa using h
def ja {s:St}{dst:Option Tmp}{v:ZL}{H':ZK}(hs:Z1 P G n wb Γ s a w)(hd:∀d,dst=some d->d<n)(E:ZV Γ s.H w Γ' H' w')(hn:s.H.A<=H'.A)
  (R:ZT P G Γ' H' w') (hv:ZO P Γ' H' w' v cv):Z1 P G n wb Γ' ⟨aH s.ρ dst v,H'⟩ (a.put dst cv) w':=by
 cases dst with
 |none=>exact⟨hs.size,fun t=>(hs.env t).ba E hn,R,hs.defers.ba E,VM hs.low E.size⟩
 |some d =>
  have hdn:=hd d rfl;refine⟨by simp[Act.put,hs.size],fun t=>?_,R,hs.defers.ba E,VM hs.low E.size⟩;simp only[Act.put,aH];by_cases ht:t=d
  ·subst ht;rw[Vh rfl];have:(a.tmps.setIfInBounds t cv).getD t undef=cv:=(by simp[hs.size,hdn]);rw[this];exact hv
  ·rw[Vg ht];have:(a.tmps.setIfInBounds d cv).getD t undef=a.tmps.getD t undef:=by
    simp only[V0];rw[Wg,Vg V]
   rw[this];exact(hs.env t).ba E hn
def dN.ba (h:dN Γ H rd rb)(E:ZV Γ H w Γ' H' w')(hn:H.A<=H'.A)(R:ZT P G Γ H w)(hi:fI H' rd):dN Γ' H' rd rb:=by
 cases rd with
 |none=>exact h
 |some id =>
  obtain⟨b,st,pend,n,env,ps,asg,body,h1,h2,h3⟩:=h;obtain⟨st',pend',n',env',ps',asg',body',h3'⟩:=hi;have hlt:=R.A id _ h3;obtain⟨x,hx,hle⟩:=E.na id hlt (Vn hlt hn) _ h3';rw[h3]at hx;cases hx;exact⟨b,_,_,_,_,_,_,_,h1,hle.1.trans h2,h3'⟩
def HX {b:ZR}(h:H.lay id b=some H'){j:Nat}{st:LoopState}{pend:Option Code}{env:Env}{ps:Array Tmp}{asg body:Code}
  (hj:H.get j=some (.loop st pend n env ps asg body)) (hlt:j<H.A):H'.get j=some (.loop st pend n env ps asg body):=by
 obtain⟨h1,_⟩:=ke h;have hne:j≠id:=by
  rintro rfl;unfold ZK.lay at h;rw[Vg V,hj]at h;cases h
 rw[h1,Vg hne];exact hj
def yr (h:dN Γ H rd rb)(hk:∀j st pend n env ps asg body,H.get j=some (.loop st pend n env ps asg body)->∃st pend n env ps asg body,H'.get j=some (.loop st pend n env ps asg body)):fI H' rd:=by
 cases rd with
 |none=>trivial
 |some id =>
  obtain⟨b,st,pend,n,env,ps,asg,body,h1,h2,h3⟩:=h;exact hk id _ _ _ _ _ _ _ h3
def yt {ρ:Env}{o:Op}{v:ZL}(R:ZT P G Γ H w)(h:ao P G ρ H id o=some (v,H')):∀j st pend n env ps asg body,H.get j=some (.loop st pend n env ps asg body) ->
  ∃st pend n env ps asg body,H'.get j=some (.loop st pend n env ps asg body):=by
 have same:H'=H->∀j st pend n env ps asg body,H.get j=some (.loop st pend n env ps asg body)->∃st pend n env ps asg body,H'.get j=some (.loop st pend n env ps asg body):=by
  rintro rfl j st pend n env ps asg body hj;exact⟨_,_,_,_,_,_,_,hj⟩
 have lay:∀b,H.lay id b=some H'->∀j st pend n env ps asg body,H.get j=some (.loop st pend n env ps asg body)->∃st pend n env ps asg body,H'.get j=some (.loop st pend n env ps asg body):=by
  intro b hb j st pend n env ps asg body hj;exact⟨_,_,_,_,_,_,_,HX hb hj (R.A j _ hj)⟩
 have upd:∀id g e cells b,H.get id=some (.J g e cells)->H'=H.upd id b->∀j st pend n env ps asg body,H.get j=some (.loop st pend n env ps asg body)->∃st pend n env ps asg body,H'.get j=some (.loop st pend n env ps asg body):=by
  rintro id g e cells b hb rfl j st pend n env ps asg body hj;refine⟨st,pend,n,env,ps,asg,body,?_⟩;rw[ah,Vg]
  ·exact hj
  ·rintro rfl;rw[hb]at hj;cases hj
 have updM:∀id es b,H.get id=some (.mp es)->H'=H.upd id b->∀j st pend n env ps asg body,H.get j=some (.loop st pend n env ps asg body)->∃st pend n env ps asg body,H'.get j=some (.loop st pend n env ps asg body):=by
  rintro id es b hb rfl j st pend n env ps asg body hj;refine⟨st,pend,n,env,ps,asg,body,?_⟩;rw[ah,Vg]
  ·exact hj
  ·rintro rfl;rw[hb]at hj;cases hj
 have updU:∀t m k x,mG P H t m k x=some (v,H')->∀j st pend n env ps asg body,H.get j=some (.loop st pend n env ps asg body)->∃st pend n env ps asg body,H'.get j=some (.loop st pend n env ps asg body):=by
  intro t m k x h;unfold mG at h;split at h
  ·split at h
   ·split at h
    ·rename_i hg;simp only[Option.some.injEq,Prod.mk.injEq]at h;exact updM _ _ _ hg h.2.symm
    ·cases h
   ·cases h
  ·cases h
 cases o with
 |makeMap t r =>
  simp only[ao]at h;split at h
  ·simp only[Ve,Prod.mk.injEq]at h;obtain⟨_,hl,_,rfl⟩:=h;exact lay _ hl
  ·cases h
 |lookup a b c d=>simp only[ao,Ve,Prod.mk.injEq]at h;obtain⟨_,_,_,rfl⟩:=h;exact same rfl
 |mapUpdate t m k x=>simp only[ao]at h;exact updU _ _ _ _ h
 |insert t m k x=>simp only[ao]at h;exact updU _ _ _ _ h
 |mapEntry t m k =>
  simp only[ao]at h;unfold pq at h;split at h
  ·split at h
   ·split at h
    ·rename_i hg;split at h
     ·simp only[Option.some.injEq,Prod.mk.injEq]at h;exact updM _ _ _ hg h.2.symm
     ·simp only[Option.some.injEq,Prod.mk.injEq]at h;exact updM _ _ _ hg h.2.symm
    ·cases h
   ·cases h
  ·cases h
 |entryStore t m s x =>
  simp only[ao]at h;unfold qI at h;split at h
  ·split at h
   ·rename_i hg;split at h
    ·simp only[Option.some.injEq,Prod.mk.injEq]at h;exact updM _ _ _ hg h.2.symm
    ·cases h
   ·cases h
  ·cases h
 |alloc e =>
  simp only[ao,Vk,Ve,Prod.mk.injEq]at h;obtain⟨_,_,_,hl,_,rfl⟩:=h;exact lay _ hl
 |box e x =>
  simp only[ao,Ve,Prod.mk.injEq]at h;obtain⟨_,hl,_,rfl⟩:=h;exact lay _ hl
 |buildSlice t len parts =>
  simp only[ao,nU]at h;split at h
  ·split at h
   ·simp only[Vk,Ve,Prod.mk.injEq]at h;obtain⟨_,_,_,_,_,hl,_,rfl⟩:=h;exact lay _ hl
   ·cases h
  ·cases h
 |store t a x =>
  simp only[ao]at h;split at h
  ·simp only[Ve,Prod.mk.injEq]at h;obtain⟨_,hst,_,rfl⟩:=h;unfold j9 at hst;split at hst
   ·split at hst
    ·rename_i hg;split at hst
     ·simp only[Option.some.injEq]at hst;exact upd _ _ _ _ _ hg hst.symm
     ·cases hst
    ·cases hst
   ·cases hst
  ·cases h
 |makeSlice t l c =>
  simp only[ao,mH]at h;split at h
  ·split at h
   ·simp only[Vk,Ve,Prod.mk.injEq]at h;obtain⟨_,_,_,hl,_,rfl⟩:=h;exact lay _ hl
   ·cases h
  ·cases h
 |call c =>
  simp only[ao]at h;split at h
  ·rename_i b hb;unfold gT at h;split at h
   ·simp only[Ve,Prod.mk.injEq]at h;obtain⟨_,_,_,rfl⟩:=h;exact same rfl
   ·unfold bS at h;split at h
    ·split at h
     ·simp only[Vk]at h;obtain⟨_,_,_,_,h⟩:=h;split at h
      ·split at h
       ·simp only[Option.some.injEq,Prod.mk.injEq]at h;exact same h.2.symm
       ·split at h
        ·simp only[Ve,Prod.mk.injEq]at h;obtain⟨_,hl,_,rfl⟩:=h;exact lay _ hl
        ·cases h
      ·simp only[Vk]at h;obtain⟨⟨e',cells⟩,hl,h⟩:=h;simp only at h;split at h
       ·split at h
        ·simp only[Option.some.injEq,Prod.mk.injEq]at h;exact same h.2.symm
        ·simp only[Option.some.injEq,Prod.mk.injEq]at h;exact upd _ _ _ _ _ (jJ hl) h.2.symm
       ·cases h
      ·cases h
     ·cases h
    ·cases h
   ·unfold lS at h;split at h
    ·split at h
     ·simp only[Vk]at h;obtain⟨_,_,h⟩:=h;split at h
      ·simp only[Vk]at h;obtain⟨⟨e',cells⟩,hl,h⟩:=h;simp only at h;split at h
       ·simp only[Option.some.injEq,Prod.mk.injEq]at h;exact upd _ _ _ _ _ (jJ hl) h.2.symm
       ·cases h
      ·cases h
     ·cases h
    ·cases h
   ·unfold jq at h;split at h
    ·split at h
     ·simp only[Option.some.injEq,Prod.mk.injEq]at h;exact same h.2.symm
     ·simp only[Vk]at h;obtain⟨⟨e',cells⟩,hl,h⟩:=h;simp only at h;split at h
      ·simp only[Option.some.injEq,Prod.mk.injEq]at h;exact same h.2.symm
      ·simp only[Vk]at h;obtain⟨_,_,h⟩:=h;split at h
       ·simp only[Option.some.injEq,Prod.mk.injEq]at h;exact upd _ _ _ _ _ (jJ hl) h.2.symm
       ·cases h
     ·cases h
    ·cases h
   ·simp only[Vk,Ve,Prod.mk.injEq]at h;obtain⟨_,_,_,_,_,rfl⟩:=h;exact same rfl
   ·simp only[Vk,Ve,Prod.mk.injEq]at h;obtain⟨_,_,_,_,_,rfl⟩:=h;exact same rfl
   ·cases h
  ·cases h
 |pick c a b =>
  simp only[ao]at h;split at h
  ·simp only[Option.some.injEq,Prod.mk.injEq]at h;exact same h.2.symm
  ·cases h
 |makeFunc fn f c =>
  simp only[ao]at h;split at h
  ·simp only[Option.some.injEq,Prod.mk.injEq]at h;exact same h.2.symm
  ·cases h
 |makeInterface t x =>
  simp only[ao]at h;split at h
  ·simp only[Ve,Prod.mk.injEq]at h;obtain⟨_,_,_,rfl⟩:=h;exact same rfl
  ·cases h
 |slice t x lo hi mx =>
  simp only[ao]at h;split at h
  ·simp only[Ve,Prod.mk.injEq]at h;obtain⟨_,_,_,rfl⟩:=h;exact same rfl
  ·cases h
 |fieldAddr s x f =>
  simp only[ao,Vk]at h;obtain⟨_,_,h⟩:=h;split at h
  ·simp only[Ve,Prod.mk.injEq]at h;obtain⟨_,_,_,rfl⟩:=h;exact same rfl
  ·simp only[Option.some.injEq,Prod.mk.injEq]at h;exact same h.2.symm
  ·cases h
 |field s x f =>
  simp only[ao,Vk]at h;obtain⟨_,_,h⟩:=h;split at h
  ·simp only[Ve,Prod.mk.injEq]at h;obtain⟨_,_,_,rfl⟩:=h;exact same rfl
  ·simp only[Ve,Prod.mk.injEq]at h;obtain⟨_,_,_,rfl⟩:=h;exact same rfl
  ·cases h
 |indexAddr t x i =>
  simp only[ao]at h;split at h
  ·simp only[Ve,Prod.mk.injEq]at h;obtain⟨_,_,_,rfl⟩:=h;exact same rfl
  ·cases h
 |move x=>simp only[ao,Option.some.injEq,Prod.mk.injEq]at h;exact same h.2.symm
 |assign x=>simp only[ao,Option.some.injEq,Prod.mk.injEq]at h;exact same h.2.symm
 |build t p=>simp only[ao,Ve,Prod.mk.injEq]at h;obtain⟨_,_,_,rfl⟩:=h;exact same rfl
 |load t p=>simp only[ao,Ve,Prod.mk.injEq]at h;obtain⟨_,_,_,rfl⟩:=h;exact same rfl
 |nilCheck p=>simp only[ao,Ve,Prod.mk.injEq]at h;obtain⟨_,_,_,rfl⟩:=h;exact same rfl
 |binOp a b c d e=>simp only[ao,Ve,Prod.mk.injEq]at h;obtain⟨_,_,_,rfl⟩:=h;exact same rfl
 |unOp a b c=>simp only[ao,Ve,Prod.mk.injEq]at h;obtain⟨_,_,_,rfl⟩:=h;exact same rfl
 |convert a b c=>simp only[ao,Ve,Prod.mk.injEq]at h;obtain⟨_,_,_,rfl⟩:=h;exact same rfl
 |index a b c=>simp only[ao,Ve,Prod.mk.injEq]at h;obtain⟨_,_,_,rfl⟩:=h;exact same rfl
 |extract a b=>simp only[ao,Ve,Prod.mk.injEq]at h;obtain⟨_,_,_,rfl⟩:=h;exact same rfl
 |_=>simp[ao]at h
end Go.Hx
namespace Go.Hx
variable {P:Program} {G:Nat->Option (List ZL)} {Γ Γ':aD} {H H':ZK} {w w':World}
variable {k:Bool}{n:Nat}{cx:Value}
def BR {cells:List ZL}(hx:ZO P Γ H w (.Q n cells) cx):∃a m c,cx=.slice a m c/\(decide (0<n)=true->a.isNone=false):=by
 cases hx with
 |nu a cap=>exact⟨a,0,cap,rfl,fun hk=>by simp at hk⟩
 |Q=>exact⟨_,_,_,rfl,fun _=>rfl⟩
def BS {id g o z:Nat}(h:(match H.na id g with|some _=>some (decide (0<n))|none=>none)=some k)(hx:ZO P Γ H w (.U id g o n z) cx):∃a m c,cx=.slice a m c/\(k=true->a.isNone=false):=by
 split at h
 ·rename_i ec hl;simp only[Option.some.injEq]at h;rcases kg (e:=ec.1) (cells:=ec.2) hx hl with ⟨b,base,m,a,cap,_,rfl,_,_,_⟩|⟨_,_,rfl,rfl⟩
  ·exact⟨_,_,_,rfl,fun _=>rfl⟩
  ·refine⟨_,_,_,rfl,fun hk=>?_⟩;rw[<- h]at hk;simp at hk
 ·cases h
def HY {op:BinOp}{x y:ZL}{cy:Value}(h:lY H op x y=some k)(hx:ZO P Γ H w x cx)(hy:ZO P Γ H w y cy):
  (op=.eql\/op=.neq)/\cy=.slice none 0 0/\∃a n c,cx=.slice a n c/\(k=true->a.isNone=false):=by
 unfold lY at h;split at h
 ·cases hy;split at h
  ·simp only[Option.some.injEq]at h;rw[<- h];exact⟨.inl rfl,rfl,BR hx⟩
  ·exact⟨.inl rfl,rfl,BS h hx⟩
  ·cases h
 ·cases hy;split at h
  ·simp only[Option.some.injEq]at h;rw[<- h];exact⟨.inr rfl,rfl,BR hx⟩
  ·exact⟨.inr rfl,rfl,BS h hx⟩
  ·cases h
 ·cases h
def BU {t:TypeId}(ht:sR (P.underlying t)=true)(a:Option Addr)(n c:Nat):(Op.equal t (.slice a n c) (.slice none 0 0)).run P w=.ok a.isNone w:=by
 unfold sR at ht;split at ht
 ·rename_i e he;show (Op.equalIn (9999+1) t (.slice a n c) (.slice none 0 0)).run P w=_;unfold Op.equalIn;rw[aq (cO he)];cases a<;>rfl
 ·cases ht
section
variable {n:Nat} {wb:nnc} {rd rb:Option Nat} {Q:AX->St->Prop}
def yu {o:Oper}{K:St->Prop}{s:St}{a:Act}{A:Act->World->Prop}{Q':Exit->Act->World->Prop}(hd:eP n o=true)(hs:Z1 P G n wb Γ s a w)(hr:dN Γ s.H rd rb)(h:aX P G rd Q o K s)
  (hnext:∀ Γ' s' a' w',K s'->Z1 P G n wb Γ' s' a' w'->ZV Γ s.H w Γ' s'.H w'->s.H.A<=s'.H.A->dN Γ' s'.H rd rb->(∃cv,a'=a.put o.dst cv)->A a' w')
  (hq:∀ Γ' s' a' w' chain,Q .panic s'->yp chain->Z1 P G n wb Γ' s' a' w'->ZV Γ s.H w Γ' s'.H w'->s.H.A<=s'.H.A->dN Γ' s'.H rd rb->a'=a->Q' (.panic chain) a' w'):
  o.wpIn (dZ rb) 0 P a w A Q':=by
 have hdst:∀d,o.dst=some d->d<n:=by
  intro d hd';unfold eP at hd;rw[hd']at hd;simpa using hd
 have plain:∀vH:ZL × ZK,ao P G s.ρ s.H s.H.A o.op=some vH->K ⟨aH s.ρ o.dst vH.1,vH.2⟩->o.wpIn (dZ rb) 0 P a w A Q':=by
  rintro⟨v,H'⟩ hop hk;refine⟨fun _ _=>trivial,?_⟩;rw[Oper.semAt_eq _ _ _ (fun c hc=>by rw[hc]at hop;simp[ao]at hop)];obtain⟨nx,cv,Γ',w',hrun,hnx,E,hn,R,hv⟩:=yo hs.heap (jr hs) hop;rw[hrun];have hri:=yr hr (yt hs.heap hop);have hs':=ja hs hdst E hn R hv;have hr':=hr.ba E hn hs.heap hri;rcases hnx with rfl|⟨rfl,rfl⟩
  ·exact hnext Γ' _ _ w' hk hs' E hn hr' ⟨_,rfl⟩
  ·exact hnext Γ' _ _ w' hk hs' E hn hr' ⟨_,rfl⟩
 unfold aX at h;split at h
 ·rename_i fv args ats hop;refine⟨fun _ _=>trivial,?_⟩;rw[Oper.semAt_eq _ _ _ (fun c hc=>by rw[hc]at hop;cases hop)];obtain⟨d,h1,h2⟩:=h Γ w (a.eval fv) (args.map a.eval) hs.heap (jr hs fv) ⟨ZG,fun i h1 h2=>by simp only[Vw,XO,Wm];exact jr hs _⟩;have hex:(execOp a.eval o).run P w=(invoke d.target d.args).run P w:=by
   unfold execOp;simp only[hop];unfold resolve;simp only;rw[aq h1]
  have cont:∀e w',fJ P G Γ s.H w (fun r H'=>fI H' rd/\match r with
    |.ret v=>K ⟨aH s.ρ o.dst v,H'⟩
    |.panic=>Q .panic ⟨s.ρ,H'⟩) e w'->(match e with
     |.returned v=>A (a.put o.dst v) w'
     |.panicked chain=>Q' (.panic chain) a w'
     |.outgrown=>LetsOut Q'):=by
   rintro e w' ⟨r,H',Γ',hend,⟨hri,hk⟩,R,E,hn⟩;have hr':=hr.ba E hn hs.heap hri;cases e with
   |returned cv =>
    cases r with
    |ret v=>exact hnext Γ' _ _ w' hk (ja hs hdst E hn R hend) E hn hr' ⟨_,rfl⟩
    |panic=>exact hend.elim
   |panicked chain =>
    cases r with
    |ret v=>exact hend.elim
    |panic =>
     exact hq Γ' ⟨s.ρ,H'⟩ a w' chain hk hend ⟨hs.size,fun t=>(hs.env t).ba E hn,R,hs.defers.ba E,VM hs.low E.size⟩ E hn hr' rfl
   |outgrown=>cases r<;>exact hend.elim
  rw[hex];rcases h2 with ⟨f,as,h3,h4⟩|⟨l,f,tm,asg,body,h3,h4⟩|⟨cv,w',h3,h4⟩
  ·rw[h3];refine⟨fun hc=>by simp[Fence.wide]at hc,?_⟩;have h4':CallsIn (dZ rb) 0 P f as w _:=h4;refine h4'.mono ?_;intro e w' hp;have:=cont e w' hp;cases e<;>exact this
  ·rw[h3];refine⟨fun hc=>by simp[Fence.wide]at hc,?_⟩;have h4':RoundIn (dZ rb) 0 P l f tm asg body w _:=h4;refine h4'.mono ?_;intro e w' hp;have:=cont e w' hp;cases e<;>exact this
  ·rw[h3];exact cont (.returned cv) w' h4
 ·rename_i x hop;obtain⟨⟨t,v,hx⟩,hk⟩:=h;refine⟨fun _ _=>trivial,?_⟩;rw[Oper.semAt_eq _ _ _ (fun c hc=>by rw[hc]at hop;cases hop)];have he:=jr hs x;rw[hx]at he;have hev:a.eval x=.iface t v:=by
   generalize a.eval x=y at he;cases he;rfl
  have hex:(execOp a.eval o).run P w=.halt (.panic (.iface t v)) w:=by
   unfold execOp;simp only[hop,hev];rfl
  rw[hex];exact hq Γ s a w _ hk ⟨t,v,rfl⟩ hs (ZV.refl _ _ _) ZJ hr rfl
 ·rename_i op t x y u hop;unfold sS at h;split at h
  ·rename_i k hk;obtain⟨ht,hall⟩:=h;obtain⟨hor,hcy,sa,sn,sc,hcx,hsome⟩:=HY hk (jr hs x) (jr hs y);refine⟨fun _ _=>trivial,?_⟩;rw[Oper.semAt_eq _ _ _ (fun c hc=>by rw[hc]at hop;cases hop)];have hex:(execOp a.eval o).run P w=.ok (.value (.bool (if op == .neq then !sa.isNone else sa.isNone))) w:=by
    unfold execOp;simp only[hop,hcx,hcy];rcases hor with rfl|rfl
    ·have h1:(eqGuard .eql t x y (.slice sa sn sc) (.slice none 0 0)).run P w=.ok () w:=rfl;have h2:(binOp .eql t (.slice sa sn sc) (.slice none 0 0)).run P w=.ok (.bool sa.isNone) w:=by
      show ((Op.equal t (.slice sa sn sc) (.slice none 0 0)) >>= fun b=>pure (Value.bool b)).run P w=_;rw[aq (BU ht sa sn sc)];rfl
     have h3:(do eqGuard .eql t x y (.slice sa sn sc) (.slice none 0 0);binOp .eql t (.slice sa sn sc) (.slice none 0 0)).run P w=.ok (.bool sa.isNone) w:=(by rw[aq h1];exact h2);rw[aq h3];rfl
    ·have h1:(eqGuard .neq t x y (.slice sa sn sc) (.slice none 0 0)).run P w=.ok () w:=rfl;have h2:(binOp .neq t (.slice sa sn sc) (.slice none 0 0)).run P w=.ok (.bool (!sa.isNone)) w:=by
      show ((Op.equal t (.slice sa sn sc) (.slice none 0 0)) >>= fun b=>pure (Value.bool !b)).run P w=_;rw[aq (BU ht sa sn sc)];rfl
     have h3:(do eqGuard .neq t x y (.slice sa sn sc) (.slice none 0 0);binOp .neq t (.slice sa sn sc) (.slice none 0 0)).run P w=.ok (.bool (!sa.isNone)) w:=(by rw[aq h1];exact h2);rw[aq h3];rfl
   rw[hex];exact hnext Γ _ _ w (hall sa.isNone hsome) (ja hs hdst (ZV.refl _ _ _) ZJ hs.heap (.lit _)) (ZV.refl _ _ _) ZJ hr ⟨_,rfl⟩
  ·obtain⟨vH,hop',hk⟩:=h;exact plain vH (by rw[hop];exact hop') hk
 ·obtain⟨vH,hop,hk⟩:=h;exact plain vH hop hk
def od {a:Act}{all:Array Oper}{i:Nat}(hi:i<all.size)(cv:Value):Fr (fun t=>all.toList.any fun o=>o.dst == some t) a (a.put all[i].dst cv):=by
 intro t ht;simp only[Yt]at ht;have:=ht all[i] ZG;cases hd:all[i].dst with
 |none=>rfl
 |some d =>
  simp only[Act.put];rw[Wg,Vg];intro hdt;rw[hd,hdt]at this;simp at this
def HZ {id:Nat}{dr:Bool}{all:Array Oper}(hfit:∀o,o∈all.toList->eP n o=true):∀(is:List Nat) (s:St) (Γ:aD) (a:Act) (w:World),(∀i,i∈is->i<all.size) ->
  opsV P G rd Q all (is.filterMap fun i=>all[i]?) s->Z1 P G n wb Γ s a w->dN Γ s.H rd rb ->
  ∀(Q':Exit->Act->World->Prop),(∀e a' w',iy P G n wb rd rb (wr (.region id all dr)) Γ s.H a w Q e a' w'->Q' e a' w')->wpOpsIn (dZ rb) 0 P all Q' is a w:=by
 intro is
 induction is with
 |nil =>
  intro s Γ a w _ h hs hr Q' hq;exact hq _ _ _ (.here (x:=.normal) trivial h hs hr)
 |cons i is ih =>
  intro s Γ a w hi h hs hr Q' hq;have hlt:=hi i ZG;have ho:all[i]?=some all[i]:=Vq hlt;simp only[YO,ho]at h;unfold wpOpsIn;rw[ho];simp only;obtain⟨t,ht,h⟩:=h;rw[pC hs ht];have hd:=hfit all[i] ZG;cases t with
  |true =>
   simp only[if_true]at h ⊢;refine yu hd hs hr h ?_ ?_
   ·rintro Γ' s' a' w' hk hs' E hn hr' ⟨cv,rfl⟩;exact ih s' Γ' _ w' (fun j hj=>hi j (by simp[hj])) hk hs' hr' Q' fun e a'' w'' hp=>hq _ _ _ (hp.step E hn (od hlt cv) fun _ h=>h)
   ·rintro Γ' s' a' w' chain hp hc hs' E hn hr' rfl;exact hq _ _ _ ⟨.panic,s',Γ',hc,hp,hs',E,hn,hr',.refl _ _⟩
  |false =>
   simp only[Bool.false_eq_true,if_false]at h ⊢;refine⟨fun _ _=>trivial,?_⟩;have hdst:∀d,all[i].dst=some d->d<n:=by
    intro d hd';unfold eP at hd;rw[hd']at hd;simpa using hd
   have hs':=ja (v:=.lit undef) (cv:=undef) hs hdst (ZV.refl Γ s.H w) ZJ hs.heap (.lit _);exact ih ⟨aH s.ρ all[i].dst (.lit undef),s.H⟩ Γ _ w (fun j hj=>hi j (by simp[hj])) h hs' hr Q' fun e a'' w'' hp=>hq _ _ _ (hp.step (ZV.refl _ _ _) ZJ (od hlt _) fun _ h=>h)
def BV {α:Type}(l:List α):(List.range l.length).filterMap (fun i=>l[i]?)=l:=by
 induction l with
 |nil=>rfl
 |cons x xs ih =>
  rw[List.length_cons,Zl,YO];simp only[List.getElem?_cons_zero];rw[List.filterMap_map];congr 1
theorem W.region {id:Nat}{ops:Array Oper}{s:St}(hfit:ops.toList.all (eP n)=true)(h:opsV P G rd Q ops ops.toList s):W P G n rd (.region id ops false) Q s:=by
 intro wb Γ a w rb hs hr;refine wpIn_region (HZ (id:=id) (dr:=false) (fun o ho=>VG.1 hfit o ho) _ s Γ a w (fun i hi=>Vs.1 hi) ?_ hs hr _ fun _ _ _ hp=>hp);have:(List.range ops.size).filterMap (fun i=>ops[i]?)=ops.toList:=by
  have:=BV ops.toList;simpa using this
 rw[this];exact h
def sT {b:Frame}{a:Act}{k:List Item}{cs:List Frame}{c:Code}:
  step P (lone (b.atR a (.code (.scope c) :: k)) cs w)=.next (lone (b.atR a (.code c :: .inScope c :: k)) cs w) :=
 step_lone_go (by simp[stepG,stepG.exec,Frame.atR])
def Ia {b:Frame}{a:Act}{k:List Item}{cs:List Frame}{c:Code}:
  step P (lone (b.atR a (.inScope c :: k)) cs w)=.next (lone (b.atR a k) cs w) :=
 step_lone_go (by simp[stepG,stepG.exec,Frame.atR])
def noGoto (Q:AX->St->Prop):AX->St->Prop
 |.goto _,_=>False
 |x,s=>Q x s
theorem W.scope {c:Code}{s:St}(h:W P G n rd c (noGoto Q) s):W P G n rd (.scope c) Q s:=by
 intro wb Γ a w rb hs hr b k cs hro hb hrm;have h0:(lone (b.atR a (.code (.scope c) :: k)) cs w).fenced P (dZ rb):=fenced_calm hb hrm rfl;obtain⟨e,a',w',hp,harr⟩:=h wb Γ a w rb hs hr b (.inScope c :: k) cs hro hb hrm;obtain⟨x,s',Γ',hx,hq,hrest⟩:=hp;cases e with
 |normal =>
  cases x with
  |normal=>exact⟨.normal,a',w',⟨.normal,s',Γ',hx,hq,hrest⟩,.head h0 sT (StepsIn.trans harr (.one (fenced_calm hb hrm rfl) Ia))⟩
  |_=>exact hx.elim
 |exit i =>
  cases x with
  |exit j =>
   have hk:exitTo i (.inScope c :: k)=exitTo i k:=(by simp[exitTo]);exact⟨.exit i,a',w',⟨.exit j,s',Γ',hx,hq,hrest⟩,fun k' hk'=>.head h0 sT (harr.1 k' (by rw[hk];exact hk')),
    fun hr' hk'=>let ⟨k₁,h1,h2⟩:=harr.2 hr' (by rw[hk];exact hk');⟨k₁,h1,.head h0 sT h2⟩⟩
  |_=>exact hx.elim
 |goto i=>cases x with
  |goto j=>exact hq.elim
  |_=>exact hx.elim
 |ret=>cases x with
  |ret=>exact⟨.ret,a',w',⟨.ret,s',Γ',hx,hq,hrest⟩,.of_steps (.one h0 sT) harr⟩
  |_=>exact hx.elim
 |panic ch=>cases x with
  |panic=>exact⟨.panic ch,a',w',⟨.panic,s',Γ',hx,hq,hrest⟩,.of_steps (.one h0 sT) harr⟩
  |_=>exact hx.elim
 |outgrown=>cases x<;>exact hx.elim
end
def jb (t:Bool)(p q:Prop)(_d:TagP p q:=.mk):Prop:=(t=true->p)/\(t=false->q)
def vc (P:Program)(G:Nat->Option (List ZL))(n:Nat)(rd:Option Nat):Code->(AX->St->Prop)->St->Prop
 |.skip,Q,s=>Q .normal s
 |.label _,Q,s=>Q .normal s
 |.region _ ops false,Q,s=>opsV P G rd Q ops ops.toList s
 |.region id ops true,Q,s=>W P G n rd (.region id ops true) Q s
 |.seq a b,Q,s=>vc P G n rd a (kQ (vc P G n rd b Q) Q) s
 |.cond c a b,Q,s=>bj (match ar G s.ρ c with|.lit (.bool t)=>some t|_=>none) fun t=>jb t (vc P G n rd a Q s) (vc P G n rd b Q s)
 |.block id c,Q,s=>vc P G n rd c (mM id Q) s
 |.loop c,Q,s=>W P G n rd (.loop c) Q s
 |.rangeFunc f ps asg body,Q,s=>W P G n rd (.rangeFunc f ps asg body) Q s
 |.exit id,Q,s=>Q (.exit id) s
 |.scope c,Q,s=>vc P G n rd c (noGoto Q) s
 |.goto l,Q,s=>Q (.goto l) s
 |.ret,Q,s=>Q .ret s
 |.refuse _,_,_=>False
def fits (n:Nat):Code->Bool
 |.region _ ops _=>ops.toList.all (eP n)
 |.seq a b|.cond _ a b|.rangeFunc _ _ a b=>fits n a && fits n b
 |.block _ c|.loop c|.scope c=>fits n c
 |_=>true
def sU {n:Nat}{rd:Option Nat}:∀(c:Code) (Q:AX->St->Prop) (s:St),fits n c=true->vc P G n rd c Q s->W P G n rd c Q s:=by
 intro c
 induction c with
 |skip=>exact fun Q s _ h=>.skip h
 |label l=>exact fun Q s _ h=>.label h
 |region id ops d =>
  intro Q s hf h;cases d with
  |false=>exact .region hf h
  |true=>exact h
 |seq a b iha ihb =>
  intro Q s hf h;simp only[fits,VL]at hf;refine W.seq ((iha _ s hf.1 h).mono fun x s' hx=>?_);cases x with
  |normal=>exact ihb Q s' hf.2 hx
  |_=>exact hx
 |cond c a b iha ihb =>
  intro Q s hf h;simp only[fits,VL]at hf;obtain⟨t,ht,h1,h2⟩:=h;split at ht
  ·rename_i t' hc;simp only[Option.some.injEq]at ht;subst ht;refine W.cond hc ?_;cases t' with
   |true=>exact iha Q s hf.1 (h1 rfl)
   |false=>exact ihb Q s hf.2 (h2 rfl)
  ·cases ht
 |block id c ih=>exact fun Q s hf h=>.block (ih _ s hf h)
 |loop c _=>exact fun Q s _ h=>h
 |rangeFunc=>exact fun Q s _ h=>h
 |exit id=>exact fun Q s _ h=>.exit h
 |scope c ih=>exact fun Q s hf h=>.scope (ih _ s hf h)
 |goto l=>exact fun Q s _ h=>.goto h
 |ret=>exact fun Q s _ h=>.ret h
 |refuse why=>exact fun Q s _ h=>h.elim
def W.vs {n:Nat}{rd:Option Nat}{c:Code}{Q:AX -> St -> Prop}{s:St}(h:vc P G n rd c Q s)(hf:fits n c=true := by rfl):W P G n rd c Q s := sU c Q s hf h
def W.sq {n:Nat}{rd:Option Nat}{x y:Code}{Q:AX -> St -> Prop}{s:St}(h:vc P G n rd x (kQ (W P G n rd y Q) Q) s)(hf:fits n x=true := by rfl):W P G n rd (.seq x y) Q s := W.seq (sU x _ s hf h)
end Go.Hx
namespace Go.Hx
variable {P:Program} {G:Nat->Option (List ZL)} {Γ Γ':aD} {H H':ZK} {w w':World}
variable {tmps:Array Value}{c:Code}{ρ:Env}{fn:Func}{f:FuncId}{rs:List ResultVar}{args:List ZL}{n r:Nat}{o:Obj}{x:Option (List Deferred)}{w₀:World}{H₀:ZK}{v:ZL}{K:ZQ → ZK → Prop}{Γ₀:aD}
def BW (hr:w.heap[r]?=some (.deferred x))(o:Obj)(ho:∀c e f,o≠.cells c e f)(b i:Nat):(bH w r o).cell? ⟨b,i,none⟩=w.cell? ⟨b,i,none⟩:=by
 simp only[World.cell?,eO];by_cases h:b=r/\r<w.heap.size
 ·rw[Vh h,h.1,hr];cases o<;>first|rfl|exact absurd rfl (ho _ _ _)
 ·rw[Vg h]
def ZO.closed {cv:Value}(hr:w.heap[r]?=some (.deferred x))(ho:∀c e f,o≠.cells c e f)(h:ZO P Γ H w v cv):ZO P Γ H (bH w r o) v cv:=by
 induction h with
 |lit v=>exact .lit v
 |nu a cap=>exact .nu a cap
 |Q hb hlt hlen hcs hcell hrel ih=>exact .Q hb (by rw[j8];exact hlt) hlen hcs (fun i hi=>(BW hr o ho _ _).trans (hcell i hi)) ih
 |U h=>exact .U h
 |O h=>exact .O h
 |ni hb hlt hcs hcell hrel ih=>exact .ni hb (by rw[j8];exact hlt) hcs (fun i hi=>(BW hr o ho _ _).trans (hcell i hi)) ih
 |agg hcs hrel ih=>exact .agg hcs ih
 |nc hcs hrel ih=>exact .nc hcs ih
 |X hfs hcs hf hc ih1 ih2=>exact .X hfs hcs ih1 ih2
 |nk h=>exact .nk h
theorem ZT.closed (R:ZT P G Γ H w)(hr:w.heap[r]?=some (.deferred x))(hown:¬ Γ.fH r)(ho:∀c e f,o≠.cells c e f):ZT P G Γ H (bH w r o) where
 J id g e cells hg:=by
  have h1:=R.J id g e cells hg;cases hΓ:Γ id with
  |none=>rw[hΓ]at h1;exact h1
  |some y =>
   obtain⟨b,base,n⟩:=y;rw[hΓ]at h1;obtain⟨c,a1,a2,a3,a4⟩:=h1;refine⟨c,?_,a2,a3,fun i hi=>let ⟨cv,b1,b2⟩:=a4 i hi;⟨cv,b1,b2.closed hr ho⟩⟩;rw[eO,Vg]
   ·exact a1
   ·rintro⟨rfl,_⟩;exact hown ⟨id,base,n,hΓ⟩
 loop id st pend n env ps asg body hg:=by
  obtain⟨b,rr,a1,a2,a3,a4,a5,a6,a7,a8,a9⟩:=R.loop id st pend n env ps asg body hg;refine⟨b,rr,a1,?_,a3,a4,a5,a6,a7,a8,fun t ht=>(a9 t ht).closed hr ho⟩;rw[eO,Vg]
  ·exact a2
  ·rintro⟨rfl,_⟩;exact hown ⟨id,0,0,a1⟩
 mp id es hg:=by
  obtain⟨b,a1,a2⟩:=R.mp id es hg;refine⟨b,a1,?_⟩;rw[eO,Vg]
  ·exact a2
  ·rintro⟨rfl,_⟩;exact hown ⟨id,0,0,a1⟩
 nq:=R.nq
 inj:=R.inj
 nE:=R.nE
 lt id b base n h:=by rw[j8];exact R.lt id b base n h
 A:=R.A
 nD g cells h:=(R.nD g cells h).closed hr ho
 gsz g cells h:=by
  obtain⟨c,e,f,h1,h2⟩:=R.gsz g cells h;refine⟨c,e,f,?_,h2⟩;rw[eO,Vg]
  ·exact h1
  ·rintro⟨rfl,_⟩;rw[hr]at h1;cases h1
def ZV.closed (E:ZV Γ₀ H₀ w₀ Γ H w)(hx:w.heap[r]?=some (.deferred x))(hr:w₀.heap.size<=r)(o:Obj)(ho:∀c e f,o≠.cells c e f):ZV Γ₀ H₀ w₀ Γ H (bH w r o) where
 os:=E.os
 tape:=E.tape
 output:=E.output
 size:=by rw[j8];exact E.size
 ng b hb ho:=by
  obtain⟨h1,h2⟩:=E.ng b hb ho;refine⟨?_,h2⟩;rw[eO,Vg V];exact h1
 na:=E.na
 ny a ha:=(sB hx (fun _ _ _ h=>by cases h) (fun c e f h=>absurd h (ho c e f)) a).trans (E.ny a ha)
 kind:=E.kind.trans (xL hx fun _ _ _ h=>by cases h)
 newb:=E.newb
def Ib {R:Ending->World->Prop}{u:FrameMode}(hu:u≠.run):∀(ds:List Deferred) (w:World),
  (∀d,d∈ds->∃r,d={ target:=.collected r,args:=#[] }/\w₀.heap.size<=r/\qx Γ w r)->ds.Pairwise (fun d e=>d.target≠e.target) ->
  ZT P G Γ H w->(∀t,ZO P Γ H w (ρ t) (tmps.getD t undef))->ZV Γ₀ H₀ w₀ Γ H w ->
  (∀w',ZT P G Γ H w'->(∀t,ZO P Γ H w' (ρ t) (tmps.getD t undef))->ZV Γ₀ H₀ w₀ Γ H w'->LeavesIn Fence.wide 0 P fn tmps R [] u w') ->
  LeavesInM Fence.wide 0 P fn tmps R ds u w:=by
 intro ds
 induction ds with
 |nil=>intro w _ _ R0 he E h;exact h w R0 he E
 |cons d ds ih =>
  intro w hd hp R0 he E h;obtain⟨r,rfl,hle,hown,hblk⟩:=hd d ZG;have ho:∀c e f,Obj.deferred none≠.cells c e f:=fun _ _ _ h=>by cases h
  refine⟨hu,.inl ⟨r,bH w r (.deferred none),rfl,?_,?_⟩⟩
  ·unfold Instr.takeDeferred;have hg:(getObj r).run P w=.ok (.deferred (some [])) w:=(by simp[getObj,Sem.run,hblk]);rw[aq hg];simp only;have hset:(setObj r (.deferred none)).run P w=.ok () (bH w r (.deferred none)):=(by simp[setObj,Sem.run,hblk,bH]);rw[aq hset];rfl
  ·refine ih _ (fun e he'=>?_) (XG.1 hp).2 (R0.closed hblk hown ho) (fun t=>(he t).closed hblk ho) (E.closed hblk hle _ ho) h;obtain⟨r',rfl,hle',hown',hblk'⟩:=hd e (by simp[he']);refine⟨r',rfl,hle',hown',?_⟩;rw[eO,Vg]
   ·exact hblk'
   ·rintro⟨rfl,_⟩;exact(XG.1 hp).1 _ he' rfl
def Ic {t:TypeId}{a:ZL}{ca:Value}(R:ZT P G Γ H w)(h:ir P H t a=some v)(ha:ZO P Γ H w a ca):
  ∃ad cv,ca=.pointer (some ad)/\(loadVar t ad).run P w=.ok cv w/\ZO P Γ H w v cv:=by
 have h0:=h;unfold ir at h;split at h
 ·rename_i id gen off;split at h
  ·rename_i g e cells hg;split at h
   ·rename_i hgg;have hl:H.na id gen=some (e,cells):=(by simp[ZK.na,hg,hgg]);obtain⟨b,base,n,hΓ,rfl⟩:=qM ha hl;obtain⟨cv,h1,h2⟩:=uB h (sG R hl hΓ);exact⟨_,cv,rfl,h1,h2⟩
   ·cases h
  ·cases h
 ·rename_i cells off;cases ha with
  |ni hb hlt hcs hcell hrel =>
   obtain⟨cv,h1,h2⟩:=uB h ⟨_,hcs,hcell,hrel⟩;exact⟨_,cv,rfl,h1,h2⟩
 ·cases h
def fU (P:Program)(H:ZK)(ρ:Env):List ResultVar->Option (List ZL)
 | []=>some []
 |.tmp t :: r=>(fU P H ρ r).map (ρ t :: ·)
 |.cell a t :: r=>(ir P H t (ρ a)).bind fun v=>(fU P H ρ r).map (v :: ·)
def kR:List ZL->ZL
 | [v]=>v
 |vs=>.nc vs
def qR (tmps:Array Value):ResultVar->Sem Value
 |.tmp t=>pure (tmps.getD t undef)
 |.cell a t=>do loadVar t (<- asAddr (tmps.getD a undef))
def Ie (R:ZT P G Γ H w)(he:∀t,ZO P Γ H w (ρ t) (tmps.getD t undef)):∀(rs:List ResultVar) (vs:List ZL),fU P H ρ rs=some vs ->
  ∃cs:List Value,(rs.mapM (qR tmps)).run P w=.ok cs w/\cs.length=vs.length/\∀i (_:i<vs.length) (_:i<cs.length),ZO P Γ H w vs[i] cs[i]:=by
 intro rs
 induction rs with
 |nil =>
  intro vs h;simp only[fU,Option.some.injEq]at h;subst h;exact⟨[],rfl,rfl,fun i h _=>absurd h (Vt _)⟩
 |cons rv rs ih =>
  intro vs h;have cons:∀(v:ZL) (cv:Value) (vs':List ZL),(qR tmps rv).run P w=.ok cv w->ZO P Γ H w v cv->fU P H ρ rs=some vs'->∃cs:List Value,((rv :: rs).mapM (qR tmps)).run P w=.ok cs w /\
    cs.length=(v :: vs').length/\∀i (_:i<(v :: vs').length) (_:i<cs.length),ZO P Γ H w (v :: vs')[i] cs[i]:=by
   intro v cv vs' hm hv hr;obtain⟨cs,h1,h2,h3⟩:=ih vs' hr;refine⟨cv :: cs,?_,by simp[h2],fun i a b=>?_⟩
   ·rw[List.mapM_cons,aq hm,aq h1];rfl
   ·cases i with
    |zero=>exact hv
    |succ i=>exact h3 i (by simpa using a) (by simpa using b)
  cases rv with
  |tmp t =>
   simp only[fU,Ve]at h;obtain⟨vs',h1,rfl⟩:=h;exact cons (ρ t) _ vs' rfl (he t) h1
  |cell a t =>
   simp only[fU,Vk,Ve]at h;obtain⟨v,hv,vs',h1,rfl⟩:=h;obtain⟨ad,cv,ha,hl,hr⟩:=Ic R hv (he a);refine cons v cv vs' ?_ hr h1;simp only[qR,ha];have:(asAddr (.pointer (some ad))).run P w=.ok ad w:=rfl;rw[aq this];exact hl
def If (fn:Func)(tmps:Array Value):results fn tmps=(do let vs <- fn.results.mapM (qR tmps);pure (if h:vs.size=1 then vs[0] else .tuple vs)):=by
 unfold results;congr 1
def yw {vs:List ZL}(R:ZT P G Γ H w)(he:∀t,ZO P Γ H w (ρ t) (tmps.getD t undef))(h:fU P H ρ fn.results.toList=some vs):
  ∃cv,(results fn tmps).run P w=.ok cv w/\ZO P Γ H w (kR vs) cv:=by
 obtain⟨cs,h1,h2,h3⟩:=Ie R he _ _ h;have hm:(fn.results.mapM (qR tmps)).run P w=.ok cs.toArray w:=by
  rw[Yr,Sem.run_map,h1];rfl
 rw[If,aq hm]
 match vs,cs,h2,h3 with
 | [v],[c],_,h3=>exact⟨c,rfl,h3 0 ZG ZG⟩
 | [],[],_,h3=>exact⟨_,rfl,.nc (cs:=[]) rfl h3⟩
 |v :: v' :: vs,c :: c' :: cs,h2,h3 =>
  refine⟨.tuple (c :: c' :: cs).toArray,?_,.nc h2 h3⟩;have hne:¬(c :: c' :: cs).toArray.size=1:=ZG
  rw[dif_neg hne];rfl
def iz (P:Program)(G:Nat->Option (List ZL))(H:ZK)(v:ZL)(H':ZK)(v':ZL):Prop :=
 ∀ Γ w,ZT P G Γ H w->∃ Γ',ZT P G Γ' H' w/\ZV Γ H w Γ' H' w/\∀cv,ZO P Γ H w v cv->ZO P Γ' H' w v' cv
def aj (P:Program)(G:Nat->Option (List ZL))(H₀:ZK)(K:ZQ->ZK->Prop)(v:ZL)(H:ZK):Prop :=
 ∃v' H',iz P G H v H' v'/\H₀.A<=H'.A/\K (.ret v') H'
theorem iz.refl (H:ZK)(v:ZL):iz P G H v H v:=fun Γ _ R=>⟨Γ,R,ZV.refl _ _ _,fun _ h=>h⟩
def aj.mk {K:ZQ->ZK->Prop}{H:ZK}(hn:H₀.A<=H.A)(hk:K (.ret v) H):aj P G H₀ K v H:=⟨v,H,iz.refl H v,hn,hk⟩
def qS (P:Program)(G:Nat->Option (List ZL))(rs:List ResultVar)(H₀:ZK)(K:ZQ->ZK->Prop):AX->St->Prop
 |.normal,s|.ret,s=>bj (fU P s.H s.ρ rs) fun vs=>aj P G H₀ K (kR vs) s.H
 |.panic,s=>∃H',iz P G s.H (.lit undef) H' (.lit undef)/\H₀.A<=H'.A/\K .panic H'
 |_,_=>False
def dD (args:List ZL):Env:=fun t=>(args[t]?).getD (.lit undef)
def ae.BX        (hf : P.funcs[f]? = some fn) (hb : fn.body = some c) (hres : fn.results.toList = rs) (hnt : fn.ntmps = n) (hname : (fn.name == "runtime.NumGoroutine") = false)
  (hargs:args.length<=n) (hW:W P G n none c (qS P G rs H K) ⟨dD args,H⟩):ae P G f args H K:=by
 subst hres;subst hnt;refine⟨⟨fn,hf,by rw[hb];rfl,hname⟩,fun Γ w cargs R hr=>?_⟩;refine callsIn_of_wp_marks hf hb trivial ?_;have hs:Z1 P G fn.ntmps ⟨w.heap.size,[]⟩ Γ ⟨dD args,H⟩ { tmps:=cargs++Array.replicate (fn.ntmps-cargs.size) undef,defers:=[] } w:=by
  refine⟨by have:=hr.1;simp;omega,fun t=>?_,R,⟨[],rfl,Marks.nil⟩,ZJ⟩;have hsz:=hr.1;by_cases ht:t<args.length
  ·have h1:(cargs++Array.replicate (fn.ntmps-cargs.size) undef).getD t undef=cargs[t]' V:=by
    simp only[V0];rw[Yl V,Vq V];rfl
   have h2:dD args t=args[t]:=by
    unfold dD;rw[Vf ht];rfl
   rw[h1];show ZO P Γ H w (dD args t) _;rw[h2];exact hr.2 t ht (V)
  ·have h1:(cargs++Array.replicate (fn.ntmps-cargs.size) undef).getD t undef=undef:=by
    simp only[V0];rw[Y9 V,Xr];split<;>rfl
   have h2:dD args t=.lit undef:=by
    unfold dD;rw[Vo V];rfl
   rw[h1];show ZO P Γ H w (dD args t) _;rw[h2];exact .lit _
 refine wpIn_mono (hW ⟨w.heap.size,[]⟩ Γ _ w none hs rfl) ?_;rintro e a' w' ⟨x,s',Γ',hx,hq,hs',E,hn,_,_⟩;have leave:∀(u:FrameMode) (Q:World->Prop),u≠.run->(∀w'',ZT P G Γ' s'.H w''->(∀t,ZO P Γ' s'.H w'' (s'.ρ t) (a'.tmps.getD t undef))->ZV Γ H w Γ' s'.H w''->LeavesIn Fence.wide 0 P fn a'.tmps (fJ P G Γ H w K) [] u w'') ->
   LeavesInM Fence.wide 0 P fn a'.tmps (fJ P G Γ H w K) a'.defers u w' :=
  fun u _ hu hfin=>by
   obtain⟨m,hm,hmarks⟩:=hs'.defers;rw[hm,List.append_nil];exact Ib hu m w' hmarks.1 hmarks.2 hs'.heap hs'.env E hfin
 have normal:bj (fU P s'.H s'.ρ fn.results.toList) (fun vs=>aj P G H K (kR vs) s'.H)->LeavesInM Fence.wide 0 P fn a'.tmps (fJ P G Γ H w K) a'.defers .returning w':=by
  rintro⟨vs,hvs,v',H',hw,hn',hk⟩;refine leave .returning (fun _=>True) ZG fun w'' R'' he'' E''=>?_;obtain⟨cv,h1,h2⟩:=yw R'' he'' hvs;obtain⟨Γ'',R3,E3,hv3⟩:=hw Γ' w'' R'';exact⟨cv,h1,.ret v',H',Γ'',hv3 cv h2,hk,R3,E''.trans hn E3,hn'⟩
 cases e with
 |normal=>cases x with
  |normal=>exact normal hq
  |_=>exact hx.elim
 |ret=>cases x with
  |ret=>exact normal hq
  |_=>exact hx.elim
 |panic chain=>cases x with
  |panic =>
   obtain⟨H',hw,hn',hk⟩:=hq;refine leave (.panicking chain) (fun _=>True) ZG fun w'' R'' he'' E''=>?_;obtain⟨Γ'',R3,E3,_⟩:=hw Γ' w'' R'';exact⟨.panic,H',Γ'',hx,hk,R3,E''.trans hn E3,hn'⟩
  |_=>exact hx.elim
 |exit i=>cases x with
  |exit j=>exact hq.elim
  |_=>exact hx.elim
 |goto i=>cases x with
  |goto j=>exact hq.elim
  |_=>exact hx.elim
 |outgrown=>cases x<;>exact hx.elim
def ae.Ig        (hf : P.funcs[f]? = some fn) (hb : fn.body = some c) (hres : fn.results.toList = rs) (hnt : fn.ntmps = n) (hname : (fn.name == "runtime.NumGoroutine") = false)
  (hfit:fits n c=true) (hargs:args.length<=n) (h:vc P G n none c (qS P G rs H K) ⟨dD args,H⟩):ae P G f args H K :=
 .BX hf hb hres hnt hname hargs (sU c _ _ hfit h)
end Go.Hx
