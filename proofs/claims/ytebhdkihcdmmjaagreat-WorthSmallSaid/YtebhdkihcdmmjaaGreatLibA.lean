/-
  Abstract values, abstract heaps, and how they stand to the model's values and worlds. Own work: no program stands in this text.
-/
import Derived.RangeFuncLeaves
import Derived.KernelRfl
import Derived.Wp
import Derived.Laws.Cells
import Derived.Laws.Entries
import Derived.IntWalk
import Derived.Laws.BytesString
set_option linter.all false
namespace Go
theorem ZC {P:Prop}(h:P:=by omega):P:=h
theorem V {P:Prop}(h:P:=by omega):P:=h
theorem ZD {P:Prop}(h:P:=by simp):P:=h
theorem ZE {P:Prop}(h:P:=by decide):P:=h
theorem ZF {P:Prop}(h:P:=by kernel_rfl):P:=h
theorem ZG {n:Nat}:n<=n:=Nat.le_refl n
def Va:=@List.mem_of_getElem?
def Vb:=@Go.IntWalk.i64_in
def Vc:=@Option.map_eq_some_iff
def Vd:=@List.getElem?_eq_getElem
def Ve:=@if_neg
def Vf:=@if_pos
def Vg:=@List.take_of_length_le
def Vh:=@List.getD_eq_getElem?_getD
def Vi:=@Option.bind_eq_some_iff
def Vj:=@List.mem_iff_getElem?
def Vk:=@Int.eq_ofNat_of_zero_le
def Vl:=@Nat.lt_of_lt_of_le
def Vm:=@List.getElem?_eq_none
def Vn:=@List.eq_nil_of_length_eq_zero
def Vo:=@Array.getElem?_eq_getElem
def Vp:=@List.mem_range
def Vq:=@Nat.pow_le_pow_right
def Vr:=@List.length_take
def Vs:=@Nat.not_lt_zero
def Vt:=@List.getElem_map
def Vu:=@List.mem_map
def Vv:=@List.getElem?_append_left
def Vw:=@Nat.testBit_or
def Vx:=@List.length_map
def Vy:=@List.getElem?_take_of_lt
def Vz:=@List.getElem?_set_self
def VA:=@Nat.lt_or_ge
def VB:=@decide_eq_true
def VC:=@List.mem_append
def VD:=@List.mem_of_mem_take
def VE:=@List.length_set
def VF:=@List.map_congr_left
def VG:=@List.all_eq_true
def VH:=@Nat.mul_le_mul_right
def VI:=@Bool.and_eq_true
def VJ:=@Option.isSome_iff_exists
def VK:=@List.getElem?_eq_some_iff
def VL:=@Go.IntWalk.u64_in
def VM:=@Bool.or_eq_true
def VN:=@List.getElem?_set_ne
def VO:=@Nat.le_trans
def VP:=@Nat.eq_of_testBit_eq
def VQ:=@List.getElem?_range
def VR:=@List.getElem?_append_right
def VS:=@Int.tmod_eq_emod_of_nonneg
def VT:=@Int.tdiv_eq_ediv_of_nonneg
def VU:=@Nat.add_mul
def VV:=@Int.mul_le_mul_of_nonneg_left
def VW:=@List.range_succ
def VX:=@List.take_append_drop
def VY:=@List.idxOf_lt_length_of_mem
def VZ:=@Classical.byContradiction
def V0:=@Array.getD_eq_getD_getElem?
def V1:=@decide_eq_false
def V2:=@List.ext_getElem?
def V3:=@Nat.zero_testBit
def V4:=@List.length_drop
def V5:=@List.map_append
def V6:=@Nat.testBit_two_pow_self
def V7:=@List.getElem_cons_zero
def V8:=@List.mem_or_eq_of_mem_set
def V9:=@List.drop_eq_getElem_cons
def Wa:=@Nat.testBit_and
def Wb:=@List.getElem_mem
def Wc:=@Array.getElem?_eq_some_iff
def We:=@Array.getElem?_setIfInBounds
def Wf:=@List.length_singleton
def Wg:=@Nat.lt_succ_self
def Wh:=@List.getElem_append_left
def Wi:=@List.foldl_cons
def Wj:=@Nat.mul_le_mul_left
def Wk:=@Array.getElem_toList
def Wl:=@List.foldl_append
def Wm:=@Nat.eq_zero_or_pos
def Wn:=@List.getElem_idxOf
def Wo:=@Nat.lt_of_not_le
def Wq:=@Nat.div_le_self
def Wr:=@List.getElem_append_right
def Ws:=@List.getElem?_inj
def Wt:=@Nat.pow_lt_pow_right
def Wu:=@Nat.testBit_lt_two_pow
def Wv:=@List.getElem?_drop
def Ww:=@Int.natAbs_natCast
def Wx:=@Bool.eq_false_or_eq_true
def Wy:=@Nat.pow_succ
def Wz:=@List.set_append_right
def WA:=@List.length_replicate
def WB:=@Int.natCast_mul
def WC:=@Bool.eq_iff_iff
def WD:=@Nat.lt_trichotomy
def WE:=@List.sum_cons
def WG:=@List.getElem?_replicate
def WH:=@Nat.zero_le
def WI:=@Nat.mul_comm
def WJ:=@Nat.add_sub_cancel
def WK:=@Int.mul_le_mul_of_nonneg_right
def WL:=@Int.mul_comm
def WM:=@Array.getElem?_eq_none
def WN:=@List.pairwise_iff_getElem
def WO:=@List.mem_filter
def WQ:=@Int.natAbs_mul
def WR:=@Nat.or_lt_two_pow
def WT:=@List.length_range
def WU:=@List.eq_of_mem_replicate
def WV:=@Int.gcd_pos_of_ne_zero_right
def WW:=@decide_eq_true_iff
def WX:=@Nat.testBit_two_pow_sub_one
def WY:=@List.zip_cons_cons
def WZ:=@List.filter_append
def W0:=@Nat.gcd_dvd_right
def W1:=@List.replicate_succ
def W2:=@List.getElem?_set
def W3:=@Int.mul_nonneg
def W4:=@Int.mul_le_mul
def W5:=@Nat.lt_of_le_of_lt
def W6:=@List.zip_nil_right
def W7:=@Int.emod_lt_of_pos
def W8:=@Nat.div_eq_of_lt
def W9:=@Nat.div_lt_of_lt_mul
def Xa:=@Array.length_toList
def Xb:=@List.getElem_cons_succ
def Xc:=@List.countP_cons
def Xd:=@Bool.not_eq_true
def Xe:=@Nat.mul_assoc
def Xf:=@Nat.add_assoc
def Xg:=@Nat.mul_add
def Xh:=@List.pairwise_append
def Xi:=@List.mem_of_mem_drop
def Xj:=@List.mem_cons_of_mem
def Xk:=@List.getElem?_zipIdx
def Xl:=@Nat.two_pow_pos
def Xm:=@Nat.div_add_mod
def Xn:=@List.nodup_append
def Xo:=@Bool.not_eq_true'
def Xp:=@Array.getElem?_replicate
def Xq:=@Nat.zero_mul
def Xr:=@Int.pow_succ
def Xs:=@Nat.testBit_two_pow
def Xt:=@Nat.one_mul
def Xu:=@Nat.le_succ
def Xv:=@Int.toNat_of_nonneg
def Xw:=@Nat.mod_eq_of_lt
def Xx:=@List.nodup_range
def Xy:=@Int.natCast_ediv
def Xz:=@Nat.mul_le_mul
def XA:=@List.foldl_nil
def XB:=@List.drop_drop
def XC:=@Int.natAbs_neg
def XD:=@Int.ediv_eq_zero_of_lt
def XE:=@Nat.lt_or_eq_of_le
def XF:=@List.pairwise_cons
def XG:=@List.find?_eq_none
def XH:=@Nat.succ_mul
def XI:=@Nat.min_eq_left
def XJ:=@Nat.le_div_iff_mul_le
def XK:=@List.nodup_cons
def XL:=@Int.emod_nonneg
def XM:=@Int.add_zero
def XN:=@List.getElem_take
def XO:=@List.getElem_drop
def XP:=@Int.mul_assoc
def XQ:=@Array.getElem_map
def XR:=@Nat.shiftRight_eq_div_pow
def XS:=@List.mem_of_find?_eq_some
def XT:=@List.getElem?_eq_none_iff
def XU:=@List.take_length
def XV:=@List.mem_flatten
def XW:=@Array.getElem?_push
def XX:=@Nat.mod_lt
def XY:=@Nat.gcd_comm
def XZ:=@List.map_map
def X0:=@Nat.add_sub_cancel_left
def X1:=@Nat.div_div_eq_div_mul
def X2:=@Int.add_mul_ediv_right
def X3:=@Nat.le_of_lt_succ
def X4:=@Int.mul_add
def X5:=@Int.emod_eq_of_lt
def X6:=@Nat.sub_self
def X7:=@Nat.le_of_lt
def X8:=@Nat.le_of_ble_eq_true
def X9:=@List.map_set
def Ya:=@List.eq_nil_or_concat
def Yb:=@List.concat_eq_append
def Yc:=@Array.eq_empty_of_size_eq_zero
def Yd:=@List.any_eq_true
def Ye:=@Nat.mul_div_mul_left
def Yf:=@List.mem_append_left
def Yg:=@Nat.lt_irrefl
def Yh:=@Nat.mul_div_cancel'
def Yi:=@Nat.div_mul_le_self
def Yj:=@List.take_set_of_le
def Yk:=@List.flatten_append
def Yl:=@Int.one_mul
def Ym:=@Int.fdiv_eq_ediv_of_nonneg
def Yn:=@Array.getElem?_append_left
def Yo:=@Nat.ne_of_lt
def Yp:=@List.map_replicate
def Yq:=@Int.le_trans
def Yr:=@Int.add_comm
def Ys:=@Array.mapM_eq_mapM_toList
def Yt:=@Nat.shiftRight_le
def Yu:=@List.any_eq_false
def Yv:=@decide_eq_false_iff_not
def Yw:=@Nat.le_of_dvd
def Yx:=@Go.IntWalk.u8_in
def Yy:=@Nat.le_of_not_lt
def Yz:=@Nat.gcd_dvd_left
def YA:=@List.getElem_set
def YB:=@List.drop_of_length_le
def YC:=@List.drop_eq_nil_of_le
def YD:=@Nat.ble_eq_true_of_le
def YE:=@Nat.and_le_left
def YF:=@List.sum_append
def YG:=@List.mem_append_right
def YH:=@List.length_filter_le
def YI:=@Int.zero_mul
def YJ:=@Int.zero_add
def YK:=@Int.emod_add_mul_ediv
def YL:=@Array.toArray_toList
def YM:=@List.flatMap_append
def YN:=@List.filterMap_cons
def YO:=@Int.add_mul
def YP:=@Nat.dvd_trans
def YQ:=@List.set_eq_take_append_cons_drop
def YR:=@List.getElem?_take
def YS:=@Nat.mul_left_comm
def YT:=@Array.size_append
def YU:=@Nat.pow_zero
def YV:=@Nat.and_two_pow_sub_one_eq_mod
def YW:=@List.set_set
def YX:=@Int.mul_zero
def YY:=@Nat.dvd_mul_left
def YZ:=@List.take_append_of_le_length
def Y0:=@Array.toList_map
def Y1:=@List.countP_eq_length_filter
def Y2:=@Nat.mul_pos
def Y3:=@Nat.gcd_rec
def Y4:=@List.idxOf_cons
def Y5:=@List.getElem?_concat_length
def Y6:=@List.forIn_cons
def Y7:=@List.find?_some
def Y8:=@Int.pow_pos
def Y9:=@Int.natAbs_tmod
def Za:=@Int.natAbs_tdiv
def Zb:=@Array.getElem?_append_right
def Zc:=@List.forIn_nil
def Zd:=@Int.le_of_mul_le_mul_left
def Ze:=@Nat.gcd_pos_of_pos_right
def Zf:=@Int.mul_tdiv_cancel_left
def Zg:=@Nat.le_mul_of_pos_right
def Zh:=@Int.gcd_natCast_natCast
def Zi:=@Bool.or_false
def Zj:=@List.range_succ_eq_map
def Zk:=@List.countP_mono_left
def Zl:=@List.countP_eq_length
def Zm:=@Int.sub_zero
def Zn:=@Int.lt_or_le
def Zo:=@List.mem_of_getLast?
def Zp:=@List.mem_iff_getElem
def Zq:=@List.drop_eq_nil_iff
def Zr:=@Int.ofNat_eq_natCast
def Zs:=@Int.mul_ediv_self_le
def Zt:=@Classical.not_forall
def Zu:=@Nat.pow_pos
def Zv:=@Nat.pow_add
def Zw:=@Nat.lt_mul_div_succ
def Zx:=@Nat.div_one
def Zy:=@List.getD_cons_zero
def Zz:=@List.getD_cons_succ
def ZA:=@List.drop_set_of_lt
def ZB:=@Int.mul_one
end Go
namespace Go.Hx
variable {id off:Nat}{P:Program}{cv:Value}{w w':World}
inductive ZI where
 |lit (v:Value)
 |Q (len:Nat) (cells:List ZI)
 |U (id gen off len sz:Nat)
 |O (id gen off:Nat)
 |ni (cells:List ZI) (off:Nat)
 |agg (cells:List ZI)
 |nc (vs:List ZI)
 |X (f:FuncId) (first cap:List ZI)
 |nk (id:Nat)
instance:Inhabited ZI:=⟨.lit undef⟩
abbrev Env:=Nat->ZI
inductive ZO where
 |J (gen:Nat) (elem:TypeId) (cells:List ZI)
 |loop (st:LoopState) (pend:Option Code) (n:Nat) (env:Env) (ps:Array Tmp) (asg body:Code)
 |mp (es:List (Int × Int))
 |nq
structure ZH where
 get:Nat->Option ZO
 A:Nat
abbrev aE:=Nat->Option (Nat × Nat × Nat)
def aE.fJ (Γ:aE)(b:Nat):Prop:=∃id base n,Γ id=some (b,base,n)
def ua (Γ:aE)(H:ZH)(id gen off len sz:Nat)(cv:Value):Prop :=
 id<H.A/\cv.oneCell=true/\H.get id≠some .nq/\∀g e cells,H.get id=some (.J g e cells)->gen<=g/\(gen=g ->
  match Γ id with
  |some (b,base,n)=>∃a cap,cv=.slice (some a) len cap/\len<=cap/\off+len*sz<=cells.length /\
    ((a=⟨b,base+off,none⟩/\base+off+cap*sz<=n)\/(len=0/\cap=0))
  |none=>off=0/\len=0/\cv=.slice none 0 0)
def ub (Γ:aE)(H:ZH)(id gen off:Nat)(cv:Value):Prop :=
 id<H.A/\cv.oneCell=true/\H.get id≠some .nq/\∀g e cells,H.get id=some (.J g e cells)->gen<=g/\(gen=g ->
  ∃b base n,Γ id=some (b,base,n)/\cv=.pointer (some ⟨b,base+off,none⟩))
def dW:Nat->List (Int × Int)->List MapEntry
 |_,[]=>[]
 |i,(k,v) :: l=>⟨.int .i64 k,.int .i64 v,i⟩ :: dW (i+1) l
def iq (es:List (Int × Int)):Obj:=.map (dW 0 es).toArray es.length
def uc (Γ:aE)(H:ZH)(id:Nat)(cv:Value):Prop :=
 id<H.A/\cv.oneCell=true/\H.get id≠some .nq/\(∀st pend n env ps asg body,H.get id=some (.loop st pend n env ps asg body) ->
  ∃b,Γ id=some (b,0,0)/\cv=.func (.yield b) #[] #[])/\∀es,H.get id=some (.mp es)->∃b,Γ id=some (b,0,0)/\cv=.map (some b)
inductive ZL (P:Program)(Γ:aE)(H:ZH)(w:World):ZI->Value->Prop
 |lit (v:Value):ZL P Γ H w (.lit v) v
 |nw (a:Option Addr) (cap:Nat):ZL P Γ H w (.Q 0 []) (.slice a 0 cap)
 |Q {len:Nat} {cells:List ZI} {b off cap:Nat} {cs:List Value} (hb:¬ Γ.fJ b) (hlt:b<w.heap.size) (hlen:len<=cap)
   (hcs:cs.length=cells.length)
   (hcell:∀i (h:i<cs.length),w.cell? ⟨b,off+i,none⟩=some cs[i])
   (hrel:∀i (h:i<cells.length) (h':i<cs.length),ZL P Γ H w cells[i] cs[i]):
   ZL P Γ H w (.Q len cells) (.slice (some ⟨b,off,none⟩) len cap)
 |U {id gen off len sz:Nat} {cv:Value} (h:ua Γ H id gen off len sz cv):ZL P Γ H w (.U id gen off len sz) cv
 |O {id gen off:Nat} {cv:Value} (h:ub Γ H id gen off cv):ZL P Γ H w (.O id gen off) cv
 |ni {cells:List ZI} {off b o:Nat} {cs:List Value} (hb:¬ Γ.fJ b) (hlt:b<w.heap.size)
   (hcs:cs.length=cells.length)
   (hcell:∀i (h:i<cs.length),w.cell? ⟨b,o+i,none⟩=some cs[i])
   (hrel:∀i (h:i<cells.length) (h':i<cs.length),ZL P Γ H w cells[i] cs[i]):
   ZL P Γ H w (.ni cells off) (.pointer (some ⟨b,o+off,none⟩))
 |agg {cells:List ZI} {cs:List Value} (hcs:cs.length=cells.length)
   (hrel:∀i (h:i<cells.length) (h':i<cs.length),ZL P Γ H w cells[i] cs[i]):ZL P Γ H w (.agg cells) (.agg cs.toArray)
 |nc {cells:List ZI} {cs:List Value} (hcs:cs.length=cells.length)
   (hrel:∀i (h:i<cells.length) (h':i<cs.length),ZL P Γ H w cells[i] cs[i]):ZL P Γ H w (.nc cells) (.tuple cs.toArray)
 |X {f:FuncId} {first cap:List ZI} {fs cs:List Value} (hfs:fs.length=first.length) (hcs:cs.length=cap.length)
   (hf:∀i (h:i<first.length) (h':i<fs.length),ZL P Γ H w first[i] fs[i])
   (hc:∀i (h:i<cap.length) (h':i<cs.length),ZL P Γ H w cap[i] cs[i]):
   ZL P Γ H w (.X f first cap) (.func (.func f) fs.toArray cs.toArray)
 |nk {id:Nat} {cv:Value} (h:uc Γ H id cv):ZL P Γ H w (.nk id) cv
def ZO.le (Γ Γ':aE)(id:Nat):ZO->ZO->Prop
 |.J g e cells,.J g' e' cells'=>g<=g'/\(g=g'->Γ' id=Γ id/\e'=e/\cells'.length=cells.length)
 |.loop _ _ n env ps asg body,.loop _ _ n' env' ps' asg' body'=>Γ' id=Γ id/\n'=n/\env'=env/\ps'=ps/\asg'=asg/\body'=body
 |.mp _,.mp _=>Γ' id=Γ id
 |.nq,_=>True
 |_,_=>False
def Kind (w w':World):Prop:=∀(b:Nat) (c:Array Value) (e:TypeId) (f:Nat × Nat),w.heap[b]?=some (.cells c e f)->∃c',w'.heap[b]?=some (.cells c' e f)/\c'.size=c.size
def Kind.refl (w:World):Kind w w:=fun _ c _ _ h=>⟨c,h,rfl⟩
theorem Kind.trans {w'':World}(h:Kind w w')(k:Kind w' w''):Kind w w'':=fun b c e f hb=>by
 obtain⟨c1,h1,h2⟩:=h b c e f hb;obtain⟨c2,h3,h4⟩:=k b c1 e f h1;exact⟨c2,h3,h4.trans h2⟩
def rZ (Γ:aE)(w:World)(Γ':aE):Prop:=∀id b x y,Γ' id=some (b,x,y)->b<w.heap.size->∃x' y',Γ id=some (b,x',y')
def rZ.refl (Γ:aE)(w:World):rZ Γ w Γ:=fun _ _ x y h _=>⟨x,y,h⟩
structure ZS (Γ:aE)(H:ZH)(w:World)(Γ':aE)(H':ZH)(w':World):Prop where
 os:w'.os=w.os
 tape:w'.tape=w.tape
 output:w'.output=w.output
 size:w.heap.size<=w'.heap.size
 ng:∀b,b<w.heap.size->¬ Γ.fJ b->w'.heap[b]?=w.heap[b]?/\¬ Γ'.fJ b
 na:∀id,id<H.A->id<H'.A->∀x',H'.get id=some x'->∃x,H.get id=some x/\ZO.le Γ Γ' id x x'
 nz:∀a,a.block<w.heap.size->w'.frozen? a=w.frozen? a
 kind:Kind w w'
 newb:rZ Γ w Γ'
def ZO.le_refl (Γ:aE)(id:Nat)(x:ZO):ZO.le Γ Γ id x x:=by
 cases x<;>simp[ZO.le]
theorem ZS.refl (Γ:aE)(H:ZH)(w:World):ZS Γ H w Γ H w :=
 ⟨rfl,rfl,rfl,ZG,fun _ _ h=>⟨rfl,h⟩,fun _ _ _ x' h=>⟨x',h,ZO.le_refl _ _ _⟩,fun _ _=>rfl,.refl _,.refl _ _⟩
variable {Γ Γ':aE}
def ZO.xu {x:ZO}(h:ZO.le Γ Γ' id x .nq):x=.nq:=by
 cases x<;>simp_all[ZO.le]
def ZO.le_trans {Γ₁ Γ₂ Γ₃:aE}{id:Nat}{x y z:ZO}(h:ZO.le Γ₁ Γ₂ id x y)(k:ZO.le Γ₂ Γ₃ id y z):ZO.le Γ₁ Γ₃ id x z:=by
 cases x<;>cases y<;>cases z<;>simp only[ZO.le]at *
 ·rename_i g e c g' e' c' g'' e'' c'';refine⟨V,fun hg=>?_⟩;obtain⟨h1,h2⟩:=h;obtain⟨k1,k2⟩:=k;obtain⟨a1,a2,a3⟩:=h2 V;obtain⟨b1,b2,b3⟩:=k2 V;exact⟨b1.trans a1,b2.trans a2,b3.trans a3⟩
 ·obtain⟨a1,a2,a3,a4,a5,a6⟩:=h;obtain⟨b1,b2,b3,b4,b5,b6⟩:=k;exact⟨b1.trans a1,b2.trans a2,b3.trans a3,b4.trans a4,b5.trans a5,b6.trans a6⟩
 ·exact k.trans h
theorem ZS.trans {Γ₁ Γ₂ Γ₃:aE}{H₁ H₂ H₃:ZH}{w₁ w₂ w₃:World}(h:ZS Γ₁ H₁ w₁ Γ₂ H₂ w₂)(hn:H₁.A<=H₂.A)
  (k:ZS Γ₂ H₂ w₂ Γ₃ H₃ w₃):ZS Γ₁ H₁ w₁ Γ₃ H₃ w₃ where
 os:=k.os.trans h.os
 tape:=k.tape.trans h.tape
 output:=k.output.trans h.output
 size:=VO h.size k.size
 ng b hb ho:=by
  obtain⟨a1,a2⟩:=h.ng b hb ho;obtain⟨b1,b2⟩:=k.ng b (Vl hb h.size) a2;exact⟨b1.trans a1,b2⟩
 na id h1 h3 z hz:=by
  obtain⟨y,hy,hyz⟩:=k.na id (Vl h1 hn) h3 z hz;obtain⟨x,hx,hxy⟩:=h.na id h1 (Vl h1 hn) y hy;exact⟨x,hx,ZO.le_trans hxy hyz⟩
 nz a ha:=(k.nz a (Vl ha h.size)).trans (h.nz a ha)
 kind:=h.kind.trans k.kind
 newb id b x y hb hlt:=by
  obtain⟨x1,y1,h1⟩:=k.newb id b x y hb (Vl hlt h.size);exact h.newb id b x1 y1 h1 hlt
variable {H H':ZH}
theorem ZS.cell (h:ZS Γ H w Γ' H' w'){b o:Nat}(hb:b<w.heap.size)(ho:¬ Γ.fJ b):
  w'.cell? ⟨b,o,none⟩=w.cell? ⟨b,o,none⟩:=by
 have:=(h.ng b hb ho).1;simp only[World.cell?,this]
def ua.aZ {gen len sz:Nat}(h:ua Γ H id gen off len sz cv)
  (k:ZS Γ H w Γ' H' w') (hn:H.A<=H'.A):ua Γ' H' id gen off len sz cv:=by
 obtain⟨h1,h2,h0,h3⟩:=h;refine⟨V,h2,fun hr=>(by
  obtain⟨x,hx,hle⟩:=k.na id h1 V _ hr;exact h0 (ZO.xu hle ▸ hx)),fun g' e' cells' hg'=>?_⟩
 obtain⟨x,hx,hle⟩:=k.na id h1 V _ hg';cases x with
 |loop=>exact hle.elim
 |mp=>exact hle.elim
 |nq=>exact absurd hx h0
 |J g e cells =>
  obtain⟨a1,a2⟩:=hle;obtain⟨b1,b2⟩:=h3 g e cells hx;refine⟨V,fun hgg=>?_⟩;obtain⟨c1,c2,c3⟩:=a2 V;have:=b2 V;rw[c1,c3];exact this
def ub.aZ {gen:Nat}(h:ub Γ H id gen off cv)
  (k:ZS Γ H w Γ' H' w') (hn:H.A<=H'.A):ub Γ' H' id gen off cv:=by
 obtain⟨h1,h2,h0,h3⟩:=h;refine⟨V,h2,fun hr=>(by
  obtain⟨x,hx,hle⟩:=k.na id h1 V _ hr;exact h0 (ZO.xu hle ▸ hx)),fun g' e' cells' hg'=>?_⟩
 obtain⟨x,hx,hle⟩:=k.na id h1 V _ hg';cases x with
 |loop=>exact hle.elim
 |mp=>exact hle.elim
 |nq=>exact absurd hx h0
 |J g e cells =>
  obtain⟨a1,a2⟩:=hle;obtain⟨b1,b2⟩:=h3 g e cells hx;refine⟨V,fun hgg=>?_⟩;obtain⟨c1,c2,c3⟩:=a2 V;have:=b2 V;rw[c1];exact this
def uc.aZ (h:uc Γ H id cv)
  (k:ZS Γ H w Γ' H' w') (hn:H.A<=H'.A):uc Γ' H' id cv:=by
 obtain⟨h1,h2,h0,h3,h4⟩:=h;refine⟨V,h2,fun hr=>(by
  obtain⟨x,hx,hle⟩:=k.na id h1 V _ hr;exact h0 (ZO.xu hle ▸ hx)),fun st pend n env ps asg body hg'=>?_,fun es hg'=>?_⟩
 ·obtain⟨x,hx,hle⟩:=k.na id h1 V _ hg';cases x with
  |J g e cells=>exact hle.elim
  |mp=>exact hle.elim
  |nq=>exact absurd hx h0
  |loop st0 pend0 n0 env0 ps0 asg0 body0 =>
   obtain⟨a1,_⟩:=hle;obtain⟨b,hb,hc⟩:=h3 _ _ _ _ _ _ _ hx;exact⟨b,a1.trans hb,hc⟩
 ·obtain⟨x,hx,hle⟩:=k.na id h1 V _ hg';cases x with
  |J g e cells=>exact hle.elim
  |loop=>exact hle.elim
  |nq=>exact absurd hx h0
  |mp es0 =>
   obtain⟨b,hb,hc⟩:=h4 _ hx;exact⟨b,Eq.trans hle hb,hc⟩
theorem ZL.aZ {v:ZI}(h:ZL P Γ H w v cv)
  (k:ZS Γ H w Γ' H' w') (hn:H.A<=H'.A):ZL P Γ' H' w' v cv:=by
 induction h with
 |lit v=>exact .lit v
 |nw a cap=>exact .nw a cap
 |Q hb hlt hlen hcs hcell hrel ih =>
  exact .Q (k.ng _ hlt hb).2 (Vl hlt k.size) hlen hcs (fun i hi=>(k.cell hlt hb).trans (hcell i hi)) ih
 |U h=>exact .U (h.aZ k hn)
 |O h=>exact .O (h.aZ k hn)
 |ni hb hlt hcs hcell hrel ih =>
  exact .ni (k.ng _ hlt hb).2 (Vl hlt k.size) hcs (fun i hi=>(k.cell hlt hb).trans (hcell i hi)) ih
 |agg hcs hrel ih=>exact .agg hcs ih
 |nc hcs hrel ih=>exact .nc hcs ih
 |X hfs hcs hf hc ih1 ih2=>exact .X hfs hcs ih1 ih2
 |nk h=>exact .nk (h.aZ k hn)
def qg (Γ:aE)(w:World)(r:Nat):Prop:=¬ Γ.fJ r/\w.heap[r]?=some (.deferred (some []))
def qg.aZ {r:Nat}(h:qg Γ w r)(k:ZS Γ H w Γ' H' w'):qg Γ' w' r:=by
 obtain⟨h1,h2⟩:=h;have hlt:r<w.heap.size:=by
  rcases VA r w.heap.size with h|h
  ·exact h
  ·rw[WM h]at h2;cases h2
 obtain⟨a,b⟩:=k.ng r hlt h1;exact⟨b,a.trans h2⟩
structure ZQ (P:Program)(G:Nat->Option (List ZI))(Γ:aE)(H:ZH)(w:World):Prop where
 J:∀id g e cells,H.get id=some (.J g e cells) ->
  match Γ id with
  |some (b,base,n)=>∃c,w.heap[b]?=some (.cells c e (0,0))/\c.size=n/\base+cells.length<=n /\
    ∀i (h:i<cells.length),∃cv,c[base+i]?=some cv/\ZL P Γ H w cells[i] cv
  |none=>cells=[]
 loop:∀id st pend n env ps asg body,H.get id=some (.loop st pend n env ps asg body) ->
  ∃b r,Γ id=some (b,0,0)/\w.heap[b]?=some (.loop r)/\r.state=st/\r.pending=pend/\r.params=ps/\r.assign=asg/\r.body=body /\
   r.tmps.size=n/\(∀t (h:t<r.tmps.size),ZL P Γ H w (env t) r.tmps[t])
 mp:∀id es,H.get id=some (.mp es)->∃b,Γ id=some (b,0,0)/\w.heap[b]?=some (iq es)
 nq:∀id,H.get id=some .nq->Γ id=none
 inj:∀id id' b base n base' n',Γ id=some (b,base,n)->Γ id'=some (b,base',n')->id=id'
 nF:∀id x,Γ id=some x->∃y,H.get id=some y
 lt:∀id b base n,Γ id=some (b,base,n)->b<w.heap.size
 A:∀id y,H.get id=some y->id<H.A
 nE:∀g cells,G g=some cells->ZL P Γ H w (.ni cells 0) (.pointer (some ⟨g,0,none⟩))
 gsz:∀g cells,G g=some cells->∃c e f,w.heap[g]?=some (.cells c e f)/\c.size=cells.length
def Gy {cells:List ZI}(h:ZL P Γ H w (.ni cells off) cv):∀ {g x:Nat},cv=.pointer (some ⟨g,x,none⟩)->¬ Γ.fJ g/\g<w.heap.size:=by
 intro g x e;cases h with
 |ni hb hlt hcs hcell hrel=>cases e;exact⟨hb,hlt⟩
def ZQ.qh {G:Nat->Option (List ZI)}(R:ZQ P G Γ H w)(E:ZS Γ H w Γ' H' w')(g:Nat)(cells:List ZI)(h:G g=some cells):∃c e f,w'.heap[g]?=some (.cells c e f)/\c.size=cells.length:=by
 obtain⟨hb,hlt⟩:=Gy (R.nE g cells h) rfl;rw[(E.ng g hlt hb).1];exact R.gsz g cells h
end Go.Hx
namespace Go.Hx
variable {α:Type}
def ZI.cells:ZI->List ZI
 |.lit v=>v.cells.toList.map .lit
 |.agg cs=>cs
 |.Q l c=>[.Q l c]
 |.U a b c d e=>[.U a b c d e]
 |.O a b c=>[.O a b c]
 |.ni a b=>[.ni a b]
 |.nc vs=>[.nc vs]
 |.X f a b=>[.X f a b]
 |.nk i=>[.nk i]
def ZI.one:ZI->Bool
 |.lit v=>v.oneCell
 |.agg _|.nc _=>false
 |_=>true
def qi:List ZI->Option (List Value)
 | []=>some []
 |.lit v :: r=>(qi r).map (v :: ·)
 |_ :: _=>none
def ZI.cX:ZI->Option Value
 |.lit v=>some v
 |.agg cs=>(qi cs).map fun l=>.agg l.toArray
 |_=>none
def aR (P:Program):Sem α->Option α
 |.pure a=>some a
 |.program k=>aR P (k P)
 |.mark _ k=>aR P k
 |_=>none
def oW {P:Program}{s:Sem α}{a:α}(h:aR P s=some a)(w:World):s.run P w=.ok a w:=by
 induction s<;>simp_all[aR,Sem.run]
section
variable {P:Program} {w w':World}
def ar {α β:Type}{s:Sem α}{f:α->Sem β}{a:α}(h:s.run P w=.ok a w'):(s >>= f).run P w=(f a).run P w':=by
 rw[Sem.run_bind,h];rfl
def cQ {t:TypeId}{d:TypeDesc}(h:P.underlying t=some d):(underlying t).run P w=.ok d w:=run_underlying h w
def ud {t:TypeId}{d:TypeDesc}(h:P.underlying t=some d):∃i,P.info? t=some i:=by
 unfold Program.underlying at h;cases hi:P.info? t with
 |none=>simp[hi]at h
 |some i=>exact⟨i,rfl⟩
def run_typeInfo {t:TypeId}{i:TypeInfo}(h:P.info? t=some i):(typeInfo t).run P w=.ok i w:=by
 unfold typeInfo;rw[ar (run_program P w)];simp[h]
def run_sizeOf {t:TypeId}{i:TypeInfo}(h:P.info? t=some i):(sizeOf t).run P w=.ok (P.cellsOf t) w:=by
 unfold sizeOf;rw[ar (run_typeInfo h)];simp[Program.cellsOf,h]
def jq {t:TypeId}{d:TypeDesc}(h:P.underlying t=some d):(sizeOf t).run P w=.ok (P.cellsOf t) w:=by
 obtain⟨i,hi⟩:=ud h;exact run_sizeOf hi
def qj (d:TypeDesc):Bool:=match d with|.struct _|.array _ _=>true|_=>false
def xw {t:TypeId}{d:TypeDesc}(h:P.underlying t=some d):(isAgg t).run P w=.ok (qj d) w:=by
 unfold isAgg;rw[ar (cQ h)];cases d<;>rfl
def Gz {a:Addr}{v:Value}(h:w.cell? a=some v):(load a).run P w=.ok v w:=by
 simp[run_load,h]
def kM (b o i:Nat):(Addr.add ⟨b,o,none⟩ i)=⟨b,o+i,none⟩:=by
 unfold Addr.add;by_cases h:i=0
 ·simp[h]
 ·simp[h]
def qk {b o:Nat}{cs:List Value}(h:∀i (hi:i<cs.length),w.cell? ⟨b,o+i,none⟩=some cs[i]):
  (loadCells ⟨b,o,none⟩ cs.length).run P w=.ok cs.toArray w:=by
 refine run_loadCells_list w ⟨b,o,none⟩ cs fun j v hj=>?_;rw[kM];obtain⟨hlt,hv⟩:=VK.1 hj;rw[<- hv];exact h j hlt
def GA {t:TypeId}{d:TypeDesc}{b o:Nat}{cs:List Value}(hd:P.underlying t=some d)(ha:qj d=true)(hl:cs.length=P.cellsOf t)
  (h:∀i (hi:i<cs.length),w.cell? ⟨b,o+i,none⟩=some cs[i]):(loadVar t ⟨b,o,none⟩).run P w=.ok (.agg cs.toArray) w:=by
 unfold loadVar;rw[ar (xw hd),ha];simp only[if_true];rw[ar (jq hd),<- hl,ar (qk h)];rfl
def GB {t:TypeId}{d:TypeDesc}{a:Addr}{v:Value}(hd:P.underlying t=some d)(ha:qj d=false)
  (h:w.cell? a=some v):(loadVar t a).run P w=.ok v w:=by
 unfold loadVar;rw[ar (xw hd),ha];simp only[Bool.false_eq_true,if_false];exact Gz h
def setRow (c:Array Value)(o:Nat):List Value->Array Value
 | []=>c
 |v :: vs=>setRow (c.setIfInBounds o v) (o+1) vs
def size_setRow (c:Array Value)(o:Nat)(vs:List Value):(setRow c o vs).size=c.size:=by
 induction vs generalizing c o with
 |nil=>rfl
 |cons v vs ih=>simp[setRow,ih]
def AW (c:Array Value)(o:Nat)(vs:List Value)(h:o+vs.length<=c.size)(i:Nat):
  (setRow c o vs)[i]?=if o<=i/\i<o+vs.length then vs[i-o]? else c[i]?:=by
 induction vs generalizing c o with
 |nil=>simp only[setRow,List.length_nil];rw[Ve V]
 |cons v vs ih =>
  simp only[List.length_cons]at h;rw[setRow,ih _ _ (by simp;omega)];simp only[List.length_cons];by_cases h1:o+1<=i/\i<o+1+vs.length
  ·rw[Vf h1,Vf V];have:i-o=(i-(o+1))+1:=V;rw[this,List.getElem?_cons_succ]
  ·rw[Ve h1];by_cases h2:i=o
   ·subst h2;rw[Vf V];simp[We];omega
   ·rw[Ve V];rw[We,Ve V]
def bI (w:World)(b:Nat)(o:Obj):World:={ w with heap:=w.heap.setIfInBounds b o }
def r8 {w:World}{b:Nat}{o o':Obj}(h:w.heap[b]?=some o)(h1:∀c e f,o=.cells c e f->f=(0,0))(h2:∀c e f,o'=.cells c e f->f=(0,0))(a:Addr):(bI w b o').frozen? a=w.frozen? a:=by
 have hlt:b<w.heap.size:=by
  rcases VA b w.heap.size with h'|h'
  ·exact h'
  ·rw[WM h']at h;cases h
 unfold World.frozen? bI;simp only[We];by_cases hb:b=a.block
 ·subst hb;rw[Vf rfl,Vf hlt,h];cases o with
  |cells c e f =>
   obtain rfl:=h1 c e f rfl;cases o' with
   |cells c' e' f' =>
    obtain rfl:=h2 c' e' f' rfl;simp
   |_=>simp
  |_ =>
   cases o' with
   |cells c' e' f' =>
    obtain rfl:=h2 c' e' f' rfl;simp
   |_=>rfl
 ·rw[Ve hb]
def qm {w w':World}{o:Obj}(hw:w'.heap=w.heap.push o)(ho:∀c e f,o=.cells c e f->f=(0,0))(a:Addr):w'.frozen? a=w.frozen? a:=by
 unfold World.frozen?;rw[hw,XW];by_cases h:a.block=w.heap.size
 ·rw[Vf h,h,WM ZG];cases o with
  |cells c e f =>
   obtain rfl:=ho c e f rfl;simp
  |_=>rfl
 ·rw[Ve h]
def GC {b o:Nat}{c:Array Value}{e:TypeId}{v:Value}(h:w.heap[b]?=some (.cells c e (0,0))):
  w.setCell ⟨b,o,none⟩ v=bI w b (.cells (c.setIfInBounds o v) e (0,0)):=by
 unfold World.setCell bI;congr 1;apply Array.ext_getElem?;intro i;rw[Array.getElem?_modify,We];by_cases hi:b=i
 ·subst hi;have hlt:b<w.heap.size:=by
   rcases VA b w.heap.size with h'|h'
   ·exact h'
   ·rw[WM h']at h;cases h
  have hb:w.heap[b]=.cells c e (0,0):=by simpa[Vo hlt] using h
  simp[hlt,hb]
 ·simp[hi]
def AY {b:Nat}{o:Obj}(h:w.heap[b]?=some o):b<w.heap.size:=by
 rcases VA b w.heap.size with h'|h'
 ·exact h'
 ·rw[WM h']at h;cases h
def eO (b:Nat)(o:Obj)(i:Nat):(bI w b o).heap[i]?=if i=b/\b<w.heap.size then some o else w.heap[i]?:=by
 unfold bI;simp only[We];by_cases h:b=i
 ·subst h;by_cases h':b<w.heap.size
  ·simp[h']
  ·simp[h']
 ·rw[Ve h,Ve V]
def j8 (b:Nat)(o:Obj):(bI w b o).heap.size=w.heap.size:=by simp[bI]
def AZ {b:Nat}{c c':Array Value}{e:TypeId}{f:Nat × Nat}(h:w.heap[b]?=some (.cells c e f))(hs:c'.size=c.size):Kind w (bI w b (.cells c' e f)):=fun i d e' f' hi=>by
 rw[eO];by_cases hib:i=b
 ·subst hib;rw[h]at hi;cases hi;rw[Vf ⟨rfl,(Wc.1 h).1⟩];exact⟨c',rfl,hs⟩
 ·rw[Ve fun h=>hib h.1];exact⟨d,hi,rfl⟩
def xx {b:Nat}{o o':Obj}(h:w.heap[b]?=some o)(ho:∀c e f,o≠.cells c e f):Kind w (bI w b o'):=fun i d e' f' hi=>by
 rw[eO,Ve]
 ·exact⟨d,hi,rfl⟩
 ·rintro⟨rfl,_⟩;rw[h]at hi;exact ho _ _ _ (Option.some.inj hi)
def ue {w w':World}{o:Obj}(hw:w'.heap=w.heap.push o):Kind w w':=fun i d e' f' hi=>by
 have:=(Wc.1 hi).1;refine⟨d,?_,rfl⟩;rw[hw,XW,Ve V];exact hi
def GE {w w':World}(hk:∀b,b<w.heap.size->w'.heap[b]?=w.heap[b]?):Kind w w':=fun i d e' f' hi=>⟨d,by rw[hk i (Wc.1 hi).1];exact hi,rfl⟩
def GF (b:Nat)(o o':Obj):bI (bI w b o) b o'=bI w b o':=by
 unfold bI;simp
def A0 {b i:Nat}{c:Array Value}{e:TypeId}{f:Nat × Nat}(h:w.heap[b]?=some (.cells c e f)):w.cell? ⟨b,i,none⟩=c[i]?:=by
 simp[World.cell?,h]
def sd {b:Nat}{e:TypeId}:∀(vs:List Value) (c:Array Value) (o i:Nat) (w:World),w.heap[b]?=some (.cells c e (0,0)) ->
  o+i+vs.length<=c.size->(∀v,v∈vs->v.oneCell=true) ->
  (storeCells ⟨b,o,none⟩ vs i).run P w=.ok () (bI w b (.cells (setRow c (o+i) vs) e (0,0))):=by
 intro vs
 induction vs with
 |nil =>
  intro c o i w h _ _;have:bI w b (.cells (setRow c (o+i) []) e (0,0))=w:=by
   unfold bI setRow;have hlt:=AY h;have:w.heap.setIfInBounds b (.cells c e (0,0))=w.heap:=by
    apply Array.ext_getElem?;intro j;rw[We];by_cases hj:b=j
    ·subst hj;have hb:w.heap[b]=.cells c e (0,0):=(by simpa[Vo hlt] using h);simp[hlt,hb]
    ·simp[hj]
   rw[this]
  rw[this];rfl
 |cons v vs ih =>
  intro c o i w h hle hone;simp only[List.length_cons]at hle;have hv:v.oneCell=true:=hone v ZD;have hlt:=AY h;have hst:(store (Addr.add ⟨b,o,none⟩ i) v).run P w=.ok () (bI w b (.cells (c.setIfInBounds (o+i) v) e (0,0))):=by
   rw[kM];have hc:w.cell? ⟨b,o+i,none⟩=some (c[o+i]' V):=(by rw[A0 h];simp);have hf:w.frozen? ⟨b,o+i,none⟩=false:=(by simp[World.frozen?,h]);rw[<- GC h];cases v<;>simp_all[store,Sem.run,Value.oneCell]
  rw[storeCells,ar hst];rw[ih (c.setIfInBounds (o+i) v) o (i+1) _ (by rw[eO,Vf ⟨rfl,hlt⟩]) (by simp;omega) (fun x hx=>hone x (by simp[hx]))];rw[GF];rfl
end
def setAt (cells:List ZI)(off:Nat)(vs:List ZI):List ZI:=cells.take off++vs++cells.drop (off+vs.length)
def qo {cells:List ZI}{off:Nat}{vs:List ZI}(h:off+vs.length<=cells.length):(setAt cells off vs).length=cells.length:=by
 simp[setAt];omega
def GG {cells:List ZI}{off:Nat}{vs:List ZI}(h:off+vs.length<=cells.length)(i:Nat):
  (setAt cells off vs)[i]?=if off<=i/\i<off+vs.length then vs[i-off]? else cells[i]?:=by
 unfold setAt;by_cases h1:i<off
 ·rw[Ve V,List.append_assoc,Vv (by simp;omega),YR,Vf h1]
 ·by_cases h2:i<off+vs.length
  ·rw[Vf V,Vv (by simp;omega),VR (by simp;omega)];congr 1;simp;omega
  ·rw[Ve V,VR (by simp;omega),Wv];congr 1;simp;omega
def iZ (P:Program)(t:TypeId)(cells:List ZI)(off:Nat):Option ZI :=
 match P.underlying t with
 |none=>none
 |some d =>
  if qj d then (if off+P.cellsOf t<=cells.length then some (.agg ((cells.drop off).take (P.cellsOf t))) else none)
  else cells[off]?
def ZH.upd (H:ZH)(id:Nat)(b:ZO):ZH:={ get:=fun j=>if j=id then some b else H.get j,A:=H.A }
def ZH.lay (H:ZH)(id:Nat)(b:ZO):Option ZH :=
 if id=H.A then some { get:=fun j=>if j=id then some b else H.get j,A:=H.A+1 }
 else match H.get id with
  |some .nq=>some (H.upd id b)
  |_=>none
def ir (P:Program)(H:ZH)(t:TypeId):ZI->Option ZI
 |.O id gen off =>
  match H.get id with
  |some (.J g _ cells)=>if g=gen then iZ P t cells off else none
  |_=>none
 |.ni cells off=>iZ P t cells off
 |_=>none
def j9 (P:Program)(H:ZH)(t:TypeId)(a v:ZI):Option ZH :=
 match a with
 |.O id gen off =>
  match H.get id with
  |some (.J g e cells) =>
   if g=gen/\v.cells.length=P.cellsOf t/\v.cells.all ZI.one=true/\off+v.cells.length<=cells.length then some (H.upd id (.J g e (setAt cells off v.cells))) else none
  |_=>none
 |_=>none
def fV (place:Nat->Option (Nat × Nat))(cells:List ZI):List (Nat × ZI)->Option (List ZI)
 | []=>some cells
 |(i,v) :: rest =>
  match place i with
  |none=>none
  |some (off,size)=>if v.cells.length=size/\off+v.cells.length<=cells.length then fV place (setAt cells off v.cells) rest else none
end Go.Hx
namespace Go.Hx
variable {P:Program} {G:Nat->Option (List ZI)} {Γ Γ':aE} {H H':ZH} {w w':World}
variable {c':Array Value}{cells':List ZI}{b g id n:Nat}{e:TypeId}{cv:Value}{v:ZI}
def xA (h:cv.oneCell=true):cv.cells=#[cv]:=by
 cases cv<;>simp_all[Value.oneCell,Value.cells]
theorem ZL.cells (h:ZL P Γ H w v cv):cv.cells.toList.length=v.cells.length /\
  ∀i (_:i<v.cells.length) (_:i<cv.cells.toList.length),ZL P Γ H w v.cells[i] cv.cells.toList[i]:=by
 have one:∀ {v:ZI} {cv:Value},ZL P Γ H w v cv->v.cells=[v]->cv.cells=#[cv]->cv.cells.toList.length=v.cells.length /\
   ∀i (_:i<v.cells.length) (_:i<cv.cells.toList.length),ZL P Γ H w v.cells[i] cv.cells.toList[i]:=by
  intro v cv h hv hc;simp only[hv,hc];refine⟨rfl,fun i h1 h2=>?_⟩;simp only[List.length_cons,List.length_nil]at h1;have:i=0:=V
  subst this;exact h
 cases h with
 |lit v =>
  simp only[ZI.cells];refine⟨ZD,fun i h1 h2=>?_⟩;simp only[Vt];exact .lit _
 |nw a cap=>exact one (.nw a cap) rfl rfl
 |Q hb hlt hlen hcs hcell hrel=>exact one (.Q hb hlt hlen hcs hcell hrel) rfl rfl
 |U h=>exact one (.U h) rfl (xA h.2.1)
 |O h=>exact one (.O h) rfl (xA h.2.1)
 |ni hb hlt hcs hcell hrel=>exact one (.ni hb hlt hcs hcell hrel) rfl rfl
 |agg hcs hrel=>exact⟨by simpa[ZI.cells,Value.cells] using hcs,fun i h1 h2=>hrel i h1 h2⟩
 |nc hcs hrel=>exact one (.nc hcs hrel) rfl rfl
 |X hfs hcs hf hc=>exact one (.X hfs hcs hf hc) rfl rfl
 |nk h=>exact one (.nk h) rfl (xA h.2.1)
theorem ZL.one (h:ZL P Γ H w v cv)(hv:v.one=true):cv.oneCell=true:=by
 cases h with
 |lit v=>exact hv
 |U h=>exact h.2.1
 |O h=>exact h.2.1
 |nk h=>exact h.2.1
 |agg=>simp[ZI.one]at hv
 |nc=>simp[ZI.one]at hv
 |_=>rfl
def GN:∀ {cells:List ZI} {cs vs:List Value},qi cells=some vs->cs.length=cells.length ->
  (∀i (_:i<cells.length) (_:i<cs.length),ZL P Γ H w cells[i] cs[i])->cs=vs:=by
 intro cells
 induction cells with
 |nil=>intro cs vs h hl _;simp only[qi,Option.some.injEq]at h;subst h;simpa using hl
 |cons c cells ih =>
  intro cs vs h hl hr;cases c with
  |lit v =>
   simp only[qi,Vc]at h;obtain⟨vs',h1,rfl⟩:=h;cases cs with
   |nil=>simp at hl
   |cons x cs =>
    have h0:=hr 0 ZD ZD;simp only[V7]at h0;cases h0;have:=ih h1 (by simpa using hl) (fun i a b=>hr (i+1) (by simpa using a) (by simpa using b));rw[this]
  |_=>simp[qi]at h
theorem ZL.cX {x:Value}(h:ZL P Γ H w v cv)(hx:v.cX=some x):cv=x:=by
 cases h with
 |lit v=>simpa[ZI.cX] using hx
 |agg hcs hrel =>
  simp only[ZI.cX,Vc]at hx;obtain⟨l,h1,rfl⟩:=hx;rw[GN h1 hcs hrel]
 |_=>simp[ZI.cX]at hx
def ZO.uf (h:Γ' id=Γ id)(x:ZO):ZO.le Γ Γ' id x x:=by
 cases x<;>simp[ZO.le,h]
def ZQ.oX (R:ZQ P G Γ H w)(E:ZS Γ H w Γ' H' w')(hn:H.A<=H'.A)(hget:∀j,j≠id->H'.get j=H.get j)
  (hΓ:∀j,j≠id->Γ' j=Γ j) (hheap:∀j b base n,j≠id->Γ j=some (b,base,n)->w'.heap[b]?=w.heap[b]?)
  (harr:∀g e cells,H'.get id=some (.J g e cells) ->
   match Γ' id with
   |some (b,base,n)=>∃c,w'.heap[b]?=some (.cells c e (0,0))/\c.size=n/\base+cells.length<=n /\
     ∀i (_:i<cells.length),∃cv,c[base+i]?=some cv/\ZL P Γ' H' w' cells[i] cv
   |none=>cells=[])
  (hloop:∀st pend n env ps asg body,H'.get id=some (.loop st pend n env ps asg body) ->
   ∃b r,Γ' id=some (b,0,0)/\w'.heap[b]?=some (.loop r)/\r.state=st/\r.pending=pend/\r.params=ps/\r.assign=asg/\r.body=body /\
    r.tmps.size=n/\(∀t (_:t<r.tmps.size),ZL P Γ' H' w' (env t) r.tmps[t]))
  (hmp:∀es,H'.get id=some (.mp es)->∃b,Γ' id=some (b,0,0)/\w'.heap[b]?=some (iq es))
  (hrsv:H'.get id=some .nq->Γ' id=none)
  (hinj:∀j b base n base' n',j≠id->Γ' id=some (b,base,n)->Γ j=some (b,base',n')->False)
  (hdom:∀x,Γ' id=some x->∃y,H'.get id=some y) (hlt:∀b base n,Γ' id=some (b,base,n)->b<w'.heap.size)
  (hnext:∀y,H'.get id=some y->id<H'.A):ZQ P G Γ' H' w' where
 J j g e cells hj:=by
  by_cases h:j=id
  ·subst h;exact harr g e cells hj
  ·rw[hget j h]at hj;have h1:=R.J j g e cells hj;rw[hΓ j h];cases hg:Γ j with
   |none=>rw[hg]at h1;exact h1
   |some x =>
    obtain⟨b,base,n⟩:=x;rw[hg]at h1;obtain⟨c,a1,a2,a3,a4⟩:=h1;exact⟨c,(hheap j b base n h hg).trans a1,a2,a3,fun i hi=>let ⟨cv,b1,b2⟩:=a4 i hi;⟨cv,b1,b2.aZ E hn⟩⟩
 loop j st pend n env ps asg body hj:=by
  by_cases h:j=id
  ·subst h;exact hloop st pend n env ps asg body hj
  ·rw[hget j h]at hj;obtain⟨b,r,a1,a2,a3,a4,a5,a6,a7,a8,a9⟩:=R.loop j st pend n env ps asg body hj;exact⟨b,r,(hΓ j h).trans a1,(hheap j b 0 0 h a1).trans a2,a3,a4,a5,a6,a7,a8,fun t ht=>(a9 t ht).aZ E hn⟩
 mp j es hj:=by
  by_cases h:j=id
  ·subst h;exact hmp es hj
  ·rw[hget j h]at hj;obtain⟨b,a1,a2⟩:=R.mp j es hj;exact⟨b,(hΓ j h).trans a1,(hheap j b 0 0 h a1).trans a2⟩
 nq j hj:=by
  by_cases h:j=id
  ·subst h;exact hrsv hj
  ·rw[hget j h]at hj;rw[hΓ j h];exact R.nq j hj
 inj i j b base n base' n' h1 h2:=by
  by_cases hi:i=id
  ·by_cases hj:j=id
   ·rw[hi,hj]
   ·rw[hi]at h1;rw[hΓ j hj]at h2;exact(hinj j b base n base' n' hj h1 h2).elim
  ·by_cases hj:j=id
   ·rw[hj]at h2;rw[hΓ i hi]at h1;exact(hinj i b base' n' base n hi h2 h1).elim
   ·rw[hΓ i hi]at h1;rw[hΓ j hj]at h2;exact R.inj i j b base n base' n' h1 h2
 nF j x hx:=by
  by_cases h:j=id
  ·subst h;exact hdom x hx
  ·rw[hΓ j h]at hx;rw[hget j h];exact R.nF j x hx
 lt j b base n hx:=by
  by_cases h:j=id
  ·subst h;exact hlt b base n hx
  ·rw[hΓ j h]at hx;exact Vl (R.lt j b base n hx) E.size
 A j y hy:=by
  by_cases h:j=id
  ·subst h;exact hnext y hy
  ·rw[hget j h]at hy;exact Vl (R.A j y hy) hn
 nE g cells hg:=(R.nE g cells hg).aZ E hn
 gsz:=R.qh E
def aE.upd (Γ:aE)(id:Nat)(x:Option (Nat × Nat × Nat)):aE:=fun j=>if j=id then x else Γ j
def aE.eI (Γ:aE)(id:Nat)(x:Option (Nat × Nat × Nat)):Γ.upd id x id=x:=by simp[aE.upd]
def aE.jr (Γ:aE)(id:Nat)(x:Option (Nat × Nat × Nat)){j:Nat}(h:j≠id):Γ.upd id x j=Γ j:=by simp[aE.upd,h]
def xB {x0 y0:Nat}:rZ Γ w (Γ.upd id (some (w.heap.size,x0,y0))):=fun j b x y h hlt=>by
 by_cases hj:j=id
 ·subst hj;rw[aE.eI]at h;simp only[Option.some.injEq,Prod.mk.injEq]at h;omega
 ·rw[aE.jr _ _ _ hj]at h;exact⟨x,y,h⟩
def GO {b0 x0 y0 x1 y1:Nat}(h0:Γ id=some (b0,x0,y0)):rZ Γ w (Γ.upd id (some (b0,x1,y1))):=fun j b x y h hlt=>by
 by_cases hj:j=id
 ·subst hj;rw[aE.eI]at h;simp only[Option.some.injEq,Prod.mk.injEq]at h;exact⟨x0,y0,by rw[h0,h.1]⟩
 ·rw[aE.jr _ _ _ hj]at h;exact⟨x,y,h⟩
def heap_alloc (w:World)(o:Obj)(b:Nat):(w.alloc o).heap[b]?=if b=w.heap.size then some o else w.heap[b]?:=by
 show (w.heap.push o)[b]?=_;rw[XW]
def qp {w:World}{o:Obj}(h:b<w.heap.size):(w.alloc o).heap[b]?=w.heap[b]?:=by
 rw[heap_alloc,Ve V]
def ka {b:ZO}(h:H.lay id b=some H'):
  (∀j,H'.get j=if j=id then some b else H.get j)/\((id=H.A/\H'.A=H.A+1)\/(H.get id=some .nq/\H'.A=H.A)):=by
 unfold ZH.lay at h;split at h
 ·rename_i hid;simp only[Option.some.injEq]at h;subst h;exact⟨fun j=>rfl,.inl ⟨hid,rfl⟩⟩
 ·split at h
  ·rename_i hr;simp only[Option.some.injEq]at h;subst h;exact⟨fun j=>rfl,.inr ⟨hr,rfl⟩⟩
  ·cases h
def nL (R:ZQ P G Γ H w){b:ZO}(h:H.lay id b=some H'):Γ id=none/\(H.get id=none\/H.get id=some .nq)/\H.A<=H'.A/\id<H'.A:=by
 obtain⟨_,h2|h2⟩:=ka h
 ·have hn:H.get id=none:=by
   cases hg:H.get id with
   |none=>rfl
   |some y=>have:=R.A id y hg;omega
  have hΓ:Γ id=none:=by
   cases hg:Γ id with
   |none=>rfl
   |some x=>obtain⟨y,hy⟩:=R.nF id x hg;rw[hn]at hy;cases hy
  exact⟨hΓ,.inl hn,V,V⟩
 ·have:=R.A id _ h2.1;exact⟨R.nq id h2.1,.inr h2.1,V,V⟩
def se {cells:List ZI}{c:Array Value}(R:ZQ P G Γ H w)(h:H.lay id (.J 0 e cells)=some H')
  (hlen:cells.length<=c.size) (hrel:∀i (_:i<cells.length),∃cv,c[i]?=some cv/\ZL P Γ H w cells[i] cv):
  ZS Γ H w (Γ.upd id (some (w.heap.size,0,c.size))) H' (w.alloc (.cells c e))/\H.A<=H'.A /\
   ZQ P G (Γ.upd id (some (w.heap.size,0,c.size))) H' (w.alloc (.cells c e)):=by
 obtain⟨f1,f2,f3,f4⟩:=nL R h;obtain⟨hget,_⟩:=ka h;have E:ZS Γ H w (Γ.upd id (some (w.heap.size,0,c.size))) H' (w.alloc (.cells c e)):=by
  refine⟨rfl,rfl,rfl,ZD,fun b hb ho=>⟨qp hb,?_⟩,fun j hj hj' x' hx'=>?_,?_,ue rfl,xB⟩
  ·rintro⟨j,base,n,hj⟩;by_cases hji:j=id
   ·rw[hji,aE.eI]at hj;simp only[Option.some.injEq,Prod.mk.injEq]at hj;omega
   ·rw[aE.jr _ _ _ hji]at hj;exact ho ⟨j,base,n,hj⟩
  ·rw[hget]at hx';by_cases hji:j=id
   ·subst hji;rcases f2 with f2|f2
    ·obtain⟨_,h2|h2⟩:=ka h
     ·omega
     ·rw[f2]at h2;cases h2.1
    ·exact⟨.nq,f2,trivial⟩
   ·rw[Ve hji]at hx';exact⟨x',hx',ZO.uf (aE.jr _ _ _ hji) _⟩
  ·exact fun a _=>qm rfl (fun _ _ _ h=>by cases h;rfl) a
 refine⟨E,f3,R.oX (id:=id) E f3 (fun j hj=>by rw[hget,Ve hj]) (fun j hj=>aE.jr _ _ _ hj)
  (fun j b base n hj hg=>qp (R.lt j b base n hg)) ?_ ?_ ?_ ?_ ?_ ?_ ?_ ?_⟩
 ·intro g e' cells' hg;rw[hget,Vf rfl]at hg;simp only[Option.some.injEq,ZO.J.injEq]at hg;obtain⟨_,rfl,rfl⟩:=hg;rw[aE.eI];refine⟨c,by rw[heap_alloc,Vf rfl],rfl,V,fun i hi=>?_⟩;obtain⟨cv,h1,h2⟩:=hrel i hi;exact⟨cv,by rw[Nat.zero_add];exact h1,h2.aZ E f3⟩
 ·intro st pend n env ps asg body hg;rw[hget,Vf rfl]at hg;cases hg
 ·intro es hg;rw[hget,Vf rfl]at hg;cases hg
 ·intro hg;rw[hget,Vf rfl]at hg;cases hg
 ·intro j b base n base' n' hj h1 h2;rw[aE.eI]at h1;simp only[Option.some.injEq,Prod.mk.injEq]at h1;have:=R.lt j b base' n' h2;omega
 ·exact fun x _=>⟨_,by rw[hget,Vf rfl]⟩
 ·intro b base n h1;rw[aE.eI]at h1;simp only[Option.some.injEq,Prod.mk.injEq]at h1;simp;omega
 ·exact fun _ _=>f4
def aj (H:ZH)(id:Nat)(b:ZO)(j:Nat):(H.upd id b).get j=if j=id then some b else H.get j:=rfl
def xC {cells:List ZI}{base:Nat}(R:ZQ P G Γ H w)
  (hg:H.get id=some (.J g e cells)) (hΓ:Γ id=some (b,base,n)) (hlen:cells'.length=cells.length) (hsz:c'.size=n)
  (hrel:∀i (_:i<cells'.length),∃cv,c'[base+i]?=some cv/\ZL P Γ H w cells'[i] cv):
  ZS Γ H w Γ (H.upd id (.J g e cells')) (bI w b (.cells c' e (0,0)))/\ZQ P G Γ (H.upd id (.J g e cells')) (bI w b (.cells c' e (0,0))):=by
 have hblk:=R.lt id b base n hΓ;have E:ZS Γ H w Γ (H.upd id (.J g e cells')) (bI w b (.cells c' e (0,0))):=by
  refine⟨rfl,rfl,rfl,by rw[j8];exact Nat.le_refl _,fun b' hb ho=>⟨?_,ho⟩,fun j hj hj' x' hx'=>?_,?_,?_,.refl _ _⟩
  ·rw[eO,Ve];rintro⟨rfl,_⟩;exact ho ⟨id,base,n,hΓ⟩
  ·rw[aj]at hx';by_cases hji:j=id
   ·subst hji;rw[Vf rfl]at hx';cases hx';exact⟨_,hg,ZG,fun _=>⟨rfl,rfl,hlen⟩⟩
   ·rw[Ve hji]at hx';exact⟨x',hx',ZO.le_refl _ _ _⟩
  ·have h0:=R.J id g e cells hg;rw[hΓ]at h0;obtain⟨c,a1,_⟩:=h0;exact fun a _=>r8 a1 (fun _ _ _ h=>by cases h;rfl) (fun _ _ _ h=>by cases h;rfl) a
  ·have h0:=R.J id g e cells hg;rw[hΓ]at h0;obtain⟨c,a1,a2,_⟩:=h0;exact AZ a1 (by rw[hsz,a2])
 have h0:=R.J id g e cells hg;rw[hΓ]at h0;obtain⟨c,a1,a2,a3,a4⟩:=h0;refine⟨E,R.oX (id:=id) E ZG (fun j hj=>by rw[aj,Ve hj]) (fun j hj=>rfl)
  (fun j b' base' n' hj hg'=>?_) ?_ ?_ ?_ ?_ ?_ ?_ ?_ ?_⟩
 ·rw[eO,Ve];rintro⟨rfl,_⟩;exact hj (R.inj j id b' base' n' base n hg' hΓ)
 ·intro g' e' cells'' hg';rw[aj,Vf rfl]at hg';simp only[Option.some.injEq,ZO.J.injEq]at hg';obtain⟨rfl,rfl,rfl⟩:=hg';rw[hΓ];refine⟨c',by rw[eO,Vf ⟨rfl,hblk⟩],hsz,V,fun i hi=>?_⟩;obtain⟨cv,h1,h2⟩:=hrel i hi;exact⟨cv,h1,h2.aZ E ZG⟩
 ·intro st pend n env ps asg body hg';rw[aj,Vf rfl]at hg';cases hg'
 ·intro es hg';rw[aj,Vf rfl]at hg';cases hg'
 ·intro hg';rw[aj,Vf rfl]at hg';cases hg'
 ·intro j b' base' n' base'' n'' hj h1 h2;rw[hΓ]at h1;simp only[Option.some.injEq,Prod.mk.injEq]at h1;obtain⟨rfl,rfl,rfl⟩:=h1;exact hj (R.inj j id _ _ _ _ _ h2 hΓ)
 ·exact fun x _=>⟨_,by rw[aj,Vf rfl]⟩
 ·intro b' base' n' h1;rw[j8];exact R.lt id b' base' n' h1
 ·exact fun _ _=>R.A id _ hg
def GP {cells:List ZI}{base base':Nat}(R:ZQ P G Γ H w)
  (hg:H.get id=some (.J g e cells)) (hΓ:Γ id=some (b,base,n)) (hsz:c'.size=n) (hle:base'+cells'.length<=n)
  (hrel:∀i (_:i<cells'.length),∃cv,c'[base'+i]?=some cv/\ZL P Γ H w cells'[i] cv):
  ZS Γ H w (Γ.upd id (some (b,base',n))) (H.upd id (.J (g+1) e cells')) (bI w b (.cells c' e (0,0))) /\
   ZQ P G (Γ.upd id (some (b,base',n))) (H.upd id (.J (g+1) e cells')) (bI w b (.cells c' e (0,0))):=by
 have hblk:=R.lt id b base n hΓ;have E:ZS Γ H w (Γ.upd id (some (b,base',n))) (H.upd id (.J (g+1) e cells')) (bI w b (.cells c' e (0,0))):=by
  refine⟨rfl,rfl,rfl,by rw[j8];exact Nat.le_refl _,fun b' hb ho=>⟨?_,?_⟩,fun j hj hj' x' hx'=>?_,?_,?_,GO hΓ⟩
  ·rw[eO,Ve];rintro⟨rfl,_⟩;exact ho ⟨id,base,n,hΓ⟩
  ·rintro⟨j,base'',n'',hj⟩;by_cases hji:j=id
   ·rw[hji,aE.eI]at hj;simp only[Option.some.injEq,Prod.mk.injEq]at hj;exact ho ⟨id,base,n,by rw[hΓ,hj.1]⟩
   ·rw[aE.jr _ _ _ hji]at hj;exact ho ⟨j,base'',n'',hj⟩
  ·rw[aj]at hx';by_cases hji:j=id
   ·subst hji;rw[Vf rfl]at hx';cases hx';exact⟨_,hg,Xu _,fun h=>V⟩
   ·rw[Ve hji]at hx';exact⟨x',hx',ZO.uf (aE.jr _ _ _ hji) _⟩
  ·have h0:=R.J id g e cells hg;rw[hΓ]at h0;obtain⟨c,a1,_⟩:=h0;exact fun a _=>r8 a1 (fun _ _ _ h=>by cases h;rfl) (fun _ _ _ h=>by cases h;rfl) a
  ·have h0:=R.J id g e cells hg;rw[hΓ]at h0;obtain⟨c,a1,a2,_⟩:=h0;exact AZ a1 (by rw[hsz,a2])
 refine⟨E,R.oX (id:=id) E ZG (fun j hj=>by rw[aj,Ve hj]) (fun j hj=>aE.jr _ _ _ hj)
  (fun j b' base' n' hj hg'=>?_) ?_ ?_ ?_ ?_ ?_ ?_ ?_ ?_⟩
 ·rw[eO,Ve];rintro⟨rfl,_⟩;exact hj (R.inj j id b' base' n' base n hg' hΓ)
 ·intro g' e' cells'' hg';rw[aj,Vf rfl]at hg';simp only[Option.some.injEq,ZO.J.injEq]at hg';obtain⟨rfl,rfl,rfl⟩:=hg';rw[aE.eI];refine⟨c',by rw[eO,Vf ⟨rfl,hblk⟩],hsz,hle,fun i hi=>?_⟩;obtain⟨cv,h1,h2⟩:=hrel i hi;exact⟨cv,h1,h2.aZ E ZG⟩
 ·intro st pend n env ps asg body hg';rw[aj,Vf rfl]at hg';cases hg'
 ·intro es hg';rw[aj,Vf rfl]at hg';cases hg'
 ·intro hg';rw[aj,Vf rfl]at hg';cases hg'
 ·intro j b' base' n' base'' n'' hj h1 h2;rw[aE.eI]at h1;simp only[Option.some.injEq,Prod.mk.injEq]at h1;obtain⟨rfl,rfl,rfl⟩:=h1;exact hj (R.inj j id _ _ _ _ _ h2 hΓ)
 ·exact fun x _=>⟨_,by rw[aj,Vf rfl]⟩
 ·intro b' base'' n' h1;rw[aE.eI]at h1;simp only[Option.some.injEq,Prod.mk.injEq]at h1;rw[j8];omega
 ·exact fun _ _=>R.A id _ hg
def GQ {cells:List ZI}(R:ZQ P G Γ H w)
  (hg:H.get id=some (.J g e cells)) (hle:cells'.length<=c'.size)
  (hrel:∀i (_:i<cells'.length),∃cv,c'[i]?=some cv/\ZL P Γ H w cells'[i] cv):
  ZS Γ H w (Γ.upd id (some (w.heap.size,0,c'.size))) (H.upd id (.J (g+1) e cells')) (w.alloc (.cells c' e)) /\
   ZQ P G (Γ.upd id (some (w.heap.size,0,c'.size))) (H.upd id (.J (g+1) e cells')) (w.alloc (.cells c' e)):=by
 have E:ZS Γ H w (Γ.upd id (some (w.heap.size,0,c'.size))) (H.upd id (.J (g+1) e cells')) (w.alloc (.cells c' e)):=by
  refine⟨rfl,rfl,rfl,ZD,fun b' hb ho=>⟨qp hb,?_⟩,fun j hj hj' x' hx'=>?_,?_,ue rfl,xB⟩
  ·rintro⟨j,base'',n'',hj⟩;by_cases hji:j=id
   ·rw[hji,aE.eI]at hj;simp only[Option.some.injEq,Prod.mk.injEq]at hj;omega
   ·rw[aE.jr _ _ _ hji]at hj;exact ho ⟨j,base'',n'',hj⟩
  ·rw[aj]at hx';by_cases hji:j=id
   ·subst hji;rw[Vf rfl]at hx';cases hx';exact⟨_,hg,Xu _,fun h=>V⟩
   ·rw[Ve hji]at hx';exact⟨x',hx',ZO.uf (aE.jr _ _ _ hji) _⟩
  ·exact fun a _=>qm rfl (fun _ _ _ h=>by cases h;rfl) a
 refine⟨E,R.oX (id:=id) E ZG (fun j hj=>by rw[aj,Ve hj]) (fun j hj=>aE.jr _ _ _ hj)
  (fun j b' base' n' hj hg'=>qp (R.lt j b' base' n' hg')) ?_ ?_ ?_ ?_ ?_ ?_ ?_ ?_⟩
 ·intro g' e' cells'' hg';rw[aj,Vf rfl]at hg';simp only[Option.some.injEq,ZO.J.injEq]at hg';obtain⟨rfl,rfl,rfl⟩:=hg';rw[aE.eI];refine⟨c',by rw[heap_alloc,Vf rfl],rfl,V,fun i hi=>?_⟩;obtain⟨cv,h1,h2⟩:=hrel i hi;exact⟨cv,by rw[Nat.zero_add];exact h1,h2.aZ E ZG⟩
 ·intro st pend n env ps asg body hg';rw[aj,Vf rfl]at hg';cases hg'
 ·intro es hg';rw[aj,Vf rfl]at hg';cases hg'
 ·intro hg';rw[aj,Vf rfl]at hg';cases hg'
 ·intro j b' base' n' base'' n'' hj h1 h2;rw[aE.eI]at h1;simp only[Option.some.injEq,Prod.mk.injEq]at h1;have:=R.lt j _ _ _ h2;omega
 ·exact fun x _=>⟨_,by rw[aj,Vf rfl]⟩
 ·intro b' base'' n' h1;rw[aE.eI]at h1;simp only[Option.some.injEq,Prod.mk.injEq]at h1;simp;omega
 ·exact fun _ _=>R.A id _ hg
def ug (Γ:aE)(H:ZH)(w:World)(n:Nat):ZS Γ H w Γ H { w with drawn:=n } :=
 ⟨rfl,rfl,rfl,ZG,fun _ _ h=>⟨rfl,h⟩,fun _ _ _ x' h=>⟨x',h,ZO.le_refl _ _ _⟩,fun _ _=>rfl,.refl _,.refl _ _⟩
def ZQ.drew (R:ZQ P G Γ H w)(n:Nat):ZQ P G Γ H { w with drawn:=n } :=
 R.oX (id:=H.A) (ug Γ H w n) ZG (fun _ _=>rfl) (fun _ _=>rfl) (fun _ _ _ _ _ _=>rfl)
  (fun g e cells h=>absurd (R.A _ _ h) (Yg _)) (fun st pend n env ps asg body h=>absurd (R.A _ _ h) (Yg _)) (fun es h=>absurd (R.A _ _ h) (Yg _))
  (fun h=>absurd (R.A _ _ h) (Yg _))
  (fun j b base n base' n' hj h1 h2=>by obtain⟨y,hy⟩:=R.nF _ _ h1;exact absurd (R.A _ _ hy) (Yg _))
  (fun x hx=>R.nF _ x hx) (fun b base n hx=>R.lt _ b base n hx) (fun y hy=>R.A _ y hy)
def GR (R:ZQ P G Γ H w)(h:H.lay id (.mp [])=some H'):
  ZS Γ H w (Γ.upd id (some (w.heap.size,0,0))) H' (w.alloc (iq []))/\H.A<=H'.A/\ZQ P G (Γ.upd id (some (w.heap.size,0,0))) H' (w.alloc (iq [])):=by
 obtain⟨f1,f2,f3,f4⟩:=nL R h;obtain⟨hget,hor⟩:=ka h;have E:ZS Γ H w (Γ.upd id (some (w.heap.size,0,0))) H' (w.alloc (iq [])):=by
  refine⟨rfl,rfl,rfl,ZD,fun b hb ho=>⟨qp hb,?_⟩,fun j hj hj' x' hx'=>?_,?_,ue rfl,xB⟩
  ·rintro⟨j,base,n,hj⟩;by_cases hji:j=id
   ·rw[hji,aE.eI]at hj;simp only[Option.some.injEq,Prod.mk.injEq]at hj;omega
   ·rw[aE.jr _ _ _ hji]at hj;exact ho ⟨j,base,n,hj⟩
  ·rw[hget]at hx';by_cases hji:j=id
   ·subst hji;rcases f2 with f2|f2
    ·rcases hor with ⟨h1,h2⟩|h2
     ·omega
     ·rw[f2]at h2;cases h2.1
    ·exact⟨.nq,f2,trivial⟩
   ·rw[Ve hji]at hx';exact⟨x',hx',ZO.uf (aE.jr _ _ _ hji) _⟩
  ·exact fun a _=>qm rfl (fun _ _ _ h=>by cases h) a
 refine⟨E,f3,R.oX (id:=id) E f3 (fun j hj=>by rw[hget,Ve hj]) (fun j hj=>aE.jr _ _ _ hj)
  (fun j b base n hj hg=>qp (R.lt j b base n hg)) ?_ ?_ ?_ ?_ ?_ ?_ ?_ ?_⟩
 ·intro g e' cells' hg;rw[hget,Vf rfl]at hg;cases hg
 ·intro st pend n env ps asg body hg;rw[hget,Vf rfl]at hg;cases hg
 ·intro es hg;rw[hget,Vf rfl]at hg;cases hg;exact⟨w.heap.size,aE.eI _ _ _,by rw[heap_alloc,Vf rfl]⟩
 ·intro hg;rw[hget,Vf rfl]at hg;cases hg
 ·intro j b base n base' n' hj h1 h2;rw[aE.eI]at h1;simp only[Option.some.injEq,Prod.mk.injEq]at h1;have:=R.lt j b base' n' h2;omega
 ·exact fun x _=>⟨_,by rw[hget,Vf rfl]⟩
 ·intro b base n h1;rw[aE.eI]at h1;simp only[Option.some.injEq,Prod.mk.injEq]at h1;simp;omega
 ·exact fun _ _=>f4
def ui {es:List (Int × Int)}(es':List (Int × Int))(R:ZQ P G Γ H w)(hg:H.get id=some (.mp es))(hΓ:Γ id=some (b,0,0))(hb:w.heap[b]?=some (iq es)):
  ZS Γ H w Γ (H.upd id (.mp es')) (bI w b (iq es'))/\ZQ P G Γ (H.upd id (.mp es')) (bI w b (iq es')):=by
 have hblk:=R.lt id b 0 0 hΓ;have E:ZS Γ H w Γ (H.upd id (.mp es')) (bI w b (iq es')):=by
  refine⟨rfl,rfl,rfl,by rw[j8];exact Nat.le_refl _,fun b' hb ho=>⟨?_,ho⟩,fun j hj hj' x' hx'=>?_,?_,xx hb fun _ _ _ h=>(by cases h),.refl _ _⟩
  ·rw[eO,Ve];rintro⟨rfl,_⟩;exact ho ⟨id,0,0,hΓ⟩
  ·rw[aj]at hx';by_cases hji:j=id
   ·subst hji;rw[Vf rfl]at hx';cases hx';exact⟨_,hg,rfl⟩
   ·rw[Ve hji]at hx';exact⟨x',hx',ZO.le_refl _ _ _⟩
  ·exact fun a _=>r8 hb (fun _ _ _ h=>by cases h) (fun _ _ _ h=>by cases h) a
 refine⟨E,R.oX (id:=id) E ZG (fun j hj=>by rw[aj,Ve hj]) (fun j hj=>rfl)
  (fun j b' base' n' hj hg'=>?_) ?_ ?_ ?_ ?_ ?_ ?_ ?_ ?_⟩
 ·rw[eO,Ve];rintro⟨rfl,_⟩;exact hj (R.inj j id b' base' n' 0 0 hg' hΓ)
 ·intro g' e' cells'' hg';rw[aj,Vf rfl]at hg';cases hg'
 ·intro st pend n env ps asg body hg';rw[aj,Vf rfl]at hg';cases hg'
 ·intro es2 hg';rw[aj,Vf rfl]at hg';cases hg';exact⟨b,hΓ,by rw[eO,Vf ⟨rfl,hblk⟩]⟩
 ·intro hg';rw[aj,Vf rfl]at hg';cases hg'
 ·intro j b' base' n' base'' n'' hj h1 h2;rw[hΓ]at h1;simp only[Option.some.injEq,Prod.mk.injEq]at h1;obtain⟨rfl,rfl,rfl⟩:=h1;exact hj (R.inj j id _ _ _ _ _ h2 hΓ)
 ·exact fun x _=>⟨_,by rw[aj,Vf rfl]⟩
 ·intro b' base' n' h1;rw[j8];exact R.lt id b' base' n' h1
 ·exact fun _ _=>R.A id _ hg
end Go.Hx
namespace Go.Hx
def au (G:Nat->Option (List ZI))(ρ:Env):Operand->ZI
 |.tmp t=>ρ t
 |.const v=>.lit v
 |.global g=>match G g with|some cells=>.ni cells 0|none=>.lit (.pointer (some ⟨g,0,none⟩))
 |.func f=>.X f [] []
def bQ (P:Program)(t:TypeId):Option (List ZI) :=
 match P.info? t with
 |some i=>match i.zero with
  |some z=>if z.cells.size=i.size then some (z.cells.toList.map .lit) else none
  |none=>none
 |none=>none
def ke (P:Program)(t:TypeId)(n:Nat):Option (List ZI):=(bQ P t).map fun z=>(List.replicate n z).flatten
def ja (P:Program)(t:TypeId):Option (List (Nat × Nat)) :=
 match P.underlying t with
 |some (.struct fs)=>if fs.toList.all fun f=>(P.info? f.type).isSome then some (fs.toList.map fun f=>(f.offset,P.cellsOf f.type)) else none
 |_=>none
def bK (P:Program)(t:TypeId)(i:Nat):Option (Nat × TypeId) :=
 match P.underlying t with
 |some (.struct fs)=>match fs[i]? with
  |some f=>if (P.info? f.type).isSome/\P.cellsOf f.type≠0 then some (f.offset,f.type) else none
  |none=>none
 |_=>none
def ZH.na (H:ZH)(id gen:Nat):Option (TypeId × List ZI) :=
 match H.get id with
 |some (.J g e cells)=>if g=gen then some (e,cells) else none
 |_=>none
def cz:Option ZI->Nat->Nat->Option Nat
 |none,d,_=>some d
 |some (.lit (.int _ i)),_,m=>if 0<=i/\i<=(m:Int) then some i.toNat else none
 |_,_,_=>none
def nM (P:Program)(H:ZH)(t:TypeId)(x:ZI)(i:Int):Option ZI :=
 match P.underlying t with
 |some (.array n e) =>
  if 0<=i/\i<(n:Int)/\(P.underlying e).isSome then
   match x with
   |.O id gen off=>(H.na id gen).map fun _=>.O id gen (off+i.toNat*P.cellsOf e)
   |.ni cells off=>some (.ni cells (off+i.toNat*P.cellsOf e))
   |_=>none
  else none
 |some (.slice e) =>
  if (P.underlying e).isSome then
   match x with
   |.U id gen off len sz=>if 0<=i/\i<(len:Int)/\sz=P.cellsOf e then (H.na id gen).map fun _=>.O id gen (off+i.toNat*P.cellsOf e) else none
   |.Q len cells=>if 0<=i/\i<(len:Int)/\cells≠[] then some (.ni cells (i.toNat*P.cellsOf e)) else none
   |_=>none
  else none
 |_=>none
def nN (P:Program)(H:ZH)(t:TypeId)(x:ZI)(lo hi:Option ZI):Option ZI :=
 match P.underlying t with
 |some (.array n e) =>
  if (P.underlying e).isSome then
   match x with
   |.O id gen off =>
    match H.na id gen with
    |some (_,cells) =>
     if off+n*P.cellsOf e<=cells.length then
      (cz hi n n).bind fun h=>(cz lo 0 h).map fun l=>.U id gen (off+l*P.cellsOf e) (h-l) (P.cellsOf e)
     else none
    |none=>none
   | .ni cells off=>if off+n*P.cellsOf e≤cells.length then
      (cz hi n n).bind fun h=>(cz lo 0 h).map fun l=>.Q (h-l) ((cells.drop (off+l*P.cellsOf e)).take ((h-l)*P.cellsOf e))
     else none
   |_=>none
  else none
 |some (.slice e) =>
  if (P.underlying e).isSome then
   match x with
   |.U id gen off len sz=>if sz=P.cellsOf e then (H.na id gen).bind fun _=>(cz hi len len).bind fun h=>(cz lo 0 h).map fun l=>.U id gen (off+l*sz) (h-l) sz else none
   |.Q len cells=>if cells.length=len*P.cellsOf e then (cz hi len len).bind fun h=>(cz lo 0 h).map fun l=>.Q (h-l) ((cells.drop (l*P.cellsOf e)).take ((h-l)*P.cellsOf e)) else none
   |.lit (.slice none 0 0)=>(cz hi 0 0).bind fun h=>(cz lo 0 h).map fun _=>.lit (.slice none 0 0)
   |_=>none
  else none
 |some .string =>
  match x with
  |.lit (.string s)=>(cz hi s.size s.size).bind fun h=>(cz lo 0 h).map fun l=>.lit (.string (s.extract l h))
  |_=>none
 |_=>none
def de (H:ZH)(sz:Nat):ZI->Option (Nat × List ZI)
 |.Q len cells=>if cells.length=len*sz then some (len,cells) else none
 |.U id gen off len sz'=>if sz'=sz then (H.na id gen).map fun x=>(len,(x.2.drop off).take (len*sz)) else none
 |.lit (.slice none 0 0)=>some (0,[])
 |_=>none
def bU (P:Program)(H:ZH)(id:Nat)(at0 at1:TypeId)(s x:ZI):Option (ZI × ZH) :=
 match P.underlying at0 with
 |some (.slice e) =>
  match P.underlying at1 with
  |some (.slice _) =>
   (bQ P e).bind fun _ =>
   (de H (P.cellsOf e) x).bind fun nx =>
    match s with
    |.lit (.slice none 0 0) =>
     if nx.1=0 then some (s,H)
     else if nx.1*P.bytesOf e<=2 ^ 46/\nx.1<=2 ^ 46 then (H.lay id (.J 0 e nx.2)).map fun H'=>(.U id 0 0 nx.1 (P.cellsOf e),H')
     else none
    |.U id' gen off len sz =>
     (H.na id' gen).bind fun ec =>
      if ec.1=e/\sz=P.cellsOf e/\off+len*sz=ec.2.length/\(len+nx.1)*P.bytesOf e<=2 ^ 46/\len+nx.1<=2 ^ 46/\nx.2.all ZI.one=true then
       if nx.1=0 then some (s,H)
       else some (.U id' (gen+1) 0 (len+nx.1) sz,H.upd id' (.J (gen+1) e (ec.2.drop off++nx.2)))
      else none
    |_=>none
  |_=>none
 |_=>none
def lU (P:Program)(H:ZH)(at0:TypeId)(d x:ZI):Option (ZI × ZH) :=
 match P.underlying at0 with
 |some (.slice e) =>
  if (P.underlying e).isSome then
   (de H (P.cellsOf e) x).bind fun nx =>
    match d with
    |.U id gen off len sz =>
     (H.na id gen).bind fun ec =>
      if sz=P.cellsOf e/\off+len*sz<=ec.2.length/\nx.2.all ZI.one=true then
       some (.lit (.int .i64 (min nx.1 len:Nat)),H.upd id (.J gen ec.1 (setAt ec.2 off (nx.2.take (min nx.1 len*sz)))))
      else none
    |_=>none
  else none
 |_=>none
def nO (P:Program)(H:ZH)(t:TypeId)(x:ZI):Option ZI :=
 match P.underlying t with
 |some (.slice _) =>
  match x with
  |.Q len _=>some (.lit (.int .i64 len))
  |.U id gen _ len _=>(H.na id gen).map fun _=>.lit (.int .i64 len)
  |.lit (.slice none 0 0)=>some (.lit (.int .i64 0))
  |_=>none
 |some .string =>
  match x with
  |.lit (.string s)=>some (.lit (.int .i64 s.size))
  |_=>none
 |some (.array n _)=>some (.lit (.int .i64 n))
 |_=>none
def sf (P:Program)(t:TypeId):Bool:=match P.underlying t with
 |some (.map kt et)=>(match P.underlying kt with|some (.int .i64)=>true|_=>false) && (match (P.info? et).bind (·.zero) with|some (.int .i64 0)=>true|_=>false)
 |_=>false
def jJ (k:Int):Nat->List (Int × Int)->Option (Nat × Int)
 |_,[]=>none
 |i,(a,v) :: l=>if k=a then some (i,v) else jJ k (i+1) l
def xD (es:List (Int × Int))(k v:Int):List (Int × Int):=match jJ k 0 es with
 |some (i,_)=>es.set i (k,v)
 |none=>es++[(k,v)]
def xE (es:List (Int × Int))(i:Nat)(v:Int):List (Int × Int):=match es[i]? with
 |some (k,_)=>es.set i (k,v)
 |none=>es
def uj (ok:Bool)(r:Option (Nat × Int)):ZI:=match r with
 |some (_,v)=>if ok then .nc [.lit (.int .i64 v),.lit (.bool true)] else .lit (.int .i64 v)
 |none=>if ok then .nc [.lit (.int .i64 0),.lit (.bool false)] else .lit (.int .i64 0)
def qt (P:Program)(H:ZH)(t:TypeId)(x i:ZI)(ok:Bool):Option ZI:=if sf P t=true then
  match x,i with
  |.lit (.map none),.lit (.int .i64 _)=>some (uj ok none)
  |.nk id,.lit (.int .i64 k)=>match H.get id with
   |some (.mp es)=>some (uj ok (jJ k 0 es))
   |_=>none
  |_,_=>none
 else none
def mE (P:Program)(H:ZH)(t:TypeId)(m k x:ZI):Option (ZI × ZH):=if sf P t=true then
  match m,k,x with
  |.nk id,.lit (.int .i64 k),.lit (.int .i64 v)=>match H.get id with
   |some (.mp es)=>some (.lit undef,H.upd id (.mp (xD es k v)))
   |_=>none
  |_,_,_=>none
 else none
def oY (P:Program)(H:ZH)(t:TypeId)(m k:ZI):Option (ZI × ZH):=if sf P t=true then
  match m,k with
  |.nk id,.lit (.int .i64 k)=>match H.get id with
   |some (.mp es)=>match jJ k 0 es with
    |some (i,v)=>some (.nc [.lit (.int .i64 v),.lit (.int .i64 i)],H.upd id (.mp es))
    |none=>some (.nc [.lit (.int .i64 0),.lit (.int .i64 es.length)],H.upd id (.mp (es++[(k,0)])))
   |_=>none
  |_,_=>none
 else none
def qu (H:ZH)(m s x:ZI):Option (ZI × ZH) :=
 match m,s,x with
 |.nk id,.lit (.int .i64 s),.lit (.int .i64 v)=>match H.get id with
  |some (.mp es)=>if 0<=s/\s<es.length then some (.lit undef,H.upd id (.mp (xE es s.toNat v))) else none
  |_=>none
 |_,_,_=>none
def js (P:Program)(H:ZH)(at0:TypeId)(d:ZI):Option (ZI × ZH) :=
 match P.underlying at0 with
 |some (.slice e) =>
  match d with
  |.lit (.slice none 0 0)=>some (.nc [],H)
  |.U id gen off len sz =>
   (H.na id gen).bind fun ec =>
    if len=0 then some (.nc [],H)
    else (ke P e len).bind fun z =>
     if z.length=len*sz/\off+len*sz<=ec.2.length/\z.all ZI.one=true then some (.nc [],H.upd id (.J gen ec.1 (setAt ec.2 off z)))
     else none
  |_=>none
 |_=>none
def qv:List ZI->Option (List Value)
 | []=>some []
 |v :: r=>(v.cX).bind fun x=>(qv r).map (x :: ·)
def gT (P:Program)(H:ZH)(id:Nat)(b:Builtin)(ats:List TypeId)(args:List ZI):Option (ZI × ZH) :=
 match b,ats,args with
 |.len,[t],[x]=>(nO P H t x).map fun v=>(v,H)
 |.append,[t,u],[s,x]=>bU P H id t u s x
 |.copy,[t,_],[d,x]=>lU P H t d x
 |.clear,[t],[d]=>js P H t d
 |.min,_,args=>(qv args).bind fun vs=>(aR P (Builtin.min_ #[] 0 vs.toArray)).map fun v=>(.lit v,H)
 |.max,_,args=>(qv args).bind fun vs=>(aR P (Builtin.max_ #[] 0 vs.toArray)).map fun v=>(.lit v,H)
 |_,_,_=>none
def mF (P:Program)(H:ZH)(id:Nat)(t:TypeId)(l c:ZI):Option (ZI × ZH) :=
 match P.underlying t,l,c with
 |some (.slice e),.lit (.int _ l),.lit (.int _ c) =>
  if 0<=l/\l<=c/\c*P.bytesOf e<=2 ^ 46/\c<=2 ^ 46 then
   (ke P e l.toNat).bind fun cells=>(H.lay id (.J 0 e cells)).map fun H'=>(.U id 0 0 l.toNat (P.cellsOf e),H')
  else none
 |_,_,_=>none
def sh (P:Program)(t:TypeId)(parts:List (Nat × ZI)):Option ZI :=
 (bQ P t).bind fun z =>
  match P.underlying t with
  |some (.struct _)=>(ja P t).bind fun pl=>(fV (fun i=>pl[i]?) z parts).map .agg
  |some (.array _ e)=>if (P.underlying e).isSome then (fV (fun i=>some (i*P.cellsOf e,P.cellsOf e)) z parts).map .agg else none
  |_=>none
def nP (P:Program)(H:ZH)(id:Nat)(t:TypeId)(len:Nat)(parts:List (Nat × ZI)):Option (ZI × ZH) :=
 match P.underlying t with
 |some (.slice e) =>
  if len*P.cellsOf e<=2 ^ 24 then
   (ke P e len).bind fun z=>(fV (fun i=>some (i*P.cellsOf e,P.cellsOf e)) z parts).bind fun cells =>
    (H.lay id (.J 0 e cells)).map fun H'=>(.U id 0 0 len (P.cellsOf e),H')
  else none
 |_=>none
def aV (P:Program)(op:BinOp)(t:TypeId)(x y:Operand)(a b:ZI):Option ZI :=
 match a.cX,b.cX with
 |some a,some b=>(aR P (do eqGuard op t x y a b;binOp op t a b)).map .lit
 |_,_=>none
def qw (P:Program)(op:UnOp)(a:ZI):Option ZI :=
 match a.cX with
 |some a=>(aR P (Op.unary op a)).map .lit
 |none=>none
def lV (P:Program)(s d:TypeId)(a:ZI):Option ZI :=
 match a.cX with
 |some a=>(aR P (convert s d a)).map .lit
 |none=>none
def qx:List ZI->Option (List Int)
 | []=>some []
 |.lit (.int .u8 n) :: l=>(qx l).map (n :: ·)
 |_ :: _=>none
def A2 (l:List Int):ByteArray:=l.foldl (fun r n=>r.push (UInt8.ofNat n.toNat)) ByteArray.empty
def A3 (P:Program)(s d:TypeId):Bool:=match P.underlying s,P.underlying d with
 |some (.slice e),some .string=>match P.underlying e with
  |some (.int .u8)=>true
  |_=>false
 |_,_=>false
def nS (P:Program)(H:ZH)(s d:TypeId)(x:ZI):Option ZI :=
 if A3 P s d then (de H 1 x).bind fun nl=>(qx nl.2).map fun l=>.lit (.string (A2 l)) else none
def lW (P:Program)(H:ZH)(s d:TypeId)(x:ZI):Option ZI:=match x with
 |.U id g o l z=>nS P H s d (.U id g o l z)
 |.Q l c=>nS P H s d (.Q l c)
 |x=>lV P s d x
def lX (H:ZH):ZI->Option ZI
 |.O id gen off=>(H.na id gen).map fun _=>.O id gen off
 |.ni cells off=>some (.ni cells off)
 |.X f a b=>some (.X f a b)
 |_=>none
def oZ (P:Program)(t:TypeId)(x:ZI)(i:ZI):Option ZI :=
 match x,i with
 |.agg cells,.lit (.int _ i) =>
  match P.underlying t with
  |some (.array n e)=>if 0<=i/\i<(n:Int) then iZ P e cells (i.toNat*P.cellsOf e) else none
  |_=>none
 |.lit v,.lit i=>(aR P (Instr.index t v i)).map .lit
 |_,_=>none
def nU:ZI->Nat->Option ZI
 |.nc vs,i=>vs[i]?
 |.lit (.tuple vs),i=>(vs[i]?).map .lit
 |_,_=>none
def aq (P:Program)(G:Nat->Option (List ZI))(ρ:Env)(H:ZH)(id:Nat)(o:Op):Option (ZI × ZH) :=
 match o with
 |.move x|.assign x=>some (au G ρ x,H)
 |.pick c a b=>match au G ρ c with
  |.lit (.bool t)=>some (if t then au G ρ a else au G ρ b,H)
  |_=>none
 |.alloc e=>(bQ P e).bind fun z=>(H.lay id (.J 0 e z)).map fun H'=>(.O id 0 0,H')
 |.box e x=>(H.lay id (.J 0 e (au G ρ x).cells)).map fun H'=>(.O id 0 0,H')
 |.build t parts=>(sh P t (parts.toList.map fun p=>(p.1,au G ρ p.2))).map fun v=>(v,H)
 |.buildSlice t len parts=>nP P H id t len (parts.toList.map fun p=>(p.1,au G ρ p.2))
 |.load t a=>(ir P H t (au G ρ a)).map fun v=>(v,H)
 |.store t a x=>if (P.underlying t).isSome then (j9 P H t (au G ρ a) (au G ρ x)).map fun H'=>(.lit undef,H') else none
 |.nilCheck x=>(lX H (au G ρ x)).map fun v=>(v,H)
 |.binOp op t x y _=>(aV P op t x y (au G ρ x) (au G ρ y)).map fun v=>(v,H)
 |.unOp op _ x=>(qw P op (au G ρ x)).map fun v=>(v,H)
 |.convert s d x=>(lW P H s d (au G ρ x)).map fun v=>(v,H)
 |.makeInterface t x=>match (au G ρ x).cX with
  |some v=>(aR P (Instr.makeInterface t v)).map fun r=>(.lit r,H)
  |none=>none
 |.makeFunc fn first captured=>match fn with
  |.func f=>some (.X f (first.toList.map (au G ρ)) (captured.toList.map (au G ρ)),H)
  |_=>none
 |.makeSlice t l c=>mF P H id t (au G ρ l) (au G ρ c)
 |.slice t x lo hi mx=>match mx with
  |none=>(nN P H t (au G ρ x) (lo.map (au G ρ)) (hi.map (au G ρ))).map fun v=>(v,H)
  |some _=>none
 |.fieldAddr s x f=>(bK P s f).bind fun of=>match au G ρ x with
  |.O id gen off=>(H.na id gen).map fun _=>(.O id gen (off+of.1),H)
  |.ni cells off=>some (.ni cells (off+of.1),H)
  |_=>none
 |.field t x f=>(bK P t f).bind fun of=>match au G ρ x with
  |.agg cells=>(iZ P of.2 cells of.1).map fun v=>(v,H)
  |.lit (.agg cs)=>(iZ P of.2 (cs.toList.map .lit) of.1).map fun v=>(v,H)
  |_=>none
 |.indexAddr t x i=>match au G ρ i with
  |.lit (.int _ i)=>(nM P H t (au G ρ x) i).map fun v=>(v,H)
  |_=>none
 |.index t x i=>(oZ P t (au G ρ x) (au G ρ i)).map fun v=>(v,H)
 |.extract t i=>(nU (au G ρ t) i).map fun v=>(v,H)
 |.makeMap _ r=>match r with
  |none=>(H.lay id (.mp [])).map fun H'=>(.nk id,H')
  |some _=>none
 |.lookup t x i ok=>(qt P H t (au G ρ x) (au G ρ i) ok).map fun v=>(v,H)
 |.mapUpdate t m k x|.insert t m k x=>mE P H t (au G ρ m) (au G ρ k) (au G ρ x)
 |.mapEntry t m k=>oY P H t (au G ρ m) (au G ρ k)
 |.entryStore _ m s x=>qu H (au G ρ m) (au G ρ s) (au G ρ x)
 |.call c=>match c.callee with
  |.builtin b=>gT P H id b c.argTypes.toList (c.args.toList.map (au G ρ))
  |_=>none
 |_=>none
end Go.Hx
namespace Go.Hx
variable {P:Program} {G:Nat->Option (List ZI)} {Γ Γ':aE} {H H':ZH} {w w':World}
variable {c:Array Value}{b base gen id n o off:Nat}{e t:TypeId}{ca cv:Value}{a v:ZI}
def jK {cells:List ZI}(h:H.na id gen=some (e,cells)):H.get id=some (.J gen e cells):=by
 unfold ZH.na at h;split at h
 ·rename_i g e' cells' hg;split at h
  ·rename_i hgg;simp only[Option.some.injEq,Prod.mk.injEq]at h;rw[hg,hgg,h.1,h.2]
  ·cases h
 ·cases h
def nnf (P:Program)(Γ:aE)(H:ZH)(w:World)(b o:Nat)(cells:List ZI):Prop :=
 ∃cs:List Value,cs.length=cells.length/\(∀i (h:i<cs.length),w.cell? ⟨b,o+i,none⟩=some cs[i]) /\
  ∀i (_:i<cells.length) (_:i<cs.length),ZL P Γ H w cells[i] cs[i]
def GS {f:Nat × Nat}{cells:List ZI}(hb:w.heap[b]?=some (.cells c e f))(hle:base+cells.length<=c.size)
  (hrel:∀i (_:i<cells.length),∃cv,c[base+i]?=some cv/\ZL P Γ H w cells[i] cv):nnf P Γ H w b base cells:=by
 refine⟨(c.toList.drop base).take cells.length,by simp;omega,fun i hi=>?_,fun i h1 h2=>?_⟩
 ·rw[A0 hb];simp only[Vr,V4,Xa]at hi;simp only[XN,XO,Wk];rw[Vo V]
 ·obtain⟨cv,a1,a2⟩:=hrel i h1;simp only[XN,XO,Wk];rw[Vo V]at a1;simp only[Option.some.injEq]at a1;rw[a1];exact a2
theorem nnf.drop {cells:List ZI}(h:nnf P Γ H w b o cells)(k n:Nat)(hk:k+n<=cells.length):nnf P Γ H w b (o+k) ((cells.drop k).take n):=by
 obtain⟨cs,h1,h2,h3⟩:=h;refine⟨(cs.drop k).take n,by simp[h1],fun i hi=>?_,fun i a1 a2=>?_⟩
 ·simp only[Vr,V4]at hi;have:=h2 (k+i) V;simp only[XN,XO];rw[<- this];congr 2;omega
 ·simp only[XN,XO];simp only[Vr,V4]at a1 a2;exact h3 (k+i) V (V)
def uk {cells:List ZI}(hp:iZ P t cells off=some v)(hr:nnf P Γ H w b o cells):
  ∃cv,(loadVar t ⟨b,o+off,none⟩).run P w=.ok cv w/\ZL P Γ H w v cv:=by
 unfold iZ at hp;split at hp
 ·cases hp
 ·rename_i d hd;split at hp
  ·rename_i ha;split at hp
   ·rename_i hle;simp only[Option.some.injEq]at hp;subst hp;obtain⟨cs,h1,h2,h3⟩:=hr.drop off (P.cellsOf t) hle;refine⟨.agg cs.toArray,GA hd ha ?_ h2,.agg h1 h3⟩;rw[h1];simp;omega
   ·cases hp
  ·rename_i ha;obtain⟨cs,h1,h2,h3⟩:=hr;obtain⟨hlt,hv⟩:=VK.1 hp;subst hv;exact⟨cs[off]' V,GB hd (by simpa using ha) (h2 off V),h3 off hlt V⟩
def qy {cells:List ZI}(h:ZL P Γ H w (.O id gen off) cv)(hl:H.na id gen=some (e,cells)):
  ∃b base n,Γ id=some (b,base,n)/\cv=.pointer (some ⟨b,base+off,none⟩):=by
 cases h with
 |O h=>exact(h.2.2.2 gen e cells (jK hl)).2 rfl
def kf {len sz:Nat}{cells:List ZI}(h:ZL P Γ H w (.U id gen off len sz) cv)(hl:H.na id gen=some (e,cells)):
  (∃b base n a cap,Γ id=some (b,base,n)/\cv=.slice (some a) len cap/\len<=cap/\off+len*sz<=cells.length /\
   ((a=⟨b,base+off,none⟩/\base+off+cap*sz<=n)\/(len=0/\cap=0))) \/
  (Γ id=none/\off=0/\len=0/\cv=.slice none 0 0):=by
 cases h with
 |U h =>
  have:=(h.2.2.2 gen e cells (jK hl)).2 rfl;cases hg:Γ id with
  |none=>rw[hg]at this;exact .inr ⟨rfl,this⟩
  |some x =>
   obtain⟨b,base,n⟩:=x;rw[hg]at this;obtain⟨a,cap,h1,h2,h3,h4⟩:=this;exact .inl ⟨b,base,n,a,cap,rfl,h1,h2,h3,h4⟩
def qA (R:ZQ P G Γ H w){cells:List ZI}(hl:H.na id gen=some (e,cells))(hΓ:Γ id=some (b,base,n)):
  ∃c,w.heap[b]?=some (.cells c e (0,0))/\c.size=n/\base+cells.length<=n/\∀i (_:i<cells.length),∃cv,c[base+i]?=some cv/\ZL P Γ H w cells[i] cv:=by
 have:=R.J id gen e cells (jK hl);rw[hΓ]at this;exact this
def sj (R:ZQ P G Γ H w){cells:List ZI}(hl:H.na id gen=some (e,cells))(hΓ:Γ id=some (b,base,n)):
  nnf P Γ H w b base cells:=by
 obtain⟨c,h1,h2,h3,h4⟩:=qA R hl hΓ;exact GS h1 V h4
def GT (R:ZQ P G Γ H w)(h:ir P H t a=some v)(ha:ZL P Γ H w a ca):
  ∃cv,(Instr.loadAt t ca).run P w=.ok cv w/\ZL P Γ H w v cv:=by
 unfold ir at h;split at h
 ·rename_i id gen off;split at h
  ·rename_i g e cells hg;split at h
   ·rename_i hgg;have hl:H.na id gen=some (e,cells):=(by simp[ZH.na,hg,hgg]);obtain⟨b,base,n,hΓ,rfl⟩:=qy ha hl;obtain⟨cv,h1,h2⟩:=uk h (sj R hl hΓ);refine⟨cv,?_,h2⟩;unfold Instr.loadAt Instr.sureAddr;exact h1
   ·cases h
  ·cases h
 ·rename_i cells off;cases ha with
  |ni hb hlt hcs hcell hrel =>
   obtain⟨cv,h1,h2⟩:=uk h ⟨_,hcs,hcell,hrel⟩;exact⟨cv,h1,h2⟩
 ·cases h
def um {cells:List ZI}{cs:List Value}(h:cells.all ZI.one=true)(hl:cs.length=cells.length)
  (hr:∀i (_:i<cells.length) (_:i<cs.length),ZL P Γ H w cells[i] cs[i]):∀v,v∈cs->v.oneCell=true:=by
 intro v hv;obtain⟨i,hi,rfl⟩:=List.getElem_of_mem hv;exact(hr i V hi).one (VG.1 h _ (Wb V))
def uo {cells vs:List ZI}{cvs:List Value}(hle:off+vs.length<=cells.length)(hc:base+cells.length<=c.size)
  (hl:cvs.length=vs.length) (hrel:∀i (_:i<cells.length),∃cv,c[base+i]?=some cv/\ZL P Γ H w cells[i] cv)
  (hv:∀i (_:i<vs.length) (_:i<cvs.length),ZL P Γ H w vs[i] cvs[i]):
  ∀i (_:i<(setAt cells off vs).length),∃cv,(setRow c (base+off) cvs)[base+i]?=some cv/\ZL P Γ H w (setAt cells off vs)[i] cv:=by
 intro i hi;have hi':=hi;rw[qo hle]at hi';rw[AW _ _ _ V];have hg:(setAt cells off vs)[i]?=some (setAt cells off vs)[i]:=Vd hi;rw[GG hle]at hg;by_cases h1:off<=i/\i<off+vs.length
 ·rw[Vf h1]at hg;rw[Vf V];have h2:i-off<vs.length:=V
  rw[Vd h2]at hg;simp only[Option.some.injEq]at hg;rw[<- hg];refine⟨cvs[i-off]' V,?_,hv _ h2 V⟩;rw[show base+i-(base+off)=i-off from by omega,Vd V]
 ·rw[Ve h1,Vd hi']at hg;rw[Ve V];simp only[Option.some.injEq]at hg;rw[<- hg];exact hrel i hi'
def GU (R:ZQ P G Γ H w)(h:j9 P H t a v=some H')(ht:∃i,P.info? t=some i)(ha:ZL P Γ H w a ca)(hv:ZL P Γ H w v cv):
  ∃w',(Instr.storeAt t ca cv).run P w=.ok () w'/\ZS Γ H w Γ H' w'/\H.A<=H'.A/\ZQ P G Γ H' w':=by
 unfold j9 at h;split at h
 ·rename_i id gen off;split at h
  ·rename_i g e cells hg;split at h
   ·rename_i hgg;obtain⟨hgg,h1,h2,h3⟩:=hgg;simp only[Option.some.injEq]at h;subst h;have hl:H.na id gen=some (e,cells):=(by simp[ZH.na,hg,hgg]);obtain⟨b,base,n,hΓ,rfl⟩:=qy ha hl;obtain⟨c,c1,c2,c3,c4⟩:=qA R hl hΓ;obtain⟨v1,v2⟩:=hv.cells;obtain⟨i,hi⟩:=ht;have hrun:(Instr.storeAt t (.pointer (some ⟨b,base+off,none⟩)) cv).run P w=.ok () (bI w b (.cells (setRow c (base+off) cv.cells.toList) e (0,0))):=by
     unfold Instr.storeAt Instr.sureAddr;rw[ar (Sem.run_pure P w _)];unfold storeVar;rw[ar (run_sizeOf hi)];have:¬(cv.cells.size≠P.cellsOf t):=(by rw[<- h1,<- v1];simp);rw[Ve this];have hrun:=sd (P:=P) cv.cells.toList c (base+off) 0 w c1 V (um h2 v1 v2);exact hrun
    obtain⟨E,R'⟩:=xC (cells':=setAt cells off v.cells) (c':=setRow c (base+off) cv.cells.toList) R hg hΓ (qo h3) (by rw[size_setRow,c2])
     (uo h3 V v1 c4 v2)
    exact⟨_,hrun,E,ZG,R'⟩
   ·cases h
  ·cases h
 ·cases h
end Go.Hx
namespace Go.Hx
variable {P:Program} {G:Nat->Option (List ZI)} {Γ Γ':aE} {H H':ZH} {w w':World}
variable {cparts:Array (Nat × Value)}{cs:Array Value}{parts:List (Nat × ZI)}{z:List ZI}{b id n:Nat}{place:Nat->Option (Nat × Nat)}{e t:TypeId}{v:Value}
def dG (P:Program)(Γ:aE)(H:ZH)(w:World)(cells:List ZI)(cs:Array Value):Prop :=
 cs.size=cells.length/\∀i (_:i<cells.length) (h:i<cs.size),ZL P Γ H w cells[i] cs[i]
theorem dG.lit (cs:Array Value):dG P Γ H w (cs.toList.map .lit) cs :=
 ⟨ZD,fun i h1 h2=>by simp only[Vt,Wk];exact .lit _⟩
def dG.get {cells:List ZI}(h:dG P Γ H w cells cs){i:Nat}(hi:i<cells.length):∃cv,cs[i]?=some cv/\ZL P Γ H w cells[i] cv :=
 ⟨cs[i]'(by rw[h.1];exact hi),by rw[Vo],h.2 i hi (by rw[h.1];exact hi)⟩
def qC (h:bQ P t=some z):∃i v,P.info? t=some i/\i.zero=some v/\v.cells.size=i.size/\z=v.cells.toList.map .lit/\P.cellsOf t=i.size:=by
 unfold bQ at h;split at h
 ·rename_i i hi;split at h
  ·rename_i v hv;split at h
   ·rename_i hs;simp only[Option.some.injEq]at h;exact⟨i,v,hi,hv,hs,h.symm,by simp[Program.cellsOf,hi]⟩
   ·cases h
  ·cases h
 ·cases h
def pj {i:TypeInfo}(hi:P.info? t=some i)(hv:i.zero=some v):(zeroValue t).run P w=.ok v w:=by
 unfold zeroValue;rw[ar (run_typeInfo hi)];simp[hv]
def GW:∀(vs:List Value) (cs:Array Value) (off k:Nat),
  (vs.zipIdx k).foldl (fun cs (p:Value × Nat)=>cs.setIfInBounds (off+p.2) p.1) cs=setRow cs (off+k) vs:=by
 intro vs
 induction vs with
 |nil=>intro cs off k;rfl
 |cons v vs ih=>intro cs off k;rw[List.zipIdx_cons,Wi,ih];rfl
def GX {cells vs:List ZI}{cvs:List Value}{off:Nat}(h:dG P Γ H w cells cs)(hle:off+vs.length<=cells.length)(hl:cvs.length=vs.length)
  (hv:∀i (_:i<vs.length) (_:i<cvs.length),ZL P Γ H w vs[i] cvs[i]):dG P Γ H w (setAt cells off vs) (setRow cs off cvs):=by
 refine⟨by rw[size_setRow,qo hle,h.1],fun i h1 h2=>?_⟩;have:=uo (base:=0) hle (by rw[h.1];omega) hl (fun i hi=>by rw[Nat.zero_add];exact h.get hi) hv i h1;rw[Nat.zero_add,Nat.zero_add]at this;obtain⟨cv,a1,a2⟩:=this;rw[Vo h2]at a1;simp only[Option.some.injEq]at a1;rw[a1];exact a2
def xP :∀(parts:List (Nat × ZI)) (cparts:List (Nat × Value)) (cells cells':List ZI) (cs:Array Value),
  fV place cells parts=some cells'->dG P Γ H w cells cs->cparts.length=parts.length ->
  (∀i (h1:i<parts.length) (h2:i<cparts.length),parts[i].1=cparts[i].1/\ZL P Γ H w parts[i].2 cparts[i].2) ->
  ∃cs',Instr.fill place cs cparts=some cs'/\dG P Γ H w cells' cs':=by
 intro parts
 induction parts with
 |nil =>
  intro cparts cells cells' cs h hr hl _;simp only[fV,Option.some.injEq]at h;subst h;have:cparts=[]:=by simpa using hl
  subst this;exact⟨cs,rfl,hr⟩
 |cons p parts ih =>
  intro cparts cells cells' cs h hr hl hp;cases cparts with
  |nil=>simp at hl
  |cons cp cparts =>
   obtain⟨i,v⟩:=p;obtain⟨ci,cv⟩:=cp;obtain⟨h0,hv⟩:=hp 0 ZD ZD;simp only[V7]at h0 hv;subst h0;simp only[fV]at h;simp only[Instr.fill];split at h
   ·cases h
   ·rename_i off size hpl;rw[hpl];split at h
    ·rename_i hc;obtain⟨v1,v2⟩:=hv.cells;have hn:(decide (cv.cells.size≠size) ||decide (off+cv.cells.size > cs.size))=false:=by
      have:cv.cells.size=v.cells.length:=(by rw[<- v1];simp);have:=hr.1;simp;omega
     simp only[hn,Bool.false_eq_true,if_false];have hf:cv.cells.zipIdx.foldl (fun cs (p:Value × Nat)=>cs.setIfInBounds (off+p.2) p.1) cs=setRow cs off cv.cells.toList:=by
      have:=GW cv.cells.toList cs off 0;rw[Nat.add_zero]at this;rw[<- this,<- Array.foldl_toList,Array.toList_zipIdx]
     rw[hf];exact ih cparts _ _ _ h (GX hr hc.2 v1 v2) (by simpa using hl)
      (fun i h1 h2=>hp (i+1) (by simpa using h1) (by simpa using h2))
    ·cases h
def GY :∀ {parts:List (Nat × ZI)} {cells cells':List ZI},fV place cells parts=some cells'->cells'.length=cells.length:=by
 intro parts
 induction parts with
 |nil=>intro cells cells' h;simp only[fV,Option.some.injEq]at h;rw[h]
 |cons p parts ih =>
  intro cells cells' h;obtain⟨i,v⟩:=p;simp only[fV]at h;split at h
  ·cases h
  ·split at h
   ·rename_i hc;rw[ih h,qo hc.2]
   ·cases h
def xQ {α:Type}(z:List α):∀(n i:Nat) (_:i<n*z.length),(List.replicate n z).flatten[i]?=z[i % z.length]?:=by
 intro n
 induction n with
 |zero=>intro i h;simp at h
 |succ n ih =>
  intro i h;rw[W1,List.flatten_cons];by_cases hi:i<z.length
  ·rw[Vv hi,Xw hi]
  ·rw[VR V,ih (i-z.length) (by rw[XH]at h;omega)];rw[<- Nat.mod_eq_sub_mod V]
def xR (hz:z=v.cells.toList.map .lit):
  dG P Γ H w (List.replicate n z).flatten ((Array.range (n*v.cells.size)).map (v.cells[· % v.cells.size]!)):=by
 have hzl:z.length=v.cells.size:=by rw[hz];simp
 refine⟨by simp[hzl],fun i h1 h2=>?_⟩;have hi:i<n*v.cells.size:=by simpa using h2
 have hpos:0<v.cells.size:=by
  rcases Wm v.cells.size with h|h
  ·rw[h]at hi;simp at hi
  ·exact h
 have hg:=xQ z n i (by rw[hzl];exact hi);rw[Vd h1,hzl]at hg;have hm:i % v.cells.size<v.cells.size:=XX _ hpos;have hz2:z[i % v.cells.size]?=some (.lit v.cells[i % v.cells.size]):=by
  rw[hz,List.getElem?_map,Array.getElem?_toList,Vo hm];rfl
 rw[hz2]at hg;simp only[Option.some.injEq]at hg;rw[hg];simp only[XQ,Array.getElem_range];rw[getElem!_pos v.cells _ hm];exact .lit _
def GZ {v:ZI}(h:sh P t parts=some v)(hl:cparts.toList.length=parts.length)
  (hp:∀i (h1:i<parts.length) (h2:i<cparts.toList.length),parts[i].1=cparts.toList[i].1/\ZL P Γ H w parts[i].2 cparts.toList[i].2):
  ∃cv,(Instr.build t cparts).run P w=.ok cv w/\ZL P Γ H w v cv:=by
 unfold sh at h;simp only[Vi]at h;obtain⟨z,hz,h⟩:=h;obtain⟨i,zv,hi,hzv,_,hzz,_⟩:=qC hz;unfold Instr.build;rw[ar (pj hi hzv)];have hz0:dG P Γ H w z zv.cells:=hzz ▸ dG.lit _;split at h
 ·rename_i fs hd;simp only[Vi,Vc]at h;obtain⟨pl,hpl,cells,hf,rfl⟩:=h;rw[ar (cQ hd)];simp only;unfold ja at hpl;rw[hd]at hpl;simp only at hpl;split at hpl
  ·rename_i hall;simp only[Option.some.injEq]at hpl;have hplaces:(fs.mapM fun (f:Field)=>(do pure (f.offset,<- sizeOf f.type):Sem (Nat × Nat))).run P w=.ok (fs.map fun f=>(f.offset,P.cellsOf f.type)) w:=by
    rw[Ys];have key:∀(l:List Field),(l.all fun f=>(P.info? f.type).isSome)=true ->
      (l.mapM fun (f:Field)=>(do pure (f.offset,<- sizeOf f.type):Sem (Nat × Nat))).run P w=.ok (l.map fun f=>(f.offset,P.cellsOf f.type)) w:=by
     intro l
     induction l with
     |nil=>intro _;rfl
     |cons f l ih =>
      intro ha;simp only[List.all_cons,VI]at ha;obtain⟨j,hj⟩:=VJ.1 ha.1;rw[List.mapM_cons,ar (a:=(f.offset,P.cellsOf f.type)) (w':=w) (by rw[ar (run_sizeOf hj)];rfl),ar (ih ha.2)];rfl
    rw[Sem.run_map,key _ hall,Result.andThen_ok,<- Y0,YL]
   rw[ar hplaces];obtain⟨cs',hc1,hc2⟩:=xP parts cparts.toList z cells zv.cells hf hz0 hl hp;have hpe:(fun i:Nat=>(fs.map fun f=>(f.offset,P.cellsOf f.type))[i]?)=fun i=>pl[i]?:=by
    funext i
    rw[<- hpl];simp
   rw[hpe,hc1];exact⟨_,rfl,.agg (by simpa using hc2.1) (fun i h1 h2=>by simpa using hc2.2 i h1 (by simpa using h2))⟩
  ·cases hpl
 ·rename_i n e hd;split at h
  ·rename_i he;simp only[Vc]at h;obtain⟨cells,hf,rfl⟩:=h;obtain⟨d,hde⟩:=VJ.1 he;rw[ar (cQ hd)];simp only;rw[ar (jq hde)];obtain⟨cs',hc1,hc2⟩:=xP parts cparts.toList z cells zv.cells hf hz0 hl hp;rw[hc1];exact⟨_,rfl,.agg (by simpa using hc2.1) (fun i h1 h2=>by simpa using hc2.2 i h1 (by simpa using h2))⟩
  ·cases h
 ·cases h
def xS {cells:List ZI}{len cap sz:Nat}{Γ':aE}(hget:H'.get id=some (.J 0 e cells))(hn:id<H'.A)(hΓ:Γ' id=some (b,0,n))
  (hlen:len<=cap) (hle:len*sz<=cells.length) (hcap:cap*sz<=n):ZL P Γ' H' w' (.U id 0 0 len sz) (.slice (some ⟨b,0,none⟩) len cap):=by
 refine .U ⟨hn,rfl,by rw[hget];simp,fun g e' cells' hg=>?_⟩;rw[hget]at hg;simp only[Option.some.injEq,ZO.J.injEq]at hg;obtain⟨rfl,rfl,rfl⟩:=hg;refine⟨ZG,fun _=>?_⟩;rw[hΓ];exact⟨⟨b,0,none⟩,cap,rfl,hlen,V,.inl ⟨rfl,V⟩⟩
def A8 {cells:List ZI}{Γ':aE}(hget:H'.get id=some (.J 0 e cells))(hn:id<H'.A)(hΓ:Γ' id=some (b,0,n)):
  ZL P Γ' H' w' (.O id 0 0) (.pointer (some ⟨b,0,none⟩)):=by
 refine .O ⟨hn,rfl,by rw[hget];simp,fun g e' cells' hg=>?_⟩;rw[hget]at hg;simp only[Option.some.injEq,ZO.J.injEq]at hg;obtain⟨rfl,rfl,rfl⟩:=hg;exact⟨ZG,fun _=>⟨b,0,n,hΓ,ZD⟩⟩
def G1 {len:Nat}{v:ZI}(R:ZQ P G Γ H w)(h:nP P H id t len parts=some (v,H'))(hl:cparts.toList.length=parts.length)
  (hp:∀i (h1:i<parts.length) (h2:i<cparts.toList.length),parts[i].1=cparts.toList[i].1/\ZL P Γ H w parts[i].2 cparts.toList[i].2):
  ∃cv Γ' w',(Instr.buildSlice t len cparts).run P w=.ok cv w'/\ZS Γ H w Γ' H' w'/\H.A<=H'.A/\ZQ P G Γ' H' w'/\ZL P Γ' H' w' v cv:=by
 unfold nP at h;split at h
 ·rename_i e hd;split at h
  ·rename_i hle;simp only[Vi,Vc,Prod.mk.injEq]at h;obtain⟨zs,hzs,cells,hf,H1,hlay,rfl,rfl⟩:=h;unfold ke at hzs;simp only[Vc]at hzs;obtain⟨z,hz,rfl⟩:=hzs;obtain⟨i,zv,hi,hzv,hsz,hzz,hcells⟩:=qC hz;have hz0:dG P Γ H w (List.replicate len z).flatten ((Array.range (len*zv.cells.size)).map (zv.cells[· % zv.cells.size]!)):=xR hzz;obtain⟨cs',hc1,hc2⟩:=xP parts cparts.toList _ cells _ hf hz0 hl hp;have hrun:(Instr.buildSlice t len cparts).run P w=.ok (.slice (some ⟨w.heap.size,0,none⟩) len len) (w.alloc (.cells cs' e)):=by
    unfold Instr.buildSlice;rw[ar (cQ hd)];simp only;rw[ar (run_sizeOf hi)];rw[Ve V];have hcs:P.cellsOf e=zv.cells.size:=(by rw[hcells,hsz]);rw[hcs];rw[hcs]at hc1;by_cases h0:len*zv.cells.size=0
    ·rw[h0]at hc1;rw[Vf h0];rw[ar (Sem.run_pure P w _)];have he:∀f:Nat->Value,(Array.range 0).map f=#[]:=fun _=>Yc ZD;have he2:∀f:Nat->Value,(Array.range (len*zv.cells.size)).map f=#[]:=fun _=>Yc (by simp[h0]);rw[he]at hc1;rw[he2,hc1];rfl
    ·rw[Ve h0];rw[ar (pj hi hzv),ar (Sem.run_pure P w _),hc1];rfl
   have hlen:len*P.cellsOf e<=cells.length:=by
    have h1:=GY hf;rw[h1];simp[hzz,hcells,hsz]
   obtain⟨E,hn,R'⟩:=se (c:=cs') R hlay (by rw[hc2.1];exact Nat.le_refl _) (fun i hi=>hc2.get hi);obtain⟨hget,_⟩:=ka hlay;obtain⟨_,_,_,hid⟩:=nL R hlay;exact⟨_,_,_,hrun,E,hn,R',xS (by rw[hget,Vf rfl]) hid (aE.eI _ _ _) ZG hlen (by rw[hc2.1];exact hlen)⟩
  ·cases h
 ·cases h
end Go.Hx
namespace Go.Hx
variable {P:Program} {G:Nat->Option (List ZI)} {Γ Γ':aE} {H H':ZH} {w w':World}
variable {id k:Nat}{t:TypeId}{cv:Value}{v:ZI}
def wrap_small {n:Int}(h0:0<=n)(h1:n<=2 ^ 46):IntKind.i64.wrap n=n:=Vb n (V)
def Bc {i:TypeInfo}(h:P.info? t=some i):P.bytesOf t=i.bytes:=by simp[Program.bytesOf,h]
def G3 {l c:ZI}{cl cc:Value}(R:ZQ P G Γ H w)(h:mF P H id t l c=some (v,H'))(hl:ZL P Γ H w l cl)(hc:ZL P Γ H w c cc):
  ∃cv Γ' w',(Instr.makeSlice t cl cc).run P w=.ok cv w'/\ZS Γ H w Γ' H' w'/\H.A<=H'.A/\ZQ P G Γ' H' w'/\ZL P Γ' H' w' v cv:=by
 unfold mF at h;split at h
 ·rename_i e kl ln kc cn hd;cases hl;cases hc;split at h
  ·rename_i hb;obtain ⟨b1,b2,b3,b4⟩:=hb;simp only [Vi,Vc,Prod.mk.injEq] at h;obtain ⟨zs,hzs,H1,hlay,rfl,rfl⟩:=h;unfold ke at hzs;simp only [Vc] at hzs;obtain ⟨z,hz,rfl⟩:=hzs;obtain ⟨i,zv,hi,hzv,hsz,hzz,hcells⟩:=qC hz;have hcs : P.cellsOf e=zv.cells.size:=(by rw [hcells,hsz]);have hw1:=wrap_small b1 (by omega : ln≤2 ^ 46);have hw2:=wrap_small (by omega : 0≤cn) b4;have hzr : dG P Γ H w (List.replicate cn.toNat z).flatten ((Array.range (cn.toNat*zv.cells.size)).map (zv.cells[· % zv.cells.size]!)):=xR hzz;have hrun : (Instr.makeSlice t (.int kl ln) (.int kc cn)).run P w=.ok (.slice (some ⟨w.heap.size,0,none⟩) ln.toNat cn.toNat)
     (w.alloc (.cells ((Array.range (cn.toNat*zv.cells.size)).map (zv.cells[· % zv.cells.size]!)) e)):=by
    unfold Instr.makeSlice;rw[ar (cQ hd)];simp only;have ai:∀(k:IntKind) (n:Int),(asInt (.int k n)).run P w=.ok n w:=fun _ _=>rfl;rw[ar (ai _ _),ar (ai _ _),ar (run_typeInfo hi)];simp only[hw1,hw2];have hbi:=Bc hi;have hmul:(i.bytes:Int)*cn<=2 ^ 46:=(by rw[<- hbi,WL];exact b3);rw[Ve (by simp;omega)];rw[ar (run_askRoom P w _),ar (run_sizeOf hi)];rw[hcs];by_cases h0:cn.toNat*zv.cells.size=0
    ·rw[Vf h0,ar (Sem.run_pure P w _)];have he2:∀f:Nat->Value,(Array.range (cn.toNat*zv.cells.size)).map f=#[]:=fun _=>Yc (by simp[h0]);rw[he2,he2];rfl
    ·rw[Ve h0,ar (pj hi hzv),ar (Sem.run_pure P w _)];rfl
   have hzl:z.length=zv.cells.size:=(by rw[hzz];simp);have hsize:((Array.range (cn.toNat*zv.cells.size)).map (zv.cells[· % zv.cells.size]!)).size=cn.toNat*zv.cells.size:=ZD;have hle:ln.toNat*zv.cells.size<=cn.toNat*zv.cells.size:=VH _ V;have hlen1:(List.replicate ln.toNat z).flatten.length=ln.toNat*zv.cells.size:=(by simp[hzl]);obtain⟨E,hn,R'⟩:=se (c:=(Array.range (cn.toNat*zv.cells.size)).map (zv.cells[· % zv.cells.size]!)) R hlay (by rw[hsize,hlen1];exact hle)
    (fun i hi=>by
     rw[hlen1]at hi;have h1:=xQ z ln.toNat i (by rw[hzl];exact hi);have h2:=xQ z cn.toNat i (by rw[hzl];omega);obtain⟨cv,a1,a2⟩:=hzr.get (i:=i) (by simp[hzl];omega);refine⟨cv,a1,?_⟩;have:(List.replicate ln.toNat z).flatten[i]=(List.replicate cn.toNat z).flatten[i]'(by simp[hzl];omega):=by
      rw[Vd (by rw[hlen1];exact hi)]at h1;rw[Vd (by simp[hzl];omega)]at h2;rw[<- h1]at h2;simpa using h2.symm
     rw[this];exact a2)
   obtain⟨hget,_⟩:=ka hlay;obtain⟨_,_,_,hid⟩:=nL R hlay;refine⟨_,_,_,hrun,E,hn,R',xS (by rw[hget,Vf rfl]) hid (aE.eI _ _ _) V ?_ ?_⟩
   ·rw[hlen1,hcs];exact Nat.le_refl _
   ·rw[hsize,hcs];exact Nat.le_refl _
  ·cases h
 ·cases h
def xT (k:IntKind)(n:Int):(asIntOf (.int k n)).run P w=.ok (k,n) w:=rfl
def Bd {gen off:Nat}{e:TypeId}{cells:List ZI}(h:ZL P Γ H w (.O id gen off) cv)(hl:H.na id gen=some (e,cells)):
  ∃a,cv=.pointer (some a)/\ZL P Γ H w (.O id gen (off+k)) (.pointer (some (a.add k))):=by
 obtain⟨b,base,n,hΓ,rfl⟩:=qy h hl;refine⟨_,rfl,?_⟩;rw[kM];cases h with
 |O h =>
  refine .O ⟨h.1,rfl,h.2.2.1,fun g e' cells' hg=>?_⟩;refine⟨(h.2.2.2 g e' cells' hg).1,fun _=>⟨b,base,n,hΓ,?_⟩⟩;rw[Xf]
def Be {cells:List ZI}{off:Nat}(h:ZL P Γ H w (.ni cells off) cv):
  ∃a,cv=.pointer (some a)/\ZL P Γ H w (.ni cells (off+k)) (.pointer (some (a.add k))):=by
 cases h with
 |ni hb hlt hcs hcell hrel =>
  refine⟨_,rfl,?_⟩;rw[kM,Xf];exact .ni hb hlt hcs hcell hrel
def G4 {x:ZI}{k:IntKind}{i:Int}{cx:Value}(h:nM P H t x i=some v)(hx:ZL P Γ H w x cx):
  ∃cv,(Instr.indexAt t cx (.int k i)).run P w=.ok cv w/\ZL P Γ H w v cv:=by
 unfold nM at h;unfold Instr.indexAt;rw[ar (xT k i)];simp only;split at h
 ·rename_i n e hd;split at h
  ·rename_i hc;obtain ⟨c1,c2,c3⟩:=hc;obtain ⟨d,hde⟩:=VJ.1 c3;rw [ar (cQ hd)];simp only;have fin : ∀ a : Addr,((do
      let tiny:=decide (n<=1) && (match <- underlying t with|.array ..=>true|_=>false)
      match (some a:Option Addr) with
      |some a =>
       if 0≤i∧i<(n : Int) then pure (.pointer (some (a.add (i.toNat*(← sizeOf e)))))
              else if tiny then unsupported (.noEntry "op/indexAddr.an index out of range at an array of length 0 or 1 (ledger 616)")
       else boundsPanic k i n .index
      |none=>boundsPanic k i 0 .index):Sem Value).run P w=.ok (.pointer (some (a.add (i.toNat*P.cellsOf e)))) w:=by
    intro a;rw[ar (cQ hd)];simp only;rw[Vf ⟨c1,c2⟩,ar (jq hde)];rfl
   split at h
   ·rename_i id gen off;simp only[Vc]at h;obtain⟨ec,hl,rfl⟩:=h;obtain⟨a,rfl,hr⟩:=Bd (k:=i.toNat*P.cellsOf e) hx hl;exact⟨_,fin a,hr⟩
   ·rename_i cells off;simp only[Option.some.injEq]at h;subst h;obtain⟨a,rfl,hr⟩:=Be (k:=i.toNat*P.cellsOf e) hx;exact⟨_,fin a,hr⟩
   ·cases h
  ·cases h
 ·rename_i e hd;split at h
  ·rename_i hc;obtain ⟨d,hde⟩:=VJ.1 hc;rw [ar (cQ hd)];have fin : ∀ (a : Addr) (len : Nat),0≤i∧i<(len : Int)→((do
      let tiny:=decide (len<=1) && (match <- underlying t with|.array ..=>true|_=>false)
      match (some a:Option Addr) with
      |some a =>
       if 0≤i∧i<(len : Int) then pure (.pointer (some (a.add (i.toNat*(← sizeOf e)))))
              else if tiny then unsupported (.noEntry "op/indexAddr.an index out of range at an array of length 0 or 1 (ledger 616)")
       else boundsPanic k i len .index
      |none=>boundsPanic k i 0 .index):Sem Value).run P w=.ok (.pointer (some (a.add (i.toNat*P.cellsOf e)))) w:=by
    intro a len hi;rw[ar (cQ hd)];simp only;rw[Vf hi,ar (jq hde)];rfl
   split at h
   ·rename_i id gen off len sz;split at h
    ·rename_i hi;simp only[Vc]at h;obtain⟨⟨e',cells⟩,hl,rfl⟩:=h;rcases kf hx hl with ⟨b,base,n,a,cap,hΓ,rfl,h1,h2,h3⟩|⟨_,_,h0,_⟩
     ·have ha:a=⟨b,base+off,none⟩:=by
       rcases h3 with h3|h3
       ·exact h3.1
       ·omega
      subst ha;refine⟨_,fin _ len ⟨hi.1,hi.2.1⟩,?_⟩;rw[kM];cases hx with
      |U hx =>
       refine .O ⟨hx.1,rfl,hx.2.2.1,fun g e'' cells'' hg=>?_⟩;refine⟨(hx.2.2.2 g e'' cells'' hg).1,fun _=>⟨b,base,n,hΓ,?_⟩⟩;rw[Xf]
     ·omega
    ·cases h
   ·rename_i len cells;split at h
    ·rename_i hi;simp only[Option.some.injEq]at h;subst h;cases hx with
     |nw=>exact absurd rfl hi.2.2
     |Q hb hlt hlen hcs hcell hrel =>
      refine⟨_,fin _ len ⟨hi.1,hi.2.1⟩,?_⟩;rw[kM];exact .ni hb hlt hcs hcell hrel
    ·cases h
   ·cases h
  ·cases h
 ·cases h
end Go.Hx
namespace Go.Hx
variable {P:Program} {G:Nat->Option (List ZI)} {Γ Γ':aE} {H H':ZH} {w w':World}
variable {hi lo:Option ZI}{cv:Value}
def qD (P:Program)(Γ:aE)(H:ZH)(w:World):Option ZI->Option Value->Prop
 |none,none=>True
 |some v,some cv=>ZL P Γ H w v cv
 |_,_=>False
def run_sliceBound {k:IntKind}{i:Int}{y:Nat}{code:BoundsCode}(h:0<=i/\i<=(y:Int)):(Instr.sliceBound (.int k i) y code).run P w=.ok i.toNat w:=by
 unfold Instr.sliceBound;rw[ar (xT k i)];simp only;rw[Vf h];rfl
def Bg {o:Option ZI}{co:Option Value}{d m n:Nat}(h:cz o d m=some n)(hr:qD P Γ H w o co):
  (o=none/\co=none/\n=d)\/∃k i,co=some (.int k i)/\0<=i/\i<=(m:Int)/\n=i.toNat:=by
 cases o with
 |none =>
  cases co with
  |none=>simp only[cz,Option.some.injEq]at h;exact .inl ⟨rfl,rfl,h.symm⟩
  |some _=>exact hr.elim
 |some v =>
  cases co with
  |none=>exact hr.elim
  |some cv =>
   have hv:ZL P Γ H w v cv:=hr;cases v with
   |lit x =>
    cases x with
    |int k i =>
     cases hv;simp only[cz]at h;split at h
     ·rename_i hi;simp only[Option.some.injEq]at h;exact .inr ⟨k,i,rfl,hi.1,hi.2,h.symm⟩
     ·cases h
    |_=>simp[cz]at h
   |_=>simp[cz]at h
def mJ {X nO:Option Value}{s:Bool}{len cap l h:Nat}(hh:cz hi len len=some h)(hl:cz lo 0 h=some l)(hlen:len<=cap)
  (rh:qD P Γ H w hi nO) (rl:qD P Γ H w lo X):(Instr.sliceBounds s len cap X nO none).run P w=.ok (l,h,cap) w/\l<=h/\h<=len:=by
 rcases Bg hh rh with ⟨rfl,rfl,rfl⟩|⟨k,i,rfl,i0,i1,rfl⟩<;>rcases Bg hl rl with ⟨rfl,rfl,rfl⟩|⟨k',j,rfl,j0,j1,rfl⟩
 ·exact⟨rfl,V,ZG⟩
 ·refine⟨?_,V,ZG⟩;unfold Instr.sliceBounds;simp only[pure_bind];rw[ar (run_sliceBound ⟨j0,j1⟩)];rfl
 ·refine⟨?_,V,V⟩;unfold Instr.sliceBounds;simp only[pure_bind];rw[ar (run_sliceBound ⟨i0,V⟩)];rfl
 ·refine⟨?_,V,V⟩;unfold Instr.sliceBounds;simp only[pure_bind];rw[ar (run_sliceBound ⟨i0,V⟩),ar (run_sliceBound ⟨j0,j1⟩)];rfl
def uq {a b c:Nat}(h:a<=b):a*c<=b*c:=VH _ h
def G8 {id gen off len sz l h:Nat}{e:TypeId}{cells:List ZI}(hx:ZL P Γ H w (.U id gen off len sz) cv)(hl:H.na id gen=some (e,cells))(h1:l<=h)(h2:h<=len):
  (∃a cap,cv=.slice (some a) len cap/\len<=cap/\ZL P Γ H w (.U id gen (off+l*sz) (h-l) sz) (.slice (some (if cap=l then a else a.add (l*sz))) (h-l) (cap-l))) \/
  (cv=.slice none 0 0/\len=0/\ZL P Γ H w (.U id gen (off+l*sz) (h-l) sz) (.slice none 0 0)):=by
 cases hx with
 |U hx =>
  rcases kf (P:=P) (w:=w) (.U hx) hl with ⟨b,base,n,a,cap,hΓ,rfl,c1,c2,c3⟩|⟨hΓ,rfl,rfl,rfl⟩
  ·left;refine⟨a,cap,rfl,c1,.U ⟨hx.1,rfl,hx.2.2.1,fun g e' cells' hg=>?_⟩⟩;refine⟨(hx.2.2.2 g e' cells' hg).1,fun hgg=>?_⟩;rw[jK hl]at hg;simp only[Option.some.injEq,ZO.J.injEq]at hg;obtain⟨_,rfl,rfl⟩:=hg;rw[hΓ];have e1:l*sz+(h-l)*sz=h*sz:=(by rw[<- VU];congr 1;omega);have e2:h*sz<=len*sz:=uq h2;refine⟨_,_,rfl,V,V,?_⟩;rcases c3 with ⟨rfl,c3⟩|⟨rfl,rfl⟩
   ·by_cases hcl:cap=l
    ·right;omega
    ·left;rw[Ve hcl,kM,Xf];refine⟨rfl,?_⟩;have e3:l*sz+(cap-l)*sz=cap*sz:=(by rw[<- VU];congr 1;omega);omega
   ·right;omega
  ·right;have:l=0:=V;subst this;have:h=0:=V;subst this;refine⟨rfl,rfl,.U ⟨hx.1,rfl,hx.2.2.1,fun g e' cells' hg=>?_⟩⟩;refine⟨(hx.2.2.2 g e' cells' hg).1,fun hgg=>?_⟩;rw[hΓ];simp
def G9 {len sz l h:Nat}{cells:List ZI}(hx:ZL P Γ H w (.Q len cells) cv)(hc:cells.length=len*sz)(h1:l<=h)(h2:h<=len):
  ∃a cap,cv=.slice a len cap/\len<=cap/\ZL P Γ H w (.Q (h-l) ((cells.drop (l*sz)).take ((h-l)*sz))) (.slice (if cap=l then a else a.map (·.add (l*sz))) (h-l) (cap-l)):=by
 cases hx with
 |nw a cap =>
  have:h=0:=V
  subst this;have:l=0:=V
  subst this;refine⟨a,cap,rfl,WH _,?_⟩;simp only[Xq,X6,List.take_zero];exact .nw _ _
 | @Q _ _ b off cap cs hb hlt hlen hcs hcell hrel =>
  refine⟨_,_,rfl,hlen,?_⟩;by_cases hhl:h=l
  ·subst hhl;simp only[X6,Xq,List.take_zero];exact .nw _ _
  ·have hcl:cap≠l:=V;have e1:l*sz+(h-l)*sz=h*sz:=(by rw[<- VU];congr 1;omega);have e2:h*sz<=len*sz:=uq h2;rw[Ve hcl,Option.map_some,kM];obtain⟨cs',k1,k2,k3⟩:=nnf.drop ⟨cs,hcs,hcell,hrel⟩ (l*sz) ((h-l)*sz) V;exact .Q hb hlt V k1 k2 k3
def Hd {t:TypeId}{x v:ZI}{cx:Value}{X nO:Option Value}(R:ZQ P G Γ H w)(h:nN P H t x lo hi=some v)(hx:ZL P Γ H w x cx)
  (rl:qD P Γ H w lo X) (rh:qD P Γ H w hi nO):∃cv,(Instr.sliceAt t cx X nO none).run P w=.ok cv w/\ZL P Γ H w v cv:=by
 unfold nN at h;unfold Instr.sliceAt;split at h
 ·rename_i n e hd;rw[ar (cQ hd)];simp only;split at h
  ·rename_i hc;obtain⟨d,hde⟩:=VJ.1 hc;split at h
   ·rename_i id gen off;split at h
    ·rename_i e' cells hl;split at h
     ·rename_i hle;simp only[Vi,Vc]at h;obtain⟨h',hh,l,hlo,rfl⟩:=h;obtain⟨b,base,nn,hΓ,rfl⟩:=qy hx hl;have sa:(Instr.sureAddr (.pointer (some ⟨b,base+off,none⟩))).run P w=.ok ⟨b,base+off,none⟩ w:=rfl;obtain⟨r1,r2,r3⟩:=mJ (s:=false) hh hlo (Nat.le_refl n) rh rl;rw[ar sa,ar r1];simp only;rw[ar (jq hde)];refine⟨_,rfl,?_⟩;cases hx with
      |O hx =>
       refine .U ⟨hx.1,rfl,hx.2.2.1,fun g e'' cells'' hg=>?_⟩;refine⟨(hx.2.2.2 g e'' cells'' hg).1,fun hgg=>?_⟩;rw[jK hl]at hg;simp only[Option.some.injEq,ZO.J.injEq]at hg;obtain⟨_,rfl,rfl⟩:=hg;rw[hΓ];have e1:l*P.cellsOf e+(h'-l)*P.cellsOf e=h'*P.cellsOf e:=(by rw[<- VU];congr 1;omega);have e2:h'*P.cellsOf e<=n*P.cellsOf e:=uq r3;refine⟨_,_,rfl,V,V,?_⟩;by_cases hnl:n=l
       ·right;omega
       ·left;rw[Ve hnl,kM,Xf];refine⟨rfl,?_⟩;have e3:l*P.cellsOf e+(n-l)*P.cellsOf e=n*P.cellsOf e:=(by rw[<- VU];congr 1;omega);obtain⟨_,_,q2,q3,_⟩:=qA R hl hΓ;omega
     ·cases h
    ·cases h
   ·rename_i cells off;split at h
    ·rename_i hle;simp only[Vi,Vc]at h;obtain⟨h',hh,l,hlo,rfl⟩:=h;cases hx with
     | @ni _ _ b o cs hb hlt hcs hcell hrel =>
      have sa:(Instr.sureAddr (.pointer (some ⟨b,o+off,none⟩))).run P w=.ok ⟨b,o+off,none⟩ w:=rfl;obtain⟨r1,r2,r3⟩:=mJ (s:=false) hh hlo (Nat.le_refl n) rh rl;rw[ar sa,ar r1];simp only;rw[ar (jq hde)];refine⟨_,rfl,?_⟩;have e1:l*P.cellsOf e+(h'-l)*P.cellsOf e=h'*P.cellsOf e:=(by rw[<- VU];congr 1;omega);have e2:h'*P.cellsOf e<=n*P.cellsOf e:=uq r3;by_cases hhl:h'=l
      ·subst hhl;simp only[X6,Xq,List.take_zero];exact .nw _ _
      ·rw[Ve V,kM];obtain⟨cs',k1,k2,k3⟩:=nnf.drop ⟨cs,hcs,hcell,hrel⟩ (off+l*P.cellsOf e) ((h'-l)*P.cellsOf e) V;rw[show o+off+l*P.cellsOf e=o+(off+l*P.cellsOf e) from by omega];exact .Q hb hlt V k1 k2 k3
    ·cases h
   ·cases h
  ·cases h
 ·rename_i e hd;rw[ar (cQ hd)];simp only;unfold Instr.slice;rw[ar (cQ hd)];split at h
  ·rename_i hc;obtain⟨d,hde⟩:=VJ.1 hc;split at h
   ·rename_i id gen off len sz;split at h
    ·rename_i hsz;subst hsz;simp only[Vi,Vc]at h;obtain⟨⟨e',cells⟩,hl,h',hh,l,hlo,rfl⟩:=h;obtain⟨_,q1,q2⟩:=mJ (s:=true) hh hlo (Nat.le_refl len) rh rl;rcases G8 hx hl q1 q2 with ⟨a,cap,rfl,c1,c2⟩|⟨rfl,rfl,c2⟩
     ·obtain⟨r1,r2,r3⟩:=mJ (s:=true) hh hlo c1 rh rl;simp only;rw[ar r1];simp only;rw[ar (jq hde)];refine⟨_,rfl,?_⟩;by_cases hcl:cap=l
      ·rw[Vf hcl]at c2 ⊢;exact c2
      ·rw[Ve hcl]at c2 ⊢;exact c2
     ·obtain⟨r1,r2,r3⟩:=mJ (s:=true) hh hlo (Nat.le_refl 0) rh rl;simp only;rw[ar r1];simp only;rw[ar (jq hde)];refine⟨_,rfl,?_⟩;have:l=0:=V;subst this;have:h'=0:=V;subst this;exact c2
    ·cases h
   ·rename_i len cells;split at h
    ·rename_i hcl;simp only[Vi,Vc]at h;obtain⟨h',hh,l,hlo,rfl⟩:=h;obtain⟨_,q1,q2⟩:=mJ (s:=true) hh hlo (Nat.le_refl len) rh rl;obtain⟨a,cap,rfl,c1,c2⟩:=G9 hx hcl q1 q2;obtain⟨r1,r2,r3⟩:=mJ (s:=true) hh hlo c1 rh rl;simp only;rw[ar r1];simp only;rw[ar (jq hde)];exact⟨_,rfl,c2⟩
    ·cases h
   ·simp only[Vi,Vc]at h;obtain⟨h',hh,l,hlo,rfl⟩:=h;cases hx;obtain⟨r1,r2,r3⟩:=mJ (s:=true) hh hlo (Nat.le_refl 0) rh rl;simp only;rw[ar r1];simp only;rw[ar (jq hde)];refine⟨_,rfl,?_⟩;have:l=0:=V;subst this;have:h'=0:=V;subst this;exact .lit _
   ·cases h
  ·cases h
 ·rename_i hd;rw[ar (cQ hd)];simp only;unfold Instr.slice;rw[ar (cQ hd)];split at h
  ·rename_i s;simp only[Vi,Vc]at h;obtain⟨h',hh,l,hlo,rfl⟩:=h;cases hx;obtain⟨r1,r2,r3⟩:=mJ (s:=false) hh hlo (Nat.le_refl s.size) rh rl;simp only[Option.isSome_none,Bool.false_eq_true,if_false];rw[ar r1];exact⟨_,rfl,.lit _⟩
  ·cases h
 ·cases h
end Go.Hx
namespace Go.Hx
variable {P:Program} {G:Nat->Option (List ZI)} {Γ Γ':aE} {H H':ZH} {w w':World}
variable {cs:List Value}{cap n:Nat}{base:Option Addr}{at0 at1 ty:TypeId}{cx x:Value}{v:ZI}
def ur {sz:Nat}{x:ZI}{cells:List ZI}(R:ZQ P G Γ H w)(h:de H sz x=some (n,cells))(hx:ZL P Γ H w x cx):
    (Builtin.lenOf cx).run P w=.ok n w/\cells.length=n*sz/\∃cs:List Value,(Builtin.firstCells sz n cx).run P w=.ok cs.toArray w/\cs.length=cells.length /\
      ∀i (_:i<cells.length) (_:i<cs.length),ZL P Γ H w cells[i] cs[i]:=by
  unfold de at h;split at h
  · rename_i len cells';split at h
    · rename_i hl;simp only[Option.some.injEq,Prod.mk.injEq]at h;obtain⟨rfl,rfl⟩:=h;cases hx with
      |nw a cap =>
        refine⟨rfl,hl,[],?_,rfl,fun i h1 _=>absurd h1 (Vs _)⟩;cases a with
        |none=>rfl
        |some a=>unfold Builtin.firstCells;rw[Xq];rfl
      | @Q _ _ b off cap cs hb hlt hlen hcs hcell hrel =>
        refine⟨rfl,hl,cs,?_,hcs,hrel⟩;unfold Builtin.firstCells;rw[<- hl,<- hcs];exact qk hcell
    · cases h
  · rename_i id gen off len sz';split at h
    · rename_i hsz;subst hsz;simp only[Vc,Prod.mk.injEq]at h;obtain⟨⟨e,cells'⟩,hl,rfl,rfl⟩:=h;rcases kf hx hl with ⟨b,base,nn,a,cap,hΓ,rfl,c1,c2,c3⟩|⟨hΓ,rfl,rfl,rfl⟩
      · refine⟨rfl,by simp only[Vr,V4];omega,?_⟩;rcases c3 with ⟨rfl,c3⟩|⟨rfl,rfl⟩
        · obtain⟨cs,k1,k2,k3⟩:=(sj R hl hΓ).drop off (len*sz') c2;refine⟨cs,?_,k1,k3⟩;unfold Builtin.firstCells;have:len*sz'=cs.length:=(by rw[k1];simp only[Vr,V4];omega);rw[this];exact qk k2
        · refine⟨[],?_,ZD,fun i h1 _=>?_⟩
          · unfold Builtin.firstCells;rw[Xq];rfl
          · simp at h1
      · refine⟨rfl,ZD,[],rfl,ZD,fun i h1 _=>?_⟩;simp at h1
    · cases h
  · simp only[Option.some.injEq,Prod.mk.injEq]at h;obtain⟨rfl,rfl⟩:=h;cases hx;exact⟨rfl,ZD,[],rfl,rfl,fun i h1 _=>absurd h1 (Vs _)⟩
  · cases h
def Hf (newLen:Nat):∀(k c:Nat),256<=c->c<newLen->Builtin.growBy newLen k c<=2*newLen:=by
  intro k
  induction k with
  |zero=>intro c _ h;simp only[Builtin.growBy];omega
  |succ k ih =>
    intro c h1 h2;simp only[Builtin.growBy];rw[Ve V];by_cases h3:c+(c+768) / 4<newLen
    · exact ih _ V h3
    · cases k with
      |zero=>simp only[Builtin.growBy];omega
      |succ k=>simp only[Builtin.growBy];rw[Vf V];omega
def nextslicecap_le {need:Nat}(h:cap<need):Builtin.nextslicecap need cap<=2*need:=by
  unfold Builtin.nextslicecap;split
  · omega
  · split
    · omega
    · exact Hf _ _ _ V h
def Bh (z:Array Value)(n:Nat):(Builtin.zeroCells z n).size=n*z.size:=by simp[Builtin.zeroCells]
def run_append_fits {e e1:TypeId}{len:Nat}(hd:P.underlying at0=some (.slice e))(hd1:P.underlying at1=some (.slice e1))(he:∃i,P.info? e=some i)
    (hlen:(Builtin.lenOf x).run P w=.ok n w) (hcs:(Builtin.firstCells (P.cellsOf e) n x).run P w=.ok cs.toArray w) (hfit:len+n<=cap)
    (hst:match base with|some a=>(storeCells (a.add (len*P.cellsOf e)) cs).run P w=.ok () w'|none=>w'=w):
    (Builtin.append_ #[at0,at1] ty #[.slice base len cap,x]).run P w=.ok (.slice base (len+n) cap) w':=by
  obtain⟨i,hi⟩:=he;unfold Builtin.append_;simp only[List.getElem?_toArray,List.getElem?_cons_zero,List.getElem?_cons_succ];rw[ar (cQ hd)];simp only;rw[ar (run_sizeOf hi)];rw[ar (cQ hd1),ar (Sem.run_pure P w _)];simp only[Bool.false_eq_true,if_false,Bool.not_false,if_true];rw[ar hlen];rw[Vf hfit,ar hcs];cases base with
  |none=>subst hst;rfl
  |some a=>rw[ar hst];rfl
def Bi {e e1:TypeId}{len:Nat}{zv:Value}{os:List Value}{i:TypeInfo}(hd:P.underlying at0=some (.slice e))(hd1:P.underlying at1=some (.slice e1))
    (hi:P.info? e=some i) (hz:i.zero=some zv)
    (hlen:(Builtin.lenOf x).run P w=.ok n w) (hcs:(Builtin.firstCells (P.cellsOf e) n x).run P { w with drawn:=w.drawn+1 }=.ok cs.toArray { w with drawn:=w.drawn+1 })
    (hos:(Builtin.firstCells (P.cellsOf e) len (.slice base len cap)).run P { w with drawn:=w.drawn+1 }=.ok os.toArray { w with drawn:=w.drawn+1 })
    (hfit:cap<len+n) (hb:(len+n)*P.bytesOf e<=2 ^ 46) (hn:len+n<=2 ^ 46):
    ∃newCap,len+n<=newCap/\(Builtin.append_ #[at0,at1] ty #[.slice base len cap,x]).run P w =
      .ok (.slice (some ⟨w.heap.size,0,none⟩) (len+n) newCap)
        (({ w with drawn:=w.drawn+1 }:World).alloc (.cells (os.toArray++cs.toArray++Builtin.zeroCells zv.cells (newCap-(len+n))) e)):=by
  refine⟨(Question.appendCap (len+n) cap e).cut (w.tape w.drawn (.appendCap (len+n) cap e)),?_,?_⟩
  · simp only[Question.cut];omega
  · unfold Builtin.append_;simp only [List.getElem?_toArray,List.getElem?_cons_zero,List.getElem?_cons_succ];rw [ar (cQ hd)];simp only;rw [ar (run_sizeOf hi)];rw [ar (cQ hd1),ar (Sem.run_pure P w _)];simp only [Bool.false_eq_true,if_false,Bool.not_false,if_true];rw [ar hlen];rw [Ve V];rw [ar (run_typeInfo hi)];have hmax : IntKind.i64.max=9223372036854775807:=ZE;rw [Ve (by rw [hmax];omega)];rw [ar (run_typeInfo hi)];have hbi:=Bc hi;have h2:=nextslicecap_le hfit;have h3 : Builtin.nextslicecap (len+n) cap*i.bytes≤2*(len+n)*i.bytes:=VH _ h2;rw [Ve (by rw [hbi] at hb;rw [Xe] at h3;omega)];have hch : (choose (.appendCap (len+n) cap e)).run P w=.ok ((Question.appendCap (len+n) cap e).cut (w.tape w.drawn (.appendCap (len+n) cap e))) { w with drawn:=w.drawn+1 }:=by
      rw[run_choose];rfl
    rw[ar hch,ar (run_typeInfo hi),ar (run_askRoom P _ _),ar hos,ar hcs,ar (pj hi hz)];rfl
def ZL.drew {cv:Value}(h:ZL P Γ H w v cv)(n:Nat):ZL P Γ H { w with drawn:=n } v cv:=h.aZ (ug Γ H w n) (Nat.le_refl _)
def Bj {cells:List ZI}{rest:Array Value}(hl:cs.length=cells.length)(hr:∀i (_:i<cells.length) (_:i<cs.length),ZL P Γ H w cells[i] cs[i]):
    ∀i (_:i<cells.length),∃cv,(cs.toArray++rest)[i]?=some cv/\ZL P Γ H w cells[i] cv:=fun i hi =>
  ⟨cs[i]' V,by rw[Yn (by simp;omega)];simp,hr i hi V⟩
def Hh {id:Nat}{s x:ZI}{cs:Value}(R:ZQ P G Γ H w)(h:bU P H id at0 at1 s x=some (v,H'))(hs:ZL P Γ H w s cs)(hx:ZL P Γ H w x cx):
    ∃cv Γ' w',(Builtin.append_ #[at0,at1] ty #[cs,cx]).run P w=.ok cv w'/\ZS Γ H w Γ' H' w'/\H.A<=H'.A/\ZQ P G Γ' H' w'/\ZL P Γ' H' w' v cv:=by
  unfold bU at h;split at h
  · rename_i e hd;split at h
    · rename_i e1 hd1;simp only[Vi]at h;obtain⟨z,hz,⟨n,nc⟩,hsrc,h⟩:=h;obtain⟨i,zv,hi,hzv,hsz,hzz,hcells⟩:=qC hz;obtain⟨hlen,hncl,xs,hxs,hxl,hxr⟩:=ur R hsrc hx;obtain⟨_,_,ys,hsrcd,hyl,hyr⟩:=ur (R.drew (w.drawn+1)) hsrc (hx.drew (w.drawn+1));split at h
      · -- a nil slice
        cases hs;simp only at h;split at h
        · rename_i h0;simp only[Option.some.injEq,Prod.mk.injEq]at h;obtain⟨rfl,rfl⟩:=h;subst h0;exact⟨_,Γ,w,run_append_fits hd hd1 ⟨i,hi⟩ hlen hxs V rfl,ZS.refl _ _ _,ZG,R,.lit _⟩
        · rename_i h0;split at h
          · rename_i hb;simp only [Vc,Prod.mk.injEq] at h;obtain ⟨H1,hlay,rfl,rfl⟩:=h;obtain ⟨newCap,hc,hrun⟩:=Bi (base:=none) (len:=0) (cap:=0) (os:=[]) (ty:=ty) hd hd1 hi hzv hlen hsrcd rfl V (by rw [Nat.zero_add];exact hb.1) V;rw [Nat.zero_add n] at hc hrun;have R1:=R.drew (w.drawn+1);have harr : ∀ j (_ : j<nc.length),∃ cv,(([] : List Value).toArray++ys.toArray++Builtin.zeroCells zv.cells (newCap - n))[j]?=some cv∧ZL P Γ H { w with drawn:=w.drawn+1 } nc[j] cv:=by
              simp only[Array.empty_append];exact Bj hyl hyr
            have hsize:(([]:List Value).toArray++ys.toArray++Builtin.zeroCells zv.cells (newCap-n)).size=newCap*P.cellsOf e:=by
              simp only[YT,Bh,List.size_toArray,List.length_nil,hyl,hncl];rw[hsz,<- hcells,Nat.zero_add,<- VU];congr 1;omega
            obtain⟨E,hn,R'⟩:=se R1 hlay (by rw[hsize,hncl];exact VH _ V) harr;obtain⟨hget,_⟩:=ka hlay;obtain⟨_,_,_,hid⟩:=nL R hlay;refine⟨_,_,_,hrun,(ug Γ H w _).trans ZG E,hn,R',?_⟩;exact xS (by rw[hget,Vf rfl]) hid (aE.eI _ _ _) V (by rw[hncl];exact Nat.le_refl _) (by rw[hsize];exact Nat.le_refl _)
          · cases h
      · rename_i id' gen off len sz;simp only[Vi]at h;obtain⟨⟨e',cells⟩,hl,h⟩:=h;simp only at h;split at h
        · rename_i hc;obtain⟨rfl,rfl,h1,h2,h3,h4⟩:=hc;split at h
          · rename_i h0;simp only [Option.some.injEq,Prod.mk.injEq] at h;obtain ⟨rfl,rfl⟩:=h;subst h0;have hxs0 : xs=[]:=by
              have:xs.length=0:=(by rw[hxl,hncl];simp);simpa using this
            subst hxs0;rcases kf hs hl with ⟨b,base,nn,a,cap,hΓ,rfl,c1,c2,c3⟩|⟨hΓ,rfl,rfl,rfl⟩
            · exact⟨_,Γ,w,run_append_fits hd hd1 ⟨i,hi⟩ hlen hxs V rfl,ZS.refl _ _ _,ZG,R,hs⟩
            · exact⟨_,Γ,w,run_append_fits hd hd1 ⟨i,hi⟩ hlen hxs V rfl,ZS.refl _ _ _,ZG,R,hs⟩
          · rename_i h0;simp only[Option.some.injEq,Prod.mk.injEq]at h;obtain⟨rfl,rfl⟩:=h;have hnpos:0<n:=V;have hg:=jK hl
            -- where a new array is made
            have grows : ∀ (base : Option Addr) (cap : Nat) (os : List Value),(Builtin.firstCells (P.cellsOf e') len (.slice base len cap)).run P { w with drawn:=w.drawn+1 }=.ok os.toArray { w with drawn:=w.drawn+1 } →
                os.length=(cells.drop off).length->(∀j (_:j<(cells.drop off).length) (_:j<os.length),ZL P Γ H { w with drawn:=w.drawn+1 } (cells.drop off)[j] os[j])->cap<len+n ->
                ∃cv Γ' w',(Builtin.append_ #[at0,at1] ty #[.slice base len cap,cx]).run P w=.ok cv w'/\ZS Γ H w Γ' (H.upd id' (.J (gen+1) e' (cells.drop off++nc))) w' /\
                  H.A<=(H.upd id' (.J (gen+1) e' (cells.drop off++nc))).A/\ZQ P G Γ' (H.upd id' (.J (gen+1) e' (cells.drop off++nc))) w' /\
                  ZL P Γ' (H.upd id' (.J (gen+1) e' (cells.drop off++nc))) w' (.U id' (gen+1) 0 (len+n) (P.cellsOf e')) cv:=by
              intro base cap os hos hol hor hcap;obtain⟨newCap,hcp,hrun⟩:=Bi (base:=base) (ty:=ty) hd hd1 hi hzv hlen hsrcd hos hcap h2 h3;have R1:=R.drew (w.drawn+1);have hdl:(cells.drop off).length=len*P.cellsOf e':=(by simp only[V4];omega);have hsize:(os.toArray++ys.toArray++Builtin.zeroCells zv.cells (newCap-(len+n))).size=newCap*P.cellsOf e':=by
                simp only[YT,Bh,List.size_toArray,hol,hdl,hyl,hncl];rw[hsz,<- hcells,<- VU,<- VU];congr 1;omega
              have hdn : (cells.drop off++nc).length=(len+n)*P.cellsOf e':=(by rw [List.length_append,hdl,hncl,VU]);have harr : ∀ j (_ : j<(cells.drop off++nc).length),∃ cv,(os.toArray++ys.toArray++Builtin.zeroCells zv.cells (newCap - (len+n)))[j]?=some cv ∧
                  ZL P Γ H { w with drawn:=w.drawn+1 } (cells.drop off++nc)[j] cv:=by
                intro j hj;have:=Bj (P:=P) (Γ:=Γ) (H:=H) (w:={ w with drawn:=w.drawn+1 }) (cells:=cells.drop off++nc) (cs:=os++ys) (rest:=Builtin.zeroCells zv.cells (newCap-(len+n)))
                  (by rw[List.length_append,List.length_append,hol,hyl]) (fun k a b=>?_) j hj
                · simpa using this
                · by_cases hk:k<(cells.drop off).length
                  · rw[Wh hk,Wh V];exact hor k hk (V)
                  · rw[Wr V,Wr V];simp only[hol];exact hyr _ (by simp only[List.length_append]at a;omega) (by simp only[List.length_append]at b;omega)
              obtain⟨E,R'⟩:=GQ R1 hg (by rw[hsize,hdn];exact VH _ hcp) harr;refine⟨_,_,_,hrun,(ug Γ H w _).trans ZG E,ZG,R',.U ⟨R.A id' _ hg,rfl,by rw[aj,Vf rfl];simp,fun g'' e'' cells'' hg''=>?_⟩⟩;rw[aj,Vf rfl]at hg'';simp only[Option.some.injEq,ZO.J.injEq]at hg'';obtain⟨rfl,rfl,rfl⟩:=hg'';refine⟨ZG,fun _=>?_⟩;rw[aE.eI];exact⟨_,_,rfl,hcp,by rw[hdn,Nat.zero_add];exact Nat.le_refl _,.inl ⟨rfl,by rw[hsize,Nat.zero_add];omega⟩⟩
            rcases kf hs hl with ⟨b,base,nn,a,cap,hΓ,rfl,c1,c2,c3⟩|⟨hΓ,rfl,rfl,rfl⟩
            · by_cases hcap:len+n<=cap
              · -- there is room
                have ha:a=⟨b,base+off,none⟩/\base+off+cap*P.cellsOf e'<=nn:=by
                  rcases c3 with c3|c3
                  · exact c3
                  · omega
                obtain⟨rfl,c4⟩:=ha;obtain⟨c,q1,q2,q3,q4⟩:=qA R hl hΓ;have hroom:(len+n)*P.cellsOf e'<=cap*P.cellsOf e':=VH _ hcap;rw[VU]at hroom;have hst:=sd (P:=P) xs c (base+off+len*P.cellsOf e') 0 w q1 (by rw[hxl,hncl];omega) (um h4 hxl hxr);have hrun:=run_append_fits (ty:=ty) (base:=some ⟨b,base+off,none⟩) hd hd1 ⟨i,hi⟩ hlen hxs hcap (by
                  show (storeCells (Addr.add ⟨b,base+off,none⟩ (len*P.cellsOf e')) xs).run P w=_;rw[kM];exact hst)
                have hdl:(cells.drop off).length=len*P.cellsOf e':=(by simp only[V4];omega);have hdn:(cells.drop off++nc).length=len*P.cellsOf e'+n*P.cellsOf e':=(by rw[List.length_append,hdl,hncl]);have harr:∀j (_:j<(cells.drop off++nc).length),∃cv,(setRow c (base+off+len*P.cellsOf e'+0) xs)[base+off+j]?=some cv/\ZL P Γ H w (cells.drop off++nc)[j] cv:=by
                  intro j hj;rw[AW _ _ _ (by rw[hxl,hncl];omega)];by_cases hk:j<(cells.drop off).length
                  · rw[Ve V,Wh hk];obtain⟨cv,k1,k2⟩:=q4 (off+j) (by simp only[V4]at hk;omega);refine⟨cv,by rw[Xf];exact k1,?_⟩;simp only[XO];exact k2
                  · rw[Wr V,Vf (by rw[hxl,hncl];omega)];have hj2:j-(cells.drop off).length<nc.length:=(by simp only[List.length_append]at hj;omega);refine⟨xs[j-(cells.drop off).length]' V,?_,hxr _ hj2 V⟩;rw[show base+off+j-(base+off+len*P.cellsOf e'+0)=j-(cells.drop off).length from by omega];exact Vd (V)
                obtain⟨E,R'⟩:=GP (base':=base+off) R hg hΓ (by rw[size_setRow];exact q2) (by rw[hdn];omega) harr;refine⟨_,_,_,hrun,E,ZG,R',.U ⟨R.A id' _ hg,rfl,by rw[aj,Vf rfl];simp,fun g'' e'' cells'' hg''=>?_⟩⟩;rw[aj,Vf rfl]at hg'';simp only[Option.some.injEq,ZO.J.injEq]at hg'';obtain⟨rfl,rfl,rfl⟩:=hg'';refine⟨ZG,fun _=>?_⟩;rw[aE.eI];exact⟨_,_,rfl,hcap,by rw[hdn,Nat.zero_add,VU];exact Nat.le_refl _,.inl ⟨rfl,c4⟩⟩
              · -- there is none
                rcases c3 with ⟨rfl,c3⟩|⟨rfl,rfl⟩
                · obtain⟨os,k1,k2,k3⟩:=(sj (R.drew (w.drawn+1)) hl hΓ).drop off (len*P.cellsOf e') V;have htk:(cells.drop off).take (len*P.cellsOf e')=cells.drop off:=Vg (by simp only[V4];omega);rw[htk]at k1 k3;refine grows _ cap os ?_ k1 k3 V;unfold Builtin.firstCells;have:len*P.cellsOf e'=os.length:=(by rw[k1];simp only[V4];omega);rw[this];exact qk k2
                · refine grows _ 0 [] ?_ (by simp only[List.length_nil,V4];omega) (fun j _ h=>absurd h (Vs _)) V;unfold Builtin.firstCells;rw[Xq];rfl
            · refine grows none 0 [] rfl (by simp only[List.length_nil,V4];omega) (fun j _ h=>absurd h (Vs _)) (V)
        · cases h
      · cases h
    · cases h
  · cases h
end Go.Hx
namespace Go.Hx
variable {P:Program} {G:Nat->Option (List ZI)} {Γ Γ':aE} {H H':ZH} {w w':World}
variable {at0 ty:TypeId}{cd cx:Value}{d v x:ZI}
def Hi {t:TypeId}(h:nO P H t x=some v)(hx:ZL P Γ H w x cx):
  ∃cv,(Builtin.len_ #[t] ty #[cx]).run P w=.ok cv w/\ZL P Γ H w v cv:=by
 unfold nO at h;unfold Builtin.len_;simp only[List.getElem?_toArray,List.getElem?_cons_zero];split at h
 ·rename_i e hd;rw[ar (cQ hd)];split at h
  ·rename_i len cells;simp only[Option.some.injEq]at h;subst h;cases hx<;>exact⟨_,rfl,.lit _⟩
  ·rename_i id gen off len sz;simp only[Vc]at h;obtain⟨⟨e',cells⟩,hl,rfl⟩:=h;rcases kf hx hl with ⟨b,base,n,a,cap,hΓ,rfl,_⟩|⟨hΓ,rfl,rfl,rfl⟩<;>exact⟨_,rfl,.lit _⟩
  ·simp only[Option.some.injEq]at h;subst h;cases hx;exact⟨_,rfl,.lit _⟩
  ·cases h
 ·rename_i hd;rw[ar (cQ hd)];split at h
  ·simp only[Option.some.injEq]at h;subst h;cases hx;exact⟨_,rfl,.lit _⟩
  ·cases h
 ·rename_i n e hd;rw[ar (cQ hd)];simp only[Option.some.injEq]at h;subst h;exact⟨_,rfl,.lit _⟩
 ·cases h
def Hl {sz n m:Nat}{cells:List ZI}(R:ZQ P G Γ H w)(h:de H sz x=some (n,cells))(hx:ZL P Γ H w x cx)(hm:m<=n):
  ∃cs:List Value,(Builtin.firstCells sz m cx).run P w=.ok cs.toArray w/\cs.length=(cells.take (m*sz)).length /\
   ∀i (_:i<(cells.take (m*sz)).length) (_:i<cs.length),ZL P Γ H w (cells.take (m*sz))[i] cs[i]:=by
 have hms:m*sz<=n*sz:=VH _ hm;unfold de at h;split at h
 ·rename_i len cells';split at h
  ·rename_i hl;simp only[Option.some.injEq,Prod.mk.injEq]at h;obtain⟨rfl,rfl⟩:=h;cases hx with
   |nw a cap =>
    have:m=0:=V;subst this;refine⟨[],?_,ZD,fun i h1 _=>by simp at h1⟩;cases a with
    |none=>rfl
    |some a=>unfold Builtin.firstCells;rw[Xq];rfl
   | @Q _ _ b off cap cs hb hlt hlen hcs hcell hrel =>
    obtain⟨cs',k1,k2,k3⟩:=nnf.drop (k:=0) (n:=m*sz) ⟨cs,hcs,hcell,hrel⟩ V;rw[List.drop_zero]at k1 k3;refine⟨cs',?_,k1,k3⟩;unfold Builtin.firstCells;have:m*sz=cs'.length:=(by rw[k1,Vr];omega);rw[this];exact qk k2
  ·cases h
 ·rename_i id gen off len sz';split at h
  ·rename_i hsz;subst hsz;simp only[Vc,Prod.mk.injEq]at h;obtain⟨⟨e,cells'⟩,hl,rfl,rfl⟩:=h;rcases kf hx hl with ⟨b,base,nn,a,cap,hΓ,rfl,c1,c2,c3⟩|⟨hΓ,rfl,rfl,rfl⟩
   ·rcases c3 with ⟨rfl,c3⟩|⟨rfl,rfl⟩
    ·obtain⟨cs,k1,k2,k3⟩:=(sj R hl hΓ).drop off (m*sz') V;have he:((cells'.drop off).take (len*sz')).take (m*sz')=(cells'.drop off).take (m*sz'):=by
      rw[List.take_take,XI hms]
     simp only[he];refine⟨cs,?_,k1,k3⟩;unfold Builtin.firstCells;have:m*sz'=cs.length:=(by rw[k1];simp only[Vr,V4];omega);rw[this];exact qk k2
    ·have:m=0:=V;subst this;refine⟨[],?_,ZD,fun i h1 _=>by simp at h1⟩;unfold Builtin.firstCells;rw[Xq];rfl
   ·have:m=0:=V;subst this;exact⟨[],rfl,ZD,fun i h1 _=>by simp at h1⟩
  ·cases h
 ·simp only[Option.some.injEq,Prod.mk.injEq]at h;obtain⟨rfl,rfl⟩:=h;cases hx;have:m=0:=V
  subst this;exact⟨[],rfl,ZD,fun i h1 _=>by simp at h1⟩
 ·cases h
def Hn {at1:TypeId}(R:ZQ P G Γ H w)(h:lU P H at0 d x=some (v,H'))(hd:ZL P Γ H w d cd)(hx:ZL P Γ H w x cx):
  ∃cv Γ' w',(Builtin.copy_ #[at0,at1] ty #[cd,cx]).run P w=.ok cv w'/\ZS Γ H w Γ' H' w'/\H.A<=H'.A/\ZQ P G Γ' H' w'/\ZL P Γ' H' w' v cv:=by
 unfold lU at h;split at h
 ·rename_i e hu;split at h
  ·rename_i he;obtain⟨du,hde⟩:=VJ.1 he;simp only[Vi]at h;obtain⟨⟨n,nc⟩,hsrc,h⟩:=h;obtain⟨hlen,hncl,xs,hxs,hxl,hxr⟩:=ur R hsrc hx;split at h
   ·rename_i id gen off len sz;simp only[Vi]at h;obtain⟨⟨e',cells⟩,hl,h⟩:=h;simp only at h;split at h
    ·rename_i hc;obtain ⟨rfl,h1,h2⟩:=hc;simp only [Option.some.injEq,Prod.mk.injEq] at h;obtain ⟨rfl,rfl⟩:=h;have hmin : min n len*P.cellsOf e≤nc.length:=(by rw [hncl];exact VH _ (Nat.min_le_left _ _));have hmin2 : min n len*P.cellsOf e≤len*P.cellsOf e:=VH _ (Nat.min_le_right _ _)
          -- the first cells of the source
     obtain⟨ys,hys,hyl,hyr⟩:∃ys:List Value,(Builtin.firstCells (P.cellsOf e) (min n len) cx).run P w=.ok ys.toArray w/\ys.length=(nc.take (min n len*P.cellsOf e)).length /\
       ∀i (_:i<(nc.take (min n len*P.cellsOf e)).length) (_:i<ys.length),ZL P Γ H w (nc.take (min n len*P.cellsOf e))[i] ys[i]:=Hl R hsrc hx (Nat.min_le_left n len)
     have hall:(nc.take (min n len*P.cellsOf e)).all ZI.one=true:=by
      rw[VG]at h2 ⊢;exact fun v hv=>h2 v (VD hv)
     have htl:(nc.take (min n len*P.cellsOf e)).length=min n len*P.cellsOf e:=(by rw[Vr];omega);rcases kf hd hl with ⟨b,base,nn,a,cap,hΓ,rfl,c1,c2,c3⟩|⟨hΓ,rfl,rfl,rfl⟩
     ·obtain⟨c,q1,q2,q3,q4⟩:=qA R hl hΓ;have hst:(storeCells a ys).run P w=.ok () (bI w b (.cells (setRow c (base+off) ys) e' (0,0))):=by
       rcases c3 with ⟨rfl,c3⟩|⟨rfl,rfl⟩
       ·exact sd (P:=P) ys c (base+off) 0 w q1 (by rw[hyl,htl];omega) (um hall hyl hyr)
       ·have:ys=[]:=by
         have:ys.length=0:=(by rw[hyl,htl];simp);simpa using this
        subst this;have hsame:bI w b (.cells (setRow c (base+off) []) e' (0,0))=w:=by
         have:=sd (P:=P) [] c (base+off) 0 w q1 (by simp;omega) (fun v h=>by simp at h);simp only[storeCells,Sem.run_pure,Result.ok.injEq,true_and]at this;exact this.symm
        rw[hsame];rfl
      have hrun:(Builtin.copy_ #[at0,at1] ty #[.slice (some a) len cap,cx]).run P w=.ok (.int .i64 (min n len:Nat)) (bI w b (.cells (setRow c (base+off) ys) e' (0,0))):=by
       unfold Builtin.copy_;simp only[List.getElem?_toArray,List.getElem?_cons_zero,List.getElem?_cons_succ];rw[ar (cQ hu)];simp only;rw[ar hlen,ar (jq hde)];rw[ar hys,ar hst];rfl
      obtain⟨E,R'⟩:=xC (cells':=setAt cells off (nc.take (min n len*P.cellsOf e))) (c':=setRow c (base+off) ys) R (jK hl) hΓ (qo (by rw[htl];omega)) (by rw[size_setRow,q2])
       (uo (by rw[htl];omega) V hyl q4 hyr)
      exact⟨_,_,_,hrun,E,ZG,R',.lit _⟩
     ·have:min n 0=0:=V;rw[this]at hys hyl ⊢;have hys0:ys=[]:=by
       have:ys.length=0:=(by rw[hyl];simp);simpa using this
      subst hys0;have hrun:(Builtin.copy_ #[at0,at1] ty #[.slice none 0 0,cx]).run P w=.ok (.int .i64 (0:Nat)) w:=by
       unfold Builtin.copy_;simp only[List.getElem?_toArray,List.getElem?_cons_zero,List.getElem?_cons_succ];rw[ar (cQ hu)];simp only;rw[ar hlen,ar (jq hde)];have:Nat.min n 0=0:=(by show min n 0=0;omega);rw[this,ar hys];rfl
      have hset:H.upd id (.J gen e' (setAt cells 0 (nc.take (0*P.cellsOf e))))=H:=by
       have hs:setAt cells 0 (nc.take (0*P.cellsOf e))=cells:=(by simp[setAt]);rw[hs];have:∀j,(H.upd id (.J gen e' cells)).get j=H.get j:=by
        intro j;rw[aj];by_cases hj:j=id
        ·rw[Vf hj,hj,jK hl]
        ·rw[Ve hj]
       show ({ get:=(H.upd id (.J gen e' cells)).get,A:=H.A }:ZH)=H;rw[funext this]
      rw[hset];exact⟨_,Γ,w,hrun,ZS.refl _ _ _,ZG,R,.lit _⟩
    ·cases h
   ·cases h
  ·cases h
 ·cases h
def Ho (R:ZQ P G Γ H w)(h:js P H at0 d=some (v,H'))(hd:ZL P Γ H w d cd):
  ∃cv Γ' w',(Builtin.clear_ #[at0] ty #[cd]).run P w=.ok cv w'/\ZS Γ H w Γ' H' w'/\H.A<=H'.A/\ZQ P G Γ' H' w'/\ZL P Γ' H' w' v cv:=by
 have tup0:∀(Γ:aE) (H:ZH) (w:World),ZL P Γ H w (.nc []) (.tuple #[]):=fun Γ H w=>ZL.nc (cells:=[]) (cs:=[]) rfl fun i h _=>absurd h (Vs _);unfold js at h;split at h
 ·rename_i e hu;split at h
  ·simp only[Option.some.injEq,Prod.mk.injEq]at h;obtain⟨rfl,rfl⟩:=h;cases hd;refine⟨.tuple #[],Γ,w,?_,ZS.refl _ _ _,ZG,R,tup0 _ _ _⟩;unfold Builtin.clear_;simp only[List.getElem?_toArray,List.getElem?_cons_zero];rw[ar (cQ hu)];rfl
  ·rename_i id gen off len sz;simp only[Vi]at h;obtain⟨⟨e',cells⟩,hl,h⟩:=h;simp only at h;split at h
   ·rename_i h0;subst h0;simp only[Option.some.injEq,Prod.mk.injEq]at h;obtain⟨rfl,rfl⟩:=h;refine⟨.tuple #[],Γ,w,?_,ZS.refl _ _ _,ZG,R,tup0 _ _ _⟩;rcases kf hd hl with ⟨b,base,nn,a,cap,hΓ,rfl,c1,c2,c3⟩|⟨hΓ,rfl,_,rfl⟩
    ·unfold Builtin.clear_;simp only[List.getElem?_toArray,List.getElem?_cons_zero];rw[ar (cQ hu)];rfl
    ·unfold Builtin.clear_;simp only[List.getElem?_toArray,List.getElem?_cons_zero];rw[ar (cQ hu)];rfl
   ·rename_i h0;simp only[Vi]at h;obtain⟨zs,hzs,h⟩:=h;split at h
    ·rename_i hc;obtain⟨h1,h2,h3⟩:=hc;simp only[Option.some.injEq,Prod.mk.injEq]at h;obtain⟨rfl,rfl⟩:=h;unfold ke at hzs;simp only[Vc]at hzs;obtain⟨z,hz,rfl⟩:=hzs;obtain⟨i,zv,hi,hzv,hsz,hzz,hcells⟩:=qC hz;have hzr:dG P Γ H w (List.replicate len z).flatten (Builtin.zeroCells zv.cells len):=xR hzz;have hyl:(Builtin.zeroCells zv.cells len).toList.length=(List.replicate len z).flatten.length:=(by rw[Xa];exact hzr.1);have hyr:∀i (_:i<(List.replicate len z).flatten.length) (_:i<(Builtin.zeroCells zv.cells len).toList.length),ZL P Γ H w (List.replicate len z).flatten[i] (Builtin.zeroCells zv.cells len).toList[i]:=fun i h1 h2=>hzr.2 i h1 (by rw[Xa]at h2;exact h2);rcases kf hd hl with ⟨b,base,nn,a,cap,hΓ,rfl,c1,c2,c3⟩|⟨hΓ,_,h4,_⟩
     ·rcases c3 with ⟨rfl,c3⟩|⟨h4,_⟩
      ·obtain⟨c,q1,q2,q3,q4⟩:=qA R hl hΓ;have hst:(storeCells ⟨b,base+off,none⟩ (Builtin.zeroCells zv.cells len).toList).run P w=.ok () (bI w b (.cells (setRow c (base+off) (Builtin.zeroCells zv.cells len).toList) e' (0,0))) :=
        sd (P:=P) _ c (base+off) 0 w q1 (by rw[hyl,h1];omega) (um h3 hyl hyr)
       have hrun:(Builtin.clear_ #[at0] ty #[.slice (some ⟨b,base+off,none⟩) len cap]).run P w=.ok (.tuple #[]) (bI w b (.cells (setRow c (base+off) (Builtin.zeroCells zv.cells len).toList) e' (0,0))):=by
        obtain⟨m,rfl⟩:∃m,len=m+1:=⟨len-1,V⟩
        unfold Builtin.clear_;simp only[List.getElem?_toArray,List.getElem?_cons_zero];rw[ar (cQ hu)];simp only;rw[ar (pj hi hzv),ar hst];rfl
       obtain⟨E,R'⟩:=xC (cells':=setAt cells off (List.replicate len z).flatten) (c':=setRow c (base+off) (Builtin.zeroCells zv.cells len).toList) R (jK hl) hΓ (qo (by rw[h1];exact h2)) (by rw[size_setRow,q2])
        (uo (by rw[h1];exact h2) V hyl q4 hyr)
       exact⟨_,_,_,hrun,E,ZG,R',tup0 _ _ _⟩
      ·exact absurd h4 h0
     ·exact absurd h4 h0
    ·cases h
  ·cases h
 ·cases h
end Go.Hx
namespace Go.Hx
variable {P:Program} {G:Nat->Option (List ZI)} {Γ Γ':aE} {H H':ZH} {w w':World}
variable {k:Int}{es:List (Int × Int)}{b i:Nat}{kt t:TypeId}{ck cm cx:Value}{v:ZI}
def Hp (k:Int):∀(es:List (Int × Int)) (j i:Nat),Instr.findNow (.int .i64) (.int .i64 k) (dW j es) i=some ((jJ k i es).map fun p=>(p.1,.int .i64 p.2)):=by
 intro es
 induction es with
 |nil=>intro j i;rfl
 |cons e es ih =>
  intro j i;obtain⟨a,v⟩:=e;simp only[dW,Instr.findNow,Instr.sameNow,if_true,jJ];by_cases h:k=a
  ·subst h;simp
  ·have:(k == a)=false:=(by simp[h]);rw[this];simp only[Ve h];exact ih (j+1) (i+1)
def Ht:∀(es fs:List (Int × Int)) (j:Nat),dW j (es++fs)=dW j es++dW (j+es.length) fs:=by
 intro es
 induction es with
 |nil=>intro fs j;simp[dW]
 |cons e es ih =>
  intro fs j;obtain⟨a,v⟩:=e;simp only[List.cons_append,dW,ih,List.length_cons];rw[show j+1+es.length=j+(es.length+1) by omega]
def Bk:∀(es:List (Int × Int)) (j i:Nat),(dW j es)[i]?=es[i]?.map fun p=>⟨.int .i64 p.1,.int .i64 p.2,j+i⟩:=by
 intro es
 induction es with
 |nil=>intro j i;simp[dW]
 |cons e es ih =>
  intro j i;obtain⟨a,v⟩:=e;cases i with
  |zero=>simp[dW]
  |succ i =>
   simp only[dW,List.getElem?_cons_succ,ih];rw[show j+1+i=j+(i+1) by omega]
def Hv (f:MapEntry->MapEntry):∀(es:List (Int × Int)) (j i:Nat) (k v k' v':Int),es[i]?=some (k,v)->f ⟨.int .i64 k,.int .i64 v,j+i⟩=⟨.int .i64 k',.int .i64 v',j+i⟩->(dW j es).modify i f=dW j (es.set i (k',v')):=by
 intro es
 induction es with
 |nil=>intro j i k v k' v' h _;simp at h
 |cons e es ih =>
  intro j i k v k' v' h hf;obtain⟨a,u⟩:=e;cases i with
  |zero =>
   simp only[List.getElem?_cons_zero,Option.some.injEq,Prod.mk.injEq]at h;obtain⟨rfl,rfl⟩:=h;simp only[Nat.add_zero]at hf;simp[dW,hf]
  |succ i =>
   simp only[List.getElem?_cons_succ]at h;have:=ih (j+1) i k v k' v' h (by rw[show j+1+i=j+(i+1) by omega];exact hf);simp only[dW,List.modify_succ_cons,List.set_cons_succ,this]
def Bl :∀ {es:List (Int × Int)} {i n:Nat} {v:Int},jJ k i es=some (n,v)->i<=n/\es[n-i]?=some (k,v):=by
 intro es
 induction es with
 |nil=>intro i n v h;cases h
 |cons e es ih =>
  intro i n v h;obtain⟨a,u⟩:=e;simp only[jJ]at h;by_cases hk:k=a
  ·rw[Vf hk]at h;cases h;subst hk;exact⟨ZG,ZD⟩
  ·rw[Ve hk]at h;obtain⟨h1,h2⟩:=ih h;refine⟨V,?_⟩;rw[show n-i=(n-(i+1))+1 by omega];exact h2
def HA:∀(es:List (Int × Int)) (j n:Nat),n<es.length->(dW j es).findIdx? (fun e=>(e.born:Int) == ((j+n:Nat):Int))=some n:=by
 intro es
 induction es with
 |nil=>intro j n h;simp at h
 |cons e es ih =>
  intro j n h;obtain⟨a,u⟩:=e;simp only[dW,List.findIdx?_cons];cases n with
  |zero=>simp
  |succ n =>
   have hne:((j:Int) == ((j+(n+1):Nat):Int))=false:=by
    rw[beq_eq_false_iff_ne];omega
   rw[hne];have:=ih (j+1) n (by simpa using h);rw[show j+1+n=j+(n+1) by omega]at this;simp only[Bool.false_eq_true,if_false,this];rfl
def Bm (k v:Int):Obj.map ((dW 0 es).toArray.push ⟨.int .i64 k,.int .i64 v,es.length⟩) (es.length+1)=iq (es++[(k,v)]):=by
 unfold iq;rw[Ht];simp[dW]
def xW {v k' v':Int}(f:MapEntry->MapEntry)(h:es[i]?=some (k,v))(hf:f ⟨.int .i64 k,.int .i64 v,i⟩=⟨.int .i64 k',.int .i64 v',i⟩):
  Obj.map ((dW 0 es).toArray.modify i f) es.length=iq (es.set i (k',v')):=by
 unfold iq;have:=Hv f es 0 i k v k' v' h (by simpa using hf);rw[<- this,VE];congr 1;apply Array.ext';simp
def HB {v:Int}(h:es[i]?=some (k,v)):es.set i (k,v)=es:=by
 obtain⟨hi,he⟩:=VK.1 h;rw[<- he];exact List.set_getElem_self hi
structure IntMap (P:Program)(t:TypeId)(kt et:TypeId):Prop where
 und:P.underlying t=some (.map kt et)
 key:P.underlying kt=some (.int .i64)
 zero:∀w:World,(zeroValue et).run P w=.ok (.int .i64 0) w
def xX (h:sf P t=true):∃kt et,IntMap P t kt et:=by
 unfold sf at h;split at h
 ·rename_i kt et ht;simp only[VI]at h;obtain⟨h1,h2⟩:=h;split at h1
  ·rename_i hk;split at h2
   ·rename_i hz;rw[Vi]at hz;obtain⟨i,hi,hz⟩:=hz;exact⟨kt,et,ht,hk,fun w=>pj hi hz⟩
   ·cases h2
  ·cases h1
 ·cases h
def run_checkKey {e:Bool}(hk:P.underlying kt=some (.int .i64)):(Instr.checkKey e 10000 kt (.int .i64 k)).run P w=.ok () w:=by
 show (Instr.checkKey e (9999+1) kt (.int .i64 k)).run P w=.ok () w;unfold Instr.checkKey;rw[ar (cQ hk)];rfl
def run_findKey (hk:P.underlying kt=some (.int .i64)):(Instr.findKey kt (.int .i64 k) (dW 0 es)).run P w=.ok ((jJ k 0 es).map fun p=>(p.1,.int .i64 p.2)) w:=by
 unfold Instr.findKey;rw[ar (cQ hk),Hp];rfl
def Bn :(Instr.keyThatStays (.int .i64 k) (.int .i64 k)).run P w=.ok (.int .i64 k) w:=by
 unfold Instr.keyThatStays;have:Instr.sameBits 10000 (.int .i64 k) (.int .i64 k)=true:=by
  show (IntKind.i64 == IntKind.i64 && k == k)=true;simp
 rw[this];rfl
def sB (h:w.heap[b]?=some (iq es)):(getObj b).run P w=.ok (.map (dW 0 es).toArray es.length) w:=by simp[getObj,Sem.run,h,iq]
def sC (o:Obj)(h:w.heap[b]?=some (iq es)):(setObj b o).run P w=.ok () (bI w b o):=by
 have h':w.heap[b]?=some (.map (dW 0 es).toArray es.length):=h;simp[setObj,Sem.run,h',bI]
def uu {id:Nat}{cv:Value}(R:ZQ P G Γ H w)(h:ZL P Γ H w (.nk id) cv)(hg:H.get id=some (.mp es)):∃b,Γ id=some (b,0,0)/\cv=.map (some b)/\w.heap[b]?=some (iq es):=by
 cases h with
 |nk h =>
  obtain⟨b,h1,h2⟩:=h.2.2.2.2 es hg;obtain⟨b',h3,h4⟩:=R.mp id es hg;rw[h1]at h3;cases h3;exact⟨b,h1,h2,h4⟩
def Bo (ok:Bool)(r:Option (Nat × Int))(v:Value)(b:Bool)(h:(v,b)=match r with|some (_,v)=>(Value.int .i64 v,true)|none=>(Value.int .i64 0,false)):ZL P Γ H w (uj ok r) (if ok=true then .tuple #[v,.bool b] else v):=by
 have two:∀x y:Value,ZL P Γ H w (.nc [.lit x,.lit y]) (.tuple #[x,y]):=fun x y=>ZL.nc (cells:=[.lit x,.lit y]) (cs:=[x,y]) rfl fun i h _=>match i,h with
  |0,_=>.lit _
  |1,_=>.lit _
 cases r with
 |none =>
  simp only[Prod.mk.injEq]at h;obtain⟨rfl,rfl⟩:=h;cases ok
  ·exact .lit _
  ·exact two _ _
 |some p =>
  obtain⟨n,u⟩:=p;simp only[Prod.mk.injEq]at h;obtain⟨rfl,rfl⟩:=h;cases ok
  ·exact .lit _
  ·exact two _ _
def HC {x i:ZI}{ok:Bool}{ci:Value}(R:ZQ P G Γ H w)(h:qt P H t x i ok=some v)(hx:ZL P Γ H w x cx)(hi:ZL P Γ H w i ci):
  ∃cv,(Instr.lookup t cx ci ok).run P w=.ok cv w/\ZL P Γ H w v cv:=by
 unfold qt at h;split at h
 ·rename_i hm;obtain⟨kt,et,M⟩:=xX hm;split at h
  ·rename_i k;cases hx;cases hi;cases h;refine⟨_,?_,Bo ok none (.int .i64 0) false rfl⟩;unfold Instr.lookup;rw[ar (cQ M.und)];simp only;refine(ar (Sem.run_pure P w _)).trans ?_;refine(ar (run_checkKey M.key)).trans ?_;refine(ar (run_findKey (es:=[]) M.key)).trans ?_;refine(ar (M.zero w)).trans ?_;cases ok<;>rfl
  ·rename_i id k;cases hi;split at h
   ·rename_i es hg;cases h;obtain⟨b,hΓ,rfl,hb⟩:=uu R hx hg;have fin:∀(u:Value) (d:Bool),((u,d)=match jJ k 0 es with|some (_,v)=>(Value.int .i64 v,true)|none=>(Value.int .i64 0,false))->∃cv,(Instr.lookup t (.map (some b)) (.int .i64 k) ok).run P w=.ok cv w/\ZL P Γ H w (uj ok (jJ k 0 es)) cv:=by
     intro u d hud;refine⟨_,?_,Bo ok _ u d hud⟩;unfold Instr.lookup;rw[ar (cQ M.und)];simp only;refine(ar (sB hb)).trans ?_;refine(ar (Sem.run_pure P w _)).trans ?_;refine(ar (run_checkKey M.key)).trans ?_;refine(ar (run_findKey (es:=es) M.key)).trans ?_;cases hf:jJ k 0 es with
     |none =>
      rw[hf]at hud;cases hud;refine(ar (M.zero w)).trans ?_;cases ok<;>rfl
     |some p =>
      rw[hf]at hud;cases hud;cases ok<;>rfl
    exact fin _ _ rfl
   ·cases h
  ·cases h
 ·cases h
def Bp {m k x:ZI}(R:ZQ P G Γ H w)(h:mE P H t m k x=some (v,H'))(hm:ZL P Γ H w m cm)(hk:ZL P Γ H w k ck)(hx:ZL P Γ H w x cx):
  ∃ Γ' w',(Instr.mapUpdate t cm ck cx).run P w=.ok () w'/\ZS Γ H w Γ' H' w'/\H.A<=H'.A/\ZQ P G Γ' H' w'/\v=.lit undef:=by
 unfold mE at h;split at h
 ·rename_i him;obtain⟨kt,et,M⟩:=xX him;split at h
  ·rename_i id k u;cases hk;cases hx;split at h
   ·rename_i es hg;simp only[Option.some.injEq,Prod.mk.injEq]at h;obtain⟨rfl,rfl⟩:=h;obtain⟨b,hΓ,rfl,hb⟩:=uu R hm hg;obtain⟨E,R'⟩:=ui (xD es k u) R hg hΓ hb;refine⟨Γ,_,?_,E,ZG,R',rfl⟩;unfold Instr.mapUpdate;rw[ar (cQ M.und)];simp only;refine(ar (sB hb)).trans ?_;refine(ar (run_checkKey M.key)).trans ?_;refine(ar (run_findKey (es:=es) M.key)).trans ?_;unfold xD;cases hf:jJ k 0 es with
    |none =>
     simp only[Option.map_none];rw[sC _ hb,Bm]
    |some p =>
     obtain⟨n,nf⟩:=p;obtain⟨_,hn⟩:=Bl hf;simp only[Nat.sub_zero]at hn;have he:(dW 0 es).toArray[n]?=some ⟨.int .i64 k,.int .i64 nf,n⟩:=by
      rw[List.getElem?_toArray,Bk,hn];simp
     simp only[Option.map_some,he,Option.getD_some];refine(ar Bn).trans ?_;rw[sC _ hb];rw[xW (k':=k) (v':=u) _ hn rfl]
   ·cases h
  ·cases h
 ·cases h
def HD {m k:ZI}(R:ZQ P G Γ H w)(h:oY P H t m k=some (v,H'))(hm:ZL P Γ H w m cm)(hk:ZL P Γ H w k ck):
  ∃cv Γ' w',(Instr.mapEntry t cm ck).run P w=.ok cv w'/\ZS Γ H w Γ' H' w'/\H.A<=H'.A/\ZQ P G Γ' H' w'/\ZL P Γ' H' w' v cv:=by
 have two:∀(Γ:aE) (H:ZH) (w:World) (x y:Value),ZL P Γ H w (.nc [.lit x,.lit y]) (.tuple #[x,y]):=fun Γ H w x y=>ZL.nc (cells:=[.lit x,.lit y]) (cs:=[x,y]) rfl fun i h _=>match i,h with
  |0,_=>.lit _
  |1,_=>.lit _
 unfold oY at h;split at h
 ·rename_i him;obtain⟨kt,et,M⟩:=xX him;split at h
  ·rename_i id k;cases hk;split at h
   ·rename_i es hg;obtain⟨b,hΓ,rfl,hb⟩:=uu R hm hg;split at h
    ·rename_i n u hf;simp only[Option.some.injEq,Prod.mk.injEq]at h;obtain⟨rfl,rfl⟩:=h;obtain⟨_,hn⟩:=Bl hf;simp only[Nat.sub_zero]at hn;have he:(dW 0 es).toArray[n]?=some ⟨.int .i64 k,.int .i64 u,n⟩:=by
      rw[List.getElem?_toArray,Bk,hn];simp
     obtain⟨E,R'⟩:=ui es R hg hΓ hb;refine⟨_,Γ,_,?_,E,ZG,R',two _ _ _ (.int .i64 u) (.int .i64 n)⟩;unfold Instr.mapEntry;rw[ar (cQ M.und)];simp only;refine(ar (sB hb)).trans ?_;refine(ar (run_checkKey M.key)).trans ?_;refine(ar (run_findKey (es:=es) M.key)).trans ?_;rw[hf];simp only[Option.map_some,he,Option.getD_some];refine(ar Bn).trans ?_;rw[ar (sC _ hb),xW (k':=k) (v':=u) _ hn rfl,HB hn];rfl
    ·rename_i hf;simp only[Option.some.injEq,Prod.mk.injEq]at h;obtain⟨rfl,rfl⟩:=h;obtain⟨E,R'⟩:=ui (es++[(k,0)]) R hg hΓ hb;refine⟨_,Γ,_,?_,E,ZG,R',two _ _ _ (.int .i64 0) (.int .i64 es.length)⟩;unfold Instr.mapEntry;rw[ar (cQ M.und)];simp only;refine(ar (sB hb)).trans ?_;refine(ar (run_checkKey M.key)).trans ?_;refine(ar (run_findKey (es:=es) M.key)).trans ?_;rw[hf];simp only[Option.map_none];refine(ar (M.zero w)).trans ?_;rw[ar (sC _ hb),Bm];rfl
   ·cases h
  ·cases h
 ·cases h
def HE {m s x:ZI}{cs:Value}(R:ZQ P G Γ H w)(h:qu H m s x=some (v,H'))(hm:ZL P Γ H w m cm)(hs:ZL P Γ H w s cs)(hx:ZL P Γ H w x cx):
  ∃ Γ' w',(Instr.entryStore t cm cs cx).run P w=.ok () w'/\ZS Γ H w Γ' H' w'/\H.A<=H'.A/\ZQ P G Γ' H' w'/\v=.lit undef:=by
 unfold qu at h;split at h
 ·rename_i id s u;cases hs;cases hx;split at h
  ·rename_i es hg;split at h
   ·rename_i hlt;simp only[Option.some.injEq,Prod.mk.injEq]at h;obtain⟨rfl,rfl⟩:=h;obtain⟨b,hΓ,rfl,hb⟩:=uu R hm hg;obtain⟨n,rfl⟩:=Vk hlt.1;have hn:n<es.length:=V;obtain⟨E,R'⟩:=ui (xE es n u) R hg hΓ hb;refine⟨Γ,_,?_,E,ZG,R',rfl⟩;unfold Instr.entryStore;simp only;refine(ar (sB hb)).trans ?_;have hi:(asInt (.int .i64 (n:Int))).run P w=.ok (n:Int) w:=rfl;refine(ar hi).trans ?_;have hf:=HA es 0 n hn;simp only[Nat.zero_add]at hf;have hf2:(dW 0 es).toArray.findIdx? (fun e=>(e.born:Int) == (n:Int))=some n:=by
     rw[List.findIdx?_toArray];exact hf
    rw[hf2];simp only;have hg2:es[n]?=some es[n]:=Vd hn;rw[sC _ hb];unfold xE;rw[hg2];simp only;rw[xW (k:=es[n].1) (v:=es[n].2) (k':=es[n].1) (v':=u) _ hg2 rfl]
   ·cases h
  ·cases h
 ·cases h
end Go.Hx
namespace Go.Hx
variable {P:Program} {G:Nat->Option (List ZI)} {Γ Γ':aE} {H H':ZH} {w w':World}
variable {fs:Array Field}{cs:Array Value}{ρ:Env}{fl:Field}{id off:Nat}{f:Operand->Value}{cv cx:Value}{v x:ZI}
def Bq {s:Sem Value}(h:s.run P w=.ok cv w'):(do pure (Next.value (<- s)):Sem Next).run P w=.ok (.value cv) w':=by
 rw[ar h];rfl
def uw {s:Sem Unit}(h:s.run P w=.ok () w'):(do s;pure Next.skip:Sem Next).run P w=.ok .skip w':=by
 rw[ar h];rfl
def cU (P:Program)(G:Nat->Option (List ZI))(Γ:aE)(H:ZH)(w:World)(v:ZI)(H':ZH)(s:Sem Next):Prop :=
 ∃nx cv Γ' w',s.run P w=.ok nx w'/\(nx=.value cv\/(nx=.skip/\cv=undef))/\ZS Γ H w Γ' H' w'/\H.A<=H'.A/\ZQ P G Γ' H' w'/\ZL P Γ' H' w' v cv
def cU.same {s:Sem Value}(R:ZQ P G Γ H w)(h:s.run P w=.ok cv w)(hv:ZL P Γ H w v cv):
  cU P G Γ H w v H (do pure (Next.value (<- s))) :=
 ⟨.value cv,cv,Γ,w,Bq h,.inl rfl,ZS.refl _ _ _,ZG,R,hv⟩
theorem Br:∀ {cells:List ZI} {l:List Int} {cs:List Value},qx cells=some l->cs.length=cells.length->(∀i (_:i<cells.length) (_:i<cs.length),ZL P Γ H w cells[i] cs[i])->cs=l.map (Value.int .u8)
 | [],l,cs,hb,hl,_=>by
  obtain rfl:l=[]:=by simpa[qx] using hb.symm
  exact Vn hl
 |x :: cells,l,[],hb,hl,_=>by simp at hl
 |x :: cells,l,c :: cs,hb,hl,hr=>by
  have h0:=hr 0 ZD ZD;simp only[V7]at h0;unfold qx at hb;split at hb
  ·rename_i hx;cases hx
  ·rename_i n r hx;cases hx;simp only[Vc]at hb;obtain⟨l',hl',rfl⟩:=hb;have hc:c=.int .u8 n:=(by cases h0;rfl);subst hc;have:=Br (cs:=cs) hl' (by simpa using hl) fun i h1 h2=>by
    have:=hr (i+1) (by simp;omega) (by simp;omega);simpa using this
   rw[this];rfl
  ·cases hb
def HF {n:Nat}{cells:List ZI}{l:List Int}(R:ZQ P G Γ H w)(hs:de H 1 x=some (n,cells))(hx:ZL P Γ H w x cx)(hc:∃a m c,cx=.slice a m c)(hb:qx cells=some l):
  (Conv.bytesToString cx).run P w=.ok (.string (A2 l)) w:=by
 obtain⟨h1,h2,cs,h3,h4,h5⟩:=ur R hs hx;have h6:=Br hb h4 h5;obtain⟨a,m,c,rfl⟩:=hc;have hm:m=n:=by
  have h1':(Builtin.lenOf (.slice a m c)).run P w=.ok m w:=rfl;rw[h1']at h1;exact(Result.ok.inj h1).1
 subst hm;cases a with
 |none =>
  have h3':(Builtin.firstCells 1 m (.slice none m c)).run P w=.ok #[] w:=rfl;rw[h3']at h3;have:cs=[]:=by
   have:=(Result.ok.inj h3).1;have h7:=congrArg Array.toList this;simpa using h7.symm
  rw[this]at h6;have hl:l=[]:=by simpa using h6.symm
  subst hl;rfl
 |some a =>
  have h3':(loadCells a m).run P w=.ok cs.toArray w:=by
   have:=h3;unfold Builtin.firstCells at this
   rwa [Nat.mul_one]at this
  rw[h6]at h3';exact run_bytesToString w a m c l h3'
def HG {s d:TypeId}(R:ZQ P G Γ H w)(hx:ZL P Γ H w x cx)(hb:lW P H s d x=some v):cU P G Γ H w v H (do pure (Next.value (<- convert s d cx))):=by
 have bytes:∀y:ZI,ZL P Γ H w y cx->(∀n cells,de H 1 y=some (n,cells)->∃a m c,cx=.slice a m c)->nS P H s d y=some v->cU P G Γ H w v H (do pure (Next.value (<- convert s d cx))):=by
  intro y hy hc hb;unfold nS at hb;split at hb
  ·rename_i hsb;simp only[Vi,Vc]at hb;obtain⟨⟨n,cells⟩,hs,l,hl,rfl⟩:=hb;have hsl:=hc n cells hs;have hrun:=HF R hs hy hsl hl;unfold A3 at hsb;split at hsb
   ·rename_i e h1 h2;split at hsb
    ·rename_i h3;obtain⟨a,m,c,rfl⟩:=hsl;exact cU.same R ((run_convert_bytes_string w s d e a m c h1 h3 h2).trans hrun) (.lit _)
    ·cases hsb
   ·cases hsb
  ·cases hb
 unfold lW at hb;split at hb
 ·rename_i id g o l z;refine bytes _ hx (fun n cells hs=>?_) hb;unfold de at hs;simp only at hs;split at hs
  ·simp only[Vc]at hs;obtain⟨⟨e,cells'⟩,hl,_⟩:=hs;rcases kf hx hl with ⟨b,base,nn,a,cap,hΓ,rfl,_⟩|⟨hΓ,_,_,rfl⟩
   ·exact⟨_,_,_,rfl⟩
   ·exact⟨_,_,_,rfl⟩
  ·cases hs
 ·refine bytes _ hx (fun n cells hs=>?_) hb;cases hx with
  |nw a cap=>exact⟨_,_,_,rfl⟩
  |Q=>exact⟨_,_,_,rfl⟩
 ·unfold lV at hb;split at hb
  ·rename_i a ha;simp only[Vc]at hb;obtain⟨r,hr,rfl⟩:=hb;rw[<- hx.cX ha]at hr;exact cU.same R (oW hr w) (.lit _)
  ·cases hb
def cU.new {s:Sem Value}(h:∃cv Γ' w',s.run P w=.ok cv w'/\ZS Γ H w Γ' H' w'/\H.A<=H'.A/\ZQ P G Γ' H' w'/\ZL P Γ' H' w' v cv):
  cU P G Γ H w v H' (do pure (Next.value (<- s))) :=
 let ⟨cv,Γ',w',h1,h2,h3,h4,h5⟩:=h
 ⟨.value cv,cv,Γ',w',Bq h1,.inl rfl,h2,h3,h4,h5⟩
def Bs {G:Nat->Option (List ZI)}(hev:∀x,ZL P Γ H w (au G ρ x) (f x))(l:List Operand):
  ∀i (_:i<(l.map (au G ρ)).length) (_:i<(l.map f).length),ZL P Γ H w (l.map (au G ρ))[i] (l.map f)[i]:=by
 intro i h1 h2;simp only[Vt];exact hev _
def Bt (hev:∀x,ZL P Γ H w (au G ρ x) (f x))(parts:Array (Nat × Operand)):
  (parts.map fun (p:Nat × Operand)=>(p.1,f p.2)).toList.length=(parts.toList.map fun p=>(p.1,au G ρ p.2)).length /\
  ∀i (h1:i<(parts.toList.map fun p=>(p.1,au G ρ p.2)).length) (h2:i<(parts.map fun (p:Nat × Operand)=>(p.1,f p.2)).toList.length),
   (parts.toList.map fun p=>(p.1,au G ρ p.2))[i].1=(parts.map fun (p:Nat × Operand)=>(p.1,f p.2)).toList[i].1 /\
   ZL P Γ H w (parts.toList.map fun p=>(p.1,au G ρ p.2))[i].2 (parts.map fun (p:Nat × Operand)=>(p.1,f p.2)).toList[i].2:=by
 refine⟨ZD,fun i h1 h2=>?_⟩;simp only[Vt,Wk,XQ];exact⟨trivial,hev _⟩
def Bu (hev:∀x,ZL P Γ H w (au G ρ x) (f x))(o:Option Operand):qD P Γ H w (o.map (au G ρ)) (o.map f):=by
 cases o with
 |none=>trivial
 |some x=>exact hev x
def Bv:∀ {args:List ZI} {vs cs:List Value},qv args=some vs->cs.length=args.length->(∀i (_:i<args.length) (_:i<cs.length),ZL P Γ H w args[i] cs[i])->cs=vs:=by
 intro args
 induction args with
 |nil=>intro vs cs h hl _;simp only[qv,Option.some.injEq]at h;subst h;simpa using hl
 |cons a args ih =>
  intro vs cs h hl hr;simp only[qv,Vi,Vc]at h;obtain⟨x,hx,l,hl2,rfl⟩:=h;cases cs with
  |nil=>simp at hl
  |cons c cs =>
   have h0:=hr 0 ZD ZD;simp only[V7]at h0;rw[h0.cX hx];have:=ih hl2 (by simpa using hl) (fun i a b=>hr (i+1) (by simpa using a) (by simpa using b));rw[this]
def HH {b:Builtin}{ats:Array TypeId}{args:List ZI}{cargs:Array Value}{ty:TypeId}{cs:Array Bool}(R:ZQ P G Γ H w)(h:gT P H id b ats.toList args=some (v,H'))
  (hl:cargs.toList.length=args.length) (hr:∀i (_:i<args.length) (_:i<cargs.toList.length),ZL P Γ H w args[i] cargs.toList[i]):
  cU P G Γ H w v H' (builtin b ats ty cs cargs):=by
 obtain⟨ats⟩:=ats;obtain⟨cargs⟩:=cargs;simp only at h hl hr;unfold gT at h;split at h
 ·rename_i t x;simp only[Vc,Prod.mk.injEq]at h;obtain⟨v',hv,rfl,rfl⟩:=h
  match cargs,hl,hr with
  | [cx],_,hr =>
   obtain⟨cv,h1,h2⟩:=Hi (ty:=ty) hv (hr 0 ZD ZD);exact cU.same R h1 h2
 ·rename_i t u s x
  match cargs,hl,hr with
  | [c1,c2],_,hr=>exact cU.new (Hh R h (hr 0 ZD ZD) (hr 1 ZD ZD))
 ·rename_i t u d x
  match cargs,hl,hr with
  | [c1,c2],_,hr=>exact cU.new (Hn R h (hr 0 ZD ZD) (hr 1 ZD ZD))
 ·rename_i t d
  match cargs,hl,hr with
  | [c1],_,hr=>exact cU.new (Ho R h (hr 0 ZD ZD))
 ·simp only[Vi,Vc,Prod.mk.injEq]at h;obtain⟨vs,hvs,r,hp,rfl,rfl⟩:=h;have:=Bv hvs hl hr;subst this;exact cU.same R (oW hp w) (.lit _)
 ·simp only[Vi,Vc,Prod.mk.injEq]at h;obtain⟨vs,hvs,r,hp,rfl,rfl⟩:=h;have:=Bv hvs hl hr;subst this;exact cU.same R (oW hp w) (.lit _)
 ·cases h
def xY {t:TypeId}{cells:List ZI}(h:iZ P t cells off=some v)(hc:dG P Γ H w cells cs):
  ∃cv,(part t cs off).run P w=.ok cv w/\ZL P Γ H w v cv:=by
 unfold iZ at h;unfold part;split at h
 ·cases h
 ·rename_i d hd;rw[ar (xw hd)];split at h
  ·rename_i ha;split at h
   ·rename_i hle;simp only[Option.some.injEq]at h;subst h;rw[ha,Vf rfl,ar (jq hd)];refine⟨_,rfl,?_⟩;have he:(cs.extract off (off+P.cellsOf t))=((cs.toList.drop off).take (P.cellsOf t)).toArray:=by
     apply Array.ext';simp[List.extract_eq_take_drop]
    rw[he];have hsz:=hc.1;refine .agg (by simp only[Vr,V4,Xa];omega) (fun i h1 h2=>?_);simp only[XN,XO,Wk];simp only[Vr,V4]at h1;exact hc.2 (off+i) V (V)
   ·cases h
  ·rename_i ha;have:qj d=false:=(by simpa using ha);rw[this];simp only[Bool.false_eq_true,if_false];obtain⟨hlt,hv⟩:=VK.1 h;subst hv;obtain⟨cv,h1,h2⟩:=hc.get hlt;rw[h1];exact⟨cv,rfl,h2⟩
def Bw {cells:List ZI}(h:ZL P Γ H w (.agg cells) cv):∃cs:Array Value,cv=.agg cs/\dG P Γ H w cells cs:=by
 cases h with
 | @agg _ cs hcs hrel=>exact⟨cs.toArray,rfl,by simpa using hcs,fun i h1 h2=>by simpa using hrel i h1 (by simpa using h2)⟩
def Bx {t f:Nat}{ft:TypeId}(h:bK P t f=some (off,ft)):∃fs fl i,P.underlying t=some (.struct fs)/\fs[f]?=some fl/\P.info? fl.type=some i/\P.cellsOf fl.type≠0/\off=fl.offset/\ft=fl.type:=by
 unfold bK at h;split at h
 ·rename_i fs hd;split at h
  ·rename_i fl hf;split at h
   ·rename_i hi;obtain⟨i,hi1⟩:=VJ.1 hi.1;simp only[Option.some.injEq,Prod.mk.injEq]at h;exact⟨fs,fl,i,hd,hf,hi1,hi.2,h.1.symm,h.2.symm⟩
   ·cases h
  ·cases h
 ·cases h
def By {t f:Nat}{i:TypeInfo}{a:Addr}(hd:P.underlying t=some (.struct fs))(hf:fs[f]?=some fl)(hi:P.info? fl.type=some i)(h0:P.cellsOf fl.type≠0):
  (Instr.fieldAt t (.pointer (some a)) f).run P w=.ok (.pointer (some (a.add fl.offset))) w:=by
 unfold Instr.fieldAt;rw[ar (cQ hd)];simp only[hf];have sa:(Instr.sureAddr (.pointer (some a))).run P w=.ok a w:=rfl;rw[ar sa];unfold fieldPlace;have:(do if (<- sizeOf fl.type)=0 then partAt a fl.offset fl.byteOffset else pure (a.add fl.offset):Sem Addr).run P w=.ok (a.add fl.offset) w:=by
  rw[ar (run_sizeOf hi),Ve h0];rfl
 rw[ar this];rfl
def Bz {t f:Nat}(hd:P.underlying t=some (.struct fs))(hf:fs[f]?=some fl):
  (Instr.field t (.agg cs) f).run P w=(part fl.type cs fl.offset).run P w:=by
 unfold Instr.field;rw[ar (cQ hd)];simp only[hf];have sa:(asAgg (.agg cs)).run P w=.ok cs w:=rfl;rw[ar sa]
def HI {i:Nat}(h:nU x i=some v)(hx:ZL P Γ H w x cx):∃cv,(Instr.extract cx i).run P w=.ok cv w/\ZL P Γ H w v cv:=by
 cases hx with
 | @nc vs cs hcs hrel =>
  simp only[nU]at h;obtain⟨hlt,hv⟩:=VK.1 h;subst hv;refine⟨cs[i]' V,?_,hrel i hlt V⟩;have:Instr.extract (.tuple cs.toArray) i=(pure (cs[i]' V):Sem Value):=by
   unfold Instr.extract;simp only[List.getElem?_toArray];rw[Vd V]
  rw[this];rfl
 |lit =>
  cases cx with
  |tuple vs =>
   simp only[nU,Vc]at h;obtain⟨r,hr,rfl⟩:=h;refine⟨r,?_,.lit _⟩;have:Instr.extract (.tuple vs) i=(pure r:Sem Value):=by
    unfold Instr.extract;simp[hr]
   rw[this];rfl
  |_=>simp[nU]at h
 |_=>simp[nU]at h
def xZ {o:Oper}(R:ZQ P G Γ H w)(hev:∀x,ZL P Γ H w (au G ρ x) (f x))(h:aq P G ρ H id o.op=some (v,H')):
  cU P G Γ H w v H' (execOp f o):=by
 obtain⟨dst,op,type,pos,after,guard⟩:=o;simp only at h;unfold execOp;cases op with
 |move x =>
  simp only[aq,Option.some.injEq,Prod.mk.injEq]at h;obtain⟨rfl,rfl⟩:=h;exact⟨_,_,Γ,w,rfl,.inl rfl,ZS.refl _ _ _,ZG,R,hev x⟩
 |assign x =>
  simp only[aq,Option.some.injEq,Prod.mk.injEq]at h;obtain⟨rfl,rfl⟩:=h;exact⟨_,_,Γ,w,rfl,.inl rfl,ZS.refl _ _ _,ZG,R,hev x⟩
 |pick c a b =>
  simp only[aq]at h;have hc:=hev c;split at h
  ·rename_i t ht;rw[ht]at hc;simp only[Option.some.injEq,Prod.mk.injEq]at h;obtain⟨rfl,rfl⟩:=h;dsimp only;generalize f c=fc at hc ⊢;cases hc;refine⟨.value (if t then f a else f b),(if t then f a else f b),Γ,w,?_,.inl rfl,ZS.refl _ _ _,ZG,R,?_⟩
   ·cases t<;>rfl
   ·cases t
    ·exact hev b
    ·exact hev a
  ·cases h
 |alloc e =>
  simp only[aq,Vi,Vc,Prod.mk.injEq]at h;obtain⟨z,hz,H1,hlay,rfl,rfl⟩:=h;obtain⟨i,zv,hi,hzv,hsz,hzz,hcells⟩:=qC hz;have hz0:dG P Γ H w z zv.cells:=hzz ▸ dG.lit _;obtain⟨E,hn,R'⟩:=se (c:=zv.cells) R hlay (by rw[hz0.1];exact Nat.le_refl _) (fun i hi=>hz0.get hi);obtain⟨hget,_⟩:=ka hlay;obtain⟨_,_,_,hid⟩:=nL R hlay;refine cU.new ⟨_,_,_,?_,E,hn,R',A8 (by rw[hget,Vf rfl]) hid (aE.eI _ _ _)⟩;unfold Instr.alloc;rw[ar (pj hi hzv)];rfl
 |box e x =>
  simp only[aq,Vc,Prod.mk.injEq]at h;obtain⟨H1,hlay,rfl,rfl⟩:=h;obtain⟨v1,v2⟩:=(hev x).cells;obtain⟨E,hn,R'⟩:=se (c:=(f x).cells) R hlay (by rw[<- v1];simp) (fun i hi=>⟨(f x).cells[i]'(by rw[<- v1]at hi;simpa using hi),Vo _,by
   have:=v2 i hi (by rw[v1];exact hi);simpa using this⟩)
  obtain⟨hget,_⟩:=ka hlay;obtain⟨_,_,_,hid⟩:=nL R hlay;exact cU.new ⟨_,_,_,rfl,E,hn,R',A8 (by rw[hget,Vf rfl]) hid (aE.eI _ _ _)⟩
 |build t parts =>
  simp only[aq,Vc,Prod.mk.injEq]at h;obtain⟨v',hb,rfl,rfl⟩:=h;obtain⟨p1,p2⟩:=Bt hev parts;obtain⟨cv,h1,h2⟩:=GZ (w:=w) hb p1 p2;exact cU.same R h1 h2
 |buildSlice t len parts =>
  simp only[aq]at h;obtain⟨p1,p2⟩:=Bt hev parts;exact cU.new (G1 R h p1 p2)
 |load t a =>
  simp only[aq,Vc,Prod.mk.injEq]at h;obtain⟨v',hb,rfl,rfl⟩:=h;obtain⟨cv,h1,h2⟩:=GT R hb (hev a);exact cU.same R h1 h2
 |store t a x =>
  simp only[aq]at h;split at h
  ·rename_i hu;obtain⟨d,hd⟩:=VJ.1 hu;simp only[Vc,Prod.mk.injEq]at h;obtain⟨H1,hst,rfl,rfl⟩:=h;obtain⟨w',h1,h2,h3,h4⟩:=GU R hst (ud hd) (hev a) (hev x);exact⟨.skip,undef,Γ,w',uw h1,.inr ⟨rfl,rfl⟩,h2,h3,h4,.lit _⟩
  ·cases h
 |nilCheck x =>
  simp only[aq,Vc,Prod.mk.injEq]at h;obtain⟨v',hb,rfl,rfl⟩:=h;have hx:=hev x;unfold lX at hb;split at hb
  ·rename_i id' gen off hx';simp only[Vc]at hb;obtain⟨⟨e,cells⟩,hl,rfl⟩:=hb;rw[hx']at hx;obtain⟨b,base,n,hΓ,hcv⟩:=qy hx hl;simp only[hcv]at hx ⊢;exact⟨_,_,Γ,w,rfl,.inl rfl,ZS.refl _ _ _,ZG,R,hx⟩
  ·rename_i cells off hx';simp only[Option.some.injEq]at hb;subst hb;rw[hx']at hx;dsimp only;generalize f x=fx at hx ⊢;cases hx with
   |ni a b c d e=>exact⟨_,_,Γ,w,rfl,.inl rfl,ZS.refl _ _ _,ZG,R,.ni a b c d e⟩
  ·rename_i ff a b hx';simp only[Option.some.injEq]at hb;subst hb;rw[hx']at hx;dsimp only;generalize f x=fx at hx ⊢;cases hx with
   |X a b c d=>exact⟨_,_,Γ,w,rfl,.inl rfl,ZS.refl _ _ _,ZG,R,.X a b c d⟩
  ·cases hb
 |binOp op t x y u =>
  simp only[aq,Vc,Prod.mk.injEq]at h;obtain⟨v',hb,rfl,rfl⟩:=h;unfold aV at hb;split at hb
  ·rename_i a b ha hb';simp only[Vc]at hb;obtain⟨r,hr,rfl⟩:=hb;rw[<- (hev x).cX ha,<- (hev y).cX hb']at hr;exact cU.same R (oW hr w) (.lit _)
  ·cases hb
 |unOp op t x =>
  simp only[aq,Vc,Prod.mk.injEq]at h;obtain⟨v',hb,rfl,rfl⟩:=h;unfold qw at hb;split at hb
  ·rename_i a ha;simp only[Vc]at hb;obtain⟨r,hr,rfl⟩:=hb;rw[<- (hev x).cX ha]at hr;exact cU.same R (oW hr w) (.lit _)
  ·cases hb
 |convert s d x =>
  simp only[aq,Vc,Prod.mk.injEq]at h;obtain⟨v',hb,rfl,rfl⟩:=h;exact HG R (hev x) hb
 |makeInterface t x =>
  simp only[aq]at h;split at h
  ·rename_i a ha;simp only[Vc,Prod.mk.injEq]at h;obtain⟨r,hr,rfl,rfl⟩:=h;rw[<- (hev x).cX ha]at hr;exact cU.same R (oW hr w) (.lit _)
  ·cases h
 |makeFunc fn first captured =>
  simp only[aq]at h;split at h
  ·simp only[Option.some.injEq,Prod.mk.injEq]at h;obtain⟨rfl,rfl⟩:=h;refine cU.same R (cv:=.func (.func _) (first.map f) (captured.map f)) rfl ?_;have e1:first.map f=(first.toList.map f).toArray:=(by rw[<- Y0,YL]);have e2:captured.map f=(captured.toList.map f).toArray:=(by rw[<- Y0,YL]);rw[e1,e2];exact .X ZD ZD (Bs hev _) (Bs hev _)
  ·cases h
 |makeSlice t l c =>
  simp only[aq]at h;exact cU.new (G3 R h (hev l) (hev c))
 |slice t x lo hi mx =>
  simp only[aq]at h;split at h
  ·simp only[Vc,Prod.mk.injEq]at h;obtain⟨v',hb,rfl,rfl⟩:=h;obtain⟨cv,h1,h2⟩:=Hd R hb (hev x) (Bu hev lo) (Bu hev hi);exact cU.same R h1 h2
  ·cases h
 |fieldAddr s x fi =>
  simp only[aq,Vi]at h;obtain⟨⟨off,ft⟩,hf,h⟩:=h;obtain⟨fs,fl,i,hd,hfl,hi,h0,rfl,rfl⟩:=Bx hf;have hx:=hev x;split at h
  ·rename_i id' gen off' hx';simp only[Vc,Prod.mk.injEq]at h;obtain⟨⟨e,cells⟩,hl,rfl,rfl⟩:=h;rw[hx']at hx;obtain⟨a,ha,hr⟩:=Bd (k:=fl.offset) hx hl;simp only[ha];exact cU.same R (By hd hfl hi h0) hr
  ·rename_i cells off' hx';simp only[Option.some.injEq,Prod.mk.injEq]at h;obtain⟨rfl,rfl⟩:=h;rw[hx']at hx;obtain⟨a,ha,hr⟩:=Be (k:=fl.offset) hx;simp only[ha];exact cU.same R (By hd hfl hi h0) hr
  ·cases h
 |field t x fi =>
  simp only[aq,Vi]at h;obtain⟨⟨off,ft⟩,hf,h⟩:=h;obtain⟨fs,fl,i,hd,hfl,hi,h0,rfl,rfl⟩:=Bx hf;have hx:=hev x;split at h
  ·rename_i cells hx';simp only[Vc,Prod.mk.injEq]at h;obtain⟨v',hp,rfl,rfl⟩:=h;rw[hx']at hx;obtain⟨cs,hcv,hrl⟩:=Bw hx;obtain⟨cv,h1,h2⟩:=xY hp hrl;simp only[hcv];exact cU.same R ((Bz hd hfl).trans h1) h2
  ·rename_i cs hx';simp only[Vc,Prod.mk.injEq]at h;obtain⟨v',hp,rfl,rfl⟩:=h;rw[hx']at hx;obtain⟨cv,h1,h2⟩:=xY hp (dG.lit (P:=P) (Γ:=Γ) (H:=H) (w:=w) cs);dsimp only;generalize f x=fx at hx ⊢;cases hx;exact cU.same R ((Bz hd hfl).trans h1) h2
  ·cases h
 |indexAddr t x i =>
  simp only[aq]at h;have hi:=hev i;split at h
  ·rename_i k n hi';simp only[Vc,Prod.mk.injEq]at h;obtain⟨v',hb,rfl,rfl⟩:=h;rw[hi']at hi;have:f i=.int k n:=by
    generalize f i=fi at hi;cases hi;rfl
   simp only[this];obtain⟨cv,h1,h2⟩:=G4 (w:=w) (k:=k) hb (hev x);exact cU.same R h1 h2
  ·cases h
 |index t x i =>
  simp only[aq,Vc,Prod.mk.injEq]at h;obtain⟨v',hb,rfl,rfl⟩:=h;have hx:=hev x;have hi:=hev i;unfold oZ at hb;split at hb
  ·rename_i cells k n hx' hi';rw[hx']at hx;rw[hi']at hi;have hfi:f i=.int k n:=by
    generalize f i=fi at hi;cases hi;rfl
   obtain⟨cs,hcv,hrl⟩:=Bw hx;split at hb
   ·rename_i len e hd;split at hb
    ·rename_i hn;obtain⟨cv,h1,h2⟩:=xY hb hrl;simp only[hcv,hfi];refine cU.same R ?_ h2;unfold Instr.index;rw[ar (xT k n)];simp only;rw[ar (cQ hd)];simp only;rw[Vf hn];have:∃d,P.underlying e=some d:=by
      unfold iZ at hb;split at hb
      ·cases hb
      ·rename_i d hd';exact⟨d,hd'⟩
     obtain⟨d,hde⟩:=this;rw[ar (jq hde)];exact h1
    ·cases hb
   ·cases hb
  ·rename_i vx vi hx' hi';rw[hx']at hx;rw[hi']at hi;simp only[Vc]at hb;obtain⟨r,hr,rfl⟩:=hb;have h1:f x=vx:=by
    generalize f x=fx at hx;cases hx;rfl
   have h2:f i=vi:=by
    generalize f i=fx at hi;cases hi;rfl
   simp only[h1,h2];exact cU.same R (oW hr w) (.lit _)
  ·cases hb
 |extract t i =>
  simp only[aq,Vc,Prod.mk.injEq]at h;obtain⟨v',hb,rfl,rfl⟩:=h;obtain⟨cv,h1,h2⟩:=HI (w:=w) hb (hev t);exact cU.same R h1 h2
 |call c =>
  simp only[aq]at h;obtain⟨callee,args,ats⟩:=c;split at h
  ·rename_i b hb;simp only at hb h;subst hb;have:=HH (ty:=type) (cs:=args.map fun|.const _=>true|_=>false) (cargs:=args.map f) R h ZD (fun i h1 h2=>by
    simp only[Vt,Wk,XQ];exact hev _)
   exact this
  ·cases h
 |makeMap t r =>
  simp only[aq]at h;split at h
  ·simp only[Vc,Prod.mk.injEq]at h;obtain⟨H1,hlay,rfl,rfl⟩:=h;obtain⟨E,hn,R'⟩:=GR R hlay;obtain⟨hget,_⟩:=ka hlay;obtain⟨_,_,_,hid⟩:=nL R hlay;refine cU.new ⟨.map (some w.heap.size),_,_,?_,E,hn,R',.nk ⟨hid,rfl,by rw[hget,Vf rfl];simp,fun st pend n env ps asg body hg=>(by rw[hget,Vf rfl]at hg;cases hg),fun es hg=>⟨_,aE.eI _ _ _,rfl⟩⟩⟩;rfl
  ·cases h
 |lookup t x i ok =>
  simp only[aq,Vc,Prod.mk.injEq]at h;obtain⟨v',hb,rfl,rfl⟩:=h;obtain⟨cv,h1,h2⟩:=HC R hb (hev x) (hev i);exact cU.same R h1 h2
 |mapUpdate t m k x =>
  simp only[aq]at h;obtain⟨Γ',w',h1,h2,h3,h4,rfl⟩:=Bp R h (hev m) (hev k) (hev x);exact⟨.skip,undef,Γ',w',uw h1,.inr ⟨rfl,rfl⟩,h2,h3,h4,.lit _⟩
 |insert t m k x =>
  simp only[aq]at h;obtain⟨Γ',w',h1,h2,h3,h4,rfl⟩:=Bp R h (hev m) (hev k) (hev x);exact⟨.skip,undef,Γ',w',uw h1,.inr ⟨rfl,rfl⟩,h2,h3,h4,.lit _⟩
 |mapEntry t m k =>
  simp only[aq]at h;exact cU.new (HD R h (hev m) (hev k))
 |entryStore t m s x =>
  simp only[aq]at h;obtain⟨Γ',w',h1,h2,h3,h4,rfl⟩:=HE (t:=t) R h (hev m) (hev s) (hev x);exact⟨.skip,undef,Γ',w',uw h1,.inr ⟨rfl,rfl⟩,h2,h3,h4,.lit _⟩
 |_=>simp[aq]at h
end Go.Hx
namespace Go.Hx
variable {P:Program} {G:Nat->Option (List ZI)} {Γ Γ':aE} {H H':ZH} {w w':World}
variable {a b:Act}{lo:Nat}{ch:Nat->Bool}
structure St where
 ρ:Env
 H:ZH
inductive AX where
 |normal
 |exit (id:Nat)
 |goto (l:Nat)
 |ret
 |panic
def x7 (chain:List PanicEntry):Prop:=∃t v,chain=[{ v:=.iface t v,recovered:=false }]
def x8:Exit->AX->Prop
 |.normal,.normal=>True
 |.exit i,.exit j=>i=j
 |.goto i,.goto j=>i=j
 |.ret,.ret=>True
 |.panic chain,.panic=>x7 chain
 |_,_=>False
structure nnl where
 lo:Nat
 ds:List Deferred
def Marks (lo:Nat)(Γ:aE)(w:World)(m:List Deferred):Prop :=
 (∀d,d∈m->∃r,d={ target:=.collected r,args:=#[] }/\lo<=r/\qg Γ w r)/\m.Pairwise (fun d e=>d.target≠e.target)
theorem Marks.nil :Marks lo Γ w []:=⟨fun _ h=>(by cases h),.nil⟩
theorem Marks.aZ {m:List Deferred}(h:Marks lo Γ w m)(E:ZS Γ H w Γ' H' w'):Marks lo Γ' w' m :=
 ⟨fun d hd=>let ⟨r,h1,h2,h3⟩:=h.1 d hd;⟨r,h1,h2,h3.aZ E⟩,h.2⟩
def sD (wb:nnl)(Γ:aE)(w:World)(l:List Deferred):Prop:=∃m,l=m++wb.ds/\Marks wb.lo Γ w m
theorem sD.aZ {wb:nnl}{l:List Deferred}(h:sD wb Γ w l)(E:ZS Γ H w Γ' H' w'):sD wb Γ' w' l :=
 let ⟨m,h1,h2⟩:=h;⟨m,h1,h2.aZ E⟩
structure ZY (P:Program)(G:Nat->Option (List ZI))(n:Nat)(wb:nnl)(Γ:aE)(s:St)(a:Act)(w:World):Prop where
 size:a.tmps.size=n
 env:∀t,ZL P Γ s.H w (s.ρ t) (a.tmps.getD t undef)
 heap:ZQ P G Γ s.H w
 defers:sD wb Γ w a.defers
 low:wb.lo<=w.heap.size
def dP (Γ:aE)(H:ZH):Option Nat->Option Nat->Prop
 |none,rb=>rb=none
 |some id,rb=>∃b st pend n env ps asg body,rb=some b/\Γ id=some (b,0,0)/\H.get id=some (.loop st pend n env ps asg body)
def fK (H:ZH):Option Nat->Prop
 |none=>True
 |some id=>∃st pend n env ps asg body,H.get id=some (.loop st pend n env ps asg body)
abbrev ea (rb:Option Nat):Fence:={ Fence.wide with round:=rb }
def wr:Code->Nat->Bool
 |.region _ ops _,t=>ops.toList.any fun o=>o.dst == some t
 |.seq a b,t|.cond _ a b,t=>wr a t ||wr b t
 |.block _ c,t|.loop c,t|.scope c,t=>wr c t
 |_,_=>false
def Fr (ch:Nat->Bool)(a a':Act):Prop:=∀t,ch t=false->a'.tmps[t]?=a.tmps[t]?
def Fr.refl (ch:Nat->Bool)(a:Act):Fr ch a a:=fun _ _=>rfl
theorem Fr.trans {c:Act}(h:Fr ch a b)(k:Fr ch b c):Fr ch a c:=fun t ht=>(k t ht).trans (h t ht)
def Fr.mono {ch':Nat->Bool}(h:Fr ch a b)(hc:∀t,ch' t=false->ch t=false):Fr ch' a b:=fun t ht=>h t (hc t ht)
def iy (P:Program)(G:Nat->Option (List ZI))(n:Nat)(wb:nnl)(rd rb:Option Nat)(ch:Nat->Bool)(Γ:aE)(H:ZH)(a:Act)(w:World)(Q:AX->St->Prop)(e:Exit)(a':Act)(w':World):Prop :=
 ∃x s' Γ',x8 e x/\Q x s'/\ZY P G n wb Γ' s' a' w'/\ZS Γ H w Γ' s'.H w'/\H.A<=s'.H.A/\dP Γ' s'.H rd rb/\Fr ch a a'
def W (P:Program)(G:Nat->Option (List ZI))(n:Nat)(rd:Option Nat)(c:Code)(Q:AX->St->Prop)(s:St):Prop :=
 ∀wb Γ a w rb,ZY P G n wb Γ s a w->dP Γ s.H rd rb->c.wpIn (ea rb) 0 P (iy P G n wb rd rb (wr c) Γ s.H a w Q) a w
def kP (K:St->Prop)(Q:AX->St->Prop):AX->St->Prop
 |.normal,s=>K s
 |x,s=>Q x s
def mK (id:Nat)(Q:AX->St->Prop):AX->St->Prop
 |.exit i,s=>if i=id then Q .normal s else Q (.exit i) s
 |x,s=>Q x s
section rules
variable {n:Nat} {rd:Option Nat} {Q Q':AX->St->Prop} {s:St}
def iy.mono {wb:nnl}{rb:Option Nat}{ch:Nat->Bool}{e:Exit}{a a':Act}(h:iy P G n wb rd rb ch Γ H a w Q e a' w')(hq:∀x s,Q x s->Q' x s):iy P G n wb rd rb ch Γ H a w Q' e a' w' :=
 let ⟨x,s',Γ',h1,h2,h3⟩:=h;⟨x,s',Γ',h1,hq _ _ h2,h3⟩
def iy.step {wb:nnl}{rb:Option Nat}{ch ch':Nat->Bool}{e:Exit}{a a₁ a':Act}{w₁:World}{H₁:ZH}{Γ₁:aE}(E:ZS Γ H w Γ₁ H₁ w₁)(hn:H.A<=H₁.A)(hf:Fr ch' a a₁)
  (h:iy P G n wb rd rb ch Γ₁ H₁ a₁ w₁ Q e a' w') (hc:∀t,ch' t=false->ch t=false):iy P G n wb rd rb ch' Γ H a w Q e a' w' :=
 let ⟨x,s',Γ',h1,h2,h3,h4,h5,h6,h7⟩:=h;⟨x,s',Γ',h1,h2,h3,E.trans hn h4,VO hn h5,h6,hf.trans (h7.mono hc)⟩
theorem W.mono {c:Code}(h:W P G n rd c Q s)(hq:∀x s,Q x s->Q' x s):W P G n rd c Q' s :=
 fun wb Γ a w rb hs hr=>wpIn_mono (h wb Γ a w rb hs hr) fun _ _ _ hp=>hp.mono hq
def iy.here {wb:nnl}{rb:Option Nat}{ch:Nat->Bool}{e:Exit}{a:Act}{x:AX}(hx:x8 e x)(h:Q x s)(hs:ZY P G n wb Γ s a w)(hr:dP Γ s.H rd rb):
  iy P G n wb rd rb ch Γ s.H a w Q e a w:=⟨x,s,Γ,hx,h,hs,ZS.refl _ _ _,ZG,hr,.refl _ _⟩
theorem W.skip (h:Q .normal s):W P G n rd .skip Q s:=fun _ _ _ _ _ hs hr=>wpIn_skip (.here (x:=.normal) trivial h hs hr)
theorem W.label {l:Nat}(h:Q .normal s):W P G n rd (.label l) Q s:=fun _ _ _ _ _ hs hr=>wpIn_label (.here (x:=.normal) trivial h hs hr)
theorem W.exit {id:Nat}(h:Q (.exit id) s):W P G n rd (.exit id) Q s:=fun _ _ _ _ _ hs hr=>wpIn_exit (.here (x:=.exit id) rfl h hs hr)
theorem W.goto {l:Nat}(h:Q (.goto l) s):W P G n rd (.goto l) Q s:=fun _ _ _ _ _ hs hr=>wpIn_goto (.here (x:=.goto l) rfl h hs hr)
theorem W.ret (h:Q .ret s):W P G n rd .ret Q s:=fun _ _ _ _ _ hs hr=>wpIn_ret (.here (x:=.ret) trivial h hs hr)
def BA {x y:Bool}(h:(x ||y)=false):x=false:=by cases x<;>simp_all
def BB {x y:Bool}(h:(x ||y)=false):y=false:=by cases x<;>simp_all
theorem W.seq {x y:Code}(h:W P G n rd x (kP (W P G n rd y Q) Q) s):W P G n rd (.seq x y) Q s:=by
 intro wb Γ a w rb hs hr;refine wpIn_seq (wpIn_mono (h wb Γ a w rb hs hr) ?_);rintro e a' w' ⟨x',s',Γ',hx,hq,hs',E,hn,hr',hf⟩;have hf':Fr (wr (.seq x y)) a a':=hf.mono fun t ht=>BA ht;cases e with
 |normal =>
  cases x' with
  |normal=>exact wpIn_mono (hq wb Γ' a' w' rb hs' hr') fun _ _ _ hp=>hp.step E hn hf' fun t ht=>BB ht
  |_=>exact hx.elim
 |exit i=>cases x' with
  |exit j=>exact⟨_,s',Γ',hx,hq,hs',E,hn,hr',hf'⟩
  |_=>exact hx.elim
 |goto i=>cases x' with
  |goto j=>exact⟨_,s',Γ',hx,hq,hs',E,hn,hr',hf'⟩
  |_=>exact hx.elim
 |ret=>cases x' with
  |ret=>exact⟨_,s',Γ',hx,hq,hs',E,hn,hr',hf'⟩
  |_=>exact hx.elim
 |panic c=>cases x' with
  |panic=>exact⟨_,s',Γ',hx,hq,hs',E,hn,hr',hf'⟩
  |_=>exact hx.elim
 |outgrown=>cases x'<;>exact hx.elim
def jt {wb:nnl}{a:Act}(hs:ZY P G n wb Γ s a w)(x:Operand):ZL P Γ s.H w (au G s.ρ x) (a.eval x):=by
 cases x with
 |tmp t=>exact hs.env t
 |const v=>exact .lit v
 |global g =>
  simp only[au,Act.eval];cases hg:G g with
  |none=>exact .lit _
  |some cells=>exact hs.heap.nE g cells hg
 |func f=>exact ZL.X (fs:=[]) (cs:=[]) rfl rfl (fun i h _=>absurd h (Vs _)) (fun i h _=>absurd h (Vs _))
theorem W.cond {c:Operand}{x y:Code}{t:Bool}(hc:au G s.ρ c=.lit (.bool t))(h:W P G n rd (if t then x else y) Q s):W P G n rd (.cond c x y) Q s:=by
 intro wb Γ a w rb hs hr;have he:=jt hs c;rw[hc]at he;have:a.eval c=.bool t:=by
  generalize a.eval c=v at he;cases he;rfl
 refine wpIn_cond this (wpIn_mono (h wb Γ a w rb hs hr) ?_);rintro e a' w' ⟨x',s',Γ',h1,h2,h3,h4,h5,h6,h7⟩;refine⟨x',s',Γ',h1,h2,h3,h4,h5,h6,h7.mono fun i hi=>?_⟩;cases t with
 |true=>exact BA hi
 |false=>exact BB hi
theorem W.block {id:Nat}{c:Code}(h:W P G n rd c (mK id Q) s):W P G n rd (.block id c) Q s:=by
 intro wb Γ a w rb hs hr;refine wpIn_block (wpIn_mono (h wb Γ a w rb hs hr) ?_);rintro e a' w' ⟨x,s',Γ',hx,hq,hrest⟩;cases e with
 |exit i =>
  cases x with
  |exit j =>
   obtain rfl:i=j:=hx;simp only[Exit.inBlock];simp only[mK]at hq;split
   ·rename_i hi;rw[Vf hi]at hq;exact⟨.normal,s',Γ',trivial,hq,hrest⟩
   ·rename_i hi;rw[Ve hi]at hq;exact⟨.exit i,s',Γ',rfl,hq,hrest⟩
  |_=>exact hx.elim
 |normal=>cases x with
  |normal=>exact⟨_,s',Γ',hx,hq,hrest⟩
  |_=>exact hx.elim
 |goto i=>cases x with
  |goto j=>exact⟨_,s',Γ',hx,hq,hrest⟩
  |_=>exact hx.elim
 |ret=>cases x with
  |ret=>exact⟨_,s',Γ',hx,hq,hrest⟩
  |_=>exact hx.elim
 |panic c=>cases x with
  |panic=>exact⟨_,s',Γ',hx,hq,hrest⟩
  |_=>exact hx.elim
 |outgrown=>cases x<;>exact hx.elim
def eZ (P:Program)(G:Nat->Option (List ZI))(s s':St):Prop :=
 ∀n wb Γ a w,ZY P G n wb Γ s a w->∃ Γ',ZY P G n wb Γ' s' a w/\ZS Γ s.H w Γ' s'.H w /\
  (∀rd rb,dP Γ s.H rd rb->fK s'.H rd->dP Γ' s'.H rd rb)
theorem eZ.refl (s:St):eZ P G s s:=fun _ _ Γ _ _ h=>⟨Γ,h,ZS.refl _ _ _,fun _ _ h _=>h⟩
def mask (ws:Nat)(ρ ρ₀:Env):Env:=fun t=>if ws / 2 ^ t % 2=1 then ρ t else ρ₀ t
def mL (ws:Nat):Code->Bool
 |.region _ ops _=>ops.toList.all fun o=>match o.dst with|some d=>ws / 2 ^ d % 2 == 1|none=>true
 |.seq a b|.cond _ a b=>mL ws a && mL ws b
 |.block _ c|.loop c|.scope c=>mL ws c
 |_=>true
def HJ {ws:Nat}{t:Nat}(ht:¬ws / 2 ^ t % 2=1):∀ {c:Code},mL ws c=true->wr c t=false:=by
 intro c
 induction c with
 |region id ops d =>
  intro h;simp only[mL,VG]at h;simp only[wr,Yu];intro o ho hd;have:=h o ho;have hd':o.dst=some t:=by simpa using hd
  rw[hd']at this;simp only[beq_iff_eq]at this;exact ht this
 |seq a b iha ihb=>intro h;simp only[mL,VI]at h;simp only[wr,iha h.1,ihb h.2];rfl
 |cond x a b iha ihb=>intro h;simp only[mL,VI]at h;simp only[wr,iha h.1,ihb h.2];rfl
 |block id c ih=>intro h;exact ih h
 |loop c ih=>intro h;exact ih h
 |scope c ih=>intro h;exact ih h
 |_=>intro _;rfl
theorem W.loop {c:Code}(ws:Nat)(hws:mL ws c=true)(I:Env->ZH->Prop)(μ:Env->ZH->Nat)(h0:I s.ρ s.H)
  (round:∀ ρ H,I ρ H->W P G n rd c (kP (fun s₂=>∃s₃,eZ P G s₂ s₃/\s.H.A<=s₃.H.A/\fK s₃.H rd/\I (mask ws s₃.ρ s.ρ) s₃.H/\μ (mask ws s₃.ρ s.ρ) s₃.H<μ (mask ws ρ s.ρ) H) Q) ⟨mask ws ρ s.ρ,H⟩):W P G n rd (.loop c) Q s:=by
 intro wb Γ a w rb hs hr
 let ig:Env->ZH->Act->World->Prop:=fun ρ H a₁ w₁=>∃ Γ₁,I ρ H/\ZY P G n wb Γ₁ ⟨mask ws ρ s.ρ,H⟩ a₁ w₁/\ZS Γ s.H w Γ₁ H w₁/\s.H.A<=H.A/\dP Γ₁ H rd rb/\Fr (wr c) a a₁
 let ex:Act->World->Prop:=fun a₁ w₁=>∃k ρ H,ig ρ H a₁ w₁/\μ (mask ws ρ s.ρ) H=k
 let m:Act->World->Nat:=fun a₁ w₁=>Classical.epsilon fun k=>(∃ ρ H,ig ρ H a₁ w₁/\μ (mask ws ρ s.ρ) H=k)/\∀j,(∃ ρ H,ig ρ H a₁ w₁/\μ (mask ws ρ s.ρ) H=j)->k<=j
 have least:∀(p:Nat->Prop),(∃k,p k)->∃k,p k/\∀j,p j->k<=j:=by
  intro p ⟨k,hk⟩
  induction k using Nat.strongRecOn with
  |_ k ih =>
   by_cases h:∃j,j<k/\p j
   ·obtain⟨j,hj,hp⟩:=h;exact ih j hj hp
   ·exact⟨k,hk,fun j hj=>Yy fun hlt=>h ⟨j,hlt,hj⟩⟩
 have mspec:∀a₁ w₁,ex a₁ w₁->(∃ ρ H,ig ρ H a₁ w₁/\μ (mask ws ρ s.ρ) H=m a₁ w₁)/\∀j,(∃ ρ H,ig ρ H a₁ w₁/\μ (mask ws ρ s.ρ) H=j)->m a₁ w₁<=j:=by
  intro a₁ w₁ h;exact Classical.epsilon_spec (p:=fun k=>(∃ ρ H,ig ρ H a₁ w₁/\μ (mask ws ρ s.ρ) H=k)/\∀j,(∃ ρ H,ig ρ H a₁ w₁/\μ (mask ws ρ s.ρ) H=j)->k<=j) (least _ h)
 have mask0:mask ws s.ρ s.ρ=s.ρ:=by
  funext t
  unfold mask;split<;>rfl
 have mask2:∀ ρ,mask ws (mask ws ρ s.ρ) s.ρ=mask ws ρ s.ρ:=by
  intro ρ
  funext t
  unfold mask;by_cases h:ws / 2 ^ t % 2=1
  ·rw[Vf h,Vf h]
  ·rw[Ve h,Ve h]
 refine wpIn_mono (Q:=fun e a' w'=>iy P G n wb rd rb (wr c) Γ s.H a w Q e a' w') ?_ fun _ _ _ hp=>hp;refine wpIn_loop ex m ⟨_,s.ρ,s.H,⟨Γ,h0,by rw[mask0];exact hs,ZS.refl _ _ _,ZG,hr,.refl _ _⟩,rfl⟩ ?_;intro a₁ w₁ hex;obtain⟨⟨ρ,H,⟨Γ₁,hI,hs₁,E₁,hn₁,hr₁,hf₁⟩,hm⟩,hmin⟩:=mspec a₁ w₁ hex;refine wpIn_mono (round ρ H hI wb Γ₁ a₁ w₁ rb hs₁ hr₁) ?_;rintro e a' w' ⟨x,s',Γ',hx,hq,hs',E,hn,hr',hf⟩;have hf':=hf₁.trans hf;cases e with
 |normal =>
  cases x with
  |normal =>
   obtain⟨s₃,hw,hn3,hri,hI3,hlt⟩:=hq;obtain⟨Γ₃,hs₃,E₃,hrd⟩:=hw n wb Γ' a' w' hs';have E₄:ZS Γ s.H w Γ₃ s₃.H w':=(E₁.trans hn₁ E).trans (VO hn₁ hn) E₃;have hs₄:ZY P G n wb Γ₃ ⟨mask ws (mask ws s₃.ρ s.ρ) s.ρ,s₃.H⟩ a' w':=by
    rw[mask2];refine⟨hs₃.size,fun t=>?_,hs₃.heap,hs₃.defers,hs₃.low⟩;show ZL P Γ₃ s₃.H w' (if ws / 2 ^ t % 2=1 then s₃.ρ t else s.ρ t) _;by_cases ht:ws / 2 ^ t % 2=1
    ·rw[Vf ht];exact hs₃.env t
    ·rw[Ve ht];have hsame:=hf' t (HJ ht hws);have:a'.tmps.getD t undef=a.tmps.getD t undef:=by
      simp only[V0,hsame]
     rw[this];exact(hs.env t).aZ E₄ hn3
   have hg:ig (mask ws s₃.ρ s.ρ) s₃.H a' w':=⟨Γ₃,hI3,hs₄,E₄,hn3,hrd rd rb hr' hri,hf'⟩
   have hex':ex a' w':=⟨_,_,_,hg,rfl⟩
   refine⟨hex',W5 ((mspec a' w' hex').2 _ ⟨_,_,hg,rfl⟩) ?_⟩;rw[<- hm,mask2];exact hlt
  |_=>exact hx.elim
 |exit i=>cases x with
  |exit j=>exact⟨_,s',Γ',hx,hq,hs',E₁.trans hn₁ E,VO hn₁ hn,hr',hf'⟩
  |_=>exact hx.elim
 |goto i=>cases x with
  |goto j=>exact⟨_,s',Γ',hx,hq,hs',E₁.trans hn₁ E,VO hn₁ hn,hr',hf'⟩
  |_=>exact hx.elim
 |ret=>cases x with
  |ret=>exact⟨_,s',Γ',hx,hq,hs',E₁.trans hn₁ E,VO hn₁ hn,hr',hf'⟩
  |_=>exact hx.elim
 |panic c=>cases x with
  |panic=>exact⟨_,s',Γ',hx,hq,hs',E₁.trans hn₁ E,VO hn₁ hn,hr',hf'⟩
  |_=>exact hx.elim
 |outgrown=>cases x<;>exact hx.elim
def W.aT {c:Code}(ws:Nat)(hws:mL ws c=true)(I:Env->ZH->Prop)(μ:Env->ZH->Nat)(h0:I s.ρ s.H)
  (round:∀ ρ H,I ρ H->W P G n rd c (kP (fun s₂=>s.H.A<=s₂.H.A/\fK s₂.H rd/\I (mask ws s₂.ρ s.ρ) s₂.H/\μ (mask ws s₂.ρ s.ρ) s₂.H<μ (mask ws ρ s.ρ) H) Q) ⟨mask ws ρ s.ρ,H⟩):W P G n rd (.loop c) Q s :=
 W.loop ws hws I μ h0 fun ρ H hI=>(round ρ H hI).mono fun x s' hx=>by
  cases x with
  |normal=>exact⟨s',eZ.refl s',hx⟩
  |_=>exact hx
def W.BC {c:Code}{s':St}(hw:eZ P G s s')(hn:s.H.A<=s'.H.A)(hri:fK s'.H rd)(h:W P G n rd c Q s'):W P G n rd c Q s:=by
 intro wb Γ a w rb hs hr;obtain⟨Γ',hs',E,hrd⟩:=hw n wb Γ a w hs;exact wpIn_mono (h wb Γ' a w rb hs' (hrd rd rb hr hri)) fun _ _ _ hp=>hp.step E hn (.refl _ _) fun _ h=>h
end rules
end Go.Hx
namespace Go.Hx
variable {P:Program} {G:Nat->Option (List ZI)} {Γ Γ':aE} {H H':ZH} {w w':World}
variable {a:Act}{f:FuncId}{args:List ZI}{id n:Nat}{rb rd:Option Nat}{cv v:Value}{wb:nnl}
inductive ZN where
 |ret (v:ZI)
 |panic
def HK (P:Program)(Γ:aE)(H:ZH)(w:World):Ending->ZN->Prop
 |.returned cv,.ret v=>ZL P Γ H w v cv
 |.panicked chain,.panic=>x7 chain
 |_,_=>False
def fL (P:Program)(G:Nat->Option (List ZI))(Γ:aE)(H:ZH)(w:World)(K:ZN->ZH->Prop)(e:Ending)(w':World):Prop :=
 ∃r H' Γ',HK P Γ' H' w' e r/\K r H'/\ZQ P G Γ' H' w'/\ZS Γ H w Γ' H' w'/\H.A<=H'.A
def ae (P:Program)(G:Nat->Option (List ZI))(f:FuncId)(args:List ZI)(H:ZH)(K:ZN->ZH->Prop):Prop :=
  (∃ fn, P.funcs[f]? = some fn ∧ fn.body.isNone = false ∧ (fn.name == "runtime.NumGoroutine") = false) ∧
 ∀ Γ w cargs,ZQ P G Γ H w->dG P Γ H w args cargs->CallsIn Fence.wide 0 P f cargs w (fL P G Γ H w K)
def ao (P:Program)(G:Nat->Option (List ZI))(fv:ZI)(args:List ZI)(H:ZH)(K:ZN->ZH->Prop):Prop :=
 ∀ Γ w cfv cargs,ZQ P G Γ H w->ZL P Γ H w fv cfv->dG P Γ H w args cargs ->
  ∃d,(Deferred.ofValue cfv cargs).run P w=.ok d w /\
   ((∃f as,(invoke d.target d.args).run P w=.ok (.enter f as) w/\CallsIn Fence.wide 0 P f as w (fL P G Γ H w K)) \/
    (∃l f tm asg body,(invoke d.target d.args).run P w=.ok (.round l f tm asg body) w/\RoundIn Fence.wide 0 P l f tm asg body w (fL P G Γ H w K)) \/
    (∃cv w',(invoke d.target d.args).run P w=.ok (.value cv) w'/\fL P G Γ H w K (.returned cv) w'))
variable {K K':ZN->ZH->Prop}
def fL.mono {e:Ending}(h:fL P G Γ H w K e w')(hk:∀r H',K r H'->K' r H'):fL P G Γ H w K' e w' :=
 let ⟨r,H',Γ',h1,h2,h3⟩:=h;⟨r,H',Γ',h1,hk _ _ h2,h3⟩
theorem ae.mono (h:ae P G f args H K)(hk:∀r H',K r H'->K' r H'):ae P G f args H K' :=
 ⟨h.1,fun Γ w cargs R hr=>(h.2 Γ w cargs R hr).mono fun _ _ hp=>hp.mono hk⟩
theorem ao.mono {fv:ZI}(h:ao P G fv args H K)(hk:∀r H',K r H'->K' r H'):ao P G fv args H K':=by
 intro Γ w cfv cargs R hv hr;obtain⟨d,h1,h2⟩:=h Γ w cfv cargs R hv hr;refine⟨d,h1,?_⟩;rcases h2 with ⟨f,as,h3,h4⟩|⟨l,f,tm,asg,body,h3,h4⟩|⟨cv,w',h3,h4⟩
 ·exact .inl ⟨f,as,h3,h4.mono fun _ _ hp=>hp.mono hk⟩
 ·exact .inr (.inl ⟨l,f,tm,asg,body,h3,h4.mono fun _ _ hp=>hp.mono hk⟩)
 ·exact .inr (.inr ⟨cv,w',h3,h4.mono hk⟩)
def ux {a b:List ZI}{x y:Array Value}(h:dG P Γ H w a x)(k:dG P Γ H w b y):dG P Γ H w (a++b) (x++y):=by
 refine⟨by rw[YT,List.length_append,h.1,k.1],fun i h1 h2=>?_⟩;have hx:=h.1;by_cases hi:i<a.length
 ·rw[Wh hi,Array.getElem_append_left V];exact h.2 i hi _
 ·rw[Wr V,Array.getElem_append_right V];simp only[hx];exact k.2 _ (by simp only[List.length_append]at h1;omega) _
theorem ao.X {f:FuncId}{first cap args:List ZI}{K:ZN->ZH->Prop}(h:ae P G f (first++args++cap) H K):ao P G (.X f first cap) args H K:=by
 intro Γ w cfv cargs R hv hr;cases hv with
 | @X _ _ _ fs cs hfs hcs hf hc =>
  refine⟨{ target:=.fn (.func f) cs.toArray,args:=fs.toArray++cargs },rfl,.inl ⟨f,fs.toArray++cargs++cs.toArray,?_,?_⟩⟩
  ·obtain⟨fn,hfn,hb,hn⟩:=h.1;show (callFunc f (fs.toArray++cargs++cs.toArray)).run P w=_;unfold callFunc;rw[ar (run_program P w)];simp only[hfn];rw[hn,hb];rfl
  ·exact h.2 Γ w _ R (ux (ux ⟨by simpa using hfs,fun i h1 h2=>by simpa using hf i h1 (by simpa using h2)⟩ hr) ⟨by simpa using hcs,fun i h1 h2=>by simpa using hc i h1 (by simpa using h2)⟩)
def ZL.HL (h:ZL P Γ H w (.lit v) cv):cv=v:=by cases h;rfl
theorem ao.ext {fn:Func}{e:Array Value->Sem Value}{vs:List Value}{r:ZI}(hf:P.funcs[f]?=some fn)(hb:fn.body.isNone=true)
    (hn : (fn.name == "runtime.NumGoroutine") = false) (h1 : Extern.findNext fn = none) (h2 : Extern.find fn = some e) (ha : args = vs.map .lit) (hrun : ∀ w, (e vs.toArray).run P w = .ok v w)
  (hrel:∀ Γ H w,ZL P Γ H w r v) (hK:K (.ret r) H):ao P G (.X f [] []) args H K:=by
 intro Γ w cfv cargs R hv hr;subst ha;have hc:cargs=vs.toArray:=by
  obtain⟨hs,hr⟩:=hr;apply Array.ext
  ·simpa using hs
  ·intro i h1 h2;have:=hr i (by simpa using h2) h1;simp only[Vt]at this;simpa using this.HL
 subst hc;cases hv with
 | @X _ _ _ fs cs hfs hcs hf' hc' =>
  obtain rfl:fs=[]:=Vn (by simpa using hfs);obtain rfl:cs=[]:=Vn (by simpa using hcs);refine⟨{ target:=.fn (.func f) #[],args:=#[]++vs.toArray },rfl,.inr (.inr ⟨v,w,?_,.ret r,H,Γ,hrel Γ H w,hK,R,ZS.refl _ _ _,ZG⟩)⟩;show (callFunc f (#[]++vs.toArray++#[])).run P w=_;unfold callFunc;rw[ar (run_program P w)];simp only[hf];rw[hn,hb];simp only[Bool.false_eq_true,if_false,if_true,h1,h2];have e0:#[]++vs.toArray++#[]=vs.toArray:=ZD
  rw[e0];have hm:(mark (.extern f)).run P w=.ok () w:=rfl;rw[ar hm];rw[ar (hrun w)];rfl
inductive TagK {α:Type}(K:α->Prop):Type where
 |mk
inductive TagR (K:ZN->ZH->Prop):Type where
 |mk
inductive TagP (p q:Prop):Type where
 |mk
def bj {α:Type}(o:Option α)(K:α->Prop)(_d:TagK K:=.mk):Prop:=∃a,o=some a/\K a
def aJ (ρ:Env)(dst:Option Tmp)(v:ZI):Env :=
 match dst with
 |some d=>fun t=>if t=d then v else ρ t
 |none=>ρ
def gU (all:Array Oper)(ρ:Env)(o:Oper):Option Bool :=
 match o.guard with
 |none=>some true
 |some (j,want) =>
  match (all[j]?).bind (·.dst) with
  |some d=>match ρ d with
   |.lit (.bool b)=>some (b == want)
   |.lit _=>some false
   |_=>none
  |none=>some false
def eP (n:Nat)(o:Oper):Bool:=match o.dst with|some d=>decide (d<n)|none=>true
def lZ (H:ZH)(op:BinOp)(x y:ZI):Option Bool :=
 match op,y with
 |.eql,.lit (.slice none 0 0)|.neq,.lit (.slice none 0 0)=>match x with
  |.Q n _=>some (decide (0<n))
  |.U id g _ n _=>match H.na id g with
   |some _=>some (decide (0<n))
   |none=>none
  |_=>none
 |_,_=>none
def sE (d:Option TypeDesc):Bool:=match d with|some (.slice _)=>true|_=>false
def sF (P:Program)(op:BinOp)(t:TypeId)(k:Option Bool)(Kb:ZI->Prop)(p:Prop):Prop :=
 match k with
 |some k=>sE (P.underlying t)=true/\∀b:Bool,(k=true->b=false)->Kb (.lit (.bool (if op == .neq then !b else b)))
 |none=>p
def aY (P:Program)(G:Nat->Option (List ZI))(rd:Option Nat)(Q:AX->St->Prop)(o:Oper)(K:St->Prop)(s:St):Prop :=
 match o.op with
 |.call { callee:=.value fv,args,.. }=>ao P G (au G s.ρ fv) (args.toList.map (au G s.ρ)) s.H fun r H'=>fK H' rd/\match r with
  |.ret v=>K ⟨aJ s.ρ o.dst v,H'⟩
  |.panic=>Q .panic ⟨s.ρ,H'⟩
 |.panic x=>(∃t v,(au G s.ρ x)=.lit (.iface t v))/\Q .panic s
 |.binOp op t x y u=>sF P op t (lZ s.H op (au G s.ρ x) (au G s.ρ y)) (fun v=>K ⟨aJ s.ρ o.dst v,s.H⟩) (bj (aq P G s.ρ s.H s.H.A (.binOp op t x y u)) fun vH=>K ⟨aJ s.ρ o.dst vH.1,vH.2⟩)
 |op=>bj (aq P G s.ρ s.H s.H.A op) fun vH=>K ⟨aJ s.ρ o.dst vH.1,vH.2⟩
def opsV (P:Program)(G:Nat->Option (List ZI))(rd:Option Nat)(Q:AX->St->Prop)(all:Array Oper):List Oper->St->Prop
 | [],s=>Q .normal s
 |o :: rest,s=>bj (gU all s.ρ o) fun t=>if t=true then aY P G rd Q o (opsV P G rd Q all rest) s else opsV P G rd Q all rest ⟨aJ s.ρ o.dst (.lit undef),s.H⟩
def po {s:St}{all:Array Oper}{o:Oper}{t:Bool}(hs:ZY P G n wb Γ s a w)(h:gU all s.ρ o=some t):Region.wanted o (yielded all a.tmps)=t:=by
 unfold gU at h;unfold Region.wanted;split at h
 ·rename_i hg;rw[hg];simpa using h
 ·rename_i j want hg;rw[hg];simp only;split at h
  ·rename_i d hd;have he:=hs.env d;have hy:yielded all a.tmps j=match a.tmps[d]? with|some (.bool b)=>some b|_=>none:=by
    unfold yielded;rw[hd];rfl
   rw[hy];have hgd:a.tmps.getD d undef=(a.tmps[d]?).getD undef:=ZD;rw[hgd]at he;split at h
   ·rename_i b hb;rw[hb]at he;simp only[Option.some.injEq]at h;cases hd:a.tmps[d]? with
    |none=>rw[hd]at he;cases he
    |some v =>
     rw[hd]at he;cases he;simp only;rw[<- h];cases b<;>cases want<;>rfl
   ·rename_i v hnb hb;rw[hb]at he;simp only[Option.some.injEq]at h;subst h;cases hd:a.tmps[d]? with
    |none=>simp
    |some cv =>
     rw[hd]at he;cases he;cases cv with
     |bool b=>exact(hnb b rfl).elim
     |_=>rfl
   ·cases h
  ·rename_i hd;have hy:yielded all a.tmps j=none:=(by unfold yielded;rw[hd];rfl);rw[hy];simpa using h
def jb {s:St}{dst:Option Tmp}{v:ZI}{H':ZH}(hs:ZY P G n wb Γ s a w)(hd:∀d,dst=some d->d<n)(E:ZS Γ s.H w Γ' H' w')(hn:s.H.A<=H'.A)
  (R:ZQ P G Γ' H' w') (hv:ZL P Γ' H' w' v cv):ZY P G n wb Γ' ⟨aJ s.ρ dst v,H'⟩ (a.put dst cv) w':=by
 cases dst with
 |none=>exact⟨hs.size,fun t=>(hs.env t).aZ E hn,R,hs.defers.aZ E,VO hs.low E.size⟩
 |some d =>
  have hdn:=hd d rfl;refine⟨by simp[Act.put,hs.size],fun t=>?_,R,hs.defers.aZ E,VO hs.low E.size⟩;simp only[Act.put,aJ];by_cases ht:t=d
  ·subst ht;rw[Vf rfl];have:(a.tmps.setIfInBounds t cv).getD t undef=cv:=(by simp[hs.size,hdn]);rw[this];exact hv
  ·rw[Ve ht];have:(a.tmps.setIfInBounds d cv).getD t undef=a.tmps.getD t undef:=by
    simp only[V0];rw[We,Ve V]
   rw[this];exact(hs.env t).aZ E hn
def dP.aZ (h:dP Γ H rd rb)(E:ZS Γ H w Γ' H' w')(hn:H.A<=H'.A)(R:ZQ P G Γ H w)(hi:fK H' rd):dP Γ' H' rd rb:=by
 cases rd with
 |none=>exact h
 |some id =>
  obtain⟨b,st,pend,n,env,ps,asg,body,h1,h2,h3⟩:=h;obtain⟨st',pend',n',env',ps',asg',body',h3'⟩:=hi;have hlt:=R.A id _ h3;obtain⟨x,hx,hle⟩:=E.na id hlt (Vl hlt hn) _ h3';rw[h3]at hx;cases hx;exact⟨b,_,_,_,_,_,_,_,h1,hle.1.trans h2,h3'⟩
def HM {b:ZO}(h:H.lay id b=some H'){j:Nat}{st:LoopState}{pend:Option Code}{env:Env}{ps:Array Tmp}{asg body:Code}
  (hj:H.get j=some (.loop st pend n env ps asg body)) (hlt:j<H.A):H'.get j=some (.loop st pend n env ps asg body):=by
 obtain⟨h1,_⟩:=ka h;have hne:j≠id:=by
  rintro rfl;unfold ZH.lay at h;rw[Ve V,hj]at h;cases h
 rw[h1,Ve hne];exact hj
def x9 (h:dP Γ H rd rb)(hk:∀j st pend n env ps asg body,H.get j=some (.loop st pend n env ps asg body)->∃st pend n env ps asg body,H'.get j=some (.loop st pend n env ps asg body)):fK H' rd:=by
 cases rd with
 |none=>trivial
 |some id =>
  obtain⟨b,st,pend,n,env,ps,asg,body,h1,h2,h3⟩:=h;exact hk id _ _ _ _ _ _ _ h3
def ya {ρ:Env}{o:Op}{v:ZI}(R:ZQ P G Γ H w)(h:aq P G ρ H id o=some (v,H')):∀j st pend n env ps asg body,H.get j=some (.loop st pend n env ps asg body) ->
  ∃st pend n env ps asg body,H'.get j=some (.loop st pend n env ps asg body):=by
 have same:H'=H->∀j st pend n env ps asg body,H.get j=some (.loop st pend n env ps asg body)->∃st pend n env ps asg body,H'.get j=some (.loop st pend n env ps asg body):=by
  rintro rfl j st pend n env ps asg body hj;exact⟨_,_,_,_,_,_,_,hj⟩
 have lay:∀b,H.lay id b=some H'->∀j st pend n env ps asg body,H.get j=some (.loop st pend n env ps asg body)->∃st pend n env ps asg body,H'.get j=some (.loop st pend n env ps asg body):=by
  intro b hb j st pend n env ps asg body hj;exact⟨_,_,_,_,_,_,_,HM hb hj (R.A j _ hj)⟩
 have upd:∀id g e cells b,H.get id=some (.J g e cells)->H'=H.upd id b->∀j st pend n env ps asg body,H.get j=some (.loop st pend n env ps asg body)->∃st pend n env ps asg body,H'.get j=some (.loop st pend n env ps asg body):=by
  rintro id g e cells b hb rfl j st pend n env ps asg body hj;refine⟨st,pend,n,env,ps,asg,body,?_⟩;rw[aj,Ve]
  ·exact hj
  ·rintro rfl;rw[hb]at hj;cases hj
 have updM:∀id es b,H.get id=some (.mp es)->H'=H.upd id b->∀j st pend n env ps asg body,H.get j=some (.loop st pend n env ps asg body)->∃st pend n env ps asg body,H'.get j=some (.loop st pend n env ps asg body):=by
  rintro id es b hb rfl j st pend n env ps asg body hj;refine⟨st,pend,n,env,ps,asg,body,?_⟩;rw[aj,Ve]
  ·exact hj
  ·rintro rfl;rw[hb]at hj;cases hj
 have updU:∀t m k x,mE P H t m k x=some (v,H')->∀j st pend n env ps asg body,H.get j=some (.loop st pend n env ps asg body)->∃st pend n env ps asg body,H'.get j=some (.loop st pend n env ps asg body):=by
  intro t m k x h;unfold mE at h;split at h
  ·split at h
   ·split at h
    ·rename_i hg;simp only[Option.some.injEq,Prod.mk.injEq]at h;exact updM _ _ _ hg h.2.symm
    ·cases h
   ·cases h
  ·cases h
 cases o with
 |makeMap t r =>
  simp only[aq]at h;split at h
  ·simp only[Vc,Prod.mk.injEq]at h;obtain⟨_,hl,_,rfl⟩:=h;exact lay _ hl
  ·cases h
 |lookup a b c d=>simp only[aq,Vc,Prod.mk.injEq]at h;obtain⟨_,_,_,rfl⟩:=h;exact same rfl
 |mapUpdate t m k x=>simp only[aq]at h;exact updU _ _ _ _ h
 |insert t m k x=>simp only[aq]at h;exact updU _ _ _ _ h
 |mapEntry t m k =>
  simp only[aq]at h;unfold oY at h;split at h
  ·split at h
   ·split at h
    ·rename_i hg;split at h
     ·simp only[Option.some.injEq,Prod.mk.injEq]at h;exact updM _ _ _ hg h.2.symm
     ·simp only[Option.some.injEq,Prod.mk.injEq]at h;exact updM _ _ _ hg h.2.symm
    ·cases h
   ·cases h
  ·cases h
 |entryStore t m s x =>
  simp only[aq]at h;unfold qu at h;split at h
  ·split at h
   ·rename_i hg;split at h
    ·simp only[Option.some.injEq,Prod.mk.injEq]at h;exact updM _ _ _ hg h.2.symm
    ·cases h
   ·cases h
  ·cases h
 |alloc e =>
  simp only[aq,Vi,Vc,Prod.mk.injEq]at h;obtain⟨_,_,_,hl,_,rfl⟩:=h;exact lay _ hl
 |box e x =>
  simp only[aq,Vc,Prod.mk.injEq]at h;obtain⟨_,hl,_,rfl⟩:=h;exact lay _ hl
 |buildSlice t len parts =>
  simp only[aq,nP]at h;split at h
  ·split at h
   ·simp only[Vi,Vc,Prod.mk.injEq]at h;obtain⟨_,_,_,_,_,hl,_,rfl⟩:=h;exact lay _ hl
   ·cases h
  ·cases h
 |store t a x =>
  simp only[aq]at h;split at h
  ·simp only[Vc,Prod.mk.injEq]at h;obtain⟨_,hst,_,rfl⟩:=h;unfold j9 at hst;split at hst
   ·split at hst
    ·rename_i hg;split at hst
     ·simp only[Option.some.injEq]at hst;exact upd _ _ _ _ _ hg hst.symm
     ·cases hst
    ·cases hst
   ·cases hst
  ·cases h
 |makeSlice t l c =>
  simp only[aq,mF]at h;split at h
  ·split at h
   ·simp only[Vi,Vc,Prod.mk.injEq]at h;obtain⟨_,_,_,hl,_,rfl⟩:=h;exact lay _ hl
   ·cases h
  ·cases h
 |call c =>
  simp only[aq]at h;split at h
  ·rename_i b hb;unfold gT at h;split at h
   ·simp only[Vc,Prod.mk.injEq]at h;obtain⟨_,_,_,rfl⟩:=h;exact same rfl
   ·unfold bU at h;split at h
    ·split at h
     ·simp only[Vi]at h;obtain⟨_,_,_,_,h⟩:=h;split at h
      ·split at h
       ·simp only[Option.some.injEq,Prod.mk.injEq]at h;exact same h.2.symm
       ·split at h
        ·simp only[Vc,Prod.mk.injEq]at h;obtain⟨_,hl,_,rfl⟩:=h;exact lay _ hl
        ·cases h
      ·simp only[Vi]at h;obtain⟨⟨e',cells⟩,hl,h⟩:=h;simp only at h;split at h
       ·split at h
        ·simp only[Option.some.injEq,Prod.mk.injEq]at h;exact same h.2.symm
        ·simp only[Option.some.injEq,Prod.mk.injEq]at h;exact upd _ _ _ _ _ (jK hl) h.2.symm
       ·cases h
      ·cases h
     ·cases h
    ·cases h
   ·unfold lU at h;split at h
    ·split at h
     ·simp only[Vi]at h;obtain⟨_,_,h⟩:=h;split at h
      ·simp only[Vi]at h;obtain⟨⟨e',cells⟩,hl,h⟩:=h;simp only at h;split at h
       ·simp only[Option.some.injEq,Prod.mk.injEq]at h;exact upd _ _ _ _ _ (jK hl) h.2.symm
       ·cases h
      ·cases h
     ·cases h
    ·cases h
   ·unfold js at h;split at h
    ·split at h
     ·simp only[Option.some.injEq,Prod.mk.injEq]at h;exact same h.2.symm
     ·simp only[Vi]at h;obtain⟨⟨e',cells⟩,hl,h⟩:=h;simp only at h;split at h
      ·simp only[Option.some.injEq,Prod.mk.injEq]at h;exact same h.2.symm
      ·simp only[Vi]at h;obtain⟨_,_,h⟩:=h;split at h
       ·simp only[Option.some.injEq,Prod.mk.injEq]at h;exact upd _ _ _ _ _ (jK hl) h.2.symm
       ·cases h
     ·cases h
    ·cases h
   ·simp only[Vi,Vc,Prod.mk.injEq]at h;obtain⟨_,_,_,_,_,rfl⟩:=h;exact same rfl
   ·simp only[Vi,Vc,Prod.mk.injEq]at h;obtain⟨_,_,_,_,_,rfl⟩:=h;exact same rfl
   ·cases h
  ·cases h
 |pick c a b =>
  simp only[aq]at h;split at h
  ·simp only[Option.some.injEq,Prod.mk.injEq]at h;exact same h.2.symm
  ·cases h
 |makeFunc fn f c =>
  simp only[aq]at h;split at h
  ·simp only[Option.some.injEq,Prod.mk.injEq]at h;exact same h.2.symm
  ·cases h
 |makeInterface t x =>
  simp only[aq]at h;split at h
  ·simp only[Vc,Prod.mk.injEq]at h;obtain⟨_,_,_,rfl⟩:=h;exact same rfl
  ·cases h
 |slice t x lo hi mx =>
  simp only[aq]at h;split at h
  ·simp only[Vc,Prod.mk.injEq]at h;obtain⟨_,_,_,rfl⟩:=h;exact same rfl
  ·cases h
 |fieldAddr s x f =>
  simp only[aq,Vi]at h;obtain⟨_,_,h⟩:=h;split at h
  ·simp only[Vc,Prod.mk.injEq]at h;obtain⟨_,_,_,rfl⟩:=h;exact same rfl
  ·simp only[Option.some.injEq,Prod.mk.injEq]at h;exact same h.2.symm
  ·cases h
 |field s x f =>
  simp only[aq,Vi]at h;obtain⟨_,_,h⟩:=h;split at h
  ·simp only[Vc,Prod.mk.injEq]at h;obtain⟨_,_,_,rfl⟩:=h;exact same rfl
  ·simp only[Vc,Prod.mk.injEq]at h;obtain⟨_,_,_,rfl⟩:=h;exact same rfl
  ·cases h
 |indexAddr t x i =>
  simp only[aq]at h;split at h
  ·simp only[Vc,Prod.mk.injEq]at h;obtain⟨_,_,_,rfl⟩:=h;exact same rfl
  ·cases h
 |move x=>simp only[aq,Option.some.injEq,Prod.mk.injEq]at h;exact same h.2.symm
 |assign x=>simp only[aq,Option.some.injEq,Prod.mk.injEq]at h;exact same h.2.symm
 |build t p=>simp only[aq,Vc,Prod.mk.injEq]at h;obtain⟨_,_,_,rfl⟩:=h;exact same rfl
 |load t p=>simp only[aq,Vc,Prod.mk.injEq]at h;obtain⟨_,_,_,rfl⟩:=h;exact same rfl
 |nilCheck p=>simp only[aq,Vc,Prod.mk.injEq]at h;obtain⟨_,_,_,rfl⟩:=h;exact same rfl
 |binOp a b c d e=>simp only[aq,Vc,Prod.mk.injEq]at h;obtain⟨_,_,_,rfl⟩:=h;exact same rfl
 |unOp a b c=>simp only[aq,Vc,Prod.mk.injEq]at h;obtain⟨_,_,_,rfl⟩:=h;exact same rfl
 |convert a b c=>simp only[aq,Vc,Prod.mk.injEq]at h;obtain⟨_,_,_,rfl⟩:=h;exact same rfl
 |index a b c=>simp only[aq,Vc,Prod.mk.injEq]at h;obtain⟨_,_,_,rfl⟩:=h;exact same rfl
 |extract a b=>simp only[aq,Vc,Prod.mk.injEq]at h;obtain⟨_,_,_,rfl⟩:=h;exact same rfl
 |_=>simp[aq]at h
end Go.Hx
namespace Go.Hx
variable {P:Program} {G:Nat->Option (List ZI)} {Γ Γ':aE} {H H':ZH} {w w':World}
variable {k:Bool}{n:Nat}{cx:Value}
def BD {cells:List ZI}(hx:ZL P Γ H w (.Q n cells) cx):∃a m c,cx=.slice a m c/\(decide (0<n)=true->a.isNone=false):=by
 cases hx with
 |nw a cap=>exact⟨a,0,cap,rfl,fun hk=>by simp at hk⟩
 |Q=>exact⟨_,_,_,rfl,fun _=>rfl⟩
def BE {id g o z:Nat}(h:(match H.na id g with|some _=>some (decide (0<n))|none=>none)=some k)(hx:ZL P Γ H w (.U id g o n z) cx):∃a m c,cx=.slice a m c/\(k=true->a.isNone=false):=by
 split at h
 ·rename_i ec hl;simp only[Option.some.injEq]at h;rcases kf (e:=ec.1) (cells:=ec.2) hx hl with ⟨b,base,m,a,cap,_,rfl,_,_,_⟩|⟨_,_,rfl,rfl⟩
  ·exact⟨_,_,_,rfl,fun _=>rfl⟩
  ·refine⟨_,_,_,rfl,fun hk=>?_⟩;rw[<- h]at hk;simp at hk
 ·cases h
def HN {op:BinOp}{x y:ZI}{cy:Value}(h:lZ H op x y=some k)(hx:ZL P Γ H w x cx)(hy:ZL P Γ H w y cy):
  (op=.eql\/op=.neq)/\cy=.slice none 0 0/\∃a n c,cx=.slice a n c/\(k=true->a.isNone=false):=by
 unfold lZ at h;split at h
 ·cases hy;split at h
  ·simp only[Option.some.injEq]at h;rw[<- h];exact⟨.inl rfl,rfl,BD hx⟩
  ·exact⟨.inl rfl,rfl,BE h hx⟩
  ·cases h
 ·cases hy;split at h
  ·simp only[Option.some.injEq]at h;rw[<- h];exact⟨.inr rfl,rfl,BD hx⟩
  ·exact⟨.inr rfl,rfl,BE h hx⟩
  ·cases h
 ·cases h
def BG {t:TypeId}(ht:sE (P.underlying t)=true)(a:Option Addr)(n c:Nat):(Op.equal t (.slice a n c) (.slice none 0 0)).run P w=.ok a.isNone w:=by
 unfold sE at ht;split at ht
 ·rename_i e he;show (Op.equalIn (9999+1) t (.slice a n c) (.slice none 0 0)).run P w=_;unfold Op.equalIn;rw[ar (cQ he)];cases a<;>rfl
 ·cases ht
section
variable {n:Nat} {wb:nnl} {rd rb:Option Nat} {Q:AX->St->Prop}
def yb {o:Oper}{K:St->Prop}{s:St}{a:Act}{A:Act->World->Prop}{Q':Exit->Act->World->Prop}(hd:eP n o=true)(hs:ZY P G n wb Γ s a w)(hr:dP Γ s.H rd rb)(h:aY P G rd Q o K s)
  (hnext:∀ Γ' s' a' w',K s'->ZY P G n wb Γ' s' a' w'->ZS Γ s.H w Γ' s'.H w'->s.H.A<=s'.H.A->dP Γ' s'.H rd rb->(∃cv,a'=a.put o.dst cv)->A a' w')
  (hq:∀ Γ' s' a' w' chain,Q .panic s'->x7 chain->ZY P G n wb Γ' s' a' w'->ZS Γ s.H w Γ' s'.H w'->s.H.A<=s'.H.A->dP Γ' s'.H rd rb->a'=a->Q' (.panic chain) a' w'):
  o.wpIn (ea rb) 0 P a w A Q':=by
 have hdst:∀d,o.dst=some d->d<n:=by
  intro d hd';unfold eP at hd;rw[hd']at hd;simpa using hd
 have plain:∀vH:ZI × ZH,aq P G s.ρ s.H s.H.A o.op=some vH->K ⟨aJ s.ρ o.dst vH.1,vH.2⟩->o.wpIn (ea rb) 0 P a w A Q':=by
  rintro⟨v,H'⟩ hop hk;refine⟨fun _ _=>trivial,?_⟩;rw[Oper.semAt_eq _ _ _ (fun c hc=>by rw[hc]at hop;simp[aq]at hop)];obtain⟨nx,cv,Γ',w',hrun,hnx,E,hn,R,hv⟩:=xZ hs.heap (jt hs) hop;rw[hrun];have hri:=x9 hr (ya hs.heap hop);have hs':=jb hs hdst E hn R hv;have hr':=hr.aZ E hn hs.heap hri;rcases hnx with rfl|⟨rfl,rfl⟩
  ·exact hnext Γ' _ _ w' hk hs' E hn hr' ⟨_,rfl⟩
  ·exact hnext Γ' _ _ w' hk hs' E hn hr' ⟨_,rfl⟩
 unfold aY at h;split at h
 ·rename_i fv args ats hop;refine⟨fun _ _=>trivial,?_⟩;rw[Oper.semAt_eq _ _ _ (fun c hc=>by rw[hc]at hop;cases hop)];obtain⟨d,h1,h2⟩:=h Γ w (a.eval fv) (args.map a.eval) hs.heap (jt hs fv) ⟨ZD,fun i h1 h2=>by simp only[Vt,XQ,Wk];exact jt hs _⟩;have hex:(execOp a.eval o).run P w=(invoke d.target d.args).run P w:=by
   unfold execOp;simp only[hop];unfold resolve;simp only;rw[ar h1]
  have cont:∀e w',fL P G Γ s.H w (fun r H'=>fK H' rd/\match r with
    |.ret v=>K ⟨aJ s.ρ o.dst v,H'⟩
    |.panic=>Q .panic ⟨s.ρ,H'⟩) e w'->(match e with
     |.returned v=>A (a.put o.dst v) w'
     |.panicked chain=>Q' (.panic chain) a w'
     |.outgrown=>LetsOut Q'):=by
   rintro e w' ⟨r,H',Γ',hend,⟨hri,hk⟩,R,E,hn⟩;have hr':=hr.aZ E hn hs.heap hri;cases e with
   |returned cv =>
    cases r with
    |ret v=>exact hnext Γ' _ _ w' hk (jb hs hdst E hn R hend) E hn hr' ⟨_,rfl⟩
    |panic=>exact hend.elim
   |panicked chain =>
    cases r with
    |ret v=>exact hend.elim
    |panic =>
     exact hq Γ' ⟨s.ρ,H'⟩ a w' chain hk hend ⟨hs.size,fun t=>(hs.env t).aZ E hn,R,hs.defers.aZ E,VO hs.low E.size⟩ E hn hr' rfl
   |outgrown=>cases r<;>exact hend.elim
  rw[hex];rcases h2 with ⟨f,as,h3,h4⟩|⟨l,f,tm,asg,body,h3,h4⟩|⟨cv,w',h3,h4⟩
  ·rw[h3];refine⟨fun hc=>by simp[Fence.wide]at hc,?_⟩;have h4':CallsIn (ea rb) 0 P f as w _:=h4;refine h4'.mono ?_;intro e w' hp;have:=cont e w' hp;cases e<;>exact this
  ·rw[h3];refine⟨fun hc=>by simp[Fence.wide]at hc,?_⟩;have h4':RoundIn (ea rb) 0 P l f tm asg body w _:=h4;refine h4'.mono ?_;intro e w' hp;have:=cont e w' hp;cases e<;>exact this
  ·rw[h3];exact cont (.returned cv) w' h4
 ·rename_i x hop;obtain⟨⟨t,v,hx⟩,hk⟩:=h;refine⟨fun _ _=>trivial,?_⟩;rw[Oper.semAt_eq _ _ _ (fun c hc=>by rw[hc]at hop;cases hop)];have he:=jt hs x;rw[hx]at he;have hev:a.eval x=.iface t v:=by
   generalize a.eval x=y at he;cases he;rfl
  have hex:(execOp a.eval o).run P w=.halt (.panic (.iface t v)) w:=by
   unfold execOp;simp only[hop,hev];rfl
  rw[hex];exact hq Γ s a w _ hk ⟨t,v,rfl⟩ hs (ZS.refl _ _ _) ZG hr rfl
 ·rename_i op t x y u hop;unfold sF at h;split at h
  ·rename_i k hk;obtain⟨ht,hall⟩:=h;obtain⟨hor,hcy,sa,sn,sc,hcx,hsome⟩:=HN hk (jt hs x) (jt hs y);refine⟨fun _ _=>trivial,?_⟩;rw[Oper.semAt_eq _ _ _ (fun c hc=>by rw[hc]at hop;cases hop)];have hex:(execOp a.eval o).run P w=.ok (.value (.bool (if op == .neq then !sa.isNone else sa.isNone))) w:=by
    unfold execOp;simp only[hop,hcx,hcy];rcases hor with rfl|rfl
    ·have h1:(eqGuard .eql t x y (.slice sa sn sc) (.slice none 0 0)).run P w=.ok () w:=rfl;have h2:(binOp .eql t (.slice sa sn sc) (.slice none 0 0)).run P w=.ok (.bool sa.isNone) w:=by
      show ((Op.equal t (.slice sa sn sc) (.slice none 0 0)) >>= fun b=>pure (Value.bool b)).run P w=_;rw[ar (BG ht sa sn sc)];rfl
     have h3:(do eqGuard .eql t x y (.slice sa sn sc) (.slice none 0 0);binOp .eql t (.slice sa sn sc) (.slice none 0 0)).run P w=.ok (.bool sa.isNone) w:=(by rw[ar h1];exact h2);rw[ar h3];rfl
    ·have h1:(eqGuard .neq t x y (.slice sa sn sc) (.slice none 0 0)).run P w=.ok () w:=rfl;have h2:(binOp .neq t (.slice sa sn sc) (.slice none 0 0)).run P w=.ok (.bool (!sa.isNone)) w:=by
      show ((Op.equal t (.slice sa sn sc) (.slice none 0 0)) >>= fun b=>pure (Value.bool !b)).run P w=_;rw[ar (BG ht sa sn sc)];rfl
     have h3:(do eqGuard .neq t x y (.slice sa sn sc) (.slice none 0 0);binOp .neq t (.slice sa sn sc) (.slice none 0 0)).run P w=.ok (.bool (!sa.isNone)) w:=(by rw[ar h1];exact h2);rw[ar h3];rfl
   rw[hex];exact hnext Γ _ _ w (hall sa.isNone hsome) (jb hs hdst (ZS.refl _ _ _) ZG hs.heap (.lit _)) (ZS.refl _ _ _) ZG hr ⟨_,rfl⟩
  ·obtain⟨vH,hop',hk⟩:=h;exact plain vH (by rw[hop];exact hop') hk
 ·obtain⟨vH,hop,hk⟩:=h;exact plain vH hop hk
def nZ {a:Act}{all:Array Oper}{i:Nat}(hi:i<all.size)(cv:Value):Fr (fun t=>all.toList.any fun o=>o.dst == some t) a (a.put all[i].dst cv):=by
 intro t ht;simp only[Yu]at ht;have:=ht all[i] ZD;cases hd:all[i].dst with
 |none=>rfl
 |some d =>
  simp only[Act.put];rw[We,Ve];intro hdt;rw[hd,hdt]at this;simp at this
def HO {id:Nat}{dr:Bool}{all:Array Oper}(hfit:∀o,o∈all.toList->eP n o=true):∀(is:List Nat) (s:St) (Γ:aE) (a:Act) (w:World),(∀i,i∈is->i<all.size) ->
  opsV P G rd Q all (is.filterMap fun i=>all[i]?) s->ZY P G n wb Γ s a w->dP Γ s.H rd rb ->
  ∀(Q':Exit->Act->World->Prop),(∀e a' w',iy P G n wb rd rb (wr (.region id all dr)) Γ s.H a w Q e a' w'->Q' e a' w')->wpOpsIn (ea rb) 0 P all Q' is a w:=by
 intro is
 induction is with
 |nil =>
  intro s Γ a w _ h hs hr Q' hq;exact hq _ _ _ (.here (x:=.normal) trivial h hs hr)
 |cons i is ih =>
  intro s Γ a w hi h hs hr Q' hq;have hlt:=hi i ZD;have ho:all[i]?=some all[i]:=Vo hlt;simp only[YN,ho]at h;unfold wpOpsIn;rw[ho];simp only;obtain⟨t,ht,h⟩:=h;rw[po hs ht];have hd:=hfit all[i] ZD;cases t with
  |true =>
   simp only[if_true]at h ⊢;refine yb hd hs hr h ?_ ?_
   ·rintro Γ' s' a' w' hk hs' E hn hr' ⟨cv,rfl⟩;exact ih s' Γ' _ w' (fun j hj=>hi j (by simp[hj])) hk hs' hr' Q' fun e a'' w'' hp=>hq _ _ _ (hp.step E hn (nZ hlt cv) fun _ h=>h)
   ·rintro Γ' s' a' w' chain hp hc hs' E hn hr' rfl;exact hq _ _ _ ⟨.panic,s',Γ',hc,hp,hs',E,hn,hr',.refl _ _⟩
  |false =>
   simp only[Bool.false_eq_true,if_false]at h ⊢;refine⟨fun _ _=>trivial,?_⟩;have hdst:∀d,all[i].dst=some d->d<n:=by
    intro d hd';unfold eP at hd;rw[hd']at hd;simpa using hd
   have hs':=jb (v:=.lit undef) (cv:=undef) hs hdst (ZS.refl Γ s.H w) ZG hs.heap (.lit _);exact ih ⟨aJ s.ρ all[i].dst (.lit undef),s.H⟩ Γ _ w (fun j hj=>hi j (by simp[hj])) h hs' hr Q' fun e a'' w'' hp=>hq _ _ _ (hp.step (ZS.refl _ _ _) ZG (nZ hlt _) fun _ h=>h)
def BH {α:Type}(l:List α):(List.range l.length).filterMap (fun i=>l[i]?)=l:=by
 induction l with
 |nil=>rfl
 |cons x xs ih =>
  rw[List.length_cons,Zj,YN];simp only[List.getElem?_cons_zero];rw[List.filterMap_map];congr 1
theorem W.region {id:Nat}{ops:Array Oper}{s:St}(hfit:ops.toList.all (eP n)=true)(h:opsV P G rd Q ops ops.toList s):W P G n rd (.region id ops false) Q s:=by
 intro wb Γ a w rb hs hr;refine wpIn_region (HO (id:=id) (dr:=false) (fun o ho=>VG.1 hfit o ho) _ s Γ a w (fun i hi=>Vp.1 hi) ?_ hs hr _ fun _ _ _ hp=>hp);have:(List.range ops.size).filterMap (fun i=>ops[i]?)=ops.toList:=by
  have:=BH ops.toList;simpa using this
 rw[this];exact h
def sG {b:Frame}{a:Act}{k:List Item}{cs:List Frame}{c:Code}:
  step P (lone (b.atR a (.code (.scope c) :: k)) cs w)=.next (lone (b.atR a (.code c :: .inScope c :: k)) cs w) :=
 step_lone_go (by simp[stepG,stepG.exec,Frame.atR])
def HP {b:Frame}{a:Act}{k:List Item}{cs:List Frame}{c:Code}:
  step P (lone (b.atR a (.inScope c :: k)) cs w)=.next (lone (b.atR a k) cs w) :=
 step_lone_go (by simp[stepG,stepG.exec,Frame.atR])
def noGoto (Q:AX->St->Prop):AX->St->Prop
 |.goto _,_=>False
 |x,s=>Q x s
theorem W.scope {c:Code}{s:St}(h:W P G n rd c (noGoto Q) s):W P G n rd (.scope c) Q s:=by
 intro wb Γ a w rb hs hr b k cs hro hb hrm;have h0:(lone (b.atR a (.code (.scope c) :: k)) cs w).fenced P (ea rb):=fenced_calm hb hrm rfl;obtain⟨e,a',w',hp,harr⟩:=h wb Γ a w rb hs hr b (.inScope c :: k) cs hro hb hrm;obtain⟨x,s',Γ',hx,hq,hrest⟩:=hp;cases e with
 |normal =>
  cases x with
  |normal=>exact⟨.normal,a',w',⟨.normal,s',Γ',hx,hq,hrest⟩,.head h0 sG (StepsIn.trans harr (.one (fenced_calm hb hrm rfl) HP))⟩
  |_=>exact hx.elim
 |exit i =>
  cases x with
  |exit j =>
   have hk:exitTo i (.inScope c :: k)=exitTo i k:=(by simp[exitTo]);exact⟨.exit i,a',w',⟨.exit j,s',Γ',hx,hq,hrest⟩,fun k' hk'=>.head h0 sG (harr.1 k' (by rw[hk];exact hk')),
    fun hr' hk'=>let ⟨k₁,h1,h2⟩:=harr.2 hr' (by rw[hk];exact hk');⟨k₁,h1,.head h0 sG h2⟩⟩
  |_=>exact hx.elim
 |goto i=>cases x with
  |goto j=>exact hq.elim
  |_=>exact hx.elim
 |ret=>cases x with
  |ret=>exact⟨.ret,a',w',⟨.ret,s',Γ',hx,hq,hrest⟩,.of_steps (.one h0 sG) harr⟩
  |_=>exact hx.elim
 |panic ch=>cases x with
  |panic=>exact⟨.panic ch,a',w',⟨.panic,s',Γ',hx,hq,hrest⟩,.of_steps (.one h0 sG) harr⟩
  |_=>exact hx.elim
 |outgrown=>cases x<;>exact hx.elim
end
def jc (t:Bool)(p q:Prop)(_d:TagP p q:=.mk):Prop:=(t=true->p)/\(t=false->q)
def vc (P:Program)(G:Nat->Option (List ZI))(n:Nat)(rd:Option Nat):Code->(AX->St->Prop)->St->Prop
 |.skip,Q,s=>Q .normal s
 |.label _,Q,s=>Q .normal s
 |.region _ ops false,Q,s=>opsV P G rd Q ops ops.toList s
 |.region id ops true,Q,s=>W P G n rd (.region id ops true) Q s
 |.seq a b,Q,s=>vc P G n rd a (kP (vc P G n rd b Q) Q) s
 |.cond c a b,Q,s=>bj (match au G s.ρ c with|.lit (.bool t)=>some t|_=>none) fun t=>jc t (vc P G n rd a Q s) (vc P G n rd b Q s)
 |.block id c,Q,s=>vc P G n rd c (mK id Q) s
 |.loop c,Q,s=>W P G n rd (.loop c) Q s
 |.rangeFunc f ps asg body,Q,s=>W P G n rd (.rangeFunc f ps asg body) Q s
 |.exit id,Q,s=>Q (.exit id) s
 |.scope c,Q,s=>vc P G n rd c (noGoto Q) s
 |.goto l,Q,s=>Q (.goto l) s
 |.ret,Q,s=>Q .ret s
 |.refuse _,_,_=>False
def fits (n:Nat):Code->Bool
 |.region _ ops _=>ops.toList.all (eP n)
 |.seq a b|.cond _ a b|.rangeFunc _ _ a b=>fits n a && fits n b
 |.block _ c|.loop c|.scope c=>fits n c
 |_=>true
def sH {n:Nat}{rd:Option Nat}:∀(c:Code) (Q:AX->St->Prop) (s:St),fits n c=true->vc P G n rd c Q s->W P G n rd c Q s:=by
 intro c
 induction c with
 |skip=>exact fun Q s _ h=>.skip h
 |label l=>exact fun Q s _ h=>.label h
 |region id ops d =>
  intro Q s hf h;cases d with
  |false=>exact .region hf h
  |true=>exact h
 |seq a b iha ihb =>
  intro Q s hf h;simp only[fits,VI]at hf;refine W.seq ((iha _ s hf.1 h).mono fun x s' hx=>?_);cases x with
  |normal=>exact ihb Q s' hf.2 hx
  |_=>exact hx
 |cond c a b iha ihb =>
  intro Q s hf h;simp only[fits,VI]at hf;obtain⟨t,ht,h1,h2⟩:=h;split at ht
  ·rename_i t' hc;simp only[Option.some.injEq]at ht;subst ht;refine W.cond hc ?_;cases t' with
   |true=>exact iha Q s hf.1 (h1 rfl)
   |false=>exact ihb Q s hf.2 (h2 rfl)
  ·cases ht
 |block id c ih=>exact fun Q s hf h=>.block (ih _ s hf h)
 |loop c _=>exact fun Q s _ h=>h
 |rangeFunc=>exact fun Q s _ h=>h
 |exit id=>exact fun Q s _ h=>.exit h
 |scope c ih=>exact fun Q s hf h=>.scope (ih _ s hf h)
 |goto l=>exact fun Q s _ h=>.goto h
 |ret=>exact fun Q s _ h=>.ret h
 |refuse why=>exact fun Q s _ h=>h.elim
def W.vs {n:Nat}{rd:Option Nat}{c:Code}{Q:AX -> St -> Prop}{s:St}(h:vc P G n rd c Q s)(hf:fits n c=true := by rfl):W P G n rd c Q s := sH c Q s hf h
def W.sq {n:Nat}{rd:Option Nat}{x y:Code}{Q:AX -> St -> Prop}{s:St}(h:vc P G n rd x (kP (W P G n rd y Q) Q) s)(hf:fits n x=true := by rfl):W P G n rd (.seq x y) Q s := W.seq (sH x _ s hf h)
end Go.Hx
namespace Go.Hx
variable {P:Program} {G:Nat->Option (List ZI)} {Γ Γ':aE} {H H':ZH} {w w':World}
variable {tmps:Array Value}{c:Code}{ρ:Env}{fn:Func}{f:FuncId}{rs:List ResultVar}{args:List ZI}{n r:Nat}{o:Obj}{x:Option (List Deferred)}{w₀:World}{H₀:ZH}{v:ZI}{K:ZN → ZH → Prop}{Γ₀:aE}
def BI (hr:w.heap[r]?=some (.deferred x))(o:Obj)(ho:∀c e f,o≠.cells c e f)(b i:Nat):(bI w r o).cell? ⟨b,i,none⟩=w.cell? ⟨b,i,none⟩:=by
 simp only[World.cell?,eO];by_cases h:b=r/\r<w.heap.size
 ·rw[Vf h,h.1,hr];cases o<;>first|rfl|exact absurd rfl (ho _ _ _)
 ·rw[Ve h]
def ZL.closed {cv:Value}(hr:w.heap[r]?=some (.deferred x))(ho:∀c e f,o≠.cells c e f)(h:ZL P Γ H w v cv):ZL P Γ H (bI w r o) v cv:=by
 induction h with
 |lit v=>exact .lit v
 |nw a cap=>exact .nw a cap
 |Q hb hlt hlen hcs hcell hrel ih=>exact .Q hb (by rw[j8];exact hlt) hlen hcs (fun i hi=>(BI hr o ho _ _).trans (hcell i hi)) ih
 |U h=>exact .U h
 |O h=>exact .O h
 |ni hb hlt hcs hcell hrel ih=>exact .ni hb (by rw[j8];exact hlt) hcs (fun i hi=>(BI hr o ho _ _).trans (hcell i hi)) ih
 |agg hcs hrel ih=>exact .agg hcs ih
 |nc hcs hrel ih=>exact .nc hcs ih
 |X hfs hcs hf hc ih1 ih2=>exact .X hfs hcs ih1 ih2
 |nk h=>exact .nk h
theorem ZQ.closed (R:ZQ P G Γ H w)(hr:w.heap[r]?=some (.deferred x))(hown:¬ Γ.fJ r)(ho:∀c e f,o≠.cells c e f):ZQ P G Γ H (bI w r o) where
 J id g e cells hg:=by
  have h1:=R.J id g e cells hg;cases hΓ:Γ id with
  |none=>rw[hΓ]at h1;exact h1
  |some y =>
   obtain⟨b,base,n⟩:=y;rw[hΓ]at h1;obtain⟨c,a1,a2,a3,a4⟩:=h1;refine⟨c,?_,a2,a3,fun i hi=>let ⟨cv,b1,b2⟩:=a4 i hi;⟨cv,b1,b2.closed hr ho⟩⟩;rw[eO,Ve]
   ·exact a1
   ·rintro⟨rfl,_⟩;exact hown ⟨id,base,n,hΓ⟩
 loop id st pend n env ps asg body hg:=by
  obtain⟨b,rr,a1,a2,a3,a4,a5,a6,a7,a8,a9⟩:=R.loop id st pend n env ps asg body hg;refine⟨b,rr,a1,?_,a3,a4,a5,a6,a7,a8,fun t ht=>(a9 t ht).closed hr ho⟩;rw[eO,Ve]
  ·exact a2
  ·rintro⟨rfl,_⟩;exact hown ⟨id,0,0,a1⟩
 mp id es hg:=by
  obtain⟨b,a1,a2⟩:=R.mp id es hg;refine⟨b,a1,?_⟩;rw[eO,Ve]
  ·exact a2
  ·rintro⟨rfl,_⟩;exact hown ⟨id,0,0,a1⟩
 nq:=R.nq
 inj:=R.inj
 nF:=R.nF
 lt id b base n h:=by rw[j8];exact R.lt id b base n h
 A:=R.A
 nE g cells h:=(R.nE g cells h).closed hr ho
 gsz g cells h:=by
  obtain⟨c,e,f,h1,h2⟩:=R.gsz g cells h;refine⟨c,e,f,?_,h2⟩;rw[eO,Ve]
  ·exact h1
  ·rintro⟨rfl,_⟩;rw[hr]at h1;cases h1
def ZS.closed (E:ZS Γ₀ H₀ w₀ Γ H w)(hx:w.heap[r]?=some (.deferred x))(hr:w₀.heap.size<=r)(o:Obj)(ho:∀c e f,o≠.cells c e f):ZS Γ₀ H₀ w₀ Γ H (bI w r o) where
 os:=E.os
 tape:=E.tape
 output:=E.output
 size:=by rw[j8];exact E.size
 ng b hb ho:=by
  obtain⟨h1,h2⟩:=E.ng b hb ho;refine⟨?_,h2⟩;rw[eO,Ve V];exact h1
 na:=E.na
 nz a ha:=(r8 hx (fun _ _ _ h=>by cases h) (fun c e f h=>absurd h (ho c e f)) a).trans (E.nz a ha)
 kind:=E.kind.trans (xx hx fun _ _ _ h=>by cases h)
 newb:=E.newb
def HQ {R:Ending->World->Prop}{u:FrameMode}(hu:u≠.run):∀(ds:List Deferred) (w:World),
  (∀d,d∈ds->∃r,d={ target:=.collected r,args:=#[] }/\w₀.heap.size<=r/\qg Γ w r)->ds.Pairwise (fun d e=>d.target≠e.target) ->
  ZQ P G Γ H w->(∀t,ZL P Γ H w (ρ t) (tmps.getD t undef))->ZS Γ₀ H₀ w₀ Γ H w ->
  (∀w',ZQ P G Γ H w'->(∀t,ZL P Γ H w' (ρ t) (tmps.getD t undef))->ZS Γ₀ H₀ w₀ Γ H w'->LeavesIn Fence.wide 0 P fn tmps R [] u w') ->
  LeavesInM Fence.wide 0 P fn tmps R ds u w:=by
 intro ds
 induction ds with
 |nil=>intro w _ _ R0 he E h;exact h w R0 he E
 |cons d ds ih =>
  intro w hd hp R0 he E h;obtain⟨r,rfl,hle,hown,hblk⟩:=hd d ZD;have ho:∀c e f,Obj.deferred none≠.cells c e f:=fun _ _ _ h=>by cases h
  refine⟨hu,.inl ⟨r,bI w r (.deferred none),rfl,?_,?_⟩⟩
  ·unfold Instr.takeDeferred;have hg:(getObj r).run P w=.ok (.deferred (some [])) w:=(by simp[getObj,Sem.run,hblk]);rw[ar hg];simp only;have hset:(setObj r (.deferred none)).run P w=.ok () (bI w r (.deferred none)):=(by simp[setObj,Sem.run,hblk,bI]);rw[ar hset];rfl
  ·refine ih _ (fun e he'=>?_) (XF.1 hp).2 (R0.closed hblk hown ho) (fun t=>(he t).closed hblk ho) (E.closed hblk hle _ ho) h;obtain⟨r',rfl,hle',hown',hblk'⟩:=hd e (by simp[he']);refine⟨r',rfl,hle',hown',?_⟩;rw[eO,Ve]
   ·exact hblk'
   ·rintro⟨rfl,_⟩;exact(XF.1 hp).1 _ he' rfl
def HR {t:TypeId}{a:ZI}{ca:Value}(R:ZQ P G Γ H w)(h:ir P H t a=some v)(ha:ZL P Γ H w a ca):
  ∃ad cv,ca=.pointer (some ad)/\(loadVar t ad).run P w=.ok cv w/\ZL P Γ H w v cv:=by
 have h0:=h;unfold ir at h;split at h
 ·rename_i id gen off;split at h
  ·rename_i g e cells hg;split at h
   ·rename_i hgg;have hl:H.na id gen=some (e,cells):=(by simp[ZH.na,hg,hgg]);obtain⟨b,base,n,hΓ,rfl⟩:=qy ha hl;obtain⟨cv,h1,h2⟩:=uk h (sj R hl hΓ);exact⟨_,cv,rfl,h1,h2⟩
   ·cases h
  ·cases h
 ·rename_i cells off;cases ha with
  |ni hb hlt hcs hcell hrel =>
   obtain⟨cv,h1,h2⟩:=uk h ⟨_,hcs,hcell,hrel⟩;exact⟨_,cv,rfl,h1,h2⟩
 ·cases h
def fY (P:Program)(H:ZH)(ρ:Env):List ResultVar->Option (List ZI)
 | []=>some []
 |.tmp t :: r=>(fY P H ρ r).map (ρ t :: ·)
 |.cell a t :: r=>(ir P H t (ρ a)).bind fun v=>(fY P H ρ r).map (v :: ·)
def kQ:List ZI->ZI
 | [v]=>v
 |vs=>.nc vs
def qE (tmps:Array Value):ResultVar->Sem Value
 |.tmp t=>pure (tmps.getD t undef)
 |.cell a t=>do loadVar t (<- asAddr (tmps.getD a undef))
def HS (R:ZQ P G Γ H w)(he:∀t,ZL P Γ H w (ρ t) (tmps.getD t undef)):∀(rs:List ResultVar) (vs:List ZI),fY P H ρ rs=some vs ->
  ∃cs:List Value,(rs.mapM (qE tmps)).run P w=.ok cs w/\cs.length=vs.length/\∀i (_:i<vs.length) (_:i<cs.length),ZL P Γ H w vs[i] cs[i]:=by
 intro rs
 induction rs with
 |nil =>
  intro vs h;simp only[fY,Option.some.injEq]at h;subst h;exact⟨[],rfl,rfl,fun i h _=>absurd h (Vs _)⟩
 |cons rv rs ih =>
  intro vs h;have cons:∀(v:ZI) (cv:Value) (vs':List ZI),(qE tmps rv).run P w=.ok cv w->ZL P Γ H w v cv->fY P H ρ rs=some vs'->∃cs:List Value,((rv :: rs).mapM (qE tmps)).run P w=.ok cs w /\
    cs.length=(v :: vs').length/\∀i (_:i<(v :: vs').length) (_:i<cs.length),ZL P Γ H w (v :: vs')[i] cs[i]:=by
   intro v cv vs' hm hv hr;obtain⟨cs,h1,h2,h3⟩:=ih vs' hr;refine⟨cv :: cs,?_,by simp[h2],fun i a b=>?_⟩
   ·rw[List.mapM_cons,ar hm,ar h1];rfl
   ·cases i with
    |zero=>exact hv
    |succ i=>exact h3 i (by simpa using a) (by simpa using b)
  cases rv with
  |tmp t =>
   simp only[fY,Vc]at h;obtain⟨vs',h1,rfl⟩:=h;exact cons (ρ t) _ vs' rfl (he t) h1
  |cell a t =>
   simp only[fY,Vi,Vc]at h;obtain⟨v,hv,vs',h1,rfl⟩:=h;obtain⟨ad,cv,ha,hl,hr⟩:=HR R hv (he a);refine cons v cv vs' ?_ hr h1;simp only[qE,ha];have:(asAddr (.pointer (some ad))).run P w=.ok ad w:=rfl;rw[ar this];exact hl
def HT (fn:Func)(tmps:Array Value):results fn tmps=(do let vs <- fn.results.mapM (qE tmps);pure (if h:vs.size=1 then vs[0] else .tuple vs)):=by
 unfold results;congr 1
def yc {vs:List ZI}(R:ZQ P G Γ H w)(he:∀t,ZL P Γ H w (ρ t) (tmps.getD t undef))(h:fY P H ρ fn.results.toList=some vs):
  ∃cv,(results fn tmps).run P w=.ok cv w/\ZL P Γ H w (kQ vs) cv:=by
 obtain⟨cs,h1,h2,h3⟩:=HS R he _ _ h;have hm:(fn.results.mapM (qE tmps)).run P w=.ok cs.toArray w:=by
  rw[Ys,Sem.run_map,h1];rfl
 rw[HT,ar hm]
 match vs,cs,h2,h3 with
 | [v],[c],_,h3=>exact⟨c,rfl,h3 0 ZD ZD⟩
 | [],[],_,h3=>exact⟨_,rfl,.nc (cs:=[]) rfl h3⟩
 |v :: v' :: vs,c :: c' :: cs,h2,h3 =>
  refine⟨.tuple (c :: c' :: cs).toArray,?_,.nc h2 h3⟩;have hne:¬(c :: c' :: cs).toArray.size=1:=ZD
  rw[dif_neg hne];rfl
def iz (P:Program)(G:Nat->Option (List ZI))(H:ZH)(v:ZI)(H':ZH)(v':ZI):Prop :=
 ∀ Γ w,ZQ P G Γ H w->∃ Γ',ZQ P G Γ' H' w/\ZS Γ H w Γ' H' w/\∀cv,ZL P Γ H w v cv->ZL P Γ' H' w v' cv
def ak (P:Program)(G:Nat->Option (List ZI))(H₀:ZH)(K:ZN->ZH->Prop)(v:ZI)(H:ZH):Prop :=
 ∃v' H',iz P G H v H' v'/\H₀.A<=H'.A/\K (.ret v') H'
theorem iz.refl (H:ZH)(v:ZI):iz P G H v H v:=fun Γ _ R=>⟨Γ,R,ZS.refl _ _ _,fun _ h=>h⟩
def ak.mk {K:ZN->ZH->Prop}{H:ZH}(hn:H₀.A<=H.A)(hk:K (.ret v) H):ak P G H₀ K v H:=⟨v,H,iz.refl H v,hn,hk⟩
def qF (P:Program)(G:Nat->Option (List ZI))(rs:List ResultVar)(H₀:ZH)(K:ZN->ZH->Prop):AX->St->Prop
 |.normal,s|.ret,s=>bj (fY P s.H s.ρ rs) fun vs=>ak P G H₀ K (kQ vs) s.H
 |.panic,s=>∃H',iz P G s.H (.lit undef) H' (.lit undef)/\H₀.A<=H'.A/\K .panic H'
 |_,_=>False
def dD (args:List ZI):Env:=fun t=>(args[t]?).getD (.lit undef)
def ae.BJ        (hf : P.funcs[f]? = some fn) (hb : fn.body = some c) (hres : fn.results.toList = rs) (hnt : fn.ntmps = n) (hname : (fn.name == "runtime.NumGoroutine") = false)
  (hargs:args.length<=n) (hW:W P G n none c (qF P G rs H K) ⟨dD args,H⟩):ae P G f args H K:=by
 subst hres;subst hnt;refine⟨⟨fn,hf,by rw[hb];rfl,hname⟩,fun Γ w cargs R hr=>?_⟩;refine callsIn_of_wp_marks hf hb trivial ?_;have hs:ZY P G fn.ntmps ⟨w.heap.size,[]⟩ Γ ⟨dD args,H⟩ { tmps:=cargs++Array.replicate (fn.ntmps-cargs.size) undef,defers:=[] } w:=by
  refine⟨by have:=hr.1;simp;omega,fun t=>?_,R,⟨[],rfl,Marks.nil⟩,ZG⟩;have hsz:=hr.1;by_cases ht:t<args.length
  ·have h1:(cargs++Array.replicate (fn.ntmps-cargs.size) undef).getD t undef=cargs[t]' V:=by
    simp only[V0];rw[Yn V,Vo V];rfl
   have h2:dD args t=args[t]:=by
    unfold dD;rw[Vd ht];rfl
   rw[h1];show ZL P Γ H w (dD args t) _;rw[h2];exact hr.2 t ht (V)
  ·have h1:(cargs++Array.replicate (fn.ntmps-cargs.size) undef).getD t undef=undef:=by
    simp only[V0];rw[Zb V,Xp];split<;>rfl
   have h2:dD args t=.lit undef:=by
    unfold dD;rw[Vm V];rfl
   rw[h1];show ZL P Γ H w (dD args t) _;rw[h2];exact .lit _
 refine wpIn_mono (hW ⟨w.heap.size,[]⟩ Γ _ w none hs rfl) ?_;rintro e a' w' ⟨x,s',Γ',hx,hq,hs',E,hn,_,_⟩;have leave:∀(u:FrameMode) (Q:World->Prop),u≠.run->(∀w'',ZQ P G Γ' s'.H w''->(∀t,ZL P Γ' s'.H w'' (s'.ρ t) (a'.tmps.getD t undef))->ZS Γ H w Γ' s'.H w''->LeavesIn Fence.wide 0 P fn a'.tmps (fL P G Γ H w K) [] u w'') ->
   LeavesInM Fence.wide 0 P fn a'.tmps (fL P G Γ H w K) a'.defers u w' :=
  fun u _ hu hfin=>by
   obtain⟨m,hm,hmarks⟩:=hs'.defers;rw[hm,List.append_nil];exact HQ hu m w' hmarks.1 hmarks.2 hs'.heap hs'.env E hfin
 have normal:bj (fY P s'.H s'.ρ fn.results.toList) (fun vs=>ak P G H K (kQ vs) s'.H)->LeavesInM Fence.wide 0 P fn a'.tmps (fL P G Γ H w K) a'.defers .returning w':=by
  rintro⟨vs,hvs,v',H',hw,hn',hk⟩;refine leave .returning (fun _=>True) ZD fun w'' R'' he'' E''=>?_;obtain⟨cv,h1,h2⟩:=yc R'' he'' hvs;obtain⟨Γ'',R3,E3,hv3⟩:=hw Γ' w'' R'';exact⟨cv,h1,.ret v',H',Γ'',hv3 cv h2,hk,R3,E''.trans hn E3,hn'⟩
 cases e with
 |normal=>cases x with
  |normal=>exact normal hq
  |_=>exact hx.elim
 |ret=>cases x with
  |ret=>exact normal hq
  |_=>exact hx.elim
 |panic chain=>cases x with
  |panic =>
   obtain⟨H',hw,hn',hk⟩:=hq;refine leave (.panicking chain) (fun _=>True) ZD fun w'' R'' he'' E''=>?_;obtain⟨Γ'',R3,E3,_⟩:=hw Γ' w'' R'';exact⟨.panic,H',Γ'',hx,hk,R3,E''.trans hn E3,hn'⟩
  |_=>exact hx.elim
 |exit i=>cases x with
  |exit j=>exact hq.elim
  |_=>exact hx.elim
 |goto i=>cases x with
  |goto j=>exact hq.elim
  |_=>exact hx.elim
 |outgrown=>cases x<;>exact hx.elim
def ae.HU        (hf : P.funcs[f]? = some fn) (hb : fn.body = some c) (hres : fn.results.toList = rs) (hnt : fn.ntmps = n) (hname : (fn.name == "runtime.NumGoroutine") = false)
  (hfit:fits n c=true) (hargs:args.length<=n) (h:vc P G n none c (qF P G rs H K) ⟨dD args,H⟩):ae P G f args H K :=
 .BJ hf hb hres hnt hname hargs (sH c _ _ hfit h)
end Go.Hx
