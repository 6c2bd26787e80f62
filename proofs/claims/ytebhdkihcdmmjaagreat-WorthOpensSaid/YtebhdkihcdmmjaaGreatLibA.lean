/-
  Abstract values, abstract heaps, and how they stand to the model's values and worlds. Own work: no program stands in this text.
-/
import Derived.RangeFuncLeaves
import Derived.KernelRfl
import Derived.Wp
import Derived.Laws.Cells
import Derived.Laws.Entries
import Derived.IntWalk
import Derived.Laws.BytesString
set_option linter.all false
namespace Go
theorem U {P:Prop}(h:P:=by omega):P:=h
theorem aaw {P:Prop}(h:P:=by simp):P:=h
theorem aax {P:Prop}(h:P:=by decide):P:=h
theorem aay {P:Prop}(h:P:=by kernel_rfl):P:=h
theorem aaz {n:Nat}:n<=n:=Nat.le_refl n
def an:=@List.mem_of_getElem?
def W4:=@Option.map_eq_some_iff
def W5:=@List.getElem?_eq_getElem
def W6:=@Go.IntWalk.i64_in
def W7:=@if_neg
def W8:=@if_pos
def W9:=@List.take_of_length_le
def Xa:=@Option.bind_eq_some_iff
def Xb:=@List.length_set
def Xc:=@List.eq_nil_of_length_eq_zero
def Xd:=@Nat.lt_of_lt_of_le
def Xe:=@List.getElem?_append_left
def Xf:=@List.getElem?_eq_none
def Xg:=@List.mem_iff_getElem?
def Xh:=@List.getD_eq_getElem?_getD
def Xi:=@List.getElem_map
def Xj:=@List.getElem?_set_self
def Xk:=@Array.getElem?_eq_getElem
def Xl:=@List.length_map
def Xm:=@List.length_take
def Xn:=@Int.eq_ofNat_of_zero_le
def Xo:=@Nat.not_lt_zero
def Xp:=@List.getElem?_append_right
def Xq:=@Nat.pow_le_pow_right
def Xr:=@Nat.eq_of_beq_eq_true
def Xs:=@List.getElem?_set_ne
def Xt:=@List.mem_append
def Xu:=@Nat.lt_or_ge
def Xv:=@Bool.and_eq_true
def Xw:=@Classical.byContradiction
def Xx:=@List.mem_map
def Xy:=@decide_eq_true
def Xz:=@List.mem_of_mem_take
def XA:=@List.getElem_mem
def XB:=@Nat.testBit_or
def XC:=@List.getElem?_take_of_lt
def XD:=@List.getElem_cons_zero
def XE:=@Nat.testBit_and
def XF:=@Int.tmod_eq_emod_of_nonneg
def XG:=@Nat.pow_lt_pow_right
def XH:=@List.length_replicate
def XI:=@List.mem_or_eq_of_mem_set
def XJ:=@List.mem_range
def XK:=@List.all_eq_true
def XL:=@decide_eq_false
def XM:=@Array.getD_eq_getD_getElem?
def XN:=@Nat.le_trans
def XO:=@List.take_append_drop
def XP:=@Option.isSome_iff_exists
def XQ:=@List.ext_getElem?
def XR:=@List.getElem?_eq_some_iff
def XS:=@List.drop_eq_getElem_cons
def XT:=@Nat.testBit_two_pow_sub_one
def XU:=@Bool.or_eq_true
def XV:=@Nat.or_lt_two_pow
def XW:=@List.eq_of_mem_replicate
def XX:=@Nat.zero_testBit
def XY:=@Array.getElem?_eq_some_iff
def XZ:=@Array.getElem?_setIfInBounds
def X0:=@decide_eq_true_iff
def X1:=@List.length_drop
def X2:=@List.map_append
def X3:=@List.getElem_append_left
def X4:=@Nat.eq_of_testBit_eq
def X5:=@List.mem_cons_of_mem
def X6:=@Nat.lt_succ_self
def X7:=@List.length_singleton
def X8:=@List.getElem_cons_succ
def X9:=@Nat.mul_le_mul_right
def Ya:=@Array.getElem_toList
def Yb:=@Nat.le_succ
def Yc:=@Bool.eq_false_or_eq_true
def Yd:=@List.length_pos_iff
def Ye:=@List.getElem_append_right
def Yf:=@Nat.testBit_lt_two_pow
def Yg:=@Nat.testBit_two_pow_self
def Yh:=@Nat.add_right_cancel_iff
def Yi:=@List.set_append_right
def Yj:=@List.range_succ
def Yk:=@List.map_congr_left
def Yl:=@List.take_length
def Ym:=@List.length_range
def Yn:=@List.foldl_append
def Yo:=@Nat.mod_two_eq_zero_or_one
def Yp:=@Nat.eq_zero_or_pos
def Yq:=@Array.getElem?_eq_none
def Yr:=@List.pairwise_iff_getElem
def Ys:=@List.foldl_cons
def Yt:=@Bool.eq_iff_iff
def Yu:=@Nat.lt_of_not_le
def Yv:=@Nat.testBit_two_pow
def Yw:=@Nat.le_of_ble_eq_true
def Yx:=@Int.mul_le_mul
def Yy:=@Nat.two_pow_pos
def Yz:=@Nat.add_mul
def YA:=@List.mem_cons_self
def YB:=@List.replicate_succ
def YC:=@List.getElem?_eq_none_iff
def YD:=@List.mem_append_right
def YE:=@List.set_eq_of_length_le
def YF:=@Int.emod_lt_of_pos
def YG:=@List.take_append_of_le_length
def YH:=@List.getElem_set
def YI:=@Int.mul_le_mul_of_nonneg_left
def YJ:=@List.mem_of_mem_drop
def YK:=@List.getElem?_zipIdx
def YL:=@decide_eq_false_iff_not
def YM:=@List.getElem?_inj
def YN:=@Int.emod_nonneg
def YO:=@Array.length_toList
def YP:=@List.countP_cons
def YQ:=@Nat.add_assoc
def YR:=@List.map_replicate
def YS:=@List.getElem?_drop
def YT:=@List.pairwise_append
def YU:=@List.mem_append_left
def YV:=@Nat.lt_trichotomy
def YW:=@List.nodup_cons
def YX:=@List.mem_filter
def YY:=@List.getElem_take
def YZ:=@List.getElem?_set
def Y0:=@Array.getElem?_replicate
def Y1:=@Nat.zero_mul
def Y2:=@List.mem_flatten
def Y3:=@List.drop_drop
def Y4:=@Nat.lt_of_le_of_lt
def Y5:=@List.pairwise_cons
def Y6:=@List.filter_append
def Y7:=@Nat.sub_self
def Y8:=@Nat.beq_refl
def Y9:=@List.sum_cons
def Za:=@List.getElem_drop
def Zb:=@Array.getElem_map
def Zc:=@Nat.shiftRight_eq_div_pow
def Zd:=@Go.IntWalk.u64_in
def Ze:=@Int.mul_nonneg
def Zf:=@Array.getElem?_push
def Zg:=@Nat.succ_mul
def Zh:=@List.set_set
def Zi:=@Nat.min_eq_left
def Zj:=@Nat.lt_irrefl
def Zk:=@Nat.add_sub_cancel_left
def Zl:=@Nat.add_sub_cancel
def Zm:=@List.zip_cons_cons
def Zn:=@List.find?_eq_none
def Zo:=@List.map_set
def Zp:=@List.length_filter_le
def Zq:=@Array.eq_empty_of_size_eq_zero
def Zr:=@List.nodup_range
def Zs:=@List.set_append_left
def Zt:=@Int.ofNat_eq_natCast
def Zu:=@Nat.zero_le
def Zv:=@List.take_set_of_le
def Zw:=@List.getElem?_concat_length
def Zx:=@List.flatten_append
def Zy:=@Array.getElem?_append_left
def Zz:=@Nat.ne_of_lt
def ZA:=@Nat.le_of_lt
def ZB:=@List.zip_nil_right
def ZC:=@Nat.lt_pow_two_of_testBit
def ZD:=@Array.mapM_eq_mapM_toList
def ZE:=@Nat.blt_eq
def ZF:=@List.getElem?_replicate
def ZG:=@Nat.le_of_not_lt
def ZH:=@Bool.not_eq_true
def ZI:=@List.drop_eq_nil_of_le
def ZJ:=@Nat.and_le_left
def ZK:=@List.idxOf_cons
def ZL:=@List.replicate_succ'
def ZM:=@Bool.or_eq_false_iff
def ZN:=@Array.toArray_toList
def ZO:=@List.foldl_nil
def ZP:=@List.filterMap_cons
def ZQ:=@Int.toNat_of_nonneg
def ZR:=@Int.mul_add
def ZS:=@Nat.xor_lt_two_pow
def ZT:=@List.set_eq_take_append_cons_drop
def ZU:=@List.set_comm
def ZV:=@Go.IntWalk.u8_in
def ZW:=@Bool.false_or
def ZX:=@Nat.not_le
def ZY:=@Nat.mod_lt
def ZZ:=@List.nodup_append
def Z0:=@Classical.not_not
def Z1:=@Bool.not_eq_true'
def Z2:=@Bool.eq_false_iff
def Z3:=@Array.size_append
def Z4:=@Nat.mul_comm
def Z5:=@Int.mul_le_mul_of_nonneg_right
def Z6:=@Int.mul_comm
def Z7:=@Int.add_zero
def Z8:=@Array.toList_map
def Z9:=@Nat.testBit_xor
def aaa:=@List.sum_append
def aab:=@List.idxOf_lt_length_of_mem
def aac:=@Int.one_mul
def aad:=@Array.getElem?_append_right
def aae:=@List.nodup_iff_pairwise_ne
def aaf:=@List.mem_of_find?_eq_some
def aag:=@Int.le_of_mul_le_mul_left
def aah:=@List.length_erase_of_mem
def aai:=@Nat.mul_assoc
def aaj:=@List.drop_of_length_le
def aak:=@List.append_eq_nil_iff
def aal:=@Int.ediv_eq_zero_of_lt
def aam:=@List.eq_nil_or_concat
def aan:=@List.concat_eq_append
def aao:=@Int.sub_zero
def aap:=@Classical.em
def aaq:=@List.mem_of_getLast?
def aar:=@List.mem_erase_of_ne
def aas:=@List.getElem_zipWith
def aat:=@Int.mul_ediv_self_le
def aau:=@List.getElem?_range
def aav:=@Int.mul_one
end Go
namespace Go.Hx
variable {id off:Nat}{P:Program}{cv:Value}{w w':World}
inductive nnn where
 |lit (v:Value)
 |L (len:Nat) (cells:List nnn)
 |Z (id gen off len sz:Nat)
 |Y (id gen off:Nat)
 |ni (cells:List nnn) (off:Nat)
 |agg (cells:List nnn)
 |nc (vs:List nnn)
 |nb (f:FuncId) (first cap:List nnn)
 |nk (id:Nat)
instance:Inhabited nnn:=⟨.lit undef⟩
abbrev Env:=Nat->nnn
inductive Blk where
 |O (gen:Nat) (elem:TypeId) (cells:List nnn)
 |loop (st:LoopState) (pend:Option Code) (n:Nat) (env:Env) (ps:Array Tmp) (asg body:Code)
 |mp (es:List (Int × Int))
 |nj
structure nnl where
 get:Nat->Option Blk
 C:Nat
abbrev aA:=Nat->Option (Nat × Nat × Nat)
def aA.dD (Γ:aA)(b:Nat):Prop:=∃id base n,Γ id=some (b,base,n)
def tH (Γ:aA)(H:nnl)(id gen off len sz:Nat)(cv:Value):Prop :=
 id<H.C/\cv.oneCell=true/\H.get id≠some .nj/\∀g e cells,H.get id=some (.O g e cells)->gen<=g/\(gen=g ->
  match Γ id with
  |some (b,base,n)=>∃a cap,cv=.slice (some a) len cap/\len<=cap/\off+len*sz<=cells.length /\
    ((a=⟨b,base+off,none⟩/\base+off+cap*sz<=n)\/(len=0/\cap=0))
  |none=>off=0/\len=0/\cv=.slice none 0 0)
def tI (Γ:aA)(H:nnl)(id gen off:Nat)(cv:Value):Prop :=
 id<H.C/\cv.oneCell=true/\H.get id≠some .nj/\∀g e cells,H.get id=some (.O g e cells)->gen<=g/\(gen=g ->
  ∃b base n,Γ id=some (b,base,n)/\cv=.pointer (some ⟨b,base+off,none⟩))
def dq:Nat->List (Int × Int)->List MapEntry
 |_,[]=>[]
 |i,(k,v) :: l=>⟨.int .i64 k,.int .i64 v,i⟩ :: dq (i+1) l
def fL (es:List (Int × Int)):Obj:=.map (dq 0 es).toArray es.length
def tJ (Γ:aA)(H:nnl)(id:Nat)(cv:Value):Prop :=
 id<H.C/\cv.oneCell=true/\H.get id≠some .nj/\(∀st pend n env ps asg body,H.get id=some (.loop st pend n env ps asg body) ->
  ∃b,Γ id=some (b,0,0)/\cv=.func (.yield b) #[] #[])/\∀es,H.get id=some (.mp es)->∃b,Γ id=some (b,0,0)/\cv=.map (some b)
inductive nnc (P:Program)(Γ:aA)(H:nnl)(w:World):nnn->Value->Prop
 |lit (v:Value):nnc P Γ H w (.lit v) v
 |nu (a:Option Addr) (cap:Nat):nnc P Γ H w (.L 0 []) (.slice a 0 cap)
 |L {len:Nat} {cells:List nnn} {b off cap:Nat} {cs:List Value} (hb:¬ Γ.dD b) (hlt:b<w.heap.size) (hlen:len<=cap)
   (hcs:cs.length=cells.length)
   (hcell:∀i (h:i<cs.length),w.cell? ⟨b,off+i,none⟩=some cs[i])
   (hrel:∀i (h:i<cells.length) (h':i<cs.length),nnc P Γ H w cells[i] cs[i]):
   nnc P Γ H w (.L len cells) (.slice (some ⟨b,off,none⟩) len cap)
 |Z {id gen off len sz:Nat} {cv:Value} (h:tH Γ H id gen off len sz cv):nnc P Γ H w (.Z id gen off len sz) cv
 |Y {id gen off:Nat} {cv:Value} (h:tI Γ H id gen off cv):nnc P Γ H w (.Y id gen off) cv
 |ni {cells:List nnn} {off b o:Nat} {cs:List Value} (hb:¬ Γ.dD b) (hlt:b<w.heap.size)
   (hcs:cs.length=cells.length)
   (hcell:∀i (h:i<cs.length),w.cell? ⟨b,o+i,none⟩=some cs[i])
   (hrel:∀i (h:i<cells.length) (h':i<cs.length),nnc P Γ H w cells[i] cs[i]):
   nnc P Γ H w (.ni cells off) (.pointer (some ⟨b,o+off,none⟩))
 |agg {cells:List nnn} {cs:List Value} (hcs:cs.length=cells.length)
   (hrel:∀i (h:i<cells.length) (h':i<cs.length),nnc P Γ H w cells[i] cs[i]):nnc P Γ H w (.agg cells) (.agg cs.toArray)
 |nc {cells:List nnn} {cs:List Value} (hcs:cs.length=cells.length)
   (hrel:∀i (h:i<cells.length) (h':i<cs.length),nnc P Γ H w cells[i] cs[i]):nnc P Γ H w (.nc cells) (.tuple cs.toArray)
 |nb {f:FuncId} {first cap:List nnn} {fs cs:List Value} (hfs:fs.length=first.length) (hcs:cs.length=cap.length)
   (hf:∀i (h:i<first.length) (h':i<fs.length),nnc P Γ H w first[i] fs[i])
   (hc:∀i (h:i<cap.length) (h':i<cs.length),nnc P Γ H w cap[i] cs[i]):
   nnc P Γ H w (.nb f first cap) (.func (.func f) fs.toArray cs.toArray)
 |nk {id:Nat} {cv:Value} (h:tJ Γ H id cv):nnc P Γ H w (.nk id) cv
def Blk.le (Γ Γ':aA)(id:Nat):Blk->Blk->Prop
 |.O g e cells,.O g' e' cells'=>g<=g'/\(g=g'->Γ' id=Γ id/\e'=e/\cells'.length=cells.length)
 |.loop _ _ n env ps asg body,.loop _ _ n' env' ps' asg' body'=>Γ' id=Γ id/\n'=n/\env'=env/\ps'=ps/\asg'=asg/\body'=body
 |.mp _,.mp _=>Γ' id=Γ id
 |.nj,_=>True
 |_,_=>False
def Kind (w w':World):Prop:=∀(b:Nat) (c:Array Value) (e:TypeId) (f:Nat × Nat),w.heap[b]?=some (.cells c e f)->∃c',w'.heap[b]?=some (.cells c' e f)/\c'.size=c.size
def Kind.refl (w:World):Kind w w:=fun _ c _ _ h=>⟨c,h,rfl⟩
theorem Kind.trans {w'':World}(h:Kind w w')(k:Kind w' w''):Kind w w'':=fun b c e f hb=>by
 obtain⟨c1,h1,h2⟩:=h b c e f hb;obtain⟨c2,h3,h4⟩:=k b c1 e f h1;exact⟨c2,h3,h4.trans h2⟩
def rA (Γ:aA)(w:World)(Γ':aA):Prop:=∀id b x y,Γ' id=some (b,x,y)->b<w.heap.size->∃x' y',Γ id=some (b,x',y')
def rA.refl (Γ:aA)(w:World):rA Γ w Γ:=fun _ _ x y h _=>⟨x,y,h⟩
structure Evo (Γ:aA)(H:nnl)(w:World)(Γ':aA)(H':nnl)(w':World):Prop where
 os:w'.os=w.os
 tape:w'.tape=w.tape
 output:w'.output=w.output
 size:w.heap.size<=w'.heap.size
 nf:∀b,b<w.heap.size->¬ Γ.dD b->w'.heap[b]?=w.heap[b]?/\¬ Γ'.dD b
 na:∀id,id<H.C->id<H'.C->∀x',H'.get id=some x'->∃x,H.get id=some x/\Blk.le Γ Γ' id x x'
 nq:∀a,a.block<w.heap.size->w'.frozen? a=w.frozen? a
 kind:Kind w w'
 nL:rA Γ w Γ'
def Blk.le_refl (Γ:aA)(id:Nat)(x:Blk):Blk.le Γ Γ id x x:=by
 cases x<;>simp[Blk.le]
theorem Evo.refl (Γ:aA)(H:nnl)(w:World):Evo Γ H w Γ H w :=
 ⟨rfl,rfl,rfl,aaz,fun _ _ h=>⟨rfl,h⟩,fun _ _ _ x' h=>⟨x',h,Blk.le_refl _ _ _⟩,fun _ _=>rfl,.refl _,.refl _ _⟩
variable {Γ Γ':aA}
def Blk.xq {x:Blk}(h:Blk.le Γ Γ' id x .nj):x=.nj:=by
 cases x<;>simp_all[Blk.le]
def Blk.le_trans {Γ₁ Γ₂ Γ₃:aA}{id:Nat}{x y z:Blk}(h:Blk.le Γ₁ Γ₂ id x y)(k:Blk.le Γ₂ Γ₃ id y z):Blk.le Γ₁ Γ₃ id x z:=by
 cases x<;>cases y<;>cases z<;>simp only[Blk.le]at *
 ·rename_i g e c g' e' c' g'' e'' c'';refine⟨U,fun hg=>?_⟩;obtain⟨h1,h2⟩:=h;obtain⟨k1,k2⟩:=k;obtain⟨a1,a2,a3⟩:=h2 U;obtain⟨b1,b2,b3⟩:=k2 U;exact⟨b1.trans a1,b2.trans a2,b3.trans a3⟩
 ·obtain⟨a1,a2,a3,a4,a5,a6⟩:=h;obtain⟨b1,b2,b3,b4,b5,b6⟩:=k;exact⟨b1.trans a1,b2.trans a2,b3.trans a3,b4.trans a4,b5.trans a5,b6.trans a6⟩
 ·exact k.trans h
theorem Evo.trans {Γ₁ Γ₂ Γ₃:aA}{H₁ H₂ H₃:nnl}{w₁ w₂ w₃:World}(h:Evo Γ₁ H₁ w₁ Γ₂ H₂ w₂)(hn:H₁.C<=H₂.C)
  (k:Evo Γ₂ H₂ w₂ Γ₃ H₃ w₃):Evo Γ₁ H₁ w₁ Γ₃ H₃ w₃ where
 os:=k.os.trans h.os
 tape:=k.tape.trans h.tape
 output:=k.output.trans h.output
 size:=XN h.size k.size
 nf b hb ho:=by
  obtain⟨a1,a2⟩:=h.nf b hb ho;obtain⟨b1,b2⟩:=k.nf b (Xd hb h.size) a2;exact⟨b1.trans a1,b2⟩
 na id h1 h3 z hz:=by
  obtain⟨y,hy,hyz⟩:=k.na id (Xd h1 hn) h3 z hz;obtain⟨x,hx,hxy⟩:=h.na id h1 (Xd h1 hn) y hy;exact⟨x,hx,Blk.le_trans hxy hyz⟩
 nq a ha:=(k.nq a (Xd ha h.size)).trans (h.nq a ha)
 kind:=h.kind.trans k.kind
 nL id b x y hb hlt:=by
  obtain⟨x1,y1,h1⟩:=k.nL id b x y hb (Xd hlt h.size);exact h.nL id b x1 y1 h1 hlt
variable {H H':nnl}
theorem Evo.cell (h:Evo Γ H w Γ' H' w'){b o:Nat}(hb:b<w.heap.size)(ho:¬ Γ.dD b):
  w'.cell? ⟨b,o,none⟩=w.cell? ⟨b,o,none⟩:=by
 have:=(h.nf b hb ho).1;simp only[World.cell?,this]
def tH.aU {gen len sz:Nat}(h:tH Γ H id gen off len sz cv)
  (k:Evo Γ H w Γ' H' w') (hn:H.C<=H'.C):tH Γ' H' id gen off len sz cv:=by
 obtain⟨h1,h2,h0,h3⟩:=h;refine⟨U,h2,fun hr=>(by
  obtain⟨x,hx,hle⟩:=k.na id h1 U _ hr;exact h0 (Blk.xq hle ▸ hx)),fun g' e' cells' hg'=>?_⟩
 obtain⟨x,hx,hle⟩:=k.na id h1 U _ hg';cases x with
 |loop=>exact hle.elim
 |mp=>exact hle.elim
 |nj=>exact absurd hx h0
 |O g e cells =>
  obtain⟨a1,a2⟩:=hle;obtain⟨b1,b2⟩:=h3 g e cells hx;refine⟨U,fun hgg=>?_⟩;obtain⟨c1,c2,c3⟩:=a2 U;have:=b2 U;rw[c1,c3];exact this
def tI.aU {gen:Nat}(h:tI Γ H id gen off cv)
  (k:Evo Γ H w Γ' H' w') (hn:H.C<=H'.C):tI Γ' H' id gen off cv:=by
 obtain⟨h1,h2,h0,h3⟩:=h;refine⟨U,h2,fun hr=>(by
  obtain⟨x,hx,hle⟩:=k.na id h1 U _ hr;exact h0 (Blk.xq hle ▸ hx)),fun g' e' cells' hg'=>?_⟩
 obtain⟨x,hx,hle⟩:=k.na id h1 U _ hg';cases x with
 |loop=>exact hle.elim
 |mp=>exact hle.elim
 |nj=>exact absurd hx h0
 |O g e cells =>
  obtain⟨a1,a2⟩:=hle;obtain⟨b1,b2⟩:=h3 g e cells hx;refine⟨U,fun hgg=>?_⟩;obtain⟨c1,c2,c3⟩:=a2 U;have:=b2 U;rw[c1];exact this
def tJ.aU (h:tJ Γ H id cv)
  (k:Evo Γ H w Γ' H' w') (hn:H.C<=H'.C):tJ Γ' H' id cv:=by
 obtain⟨h1,h2,h0,h3,h4⟩:=h;refine⟨U,h2,fun hr=>(by
  obtain⟨x,hx,hle⟩:=k.na id h1 U _ hr;exact h0 (Blk.xq hle ▸ hx)),fun st pend n env ps asg body hg'=>?_,fun es hg'=>?_⟩
 ·obtain⟨x,hx,hle⟩:=k.na id h1 U _ hg';cases x with
  |O g e cells=>exact hle.elim
  |mp=>exact hle.elim
  |nj=>exact absurd hx h0
  |loop st0 pend0 n0 env0 ps0 asg0 body0 =>
   obtain⟨a1,_⟩:=hle;obtain⟨b,hb,hc⟩:=h3 _ _ _ _ _ _ _ hx;exact⟨b,a1.trans hb,hc⟩
 ·obtain⟨x,hx,hle⟩:=k.na id h1 U _ hg';cases x with
  |O g e cells=>exact hle.elim
  |loop=>exact hle.elim
  |nj=>exact absurd hx h0
  |mp es0 =>
   obtain⟨b,hb,hc⟩:=h4 _ hx;exact⟨b,Eq.trans hle hb,hc⟩
theorem nnc.aU {v:nnn}(h:nnc P Γ H w v cv)
  (k:Evo Γ H w Γ' H' w') (hn:H.C<=H'.C):nnc P Γ' H' w' v cv:=by
 induction h with
 |lit v=>exact .lit v
 |nu a cap=>exact .nu a cap
 |L hb hlt hlen hcs hcell hrel ih =>
  exact .L (k.nf _ hlt hb).2 (Xd hlt k.size) hlen hcs (fun i hi=>(k.cell hlt hb).trans (hcell i hi)) ih
 |Z h=>exact .Z (h.aU k hn)
 |Y h=>exact .Y (h.aU k hn)
 |ni hb hlt hcs hcell hrel ih =>
  exact .ni (k.nf _ hlt hb).2 (Xd hlt k.size) hcs (fun i hi=>(k.cell hlt hb).trans (hcell i hi)) ih
 |agg hcs hrel ih=>exact .agg hcs ih
 |nc hcs hrel ih=>exact .nc hcs ih
 |nb hfs hcs hf hc ih1 ih2=>exact .nb hfs hcs ih1 ih2
 |nk h=>exact .nk (h.aU k hn)
def pD (Γ:aA)(w:World)(r:Nat):Prop:=¬ Γ.dD r/\w.heap[r]?=some (.deferred (some []))
def pD.aU {r:Nat}(h:pD Γ w r)(k:Evo Γ H w Γ' H' w'):pD Γ' w' r:=by
 obtain⟨h1,h2⟩:=h;have hlt:r<w.heap.size:=by
  rcases Xu r w.heap.size with h|h
  ·exact h
  ·rw[Yq h]at h2;cases h2
 obtain⟨a,b⟩:=k.nf r hlt h1;exact⟨b,a.trans h2⟩
structure nng (P:Program)(G:Nat->Option (List nnn))(Γ:aA)(H:nnl)(w:World):Prop where
 O:∀id g e cells,H.get id=some (.O g e cells) ->
  match Γ id with
  |some (b,base,n)=>∃c,w.heap[b]?=some (.cells c e (0,0))/\c.size=n/\base+cells.length<=n /\
    ∀i (h:i<cells.length),∃cv,c[base+i]?=some cv/\nnc P Γ H w cells[i] cv
  |none=>cells=[]
 loop:∀id st pend n env ps asg body,H.get id=some (.loop st pend n env ps asg body) ->
  ∃b r,Γ id=some (b,0,0)/\w.heap[b]?=some (.loop r)/\r.state=st/\r.pending=pend/\r.params=ps/\r.assign=asg/\r.body=body /\
   r.tmps.size=n/\(∀t (h:t<r.tmps.size),nnc P Γ H w (env t) r.tmps[t])
 mp:∀id es,H.get id=some (.mp es)->∃b,Γ id=some (b,0,0)/\w.heap[b]?=some (fL es)
 nj:∀id,H.get id=some .nj->Γ id=none
 inj:∀id id' b base n base' n',Γ id=some (b,base,n)->Γ id'=some (b,base',n')->id=id'
 nB:∀id x,Γ id=some x->∃y,H.get id=some y
 lt:∀id b base n,Γ id=some (b,base,n)->b<w.heap.size
 C:∀id y,H.get id=some y->id<H.C
 nz:∀g cells,G g=some cells->nnc P Γ H w (.ni cells 0) (.pointer (some ⟨g,0,none⟩))
 nN:∀g cells,G g=some cells->∃c e f,w.heap[g]?=some (.cells c e f)/\c.size=cells.length
def IP {cells:List nnn}(h:nnc P Γ H w (.ni cells off) cv):∀ {g x:Nat},cv=.pointer (some ⟨g,x,none⟩)->¬ Γ.dD g/\g<w.heap.size:=by
 intro g x e;cases h with
 |ni hb hlt hcs hcell hrel=>cases e;exact⟨hb,hlt⟩
def nng.nK {G:Nat->Option (List nnn)}(R:nng P G Γ H w)(E:Evo Γ H w Γ' H' w')(g:Nat)(cells:List nnn)(h:G g=some cells):∃c e f,w'.heap[g]?=some (.cells c e f)/\c.size=cells.length:=by
 obtain⟨hb,hlt⟩:=IP (R.nz g cells h) rfl;rw[(E.nf g hlt hb).1];exact R.nN g cells h
end Go.Hx
namespace Go.Hx
variable {α:Type}
def nnn.cells:nnn->List nnn
 |.lit v=>v.cells.toList.map .lit
 |.agg cs=>cs
 |.L l c=>[.L l c]
 |.Z a b c d e=>[.Z a b c d e]
 |.Y a b c=>[.Y a b c]
 |.ni a b=>[.ni a b]
 |.nc vs=>[.nc vs]
 |.nb f a b=>[.nb f a b]
 |.nk i=>[.nk i]
def nnn.one:nnn->Bool
 |.lit v=>v.oneCell
 |.agg _|.nc _=>false
 |_=>true
def pE:List nnn->Option (List Value)
 | []=>some []
 |.lit v :: r=>(pE r).map (v :: ·)
 |_ :: _=>none
def nnn.bZ:nnn->Option Value
 |.lit v=>some v
 |.agg cs=>(pE cs).map fun l=>.agg l.toArray
 |_=>none
def cE (P:Program):Sem α->Option α
 |.pure a=>some a
 |.program k=>cE P (k P)
 |.mark _ k=>cE P k
 |_=>none
def nL {P:Program}{s:Sem α}{a:α}(h:cE P s=some a)(w:World):s.run P w=.ok a w:=by
 induction s<;>simp_all[cE,Sem.run]
section
variable {P:Program} {w w':World}
def ao {α β:Type}{s:Sem α}{f:α->Sem β}{a:α}(h:s.run P w=.ok a w'):(s >>= f).run P w=(f a).run P w':=by
 rw[Sem.run_bind,h];rfl
def cf {t:TypeId}{d:TypeDesc}(h:P.underlying t=some d):(underlying t).run P w=.ok d w:=run_underlying h w
def Bi {t:TypeId}{d:TypeDesc}(h:P.underlying t=some d):∃i,P.info? t=some i:=by
 unfold Program.underlying at h;cases hi:P.info? t with
 |none=>simp[hi]at h
 |some i=>exact⟨i,rfl⟩
def run_typeInfo {t:TypeId}{i:TypeInfo}(h:P.info? t=some i):(typeInfo t).run P w=.ok i w:=by
 unfold typeInfo;rw[ao (run_program P w)];simp[h]
def run_sizeOf {t:TypeId}{i:TypeInfo}(h:P.info? t=some i):(sizeOf t).run P w=.ok (P.cellsOf t) w:=by
 unfold sizeOf;rw[ao (run_typeInfo h)];simp[Program.cellsOf,h]
def ic {t:TypeId}{d:TypeDesc}(h:P.underlying t=some d):(sizeOf t).run P w=.ok (P.cellsOf t) w:=by
 obtain⟨i,hi⟩:=Bi h;exact run_sizeOf hi
def pF (d:TypeDesc):Bool:=match d with|.struct _|.array _ _=>true|_=>false
def xt {t:TypeId}{d:TypeDesc}(h:P.underlying t=some d):(isAgg t).run P w=.ok (pF d) w:=by
 unfold isAgg;rw[ao (cf h)];cases d<;>rfl
def IQ {a:Addr}{v:Value}(h:w.cell? a=some v):(load a).run P w=.ok v w:=by
 simp[run_load,h]
def jF (b o i:Nat):(Addr.add ⟨b,o,none⟩ i)=⟨b,o+i,none⟩:=by
 unfold Addr.add;by_cases h:i=0
 ·simp[h]
 ·simp[h]
def pG {b o:Nat}{cs:List Value}(h:∀i (hi:i<cs.length),w.cell? ⟨b,o+i,none⟩=some cs[i]):
  (loadCells ⟨b,o,none⟩ cs.length).run P w=.ok cs.toArray w:=by
 refine run_loadCells_list w ⟨b,o,none⟩ cs fun j v hj=>?_;rw[jF];obtain⟨hlt,hv⟩:=XR.1 hj;rw[<- hv];exact h j hlt
def IR {t:TypeId}{d:TypeDesc}{b o:Nat}{cs:List Value}(hd:P.underlying t=some d)(ha:pF d=true)(hl:cs.length=P.cellsOf t)
  (h:∀i (hi:i<cs.length),w.cell? ⟨b,o+i,none⟩=some cs[i]):(loadVar t ⟨b,o,none⟩).run P w=.ok (.agg cs.toArray) w:=by
 unfold loadVar;rw[ao (xt hd),ha];simp only[if_true];rw[ao (ic hd),<- hl,ao (pG h)];rfl
def IS {t:TypeId}{d:TypeDesc}{a:Addr}{v:Value}(hd:P.underlying t=some d)(ha:pF d=false)
  (h:w.cell? a=some v):(loadVar t a).run P w=.ok v w:=by
 unfold loadVar;rw[ao (xt hd),ha];simp only[Bool.false_eq_true,if_false];exact IQ h
def setRow (c:Array Value)(o:Nat):List Value->Array Value
 | []=>c
 |v :: vs=>setRow (c.setIfInBounds o v) (o+1) vs
def size_setRow (c:Array Value)(o:Nat)(vs:List Value):(setRow c o vs).size=c.size:=by
 induction vs generalizing c o with
 |nil=>rfl
 |cons v vs ih=>simp[setRow,ih]
def Bj (c:Array Value)(o:Nat)(vs:List Value)(h:o+vs.length<=c.size)(i:Nat):
  (setRow c o vs)[i]?=if o<=i/\i<o+vs.length then vs[i-o]? else c[i]?:=by
 induction vs generalizing c o with
 |nil=>simp only[setRow,List.length_nil];rw[W7 U]
 |cons v vs ih =>
  simp only[List.length_cons]at h;rw[setRow,ih _ _ (by simp;omega)];simp only[List.length_cons];by_cases h1:o+1<=i/\i<o+1+vs.length
  ·rw[W8 h1,W8 U];have:i-o=(i-(o+1))+1:=U;rw[this,List.getElem?_cons_succ]
  ·rw[W7 h1];by_cases h2:i=o
   ·subst h2;rw[W8 U];simp[XZ];omega
   ·rw[W7 U];rw[XZ,W7 U]
def bx (w:World)(b:Nat)(o:Obj):World:={ w with heap:=w.heap.setIfInBounds b o }
def rB {w:World}{b:Nat}{o o':Obj}(h:w.heap[b]?=some o)(h1:∀c e f,o=.cells c e f->f=(0,0))(h2:∀c e f,o'=.cells c e f->f=(0,0))(a:Addr):(bx w b o').frozen? a=w.frozen? a:=by
 have hlt:b<w.heap.size:=by
  rcases Xu b w.heap.size with h'|h'
  ·exact h'
  ·rw[Yq h']at h;cases h
 unfold World.frozen? bx;simp only[XZ];by_cases hb:b=a.block
 ·subst hb;rw[W8 rfl,W8 hlt,h];cases o with
  |cells c e f =>
   obtain rfl:=h1 c e f rfl;cases o' with
   |cells c' e' f' =>
    obtain rfl:=h2 c' e' f' rfl;simp
   |_=>simp
  |_ =>
   cases o' with
   |cells c' e' f' =>
    obtain rfl:=h2 c' e' f' rfl;simp
   |_=>rfl
 ·rw[W7 hb]
def pH {w w':World}{o:Obj}(hw:w'.heap=w.heap.push o)(ho:∀c e f,o=.cells c e f->f=(0,0))(a:Addr):w'.frozen? a=w.frozen? a:=by
 unfold World.frozen?;rw[hw,Zf];by_cases h:a.block=w.heap.size
 ·rw[W8 h,h,Yq aaz];cases o with
  |cells c e f =>
   obtain rfl:=ho c e f rfl;simp
  |_=>rfl
 ·rw[W7 h]
def IT {b o:Nat}{c:Array Value}{e:TypeId}{v:Value}(h:w.heap[b]?=some (.cells c e (0,0))):
  w.setCell ⟨b,o,none⟩ v=bx w b (.cells (c.setIfInBounds o v) e (0,0)):=by
 unfold World.setCell bx;congr 1;apply Array.ext_getElem?;intro i;rw[Array.getElem?_modify,XZ];by_cases hi:b=i
 ·subst hi;have hlt:b<w.heap.size:=by
   rcases Xu b w.heap.size with h'|h'
   ·exact h'
   ·rw[Yq h']at h;cases h
  have hb:w.heap[b]=.cells c e (0,0):=by simpa[Xk hlt] using h
  simp[hlt,hb]
 ·simp[hi]
def Bk {b:Nat}{o:Obj}(h:w.heap[b]?=some o):b<w.heap.size:=by
 rcases Xu b w.heap.size with h'|h'
 ·exact h'
 ·rw[Yq h']at h;cases h
def dL (b:Nat)(o:Obj)(i:Nat):(bx w b o).heap[i]?=if i=b/\b<w.heap.size then some o else w.heap[i]?:=by
 unfold bx;simp only[XZ];by_cases h:b=i
 ·subst h;by_cases h':b<w.heap.size
  ·simp[h']
  ·simp[h']
 ·rw[W7 h,W7 U]
def ja (b:Nat)(o:Obj):(bx w b o).heap.size=w.heap.size:=by simp[bx]
def Bl {b:Nat}{c c':Array Value}{e:TypeId}{f:Nat × Nat}(h:w.heap[b]?=some (.cells c e f))(hs:c'.size=c.size):Kind w (bx w b (.cells c' e f)):=fun i d e' f' hi=>by
 rw[dL];by_cases hib:i=b
 ·subst hib;rw[h]at hi;cases hi;rw[W8 ⟨rfl,(XY.1 h).1⟩];exact⟨c',rfl,hs⟩
 ·rw[W7 fun h=>hib h.1];exact⟨d,hi,rfl⟩
def xu {b:Nat}{o o':Obj}(h:w.heap[b]?=some o)(ho:∀c e f,o≠.cells c e f):Kind w (bx w b o'):=fun i d e' f' hi=>by
 rw[dL,W7]
 ·exact⟨d,hi,rfl⟩
 ·rintro⟨rfl,_⟩;rw[h]at hi;exact ho _ _ _ (Option.some.inj hi)
def tK {w w':World}{o:Obj}(hw:w'.heap=w.heap.push o):Kind w w':=fun i d e' f' hi=>by
 have:=(XY.1 hi).1;refine⟨d,?_,rfl⟩;rw[hw,Zf,W7 U];exact hi
def IU {w w':World}(hk:∀b,b<w.heap.size->w'.heap[b]?=w.heap[b]?):Kind w w':=fun i d e' f' hi=>⟨d,by rw[hk i (XY.1 hi).1];exact hi,rfl⟩
def IV (b:Nat)(o o':Obj):bx (bx w b o) b o'=bx w b o':=by
 unfold bx;simp
def Bm {b i:Nat}{c:Array Value}{e:TypeId}{f:Nat × Nat}(h:w.heap[b]?=some (.cells c e f)):w.cell? ⟨b,i,none⟩=c[i]?:=by
 simp[World.cell?,h]
def rC {b:Nat}{e:TypeId}:∀(vs:List Value) (c:Array Value) (o i:Nat) (w:World),w.heap[b]?=some (.cells c e (0,0)) ->
  o+i+vs.length<=c.size->(∀v,v∈vs->v.oneCell=true) ->
  (storeCells ⟨b,o,none⟩ vs i).run P w=.ok () (bx w b (.cells (setRow c (o+i) vs) e (0,0))):=by
 intro vs
 induction vs with
 |nil =>
  intro c o i w h _ _;have:bx w b (.cells (setRow c (o+i) []) e (0,0))=w:=by
   unfold bx setRow;have hlt:=Bk h;have:w.heap.setIfInBounds b (.cells c e (0,0))=w.heap:=by
    apply Array.ext_getElem?;intro j;rw[XZ];by_cases hj:b=j
    ·subst hj;have hb:w.heap[b]=.cells c e (0,0):=(by simpa[Xk hlt] using h);simp[hlt,hb]
    ·simp[hj]
   rw[this]
  rw[this];rfl
 |cons v vs ih =>
  intro c o i w h hle hone;simp only[List.length_cons]at hle;have hv:v.oneCell=true:=hone v aaw;have hlt:=Bk h;have hst:(store (Addr.add ⟨b,o,none⟩ i) v).run P w=.ok () (bx w b (.cells (c.setIfInBounds (o+i) v) e (0,0))):=by
   rw[jF];have hc:w.cell? ⟨b,o+i,none⟩=some (c[o+i]' U):=(by rw[Bm h];simp);have hf:w.frozen? ⟨b,o+i,none⟩=false:=(by simp[World.frozen?,h]);rw[<- IT h];cases v<;>simp_all[store,Sem.run,Value.oneCell]
  rw[storeCells,ao hst];rw[ih (c.setIfInBounds (o+i) v) o (i+1) _ (by rw[dL,W8 ⟨rfl,hlt⟩]) (by simp;omega) (fun x hx=>hone x (by simp[hx]))];rw[IV];rfl
end
def setAt (cells:List nnn)(off:Nat)(vs:List nnn):List nnn:=cells.take off++vs++cells.drop (off+vs.length)
def pI {cells:List nnn}{off:Nat}{vs:List nnn}(h:off+vs.length<=cells.length):(setAt cells off vs).length=cells.length:=by
 simp[setAt];omega
def IW {cells:List nnn}{off:Nat}{vs:List nnn}(h:off+vs.length<=cells.length)(i:Nat):
  (setAt cells off vs)[i]?=if off<=i/\i<off+vs.length then vs[i-off]? else cells[i]?:=by
 unfold setAt;by_cases h1:i<off
 ·rw[W7 U,List.append_assoc,Xe (by simp;omega),List.getElem?_take,W8 h1]
 ·by_cases h2:i<off+vs.length
  ·rw[W8 U,Xe (by simp;omega),Xp (by simp;omega)];congr 1;simp;omega
  ·rw[W7 U,Xp (by simp;omega),YS];congr 1;simp;omega
def eP (P:Program)(t:TypeId)(cells:List nnn)(off:Nat):Option nnn :=
 match P.underlying t with
 |none=>none
 |some d =>
  if pF d then (if off+P.cellsOf t<=cells.length then some (.agg ((cells.drop off).take (P.cellsOf t))) else none)
  else cells[off]?
def nnl.upd (H:nnl)(id:Nat)(b:Blk):nnl:={ get:=fun j=>if j=id then some b else H.get j,C:=H.C }
def nnl.lay (H:nnl)(id:Nat)(b:Blk):Option nnl :=
 if id=H.C then some { get:=fun j=>if j=id then some b else H.get j,C:=H.C+1 }
 else match H.get id with
  |some .nj=>some (H.upd id b)
  |_=>none
def fk (P:Program)(H:nnl)(t:TypeId):nnn->Option nnn
 |.Y id gen off =>
  match H.get id with
  |some (.O g _ cells)=>if g=gen then eP P t cells off else none
  |_=>none
 |.ni cells off=>eP P t cells off
 |_=>none
def ie (P:Program)(H:nnl)(t:TypeId)(a v:nnn):Option nnl :=
 match a with
 |.Y id gen off =>
  match H.get id with
  |some (.O g e cells) =>
   if g=gen/\v.cells.length=P.cellsOf t/\v.cells.all nnn.one=true/\off+v.cells.length<=cells.length then some (H.upd id (.O g e (setAt cells off v.cells))) else none
  |_=>none
 |_=>none
def eQ (place:Nat->Option (Nat × Nat))(cells:List nnn):List (Nat × nnn)->Option (List nnn)
 | []=>some cells
 |(i,v) :: rest =>
  match place i with
  |none=>none
  |some (off,size)=>if v.cells.length=size/\off+v.cells.length<=cells.length then eQ place (setAt cells off v.cells) rest else none
end Go.Hx
namespace Go.Hx
variable {P:Program} {G:Nat->Option (List nnn)} {Γ Γ':aA} {H H':nnl} {w w':World}
variable {c':Array Value}{cells':List nnn}{b g id n:Nat}{e:TypeId}{cv:Value}{v:nnn}
def xx (h:cv.oneCell=true):cv.cells=#[cv]:=by
 cases cv<;>simp_all[Value.oneCell,Value.cells]
theorem nnc.cells (h:nnc P Γ H w v cv):cv.cells.toList.length=v.cells.length /\
  ∀i (_:i<v.cells.length) (_:i<cv.cells.toList.length),nnc P Γ H w v.cells[i] cv.cells.toList[i]:=by
 have one:∀ {v:nnn} {cv:Value},nnc P Γ H w v cv->v.cells=[v]->cv.cells=#[cv]->cv.cells.toList.length=v.cells.length /\
   ∀i (_:i<v.cells.length) (_:i<cv.cells.toList.length),nnc P Γ H w v.cells[i] cv.cells.toList[i]:=by
  intro v cv h hv hc;simp only[hv,hc];refine⟨rfl,fun i h1 h2=>?_⟩;simp only[List.length_cons,List.length_nil]at h1;have:i=0:=U
  subst this;exact h
 cases h with
 |lit v =>
  simp only[nnn.cells];refine⟨aaw,fun i h1 h2=>?_⟩;simp only[Xi];exact .lit _
 |nu a cap=>exact one (.nu a cap) rfl rfl
 |L hb hlt hlen hcs hcell hrel=>exact one (.L hb hlt hlen hcs hcell hrel) rfl rfl
 |Z h=>exact one (.Z h) rfl (xx h.2.1)
 |Y h=>exact one (.Y h) rfl (xx h.2.1)
 |ni hb hlt hcs hcell hrel=>exact one (.ni hb hlt hcs hcell hrel) rfl rfl
 |agg hcs hrel=>exact⟨by simpa[nnn.cells,Value.cells] using hcs,fun i h1 h2=>hrel i h1 h2⟩
 |nc hcs hrel=>exact one (.nc hcs hrel) rfl rfl
 |nb hfs hcs hf hc=>exact one (.nb hfs hcs hf hc) rfl rfl
 |nk h=>exact one (.nk h) rfl (xx h.2.1)
theorem nnc.one (h:nnc P Γ H w v cv)(hv:v.one=true):cv.oneCell=true:=by
 cases h with
 |lit v=>exact hv
 |Z h=>exact h.2.1
 |Y h=>exact h.2.1
 |nk h=>exact h.2.1
 |agg=>simp[nnn.one]at hv
 |nc=>simp[nnn.one]at hv
 |_=>rfl
def I3:∀ {cells:List nnn} {cs vs:List Value},pE cells=some vs->cs.length=cells.length ->
  (∀i (_:i<cells.length) (_:i<cs.length),nnc P Γ H w cells[i] cs[i])->cs=vs:=by
 intro cells
 induction cells with
 |nil=>intro cs vs h hl _;simp only[pE,Option.some.injEq]at h;subst h;simpa using hl
 |cons c cells ih =>
  intro cs vs h hl hr;cases c with
  |lit v =>
   simp only[pE,W4]at h;obtain⟨vs',h1,rfl⟩:=h;cases cs with
   |nil=>simp at hl
   |cons x cs =>
    have h0:=hr 0 aaw aaw;simp only[XD]at h0;cases h0;have:=ih h1 (by simpa using hl) (fun i a b=>hr (i+1) (by simpa using a) (by simpa using b));rw[this]
  |_=>simp[pE]at h
theorem nnc.bZ {x:Value}(h:nnc P Γ H w v cv)(hx:v.bZ=some x):cv=x:=by
 cases h with
 |lit v=>simpa[nnn.bZ] using hx
 |agg hcs hrel =>
  simp only[nnn.bZ,W4]at hx;obtain⟨l,h1,rfl⟩:=hx;rw[I3 h1 hcs hrel]
 |_=>simp[nnn.bZ]at hx
def Blk.tL (h:Γ' id=Γ id)(x:Blk):Blk.le Γ Γ' id x x:=by
 cases x<;>simp[Blk.le,h]
def nng.nM (R:nng P G Γ H w)(E:Evo Γ H w Γ' H' w')(hn:H.C<=H'.C)(hget:∀j,j≠id->H'.get j=H.get j)
  (hΓ:∀j,j≠id->Γ' j=Γ j) (hheap:∀j b base n,j≠id->Γ j=some (b,base,n)->w'.heap[b]?=w.heap[b]?)
  (harr:∀g e cells,H'.get id=some (.O g e cells) ->
   match Γ' id with
   |some (b,base,n)=>∃c,w'.heap[b]?=some (.cells c e (0,0))/\c.size=n/\base+cells.length<=n /\
     ∀i (_:i<cells.length),∃cv,c[base+i]?=some cv/\nnc P Γ' H' w' cells[i] cv
   |none=>cells=[])
  (hloop:∀st pend n env ps asg body,H'.get id=some (.loop st pend n env ps asg body) ->
   ∃b r,Γ' id=some (b,0,0)/\w'.heap[b]?=some (.loop r)/\r.state=st/\r.pending=pend/\r.params=ps/\r.assign=asg/\r.body=body /\
    r.tmps.size=n/\(∀t (_:t<r.tmps.size),nnc P Γ' H' w' (env t) r.tmps[t]))
  (hmp:∀es,H'.get id=some (.mp es)->∃b,Γ' id=some (b,0,0)/\w'.heap[b]?=some (fL es))
  (hrsv:H'.get id=some .nj->Γ' id=none)
  (hinj:∀j b base n base' n',j≠id->Γ' id=some (b,base,n)->Γ j=some (b,base',n')->False)
  (hdom:∀x,Γ' id=some x->∃y,H'.get id=some y) (hlt:∀b base n,Γ' id=some (b,base,n)->b<w'.heap.size)
  (hnext:∀y,H'.get id=some y->id<H'.C):nng P G Γ' H' w' where
 O j g e cells hj:=by
  by_cases h:j=id
  ·subst h;exact harr g e cells hj
  ·rw[hget j h]at hj;have h1:=R.O j g e cells hj;rw[hΓ j h];cases hg:Γ j with
   |none=>rw[hg]at h1;exact h1
   |some x =>
    obtain⟨b,base,n⟩:=x;rw[hg]at h1;obtain⟨c,a1,a2,a3,a4⟩:=h1;exact⟨c,(hheap j b base n h hg).trans a1,a2,a3,fun i hi=>let ⟨cv,b1,b2⟩:=a4 i hi;⟨cv,b1,b2.aU E hn⟩⟩
 loop j st pend n env ps asg body hj:=by
  by_cases h:j=id
  ·subst h;exact hloop st pend n env ps asg body hj
  ·rw[hget j h]at hj;obtain⟨b,r,a1,a2,a3,a4,a5,a6,a7,a8,a9⟩:=R.loop j st pend n env ps asg body hj;exact⟨b,r,(hΓ j h).trans a1,(hheap j b 0 0 h a1).trans a2,a3,a4,a5,a6,a7,a8,fun t ht=>(a9 t ht).aU E hn⟩
 mp j es hj:=by
  by_cases h:j=id
  ·subst h;exact hmp es hj
  ·rw[hget j h]at hj;obtain⟨b,a1,a2⟩:=R.mp j es hj;exact⟨b,(hΓ j h).trans a1,(hheap j b 0 0 h a1).trans a2⟩
 nj j hj:=by
  by_cases h:j=id
  ·subst h;exact hrsv hj
  ·rw[hget j h]at hj;rw[hΓ j h];exact R.nj j hj
 inj i j b base n base' n' h1 h2:=by
  by_cases hi:i=id
  ·by_cases hj:j=id
   ·rw[hi,hj]
   ·rw[hi]at h1;rw[hΓ j hj]at h2;exact(hinj j b base n base' n' hj h1 h2).elim
  ·by_cases hj:j=id
   ·rw[hj]at h2;rw[hΓ i hi]at h1;exact(hinj i b base' n' base n hi h2 h1).elim
   ·rw[hΓ i hi]at h1;rw[hΓ j hj]at h2;exact R.inj i j b base n base' n' h1 h2
 nB j x hx:=by
  by_cases h:j=id
  ·subst h;exact hdom x hx
  ·rw[hΓ j h]at hx;rw[hget j h];exact R.nB j x hx
 lt j b base n hx:=by
  by_cases h:j=id
  ·subst h;exact hlt b base n hx
  ·rw[hΓ j h]at hx;exact Xd (R.lt j b base n hx) E.size
 C j y hy:=by
  by_cases h:j=id
  ·subst h;exact hnext y hy
  ·rw[hget j h]at hy;exact Xd (R.C j y hy) hn
 nz g cells hg:=(R.nz g cells hg).aU E hn
 nN:=R.nK E
def aA.upd (Γ:aA)(id:Nat)(x:Option (Nat × Nat × Nat)):aA:=fun j=>if j=id then x else Γ j
def aA.dE (Γ:aA)(id:Nat)(x:Option (Nat × Nat × Nat)):Γ.upd id x id=x:=by simp[aA.upd]
def aA.ig (Γ:aA)(id:Nat)(x:Option (Nat × Nat × Nat)){j:Nat}(h:j≠id):Γ.upd id x j=Γ j:=by simp[aA.upd,h]
def xy {x0 y0:Nat}:rA Γ w (Γ.upd id (some (w.heap.size,x0,y0))):=fun j b x y h hlt=>by
 by_cases hj:j=id
 ·subst hj;rw[aA.dE]at h;simp only[Option.some.injEq,Prod.mk.injEq]at h;omega
 ·rw[aA.ig _ _ _ hj]at h;exact⟨x,y,h⟩
def I4 {b0 x0 y0 x1 y1:Nat}(h0:Γ id=some (b0,x0,y0)):rA Γ w (Γ.upd id (some (b0,x1,y1))):=fun j b x y h hlt=>by
 by_cases hj:j=id
 ·subst hj;rw[aA.dE]at h;simp only[Option.some.injEq,Prod.mk.injEq]at h;exact⟨x0,y0,by rw[h0,h.1]⟩
 ·rw[aA.ig _ _ _ hj]at h;exact⟨x,y,h⟩
def heap_alloc (w:World)(o:Obj)(b:Nat):(w.alloc o).heap[b]?=if b=w.heap.size then some o else w.heap[b]?:=by
 show (w.heap.push o)[b]?=_;rw[Zf]
def pJ {w:World}{o:Obj}(h:b<w.heap.size):(w.alloc o).heap[b]?=w.heap[b]?:=by
 rw[heap_alloc,W7 U]
def jb {b:Blk}(h:H.lay id b=some H'):
  (∀j,H'.get j=if j=id then some b else H.get j)/\((id=H.C/\H'.C=H.C+1)\/(H.get id=some .nj/\H'.C=H.C)):=by
 unfold nnl.lay at h;split at h
 ·rename_i hid;simp only[Option.some.injEq]at h;subst h;exact⟨fun j=>rfl,.inl ⟨hid,rfl⟩⟩
 ·split at h
  ·rename_i hr;simp only[Option.some.injEq]at h;subst h;exact⟨fun j=>rfl,.inr ⟨hr,rfl⟩⟩
  ·cases h
def mn (R:nng P G Γ H w){b:Blk}(h:H.lay id b=some H'):Γ id=none/\(H.get id=none\/H.get id=some .nj)/\H.C<=H'.C/\id<H'.C:=by
 obtain⟨_,h2|h2⟩:=jb h
 ·have hn:H.get id=none:=by
   cases hg:H.get id with
   |none=>rfl
   |some y=>have:=R.C id y hg;omega
  have hΓ:Γ id=none:=by
   cases hg:Γ id with
   |none=>rfl
   |some x=>obtain⟨y,hy⟩:=R.nB id x hg;rw[hn]at hy;cases hy
  exact⟨hΓ,.inl hn,U,U⟩
 ·have:=R.C id _ h2.1;exact⟨R.nj id h2.1,.inr h2.1,U,U⟩
def rD {cells:List nnn}{c:Array Value}(R:nng P G Γ H w)(h:H.lay id (.O 0 e cells)=some H')
  (hlen:cells.length<=c.size) (hrel:∀i (_:i<cells.length),∃cv,c[i]?=some cv/\nnc P Γ H w cells[i] cv):
  Evo Γ H w (Γ.upd id (some (w.heap.size,0,c.size))) H' (w.alloc (.cells c e))/\H.C<=H'.C /\
   nng P G (Γ.upd id (some (w.heap.size,0,c.size))) H' (w.alloc (.cells c e)):=by
 obtain⟨f1,f2,f3,f4⟩:=mn R h;obtain⟨hget,_⟩:=jb h;have E:Evo Γ H w (Γ.upd id (some (w.heap.size,0,c.size))) H' (w.alloc (.cells c e)):=by
  refine⟨rfl,rfl,rfl,aaw,fun b hb ho=>⟨pJ hb,?_⟩,fun j hj hj' x' hx'=>?_,?_,tK rfl,xy⟩
  ·rintro⟨j,base,n,hj⟩;by_cases hji:j=id
   ·rw[hji,aA.dE]at hj;simp only[Option.some.injEq,Prod.mk.injEq]at hj;omega
   ·rw[aA.ig _ _ _ hji]at hj;exact ho ⟨j,base,n,hj⟩
  ·rw[hget]at hx';by_cases hji:j=id
   ·subst hji;rcases f2 with f2|f2
    ·obtain⟨_,h2|h2⟩:=jb h
     ·omega
     ·rw[f2]at h2;cases h2.1
    ·exact⟨.nj,f2,trivial⟩
   ·rw[W7 hji]at hx';exact⟨x',hx',Blk.tL (aA.ig _ _ _ hji) _⟩
  ·exact fun a _=>pH rfl (fun _ _ _ h=>by cases h;rfl) a
 refine⟨E,f3,R.nM (id:=id) E f3 (fun j hj=>by rw[hget,W7 hj]) (fun j hj=>aA.ig _ _ _ hj)
  (fun j b base n hj hg=>pJ (R.lt j b base n hg)) ?_ ?_ ?_ ?_ ?_ ?_ ?_ ?_⟩
 ·intro g e' cells' hg;rw[hget,W8 rfl]at hg;simp only[Option.some.injEq,Blk.O.injEq]at hg;obtain⟨_,rfl,rfl⟩:=hg;rw[aA.dE];refine⟨c,by rw[heap_alloc,W8 rfl],rfl,U,fun i hi=>?_⟩;obtain⟨cv,h1,h2⟩:=hrel i hi;exact⟨cv,by rw[Nat.zero_add];exact h1,h2.aU E f3⟩
 ·intro st pend n env ps asg body hg;rw[hget,W8 rfl]at hg;cases hg
 ·intro es hg;rw[hget,W8 rfl]at hg;cases hg
 ·intro hg;rw[hget,W8 rfl]at hg;cases hg
 ·intro j b base n base' n' hj h1 h2;rw[aA.dE]at h1;simp only[Option.some.injEq,Prod.mk.injEq]at h1;have:=R.lt j b base' n' h2;omega
 ·exact fun x _=>⟨_,by rw[hget,W8 rfl]⟩
 ·intro b base n h1;rw[aA.dE]at h1;simp only[Option.some.injEq,Prod.mk.injEq]at h1;simp;omega
 ·exact fun _ _=>f4
def ae (H:nnl)(id:Nat)(b:Blk)(j:Nat):(H.upd id b).get j=if j=id then some b else H.get j:=rfl
def xz {cells:List nnn}{base:Nat}(R:nng P G Γ H w)
  (hg:H.get id=some (.O g e cells)) (hΓ:Γ id=some (b,base,n)) (hlen:cells'.length=cells.length) (hsz:c'.size=n)
  (hrel:∀i (_:i<cells'.length),∃cv,c'[base+i]?=some cv/\nnc P Γ H w cells'[i] cv):
  Evo Γ H w Γ (H.upd id (.O g e cells')) (bx w b (.cells c' e (0,0)))/\nng P G Γ (H.upd id (.O g e cells')) (bx w b (.cells c' e (0,0))):=by
 have hblk:=R.lt id b base n hΓ;have E:Evo Γ H w Γ (H.upd id (.O g e cells')) (bx w b (.cells c' e (0,0))):=by
  refine⟨rfl,rfl,rfl,by rw[ja];exact Nat.le_refl _,fun b' hb ho=>⟨?_,ho⟩,fun j hj hj' x' hx'=>?_,?_,?_,.refl _ _⟩
  ·rw[dL,W7];rintro⟨rfl,_⟩;exact ho ⟨id,base,n,hΓ⟩
  ·rw[ae]at hx';by_cases hji:j=id
   ·subst hji;rw[W8 rfl]at hx';cases hx';exact⟨_,hg,aaz,fun _=>⟨rfl,rfl,hlen⟩⟩
   ·rw[W7 hji]at hx';exact⟨x',hx',Blk.le_refl _ _ _⟩
  ·have h0:=R.O id g e cells hg;rw[hΓ]at h0;obtain⟨c,a1,_⟩:=h0;exact fun a _=>rB a1 (fun _ _ _ h=>by cases h;rfl) (fun _ _ _ h=>by cases h;rfl) a
  ·have h0:=R.O id g e cells hg;rw[hΓ]at h0;obtain⟨c,a1,a2,_⟩:=h0;exact Bl a1 (by rw[hsz,a2])
 have h0:=R.O id g e cells hg;rw[hΓ]at h0;obtain⟨c,a1,a2,a3,a4⟩:=h0;refine⟨E,R.nM (id:=id) E aaz (fun j hj=>by rw[ae,W7 hj]) (fun j hj=>rfl)
  (fun j b' base' n' hj hg'=>?_) ?_ ?_ ?_ ?_ ?_ ?_ ?_ ?_⟩
 ·rw[dL,W7];rintro⟨rfl,_⟩;exact hj (R.inj j id b' base' n' base n hg' hΓ)
 ·intro g' e' cells'' hg';rw[ae,W8 rfl]at hg';simp only[Option.some.injEq,Blk.O.injEq]at hg';obtain⟨rfl,rfl,rfl⟩:=hg';rw[hΓ];refine⟨c',by rw[dL,W8 ⟨rfl,hblk⟩],hsz,U,fun i hi=>?_⟩;obtain⟨cv,h1,h2⟩:=hrel i hi;exact⟨cv,h1,h2.aU E aaz⟩
 ·intro st pend n env ps asg body hg';rw[ae,W8 rfl]at hg';cases hg'
 ·intro es hg';rw[ae,W8 rfl]at hg';cases hg'
 ·intro hg';rw[ae,W8 rfl]at hg';cases hg'
 ·intro j b' base' n' base'' n'' hj h1 h2;rw[hΓ]at h1;simp only[Option.some.injEq,Prod.mk.injEq]at h1;obtain⟨rfl,rfl,rfl⟩:=h1;exact hj (R.inj j id _ _ _ _ _ h2 hΓ)
 ·exact fun x _=>⟨_,by rw[ae,W8 rfl]⟩
 ·intro b' base' n' h1;rw[ja];exact R.lt id b' base' n' h1
 ·exact fun _ _=>R.C id _ hg
def I5 {cells:List nnn}{base base':Nat}(R:nng P G Γ H w)
  (hg:H.get id=some (.O g e cells)) (hΓ:Γ id=some (b,base,n)) (hsz:c'.size=n) (hle:base'+cells'.length<=n)
  (hrel:∀i (_:i<cells'.length),∃cv,c'[base'+i]?=some cv/\nnc P Γ H w cells'[i] cv):
  Evo Γ H w (Γ.upd id (some (b,base',n))) (H.upd id (.O (g+1) e cells')) (bx w b (.cells c' e (0,0))) /\
   nng P G (Γ.upd id (some (b,base',n))) (H.upd id (.O (g+1) e cells')) (bx w b (.cells c' e (0,0))):=by
 have hblk:=R.lt id b base n hΓ;have E:Evo Γ H w (Γ.upd id (some (b,base',n))) (H.upd id (.O (g+1) e cells')) (bx w b (.cells c' e (0,0))):=by
  refine⟨rfl,rfl,rfl,by rw[ja];exact Nat.le_refl _,fun b' hb ho=>⟨?_,?_⟩,fun j hj hj' x' hx'=>?_,?_,?_,I4 hΓ⟩
  ·rw[dL,W7];rintro⟨rfl,_⟩;exact ho ⟨id,base,n,hΓ⟩
  ·rintro⟨j,base'',n'',hj⟩;by_cases hji:j=id
   ·rw[hji,aA.dE]at hj;simp only[Option.some.injEq,Prod.mk.injEq]at hj;exact ho ⟨id,base,n,by rw[hΓ,hj.1]⟩
   ·rw[aA.ig _ _ _ hji]at hj;exact ho ⟨j,base'',n'',hj⟩
  ·rw[ae]at hx';by_cases hji:j=id
   ·subst hji;rw[W8 rfl]at hx';cases hx';exact⟨_,hg,Yb _,fun h=>U⟩
   ·rw[W7 hji]at hx';exact⟨x',hx',Blk.tL (aA.ig _ _ _ hji) _⟩
  ·have h0:=R.O id g e cells hg;rw[hΓ]at h0;obtain⟨c,a1,_⟩:=h0;exact fun a _=>rB a1 (fun _ _ _ h=>by cases h;rfl) (fun _ _ _ h=>by cases h;rfl) a
  ·have h0:=R.O id g e cells hg;rw[hΓ]at h0;obtain⟨c,a1,a2,_⟩:=h0;exact Bl a1 (by rw[hsz,a2])
 refine⟨E,R.nM (id:=id) E aaz (fun j hj=>by rw[ae,W7 hj]) (fun j hj=>aA.ig _ _ _ hj)
  (fun j b' base' n' hj hg'=>?_) ?_ ?_ ?_ ?_ ?_ ?_ ?_ ?_⟩
 ·rw[dL,W7];rintro⟨rfl,_⟩;exact hj (R.inj j id b' base' n' base n hg' hΓ)
 ·intro g' e' cells'' hg';rw[ae,W8 rfl]at hg';simp only[Option.some.injEq,Blk.O.injEq]at hg';obtain⟨rfl,rfl,rfl⟩:=hg';rw[aA.dE];refine⟨c',by rw[dL,W8 ⟨rfl,hblk⟩],hsz,hle,fun i hi=>?_⟩;obtain⟨cv,h1,h2⟩:=hrel i hi;exact⟨cv,h1,h2.aU E aaz⟩
 ·intro st pend n env ps asg body hg';rw[ae,W8 rfl]at hg';cases hg'
 ·intro es hg';rw[ae,W8 rfl]at hg';cases hg'
 ·intro hg';rw[ae,W8 rfl]at hg';cases hg'
 ·intro j b' base' n' base'' n'' hj h1 h2;rw[aA.dE]at h1;simp only[Option.some.injEq,Prod.mk.injEq]at h1;obtain⟨rfl,rfl,rfl⟩:=h1;exact hj (R.inj j id _ _ _ _ _ h2 hΓ)
 ·exact fun x _=>⟨_,by rw[ae,W8 rfl]⟩
 ·intro b' base'' n' h1;rw[aA.dE]at h1;simp only[Option.some.injEq,Prod.mk.injEq]at h1;rw[ja];omega
 ·exact fun _ _=>R.C id _ hg
def I6 {cells:List nnn}(R:nng P G Γ H w)
  (hg:H.get id=some (.O g e cells)) (hle:cells'.length<=c'.size)
  (hrel:∀i (_:i<cells'.length),∃cv,c'[i]?=some cv/\nnc P Γ H w cells'[i] cv):
  Evo Γ H w (Γ.upd id (some (w.heap.size,0,c'.size))) (H.upd id (.O (g+1) e cells')) (w.alloc (.cells c' e)) /\
   nng P G (Γ.upd id (some (w.heap.size,0,c'.size))) (H.upd id (.O (g+1) e cells')) (w.alloc (.cells c' e)):=by
 have E:Evo Γ H w (Γ.upd id (some (w.heap.size,0,c'.size))) (H.upd id (.O (g+1) e cells')) (w.alloc (.cells c' e)):=by
  refine⟨rfl,rfl,rfl,aaw,fun b' hb ho=>⟨pJ hb,?_⟩,fun j hj hj' x' hx'=>?_,?_,tK rfl,xy⟩
  ·rintro⟨j,base'',n'',hj⟩;by_cases hji:j=id
   ·rw[hji,aA.dE]at hj;simp only[Option.some.injEq,Prod.mk.injEq]at hj;omega
   ·rw[aA.ig _ _ _ hji]at hj;exact ho ⟨j,base'',n'',hj⟩
  ·rw[ae]at hx';by_cases hji:j=id
   ·subst hji;rw[W8 rfl]at hx';cases hx';exact⟨_,hg,Yb _,fun h=>U⟩
   ·rw[W7 hji]at hx';exact⟨x',hx',Blk.tL (aA.ig _ _ _ hji) _⟩
  ·exact fun a _=>pH rfl (fun _ _ _ h=>by cases h;rfl) a
 refine⟨E,R.nM (id:=id) E aaz (fun j hj=>by rw[ae,W7 hj]) (fun j hj=>aA.ig _ _ _ hj)
  (fun j b' base' n' hj hg'=>pJ (R.lt j b' base' n' hg')) ?_ ?_ ?_ ?_ ?_ ?_ ?_ ?_⟩
 ·intro g' e' cells'' hg';rw[ae,W8 rfl]at hg';simp only[Option.some.injEq,Blk.O.injEq]at hg';obtain⟨rfl,rfl,rfl⟩:=hg';rw[aA.dE];refine⟨c',by rw[heap_alloc,W8 rfl],rfl,U,fun i hi=>?_⟩;obtain⟨cv,h1,h2⟩:=hrel i hi;exact⟨cv,by rw[Nat.zero_add];exact h1,h2.aU E aaz⟩
 ·intro st pend n env ps asg body hg';rw[ae,W8 rfl]at hg';cases hg'
 ·intro es hg';rw[ae,W8 rfl]at hg';cases hg'
 ·intro hg';rw[ae,W8 rfl]at hg';cases hg'
 ·intro j b' base' n' base'' n'' hj h1 h2;rw[aA.dE]at h1;simp only[Option.some.injEq,Prod.mk.injEq]at h1;have:=R.lt j _ _ _ h2;omega
 ·exact fun x _=>⟨_,by rw[ae,W8 rfl]⟩
 ·intro b' base'' n' h1;rw[aA.dE]at h1;simp only[Option.some.injEq,Prod.mk.injEq]at h1;simp;omega
 ·exact fun _ _=>R.C id _ hg
def tM (Γ:aA)(H:nnl)(w:World)(n:Nat):Evo Γ H w Γ H { w with drawn:=n } :=
 ⟨rfl,rfl,rfl,aaz,fun _ _ h=>⟨rfl,h⟩,fun _ _ _ x' h=>⟨x',h,Blk.le_refl _ _ _⟩,fun _ _=>rfl,.refl _,.refl _ _⟩
def nng.drew (R:nng P G Γ H w)(n:Nat):nng P G Γ H { w with drawn:=n } :=
 R.nM (id:=H.C) (tM Γ H w n) aaz (fun _ _=>rfl) (fun _ _=>rfl) (fun _ _ _ _ _ _=>rfl)
  (fun g e cells h=>absurd (R.C _ _ h) (Zj _)) (fun st pend n env ps asg body h=>absurd (R.C _ _ h) (Zj _)) (fun es h=>absurd (R.C _ _ h) (Zj _))
  (fun h=>absurd (R.C _ _ h) (Zj _))
  (fun j b base n base' n' hj h1 h2=>by obtain⟨y,hy⟩:=R.nB _ _ h1;exact absurd (R.C _ _ hy) (Zj _))
  (fun x hx=>R.nB _ x hx) (fun b base n hx=>R.lt _ b base n hx) (fun y hy=>R.C _ y hy)
def I7 (R:nng P G Γ H w)(h:H.lay id (.mp [])=some H'):
  Evo Γ H w (Γ.upd id (some (w.heap.size,0,0))) H' (w.alloc (fL []))/\H.C<=H'.C/\nng P G (Γ.upd id (some (w.heap.size,0,0))) H' (w.alloc (fL [])):=by
 obtain⟨f1,f2,f3,f4⟩:=mn R h;obtain⟨hget,hor⟩:=jb h;have E:Evo Γ H w (Γ.upd id (some (w.heap.size,0,0))) H' (w.alloc (fL [])):=by
  refine⟨rfl,rfl,rfl,aaw,fun b hb ho=>⟨pJ hb,?_⟩,fun j hj hj' x' hx'=>?_,?_,tK rfl,xy⟩
  ·rintro⟨j,base,n,hj⟩;by_cases hji:j=id
   ·rw[hji,aA.dE]at hj;simp only[Option.some.injEq,Prod.mk.injEq]at hj;omega
   ·rw[aA.ig _ _ _ hji]at hj;exact ho ⟨j,base,n,hj⟩
  ·rw[hget]at hx';by_cases hji:j=id
   ·subst hji;rcases f2 with f2|f2
    ·rcases hor with ⟨h1,h2⟩|h2
     ·omega
     ·rw[f2]at h2;cases h2.1
    ·exact⟨.nj,f2,trivial⟩
   ·rw[W7 hji]at hx';exact⟨x',hx',Blk.tL (aA.ig _ _ _ hji) _⟩
  ·exact fun a _=>pH rfl (fun _ _ _ h=>by cases h) a
 refine⟨E,f3,R.nM (id:=id) E f3 (fun j hj=>by rw[hget,W7 hj]) (fun j hj=>aA.ig _ _ _ hj)
  (fun j b base n hj hg=>pJ (R.lt j b base n hg)) ?_ ?_ ?_ ?_ ?_ ?_ ?_ ?_⟩
 ·intro g e' cells' hg;rw[hget,W8 rfl]at hg;cases hg
 ·intro st pend n env ps asg body hg;rw[hget,W8 rfl]at hg;cases hg
 ·intro es hg;rw[hget,W8 rfl]at hg;cases hg;exact⟨w.heap.size,aA.dE _ _ _,by rw[heap_alloc,W8 rfl]⟩
 ·intro hg;rw[hget,W8 rfl]at hg;cases hg
 ·intro j b base n base' n' hj h1 h2;rw[aA.dE]at h1;simp only[Option.some.injEq,Prod.mk.injEq]at h1;have:=R.lt j b base' n' h2;omega
 ·exact fun x _=>⟨_,by rw[hget,W8 rfl]⟩
 ·intro b base n h1;rw[aA.dE]at h1;simp only[Option.some.injEq,Prod.mk.injEq]at h1;simp;omega
 ·exact fun _ _=>f4
def tO {es:List (Int × Int)}(es':List (Int × Int))(R:nng P G Γ H w)(hg:H.get id=some (.mp es))(hΓ:Γ id=some (b,0,0))(hb:w.heap[b]?=some (fL es)):
  Evo Γ H w Γ (H.upd id (.mp es')) (bx w b (fL es'))/\nng P G Γ (H.upd id (.mp es')) (bx w b (fL es')):=by
 have hblk:=R.lt id b 0 0 hΓ;have E:Evo Γ H w Γ (H.upd id (.mp es')) (bx w b (fL es')):=by
  refine⟨rfl,rfl,rfl,by rw[ja];exact Nat.le_refl _,fun b' hb ho=>⟨?_,ho⟩,fun j hj hj' x' hx'=>?_,?_,xu hb fun _ _ _ h=>(by cases h),.refl _ _⟩
  ·rw[dL,W7];rintro⟨rfl,_⟩;exact ho ⟨id,0,0,hΓ⟩
  ·rw[ae]at hx';by_cases hji:j=id
   ·subst hji;rw[W8 rfl]at hx';cases hx';exact⟨_,hg,rfl⟩
   ·rw[W7 hji]at hx';exact⟨x',hx',Blk.le_refl _ _ _⟩
  ·exact fun a _=>rB hb (fun _ _ _ h=>by cases h) (fun _ _ _ h=>by cases h) a
 refine⟨E,R.nM (id:=id) E aaz (fun j hj=>by rw[ae,W7 hj]) (fun j hj=>rfl)
  (fun j b' base' n' hj hg'=>?_) ?_ ?_ ?_ ?_ ?_ ?_ ?_ ?_⟩
 ·rw[dL,W7];rintro⟨rfl,_⟩;exact hj (R.inj j id b' base' n' 0 0 hg' hΓ)
 ·intro g' e' cells'' hg';rw[ae,W8 rfl]at hg';cases hg'
 ·intro st pend n env ps asg body hg';rw[ae,W8 rfl]at hg';cases hg'
 ·intro es2 hg';rw[ae,W8 rfl]at hg';cases hg';exact⟨b,hΓ,by rw[dL,W8 ⟨rfl,hblk⟩]⟩
 ·intro hg';rw[ae,W8 rfl]at hg';cases hg'
 ·intro j b' base' n' base'' n'' hj h1 h2;rw[hΓ]at h1;simp only[Option.some.injEq,Prod.mk.injEq]at h1;obtain⟨rfl,rfl,rfl⟩:=h1;exact hj (R.inj j id _ _ _ _ _ h2 hΓ)
 ·exact fun x _=>⟨_,by rw[ae,W8 rfl]⟩
 ·intro b' base' n' h1;rw[ja];exact R.lt id b' base' n' h1
 ·exact fun _ _=>R.C id _ hg
end Go.Hx
namespace Go.Hx
def ak (G:Nat->Option (List nnn))(ρ:Env):Operand->nnn
 |.tmp t=>ρ t
 |.const v=>.lit v
 |.global g=>match G g with|some cells=>.ni cells 0|none=>.lit (.pointer (some ⟨g,0,none⟩))
 |.func f=>.nb f [] []
def bC (P:Program)(t:TypeId):Option (List nnn) :=
 match P.info? t with
 |some i=>match i.zero with
  |some z=>if z.cells.size=i.size then some (z.cells.toList.map .lit) else none
  |none=>none
 |none=>none
def jc (P:Program)(t:TypeId)(n:Nat):Option (List nnn):=(bC P t).map fun z=>(List.replicate n z).flatten
def jd (P:Program)(t:TypeId):Option (List (Nat × Nat)) :=
 match P.underlying t with
 |some (.struct fs)=>if fs.toList.all fun f=>(P.info? f.type).isSome then some (fs.toList.map fun f=>(f.offset,P.cellsOf f.type)) else none
 |_=>none
def bD (P:Program)(t:TypeId)(i:Nat):Option (Nat × TypeId) :=
 match P.underlying t with
 |some (.struct fs)=>match fs[i]? with
  |some f=>if (P.info? f.type).isSome/\P.cellsOf f.type≠0 then some (f.offset,f.type) else none
  |none=>none
 |_=>none
def nnl.na (H:nnl)(id gen:Nat):Option (TypeId × List nnn) :=
 match H.get id with
 |some (.O g e cells)=>if g=gen then some (e,cells) else none
 |_=>none
def bL:Option nnn->Nat->Nat->Option Nat
 |none,d,_=>some d
 |some (.lit (.int _ i)),_,m=>if 0<=i/\i<=(m:Int) then some i.toNat else none
 |_,_,_=>none
def mo (P:Program)(H:nnl)(t:TypeId)(x:nnn)(i:Int):Option nnn :=
 match P.underlying t with
 |some (.array n e) =>
  if 0<=i/\i<(n:Int)/\(P.underlying e).isSome then
   match x with
   |.Y id gen off=>(H.na id gen).map fun _=>.Y id gen (off+i.toNat*P.cellsOf e)
   |.ni cells off=>some (.ni cells (off+i.toNat*P.cellsOf e))
   |_=>none
  else none
 |some (.slice e) =>
  if (P.underlying e).isSome then
   match x with
   |.Z id gen off len sz=>if 0<=i/\i<(len:Int)/\sz=P.cellsOf e then (H.na id gen).map fun _=>.Y id gen (off+i.toNat*P.cellsOf e) else none
   |.L len cells=>if 0<=i/\i<(len:Int)/\cells≠[] then some (.ni cells (i.toNat*P.cellsOf e)) else none
   |_=>none
  else none
 |_=>none
def lD (P:Program)(H:nnl)(t:TypeId)(x:nnn)(lo hi:Option nnn):Option nnn :=
 match P.underlying t with
 |some (.array n e) =>
  if (P.underlying e).isSome then
   match x with
   |.Y id gen off =>
    match H.na id gen with
    |some (_,cells) =>
     if off+n*P.cellsOf e<=cells.length then
      (bL hi n n).bind fun h=>(bL lo 0 h).map fun l=>.Z id gen (off+l*P.cellsOf e) (h-l) (P.cellsOf e)
     else none
    |none=>none
   | .ni cells off=>if off+n*P.cellsOf e≤cells.length then
      (bL hi n n).bind fun h=>(bL lo 0 h).map fun l=>.L (h-l) ((cells.drop (off+l*P.cellsOf e)).take ((h-l)*P.cellsOf e))
     else none
   |_=>none
  else none
 |some (.slice e) =>
  if (P.underlying e).isSome then
   match x with
   |.Z id gen off len sz=>if sz=P.cellsOf e then (H.na id gen).bind fun _=>(bL hi len len).bind fun h=>(bL lo 0 h).map fun l=>.Z id gen (off+l*sz) (h-l) sz else none
   |.L len cells=>if cells.length=len*P.cellsOf e then (bL hi len len).bind fun h=>(bL lo 0 h).map fun l=>.L (h-l) ((cells.drop (l*P.cellsOf e)).take ((h-l)*P.cellsOf e)) else none
   |.lit (.slice none 0 0)=>(bL hi 0 0).bind fun h=>(bL lo 0 h).map fun _=>.lit (.slice none 0 0)
   |_=>none
  else none
 |some .string =>
  match x with
  |.lit (.string s)=>(bL hi s.size s.size).bind fun h=>(bL lo 0 h).map fun l=>.lit (.string (s.extract l h))
  |_=>none
 |_=>none
def bU (H:nnl)(sz:Nat):nnn->Option (Nat × List nnn)
 |.L len cells=>if cells.length=len*sz then some (len,cells) else none
 |.Z id gen off len sz'=>if sz'=sz then (H.na id gen).map fun x=>(len,(x.2.drop off).take (len*sz)) else none
 |.lit (.slice none 0 0)=>some (0,[])
 |_=>none
def bh (P:Program)(H:nnl)(id:Nat)(at0 at1:TypeId)(s x:nnn):Option (nnn × nnl) :=
 match P.underlying at0 with
 |some (.slice e) =>
  match P.underlying at1 with
  |some (.slice _) =>
   (bC P e).bind fun _ =>
   (bU H (P.cellsOf e) x).bind fun nx =>
    match s with
    |.lit (.slice none 0 0) =>
     if nx.1=0 then some (s,H)
     else if nx.1*P.bytesOf e<=2 ^ 47/\nx.1<=2 ^ 47 then (H.lay id (.O 0 e nx.2)).map fun H'=>(.Z id 0 0 nx.1 (P.cellsOf e),H')
     else none
    |.Z id' gen off len sz =>
     (H.na id' gen).bind fun ec =>
      if ec.1=e/\sz=P.cellsOf e/\off+len*sz=ec.2.length/\(len+nx.1)*P.bytesOf e<=2 ^ 47/\len+nx.1<=2 ^ 47/\nx.2.all nnn.one=true then
       if nx.1=0 then some (s,H)
       else some (.Z id' (gen+1) 0 (len+nx.1) sz,H.upd id' (.O (gen+1) e (ec.2.drop off++nx.2)))
      else none
    |_=>none
  |_=>none
 |_=>none
def kD (P:Program)(H:nnl)(at0:TypeId)(d x:nnn):Option (nnn × nnl) :=
 match P.underlying at0 with
 |some (.slice e) =>
  if (P.underlying e).isSome then
   (bU H (P.cellsOf e) x).bind fun nx =>
    match d with
    |.Z id gen off len sz =>
     (H.na id gen).bind fun ec =>
      if sz=P.cellsOf e/\off+len*sz<=ec.2.length/\nx.2.all nnn.one=true then
       some (.lit (.int .i64 (min nx.1 len:Nat)),H.upd id (.O gen ec.1 (setAt ec.2 off (nx.2.take (min nx.1 len*sz)))))
      else none
    |_=>none
  else none
 |_=>none
def kE (P:Program)(H:nnl)(t:TypeId)(x:nnn):Option nnn :=
 match P.underlying t with
 |some (.slice _) =>
  match x with
  |.L len _=>some (.lit (.int .i64 len))
  |.Z id gen _ len _=>(H.na id gen).map fun _=>.lit (.int .i64 len)
  |.lit (.slice none 0 0)=>some (.lit (.int .i64 0))
  |_=>none
 |some .string =>
  match x with
  |.lit (.string s)=>some (.lit (.int .i64 s.size))
  |_=>none
 |some (.array n _)=>some (.lit (.int .i64 n))
 |_=>none
def rE (P:Program)(t:TypeId):Bool:=match P.underlying t with
 |some (.map kt et)=>(match P.underlying kt with|some (.int .i64)=>true|_=>false) && (match (P.info? et).bind (·.zero) with|some (.int .i64 0)=>true|_=>false)
 |_=>false
def iC (k:Int):Nat->List (Int × Int)->Option (Nat × Int)
 |_,[]=>none
 |i,(a,v) :: l=>if k=a then some (i,v) else iC k (i+1) l
def xA (es:List (Int × Int))(k v:Int):List (Int × Int):=match iC k 0 es with
 |some (i,_)=>es.set i (k,v)
 |none=>es++[(k,v)]
def xB (es:List (Int × Int))(i:Nat)(v:Int):List (Int × Int):=match es[i]? with
 |some (k,_)=>es.set i (k,v)
 |none=>es
def tP (ok:Bool)(r:Option (Nat × Int)):nnn:=match r with
 |some (_,v)=>if ok then .nc [.lit (.int .i64 v),.lit (.bool true)] else .lit (.int .i64 v)
 |none=>if ok then .nc [.lit (.int .i64 0),.lit (.bool false)] else .lit (.int .i64 0)
def pK (P:Program)(H:nnl)(t:TypeId)(x i:nnn)(ok:Bool):Option nnn:=if rE P t=true then
  match x,i with
  |.lit (.map none),.lit (.int .i64 _)=>some (tP ok none)
  |.nk id,.lit (.int .i64 k)=>match H.get id with
   |some (.mp es)=>some (tP ok (iC k 0 es))
   |_=>none
  |_,_=>none
 else none
def lE (P:Program)(H:nnl)(t:TypeId)(m k x:nnn):Option (nnn × nnl):=if rE P t=true then
  match m,k,x with
  |.nk id,.lit (.int .i64 k),.lit (.int .i64 v)=>match H.get id with
   |some (.mp es)=>some (.lit undef,H.upd id (.mp (xA es k v)))
   |_=>none
  |_,_,_=>none
 else none
def nO (P:Program)(H:nnl)(t:TypeId)(m k:nnn):Option (nnn × nnl):=if rE P t=true then
  match m,k with
  |.nk id,.lit (.int .i64 k)=>match H.get id with
   |some (.mp es)=>match iC k 0 es with
    |some (i,v)=>some (.nc [.lit (.int .i64 v),.lit (.int .i64 i)],H.upd id (.mp es))
    |none=>some (.nc [.lit (.int .i64 0),.lit (.int .i64 es.length)],H.upd id (.mp (es++[(k,0)])))
   |_=>none
  |_,_=>none
 else none
def pL (H:nnl)(m s x:nnn):Option (nnn × nnl) :=
 match m,s,x with
 |.nk id,.lit (.int .i64 s),.lit (.int .i64 v)=>match H.get id with
  |some (.mp es)=>if 0<=s/\s<es.length then some (.lit undef,H.upd id (.mp (xB es s.toNat v))) else none
  |_=>none
 |_,_,_=>none
def ij (P:Program)(H:nnl)(at0:TypeId)(d:nnn):Option (nnn × nnl) :=
 match P.underlying at0 with
 |some (.slice e) =>
  match d with
  |.lit (.slice none 0 0)=>some (.nc [],H)
  |.Z id gen off len sz =>
   (H.na id gen).bind fun ec =>
    if len=0 then some (.nc [],H)
    else (jc P e len).bind fun z =>
     if z.length=len*sz/\off+len*sz<=ec.2.length/\z.all nnn.one=true then some (.nc [],H.upd id (.O gen ec.1 (setAt ec.2 off z)))
     else none
  |_=>none
 |_=>none
def pM:List nnn->Option (List Value)
 | []=>some []
 |v :: r=>(v.bZ).bind fun x=>(pM r).map (x :: ·)
def fE (P:Program)(H:nnl)(id:Nat)(b:Builtin)(ats:List TypeId)(args:List nnn):Option (nnn × nnl) :=
 match b,ats,args with
 |.len,[t],[x]=>(kE P H t x).map fun v=>(v,H)
 |.append,[t,u],[s,x]=>bh P H id t u s x
 |.copy,[t,_],[d,x]=>kD P H t d x
 |.clear,[t],[d]=>ij P H t d
 |.min,_,args=>(pM args).bind fun vs=>(cE P (Builtin.min_ #[] 0 vs.toArray)).map fun v=>(.lit v,H)
 |.max,_,args=>(pM args).bind fun vs=>(cE P (Builtin.max_ #[] 0 vs.toArray)).map fun v=>(.lit v,H)
 |_,_,_=>none
def je (P:Program)(H:nnl)(id:Nat)(t:TypeId)(l c:nnn):Option (nnn × nnl) :=
 match P.underlying t,l,c with
 |some (.slice e),.lit (.int _ l),.lit (.int _ c) =>
  if 0<=l/\l<=c/\c*P.bytesOf e<=2 ^ 46/\c<=2 ^ 46 then
   (jc P e l.toNat).bind fun cells=>(H.lay id (.O 0 e cells)).map fun H'=>(.Z id 0 0 l.toNat (P.cellsOf e),H')
  else none
 |_,_,_=>none
def pN (P:Program)(t:TypeId)(parts:List (Nat × nnn)):Option nnn :=
 (bC P t).bind fun z =>
  match P.underlying t with
  |some (.struct _)=>(jd P t).bind fun pl=>(eQ (fun i=>pl[i]?) z parts).map .agg
  |some (.array _ e)=>if (P.underlying e).isSome then (eQ (fun i=>some (i*P.cellsOf e,P.cellsOf e)) z parts).map .agg else none
  |_=>none
def jG (P:Program)(H:nnl)(id:Nat)(t:TypeId)(len:Nat)(parts:List (Nat × nnn)):Option (nnn × nnl) :=
 match P.underlying t with
 |some (.slice e) =>
  if len*P.cellsOf e<=2 ^ 24 then
   (jc P e len).bind fun z=>(eQ (fun i=>some (i*P.cellsOf e,P.cellsOf e)) z parts).bind fun cells =>
    (H.lay id (.O 0 e cells)).map fun H'=>(.Z id 0 0 len (P.cellsOf e),H')
  else none
 |_=>none
def bq (P:Program)(op:BinOp)(t:TypeId)(x y:Operand)(a b:nnn):Option nnn :=
 match a.bZ,b.bZ with
 |some a,some b=>(cE P (do eqGuard op t x y a b;binOp op t a b)).map .lit
 |_,_=>none
def rF (P:Program)(op:UnOp)(a:nnn):Option nnn :=
 match a.bZ with
 |some a=>(cE P (Op.unary op a)).map .lit
 |none=>none
def kF (P:Program)(s d:TypeId)(a:nnn):Option nnn :=
 match a.bZ with
 |some a=>(cE P (convert s d a)).map .lit
 |none=>none
def pO:List nnn->Option (List Int)
 | []=>some []
 |.lit (.int .u8 n) :: l=>(pO l).map (n :: ·)
 |_ :: _=>none
def Bo (l:List Int):ByteArray:=l.foldl (fun r n=>r.push (UInt8.ofNat n.toNat)) ByteArray.empty
def Bp (P:Program)(s d:TypeId):Bool:=match P.underlying s,P.underlying d with
 |some (.slice e),some .string=>match P.underlying e with
  |some (.int .u8)=>true
  |_=>false
 |_,_=>false
def mq (P:Program)(H:nnl)(s d:TypeId)(x:nnn):Option nnn :=
 if Bp P s d then (bU H 1 x).bind fun nl=>(pO nl.2).map fun l=>.lit (.string (Bo l)) else none
def jH (P:Program)(H:nnl)(s d:TypeId)(x:nnn):Option nnn:=match x with
 |.Z id g o l z=>mq P H s d (.Z id g o l z)
 |.L l c=>mq P H s d (.L l c)
 |x=>kF P s d x
def jI (H:nnl):nnn->Option nnn
 |.Y id gen off=>(H.na id gen).map fun _=>.Y id gen off
 |.ni cells off=>some (.ni cells off)
 |.nb f a b=>some (.nb f a b)
 |_=>none
def mr (P:Program)(t:TypeId)(x:nnn)(i:nnn):Option nnn :=
 match x,i with
 |.agg cells,.lit (.int _ i) =>
  match P.underlying t with
  |some (.array n e)=>if 0<=i/\i<(n:Int) then eP P e cells (i.toNat*P.cellsOf e) else none
  |_=>none
 |.lit v,.lit i=>(cE P (Instr.index t v i)).map .lit
 |_,_=>none
def lF:nnn->Nat->Option nnn
 |.nc vs,i=>vs[i]?
 |.lit (.tuple vs),i=>(vs[i]?).map .lit
 |_,_=>none
def aj (P:Program)(G:Nat->Option (List nnn))(ρ:Env)(H:nnl)(id:Nat)(o:Op):Option (nnn × nnl) :=
 match o with
 |.move x|.assign x=>some (ak G ρ x,H)
 |.pick c a b=>match ak G ρ c with
  |.lit (.bool t)=>some (if t then ak G ρ a else ak G ρ b,H)
  |_=>none
 |.alloc e=>(bC P e).bind fun z=>(H.lay id (.O 0 e z)).map fun H'=>(.Y id 0 0,H')
 |.box e x=>(H.lay id (.O 0 e (ak G ρ x).cells)).map fun H'=>(.Y id 0 0,H')
 |.build t parts=>(pN P t (parts.toList.map fun p=>(p.1,ak G ρ p.2))).map fun v=>(v,H)
 |.buildSlice t len parts=>jG P H id t len (parts.toList.map fun p=>(p.1,ak G ρ p.2))
 |.load t a=>(fk P H t (ak G ρ a)).map fun v=>(v,H)
 |.store t a x=>if (P.underlying t).isSome then (ie P H t (ak G ρ a) (ak G ρ x)).map fun H'=>(.lit undef,H') else none
 |.nilCheck x=>(jI H (ak G ρ x)).map fun v=>(v,H)
 |.binOp op t x y _=>(bq P op t x y (ak G ρ x) (ak G ρ y)).map fun v=>(v,H)
 |.unOp op _ x=>(rF P op (ak G ρ x)).map fun v=>(v,H)
 |.convert s d x=>(jH P H s d (ak G ρ x)).map fun v=>(v,H)
 |.makeInterface t x=>match (ak G ρ x).bZ with
  |some v=>(cE P (Instr.makeInterface t v)).map fun r=>(.lit r,H)
  |none=>none
 |.makeFunc fn first captured=>match fn with
  |.func f=>some (.nb f (first.toList.map (ak G ρ)) (captured.toList.map (ak G ρ)),H)
  |_=>none
 |.makeSlice t l c=>je P H id t (ak G ρ l) (ak G ρ c)
 |.slice t x lo hi mx=>match mx with
  |none=>(lD P H t (ak G ρ x) (lo.map (ak G ρ)) (hi.map (ak G ρ))).map fun v=>(v,H)
  |some _=>none
 |.fieldAddr s x f=>(bD P s f).bind fun of=>match ak G ρ x with
  |.Y id gen off=>(H.na id gen).map fun _=>(.Y id gen (off+of.1),H)
  |.ni cells off=>some (.ni cells (off+of.1),H)
  |_=>none
 |.field t x f=>(bD P t f).bind fun of=>match ak G ρ x with
  |.agg cells=>(eP P of.2 cells of.1).map fun v=>(v,H)
  |.lit (.agg cs)=>(eP P of.2 (cs.toList.map .lit) of.1).map fun v=>(v,H)
  |_=>none
 |.indexAddr t x i=>match ak G ρ i with
  |.lit (.int _ i)=>(mo P H t (ak G ρ x) i).map fun v=>(v,H)
  |_=>none
 |.index t x i=>(mr P t (ak G ρ x) (ak G ρ i)).map fun v=>(v,H)
 |.extract t i=>(lF (ak G ρ t) i).map fun v=>(v,H)
 |.makeMap _ r=>match r with
  |none=>(H.lay id (.mp [])).map fun H'=>(.nk id,H')
  |some _=>none
 |.lookup t x i ok=>(pK P H t (ak G ρ x) (ak G ρ i) ok).map fun v=>(v,H)
 |.mapUpdate t m k x|.insert t m k x=>lE P H t (ak G ρ m) (ak G ρ k) (ak G ρ x)
 |.mapEntry t m k=>nO P H t (ak G ρ m) (ak G ρ k)
 |.entryStore _ m s x=>pL H (ak G ρ m) (ak G ρ s) (ak G ρ x)
 |.call c=>match c.callee with
  |.builtin b=>fE P H id b c.argTypes.toList (c.args.toList.map (ak G ρ))
  |_=>none
 |_=>none
end Go.Hx
namespace Go.Hx
variable {P:Program} {G:Nat->Option (List nnn)} {Γ Γ':aA} {H H':nnl} {w w':World}
variable {c:Array Value}{b base gen id n o off:Nat}{e t:TypeId}{ca cv:Value}{a v:nnn}
def iD {cells:List nnn}(h:H.na id gen=some (e,cells)):H.get id=some (.O gen e cells):=by
 unfold nnl.na at h;split at h
 ·rename_i g e' cells' hg;split at h
  ·rename_i hgg;simp only[Option.some.injEq,Prod.mk.injEq]at h;rw[hg,hgg,h.1,h.2]
  ·cases h
 ·cases h
def nnu (P:Program)(Γ:aA)(H:nnl)(w:World)(b o:Nat)(cells:List nnn):Prop :=
 ∃cs:List Value,cs.length=cells.length/\(∀i (h:i<cs.length),w.cell? ⟨b,o+i,none⟩=some cs[i]) /\
  ∀i (_:i<cells.length) (_:i<cs.length),nnc P Γ H w cells[i] cs[i]
def I9 {f:Nat × Nat}{cells:List nnn}(hb:w.heap[b]?=some (.cells c e f))(hle:base+cells.length<=c.size)
  (hrel:∀i (_:i<cells.length),∃cv,c[base+i]?=some cv/\nnc P Γ H w cells[i] cv):nnu P Γ H w b base cells:=by
 refine⟨(c.toList.drop base).take cells.length,by simp;omega,fun i hi=>?_,fun i h1 h2=>?_⟩
 ·rw[Bm hb];simp only[Xm,X1,YO]at hi;simp only[YY,Za,Ya];rw[Xk U]
 ·obtain⟨cv,a1,a2⟩:=hrel i h1;simp only[YY,Za,Ya];rw[Xk U]at a1;simp only[Option.some.injEq]at a1;rw[a1];exact a2
theorem nnu.drop {cells:List nnn}(h:nnu P Γ H w b o cells)(k n:Nat)(hk:k+n<=cells.length):nnu P Γ H w b (o+k) ((cells.drop k).take n):=by
 obtain⟨cs,h1,h2,h3⟩:=h;refine⟨(cs.drop k).take n,by simp[h1],fun i hi=>?_,fun i a1 a2=>?_⟩
 ·simp only[Xm,X1]at hi;have:=h2 (k+i) U;simp only[YY,Za];rw[<- this];congr 2;omega
 ·simp only[YY,Za];simp only[Xm,X1]at a1 a2;exact h3 (k+i) U (U)
def tQ {cells:List nnn}(hp:eP P t cells off=some v)(hr:nnu P Γ H w b o cells):
  ∃cv,(loadVar t ⟨b,o+off,none⟩).run P w=.ok cv w/\nnc P Γ H w v cv:=by
 unfold eP at hp;split at hp
 ·cases hp
 ·rename_i d hd;split at hp
  ·rename_i ha;split at hp
   ·rename_i hle;simp only[Option.some.injEq]at hp;subst hp;obtain⟨cs,h1,h2,h3⟩:=hr.drop off (P.cellsOf t) hle;refine⟨.agg cs.toArray,IR hd ha ?_ h2,.agg h1 h3⟩;rw[h1];simp;omega
   ·cases hp
  ·rename_i ha;obtain⟨cs,h1,h2,h3⟩:=hr;obtain⟨hlt,hv⟩:=XR.1 hp;subst hv;exact⟨cs[off]' U,IS hd (by simpa using ha) (h2 off U),h3 off hlt U⟩
def pP {cells:List nnn}(h:nnc P Γ H w (.Y id gen off) cv)(hl:H.na id gen=some (e,cells)):
  ∃b base n,Γ id=some (b,base,n)/\cv=.pointer (some ⟨b,base+off,none⟩):=by
 cases h with
 |Y h=>exact(h.2.2.2 gen e cells (iD hl)).2 rfl
def jf {len sz:Nat}{cells:List nnn}(h:nnc P Γ H w (.Z id gen off len sz) cv)(hl:H.na id gen=some (e,cells)):
  (∃b base n a cap,Γ id=some (b,base,n)/\cv=.slice (some a) len cap/\len<=cap/\off+len*sz<=cells.length /\
   ((a=⟨b,base+off,none⟩/\base+off+cap*sz<=n)\/(len=0/\cap=0))) \/
  (Γ id=none/\off=0/\len=0/\cv=.slice none 0 0):=by
 cases h with
 |Z h =>
  have:=(h.2.2.2 gen e cells (iD hl)).2 rfl;cases hg:Γ id with
  |none=>rw[hg]at this;exact .inr ⟨rfl,this⟩
  |some x =>
   obtain⟨b,base,n⟩:=x;rw[hg]at this;obtain⟨a,cap,h1,h2,h3,h4⟩:=this;exact .inl ⟨b,base,n,a,cap,rfl,h1,h2,h3,h4⟩
def pQ (R:nng P G Γ H w){cells:List nnn}(hl:H.na id gen=some (e,cells))(hΓ:Γ id=some (b,base,n)):
  ∃c,w.heap[b]?=some (.cells c e (0,0))/\c.size=n/\base+cells.length<=n/\∀i (_:i<cells.length),∃cv,c[base+i]?=some cv/\nnc P Γ H w cells[i] cv:=by
 have:=R.O id gen e cells (iD hl);rw[hΓ]at this;exact this
def rG (R:nng P G Γ H w){cells:List nnn}(hl:H.na id gen=some (e,cells))(hΓ:Γ id=some (b,base,n)):
  nnu P Γ H w b base cells:=by
 obtain⟨c,h1,h2,h3,h4⟩:=pQ R hl hΓ;exact I9 h1 U h4
def Ja (R:nng P G Γ H w)(h:fk P H t a=some v)(ha:nnc P Γ H w a ca):
  ∃cv,(Instr.loadAt t ca).run P w=.ok cv w/\nnc P Γ H w v cv:=by
 unfold fk at h;split at h
 ·rename_i id gen off;split at h
  ·rename_i g e cells hg;split at h
   ·rename_i hgg;have hl:H.na id gen=some (e,cells):=(by simp[nnl.na,hg,hgg]);obtain⟨b,base,n,hΓ,rfl⟩:=pP ha hl;obtain⟨cv,h1,h2⟩:=tQ h (rG R hl hΓ);refine⟨cv,?_,h2⟩;unfold Instr.loadAt Instr.sureAddr;exact h1
   ·cases h
  ·cases h
 ·rename_i cells off;cases ha with
  |ni hb hlt hcs hcell hrel =>
   obtain⟨cv,h1,h2⟩:=tQ h ⟨_,hcs,hcell,hrel⟩;exact⟨cv,h1,h2⟩
 ·cases h
def tR {cells:List nnn}{cs:List Value}(h:cells.all nnn.one=true)(hl:cs.length=cells.length)
  (hr:∀i (_:i<cells.length) (_:i<cs.length),nnc P Γ H w cells[i] cs[i]):∀v,v∈cs->v.oneCell=true:=by
 intro v hv;obtain⟨i,hi,rfl⟩:=List.getElem_of_mem hv;exact(hr i U hi).one (XK.1 h _ (XA U))
def tS {cells vs:List nnn}{cvs:List Value}(hle:off+vs.length<=cells.length)(hc:base+cells.length<=c.size)
  (hl:cvs.length=vs.length) (hrel:∀i (_:i<cells.length),∃cv,c[base+i]?=some cv/\nnc P Γ H w cells[i] cv)
  (hv:∀i (_:i<vs.length) (_:i<cvs.length),nnc P Γ H w vs[i] cvs[i]):
  ∀i (_:i<(setAt cells off vs).length),∃cv,(setRow c (base+off) cvs)[base+i]?=some cv/\nnc P Γ H w (setAt cells off vs)[i] cv:=by
 intro i hi;have hi':=hi;rw[pI hle]at hi';rw[Bj _ _ _ U];have hg:(setAt cells off vs)[i]?=some (setAt cells off vs)[i]:=W5 hi;rw[IW hle]at hg;by_cases h1:off<=i/\i<off+vs.length
 ·rw[W8 h1]at hg;rw[W8 U];have h2:i-off<vs.length:=U
  rw[W5 h2]at hg;simp only[Option.some.injEq]at hg;rw[<- hg];refine⟨cvs[i-off]' U,?_,hv _ h2 U⟩;rw[show base+i-(base+off)=i-off from by omega,W5 U]
 ·rw[W7 h1,W5 hi']at hg;rw[W7 U];simp only[Option.some.injEq]at hg;rw[<- hg];exact hrel i hi'
def Jb (R:nng P G Γ H w)(h:ie P H t a v=some H')(ht:∃i,P.info? t=some i)(ha:nnc P Γ H w a ca)(hv:nnc P Γ H w v cv):
  ∃w',(Instr.storeAt t ca cv).run P w=.ok () w'/\Evo Γ H w Γ H' w'/\H.C<=H'.C/\nng P G Γ H' w':=by
 unfold ie at h;split at h
 ·rename_i id gen off;split at h
  ·rename_i g e cells hg;split at h
   ·rename_i hgg;obtain⟨hgg,h1,h2,h3⟩:=hgg;simp only[Option.some.injEq]at h;subst h;have hl:H.na id gen=some (e,cells):=(by simp[nnl.na,hg,hgg]);obtain⟨b,base,n,hΓ,rfl⟩:=pP ha hl;obtain⟨c,c1,c2,c3,c4⟩:=pQ R hl hΓ;obtain⟨v1,v2⟩:=hv.cells;obtain⟨i,hi⟩:=ht;have hrun:(Instr.storeAt t (.pointer (some ⟨b,base+off,none⟩)) cv).run P w=.ok () (bx w b (.cells (setRow c (base+off) cv.cells.toList) e (0,0))):=by
     unfold Instr.storeAt Instr.sureAddr;rw[ao (Sem.run_pure P w _)];unfold storeVar;rw[ao (run_sizeOf hi)];have:¬(cv.cells.size≠P.cellsOf t):=(by rw[<- h1,<- v1];simp);rw[W7 this];have hrun:=rC (P:=P) cv.cells.toList c (base+off) 0 w c1 U (tR h2 v1 v2);exact hrun
    obtain⟨E,R'⟩:=xz (cells':=setAt cells off v.cells) (c':=setRow c (base+off) cv.cells.toList) R hg hΓ (pI h3) (by rw[size_setRow,c2])
     (tS h3 U v1 c4 v2)
    exact⟨_,hrun,E,aaz,R'⟩
   ·cases h
  ·cases h
 ·cases h
end Go.Hx
namespace Go.Hx
variable {P:Program} {G:Nat->Option (List nnn)} {Γ Γ':aA} {H H':nnl} {w w':World}
variable {cparts:Array (Nat × Value)}{cs:Array Value}{parts:List (Nat × nnn)}{z:List nnn}{b id n:Nat}{place:Nat->Option (Nat × Nat)}{e t:TypeId}{v:Value}
def cU (P:Program)(Γ:aA)(H:nnl)(w:World)(cells:List nnn)(cs:Array Value):Prop :=
 cs.size=cells.length/\∀i (_:i<cells.length) (h:i<cs.size),nnc P Γ H w cells[i] cs[i]
theorem cU.lit (cs:Array Value):cU P Γ H w (cs.toList.map .lit) cs :=
 ⟨aaw,fun i h1 h2=>by simp only[Xi,Ya];exact .lit _⟩
def cU.get {cells:List nnn}(h:cU P Γ H w cells cs){i:Nat}(hi:i<cells.length):∃cv,cs[i]?=some cv/\nnc P Γ H w cells[i] cv :=
 ⟨cs[i]'(by rw[h.1];exact hi),by rw[Xk],h.2 i hi (by rw[h.1];exact hi)⟩
def pS (h:bC P t=some z):∃i v,P.info? t=some i/\i.zero=some v/\v.cells.size=i.size/\z=v.cells.toList.map .lit/\P.cellsOf t=i.size:=by
 unfold bC at h;split at h
 ·rename_i i hi;split at h
  ·rename_i v hv;split at h
   ·rename_i hs;simp only[Option.some.injEq]at h;exact⟨i,v,hi,hv,hs,h.symm,by simp[Program.cellsOf,hi]⟩
   ·cases h
  ·cases h
 ·cases h
def nV {i:TypeInfo}(hi:P.info? t=some i)(hv:i.zero=some v):(zeroValue t).run P w=.ok v w:=by
 unfold zeroValue;rw[ao (run_typeInfo hi)];simp[hv]
def Jd:∀(vs:List Value) (cs:Array Value) (off k:Nat),
  (vs.zipIdx k).foldl (fun cs (p:Value × Nat)=>cs.setIfInBounds (off+p.2) p.1) cs=setRow cs (off+k) vs:=by
 intro vs
 induction vs with
 |nil=>intro cs off k;rfl
 |cons v vs ih=>intro cs off k;rw[List.zipIdx_cons,Ys,ih];rfl
def Je {cells vs:List nnn}{cvs:List Value}{off:Nat}(h:cU P Γ H w cells cs)(hle:off+vs.length<=cells.length)(hl:cvs.length=vs.length)
  (hv:∀i (_:i<vs.length) (_:i<cvs.length),nnc P Γ H w vs[i] cvs[i]):cU P Γ H w (setAt cells off vs) (setRow cs off cvs):=by
 refine⟨by rw[size_setRow,pI hle,h.1],fun i h1 h2=>?_⟩;have:=tS (base:=0) hle (by rw[h.1];omega) hl (fun i hi=>by rw[Nat.zero_add];exact h.get hi) hv i h1;rw[Nat.zero_add,Nat.zero_add]at this;obtain⟨cv,a1,a2⟩:=this;rw[Xk h2]at a1;simp only[Option.some.injEq]at a1;rw[a1];exact a2
def xO :∀(parts:List (Nat × nnn)) (cparts:List (Nat × Value)) (cells cells':List nnn) (cs:Array Value),
  eQ place cells parts=some cells'->cU P Γ H w cells cs->cparts.length=parts.length ->
  (∀i (h1:i<parts.length) (h2:i<cparts.length),parts[i].1=cparts[i].1/\nnc P Γ H w parts[i].2 cparts[i].2) ->
  ∃cs',Instr.fill place cs cparts=some cs'/\cU P Γ H w cells' cs':=by
 intro parts
 induction parts with
 |nil =>
  intro cparts cells cells' cs h hr hl _;simp only[eQ,Option.some.injEq]at h;subst h;have:cparts=[]:=by simpa using hl
  subst this;exact⟨cs,rfl,hr⟩
 |cons p parts ih =>
  intro cparts cells cells' cs h hr hl hp;cases cparts with
  |nil=>simp at hl
  |cons cp cparts =>
   obtain⟨i,v⟩:=p;obtain⟨ci,cv⟩:=cp;obtain⟨h0,hv⟩:=hp 0 aaw aaw;simp only[XD]at h0 hv;subst h0;simp only[eQ]at h;simp only[Instr.fill];split at h
   ·cases h
   ·rename_i off size hpl;rw[hpl];split at h
    ·rename_i hc;obtain⟨v1,v2⟩:=hv.cells;have hn:(decide (cv.cells.size≠size) ||decide (off+cv.cells.size > cs.size))=false:=by
      have:cv.cells.size=v.cells.length:=(by rw[<- v1];simp);have:=hr.1;simp;omega
     simp only[hn,Bool.false_eq_true,if_false];have hf:cv.cells.zipIdx.foldl (fun cs (p:Value × Nat)=>cs.setIfInBounds (off+p.2) p.1) cs=setRow cs off cv.cells.toList:=by
      have:=Jd cv.cells.toList cs off 0;rw[Nat.add_zero]at this;rw[<- this,<- Array.foldl_toList,Array.toList_zipIdx]
     rw[hf];exact ih cparts _ _ _ h (Je hr hc.2 v1 v2) (by simpa using hl)
      (fun i h1 h2=>hp (i+1) (by simpa using h1) (by simpa using h2))
    ·cases h
def Jf :∀ {parts:List (Nat × nnn)} {cells cells':List nnn},eQ place cells parts=some cells'->cells'.length=cells.length:=by
 intro parts
 induction parts with
 |nil=>intro cells cells' h;simp only[eQ,Option.some.injEq]at h;rw[h]
 |cons p parts ih =>
  intro cells cells' h;obtain⟨i,v⟩:=p;simp only[eQ]at h;split at h
  ·cases h
  ·split at h
   ·rename_i hc;rw[ih h,pI hc.2]
   ·cases h
def xP {α:Type}(z:List α):∀(n i:Nat) (_:i<n*z.length),(List.replicate n z).flatten[i]?=z[i % z.length]?:=by
 intro n
 induction n with
 |zero=>intro i h;simp at h
 |succ n ih =>
  intro i h;rw[YB,List.flatten_cons];by_cases hi:i<z.length
  ·rw[Xe hi,Nat.mod_eq_of_lt hi]
  ·rw[Xp U,ih (i-z.length) (by rw[Zg]at h;omega)];rw[<- Nat.mod_eq_sub_mod U]
def xQ (hz:z=v.cells.toList.map .lit):
  cU P Γ H w (List.replicate n z).flatten ((Array.range (n*v.cells.size)).map (v.cells[· % v.cells.size]!)):=by
 have hzl:z.length=v.cells.size:=by rw[hz];simp
 refine⟨by simp[hzl],fun i h1 h2=>?_⟩;have hi:i<n*v.cells.size:=by simpa using h2
 have hpos:0<v.cells.size:=by
  rcases Yp v.cells.size with h|h
  ·rw[h]at hi;simp at hi
  ·exact h
 have hg:=xP z n i (by rw[hzl];exact hi);rw[W5 h1,hzl]at hg;have hm:i % v.cells.size<v.cells.size:=ZY _ hpos;have hz2:z[i % v.cells.size]?=some (.lit v.cells[i % v.cells.size]):=by
  rw[hz,List.getElem?_map,Array.getElem?_toList,Xk hm];rfl
 rw[hz2]at hg;simp only[Option.some.injEq]at hg;rw[hg];simp only[Zb,Array.getElem_range];rw[getElem!_pos v.cells _ hm];exact .lit _
def Jg {v:nnn}(h:pN P t parts=some v)(hl:cparts.toList.length=parts.length)
  (hp:∀i (h1:i<parts.length) (h2:i<cparts.toList.length),parts[i].1=cparts.toList[i].1/\nnc P Γ H w parts[i].2 cparts.toList[i].2):
  ∃cv,(Instr.build t cparts).run P w=.ok cv w/\nnc P Γ H w v cv:=by
 unfold pN at h;simp only[Xa]at h;obtain⟨z,hz,h⟩:=h;obtain⟨i,zv,hi,hzv,_,hzz,_⟩:=pS hz;unfold Instr.build;rw[ao (nV hi hzv)];have hz0:cU P Γ H w z zv.cells:=hzz ▸ cU.lit _;split at h
 ·rename_i fs hd;simp only[Xa,W4]at h;obtain⟨pl,hpl,cells,hf,rfl⟩:=h;rw[ao (cf hd)];simp only;unfold jd at hpl;rw[hd]at hpl;simp only at hpl;split at hpl
  ·rename_i hall;simp only[Option.some.injEq]at hpl;have hplaces:(fs.mapM fun (f:Field)=>(do pure (f.offset,<- sizeOf f.type):Sem (Nat × Nat))).run P w=.ok (fs.map fun f=>(f.offset,P.cellsOf f.type)) w:=by
    rw[ZD];have key:∀(l:List Field),(l.all fun f=>(P.info? f.type).isSome)=true ->
      (l.mapM fun (f:Field)=>(do pure (f.offset,<- sizeOf f.type):Sem (Nat × Nat))).run P w=.ok (l.map fun f=>(f.offset,P.cellsOf f.type)) w:=by
     intro l
     induction l with
     |nil=>intro _;rfl
     |cons f l ih =>
      intro ha;simp only[List.all_cons,Xv]at ha;obtain⟨j,hj⟩:=XP.1 ha.1;rw[List.mapM_cons,ao (a:=(f.offset,P.cellsOf f.type)) (w':=w) (by rw[ao (run_sizeOf hj)];rfl),ao (ih ha.2)];rfl
    rw[Sem.run_map,key _ hall,Result.andThen_ok,<- Z8,ZN]
   rw[ao hplaces];obtain⟨cs',hc1,hc2⟩:=xO parts cparts.toList z cells zv.cells hf hz0 hl hp;have hpe:(fun i:Nat=>(fs.map fun f=>(f.offset,P.cellsOf f.type))[i]?)=fun i=>pl[i]?:=by
    funext i
    rw[<- hpl];simp
   rw[hpe,hc1];exact⟨_,rfl,.agg (by simpa using hc2.1) (fun i h1 h2=>by simpa using hc2.2 i h1 (by simpa using h2))⟩
  ·cases hpl
 ·rename_i n e hd;split at h
  ·rename_i he;simp only[W4]at h;obtain⟨cells,hf,rfl⟩:=h;obtain⟨d,hde⟩:=XP.1 he;rw[ao (cf hd)];simp only;rw[ao (ic hde)];obtain⟨cs',hc1,hc2⟩:=xO parts cparts.toList z cells zv.cells hf hz0 hl hp;rw[hc1];exact⟨_,rfl,.agg (by simpa using hc2.1) (fun i h1 h2=>by simpa using hc2.2 i h1 (by simpa using h2))⟩
  ·cases h
 ·cases h
def xR {cells:List nnn}{len cap sz:Nat}{Γ':aA}(hget:H'.get id=some (.O 0 e cells))(hn:id<H'.C)(hΓ:Γ' id=some (b,0,n))
  (hlen:len<=cap) (hle:len*sz<=cells.length) (hcap:cap*sz<=n):nnc P Γ' H' w' (.Z id 0 0 len sz) (.slice (some ⟨b,0,none⟩) len cap):=by
 refine .Z ⟨hn,rfl,by rw[hget];simp,fun g e' cells' hg=>?_⟩;rw[hget]at hg;simp only[Option.some.injEq,Blk.O.injEq]at hg;obtain⟨rfl,rfl,rfl⟩:=hg;refine⟨aaz,fun _=>?_⟩;rw[hΓ];exact⟨⟨b,0,none⟩,cap,rfl,hlen,U,.inl ⟨rfl,U⟩⟩
def Bs {cells:List nnn}{Γ':aA}(hget:H'.get id=some (.O 0 e cells))(hn:id<H'.C)(hΓ:Γ' id=some (b,0,n)):
  nnc P Γ' H' w' (.Y id 0 0) (.pointer (some ⟨b,0,none⟩)):=by
 refine .Y ⟨hn,rfl,by rw[hget];simp,fun g e' cells' hg=>?_⟩;rw[hget]at hg;simp only[Option.some.injEq,Blk.O.injEq]at hg;obtain⟨rfl,rfl,rfl⟩:=hg;exact⟨aaz,fun _=>⟨b,0,n,hΓ,aaw⟩⟩
def Jh {len:Nat}{v:nnn}(R:nng P G Γ H w)(h:jG P H id t len parts=some (v,H'))(hl:cparts.toList.length=parts.length)
  (hp:∀i (h1:i<parts.length) (h2:i<cparts.toList.length),parts[i].1=cparts.toList[i].1/\nnc P Γ H w parts[i].2 cparts.toList[i].2):
  ∃cv Γ' w',(Instr.buildSlice t len cparts).run P w=.ok cv w'/\Evo Γ H w Γ' H' w'/\H.C<=H'.C/\nng P G Γ' H' w'/\nnc P Γ' H' w' v cv:=by
 unfold jG at h;split at h
 ·rename_i e hd;split at h
  ·rename_i hle;simp only[Xa,W4,Prod.mk.injEq]at h;obtain⟨zs,hzs,cells,hf,H1,hlay,rfl,rfl⟩:=h;unfold jc at hzs;simp only[W4]at hzs;obtain⟨z,hz,rfl⟩:=hzs;obtain⟨i,zv,hi,hzv,hsz,hzz,hcells⟩:=pS hz;have hz0:cU P Γ H w (List.replicate len z).flatten ((Array.range (len*zv.cells.size)).map (zv.cells[· % zv.cells.size]!)):=xQ hzz;obtain⟨cs',hc1,hc2⟩:=xO parts cparts.toList _ cells _ hf hz0 hl hp;have hrun:(Instr.buildSlice t len cparts).run P w=.ok (.slice (some ⟨w.heap.size,0,none⟩) len len) (w.alloc (.cells cs' e)):=by
    unfold Instr.buildSlice;rw[ao (cf hd)];simp only;rw[ao (run_sizeOf hi)];rw[W7 U];have hcs:P.cellsOf e=zv.cells.size:=(by rw[hcells,hsz]);rw[hcs];rw[hcs]at hc1;by_cases h0:len*zv.cells.size=0
    ·rw[h0]at hc1;rw[W8 h0];rw[ao (Sem.run_pure P w _)];have he:∀f:Nat->Value,(Array.range 0).map f=#[]:=fun _=>Zq aaw;have he2:∀f:Nat->Value,(Array.range (len*zv.cells.size)).map f=#[]:=fun _=>Zq (by simp[h0]);rw[he]at hc1;rw[he2,hc1];rfl
    ·rw[W7 h0];rw[ao (nV hi hzv),ao (Sem.run_pure P w _),hc1];rfl
   have hlen:len*P.cellsOf e<=cells.length:=by
    have h1:=Jf hf;rw[h1];simp[hzz,hcells,hsz]
   obtain⟨E,hn,R'⟩:=rD (c:=cs') R hlay (by rw[hc2.1];exact Nat.le_refl _) (fun i hi=>hc2.get hi);obtain⟨hget,_⟩:=jb hlay;obtain⟨_,_,_,hid⟩:=mn R hlay;exact⟨_,_,_,hrun,E,hn,R',xR (by rw[hget,W8 rfl]) hid (aA.dE _ _ _) aaz hlen (by rw[hc2.1];exact hlen)⟩
  ·cases h
 ·cases h
end Go.Hx
namespace Go.Hx
variable {P:Program} {G:Nat->Option (List nnn)} {Γ Γ':aA} {H H':nnl} {w w':World}
variable {id k:Nat}{t:TypeId}{cv:Value}{v:nnn}
def wrap_small {n:Int}(h0:0<=n)(h1:n<=2 ^ 46):IntKind.i64.wrap n=n:=W6 n (U)
def Bw {i:TypeInfo}(h:P.info? t=some i):P.bytesOf t=i.bytes:=by simp[Program.bytesOf,h]
def Jl {l c:nnn}{cl cc:Value}(R:nng P G Γ H w)(h:je P H id t l c=some (v,H'))(hl:nnc P Γ H w l cl)(hc:nnc P Γ H w c cc):
  ∃cv Γ' w',(Instr.makeSlice t cl cc).run P w=.ok cv w'/\Evo Γ H w Γ' H' w'/\H.C<=H'.C/\nng P G Γ' H' w'/\nnc P Γ' H' w' v cv:=by
 unfold je at h;split at h
 ·rename_i e kl ln kc cn hd;cases hl;cases hc;split at h
  ·rename_i hb;obtain ⟨b1,b2,b3,b4⟩:=hb;simp only [Xa,W4,Prod.mk.injEq] at h;obtain ⟨zs,hzs,H1,hlay,rfl,rfl⟩:=h;unfold jc at hzs;simp only [W4] at hzs;obtain ⟨z,hz,rfl⟩:=hzs;obtain ⟨i,zv,hi,hzv,hsz,hzz,hcells⟩:=pS hz;have hcs : P.cellsOf e=zv.cells.size:=(by rw [hcells,hsz]);have hw1:=wrap_small b1 (by omega : ln≤2 ^ 46);have hw2:=wrap_small (by omega : 0≤cn) b4;have hzr : cU P Γ H w (List.replicate cn.toNat z).flatten ((Array.range (cn.toNat*zv.cells.size)).map (zv.cells[· % zv.cells.size]!)):=xQ hzz;have hrun : (Instr.makeSlice t (.int kl ln) (.int kc cn)).run P w=.ok (.slice (some ⟨w.heap.size,0,none⟩) ln.toNat cn.toNat)
     (w.alloc (.cells ((Array.range (cn.toNat*zv.cells.size)).map (zv.cells[· % zv.cells.size]!)) e)):=by
    unfold Instr.makeSlice;rw[ao (cf hd)];simp only;have ai:∀(k:IntKind) (n:Int),(asInt (.int k n)).run P w=.ok n w:=fun _ _=>rfl;rw[ao (ai _ _),ao (ai _ _),ao (run_typeInfo hi)];simp only[hw1,hw2];have hbi:=Bw hi;have hmul:(i.bytes:Int)*cn<=2 ^ 46:=(by rw[<- hbi,Z6];exact b3);rw[W7 (by simp;omega)];rw[ao (run_askRoom P w _),ao (run_sizeOf hi)];rw[hcs];by_cases h0:cn.toNat*zv.cells.size=0
    ·rw[W8 h0,ao (Sem.run_pure P w _)];have he2:∀f:Nat->Value,(Array.range (cn.toNat*zv.cells.size)).map f=#[]:=fun _=>Zq (by simp[h0]);rw[he2,he2];rfl
    ·rw[W7 h0,ao (nV hi hzv),ao (Sem.run_pure P w _)];rfl
   have hzl:z.length=zv.cells.size:=(by rw[hzz];simp);have hsize:((Array.range (cn.toNat*zv.cells.size)).map (zv.cells[· % zv.cells.size]!)).size=cn.toNat*zv.cells.size:=aaw;have hle:ln.toNat*zv.cells.size<=cn.toNat*zv.cells.size:=X9 _ U;have hlen1:(List.replicate ln.toNat z).flatten.length=ln.toNat*zv.cells.size:=(by simp[hzl]);obtain⟨E,hn,R'⟩:=rD (c:=(Array.range (cn.toNat*zv.cells.size)).map (zv.cells[· % zv.cells.size]!)) R hlay (by rw[hsize,hlen1];exact hle)
    (fun i hi=>by
     rw[hlen1]at hi;have h1:=xP z ln.toNat i (by rw[hzl];exact hi);have h2:=xP z cn.toNat i (by rw[hzl];omega);obtain⟨cv,a1,a2⟩:=hzr.get (i:=i) (by simp[hzl];omega);refine⟨cv,a1,?_⟩;have:(List.replicate ln.toNat z).flatten[i]=(List.replicate cn.toNat z).flatten[i]'(by simp[hzl];omega):=by
      rw[W5 (by rw[hlen1];exact hi)]at h1;rw[W5 (by simp[hzl];omega)]at h2;rw[<- h1]at h2;simpa using h2.symm
     rw[this];exact a2)
   obtain⟨hget,_⟩:=jb hlay;obtain⟨_,_,_,hid⟩:=mn R hlay;refine⟨_,_,_,hrun,E,hn,R',xR (by rw[hget,W8 rfl]) hid (aA.dE _ _ _) U ?_ ?_⟩
   ·rw[hlen1,hcs];exact Nat.le_refl _
   ·rw[hsize,hcs];exact Nat.le_refl _
  ·cases h
 ·cases h
def xU (k:IntKind)(n:Int):(asIntOf (.int k n)).run P w=.ok (k,n) w:=rfl
def Bx {gen off:Nat}{e:TypeId}{cells:List nnn}(h:nnc P Γ H w (.Y id gen off) cv)(hl:H.na id gen=some (e,cells)):
  ∃a,cv=.pointer (some a)/\nnc P Γ H w (.Y id gen (off+k)) (.pointer (some (a.add k))):=by
 obtain⟨b,base,n,hΓ,rfl⟩:=pP h hl;refine⟨_,rfl,?_⟩;rw[jF];cases h with
 |Y h =>
  refine .Y ⟨h.1,rfl,h.2.2.1,fun g e' cells' hg=>?_⟩;refine⟨(h.2.2.2 g e' cells' hg).1,fun _=>⟨b,base,n,hΓ,?_⟩⟩;rw[YQ]
def By {cells:List nnn}{off:Nat}(h:nnc P Γ H w (.ni cells off) cv):
  ∃a,cv=.pointer (some a)/\nnc P Γ H w (.ni cells (off+k)) (.pointer (some (a.add k))):=by
 cases h with
 |ni hb hlt hcs hcell hrel =>
  refine⟨_,rfl,?_⟩;rw[jF,YQ];exact .ni hb hlt hcs hcell hrel
def Jm {x:nnn}{k:IntKind}{i:Int}{cx:Value}(h:mo P H t x i=some v)(hx:nnc P Γ H w x cx):
  ∃cv,(Instr.indexAt t cx (.int k i)).run P w=.ok cv w/\nnc P Γ H w v cv:=by
 unfold mo at h;unfold Instr.indexAt;rw[ao (xU k i)];simp only;split at h
 ·rename_i n e hd;split at h
  ·rename_i hc;obtain ⟨c1,c2,c3⟩:=hc;obtain ⟨d,hde⟩:=XP.1 c3;rw [ao (cf hd)];simp only;have fin : ∀ a : Addr,((do
      let tiny:=decide (n<=1) && (match <- underlying t with|.array ..=>true|_=>false)
      match (some a:Option Addr) with
      |some a =>
       if 0≤i∧i<(n : Int) then pure (.pointer (some (a.add (i.toNat*(← sizeOf e)))))
              else if tiny then unsupported (.noEntry "op/indexAddr.an index out of range at an array of length 0 or 1 (ledger 616)")
       else boundsPanic k i n .index
      |none=>boundsPanic k i 0 .index):Sem Value).run P w=.ok (.pointer (some (a.add (i.toNat*P.cellsOf e)))) w:=by
    intro a;rw[ao (cf hd)];simp only;rw[W8 ⟨c1,c2⟩,ao (ic hde)];rfl
   split at h
   ·rename_i id gen off;simp only[W4]at h;obtain⟨ec,hl,rfl⟩:=h;obtain⟨a,rfl,hr⟩:=Bx (k:=i.toNat*P.cellsOf e) hx hl;exact⟨_,fin a,hr⟩
   ·rename_i cells off;simp only[Option.some.injEq]at h;subst h;obtain⟨a,rfl,hr⟩:=By (k:=i.toNat*P.cellsOf e) hx;exact⟨_,fin a,hr⟩
   ·cases h
  ·cases h
 ·rename_i e hd;split at h
  ·rename_i hc;obtain ⟨d,hde⟩:=XP.1 hc;rw [ao (cf hd)];have fin : ∀ (a : Addr) (len : Nat),0≤i∧i<(len : Int)→((do
      let tiny:=decide (len<=1) && (match <- underlying t with|.array ..=>true|_=>false)
      match (some a:Option Addr) with
      |some a =>
       if 0≤i∧i<(len : Int) then pure (.pointer (some (a.add (i.toNat*(← sizeOf e)))))
              else if tiny then unsupported (.noEntry "op/indexAddr.an index out of range at an array of length 0 or 1 (ledger 616)")
       else boundsPanic k i len .index
      |none=>boundsPanic k i 0 .index):Sem Value).run P w=.ok (.pointer (some (a.add (i.toNat*P.cellsOf e)))) w:=by
    intro a len hi;rw[ao (cf hd)];simp only;rw[W8 hi,ao (ic hde)];rfl
   split at h
   ·rename_i id gen off len sz;split at h
    ·rename_i hi;simp only[W4]at h;obtain⟨⟨e',cells⟩,hl,rfl⟩:=h;rcases jf hx hl with ⟨b,base,n,a,cap,hΓ,rfl,h1,h2,h3⟩|⟨_,_,h0,_⟩
     ·have ha:a=⟨b,base+off,none⟩:=by
       rcases h3 with h3|h3
       ·exact h3.1
       ·omega
      subst ha;refine⟨_,fin _ len ⟨hi.1,hi.2.1⟩,?_⟩;rw[jF];cases hx with
      |Z hx =>
       refine .Y ⟨hx.1,rfl,hx.2.2.1,fun g e'' cells'' hg=>?_⟩;refine⟨(hx.2.2.2 g e'' cells'' hg).1,fun _=>⟨b,base,n,hΓ,?_⟩⟩;rw[YQ]
     ·omega
    ·cases h
   ·rename_i len cells;split at h
    ·rename_i hi;simp only[Option.some.injEq]at h;subst h;cases hx with
     |nu=>exact absurd rfl hi.2.2
     |L hb hlt hlen hcs hcell hrel =>
      refine⟨_,fin _ len ⟨hi.1,hi.2.1⟩,?_⟩;rw[jF];exact .ni hb hlt hcs hcell hrel
    ·cases h
   ·cases h
  ·cases h
 ·cases h
end Go.Hx
namespace Go.Hx
variable {P:Program} {G:Nat->Option (List nnn)} {Γ Γ':aA} {H H':nnl} {w w':World}
variable {cv:Value}
def pU (P:Program)(Γ:aA)(H:nnl)(w:World):Option nnn->Option Value->Prop
 |none,none=>True
 |some v,some cv=>nnc P Γ H w v cv
 |_,_=>False
def run_sliceBound {k:IntKind}{i:Int}{y:Nat}{code:BoundsCode}(h:0<=i/\i<=(y:Int)):(Instr.sliceBound (.int k i) y code).run P w=.ok i.toNat w:=by
 unfold Instr.sliceBound;rw[ao (xU k i)];simp only;rw[W8 h];rfl
def BA {o:Option nnn}{co:Option Value}{d m n:Nat}(h:bL o d m=some n)(hr:pU P Γ H w o co):
  (o=none/\co=none/\n=d)\/∃k i,co=some (.int k i)/\0<=i/\i<=(m:Int)/\n=i.toNat:=by
 cases o with
 |none =>
  cases co with
  |none=>simp only[bL,Option.some.injEq]at h;exact .inl ⟨rfl,rfl,h.symm⟩
  |some _=>exact hr.elim
 |some v =>
  cases co with
  |none=>exact hr.elim
  |some cv =>
   have hv:nnc P Γ H w v cv:=hr;cases v with
   |lit x =>
    cases x with
    |int k i =>
     cases hv;simp only[bL]at h;split at h
     ·rename_i hi;simp only[Option.some.injEq]at h;exact .inr ⟨k,i,rfl,hi.1,hi.2,h.symm⟩
     ·cases h
    |_=>simp[bL]at h
   |_=>simp[bL]at h
def lJ {lo hi:Option nnn}{nb nO:Option Value}{s:Bool}{len cap l h:Nat}(hh:bL hi len len=some h)(hl:bL lo 0 h=some l)(hlen:len<=cap)
  (rh:pU P Γ H w hi nO) (rl:pU P Γ H w lo nb):(Instr.sliceBounds s len cap nb nO none).run P w=.ok (l,h,cap) w/\l<=h/\h<=len:=by
 rcases BA hh rh with ⟨rfl,rfl,rfl⟩|⟨k,i,rfl,i0,i1,rfl⟩<;>rcases BA hl rl with ⟨rfl,rfl,rfl⟩|⟨k',j,rfl,j0,j1,rfl⟩
 ·exact⟨rfl,U,aaz⟩
 ·refine⟨?_,U,aaz⟩;unfold Instr.sliceBounds;simp only[pure_bind];rw[ao (run_sliceBound ⟨j0,j1⟩)];rfl
 ·refine⟨?_,U,U⟩;unfold Instr.sliceBounds;simp only[pure_bind];rw[ao (run_sliceBound ⟨i0,U⟩)];rfl
 ·refine⟨?_,U,U⟩;unfold Instr.sliceBounds;simp only[pure_bind];rw[ao (run_sliceBound ⟨i0,U⟩),ao (run_sliceBound ⟨j0,j1⟩)];rfl
def tT {a b c:Nat}(h:a<=b):a*c<=b*c:=X9 _ h
def Jq {id gen off len sz l h:Nat}{e:TypeId}{cells:List nnn}(hx:nnc P Γ H w (.Z id gen off len sz) cv)(hl:H.na id gen=some (e,cells))(h1:l<=h)(h2:h<=len):
  (∃a cap,cv=.slice (some a) len cap/\len<=cap/\nnc P Γ H w (.Z id gen (off+l*sz) (h-l) sz) (.slice (some (if cap=l then a else a.add (l*sz))) (h-l) (cap-l))) \/
  (cv=.slice none 0 0/\len=0/\nnc P Γ H w (.Z id gen (off+l*sz) (h-l) sz) (.slice none 0 0)):=by
 cases hx with
 |Z hx =>
  rcases jf (P:=P) (w:=w) (.Z hx) hl with ⟨b,base,n,a,cap,hΓ,rfl,c1,c2,c3⟩|⟨hΓ,rfl,rfl,rfl⟩
  ·left;refine⟨a,cap,rfl,c1,.Z ⟨hx.1,rfl,hx.2.2.1,fun g e' cells' hg=>?_⟩⟩;refine⟨(hx.2.2.2 g e' cells' hg).1,fun hgg=>?_⟩;rw[iD hl]at hg;simp only[Option.some.injEq,Blk.O.injEq]at hg;obtain⟨_,rfl,rfl⟩:=hg;rw[hΓ];have e1:l*sz+(h-l)*sz=h*sz:=(by rw[<- Yz];congr 1;omega);have e2:h*sz<=len*sz:=tT h2;refine⟨_,_,rfl,U,U,?_⟩;rcases c3 with ⟨rfl,c3⟩|⟨rfl,rfl⟩
   ·by_cases hcl:cap=l
    ·right;omega
    ·left;rw[W7 hcl,jF,YQ];refine⟨rfl,?_⟩;have e3:l*sz+(cap-l)*sz=cap*sz:=(by rw[<- Yz];congr 1;omega);omega
   ·right;omega
  ·right;have:l=0:=U;subst this;have:h=0:=U;subst this;refine⟨rfl,rfl,.Z ⟨hx.1,rfl,hx.2.2.1,fun g e' cells' hg=>?_⟩⟩;refine⟨(hx.2.2.2 g e' cells' hg).1,fun hgg=>?_⟩;rw[hΓ];simp
def Jr {len sz l h:Nat}{cells:List nnn}(hx:nnc P Γ H w (.L len cells) cv)(hc:cells.length=len*sz)(h1:l<=h)(h2:h<=len):
  ∃a cap,cv=.slice a len cap/\len<=cap/\nnc P Γ H w (.L (h-l) ((cells.drop (l*sz)).take ((h-l)*sz))) (.slice (if cap=l then a else a.map (·.add (l*sz))) (h-l) (cap-l)):=by
 cases hx with
 |nu a cap =>
  have:h=0:=U
  subst this;have:l=0:=U
  subst this;refine⟨a,cap,rfl,Zu _,?_⟩;simp only[Y1,Y7,List.take_zero];exact .nu _ _
 | @L _ _ b off cap cs hb hlt hlen hcs hcell hrel =>
  refine⟨_,_,rfl,hlen,?_⟩;by_cases hhl:h=l
  ·subst hhl;simp only[Y7,Y1,List.take_zero];exact .nu _ _
  ·have hcl:cap≠l:=U;have e1:l*sz+(h-l)*sz=h*sz:=(by rw[<- Yz];congr 1;omega);have e2:h*sz<=len*sz:=tT h2;rw[W7 hcl,Option.map_some,jF];obtain⟨cs',k1,k2,k3⟩:=nnu.drop ⟨cs,hcs,hcell,hrel⟩ (l*sz) ((h-l)*sz) U;exact .L hb hlt U k1 k2 k3
def Js {t:TypeId}{x v:nnn}{lo hi:Option nnn}{cx:Value}{nb nO:Option Value}(R:nng P G Γ H w)(h:lD P H t x lo hi=some v)(hx:nnc P Γ H w x cx)
  (rl:pU P Γ H w lo nb) (rh:pU P Γ H w hi nO):∃cv,(Instr.sliceAt t cx nb nO none).run P w=.ok cv w/\nnc P Γ H w v cv:=by
 unfold lD at h;unfold Instr.sliceAt;split at h
 ·rename_i n e hd;rw[ao (cf hd)];simp only;split at h
  ·rename_i hc;obtain⟨d,hde⟩:=XP.1 hc;split at h
   ·rename_i id gen off;split at h
    ·rename_i e' cells hl;split at h
     ·rename_i hle;simp only[Xa,W4]at h;obtain⟨h',hh,l,hlo,rfl⟩:=h;obtain⟨b,base,nn,hΓ,rfl⟩:=pP hx hl;have sa:(Instr.sureAddr (.pointer (some ⟨b,base+off,none⟩))).run P w=.ok ⟨b,base+off,none⟩ w:=rfl;obtain⟨r1,r2,r3⟩:=lJ (s:=false) hh hlo (Nat.le_refl n) rh rl;rw[ao sa,ao r1];simp only;rw[ao (ic hde)];refine⟨_,rfl,?_⟩;cases hx with
      |Y hx =>
       refine .Z ⟨hx.1,rfl,hx.2.2.1,fun g e'' cells'' hg=>?_⟩;refine⟨(hx.2.2.2 g e'' cells'' hg).1,fun hgg=>?_⟩;rw[iD hl]at hg;simp only[Option.some.injEq,Blk.O.injEq]at hg;obtain⟨_,rfl,rfl⟩:=hg;rw[hΓ];have e1:l*P.cellsOf e+(h'-l)*P.cellsOf e=h'*P.cellsOf e:=(by rw[<- Yz];congr 1;omega);have e2:h'*P.cellsOf e<=n*P.cellsOf e:=tT r3;refine⟨_,_,rfl,U,U,?_⟩;by_cases hnl:n=l
       ·right;omega
       ·left;rw[W7 hnl,jF,YQ];refine⟨rfl,?_⟩;have e3:l*P.cellsOf e+(n-l)*P.cellsOf e=n*P.cellsOf e:=(by rw[<- Yz];congr 1;omega);obtain⟨_,_,q2,q3,_⟩:=pQ R hl hΓ;omega
     ·cases h
    ·cases h
   ·rename_i cells off;split at h
    ·rename_i hle;simp only[Xa,W4]at h;obtain⟨h',hh,l,hlo,rfl⟩:=h;cases hx with
     | @ni _ _ b o cs hb hlt hcs hcell hrel =>
      have sa:(Instr.sureAddr (.pointer (some ⟨b,o+off,none⟩))).run P w=.ok ⟨b,o+off,none⟩ w:=rfl;obtain⟨r1,r2,r3⟩:=lJ (s:=false) hh hlo (Nat.le_refl n) rh rl;rw[ao sa,ao r1];simp only;rw[ao (ic hde)];refine⟨_,rfl,?_⟩;have e1:l*P.cellsOf e+(h'-l)*P.cellsOf e=h'*P.cellsOf e:=(by rw[<- Yz];congr 1;omega);have e2:h'*P.cellsOf e<=n*P.cellsOf e:=tT r3;by_cases hhl:h'=l
      ·subst hhl;simp only[Y7,Y1,List.take_zero];exact .nu _ _
      ·rw[W7 U,jF];obtain⟨cs',k1,k2,k3⟩:=nnu.drop ⟨cs,hcs,hcell,hrel⟩ (off+l*P.cellsOf e) ((h'-l)*P.cellsOf e) U;rw[show o+off+l*P.cellsOf e=o+(off+l*P.cellsOf e) from by omega];exact .L hb hlt U k1 k2 k3
    ·cases h
   ·cases h
  ·cases h
 ·rename_i e hd;rw[ao (cf hd)];simp only;unfold Instr.slice;rw[ao (cf hd)];split at h
  ·rename_i hc;obtain⟨d,hde⟩:=XP.1 hc;split at h
   ·rename_i id gen off len sz;split at h
    ·rename_i hsz;subst hsz;simp only[Xa,W4]at h;obtain⟨⟨e',cells⟩,hl,h',hh,l,hlo,rfl⟩:=h;obtain⟨_,q1,q2⟩:=lJ (s:=true) hh hlo (Nat.le_refl len) rh rl;rcases Jq hx hl q1 q2 with ⟨a,cap,rfl,c1,c2⟩|⟨rfl,rfl,c2⟩
     ·obtain⟨r1,r2,r3⟩:=lJ (s:=true) hh hlo c1 rh rl;simp only;rw[ao r1];simp only;rw[ao (ic hde)];refine⟨_,rfl,?_⟩;by_cases hcl:cap=l
      ·rw[W8 hcl]at c2 ⊢;exact c2
      ·rw[W7 hcl]at c2 ⊢;exact c2
     ·obtain⟨r1,r2,r3⟩:=lJ (s:=true) hh hlo (Nat.le_refl 0) rh rl;simp only;rw[ao r1];simp only;rw[ao (ic hde)];refine⟨_,rfl,?_⟩;have:l=0:=U;subst this;have:h'=0:=U;subst this;exact c2
    ·cases h
   ·rename_i len cells;split at h
    ·rename_i hcl;simp only[Xa,W4]at h;obtain⟨h',hh,l,hlo,rfl⟩:=h;obtain⟨_,q1,q2⟩:=lJ (s:=true) hh hlo (Nat.le_refl len) rh rl;obtain⟨a,cap,rfl,c1,c2⟩:=Jr hx hcl q1 q2;obtain⟨r1,r2,r3⟩:=lJ (s:=true) hh hlo c1 rh rl;simp only;rw[ao r1];simp only;rw[ao (ic hde)];exact⟨_,rfl,c2⟩
    ·cases h
   ·simp only[Xa,W4]at h;obtain⟨h',hh,l,hlo,rfl⟩:=h;cases hx;obtain⟨r1,r2,r3⟩:=lJ (s:=true) hh hlo (Nat.le_refl 0) rh rl;simp only;rw[ao r1];simp only;rw[ao (ic hde)];refine⟨_,rfl,?_⟩;have:l=0:=U;subst this;have:h'=0:=U;subst this;exact .lit _
   ·cases h
  ·cases h
 ·rename_i hd;rw[ao (cf hd)];simp only;unfold Instr.slice;rw[ao (cf hd)];split at h
  ·rename_i s;simp only[Xa,W4]at h;obtain⟨h',hh,l,hlo,rfl⟩:=h;cases hx;obtain⟨r1,r2,r3⟩:=lJ (s:=false) hh hlo (Nat.le_refl s.size) rh rl;simp only[Option.isSome_none,Bool.false_eq_true,if_false];rw[ao r1];exact⟨_,rfl,.lit _⟩
  ·cases h
 ·cases h
end Go.Hx
namespace Go.Hx
variable {P:Program} {G:Nat->Option (List nnn)} {Γ Γ':aA} {H H':nnl} {w w':World}
variable {cs:List Value}{cap n:Nat}{base:Option Addr}{at0 at1 ty:TypeId}{cx x:Value}{v:nnn}
def tU {sz:Nat}{x:nnn}{cells:List nnn}(R:nng P G Γ H w)(h:bU H sz x=some (n,cells))(hx:nnc P Γ H w x cx):
    (Builtin.lenOf cx).run P w=.ok n w/\cells.length=n*sz/\∃cs:List Value,(Builtin.firstCells sz n cx).run P w=.ok cs.toArray w/\cs.length=cells.length /\
      ∀i (_:i<cells.length) (_:i<cs.length),nnc P Γ H w cells[i] cs[i]:=by
  unfold bU at h;split at h
  · rename_i len cells';split at h
    · rename_i hl;simp only[Option.some.injEq,Prod.mk.injEq]at h;obtain⟨rfl,rfl⟩:=h;cases hx with
      |nu a cap =>
        refine⟨rfl,hl,[],?_,rfl,fun i h1 _=>absurd h1 (Xo _)⟩;cases a with
        |none=>rfl
        |some a=>unfold Builtin.firstCells;rw[Y1];rfl
      | @L _ _ b off cap cs hb hlt hlen hcs hcell hrel =>
        refine⟨rfl,hl,cs,?_,hcs,hrel⟩;unfold Builtin.firstCells;rw[<- hl,<- hcs];exact pG hcell
    · cases h
  · rename_i id gen off len sz';split at h
    · rename_i hsz;subst hsz;simp only[W4,Prod.mk.injEq]at h;obtain⟨⟨e,cells'⟩,hl,rfl,rfl⟩:=h;rcases jf hx hl with ⟨b,base,nn,a,cap,hΓ,rfl,c1,c2,c3⟩|⟨hΓ,rfl,rfl,rfl⟩
      · refine⟨rfl,by simp only[Xm,X1];omega,?_⟩;rcases c3 with ⟨rfl,c3⟩|⟨rfl,rfl⟩
        · obtain⟨cs,k1,k2,k3⟩:=(rG R hl hΓ).drop off (len*sz') c2;refine⟨cs,?_,k1,k3⟩;unfold Builtin.firstCells;have:len*sz'=cs.length:=(by rw[k1];simp only[Xm,X1];omega);rw[this];exact pG k2
        · refine⟨[],?_,aaw,fun i h1 _=>?_⟩
          · unfold Builtin.firstCells;rw[Y1];rfl
          · simp at h1
      · refine⟨rfl,aaw,[],rfl,aaw,fun i h1 _=>?_⟩;simp at h1
    · cases h
  · simp only[Option.some.injEq,Prod.mk.injEq]at h;obtain⟨rfl,rfl⟩:=h;cases hx;exact⟨rfl,aaw,[],rfl,rfl,fun i h1 _=>absurd h1 (Xo _)⟩
  · cases h
def Jt (newLen:Nat):∀(k c:Nat),256<=c->c<newLen->Builtin.growBy newLen k c<=2*newLen:=by
  intro k
  induction k with
  |zero=>intro c _ h;simp only[Builtin.growBy];omega
  |succ k ih =>
    intro c h1 h2;simp only[Builtin.growBy];rw[W7 U];by_cases h3:c+(c+768) / 4<newLen
    · exact ih _ U h3
    · cases k with
      |zero=>simp only[Builtin.growBy];omega
      |succ k=>simp only[Builtin.growBy];rw[W8 U];omega
def nextslicecap_le {need:Nat}(h:cap<need):Builtin.nextslicecap need cap<=2*need:=by
  unfold Builtin.nextslicecap;split
  · omega
  · split
    · omega
    · exact Jt _ _ _ U h
def BB (z:Array Value)(n:Nat):(Builtin.zeroCells z n).size=n*z.size:=by simp[Builtin.zeroCells]
def run_append_fits {e e1:TypeId}{len:Nat}(hd:P.underlying at0=some (.slice e))(hd1:P.underlying at1=some (.slice e1))(he:∃i,P.info? e=some i)
    (hlen:(Builtin.lenOf x).run P w=.ok n w) (hcs:(Builtin.firstCells (P.cellsOf e) n x).run P w=.ok cs.toArray w) (hfit:len+n<=cap)
    (hst:match base with|some a=>(storeCells (a.add (len*P.cellsOf e)) cs).run P w=.ok () w'|none=>w'=w):
    (Builtin.append_ #[at0,at1] ty #[.slice base len cap,x]).run P w=.ok (.slice base (len+n) cap) w':=by
  obtain⟨i,hi⟩:=he;unfold Builtin.append_;simp only[List.getElem?_toArray,List.getElem?_cons_zero,List.getElem?_cons_succ];rw[ao (cf hd)];simp only;rw[ao (run_sizeOf hi)];rw[ao (cf hd1),ao (Sem.run_pure P w _)];simp only[Bool.false_eq_true,if_false,Bool.not_false,if_true];rw[ao hlen];rw[W8 hfit,ao hcs];cases base with
  |none=>subst hst;rfl
  |some a=>rw[ao hst];rfl
def BC {e e1:TypeId}{len:Nat}{zv:Value}{os:List Value}{i:TypeInfo}(hd:P.underlying at0=some (.slice e))(hd1:P.underlying at1=some (.slice e1))
    (hi:P.info? e=some i) (hz:i.zero=some zv)
    (hlen:(Builtin.lenOf x).run P w=.ok n w) (hcs:(Builtin.firstCells (P.cellsOf e) n x).run P { w with drawn:=w.drawn+1 }=.ok cs.toArray { w with drawn:=w.drawn+1 })
    (hos:(Builtin.firstCells (P.cellsOf e) len (.slice base len cap)).run P { w with drawn:=w.drawn+1 }=.ok os.toArray { w with drawn:=w.drawn+1 })
    (hfit:cap<len+n) (hb:(len+n)*P.bytesOf e<=2 ^ 47) (hn:len+n<=2 ^ 47):
    ∃newCap,len+n<=newCap/\(Builtin.append_ #[at0,at1] ty #[.slice base len cap,x]).run P w =
      .ok (.slice (some ⟨w.heap.size,0,none⟩) (len+n) newCap)
        (({ w with drawn:=w.drawn+1 }:World).alloc (.cells (os.toArray++cs.toArray++Builtin.zeroCells zv.cells (newCap-(len+n))) e)):=by
  refine⟨(Question.appendCap (len+n) cap e).cut (w.tape w.drawn (.appendCap (len+n) cap e)),?_,?_⟩
  · simp only[Question.cut];omega
  · unfold Builtin.append_;simp only [List.getElem?_toArray,List.getElem?_cons_zero,List.getElem?_cons_succ];rw [ao (cf hd)];simp only;rw [ao (run_sizeOf hi)];rw [ao (cf hd1),ao (Sem.run_pure P w _)];simp only [Bool.false_eq_true,if_false,Bool.not_false,if_true];rw [ao hlen];rw [W7 U];rw [ao (run_typeInfo hi)];have hmax : IntKind.i64.max=9223372036854775807:=aax;rw [W7 (by rw [hmax];omega)];rw [ao (run_typeInfo hi)];have hbi:=Bw hi;have h2:=nextslicecap_le hfit;have h3 : Builtin.nextslicecap (len+n) cap*i.bytes≤2*(len+n)*i.bytes:=X9 _ h2;rw [W7 (by rw [hbi] at hb;rw [aai] at h3;omega)];have hch : (choose (.appendCap (len+n) cap e)).run P w=.ok ((Question.appendCap (len+n) cap e).cut (w.tape w.drawn (.appendCap (len+n) cap e))) { w with drawn:=w.drawn+1 }:=by
      rw[run_choose];rfl
    rw[ao hch,ao (run_typeInfo hi),ao (run_askRoom P _ _),ao hos,ao hcs,ao (nV hi hz)];rfl
def nnc.drew {cv:Value}(h:nnc P Γ H w v cv)(n:Nat):nnc P Γ H { w with drawn:=n } v cv:=h.aU (tM Γ H w n) (Nat.le_refl _)
def BD {cells:List nnn}{rest:Array Value}(hl:cs.length=cells.length)(hr:∀i (_:i<cells.length) (_:i<cs.length),nnc P Γ H w cells[i] cs[i]):
    ∀i (_:i<cells.length),∃cv,(cs.toArray++rest)[i]?=some cv/\nnc P Γ H w cells[i] cv:=fun i hi =>
  ⟨cs[i]' U,by rw[Zy (by simp;omega)];simp,hr i hi U⟩
def Ju {id:Nat}{s x:nnn}{cs:Value}(R:nng P G Γ H w)(h:bh P H id at0 at1 s x=some (v,H'))(hs:nnc P Γ H w s cs)(hx:nnc P Γ H w x cx):
    ∃cv Γ' w',(Builtin.append_ #[at0,at1] ty #[cs,cx]).run P w=.ok cv w'/\Evo Γ H w Γ' H' w'/\H.C<=H'.C/\nng P G Γ' H' w'/\nnc P Γ' H' w' v cv:=by
  unfold bh at h;split at h
  · rename_i e hd;split at h
    · rename_i e1 hd1;simp only[Xa]at h;obtain⟨z,hz,⟨n,nc⟩,hsrc,h⟩:=h;obtain⟨i,zv,hi,hzv,hsz,hzz,hcells⟩:=pS hz;obtain⟨hlen,hncl,xs,hxs,hxl,hxr⟩:=tU R hsrc hx;obtain⟨_,_,ys,hsrcd,hyl,hyr⟩:=tU (R.drew (w.drawn+1)) hsrc (hx.drew (w.drawn+1));split at h
      · -- a nil slice
        cases hs;simp only at h;split at h
        · rename_i h0;simp only[Option.some.injEq,Prod.mk.injEq]at h;obtain⟨rfl,rfl⟩:=h;subst h0;exact⟨_,Γ,w,run_append_fits hd hd1 ⟨i,hi⟩ hlen hxs U rfl,Evo.refl _ _ _,aaz,R,.lit _⟩
        · rename_i h0;split at h
          · rename_i hb;simp only [W4,Prod.mk.injEq] at h;obtain ⟨H1,hlay,rfl,rfl⟩:=h;obtain ⟨newCap,hc,hrun⟩:=BC (base:=none) (len:=0) (cap:=0) (os:=[]) (ty:=ty) hd hd1 hi hzv hlen hsrcd rfl U (by rw [Nat.zero_add];exact hb.1) U;rw [Nat.zero_add n] at hc hrun;have R1:=R.drew (w.drawn+1);have harr : ∀ j (_ : j<nc.length),∃ cv,(([] : List Value).toArray++ys.toArray++Builtin.zeroCells zv.cells (newCap - n))[j]?=some cv∧nnc P Γ H { w with drawn:=w.drawn+1 } nc[j] cv:=by
              simp only[Array.empty_append];exact BD hyl hyr
            have hsize:(([]:List Value).toArray++ys.toArray++Builtin.zeroCells zv.cells (newCap-n)).size=newCap*P.cellsOf e:=by
              simp only[Z3,BB,List.size_toArray,List.length_nil,hyl,hncl];rw[hsz,<- hcells,Nat.zero_add,<- Yz];congr 1;omega
            obtain⟨E,hn,R'⟩:=rD R1 hlay (by rw[hsize,hncl];exact X9 _ U) harr;obtain⟨hget,_⟩:=jb hlay;obtain⟨_,_,_,hid⟩:=mn R hlay;refine⟨_,_,_,hrun,(tM Γ H w _).trans aaz E,hn,R',?_⟩;exact xR (by rw[hget,W8 rfl]) hid (aA.dE _ _ _) U (by rw[hncl];exact Nat.le_refl _) (by rw[hsize];exact Nat.le_refl _)
          · cases h
      · rename_i id' gen off len sz;simp only[Xa]at h;obtain⟨⟨e',cells⟩,hl,h⟩:=h;simp only at h;split at h
        · rename_i hc;obtain⟨rfl,rfl,h1,h2,h3,h4⟩:=hc;split at h
          · rename_i h0;simp only [Option.some.injEq,Prod.mk.injEq] at h;obtain ⟨rfl,rfl⟩:=h;subst h0;have hxs0 : xs=[]:=by
              have:xs.length=0:=(by rw[hxl,hncl];simp);simpa using this
            subst hxs0;rcases jf hs hl with ⟨b,base,nn,a,cap,hΓ,rfl,c1,c2,c3⟩|⟨hΓ,rfl,rfl,rfl⟩
            · exact⟨_,Γ,w,run_append_fits hd hd1 ⟨i,hi⟩ hlen hxs U rfl,Evo.refl _ _ _,aaz,R,hs⟩
            · exact⟨_,Γ,w,run_append_fits hd hd1 ⟨i,hi⟩ hlen hxs U rfl,Evo.refl _ _ _,aaz,R,hs⟩
          · rename_i h0;simp only[Option.some.injEq,Prod.mk.injEq]at h;obtain⟨rfl,rfl⟩:=h;have hnpos:0<n:=U;have hg:=iD hl
            -- where a new array is made
            have grows : ∀ (base : Option Addr) (cap : Nat) (os : List Value),(Builtin.firstCells (P.cellsOf e') len (.slice base len cap)).run P { w with drawn:=w.drawn+1 }=.ok os.toArray { w with drawn:=w.drawn+1 } →
                os.length=(cells.drop off).length->(∀j (_:j<(cells.drop off).length) (_:j<os.length),nnc P Γ H { w with drawn:=w.drawn+1 } (cells.drop off)[j] os[j])->cap<len+n ->
                ∃cv Γ' w',(Builtin.append_ #[at0,at1] ty #[.slice base len cap,cx]).run P w=.ok cv w'/\Evo Γ H w Γ' (H.upd id' (.O (gen+1) e' (cells.drop off++nc))) w' /\
                  H.C<=(H.upd id' (.O (gen+1) e' (cells.drop off++nc))).C/\nng P G Γ' (H.upd id' (.O (gen+1) e' (cells.drop off++nc))) w' /\
                  nnc P Γ' (H.upd id' (.O (gen+1) e' (cells.drop off++nc))) w' (.Z id' (gen+1) 0 (len+n) (P.cellsOf e')) cv:=by
              intro base cap os hos hol hor hcap;obtain⟨newCap,hcp,hrun⟩:=BC (base:=base) (ty:=ty) hd hd1 hi hzv hlen hsrcd hos hcap h2 h3;have R1:=R.drew (w.drawn+1);have hdl:(cells.drop off).length=len*P.cellsOf e':=(by simp only[X1];omega);have hsize:(os.toArray++ys.toArray++Builtin.zeroCells zv.cells (newCap-(len+n))).size=newCap*P.cellsOf e':=by
                simp only[Z3,BB,List.size_toArray,hol,hdl,hyl,hncl];rw[hsz,<- hcells,<- Yz,<- Yz];congr 1;omega
              have hdn : (cells.drop off++nc).length=(len+n)*P.cellsOf e':=(by rw [List.length_append,hdl,hncl,Yz]);have harr : ∀ j (_ : j<(cells.drop off++nc).length),∃ cv,(os.toArray++ys.toArray++Builtin.zeroCells zv.cells (newCap - (len+n)))[j]?=some cv ∧
                  nnc P Γ H { w with drawn:=w.drawn+1 } (cells.drop off++nc)[j] cv:=by
                intro j hj;have:=BD (P:=P) (Γ:=Γ) (H:=H) (w:={ w with drawn:=w.drawn+1 }) (cells:=cells.drop off++nc) (cs:=os++ys) (rest:=Builtin.zeroCells zv.cells (newCap-(len+n)))
                  (by rw[List.length_append,List.length_append,hol,hyl]) (fun k a b=>?_) j hj
                · simpa using this
                · by_cases hk:k<(cells.drop off).length
                  · rw[X3 hk,X3 U];exact hor k hk (U)
                  · rw[Ye U,Ye U];simp only[hol];exact hyr _ (by simp only[List.length_append]at a;omega) (by simp only[List.length_append]at b;omega)
              obtain⟨E,R'⟩:=I6 R1 hg (by rw[hsize,hdn];exact X9 _ hcp) harr;refine⟨_,_,_,hrun,(tM Γ H w _).trans aaz E,aaz,R',.Z ⟨R.C id' _ hg,rfl,by rw[ae,W8 rfl];simp,fun g'' e'' cells'' hg''=>?_⟩⟩;rw[ae,W8 rfl]at hg'';simp only[Option.some.injEq,Blk.O.injEq]at hg'';obtain⟨rfl,rfl,rfl⟩:=hg'';refine⟨aaz,fun _=>?_⟩;rw[aA.dE];exact⟨_,_,rfl,hcp,by rw[hdn,Nat.zero_add];exact Nat.le_refl _,.inl ⟨rfl,by rw[hsize,Nat.zero_add];omega⟩⟩
            rcases jf hs hl with ⟨b,base,nn,a,cap,hΓ,rfl,c1,c2,c3⟩|⟨hΓ,rfl,rfl,rfl⟩
            · by_cases hcap:len+n<=cap
              · -- there is room
                have ha:a=⟨b,base+off,none⟩/\base+off+cap*P.cellsOf e'<=nn:=by
                  rcases c3 with c3|c3
                  · exact c3
                  · omega
                obtain⟨rfl,c4⟩:=ha;obtain⟨c,q1,q2,q3,q4⟩:=pQ R hl hΓ;have hroom:(len+n)*P.cellsOf e'<=cap*P.cellsOf e':=X9 _ hcap;rw[Yz]at hroom;have hst:=rC (P:=P) xs c (base+off+len*P.cellsOf e') 0 w q1 (by rw[hxl,hncl];omega) (tR h4 hxl hxr);have hrun:=run_append_fits (ty:=ty) (base:=some ⟨b,base+off,none⟩) hd hd1 ⟨i,hi⟩ hlen hxs hcap (by
                  show (storeCells (Addr.add ⟨b,base+off,none⟩ (len*P.cellsOf e')) xs).run P w=_;rw[jF];exact hst)
                have hdl:(cells.drop off).length=len*P.cellsOf e':=(by simp only[X1];omega);have hdn:(cells.drop off++nc).length=len*P.cellsOf e'+n*P.cellsOf e':=(by rw[List.length_append,hdl,hncl]);have harr:∀j (_:j<(cells.drop off++nc).length),∃cv,(setRow c (base+off+len*P.cellsOf e'+0) xs)[base+off+j]?=some cv/\nnc P Γ H w (cells.drop off++nc)[j] cv:=by
                  intro j hj;rw[Bj _ _ _ (by rw[hxl,hncl];omega)];by_cases hk:j<(cells.drop off).length
                  · rw[W7 U,X3 hk];obtain⟨cv,k1,k2⟩:=q4 (off+j) (by simp only[X1]at hk;omega);refine⟨cv,by rw[YQ];exact k1,?_⟩;simp only[Za];exact k2
                  · rw[Ye U,W8 (by rw[hxl,hncl];omega)];have hj2:j-(cells.drop off).length<nc.length:=(by simp only[List.length_append]at hj;omega);refine⟨xs[j-(cells.drop off).length]' U,?_,hxr _ hj2 U⟩;rw[show base+off+j-(base+off+len*P.cellsOf e'+0)=j-(cells.drop off).length from by omega];exact W5 (U)
                obtain⟨E,R'⟩:=I5 (base':=base+off) R hg hΓ (by rw[size_setRow];exact q2) (by rw[hdn];omega) harr;refine⟨_,_,_,hrun,E,aaz,R',.Z ⟨R.C id' _ hg,rfl,by rw[ae,W8 rfl];simp,fun g'' e'' cells'' hg''=>?_⟩⟩;rw[ae,W8 rfl]at hg'';simp only[Option.some.injEq,Blk.O.injEq]at hg'';obtain⟨rfl,rfl,rfl⟩:=hg'';refine⟨aaz,fun _=>?_⟩;rw[aA.dE];exact⟨_,_,rfl,hcap,by rw[hdn,Nat.zero_add,Yz];exact Nat.le_refl _,.inl ⟨rfl,c4⟩⟩
              · -- there is none
                rcases c3 with ⟨rfl,c3⟩|⟨rfl,rfl⟩
                · obtain⟨os,k1,k2,k3⟩:=(rG (R.drew (w.drawn+1)) hl hΓ).drop off (len*P.cellsOf e') U;have htk:(cells.drop off).take (len*P.cellsOf e')=cells.drop off:=W9 (by simp only[X1];omega);rw[htk]at k1 k3;refine grows _ cap os ?_ k1 k3 U;unfold Builtin.firstCells;have:len*P.cellsOf e'=os.length:=(by rw[k1];simp only[X1];omega);rw[this];exact pG k2
                · refine grows _ 0 [] ?_ (by simp only[List.length_nil,X1];omega) (fun j _ h=>absurd h (Xo _)) U;unfold Builtin.firstCells;rw[Y1];rfl
            · refine grows none 0 [] rfl (by simp only[List.length_nil,X1];omega) (fun j _ h=>absurd h (Xo _)) (U)
        · cases h
      · cases h
    · cases h
  · cases h
end Go.Hx
namespace Go.Hx
variable {P:Program} {G:Nat->Option (List nnn)} {Γ Γ':aA} {H H':nnl} {w w':World}
variable {at0 ty:TypeId}{cd cx:Value}{d v x:nnn}
def Jv {t:TypeId}(h:kE P H t x=some v)(hx:nnc P Γ H w x cx):
  ∃cv,(Builtin.len_ #[t] ty #[cx]).run P w=.ok cv w/\nnc P Γ H w v cv:=by
 unfold kE at h;unfold Builtin.len_;simp only[List.getElem?_toArray,List.getElem?_cons_zero];split at h
 ·rename_i e hd;rw[ao (cf hd)];split at h
  ·rename_i len cells;simp only[Option.some.injEq]at h;subst h;cases hx<;>exact⟨_,rfl,.lit _⟩
  ·rename_i id gen off len sz;simp only[W4]at h;obtain⟨⟨e',cells⟩,hl,rfl⟩:=h;rcases jf hx hl with ⟨b,base,n,a,cap,hΓ,rfl,_⟩|⟨hΓ,rfl,rfl,rfl⟩<;>exact⟨_,rfl,.lit _⟩
  ·simp only[Option.some.injEq]at h;subst h;cases hx;exact⟨_,rfl,.lit _⟩
  ·cases h
 ·rename_i hd;rw[ao (cf hd)];split at h
  ·simp only[Option.some.injEq]at h;subst h;cases hx;exact⟨_,rfl,.lit _⟩
  ·cases h
 ·rename_i n e hd;rw[ao (cf hd)];simp only[Option.some.injEq]at h;subst h;exact⟨_,rfl,.lit _⟩
 ·cases h
def Jw {sz n m:Nat}{cells:List nnn}(R:nng P G Γ H w)(h:bU H sz x=some (n,cells))(hx:nnc P Γ H w x cx)(hm:m<=n):
  ∃cs:List Value,(Builtin.firstCells sz m cx).run P w=.ok cs.toArray w/\cs.length=(cells.take (m*sz)).length /\
   ∀i (_:i<(cells.take (m*sz)).length) (_:i<cs.length),nnc P Γ H w (cells.take (m*sz))[i] cs[i]:=by
 have hms:m*sz<=n*sz:=X9 _ hm;unfold bU at h;split at h
 ·rename_i len cells';split at h
  ·rename_i hl;simp only[Option.some.injEq,Prod.mk.injEq]at h;obtain⟨rfl,rfl⟩:=h;cases hx with
   |nu a cap =>
    have:m=0:=U;subst this;refine⟨[],?_,aaw,fun i h1 _=>by simp at h1⟩;cases a with
    |none=>rfl
    |some a=>unfold Builtin.firstCells;rw[Y1];rfl
   | @L _ _ b off cap cs hb hlt hlen hcs hcell hrel =>
    obtain⟨cs',k1,k2,k3⟩:=nnu.drop (k:=0) (n:=m*sz) ⟨cs,hcs,hcell,hrel⟩ U;rw[List.drop_zero]at k1 k3;refine⟨cs',?_,k1,k3⟩;unfold Builtin.firstCells;have:m*sz=cs'.length:=(by rw[k1,Xm];omega);rw[this];exact pG k2
  ·cases h
 ·rename_i id gen off len sz';split at h
  ·rename_i hsz;subst hsz;simp only[W4,Prod.mk.injEq]at h;obtain⟨⟨e,cells'⟩,hl,rfl,rfl⟩:=h;rcases jf hx hl with ⟨b,base,nn,a,cap,hΓ,rfl,c1,c2,c3⟩|⟨hΓ,rfl,rfl,rfl⟩
   ·rcases c3 with ⟨rfl,c3⟩|⟨rfl,rfl⟩
    ·obtain⟨cs,k1,k2,k3⟩:=(rG R hl hΓ).drop off (m*sz') U;have he:((cells'.drop off).take (len*sz')).take (m*sz')=(cells'.drop off).take (m*sz'):=by
      rw[List.take_take,Zi hms]
     simp only[he];refine⟨cs,?_,k1,k3⟩;unfold Builtin.firstCells;have:m*sz'=cs.length:=(by rw[k1];simp only[Xm,X1];omega);rw[this];exact pG k2
    ·have:m=0:=U;subst this;refine⟨[],?_,aaw,fun i h1 _=>by simp at h1⟩;unfold Builtin.firstCells;rw[Y1];rfl
   ·have:m=0:=U;subst this;exact⟨[],rfl,aaw,fun i h1 _=>by simp at h1⟩
  ·cases h
 ·simp only[Option.some.injEq,Prod.mk.injEq]at h;obtain⟨rfl,rfl⟩:=h;cases hx;have:m=0:=U
  subst this;exact⟨[],rfl,aaw,fun i h1 _=>by simp at h1⟩
 ·cases h
def Jx {at1:TypeId}(R:nng P G Γ H w)(h:kD P H at0 d x=some (v,H'))(hd:nnc P Γ H w d cd)(hx:nnc P Γ H w x cx):
  ∃cv Γ' w',(Builtin.copy_ #[at0,at1] ty #[cd,cx]).run P w=.ok cv w'/\Evo Γ H w Γ' H' w'/\H.C<=H'.C/\nng P G Γ' H' w'/\nnc P Γ' H' w' v cv:=by
 unfold kD at h;split at h
 ·rename_i e hu;split at h
  ·rename_i he;obtain⟨du,hde⟩:=XP.1 he;simp only[Xa]at h;obtain⟨⟨n,nc⟩,hsrc,h⟩:=h;obtain⟨hlen,hncl,xs,hxs,hxl,hxr⟩:=tU R hsrc hx;split at h
   ·rename_i id gen off len sz;simp only[Xa]at h;obtain⟨⟨e',cells⟩,hl,h⟩:=h;simp only at h;split at h
    ·rename_i hc;obtain ⟨rfl,h1,h2⟩:=hc;simp only [Option.some.injEq,Prod.mk.injEq] at h;obtain ⟨rfl,rfl⟩:=h;have hmin : min n len*P.cellsOf e≤nc.length:=(by rw [hncl];exact X9 _ (Nat.min_le_left _ _));have hmin2 : min n len*P.cellsOf e≤len*P.cellsOf e:=X9 _ (Nat.min_le_right _ _)
          -- the first cells of the source
     obtain⟨ys,hys,hyl,hyr⟩:∃ys:List Value,(Builtin.firstCells (P.cellsOf e) (min n len) cx).run P w=.ok ys.toArray w/\ys.length=(nc.take (min n len*P.cellsOf e)).length /\
       ∀i (_:i<(nc.take (min n len*P.cellsOf e)).length) (_:i<ys.length),nnc P Γ H w (nc.take (min n len*P.cellsOf e))[i] ys[i]:=Jw R hsrc hx (Nat.min_le_left n len)
     have hall:(nc.take (min n len*P.cellsOf e)).all nnn.one=true:=by
      rw[XK]at h2 ⊢;exact fun v hv=>h2 v (Xz hv)
     have htl:(nc.take (min n len*P.cellsOf e)).length=min n len*P.cellsOf e:=(by rw[Xm];omega);rcases jf hd hl with ⟨b,base,nn,a,cap,hΓ,rfl,c1,c2,c3⟩|⟨hΓ,rfl,rfl,rfl⟩
     ·obtain⟨c,q1,q2,q3,q4⟩:=pQ R hl hΓ;have hst:(storeCells a ys).run P w=.ok () (bx w b (.cells (setRow c (base+off) ys) e' (0,0))):=by
       rcases c3 with ⟨rfl,c3⟩|⟨rfl,rfl⟩
       ·exact rC (P:=P) ys c (base+off) 0 w q1 (by rw[hyl,htl];omega) (tR hall hyl hyr)
       ·have:ys=[]:=by
         have:ys.length=0:=(by rw[hyl,htl];simp);simpa using this
        subst this;have hsame:bx w b (.cells (setRow c (base+off) []) e' (0,0))=w:=by
         have:=rC (P:=P) [] c (base+off) 0 w q1 (by simp;omega) (fun v h=>by simp at h);simp only[storeCells,Sem.run_pure,Result.ok.injEq,true_and]at this;exact this.symm
        rw[hsame];rfl
      have hrun:(Builtin.copy_ #[at0,at1] ty #[.slice (some a) len cap,cx]).run P w=.ok (.int .i64 (min n len:Nat)) (bx w b (.cells (setRow c (base+off) ys) e' (0,0))):=by
       unfold Builtin.copy_;simp only[List.getElem?_toArray,List.getElem?_cons_zero,List.getElem?_cons_succ];rw[ao (cf hu)];simp only;rw[ao hlen,ao (ic hde)];rw[ao hys,ao hst];rfl
      obtain⟨E,R'⟩:=xz (cells':=setAt cells off (nc.take (min n len*P.cellsOf e))) (c':=setRow c (base+off) ys) R (iD hl) hΓ (pI (by rw[htl];omega)) (by rw[size_setRow,q2])
       (tS (by rw[htl];omega) U hyl q4 hyr)
      exact⟨_,_,_,hrun,E,aaz,R',.lit _⟩
     ·have:min n 0=0:=U;rw[this]at hys hyl ⊢;have hys0:ys=[]:=by
       have:ys.length=0:=(by rw[hyl];simp);simpa using this
      subst hys0;have hrun:(Builtin.copy_ #[at0,at1] ty #[.slice none 0 0,cx]).run P w=.ok (.int .i64 (0:Nat)) w:=by
       unfold Builtin.copy_;simp only[List.getElem?_toArray,List.getElem?_cons_zero,List.getElem?_cons_succ];rw[ao (cf hu)];simp only;rw[ao hlen,ao (ic hde)];have:Nat.min n 0=0:=(by show min n 0=0;omega);rw[this,ao hys];rfl
      have hset:H.upd id (.O gen e' (setAt cells 0 (nc.take (0*P.cellsOf e))))=H:=by
       have hs:setAt cells 0 (nc.take (0*P.cellsOf e))=cells:=(by simp[setAt]);rw[hs];have:∀j,(H.upd id (.O gen e' cells)).get j=H.get j:=by
        intro j;rw[ae];by_cases hj:j=id
        ·rw[W8 hj,hj,iD hl]
        ·rw[W7 hj]
       show ({ get:=(H.upd id (.O gen e' cells)).get,C:=H.C }:nnl)=H;rw[funext this]
      rw[hset];exact⟨_,Γ,w,hrun,Evo.refl _ _ _,aaz,R,.lit _⟩
    ·cases h
   ·cases h
  ·cases h
 ·cases h
def Jy (R:nng P G Γ H w)(h:ij P H at0 d=some (v,H'))(hd:nnc P Γ H w d cd):
  ∃cv Γ' w',(Builtin.clear_ #[at0] ty #[cd]).run P w=.ok cv w'/\Evo Γ H w Γ' H' w'/\H.C<=H'.C/\nng P G Γ' H' w'/\nnc P Γ' H' w' v cv:=by
 have tup0:∀(Γ:aA) (H:nnl) (w:World),nnc P Γ H w (.nc []) (.tuple #[]):=fun Γ H w=>nnc.nc (cells:=[]) (cs:=[]) rfl fun i h _=>absurd h (Xo _);unfold ij at h;split at h
 ·rename_i e hu;split at h
  ·simp only[Option.some.injEq,Prod.mk.injEq]at h;obtain⟨rfl,rfl⟩:=h;cases hd;refine⟨.tuple #[],Γ,w,?_,Evo.refl _ _ _,aaz,R,tup0 _ _ _⟩;unfold Builtin.clear_;simp only[List.getElem?_toArray,List.getElem?_cons_zero];rw[ao (cf hu)];rfl
  ·rename_i id gen off len sz;simp only[Xa]at h;obtain⟨⟨e',cells⟩,hl,h⟩:=h;simp only at h;split at h
   ·rename_i h0;subst h0;simp only[Option.some.injEq,Prod.mk.injEq]at h;obtain⟨rfl,rfl⟩:=h;refine⟨.tuple #[],Γ,w,?_,Evo.refl _ _ _,aaz,R,tup0 _ _ _⟩;rcases jf hd hl with ⟨b,base,nn,a,cap,hΓ,rfl,c1,c2,c3⟩|⟨hΓ,rfl,_,rfl⟩
    ·unfold Builtin.clear_;simp only[List.getElem?_toArray,List.getElem?_cons_zero];rw[ao (cf hu)];rfl
    ·unfold Builtin.clear_;simp only[List.getElem?_toArray,List.getElem?_cons_zero];rw[ao (cf hu)];rfl
   ·rename_i h0;simp only[Xa]at h;obtain⟨zs,hzs,h⟩:=h;split at h
    ·rename_i hc;obtain⟨h1,h2,h3⟩:=hc;simp only[Option.some.injEq,Prod.mk.injEq]at h;obtain⟨rfl,rfl⟩:=h;unfold jc at hzs;simp only[W4]at hzs;obtain⟨z,hz,rfl⟩:=hzs;obtain⟨i,zv,hi,hzv,hsz,hzz,hcells⟩:=pS hz;have hzr:cU P Γ H w (List.replicate len z).flatten (Builtin.zeroCells zv.cells len):=xQ hzz;have hyl:(Builtin.zeroCells zv.cells len).toList.length=(List.replicate len z).flatten.length:=(by rw[YO];exact hzr.1);have hyr:∀i (_:i<(List.replicate len z).flatten.length) (_:i<(Builtin.zeroCells zv.cells len).toList.length),nnc P Γ H w (List.replicate len z).flatten[i] (Builtin.zeroCells zv.cells len).toList[i]:=fun i h1 h2=>hzr.2 i h1 (by rw[YO]at h2;exact h2);rcases jf hd hl with ⟨b,base,nn,a,cap,hΓ,rfl,c1,c2,c3⟩|⟨hΓ,_,h4,_⟩
     ·rcases c3 with ⟨rfl,c3⟩|⟨h4,_⟩
      ·obtain⟨c,q1,q2,q3,q4⟩:=pQ R hl hΓ;have hst:(storeCells ⟨b,base+off,none⟩ (Builtin.zeroCells zv.cells len).toList).run P w=.ok () (bx w b (.cells (setRow c (base+off) (Builtin.zeroCells zv.cells len).toList) e' (0,0))) :=
        rC (P:=P) _ c (base+off) 0 w q1 (by rw[hyl,h1];omega) (tR h3 hyl hyr)
       have hrun:(Builtin.clear_ #[at0] ty #[.slice (some ⟨b,base+off,none⟩) len cap]).run P w=.ok (.tuple #[]) (bx w b (.cells (setRow c (base+off) (Builtin.zeroCells zv.cells len).toList) e' (0,0))):=by
        obtain⟨m,rfl⟩:∃m,len=m+1:=⟨len-1,U⟩
        unfold Builtin.clear_;simp only[List.getElem?_toArray,List.getElem?_cons_zero];rw[ao (cf hu)];simp only;rw[ao (nV hi hzv),ao hst];rfl
       obtain⟨E,R'⟩:=xz (cells':=setAt cells off (List.replicate len z).flatten) (c':=setRow c (base+off) (Builtin.zeroCells zv.cells len).toList) R (iD hl) hΓ (pI (by rw[h1];exact h2)) (by rw[size_setRow,q2])
        (tS (by rw[h1];exact h2) U hyl q4 hyr)
       exact⟨_,_,_,hrun,E,aaz,R',tup0 _ _ _⟩
      ·exact absurd h4 h0
     ·exact absurd h4 h0
    ·cases h
  ·cases h
 ·cases h
end Go.Hx
namespace Go.Hx
variable {P:Program} {G:Nat->Option (List nnn)} {Γ Γ':aA} {H H':nnl} {w w':World}
variable {k:Int}{es:List (Int × Int)}{b i:Nat}{kt t:TypeId}{ck cm cx:Value}
def Jz (k:Int):∀(es:List (Int × Int)) (j i:Nat),Instr.findNow (.int .i64) (.int .i64 k) (dq j es) i=some ((iC k i es).map fun p=>(p.1,.int .i64 p.2)):=by
 intro es
 induction es with
 |nil=>intro j i;rfl
 |cons e es ih =>
  intro j i;obtain⟨a,v⟩:=e;simp only[dq,Instr.findNow,Instr.sameNow,if_true,iC];by_cases h:k=a
  ·subst h;simp
  ·have:(k == a)=false:=(by simp[h]);rw[this];simp only[W7 h];exact ih (j+1) (i+1)
def JA:∀(es fs:List (Int × Int)) (j:Nat),dq j (es++fs)=dq j es++dq (j+es.length) fs:=by
 intro es
 induction es with
 |nil=>intro fs j;simp[dq]
 |cons e es ih =>
  intro fs j;obtain⟨a,v⟩:=e;simp only[List.cons_append,dq,ih,List.length_cons];rw[show j+1+es.length=j+(es.length+1) by omega]
def BE:∀(es:List (Int × Int)) (j i:Nat),(dq j es)[i]?=es[i]?.map fun p=>⟨.int .i64 p.1,.int .i64 p.2,j+i⟩:=by
 intro es
 induction es with
 |nil=>intro j i;simp[dq]
 |cons e es ih =>
  intro j i;obtain⟨a,v⟩:=e;cases i with
  |zero=>simp[dq]
  |succ i =>
   simp only[dq,List.getElem?_cons_succ,ih];rw[show j+1+i=j+(i+1) by omega]
def JB (f:MapEntry->MapEntry):∀(es:List (Int × Int)) (j i:Nat) (k v k' v':Int),es[i]?=some (k,v)->f ⟨.int .i64 k,.int .i64 v,j+i⟩=⟨.int .i64 k',.int .i64 v',j+i⟩->(dq j es).modify i f=dq j (es.set i (k',v')):=by
 intro es
 induction es with
 |nil=>intro j i k v k' v' h _;simp at h
 |cons e es ih =>
  intro j i k v k' v' h hf;obtain⟨a,u⟩:=e;cases i with
  |zero =>
   simp only[List.getElem?_cons_zero,Option.some.injEq,Prod.mk.injEq]at h;obtain⟨rfl,rfl⟩:=h;simp only[Nat.add_zero]at hf;simp[dq,hf]
  |succ i =>
   simp only[List.getElem?_cons_succ]at h;have:=ih (j+1) i k v k' v' h (by rw[show j+1+i=j+(i+1) by omega];exact hf);simp only[dq,List.modify_succ_cons,List.set_cons_succ,this]
def BF :∀ {es:List (Int × Int)} {i n:Nat} {v:Int},iC k i es=some (n,v)->i<=n/\es[n-i]?=some (k,v):=by
 intro es
 induction es with
 |nil=>intro i n v h;cases h
 |cons e es ih =>
  intro i n v h;obtain⟨a,u⟩:=e;simp only[iC]at h;by_cases hk:k=a
  ·rw[W8 hk]at h;cases h;subst hk;exact⟨aaz,aaw⟩
  ·rw[W7 hk]at h;obtain⟨h1,h2⟩:=ih h;refine⟨U,?_⟩;rw[show n-i=(n-(i+1))+1 by omega];exact h2
def JC:∀(es:List (Int × Int)) (j n:Nat),n<es.length->(dq j es).findIdx? (fun e=>(e.born:Int) == ((j+n:Nat):Int))=some n:=by
 intro es
 induction es with
 |nil=>intro j n h;simp at h
 |cons e es ih =>
  intro j n h;obtain⟨a,u⟩:=e;simp only[dq,List.findIdx?_cons];cases n with
  |zero=>simp
  |succ n =>
   have hne:((j:Int) == ((j+(n+1):Nat):Int))=false:=by
    rw[beq_eq_false_iff_ne];omega
   rw[hne];have:=ih (j+1) n (by simpa using h);rw[show j+1+n=j+(n+1) by omega]at this;simp only[Bool.false_eq_true,if_false,this];rfl
def BG (k v:Int):Obj.map ((dq 0 es).toArray.push ⟨.int .i64 k,.int .i64 v,es.length⟩) (es.length+1)=fL (es++[(k,v)]):=by
 unfold fL;rw[JA];simp[dq]
def xX {v k' v':Int}(f:MapEntry->MapEntry)(h:es[i]?=some (k,v))(hf:f ⟨.int .i64 k,.int .i64 v,i⟩=⟨.int .i64 k',.int .i64 v',i⟩):
  Obj.map ((dq 0 es).toArray.modify i f) es.length=fL (es.set i (k',v')):=by
 unfold fL;have:=JB f es 0 i k v k' v' h (by simpa using hf);rw[<- this,Xb];congr 1;apply Array.ext';simp
def JD {v:Int}(h:es[i]?=some (k,v)):es.set i (k,v)=es:=by
 obtain⟨hi,he⟩:=XR.1 h;rw[<- he];exact List.set_getElem_self hi
structure IntMap (P:Program)(t:TypeId)(kt et:TypeId):Prop where
 und:P.underlying t=some (.map kt et)
 key:P.underlying kt=some (.int .i64)
 zero:∀w:World,(zeroValue et).run P w=.ok (.int .i64 0) w
def xY (h:rE P t=true):∃kt et,IntMap P t kt et:=by
 unfold rE at h;split at h
 ·rename_i kt et ht;simp only[Xv]at h;obtain⟨h1,h2⟩:=h;split at h1
  ·rename_i hk;split at h2
   ·rename_i hz;rw[Xa]at hz;obtain⟨i,hi,hz⟩:=hz;exact⟨kt,et,ht,hk,fun w=>nV hi hz⟩
   ·cases h2
  ·cases h1
 ·cases h
def run_checkKey {e:Bool}(hk:P.underlying kt=some (.int .i64)):(Instr.checkKey e 10000 kt (.int .i64 k)).run P w=.ok () w:=by
 show (Instr.checkKey e (9999+1) kt (.int .i64 k)).run P w=.ok () w;unfold Instr.checkKey;rw[ao (cf hk)];rfl
def run_findKey (hk:P.underlying kt=some (.int .i64)):(Instr.findKey kt (.int .i64 k) (dq 0 es)).run P w=.ok ((iC k 0 es).map fun p=>(p.1,.int .i64 p.2)) w:=by
 unfold Instr.findKey;rw[ao (cf hk),Jz];rfl
def BH :(Instr.keyThatStays (.int .i64 k) (.int .i64 k)).run P w=.ok (.int .i64 k) w:=by
 unfold Instr.keyThatStays;have:Instr.sameBits 10000 (.int .i64 k) (.int .i64 k)=true:=by
  show (IntKind.i64 == IntKind.i64 && k == k)=true;simp
 rw[this];rfl
def rP (h:w.heap[b]?=some (fL es)):(getObj b).run P w=.ok (.map (dq 0 es).toArray es.length) w:=by simp[getObj,Sem.run,h,fL]
def rQ (o:Obj)(h:w.heap[b]?=some (fL es)):(setObj b o).run P w=.ok () (bx w b o):=by
 have h':w.heap[b]?=some (.map (dq 0 es).toArray es.length):=h;simp[setObj,Sem.run,h',bx]
def tV {id:Nat}{cv:Value}(R:nng P G Γ H w)(h:nnc P Γ H w (.nk id) cv)(hg:H.get id=some (.mp es)):∃b,Γ id=some (b,0,0)/\cv=.map (some b)/\w.heap[b]?=some (fL es):=by
 cases h with
 |nk h =>
  obtain⟨b,h1,h2⟩:=h.2.2.2.2 es hg;obtain⟨b',h3,h4⟩:=R.mp id es hg;rw[h1]at h3;cases h3;exact⟨b,h1,h2,h4⟩
def BI (ok:Bool)(r:Option (Nat × Int))(v:Value)(b:Bool)(h:(v,b)=match r with|some (_,v)=>(Value.int .i64 v,true)|none=>(Value.int .i64 0,false)):nnc P Γ H w (tP ok r) (if ok=true then .tuple #[v,.bool b] else v):=by
 have two:∀x y:Value,nnc P Γ H w (.nc [.lit x,.lit y]) (.tuple #[x,y]):=fun x y=>nnc.nc (cells:=[.lit x,.lit y]) (cs:=[x,y]) rfl fun i h _=>match i,h with
  |0,_=>.lit _
  |1,_=>.lit _
 cases r with
 |none =>
  simp only[Prod.mk.injEq]at h;obtain⟨rfl,rfl⟩:=h;cases ok
  ·exact .lit _
  ·exact two _ _
 |some p =>
  obtain⟨n,u⟩:=p;simp only[Prod.mk.injEq]at h;obtain⟨rfl,rfl⟩:=h;cases ok
  ·exact .lit _
  ·exact two _ _
def JE {x i v:nnn}{ok:Bool}{ci:Value}(R:nng P G Γ H w)(h:pK P H t x i ok=some v)(hx:nnc P Γ H w x cx)(hi:nnc P Γ H w i ci):
  ∃cv,(Instr.lookup t cx ci ok).run P w=.ok cv w/\nnc P Γ H w v cv:=by
 unfold pK at h;split at h
 ·rename_i hm;obtain⟨kt,et,M⟩:=xY hm;split at h
  ·rename_i k;cases hx;cases hi;cases h;refine⟨_,?_,BI ok none (.int .i64 0) false rfl⟩;unfold Instr.lookup;rw[ao (cf M.und)];simp only;refine(ao (Sem.run_pure P w _)).trans ?_;refine(ao (run_checkKey M.key)).trans ?_;refine(ao (run_findKey (es:=[]) M.key)).trans ?_;refine(ao (M.zero w)).trans ?_;cases ok<;>rfl
  ·rename_i id k;cases hi;split at h
   ·rename_i es hg;cases h;obtain⟨b,hΓ,rfl,hb⟩:=tV R hx hg;have fin:∀(u:Value) (d:Bool),((u,d)=match iC k 0 es with|some (_,v)=>(Value.int .i64 v,true)|none=>(Value.int .i64 0,false))->∃cv,(Instr.lookup t (.map (some b)) (.int .i64 k) ok).run P w=.ok cv w/\nnc P Γ H w (tP ok (iC k 0 es)) cv:=by
     intro u d hud;refine⟨_,?_,BI ok _ u d hud⟩;unfold Instr.lookup;rw[ao (cf M.und)];simp only;refine(ao (rP hb)).trans ?_;refine(ao (Sem.run_pure P w _)).trans ?_;refine(ao (run_checkKey M.key)).trans ?_;refine(ao (run_findKey (es:=es) M.key)).trans ?_;cases hf:iC k 0 es with
     |none =>
      rw[hf]at hud;cases hud;refine(ao (M.zero w)).trans ?_;cases ok<;>rfl
     |some p =>
      rw[hf]at hud;cases hud;cases ok<;>rfl
    exact fin _ _ rfl
   ·cases h
  ·cases h
 ·cases h
def BJ {m k x v:nnn}(R:nng P G Γ H w)(h:lE P H t m k x=some (v,H'))(hm:nnc P Γ H w m cm)(hk:nnc P Γ H w k ck)(hx:nnc P Γ H w x cx):
  ∃ Γ' w',(Instr.mapUpdate t cm ck cx).run P w=.ok () w'/\Evo Γ H w Γ' H' w'/\H.C<=H'.C/\nng P G Γ' H' w'/\v=.lit undef:=by
 unfold lE at h;split at h
 ·rename_i him;obtain⟨kt,et,M⟩:=xY him;split at h
  ·rename_i id k u;cases hk;cases hx;split at h
   ·rename_i es hg;simp only[Option.some.injEq,Prod.mk.injEq]at h;obtain⟨rfl,rfl⟩:=h;obtain⟨b,hΓ,rfl,hb⟩:=tV R hm hg;obtain⟨E,R'⟩:=tO (xA es k u) R hg hΓ hb;refine⟨Γ,_,?_,E,aaz,R',rfl⟩;unfold Instr.mapUpdate;rw[ao (cf M.und)];simp only;refine(ao (rP hb)).trans ?_;refine(ao (run_checkKey M.key)).trans ?_;refine(ao (run_findKey (es:=es) M.key)).trans ?_;unfold xA;cases hf:iC k 0 es with
    |none =>
     simp only[Option.map_none];rw[rQ _ hb,BG]
    |some p =>
     obtain⟨n,ng⟩:=p;obtain⟨_,hn⟩:=BF hf;simp only[Nat.sub_zero]at hn;have he:(dq 0 es).toArray[n]?=some ⟨.int .i64 k,.int .i64 ng,n⟩:=by
      rw[List.getElem?_toArray,BE,hn];simp
     simp only[Option.map_some,he,Option.getD_some];refine(ao BH).trans ?_;rw[rQ _ hb];rw[xX (k':=k) (v':=u) _ hn rfl]
   ·cases h
  ·cases h
 ·cases h
def JF {m k v:nnn}(R:nng P G Γ H w)(h:nO P H t m k=some (v,H'))(hm:nnc P Γ H w m cm)(hk:nnc P Γ H w k ck):
  ∃cv Γ' w',(Instr.mapEntry t cm ck).run P w=.ok cv w'/\Evo Γ H w Γ' H' w'/\H.C<=H'.C/\nng P G Γ' H' w'/\nnc P Γ' H' w' v cv:=by
 have two:∀(Γ:aA) (H:nnl) (w:World) (x y:Value),nnc P Γ H w (.nc [.lit x,.lit y]) (.tuple #[x,y]):=fun Γ H w x y=>nnc.nc (cells:=[.lit x,.lit y]) (cs:=[x,y]) rfl fun i h _=>match i,h with
  |0,_=>.lit _
  |1,_=>.lit _
 unfold nO at h;split at h
 ·rename_i him;obtain⟨kt,et,M⟩:=xY him;split at h
  ·rename_i id k;cases hk;split at h
   ·rename_i es hg;obtain⟨b,hΓ,rfl,hb⟩:=tV R hm hg;split at h
    ·rename_i n u hf;simp only[Option.some.injEq,Prod.mk.injEq]at h;obtain⟨rfl,rfl⟩:=h;obtain⟨_,hn⟩:=BF hf;simp only[Nat.sub_zero]at hn;have he:(dq 0 es).toArray[n]?=some ⟨.int .i64 k,.int .i64 u,n⟩:=by
      rw[List.getElem?_toArray,BE,hn];simp
     obtain⟨E,R'⟩:=tO es R hg hΓ hb;refine⟨_,Γ,_,?_,E,aaz,R',two _ _ _ (.int .i64 u) (.int .i64 n)⟩;unfold Instr.mapEntry;rw[ao (cf M.und)];simp only;refine(ao (rP hb)).trans ?_;refine(ao (run_checkKey M.key)).trans ?_;refine(ao (run_findKey (es:=es) M.key)).trans ?_;rw[hf];simp only[Option.map_some,he,Option.getD_some];refine(ao BH).trans ?_;rw[ao (rQ _ hb),xX (k':=k) (v':=u) _ hn rfl,JD hn];rfl
    ·rename_i hf;simp only[Option.some.injEq,Prod.mk.injEq]at h;obtain⟨rfl,rfl⟩:=h;obtain⟨E,R'⟩:=tO (es++[(k,0)]) R hg hΓ hb;refine⟨_,Γ,_,?_,E,aaz,R',two _ _ _ (.int .i64 0) (.int .i64 es.length)⟩;unfold Instr.mapEntry;rw[ao (cf M.und)];simp only;refine(ao (rP hb)).trans ?_;refine(ao (run_checkKey M.key)).trans ?_;refine(ao (run_findKey (es:=es) M.key)).trans ?_;rw[hf];simp only[Option.map_none];refine(ao (M.zero w)).trans ?_;rw[ao (rQ _ hb),BG];rfl
   ·cases h
  ·cases h
 ·cases h
def JG {m s x v:nnn}{cs:Value}(R:nng P G Γ H w)(h:pL H m s x=some (v,H'))(hm:nnc P Γ H w m cm)(hs:nnc P Γ H w s cs)(hx:nnc P Γ H w x cx):
  ∃ Γ' w',(Instr.entryStore t cm cs cx).run P w=.ok () w'/\Evo Γ H w Γ' H' w'/\H.C<=H'.C/\nng P G Γ' H' w'/\v=.lit undef:=by
 unfold pL at h;split at h
 ·rename_i id s u;cases hs;cases hx;split at h
  ·rename_i es hg;split at h
   ·rename_i hlt;simp only[Option.some.injEq,Prod.mk.injEq]at h;obtain⟨rfl,rfl⟩:=h;obtain⟨b,hΓ,rfl,hb⟩:=tV R hm hg;obtain⟨n,rfl⟩:=Xn hlt.1;have hn:n<es.length:=U;obtain⟨E,R'⟩:=tO (xB es n u) R hg hΓ hb;refine⟨Γ,_,?_,E,aaz,R',rfl⟩;unfold Instr.entryStore;simp only;refine(ao (rP hb)).trans ?_;have hi:(asInt (.int .i64 (n:Int))).run P w=.ok (n:Int) w:=rfl;refine(ao hi).trans ?_;have hf:=JC es 0 n hn;simp only[Nat.zero_add]at hf;have hf2:(dq 0 es).toArray.findIdx? (fun e=>(e.born:Int) == (n:Int))=some n:=by
     rw[List.findIdx?_toArray];exact hf
    rw[hf2];simp only;have hg2:es[n]?=some es[n]:=W5 hn;rw[rQ _ hb];unfold xB;rw[hg2];simp only;rw[xX (k:=es[n].1) (v:=es[n].2) (k':=es[n].1) (v':=u) _ hg2 rfl]
   ·cases h
  ·cases h
 ·cases h
end Go.Hx
namespace Go.Hx
variable {P:Program} {G:Nat->Option (List nnn)} {Γ Γ':aA} {H H':nnl} {w w':World}
variable {fs:Array Field}{cs:Array Value}{ρ:Env}{fl:Field}{id off:Nat}{f:Operand->Value}{cv cx:Value}{v x:nnn}
def BK {s:Sem Value}(h:s.run P w=.ok cv w'):(do pure (Next.value (<- s)):Sem Next).run P w=.ok (.value cv) w':=by
 rw[ao h];rfl
def tW {s:Sem Unit}(h:s.run P w=.ok () w'):(do s;pure Next.skip:Sem Next).run P w=.ok .skip w':=by
 rw[ao h];rfl
def cr (P:Program)(G:Nat->Option (List nnn))(Γ:aA)(H:nnl)(w:World)(v:nnn)(H':nnl)(s:Sem Next):Prop :=
 ∃nx cv Γ' w',s.run P w=.ok nx w'/\(nx=.value cv\/(nx=.skip/\cv=undef))/\Evo Γ H w Γ' H' w'/\H.C<=H'.C/\nng P G Γ' H' w'/\nnc P Γ' H' w' v cv
def cr.same {s:Sem Value}(R:nng P G Γ H w)(h:s.run P w=.ok cv w)(hv:nnc P Γ H w v cv):
  cr P G Γ H w v H (do pure (Next.value (<- s))) :=
 ⟨.value cv,cv,Γ,w,BK h,.inl rfl,Evo.refl _ _ _,aaz,R,hv⟩
theorem BL:∀ {cells:List nnn} {l:List Int} {cs:List Value},pO cells=some l->cs.length=cells.length->(∀i (_:i<cells.length) (_:i<cs.length),nnc P Γ H w cells[i] cs[i])->cs=l.map (Value.int .u8)
 | [],l,cs,hb,hl,_=>by
  obtain rfl:l=[]:=by simpa[pO] using hb.symm
  exact Xc hl
 |x :: cells,l,[],hb,hl,_=>by simp at hl
 |x :: cells,l,c :: cs,hb,hl,hr=>by
  have h0:=hr 0 aaw aaw;simp only[XD]at h0;unfold pO at hb;split at hb
  ·rename_i hx;cases hx
  ·rename_i n r hx;cases hx;simp only[W4]at hb;obtain⟨l',hl',rfl⟩:=hb;have hc:c=.int .u8 n:=(by cases h0;rfl);subst hc;have:=BL (cs:=cs) hl' (by simpa using hl) fun i h1 h2=>by
    have:=hr (i+1) (by simp;omega) (by simp;omega);simpa using this
   rw[this];rfl
  ·cases hb
def JH {n:Nat}{cells:List nnn}{l:List Int}(R:nng P G Γ H w)(hs:bU H 1 x=some (n,cells))(hx:nnc P Γ H w x cx)(hc:∃a m c,cx=.slice a m c)(hb:pO cells=some l):
  (Conv.bytesToString cx).run P w=.ok (.string (Bo l)) w:=by
 obtain⟨h1,h2,cs,h3,h4,h5⟩:=tU R hs hx;have h6:=BL hb h4 h5;obtain⟨a,m,c,rfl⟩:=hc;have hm:m=n:=by
  have h1':(Builtin.lenOf (.slice a m c)).run P w=.ok m w:=rfl;rw[h1']at h1;exact(Result.ok.inj h1).1
 subst hm;cases a with
 |none =>
  have h3':(Builtin.firstCells 1 m (.slice none m c)).run P w=.ok #[] w:=rfl;rw[h3']at h3;have:cs=[]:=by
   have:=(Result.ok.inj h3).1;have h7:=congrArg Array.toList this;simpa using h7.symm
  rw[this]at h6;have hl:l=[]:=by simpa using h6.symm
  subst hl;rfl
 |some a =>
  have h3':(loadCells a m).run P w=.ok cs.toArray w:=by
   have:=h3;unfold Builtin.firstCells at this
   rwa [Nat.mul_one]at this
  rw[h6]at h3';exact run_bytesToString w a m c l h3'
def JI {s d:TypeId}(R:nng P G Γ H w)(hx:nnc P Γ H w x cx)(hb:jH P H s d x=some v):cr P G Γ H w v H (do pure (Next.value (<- convert s d cx))):=by
 have bytes:∀y:nnn,nnc P Γ H w y cx->(∀n cells,bU H 1 y=some (n,cells)->∃a m c,cx=.slice a m c)->mq P H s d y=some v->cr P G Γ H w v H (do pure (Next.value (<- convert s d cx))):=by
  intro y hy hc hb;unfold mq at hb;split at hb
  ·rename_i hsb;simp only[Xa,W4]at hb;obtain⟨⟨n,cells⟩,hs,l,hl,rfl⟩:=hb;have hsl:=hc n cells hs;have hrun:=JH R hs hy hsl hl;unfold Bp at hsb;split at hsb
   ·rename_i e h1 h2;split at hsb
    ·rename_i h3;obtain⟨a,m,c,rfl⟩:=hsl;exact cr.same R ((run_convert_bytes_string w s d e a m c h1 h3 h2).trans hrun) (.lit _)
    ·cases hsb
   ·cases hsb
  ·cases hb
 unfold jH at hb;split at hb
 ·rename_i id g o l z;refine bytes _ hx (fun n cells hs=>?_) hb;unfold bU at hs;simp only at hs;split at hs
  ·simp only[W4]at hs;obtain⟨⟨e,cells'⟩,hl,_⟩:=hs;rcases jf hx hl with ⟨b,base,nn,a,cap,hΓ,rfl,_⟩|⟨hΓ,_,_,rfl⟩
   ·exact⟨_,_,_,rfl⟩
   ·exact⟨_,_,_,rfl⟩
  ·cases hs
 ·refine bytes _ hx (fun n cells hs=>?_) hb;cases hx with
  |nu a cap=>exact⟨_,_,_,rfl⟩
  |L=>exact⟨_,_,_,rfl⟩
 ·unfold kF at hb;split at hb
  ·rename_i a ha;simp only[W4]at hb;obtain⟨r,hr,rfl⟩:=hb;rw[<- hx.bZ ha]at hr;exact cr.same R (nL hr w) (.lit _)
  ·cases hb
def cr.new {s:Sem Value}(h:∃cv Γ' w',s.run P w=.ok cv w'/\Evo Γ H w Γ' H' w'/\H.C<=H'.C/\nng P G Γ' H' w'/\nnc P Γ' H' w' v cv):
  cr P G Γ H w v H' (do pure (Next.value (<- s))) :=
 let ⟨cv,Γ',w',h1,h2,h3,h4,h5⟩:=h
 ⟨.value cv,cv,Γ',w',BK h1,.inl rfl,h2,h3,h4,h5⟩
def BM {G:Nat->Option (List nnn)}(hev:∀x,nnc P Γ H w (ak G ρ x) (f x))(l:List Operand):
  ∀i (_:i<(l.map (ak G ρ)).length) (_:i<(l.map f).length),nnc P Γ H w (l.map (ak G ρ))[i] (l.map f)[i]:=by
 intro i h1 h2;simp only[Xi];exact hev _
def BN (hev:∀x,nnc P Γ H w (ak G ρ x) (f x))(parts:Array (Nat × Operand)):
  (parts.map fun (p:Nat × Operand)=>(p.1,f p.2)).toList.length=(parts.toList.map fun p=>(p.1,ak G ρ p.2)).length /\
  ∀i (h1:i<(parts.toList.map fun p=>(p.1,ak G ρ p.2)).length) (h2:i<(parts.map fun (p:Nat × Operand)=>(p.1,f p.2)).toList.length),
   (parts.toList.map fun p=>(p.1,ak G ρ p.2))[i].1=(parts.map fun (p:Nat × Operand)=>(p.1,f p.2)).toList[i].1 /\
   nnc P Γ H w (parts.toList.map fun p=>(p.1,ak G ρ p.2))[i].2 (parts.map fun (p:Nat × Operand)=>(p.1,f p.2)).toList[i].2:=by
 refine⟨aaw,fun i h1 h2=>?_⟩;simp only[Xi,Ya,Zb];exact⟨trivial,hev _⟩
def BO (hev:∀x,nnc P Γ H w (ak G ρ x) (f x))(o:Option Operand):pU P Γ H w (o.map (ak G ρ)) (o.map f):=by
 cases o with
 |none=>trivial
 |some x=>exact hev x
def BP:∀ {args:List nnn} {vs cs:List Value},pM args=some vs->cs.length=args.length->(∀i (_:i<args.length) (_:i<cs.length),nnc P Γ H w args[i] cs[i])->cs=vs:=by
 intro args
 induction args with
 |nil=>intro vs cs h hl _;simp only[pM,Option.some.injEq]at h;subst h;simpa using hl
 |cons a args ih =>
  intro vs cs h hl hr;simp only[pM,Xa,W4]at h;obtain⟨x,hx,l,hl2,rfl⟩:=h;cases cs with
  |nil=>simp at hl
  |cons c cs =>
   have h0:=hr 0 aaw aaw;simp only[XD]at h0;rw[h0.bZ hx];have:=ih hl2 (by simpa using hl) (fun i a b=>hr (i+1) (by simpa using a) (by simpa using b));rw[this]
def JJ {b:Builtin}{ats:Array TypeId}{args:List nnn}{cargs:Array Value}{ty:TypeId}{cs:Array Bool}(R:nng P G Γ H w)(h:fE P H id b ats.toList args=some (v,H'))
  (hl:cargs.toList.length=args.length) (hr:∀i (_:i<args.length) (_:i<cargs.toList.length),nnc P Γ H w args[i] cargs.toList[i]):
  cr P G Γ H w v H' (builtin b ats ty cs cargs):=by
 obtain⟨ats⟩:=ats;obtain⟨cargs⟩:=cargs;simp only at h hl hr;unfold fE at h;split at h
 ·rename_i t x;simp only[W4,Prod.mk.injEq]at h;obtain⟨v',hv,rfl,rfl⟩:=h
  match cargs,hl,hr with
  | [cx],_,hr =>
   obtain⟨cv,h1,h2⟩:=Jv (ty:=ty) hv (hr 0 aaw aaw);exact cr.same R h1 h2
 ·rename_i t u s x
  match cargs,hl,hr with
  | [c1,c2],_,hr=>exact cr.new (Ju R h (hr 0 aaw aaw) (hr 1 aaw aaw))
 ·rename_i t u d x
  match cargs,hl,hr with
  | [c1,c2],_,hr=>exact cr.new (Jx R h (hr 0 aaw aaw) (hr 1 aaw aaw))
 ·rename_i t d
  match cargs,hl,hr with
  | [c1],_,hr=>exact cr.new (Jy R h (hr 0 aaw aaw))
 ·simp only[Xa,W4,Prod.mk.injEq]at h;obtain⟨vs,hvs,r,hp,rfl,rfl⟩:=h;have:=BP hvs hl hr;subst this;exact cr.same R (nL hp w) (.lit _)
 ·simp only[Xa,W4,Prod.mk.injEq]at h;obtain⟨vs,hvs,r,hp,rfl,rfl⟩:=h;have:=BP hvs hl hr;subst this;exact cr.same R (nL hp w) (.lit _)
 ·cases h
def xZ {t:TypeId}{cells:List nnn}(h:eP P t cells off=some v)(hc:cU P Γ H w cells cs):
  ∃cv,(part t cs off).run P w=.ok cv w/\nnc P Γ H w v cv:=by
 unfold eP at h;unfold part;split at h
 ·cases h
 ·rename_i d hd;rw[ao (xt hd)];split at h
  ·rename_i ha;split at h
   ·rename_i hle;simp only[Option.some.injEq]at h;subst h;rw[ha,W8 rfl,ao (ic hd)];refine⟨_,rfl,?_⟩;have he:(cs.extract off (off+P.cellsOf t))=((cs.toList.drop off).take (P.cellsOf t)).toArray:=by
     apply Array.ext';simp[List.extract_eq_take_drop]
    rw[he];have hsz:=hc.1;refine .agg (by simp only[Xm,X1,YO];omega) (fun i h1 h2=>?_);simp only[YY,Za,Ya];simp only[Xm,X1]at h1;exact hc.2 (off+i) U (U)
   ·cases h
  ·rename_i ha;have:pF d=false:=(by simpa using ha);rw[this];simp only[Bool.false_eq_true,if_false];obtain⟨hlt,hv⟩:=XR.1 h;subst hv;obtain⟨cv,h1,h2⟩:=hc.get hlt;rw[h1];exact⟨cv,rfl,h2⟩
def BQ {cells:List nnn}(h:nnc P Γ H w (.agg cells) cv):∃cs:Array Value,cv=.agg cs/\cU P Γ H w cells cs:=by
 cases h with
 | @agg _ cs hcs hrel=>exact⟨cs.toArray,rfl,by simpa using hcs,fun i h1 h2=>by simpa using hrel i h1 (by simpa using h2)⟩
def BR {t f:Nat}{ft:TypeId}(h:bD P t f=some (off,ft)):∃fs fl i,P.underlying t=some (.struct fs)/\fs[f]?=some fl/\P.info? fl.type=some i/\P.cellsOf fl.type≠0/\off=fl.offset/\ft=fl.type:=by
 unfold bD at h;split at h
 ·rename_i fs hd;split at h
  ·rename_i fl hf;split at h
   ·rename_i hi;obtain⟨i,hi1⟩:=XP.1 hi.1;simp only[Option.some.injEq,Prod.mk.injEq]at h;exact⟨fs,fl,i,hd,hf,hi1,hi.2,h.1.symm,h.2.symm⟩
   ·cases h
  ·cases h
 ·cases h
def BS {t f:Nat}{i:TypeInfo}{a:Addr}(hd:P.underlying t=some (.struct fs))(hf:fs[f]?=some fl)(hi:P.info? fl.type=some i)(h0:P.cellsOf fl.type≠0):
  (Instr.fieldAt t (.pointer (some a)) f).run P w=.ok (.pointer (some (a.add fl.offset))) w:=by
 unfold Instr.fieldAt;rw[ao (cf hd)];simp only[hf];have sa:(Instr.sureAddr (.pointer (some a))).run P w=.ok a w:=rfl;rw[ao sa];unfold fieldPlace;have:(do if (<- sizeOf fl.type)=0 then partAt a fl.offset fl.byteOffset else pure (a.add fl.offset):Sem Addr).run P w=.ok (a.add fl.offset) w:=by
  rw[ao (run_sizeOf hi),W7 h0];rfl
 rw[ao this];rfl
def BU {t f:Nat}(hd:P.underlying t=some (.struct fs))(hf:fs[f]?=some fl):
  (Instr.field t (.agg cs) f).run P w=(part fl.type cs fl.offset).run P w:=by
 unfold Instr.field;rw[ao (cf hd)];simp only[hf];have sa:(asAgg (.agg cs)).run P w=.ok cs w:=rfl;rw[ao sa]
def JK {i:Nat}(h:lF x i=some v)(hx:nnc P Γ H w x cx):∃cv,(Instr.extract cx i).run P w=.ok cv w/\nnc P Γ H w v cv:=by
 cases hx with
 | @nc vs cs hcs hrel =>
  simp only[lF]at h;obtain⟨hlt,hv⟩:=XR.1 h;subst hv;refine⟨cs[i]' U,?_,hrel i hlt U⟩;have:Instr.extract (.tuple cs.toArray) i=(pure (cs[i]' U):Sem Value):=by
   unfold Instr.extract;simp only[List.getElem?_toArray];rw[W5 U]
  rw[this];rfl
 |lit =>
  cases cx with
  |tuple vs =>
   simp only[lF,W4]at h;obtain⟨r,hr,rfl⟩:=h;refine⟨r,?_,.lit _⟩;have:Instr.extract (.tuple vs) i=(pure r:Sem Value):=by
    unfold Instr.extract;simp[hr]
   rw[this];rfl
  |_=>simp[lF]at h
 |_=>simp[lF]at h
def x7 {o:Oper}(R:nng P G Γ H w)(hev:∀x,nnc P Γ H w (ak G ρ x) (f x))(h:aj P G ρ H id o.op=some (v,H')):
  cr P G Γ H w v H' (execOp f o):=by
 obtain⟨dst,op,type,pos,after,guard⟩:=o;simp only at h;unfold execOp;cases op with
 |move x =>
  simp only[aj,Option.some.injEq,Prod.mk.injEq]at h;obtain⟨rfl,rfl⟩:=h;exact⟨_,_,Γ,w,rfl,.inl rfl,Evo.refl _ _ _,aaz,R,hev x⟩
 |assign x =>
  simp only[aj,Option.some.injEq,Prod.mk.injEq]at h;obtain⟨rfl,rfl⟩:=h;exact⟨_,_,Γ,w,rfl,.inl rfl,Evo.refl _ _ _,aaz,R,hev x⟩
 |pick c a b =>
  simp only[aj]at h;have hc:=hev c;split at h
  ·rename_i t ht;rw[ht]at hc;simp only[Option.some.injEq,Prod.mk.injEq]at h;obtain⟨rfl,rfl⟩:=h;dsimp only;generalize f c=fc at hc ⊢;cases hc;refine⟨.value (if t then f a else f b),(if t then f a else f b),Γ,w,?_,.inl rfl,Evo.refl _ _ _,aaz,R,?_⟩
   ·cases t<;>rfl
   ·cases t
    ·exact hev b
    ·exact hev a
  ·cases h
 |alloc e =>
  simp only[aj,Xa,W4,Prod.mk.injEq]at h;obtain⟨z,hz,H1,hlay,rfl,rfl⟩:=h;obtain⟨i,zv,hi,hzv,hsz,hzz,hcells⟩:=pS hz;have hz0:cU P Γ H w z zv.cells:=hzz ▸ cU.lit _;obtain⟨E,hn,R'⟩:=rD (c:=zv.cells) R hlay (by rw[hz0.1];exact Nat.le_refl _) (fun i hi=>hz0.get hi);obtain⟨hget,_⟩:=jb hlay;obtain⟨_,_,_,hid⟩:=mn R hlay;refine cr.new ⟨_,_,_,?_,E,hn,R',Bs (by rw[hget,W8 rfl]) hid (aA.dE _ _ _)⟩;unfold Instr.alloc;rw[ao (nV hi hzv)];rfl
 |box e x =>
  simp only[aj,W4,Prod.mk.injEq]at h;obtain⟨H1,hlay,rfl,rfl⟩:=h;obtain⟨v1,v2⟩:=(hev x).cells;obtain⟨E,hn,R'⟩:=rD (c:=(f x).cells) R hlay (by rw[<- v1];simp) (fun i hi=>⟨(f x).cells[i]'(by rw[<- v1]at hi;simpa using hi),Xk _,by
   have:=v2 i hi (by rw[v1];exact hi);simpa using this⟩)
  obtain⟨hget,_⟩:=jb hlay;obtain⟨_,_,_,hid⟩:=mn R hlay;exact cr.new ⟨_,_,_,rfl,E,hn,R',Bs (by rw[hget,W8 rfl]) hid (aA.dE _ _ _)⟩
 |build t parts =>
  simp only[aj,W4,Prod.mk.injEq]at h;obtain⟨v',hb,rfl,rfl⟩:=h;obtain⟨p1,p2⟩:=BN hev parts;obtain⟨cv,h1,h2⟩:=Jg (w:=w) hb p1 p2;exact cr.same R h1 h2
 |buildSlice t len parts =>
  simp only[aj]at h;obtain⟨p1,p2⟩:=BN hev parts;exact cr.new (Jh R h p1 p2)
 |load t a =>
  simp only[aj,W4,Prod.mk.injEq]at h;obtain⟨v',hb,rfl,rfl⟩:=h;obtain⟨cv,h1,h2⟩:=Ja R hb (hev a);exact cr.same R h1 h2
 |store t a x =>
  simp only[aj]at h;split at h
  ·rename_i hu;obtain⟨d,hd⟩:=XP.1 hu;simp only[W4,Prod.mk.injEq]at h;obtain⟨H1,hst,rfl,rfl⟩:=h;obtain⟨w',h1,h2,h3,h4⟩:=Jb R hst (Bi hd) (hev a) (hev x);exact⟨.skip,undef,Γ,w',tW h1,.inr ⟨rfl,rfl⟩,h2,h3,h4,.lit _⟩
  ·cases h
 |nilCheck x =>
  simp only[aj,W4,Prod.mk.injEq]at h;obtain⟨v',hb,rfl,rfl⟩:=h;have hx:=hev x;unfold jI at hb;split at hb
  ·rename_i id' gen off hx';simp only[W4]at hb;obtain⟨⟨e,cells⟩,hl,rfl⟩:=hb;rw[hx']at hx;obtain⟨b,base,n,hΓ,hcv⟩:=pP hx hl;simp only[hcv]at hx ⊢;exact⟨_,_,Γ,w,rfl,.inl rfl,Evo.refl _ _ _,aaz,R,hx⟩
  ·rename_i cells off hx';simp only[Option.some.injEq]at hb;subst hb;rw[hx']at hx;dsimp only;generalize f x=fx at hx ⊢;cases hx with
   |ni a b c d e=>exact⟨_,_,Γ,w,rfl,.inl rfl,Evo.refl _ _ _,aaz,R,.ni a b c d e⟩
  ·rename_i ff a b hx';simp only[Option.some.injEq]at hb;subst hb;rw[hx']at hx;dsimp only;generalize f x=fx at hx ⊢;cases hx with
   |nb a b c d=>exact⟨_,_,Γ,w,rfl,.inl rfl,Evo.refl _ _ _,aaz,R,.nb a b c d⟩
  ·cases hb
 |binOp op t x y u =>
  simp only[aj,W4,Prod.mk.injEq]at h;obtain⟨v',hb,rfl,rfl⟩:=h;unfold bq at hb;split at hb
  ·rename_i a b ha hb';simp only[W4]at hb;obtain⟨r,hr,rfl⟩:=hb;rw[<- (hev x).bZ ha,<- (hev y).bZ hb']at hr;exact cr.same R (nL hr w) (.lit _)
  ·cases hb
 |unOp op t x =>
  simp only[aj,W4,Prod.mk.injEq]at h;obtain⟨v',hb,rfl,rfl⟩:=h;unfold rF at hb;split at hb
  ·rename_i a ha;simp only[W4]at hb;obtain⟨r,hr,rfl⟩:=hb;rw[<- (hev x).bZ ha]at hr;exact cr.same R (nL hr w) (.lit _)
  ·cases hb
 |convert s d x =>
  simp only[aj,W4,Prod.mk.injEq]at h;obtain⟨v',hb,rfl,rfl⟩:=h;exact JI R (hev x) hb
 |makeInterface t x =>
  simp only[aj]at h;split at h
  ·rename_i a ha;simp only[W4,Prod.mk.injEq]at h;obtain⟨r,hr,rfl,rfl⟩:=h;rw[<- (hev x).bZ ha]at hr;exact cr.same R (nL hr w) (.lit _)
  ·cases h
 |makeFunc fn first captured =>
  simp only[aj]at h;split at h
  ·simp only[Option.some.injEq,Prod.mk.injEq]at h;obtain⟨rfl,rfl⟩:=h;refine cr.same R (cv:=.func (.func _) (first.map f) (captured.map f)) rfl ?_;have e1:first.map f=(first.toList.map f).toArray:=(by rw[<- Z8,ZN]);have e2:captured.map f=(captured.toList.map f).toArray:=(by rw[<- Z8,ZN]);rw[e1,e2];exact .nb aaw aaw (BM hev _) (BM hev _)
  ·cases h
 |makeSlice t l c =>
  simp only[aj]at h;exact cr.new (Jl R h (hev l) (hev c))
 |slice t x lo hi mx =>
  simp only[aj]at h;split at h
  ·simp only[W4,Prod.mk.injEq]at h;obtain⟨v',hb,rfl,rfl⟩:=h;obtain⟨cv,h1,h2⟩:=Js R hb (hev x) (BO hev lo) (BO hev hi);exact cr.same R h1 h2
  ·cases h
 |fieldAddr s x fi =>
  simp only[aj,Xa]at h;obtain⟨⟨off,ft⟩,hf,h⟩:=h;obtain⟨fs,fl,i,hd,hfl,hi,h0,rfl,rfl⟩:=BR hf;have hx:=hev x;split at h
  ·rename_i id' gen off' hx';simp only[W4,Prod.mk.injEq]at h;obtain⟨⟨e,cells⟩,hl,rfl,rfl⟩:=h;rw[hx']at hx;obtain⟨a,ha,hr⟩:=Bx (k:=fl.offset) hx hl;simp only[ha];exact cr.same R (BS hd hfl hi h0) hr
  ·rename_i cells off' hx';simp only[Option.some.injEq,Prod.mk.injEq]at h;obtain⟨rfl,rfl⟩:=h;rw[hx']at hx;obtain⟨a,ha,hr⟩:=By (k:=fl.offset) hx;simp only[ha];exact cr.same R (BS hd hfl hi h0) hr
  ·cases h
 |field t x fi =>
  simp only[aj,Xa]at h;obtain⟨⟨off,ft⟩,hf,h⟩:=h;obtain⟨fs,fl,i,hd,hfl,hi,h0,rfl,rfl⟩:=BR hf;have hx:=hev x;split at h
  ·rename_i cells hx';simp only[W4,Prod.mk.injEq]at h;obtain⟨v',hp,rfl,rfl⟩:=h;rw[hx']at hx;obtain⟨cs,hcv,hrl⟩:=BQ hx;obtain⟨cv,h1,h2⟩:=xZ hp hrl;simp only[hcv];exact cr.same R ((BU hd hfl).trans h1) h2
  ·rename_i cs hx';simp only[W4,Prod.mk.injEq]at h;obtain⟨v',hp,rfl,rfl⟩:=h;rw[hx']at hx;obtain⟨cv,h1,h2⟩:=xZ hp (cU.lit (P:=P) (Γ:=Γ) (H:=H) (w:=w) cs);dsimp only;generalize f x=fx at hx ⊢;cases hx;exact cr.same R ((BU hd hfl).trans h1) h2
  ·cases h
 |indexAddr t x i =>
  simp only[aj]at h;have hi:=hev i;split at h
  ·rename_i k n hi';simp only[W4,Prod.mk.injEq]at h;obtain⟨v',hb,rfl,rfl⟩:=h;rw[hi']at hi;have:f i=.int k n:=by
    generalize f i=fi at hi;cases hi;rfl
   simp only[this];obtain⟨cv,h1,h2⟩:=Jm (w:=w) (k:=k) hb (hev x);exact cr.same R h1 h2
  ·cases h
 |index t x i =>
  simp only[aj,W4,Prod.mk.injEq]at h;obtain⟨v',hb,rfl,rfl⟩:=h;have hx:=hev x;have hi:=hev i;unfold mr at hb;split at hb
  ·rename_i cells k n hx' hi';rw[hx']at hx;rw[hi']at hi;have hfi:f i=.int k n:=by
    generalize f i=fi at hi;cases hi;rfl
   obtain⟨cs,hcv,hrl⟩:=BQ hx;split at hb
   ·rename_i len e hd;split at hb
    ·rename_i hn;obtain⟨cv,h1,h2⟩:=xZ hb hrl;simp only[hcv,hfi];refine cr.same R ?_ h2;unfold Instr.index;rw[ao (xU k n)];simp only;rw[ao (cf hd)];simp only;rw[W8 hn];have:∃d,P.underlying e=some d:=by
      unfold eP at hb;split at hb
      ·cases hb
      ·rename_i d hd';exact⟨d,hd'⟩
     obtain⟨d,hde⟩:=this;rw[ao (ic hde)];exact h1
    ·cases hb
   ·cases hb
  ·rename_i vx vi hx' hi';rw[hx']at hx;rw[hi']at hi;simp only[W4]at hb;obtain⟨r,hr,rfl⟩:=hb;have h1:f x=vx:=by
    generalize f x=fx at hx;cases hx;rfl
   have h2:f i=vi:=by
    generalize f i=fx at hi;cases hi;rfl
   simp only[h1,h2];exact cr.same R (nL hr w) (.lit _)
  ·cases hb
 |extract t i =>
  simp only[aj,W4,Prod.mk.injEq]at h;obtain⟨v',hb,rfl,rfl⟩:=h;obtain⟨cv,h1,h2⟩:=JK (w:=w) hb (hev t);exact cr.same R h1 h2
 |call c =>
  simp only[aj]at h;obtain⟨callee,args,ats⟩:=c;split at h
  ·rename_i b hb;simp only at hb h;subst hb;have:=JJ (ty:=type) (cs:=args.map fun|.const _=>true|_=>false) (cargs:=args.map f) R h aaw (fun i h1 h2=>by
    simp only[Xi,Ya,Zb];exact hev _)
   exact this
  ·cases h
 |makeMap t r =>
  simp only[aj]at h;split at h
  ·simp only[W4,Prod.mk.injEq]at h;obtain⟨H1,hlay,rfl,rfl⟩:=h;obtain⟨E,hn,R'⟩:=I7 R hlay;obtain⟨hget,_⟩:=jb hlay;obtain⟨_,_,_,hid⟩:=mn R hlay;refine cr.new ⟨.map (some w.heap.size),_,_,?_,E,hn,R',.nk ⟨hid,rfl,by rw[hget,W8 rfl];simp,fun st pend n env ps asg body hg=>(by rw[hget,W8 rfl]at hg;cases hg),fun es hg=>⟨_,aA.dE _ _ _,rfl⟩⟩⟩;rfl
  ·cases h
 |lookup t x i ok =>
  simp only[aj,W4,Prod.mk.injEq]at h;obtain⟨v',hb,rfl,rfl⟩:=h;obtain⟨cv,h1,h2⟩:=JE R hb (hev x) (hev i);exact cr.same R h1 h2
 |mapUpdate t m k x =>
  simp only[aj]at h;obtain⟨Γ',w',h1,h2,h3,h4,rfl⟩:=BJ R h (hev m) (hev k) (hev x);exact⟨.skip,undef,Γ',w',tW h1,.inr ⟨rfl,rfl⟩,h2,h3,h4,.lit _⟩
 |insert t m k x =>
  simp only[aj]at h;obtain⟨Γ',w',h1,h2,h3,h4,rfl⟩:=BJ R h (hev m) (hev k) (hev x);exact⟨.skip,undef,Γ',w',tW h1,.inr ⟨rfl,rfl⟩,h2,h3,h4,.lit _⟩
 |mapEntry t m k =>
  simp only[aj]at h;exact cr.new (JF R h (hev m) (hev k))
 |entryStore t m s x =>
  simp only[aj]at h;obtain⟨Γ',w',h1,h2,h3,h4,rfl⟩:=JG (t:=t) R h (hev m) (hev s) (hev x);exact⟨.skip,undef,Γ',w',tW h1,.inr ⟨rfl,rfl⟩,h2,h3,h4,.lit _⟩
 |_=>simp[aj]at h
end Go.Hx
namespace Go.Hx
variable {P:Program} {G:Nat->Option (List nnn)} {Γ Γ':aA} {H H':nnl} {w w':World}
variable {a b:Act}{ch:Nat->Bool}
structure St where
 ρ:Env
 H:nnl
inductive AX where
 |normal
 |exit (id:Nat)
 |goto (l:Nat)
 |ret
 |panic
def x8 (chain:List PanicEntry):Prop:=∃t v,chain=[{ v:=.iface t v,recovered:=false }]
def x9:Exit->AX->Prop
 |.normal,.normal=>True
 |.exit i,.exit j=>i=j
 |.goto i,.goto j=>i=j
 |.ret,.ret=>True
 |.panic chain,.panic=>x8 chain
 |_,_=>False
structure nnA where
 lo:Nat
 ds:List Deferred
def Marks (lo:Nat)(Γ:aA)(w:World)(m:List Deferred):Prop :=
 (∀d,d∈m->∃r,d={ target:=.collected r,args:=#[] }/\lo<=r/\pD Γ w r)/\m.Pairwise (fun d e=>d.target≠e.target)
theorem Marks.nil {lo:Nat}:Marks lo Γ w []:=⟨fun _ h=>(by cases h),.nil⟩
theorem Marks.aU {lo:Nat}{m:List Deferred}(h:Marks lo Γ w m)(E:Evo Γ H w Γ' H' w'):Marks lo Γ' w' m :=
 ⟨fun d hd=>let ⟨r,h1,h2,h3⟩:=h.1 d hd;⟨r,h1,h2,h3.aU E⟩,h.2⟩
def rR (wb:nnA)(Γ:aA)(w:World)(l:List Deferred):Prop:=∃m,l=m++wb.ds/\Marks wb.lo Γ w m
theorem rR.aU {wb:nnA}{l:List Deferred}(h:rR wb Γ w l)(E:Evo Γ H w Γ' H' w'):rR wb Γ' w' l :=
 let ⟨m,h1,h2⟩:=h;⟨m,h1,h2.aU E⟩
structure nnr (P:Program)(G:Nat->Option (List nnn))(n:Nat)(wb:nnA)(Γ:aA)(s:St)(a:Act)(w:World):Prop where
 size:a.tmps.size=n
 env:∀t,nnc P Γ s.H w (s.ρ t) (a.tmps.getD t undef)
 heap:nng P G Γ s.H w
 defers:rR wb Γ w a.defers
 low:wb.lo<=w.heap.size
def dp (Γ:aA)(H:nnl):Option Nat->Option Nat->Prop
 |none,rb=>rb=none
 |some id,rb=>∃b st pend n env ps asg body,rb=some b/\Γ id=some (b,0,0)/\H.get id=some (.loop st pend n env ps asg body)
def eS (H:nnl):Option Nat->Prop
 |none=>True
 |some id=>∃st pend n env ps asg body,H.get id=some (.loop st pend n env ps asg body)
abbrev da (rb:Option Nat):Fence:={ Fence.wide with round:=rb }
def wr:Code->Nat->Bool
 |.region _ ops _,t=>ops.toList.any fun o=>o.dst == some t
 |.seq a b,t|.cond _ a b,t=>wr a t ||wr b t
 |.block _ c,t|.loop c,t|.scope c,t=>wr c t
 |_,_=>false
def Fr (ch:Nat->Bool)(a a':Act):Prop:=∀t,ch t=false->a'.tmps[t]?=a.tmps[t]?
def Fr.refl (ch:Nat->Bool)(a:Act):Fr ch a a:=fun _ _=>rfl
theorem Fr.trans {c:Act}(h:Fr ch a b)(k:Fr ch b c):Fr ch a c:=fun t ht=>(k t ht).trans (h t ht)
def Fr.mono {ch':Nat->Bool}(h:Fr ch a b)(hc:∀t,ch' t=false->ch t=false):Fr ch' a b:=fun t ht=>h t (hc t ht)
def fN (P:Program)(G:Nat->Option (List nnn))(n:Nat)(wb:nnA)(rd rb:Option Nat)(ch:Nat->Bool)(Γ:aA)(H:nnl)(a:Act)(w:World)(Q:AX->St->Prop)(e:Exit)(a':Act)(w':World):Prop :=
 ∃x s' Γ',x9 e x/\Q x s'/\nnr P G n wb Γ' s' a' w'/\Evo Γ H w Γ' s'.H w'/\H.C<=s'.H.C/\dp Γ' s'.H rd rb/\Fr ch a a'
def W (P:Program)(G:Nat->Option (List nnn))(n:Nat)(rd:Option Nat)(c:Code)(Q:AX->St->Prop)(s:St):Prop :=
 ∀wb Γ a w rb,nnr P G n wb Γ s a w->dp Γ s.H rd rb->c.wpIn (da rb) 0 P (fN P G n wb rd rb (wr c) Γ s.H a w Q) a w
def iE (K:St->Prop)(Q:AX->St->Prop):AX->St->Prop
 |.normal,s=>K s
 |x,s=>Q x s
def lK (id:Nat)(Q:AX->St->Prop):AX->St->Prop
 |.exit i,s=>if i=id then Q .normal s else Q (.exit i) s
 |x,s=>Q x s
section rules
variable {n:Nat} {rd:Option Nat} {Q Q':AX->St->Prop} {s:St}
def fN.mono {wb:nnA}{rb:Option Nat}{ch:Nat->Bool}{e:Exit}{a a':Act}(h:fN P G n wb rd rb ch Γ H a w Q e a' w')(hq:∀x s,Q x s->Q' x s):fN P G n wb rd rb ch Γ H a w Q' e a' w' :=
 let ⟨x,s',Γ',h1,h2,h3⟩:=h;⟨x,s',Γ',h1,hq _ _ h2,h3⟩
def fN.step {wb:nnA}{rb:Option Nat}{ch ch':Nat->Bool}{e:Exit}{a a₁ a':Act}{w₁:World}{H₁:nnl}{Γ₁:aA}(E:Evo Γ H w Γ₁ H₁ w₁)(hn:H.C<=H₁.C)(hf:Fr ch' a a₁)
  (h:fN P G n wb rd rb ch Γ₁ H₁ a₁ w₁ Q e a' w') (hc:∀t,ch' t=false->ch t=false):fN P G n wb rd rb ch' Γ H a w Q e a' w' :=
 let ⟨x,s',Γ',h1,h2,h3,h4,h5,h6,h7⟩:=h;⟨x,s',Γ',h1,h2,h3,E.trans hn h4,XN hn h5,h6,hf.trans (h7.mono hc)⟩
theorem W.mono {c:Code}(h:W P G n rd c Q s)(hq:∀x s,Q x s->Q' x s):W P G n rd c Q' s :=
 fun wb Γ a w rb hs hr=>wpIn_mono (h wb Γ a w rb hs hr) fun _ _ _ hp=>hp.mono hq
def fN.here {wb:nnA}{rb:Option Nat}{ch:Nat->Bool}{e:Exit}{a:Act}{x:AX}(hx:x9 e x)(h:Q x s)(hs:nnr P G n wb Γ s a w)(hr:dp Γ s.H rd rb):
  fN P G n wb rd rb ch Γ s.H a w Q e a w:=⟨x,s,Γ,hx,h,hs,Evo.refl _ _ _,aaz,hr,.refl _ _⟩
theorem W.skip (h:Q .normal s):W P G n rd .skip Q s:=fun _ _ _ _ _ hs hr=>wpIn_skip (.here (x:=.normal) trivial h hs hr)
theorem W.label {l:Nat}(h:Q .normal s):W P G n rd (.label l) Q s:=fun _ _ _ _ _ hs hr=>wpIn_label (.here (x:=.normal) trivial h hs hr)
theorem W.exit {id:Nat}(h:Q (.exit id) s):W P G n rd (.exit id) Q s:=fun _ _ _ _ _ hs hr=>wpIn_exit (.here (x:=.exit id) rfl h hs hr)
theorem W.goto {l:Nat}(h:Q (.goto l) s):W P G n rd (.goto l) Q s:=fun _ _ _ _ _ hs hr=>wpIn_goto (.here (x:=.goto l) rfl h hs hr)
theorem W.ret (h:Q .ret s):W P G n rd .ret Q s:=fun _ _ _ _ _ hs hr=>wpIn_ret (.here (x:=.ret) trivial h hs hr)
def BV {x y:Bool}(h:(x ||y)=false):x=false:=by cases x<;>simp_all
def BW {x y:Bool}(h:(x ||y)=false):y=false:=by cases x<;>simp_all
theorem W.seq {x y:Code}(h:W P G n rd x (iE (W P G n rd y Q) Q) s):W P G n rd (.seq x y) Q s:=by
 intro wb Γ a w rb hs hr;refine wpIn_seq (wpIn_mono (h wb Γ a w rb hs hr) ?_);rintro e a' w' ⟨x',s',Γ',hx,hq,hs',E,hn,hr',hf⟩;have hf':Fr (wr (.seq x y)) a a':=hf.mono fun t ht=>BV ht;cases e with
 |normal =>
  cases x' with
  |normal=>exact wpIn_mono (hq wb Γ' a' w' rb hs' hr') fun _ _ _ hp=>hp.step E hn hf' fun t ht=>BW ht
  |_=>exact hx.elim
 |exit i=>cases x' with
  |exit j=>exact⟨_,s',Γ',hx,hq,hs',E,hn,hr',hf'⟩
  |_=>exact hx.elim
 |goto i=>cases x' with
  |goto j=>exact⟨_,s',Γ',hx,hq,hs',E,hn,hr',hf'⟩
  |_=>exact hx.elim
 |ret=>cases x' with
  |ret=>exact⟨_,s',Γ',hx,hq,hs',E,hn,hr',hf'⟩
  |_=>exact hx.elim
 |panic c=>cases x' with
  |panic=>exact⟨_,s',Γ',hx,hq,hs',E,hn,hr',hf'⟩
  |_=>exact hx.elim
 |outgrown=>cases x'<;>exact hx.elim
def ik {wb:nnA}{a:Act}(hs:nnr P G n wb Γ s a w)(x:Operand):nnc P Γ s.H w (ak G s.ρ x) (a.eval x):=by
 cases x with
 |tmp t=>exact hs.env t
 |const v=>exact .lit v
 |global g =>
  simp only[ak,Act.eval];cases hg:G g with
  |none=>exact .lit _
  |some cells=>exact hs.heap.nz g cells hg
 |func f=>exact nnc.nb (fs:=[]) (cs:=[]) rfl rfl (fun i h _=>absurd h (Xo _)) (fun i h _=>absurd h (Xo _))
theorem W.cond {c:Operand}{x y:Code}{t:Bool}(hc:ak G s.ρ c=.lit (.bool t))(h:W P G n rd (if t then x else y) Q s):W P G n rd (.cond c x y) Q s:=by
 intro wb Γ a w rb hs hr;have he:=ik hs c;rw[hc]at he;have:a.eval c=.bool t:=by
  generalize a.eval c=v at he;cases he;rfl
 refine wpIn_cond this (wpIn_mono (h wb Γ a w rb hs hr) ?_);rintro e a' w' ⟨x',s',Γ',h1,h2,h3,h4,h5,h6,h7⟩;refine⟨x',s',Γ',h1,h2,h3,h4,h5,h6,h7.mono fun i hi=>?_⟩;cases t with
 |true=>exact BV hi
 |false=>exact BW hi
theorem W.block {id:Nat}{c:Code}(h:W P G n rd c (lK id Q) s):W P G n rd (.block id c) Q s:=by
 intro wb Γ a w rb hs hr;refine wpIn_block (wpIn_mono (h wb Γ a w rb hs hr) ?_);rintro e a' w' ⟨x,s',Γ',hx,hq,hrest⟩;cases e with
 |exit i =>
  cases x with
  |exit j =>
   obtain rfl:i=j:=hx;simp only[Exit.inBlock];simp only[lK]at hq;split
   ·rename_i hi;rw[W8 hi]at hq;exact⟨.normal,s',Γ',trivial,hq,hrest⟩
   ·rename_i hi;rw[W7 hi]at hq;exact⟨.exit i,s',Γ',rfl,hq,hrest⟩
  |_=>exact hx.elim
 |normal=>cases x with
  |normal=>exact⟨_,s',Γ',hx,hq,hrest⟩
  |_=>exact hx.elim
 |goto i=>cases x with
  |goto j=>exact⟨_,s',Γ',hx,hq,hrest⟩
  |_=>exact hx.elim
 |ret=>cases x with
  |ret=>exact⟨_,s',Γ',hx,hq,hrest⟩
  |_=>exact hx.elim
 |panic c=>cases x with
  |panic=>exact⟨_,s',Γ',hx,hq,hrest⟩
  |_=>exact hx.elim
 |outgrown=>cases x<;>exact hx.elim
def cF (P:Program)(G:Nat->Option (List nnn))(s s':St):Prop :=
 ∀n wb Γ a w,nnr P G n wb Γ s a w->∃ Γ',nnr P G n wb Γ' s' a w/\Evo Γ s.H w Γ' s'.H w /\
  (∀rd rb,dp Γ s.H rd rb->eS s'.H rd->dp Γ' s'.H rd rb)
theorem cF.refl (s:St):cF P G s s:=fun _ _ Γ _ _ h=>⟨Γ,h,Evo.refl _ _ _,fun _ _ h _=>h⟩
def mask (ws:Nat)(ρ ρ₀:Env):Env:=fun t=>if ws / 2 ^ t % 2=1 then ρ t else ρ₀ t
def lL (ws:Nat):Code->Bool
 |.region _ ops _=>ops.toList.all fun o=>match o.dst with|some d=>ws / 2 ^ d % 2 == 1|none=>true
 |.seq a b|.cond _ a b=>lL ws a && lL ws b
 |.block _ c|.loop c|.scope c=>lL ws c
 |_=>true
def JL {ws:Nat}{t:Nat}(ht:¬ws / 2 ^ t % 2=1):∀ {c:Code},lL ws c=true->wr c t=false:=by
 intro c
 induction c with
 |region id ops d =>
  intro h;simp only[lL,XK]at h;simp only[wr,List.any_eq_false];intro o ho hd;have:=h o ho;have hd':o.dst=some t:=by simpa using hd
  rw[hd']at this;simp only[beq_iff_eq]at this;exact ht this
 |seq a b iha ihb=>intro h;simp only[lL,Xv]at h;simp only[wr,iha h.1,ihb h.2];rfl
 |cond x a b iha ihb=>intro h;simp only[lL,Xv]at h;simp only[wr,iha h.1,ihb h.2];rfl
 |block id c ih=>intro h;exact ih h
 |loop c ih=>intro h;exact ih h
 |scope c ih=>intro h;exact ih h
 |_=>intro _;rfl
theorem W.loop {c:Code}(ws:Nat)(hws:lL ws c=true)(I:Env->nnl->Prop)(μ:Env->nnl->Nat)(h0:I s.ρ s.H)
  (round:∀ ρ H,I ρ H->W P G n rd c (iE (fun s₂=>∃s₃,cF P G s₂ s₃/\s.H.C<=s₃.H.C/\eS s₃.H rd/\I (mask ws s₃.ρ s.ρ) s₃.H/\μ (mask ws s₃.ρ s.ρ) s₃.H<μ (mask ws ρ s.ρ) H) Q) ⟨mask ws ρ s.ρ,H⟩):W P G n rd (.loop c) Q s:=by
 intro wb Γ a w rb hs hr
 let iU:Env->nnl->Act->World->Prop:=fun ρ H a₁ w₁=>∃ Γ₁,I ρ H/\nnr P G n wb Γ₁ ⟨mask ws ρ s.ρ,H⟩ a₁ w₁/\Evo Γ s.H w Γ₁ H w₁/\s.H.C<=H.C/\dp Γ₁ H rd rb/\Fr (wr c) a a₁
 let ex:Act->World->Prop:=fun a₁ w₁=>∃k ρ H,iU ρ H a₁ w₁/\μ (mask ws ρ s.ρ) H=k
 let m:Act->World->Nat:=fun a₁ w₁=>Classical.epsilon fun k=>(∃ ρ H,iU ρ H a₁ w₁/\μ (mask ws ρ s.ρ) H=k)/\∀j,(∃ ρ H,iU ρ H a₁ w₁/\μ (mask ws ρ s.ρ) H=j)->k<=j
 have least:∀(p:Nat->Prop),(∃k,p k)->∃k,p k/\∀j,p j->k<=j:=by
  intro p ⟨k,hk⟩
  induction k using Nat.strongRecOn with
  |_ k ih =>
   by_cases h:∃j,j<k/\p j
   ·obtain⟨j,hj,hp⟩:=h;exact ih j hj hp
   ·exact⟨k,hk,fun j hj=>ZG fun hlt=>h ⟨j,hlt,hj⟩⟩
 have mspec:∀a₁ w₁,ex a₁ w₁->(∃ ρ H,iU ρ H a₁ w₁/\μ (mask ws ρ s.ρ) H=m a₁ w₁)/\∀j,(∃ ρ H,iU ρ H a₁ w₁/\μ (mask ws ρ s.ρ) H=j)->m a₁ w₁<=j:=by
  intro a₁ w₁ h;exact Classical.epsilon_spec (p:=fun k=>(∃ ρ H,iU ρ H a₁ w₁/\μ (mask ws ρ s.ρ) H=k)/\∀j,(∃ ρ H,iU ρ H a₁ w₁/\μ (mask ws ρ s.ρ) H=j)->k<=j) (least _ h)
 have mask0:mask ws s.ρ s.ρ=s.ρ:=by
  funext t
  unfold mask;split<;>rfl
 have mask2:∀ ρ,mask ws (mask ws ρ s.ρ) s.ρ=mask ws ρ s.ρ:=by
  intro ρ
  funext t
  unfold mask;by_cases h:ws / 2 ^ t % 2=1
  ·rw[W8 h,W8 h]
  ·rw[W7 h,W7 h]
 refine wpIn_mono (Q:=fun e a' w'=>fN P G n wb rd rb (wr c) Γ s.H a w Q e a' w') ?_ fun _ _ _ hp=>hp;refine wpIn_loop ex m ⟨_,s.ρ,s.H,⟨Γ,h0,by rw[mask0];exact hs,Evo.refl _ _ _,aaz,hr,.refl _ _⟩,rfl⟩ ?_;intro a₁ w₁ hex;obtain⟨⟨ρ,H,⟨Γ₁,hI,hs₁,E₁,hn₁,hr₁,hf₁⟩,hm⟩,hmin⟩:=mspec a₁ w₁ hex;refine wpIn_mono (round ρ H hI wb Γ₁ a₁ w₁ rb hs₁ hr₁) ?_;rintro e a' w' ⟨x,s',Γ',hx,hq,hs',E,hn,hr',hf⟩;have hf':=hf₁.trans hf;cases e with
 |normal =>
  cases x with
  |normal =>
   obtain⟨s₃,hw,hn3,hri,hI3,hlt⟩:=hq;obtain⟨Γ₃,hs₃,E₃,hrd⟩:=hw n wb Γ' a' w' hs';have E₄:Evo Γ s.H w Γ₃ s₃.H w':=(E₁.trans hn₁ E).trans (XN hn₁ hn) E₃;have hs₄:nnr P G n wb Γ₃ ⟨mask ws (mask ws s₃.ρ s.ρ) s.ρ,s₃.H⟩ a' w':=by
    rw[mask2];refine⟨hs₃.size,fun t=>?_,hs₃.heap,hs₃.defers,hs₃.low⟩;show nnc P Γ₃ s₃.H w' (if ws / 2 ^ t % 2=1 then s₃.ρ t else s.ρ t) _;by_cases ht:ws / 2 ^ t % 2=1
    ·rw[W8 ht];exact hs₃.env t
    ·rw[W7 ht];have hsame:=hf' t (JL ht hws);have:a'.tmps.getD t undef=a.tmps.getD t undef:=by
      simp only[XM,hsame]
     rw[this];exact(hs.env t).aU E₄ hn3
   have hg:iU (mask ws s₃.ρ s.ρ) s₃.H a' w':=⟨Γ₃,hI3,hs₄,E₄,hn3,hrd rd rb hr' hri,hf'⟩
   have hex':ex a' w':=⟨_,_,_,hg,rfl⟩
   refine⟨hex',Y4 ((mspec a' w' hex').2 _ ⟨_,_,hg,rfl⟩) ?_⟩;rw[<- hm,mask2];exact hlt
  |_=>exact hx.elim
 |exit i=>cases x with
  |exit j=>exact⟨_,s',Γ',hx,hq,hs',E₁.trans hn₁ E,XN hn₁ hn,hr',hf'⟩
  |_=>exact hx.elim
 |goto i=>cases x with
  |goto j=>exact⟨_,s',Γ',hx,hq,hs',E₁.trans hn₁ E,XN hn₁ hn,hr',hf'⟩
  |_=>exact hx.elim
 |ret=>cases x with
  |ret=>exact⟨_,s',Γ',hx,hq,hs',E₁.trans hn₁ E,XN hn₁ hn,hr',hf'⟩
  |_=>exact hx.elim
 |panic c=>cases x with
  |panic=>exact⟨_,s',Γ',hx,hq,hs',E₁.trans hn₁ E,XN hn₁ hn,hr',hf'⟩
  |_=>exact hx.elim
 |outgrown=>cases x<;>exact hx.elim
def W.aM {c:Code}(ws:Nat)(hws:lL ws c=true)(I:Env->nnl->Prop)(μ:Env->nnl->Nat)(h0:I s.ρ s.H)
  (round:∀ ρ H,I ρ H->W P G n rd c (iE (fun s₂=>s.H.C<=s₂.H.C/\eS s₂.H rd/\I (mask ws s₂.ρ s.ρ) s₂.H/\μ (mask ws s₂.ρ s.ρ) s₂.H<μ (mask ws ρ s.ρ) H) Q) ⟨mask ws ρ s.ρ,H⟩):W P G n rd (.loop c) Q s :=
 W.loop ws hws I μ h0 fun ρ H hI=>(round ρ H hI).mono fun x s' hx=>by
  cases x with
  |normal=>exact⟨s',cF.refl s',hx⟩
  |_=>exact hx
def W.ya {c:Code}{s':St}(hw:cF P G s s')(hn:s.H.C<=s'.H.C)(hri:eS s'.H rd)(h:W P G n rd c Q s'):W P G n rd c Q s:=by
 intro wb Γ a w rb hs hr;obtain⟨Γ',hs',E,hrd⟩:=hw n wb Γ a w hs;exact wpIn_mono (h wb Γ' a w rb hs' (hrd rd rb hr hri)) fun _ _ _ hp=>hp.step E hn (.refl _ _) fun _ h=>h
end rules
end Go.Hx
namespace Go.Hx
variable {P:Program} {G:Nat->Option (List nnn)} {Γ Γ':aA} {H H':nnl} {w w':World}
variable {f:FuncId}{args:List nnn}{id n:Nat}{rb rd:Option Nat}{cv v:Value}{wb:nnA}
inductive nnf where
 |ret (v:nnn)
 |panic
def JM (P:Program)(Γ:aA)(H:nnl)(w:World):Ending->nnf->Prop
 |.returned cv,.ret v=>nnc P Γ H w v cv
 |.panicked chain,.panic=>x8 chain
 |_,_=>False
def eG (P:Program)(G:Nat->Option (List nnn))(Γ:aA)(H:nnl)(w:World)(K:nnf->nnl->Prop)(e:Ending)(w':World):Prop :=
 ∃r H' Γ',JM P Γ' H' w' e r/\K r H'/\nng P G Γ' H' w'/\Evo Γ H w Γ' H' w'/\H.C<=H'.C
def af (P:Program)(G:Nat->Option (List nnn))(f:FuncId)(args:List nnn)(H:nnl)(K:nnf->nnl->Prop):Prop :=
  (∃ fn, P.funcs[f]? = some fn ∧ fn.body.isNone = false ∧ (fn.name == "runtime.NumGoroutine") = false) ∧
 ∀ Γ w cargs,nng P G Γ H w->cU P Γ H w args cargs->CallsIn Fence.wide 0 P f cargs w (eG P G Γ H w K)
def aC (P:Program)(G:Nat->Option (List nnn))(fv:nnn)(args:List nnn)(H:nnl)(K:nnf->nnl->Prop):Prop :=
 ∀ Γ w cfv cargs,nng P G Γ H w->nnc P Γ H w fv cfv->cU P Γ H w args cargs ->
  ∃d,(Deferred.ofValue cfv cargs).run P w=.ok d w /\
   ((∃f as,(invoke d.target d.args).run P w=.ok (.enter f as) w/\CallsIn Fence.wide 0 P f as w (eG P G Γ H w K)) \/
    (∃l f tm asg body,(invoke d.target d.args).run P w=.ok (.round l f tm asg body) w/\RoundIn Fence.wide 0 P l f tm asg body w (eG P G Γ H w K)) \/
    (∃cv w',(invoke d.target d.args).run P w=.ok (.value cv) w'/\eG P G Γ H w K (.returned cv) w'))
variable {K K':nnf->nnl->Prop}
def eG.mono {e:Ending}(h:eG P G Γ H w K e w')(hk:∀r H',K r H'->K' r H'):eG P G Γ H w K' e w' :=
 let ⟨r,H',Γ',h1,h2,h3⟩:=h;⟨r,H',Γ',h1,hk _ _ h2,h3⟩
theorem af.mono (h:af P G f args H K)(hk:∀r H',K r H'->K' r H'):af P G f args H K' :=
 ⟨h.1,fun Γ w cargs R hr=>(h.2 Γ w cargs R hr).mono fun _ _ hp=>hp.mono hk⟩
theorem aC.mono {fv:nnn}(h:aC P G fv args H K)(hk:∀r H',K r H'->K' r H'):aC P G fv args H K':=by
 intro Γ w cfv cargs R hv hr;obtain⟨d,h1,h2⟩:=h Γ w cfv cargs R hv hr;refine⟨d,h1,?_⟩;rcases h2 with ⟨f,as,h3,h4⟩|⟨l,f,tm,asg,body,h3,h4⟩|⟨cv,w',h3,h4⟩
 ·exact .inl ⟨f,as,h3,h4.mono fun _ _ hp=>hp.mono hk⟩
 ·exact .inr (.inl ⟨l,f,tm,asg,body,h3,h4.mono fun _ _ hp=>hp.mono hk⟩)
 ·exact .inr (.inr ⟨cv,w',h3,h4.mono hk⟩)
def tX {a b:List nnn}{x y:Array Value}(h:cU P Γ H w a x)(k:cU P Γ H w b y):cU P Γ H w (a++b) (x++y):=by
 refine⟨by rw[Z3,List.length_append,h.1,k.1],fun i h1 h2=>?_⟩;have hx:=h.1;by_cases hi:i<a.length
 ·rw[X3 hi,Array.getElem_append_left U];exact h.2 i hi _
 ·rw[Ye U,Array.getElem_append_right U];simp only[hx];exact k.2 _ (by simp only[List.length_append]at h1;omega) _
theorem aC.nb {f:FuncId}{first cap args:List nnn}{K:nnf->nnl->Prop}(h:af P G f (first++args++cap) H K):aC P G (.nb f first cap) args H K:=by
 intro Γ w cfv cargs R hv hr;cases hv with
 | @nb _ _ _ fs cs hfs hcs hf hc =>
  refine⟨{ target:=.fn (.func f) cs.toArray,args:=fs.toArray++cargs },rfl,.inl ⟨f,fs.toArray++cargs++cs.toArray,?_,?_⟩⟩
  ·obtain⟨fn,hfn,hb,hn⟩:=h.1;show (callFunc f (fs.toArray++cargs++cs.toArray)).run P w=_;unfold callFunc;rw[ao (run_program P w)];simp only[hfn];rw[hn,hb];rfl
  ·exact h.2 Γ w _ R (tX (tX ⟨by simpa using hfs,fun i h1 h2=>by simpa using hf i h1 (by simpa using h2)⟩ hr) ⟨by simpa using hcs,fun i h1 h2=>by simpa using hc i h1 (by simpa using h2)⟩)
def nnc.JN (h:nnc P Γ H w (.lit v) cv):cv=v:=by cases h;rfl
theorem aC.ext {fn:Func}{e:Array Value->Sem Value}{vs:List Value}{r:nnn}(hf:P.funcs[f]?=some fn)(hb:fn.body.isNone=true)
    (hn : (fn.name == "runtime.NumGoroutine") = false) (h1 : Extern.findNext fn = none) (h2 : Extern.find fn = some e) (ha : args = vs.map .lit) (hrun : ∀ w, (e vs.toArray).run P w = .ok v w)
  (hrel:∀ Γ H w,nnc P Γ H w r v) (hK:K (.ret r) H):aC P G (.nb f [] []) args H K:=by
 intro Γ w cfv cargs R hv hr;subst ha;have hc:cargs=vs.toArray:=by
  obtain⟨hs,hr⟩:=hr;apply Array.ext
  ·simpa using hs
  ·intro i h1 h2;have:=hr i (by simpa using h2) h1;simp only[Xi]at this;simpa using this.JN
 subst hc;cases hv with
 | @nb _ _ _ fs cs hfs hcs hf' hc' =>
  obtain rfl:fs=[]:=Xc (by simpa using hfs);obtain rfl:cs=[]:=Xc (by simpa using hcs);refine⟨{ target:=.fn (.func f) #[],args:=#[]++vs.toArray },rfl,.inr (.inr ⟨v,w,?_,.ret r,H,Γ,hrel Γ H w,hK,R,Evo.refl _ _ _,aaz⟩)⟩;show (callFunc f (#[]++vs.toArray++#[])).run P w=_;unfold callFunc;rw[ao (run_program P w)];simp only[hf];rw[hn,hb];simp only[Bool.false_eq_true,if_false,if_true,h1,h2];have e0:#[]++vs.toArray++#[]=vs.toArray:=aaw
  rw[e0];have hm:(mark (.extern f)).run P w=.ok () w:=rfl;rw[ao hm];rw[ao (hrun w)];rfl
inductive TagK {α:Type}(K:α->Prop):Type where
 |mk
inductive TagR (K:nnf->nnl->Prop):Type where
 |mk
inductive TagP (p q:Prop):Type where
 |mk
def bd {α:Type}(o:Option α)(K:α->Prop)(_d:TagK K:=.mk):Prop:=∃a,o=some a/\K a
def aF (ρ:Env)(dst:Option Tmp)(v:nnn):Env :=
 match dst with
 |some d=>fun t=>if t=d then v else ρ t
 |none=>ρ
def eH (all:Array Oper)(ρ:Env)(o:Oper):Option Bool :=
 match o.guard with
 |none=>some true
 |some (j,want) =>
  match (all[j]?).bind (·.dst) with
  |some d=>match ρ d with
   |.lit (.bool b)=>some (b == want)
   |.lit _=>some false
   |_=>none
  |none=>some false
def dM (n:Nat)(o:Oper):Bool:=match o.dst with|some d=>decide (d<n)|none=>true
def iF (H:nnl)(op:BinOp)(x y:nnn):Option Bool :=
 match op,y with
 |.eql,.lit (.slice none 0 0)|.neq,.lit (.slice none 0 0)=>match x with
  |.L n _=>some (decide (0<n))
  |.Z id g _ n _=>match H.na id g with
   |some _=>some (decide (0<n))
   |none=>none
  |_=>none
 |_,_=>none
def lM (d:Option TypeDesc):Bool:=match d with|some (.slice _)=>true|_=>false
def rS (P:Program)(op:BinOp)(t:TypeId)(k:Option Bool)(Kb:nnn->Prop)(p:Prop):Prop :=
 match k with
 |some k=>lM (P.underlying t)=true/\∀b:Bool,(k=true->b=false)->Kb (.lit (.bool (if op == .neq then !b else b)))
 |none=>p
def aV (P:Program)(G:Nat->Option (List nnn))(rd:Option Nat)(Q:AX->St->Prop)(o:Oper)(K:St->Prop)(s:St):Prop :=
 match o.op with
 |.call { callee:=.value fv,args,.. }=>aC P G (ak G s.ρ fv) (args.toList.map (ak G s.ρ)) s.H fun r H'=>eS H' rd/\match r with
  |.ret v=>K ⟨aF s.ρ o.dst v,H'⟩
  |.panic=>Q .panic ⟨s.ρ,H'⟩
 |.panic x=>(∃t v,(ak G s.ρ x)=.lit (.iface t v))/\Q .panic s
 |.binOp op t x y u=>rS P op t (iF s.H op (ak G s.ρ x) (ak G s.ρ y)) (fun v=>K ⟨aF s.ρ o.dst v,s.H⟩) (bd (aj P G s.ρ s.H s.H.C (.binOp op t x y u)) fun vH=>K ⟨aF s.ρ o.dst vH.1,vH.2⟩)
 |op=>bd (aj P G s.ρ s.H s.H.C op) fun vH=>K ⟨aF s.ρ o.dst vH.1,vH.2⟩
def opsV (P:Program)(G:Nat->Option (List nnn))(rd:Option Nat)(Q:AX->St->Prop)(all:Array Oper):List Oper->St->Prop
 | [],s=>Q .normal s
 |o :: rest,s=>bd (eH all s.ρ o) fun t=>if t=true then aV P G rd Q o (opsV P G rd Q all rest) s else opsV P G rd Q all rest ⟨aF s.ρ o.dst (.lit undef),s.H⟩
def nW {s:St}{a:Act}{all:Array Oper}{o:Oper}{t:Bool}(hs:nnr P G n wb Γ s a w)(h:eH all s.ρ o=some t):Region.wanted o (yielded all a.tmps)=t:=by
 unfold eH at h;unfold Region.wanted;split at h
 ·rename_i hg;rw[hg];simpa using h
 ·rename_i j want hg;rw[hg];simp only;split at h
  ·rename_i d hd;have he:=hs.env d;have hy:yielded all a.tmps j=match a.tmps[d]? with|some (.bool b)=>some b|_=>none:=by
    unfold yielded;rw[hd];rfl
   rw[hy];have hgd:a.tmps.getD d undef=(a.tmps[d]?).getD undef:=aaw;rw[hgd]at he;split at h
   ·rename_i b hb;rw[hb]at he;simp only[Option.some.injEq]at h;cases hd:a.tmps[d]? with
    |none=>rw[hd]at he;cases he
    |some v =>
     rw[hd]at he;cases he;simp only;rw[<- h];cases b<;>cases want<;>rfl
   ·rename_i v hnb hb;rw[hb]at he;simp only[Option.some.injEq]at h;subst h;cases hd:a.tmps[d]? with
    |none=>simp
    |some cv =>
     rw[hd]at he;cases he;cases cv with
     |bool b=>exact(hnb b rfl).elim
     |_=>rfl
   ·cases h
  ·rename_i hd;have hy:yielded all a.tmps j=none:=(by unfold yielded;rw[hd];rfl);rw[hy];simpa using h
def gM {s:St}{a:Act}{dst:Option Tmp}{v:nnn}{H':nnl}(hs:nnr P G n wb Γ s a w)(hd:∀d,dst=some d->d<n)(E:Evo Γ s.H w Γ' H' w')(hn:s.H.C<=H'.C)
  (R:nng P G Γ' H' w') (hv:nnc P Γ' H' w' v cv):nnr P G n wb Γ' ⟨aF s.ρ dst v,H'⟩ (a.put dst cv) w':=by
 cases dst with
 |none=>exact⟨hs.size,fun t=>(hs.env t).aU E hn,R,hs.defers.aU E,XN hs.low E.size⟩
 |some d =>
  have hdn:=hd d rfl;refine⟨by simp[Act.put,hs.size],fun t=>?_,R,hs.defers.aU E,XN hs.low E.size⟩;simp only[Act.put,aF];by_cases ht:t=d
  ·subst ht;rw[W8 rfl];have:(a.tmps.setIfInBounds t cv).getD t undef=cv:=(by simp[hs.size,hdn]);rw[this];exact hv
  ·rw[W7 ht];have:(a.tmps.setIfInBounds d cv).getD t undef=a.tmps.getD t undef:=by
    simp only[XM];rw[XZ,W7 U]
   rw[this];exact(hs.env t).aU E hn
def dp.aU (h:dp Γ H rd rb)(E:Evo Γ H w Γ' H' w')(hn:H.C<=H'.C)(R:nng P G Γ H w)(hi:eS H' rd):dp Γ' H' rd rb:=by
 cases rd with
 |none=>exact h
 |some id =>
  obtain⟨b,st,pend,n,env,ps,asg,body,h1,h2,h3⟩:=h;obtain⟨st',pend',n',env',ps',asg',body',h3'⟩:=hi;have hlt:=R.C id _ h3;obtain⟨x,hx,hle⟩:=E.na id hlt (Xd hlt hn) _ h3';rw[h3]at hx;cases hx;exact⟨b,_,_,_,_,_,_,_,h1,hle.1.trans h2,h3'⟩
def JO {b:Blk}(h:H.lay id b=some H'){j:Nat}{st:LoopState}{pend:Option Code}{env:Env}{ps:Array Tmp}{asg body:Code}
  (hj:H.get j=some (.loop st pend n env ps asg body)) (hlt:j<H.C):H'.get j=some (.loop st pend n env ps asg body):=by
 obtain⟨h1,_⟩:=jb h;have hne:j≠id:=by
  rintro rfl;unfold nnl.lay at h;rw[W7 U,hj]at h;cases h
 rw[h1,W7 hne];exact hj
def yb (h:dp Γ H rd rb)(hk:∀j st pend n env ps asg body,H.get j=some (.loop st pend n env ps asg body)->∃st pend n env ps asg body,H'.get j=some (.loop st pend n env ps asg body)):eS H' rd:=by
 cases rd with
 |none=>trivial
 |some id =>
  obtain⟨b,st,pend,n,env,ps,asg,body,h1,h2,h3⟩:=h;exact hk id _ _ _ _ _ _ _ h3
def yd {ρ:Env}{o:Op}{v:nnn}(R:nng P G Γ H w)(h:aj P G ρ H id o=some (v,H')):∀j st pend n env ps asg body,H.get j=some (.loop st pend n env ps asg body) ->
  ∃st pend n env ps asg body,H'.get j=some (.loop st pend n env ps asg body):=by
 have same:H'=H->∀j st pend n env ps asg body,H.get j=some (.loop st pend n env ps asg body)->∃st pend n env ps asg body,H'.get j=some (.loop st pend n env ps asg body):=by
  rintro rfl j st pend n env ps asg body hj;exact⟨_,_,_,_,_,_,_,hj⟩
 have lay:∀b,H.lay id b=some H'->∀j st pend n env ps asg body,H.get j=some (.loop st pend n env ps asg body)->∃st pend n env ps asg body,H'.get j=some (.loop st pend n env ps asg body):=by
  intro b hb j st pend n env ps asg body hj;exact⟨_,_,_,_,_,_,_,JO hb hj (R.C j _ hj)⟩
 have upd:∀id g e cells b,H.get id=some (.O g e cells)->H'=H.upd id b->∀j st pend n env ps asg body,H.get j=some (.loop st pend n env ps asg body)->∃st pend n env ps asg body,H'.get j=some (.loop st pend n env ps asg body):=by
  rintro id g e cells b hb rfl j st pend n env ps asg body hj;refine⟨st,pend,n,env,ps,asg,body,?_⟩;rw[ae,W7]
  ·exact hj
  ·rintro rfl;rw[hb]at hj;cases hj
 have updM:∀id es b,H.get id=some (.mp es)->H'=H.upd id b->∀j st pend n env ps asg body,H.get j=some (.loop st pend n env ps asg body)->∃st pend n env ps asg body,H'.get j=some (.loop st pend n env ps asg body):=by
  rintro id es b hb rfl j st pend n env ps asg body hj;refine⟨st,pend,n,env,ps,asg,body,?_⟩;rw[ae,W7]
  ·exact hj
  ·rintro rfl;rw[hb]at hj;cases hj
 have updU:∀t m k x,lE P H t m k x=some (v,H')->∀j st pend n env ps asg body,H.get j=some (.loop st pend n env ps asg body)->∃st pend n env ps asg body,H'.get j=some (.loop st pend n env ps asg body):=by
  intro t m k x h;unfold lE at h;split at h
  ·split at h
   ·split at h
    ·rename_i hg;simp only[Option.some.injEq,Prod.mk.injEq]at h;exact updM _ _ _ hg h.2.symm
    ·cases h
   ·cases h
  ·cases h
 cases o with
 |makeMap t r =>
  simp only[aj]at h;split at h
  ·simp only[W4,Prod.mk.injEq]at h;obtain⟨_,hl,_,rfl⟩:=h;exact lay _ hl
  ·cases h
 |lookup a b c d=>simp only[aj,W4,Prod.mk.injEq]at h;obtain⟨_,_,_,rfl⟩:=h;exact same rfl
 |mapUpdate t m k x=>simp only[aj]at h;exact updU _ _ _ _ h
 |insert t m k x=>simp only[aj]at h;exact updU _ _ _ _ h
 |mapEntry t m k =>
  simp only[aj]at h;unfold nO at h;split at h
  ·split at h
   ·split at h
    ·rename_i hg;split at h
     ·simp only[Option.some.injEq,Prod.mk.injEq]at h;exact updM _ _ _ hg h.2.symm
     ·simp only[Option.some.injEq,Prod.mk.injEq]at h;exact updM _ _ _ hg h.2.symm
    ·cases h
   ·cases h
  ·cases h
 |entryStore t m s x =>
  simp only[aj]at h;unfold pL at h;split at h
  ·split at h
   ·rename_i hg;split at h
    ·simp only[Option.some.injEq,Prod.mk.injEq]at h;exact updM _ _ _ hg h.2.symm
    ·cases h
   ·cases h
  ·cases h
 |alloc e =>
  simp only[aj,Xa,W4,Prod.mk.injEq]at h;obtain⟨_,_,_,hl,_,rfl⟩:=h;exact lay _ hl
 |box e x =>
  simp only[aj,W4,Prod.mk.injEq]at h;obtain⟨_,hl,_,rfl⟩:=h;exact lay _ hl
 |buildSlice t len parts =>
  simp only[aj,jG]at h;split at h
  ·split at h
   ·simp only[Xa,W4,Prod.mk.injEq]at h;obtain⟨_,_,_,_,_,hl,_,rfl⟩:=h;exact lay _ hl
   ·cases h
  ·cases h
 |store t a x =>
  simp only[aj]at h;split at h
  ·simp only[W4,Prod.mk.injEq]at h;obtain⟨_,hst,_,rfl⟩:=h;unfold ie at hst;split at hst
   ·split at hst
    ·rename_i hg;split at hst
     ·simp only[Option.some.injEq]at hst;exact upd _ _ _ _ _ hg hst.symm
     ·cases hst
    ·cases hst
   ·cases hst
  ·cases h
 |makeSlice t l c =>
  simp only[aj,je]at h;split at h
  ·split at h
   ·simp only[Xa,W4,Prod.mk.injEq]at h;obtain⟨_,_,_,hl,_,rfl⟩:=h;exact lay _ hl
   ·cases h
  ·cases h
 |call c =>
  simp only[aj]at h;split at h
  ·rename_i b hb;unfold fE at h;split at h
   ·simp only[W4,Prod.mk.injEq]at h;obtain⟨_,_,_,rfl⟩:=h;exact same rfl
   ·unfold bh at h;split at h
    ·split at h
     ·simp only[Xa]at h;obtain⟨_,_,_,_,h⟩:=h;split at h
      ·split at h
       ·simp only[Option.some.injEq,Prod.mk.injEq]at h;exact same h.2.symm
       ·split at h
        ·simp only[W4,Prod.mk.injEq]at h;obtain⟨_,hl,_,rfl⟩:=h;exact lay _ hl
        ·cases h
      ·simp only[Xa]at h;obtain⟨⟨e',cells⟩,hl,h⟩:=h;simp only at h;split at h
       ·split at h
        ·simp only[Option.some.injEq,Prod.mk.injEq]at h;exact same h.2.symm
        ·simp only[Option.some.injEq,Prod.mk.injEq]at h;exact upd _ _ _ _ _ (iD hl) h.2.symm
       ·cases h
      ·cases h
     ·cases h
    ·cases h
   ·unfold kD at h;split at h
    ·split at h
     ·simp only[Xa]at h;obtain⟨_,_,h⟩:=h;split at h
      ·simp only[Xa]at h;obtain⟨⟨e',cells⟩,hl,h⟩:=h;simp only at h;split at h
       ·simp only[Option.some.injEq,Prod.mk.injEq]at h;exact upd _ _ _ _ _ (iD hl) h.2.symm
       ·cases h
      ·cases h
     ·cases h
    ·cases h
   ·unfold ij at h;split at h
    ·split at h
     ·simp only[Option.some.injEq,Prod.mk.injEq]at h;exact same h.2.symm
     ·simp only[Xa]at h;obtain⟨⟨e',cells⟩,hl,h⟩:=h;simp only at h;split at h
      ·simp only[Option.some.injEq,Prod.mk.injEq]at h;exact same h.2.symm
      ·simp only[Xa]at h;obtain⟨_,_,h⟩:=h;split at h
       ·simp only[Option.some.injEq,Prod.mk.injEq]at h;exact upd _ _ _ _ _ (iD hl) h.2.symm
       ·cases h
     ·cases h
    ·cases h
   ·simp only[Xa,W4,Prod.mk.injEq]at h;obtain⟨_,_,_,_,_,rfl⟩:=h;exact same rfl
   ·simp only[Xa,W4,Prod.mk.injEq]at h;obtain⟨_,_,_,_,_,rfl⟩:=h;exact same rfl
   ·cases h
  ·cases h
 |pick c a b =>
  simp only[aj]at h;split at h
  ·simp only[Option.some.injEq,Prod.mk.injEq]at h;exact same h.2.symm
  ·cases h
 |makeFunc fn f c =>
  simp only[aj]at h;split at h
  ·simp only[Option.some.injEq,Prod.mk.injEq]at h;exact same h.2.symm
  ·cases h
 |makeInterface t x =>
  simp only[aj]at h;split at h
  ·simp only[W4,Prod.mk.injEq]at h;obtain⟨_,_,_,rfl⟩:=h;exact same rfl
  ·cases h
 |slice t x lo hi mx =>
  simp only[aj]at h;split at h
  ·simp only[W4,Prod.mk.injEq]at h;obtain⟨_,_,_,rfl⟩:=h;exact same rfl
  ·cases h
 |fieldAddr s x f =>
  simp only[aj,Xa]at h;obtain⟨_,_,h⟩:=h;split at h
  ·simp only[W4,Prod.mk.injEq]at h;obtain⟨_,_,_,rfl⟩:=h;exact same rfl
  ·simp only[Option.some.injEq,Prod.mk.injEq]at h;exact same h.2.symm
  ·cases h
 |field s x f =>
  simp only[aj,Xa]at h;obtain⟨_,_,h⟩:=h;split at h
  ·simp only[W4,Prod.mk.injEq]at h;obtain⟨_,_,_,rfl⟩:=h;exact same rfl
  ·simp only[W4,Prod.mk.injEq]at h;obtain⟨_,_,_,rfl⟩:=h;exact same rfl
  ·cases h
 |indexAddr t x i =>
  simp only[aj]at h;split at h
  ·simp only[W4,Prod.mk.injEq]at h;obtain⟨_,_,_,rfl⟩:=h;exact same rfl
  ·cases h
 |move x=>simp only[aj,Option.some.injEq,Prod.mk.injEq]at h;exact same h.2.symm
 |assign x=>simp only[aj,Option.some.injEq,Prod.mk.injEq]at h;exact same h.2.symm
 |build t p=>simp only[aj,W4,Prod.mk.injEq]at h;obtain⟨_,_,_,rfl⟩:=h;exact same rfl
 |load t p=>simp only[aj,W4,Prod.mk.injEq]at h;obtain⟨_,_,_,rfl⟩:=h;exact same rfl
 |nilCheck p=>simp only[aj,W4,Prod.mk.injEq]at h;obtain⟨_,_,_,rfl⟩:=h;exact same rfl
 |binOp a b c d e=>simp only[aj,W4,Prod.mk.injEq]at h;obtain⟨_,_,_,rfl⟩:=h;exact same rfl
 |unOp a b c=>simp only[aj,W4,Prod.mk.injEq]at h;obtain⟨_,_,_,rfl⟩:=h;exact same rfl
 |convert a b c=>simp only[aj,W4,Prod.mk.injEq]at h;obtain⟨_,_,_,rfl⟩:=h;exact same rfl
 |index a b c=>simp only[aj,W4,Prod.mk.injEq]at h;obtain⟨_,_,_,rfl⟩:=h;exact same rfl
 |extract a b=>simp only[aj,W4,Prod.mk.injEq]at h;obtain⟨_,_,_,rfl⟩:=h;exact same rfl
 |_=>simp[aj]at h
end Go.Hx
namespace Go.Hx
variable {P:Program} {G:Nat->Option (List nnn)} {Γ Γ':aA} {H H':nnl} {w w':World}
variable {k:Bool}{n:Nat}{cx:Value}
def BX {cells:List nnn}(hx:nnc P Γ H w (.L n cells) cx):∃a m c,cx=.slice a m c/\(decide (0<n)=true->a.isNone=false):=by
 cases hx with
 |nu a cap=>exact⟨a,0,cap,rfl,fun hk=>by simp at hk⟩
 |L=>exact⟨_,_,_,rfl,fun _=>rfl⟩
def BY {id g o z:Nat}(h:(match H.na id g with|some _=>some (decide (0<n))|none=>none)=some k)(hx:nnc P Γ H w (.Z id g o n z) cx):∃a m c,cx=.slice a m c/\(k=true->a.isNone=false):=by
 split at h
 ·rename_i ec hl;simp only[Option.some.injEq]at h;rcases jf (e:=ec.1) (cells:=ec.2) hx hl with ⟨b,base,m,a,cap,_,rfl,_,_,_⟩|⟨_,_,rfl,rfl⟩
  ·exact⟨_,_,_,rfl,fun _=>rfl⟩
  ·refine⟨_,_,_,rfl,fun hk=>?_⟩;rw[<- h]at hk;simp at hk
 ·cases h
def JP {op:BinOp}{x y:nnn}{cy:Value}(h:iF H op x y=some k)(hx:nnc P Γ H w x cx)(hy:nnc P Γ H w y cy):
  (op=.eql\/op=.neq)/\cy=.slice none 0 0/\∃a n c,cx=.slice a n c/\(k=true->a.isNone=false):=by
 unfold iF at h;split at h
 ·cases hy;split at h
  ·simp only[Option.some.injEq]at h;rw[<- h];exact⟨.inl rfl,rfl,BX hx⟩
  ·exact⟨.inl rfl,rfl,BY h hx⟩
  ·cases h
 ·cases hy;split at h
  ·simp only[Option.some.injEq]at h;rw[<- h];exact⟨.inr rfl,rfl,BX hx⟩
  ·exact⟨.inr rfl,rfl,BY h hx⟩
  ·cases h
 ·cases h
def BZ {t:TypeId}(ht:lM (P.underlying t)=true)(a:Option Addr)(n c:Nat):(Op.equal t (.slice a n c) (.slice none 0 0)).run P w=.ok a.isNone w:=by
 unfold lM at ht;split at ht
 ·rename_i e he;show (Op.equalIn (9999+1) t (.slice a n c) (.slice none 0 0)).run P w=_;unfold Op.equalIn;rw[ao (cf he)];cases a<;>rfl
 ·cases ht
section
variable {n:Nat} {wb:nnA} {rd rb:Option Nat} {Q:AX->St->Prop}
def ye {o:Oper}{K:St->Prop}{s:St}{a:Act}{C:Act->World->Prop}{Q':Exit->Act->World->Prop}(hd:dM n o=true)(hs:nnr P G n wb Γ s a w)(hr:dp Γ s.H rd rb)(h:aV P G rd Q o K s)
  (hnext:∀ Γ' s' a' w',K s'->nnr P G n wb Γ' s' a' w'->Evo Γ s.H w Γ' s'.H w'->s.H.C<=s'.H.C->dp Γ' s'.H rd rb->(∃cv,a'=a.put o.dst cv)->C a' w')
  (hq:∀ Γ' s' a' w' chain,Q .panic s'->x8 chain->nnr P G n wb Γ' s' a' w'->Evo Γ s.H w Γ' s'.H w'->s.H.C<=s'.H.C->dp Γ' s'.H rd rb->a'=a->Q' (.panic chain) a' w'):
  o.wpIn (da rb) 0 P a w C Q':=by
 have hdst:∀d,o.dst=some d->d<n:=by
  intro d hd';unfold dM at hd;rw[hd']at hd;simpa using hd
 have plain:∀vH:nnn × nnl,aj P G s.ρ s.H s.H.C o.op=some vH->K ⟨aF s.ρ o.dst vH.1,vH.2⟩->o.wpIn (da rb) 0 P a w C Q':=by
  rintro⟨v,H'⟩ hop hk;refine⟨fun _ _=>trivial,?_⟩;rw[Oper.semAt_eq _ _ _ (fun c hc=>by rw[hc]at hop;simp[aj]at hop)];obtain⟨nx,cv,Γ',w',hrun,hnx,E,hn,R,hv⟩:=x7 hs.heap (ik hs) hop;rw[hrun];have hri:=yb hr (yd hs.heap hop);have hs':=gM hs hdst E hn R hv;have hr':=hr.aU E hn hs.heap hri;rcases hnx with rfl|⟨rfl,rfl⟩
  ·exact hnext Γ' _ _ w' hk hs' E hn hr' ⟨_,rfl⟩
  ·exact hnext Γ' _ _ w' hk hs' E hn hr' ⟨_,rfl⟩
 unfold aV at h;split at h
 ·rename_i fv args ats hop;refine⟨fun _ _=>trivial,?_⟩;rw[Oper.semAt_eq _ _ _ (fun c hc=>by rw[hc]at hop;cases hop)];obtain⟨d,h1,h2⟩:=h Γ w (a.eval fv) (args.map a.eval) hs.heap (ik hs fv) ⟨aaw,fun i h1 h2=>by simp only[Xi,Zb,Ya];exact ik hs _⟩;have hex:(execOp a.eval o).run P w=(invoke d.target d.args).run P w:=by
   unfold execOp;simp only[hop];unfold resolve;simp only;rw[ao h1]
  have cont:∀e w',eG P G Γ s.H w (fun r H'=>eS H' rd/\match r with
    |.ret v=>K ⟨aF s.ρ o.dst v,H'⟩
    |.panic=>Q .panic ⟨s.ρ,H'⟩) e w'->(match e with
     |.returned v=>C (a.put o.dst v) w'
     |.panicked chain=>Q' (.panic chain) a w'
     |.outgrown=>LetsOut Q'):=by
   rintro e w' ⟨r,H',Γ',hend,⟨hri,hk⟩,R,E,hn⟩;have hr':=hr.aU E hn hs.heap hri;cases e with
   |returned cv =>
    cases r with
    |ret v=>exact hnext Γ' _ _ w' hk (gM hs hdst E hn R hend) E hn hr' ⟨_,rfl⟩
    |panic=>exact hend.elim
   |panicked chain =>
    cases r with
    |ret v=>exact hend.elim
    |panic =>
     exact hq Γ' ⟨s.ρ,H'⟩ a w' chain hk hend ⟨hs.size,fun t=>(hs.env t).aU E hn,R,hs.defers.aU E,XN hs.low E.size⟩ E hn hr' rfl
   |outgrown=>cases r<;>exact hend.elim
  rw[hex];rcases h2 with ⟨f,as,h3,h4⟩|⟨l,f,tm,asg,body,h3,h4⟩|⟨cv,w',h3,h4⟩
  ·rw[h3];refine⟨fun hc=>by simp[Fence.wide]at hc,?_⟩;have h4':CallsIn (da rb) 0 P f as w _:=h4;refine h4'.mono ?_;intro e w' hp;have:=cont e w' hp;cases e<;>exact this
  ·rw[h3];refine⟨fun hc=>by simp[Fence.wide]at hc,?_⟩;have h4':RoundIn (da rb) 0 P l f tm asg body w _:=h4;refine h4'.mono ?_;intro e w' hp;have:=cont e w' hp;cases e<;>exact this
  ·rw[h3];exact cont (.returned cv) w' h4
 ·rename_i x hop;obtain⟨⟨t,v,hx⟩,hk⟩:=h;refine⟨fun _ _=>trivial,?_⟩;rw[Oper.semAt_eq _ _ _ (fun c hc=>by rw[hc]at hop;cases hop)];have he:=ik hs x;rw[hx]at he;have hev:a.eval x=.iface t v:=by
   generalize a.eval x=y at he;cases he;rfl
  have hex:(execOp a.eval o).run P w=.halt (.panic (.iface t v)) w:=by
   unfold execOp;simp only[hop,hev];rfl
  rw[hex];exact hq Γ s a w _ hk ⟨t,v,rfl⟩ hs (Evo.refl _ _ _) aaz hr rfl
 ·rename_i op t x y u hop;unfold rS at h;split at h
  ·rename_i k hk;obtain⟨ht,hall⟩:=h;obtain⟨hor,hcy,sa,sn,sc,hcx,hsome⟩:=JP hk (ik hs x) (ik hs y);refine⟨fun _ _=>trivial,?_⟩;rw[Oper.semAt_eq _ _ _ (fun c hc=>by rw[hc]at hop;cases hop)];have hex:(execOp a.eval o).run P w=.ok (.value (.bool (if op == .neq then !sa.isNone else sa.isNone))) w:=by
    unfold execOp;simp only[hop,hcx,hcy];rcases hor with rfl|rfl
    ·have h1:(eqGuard .eql t x y (.slice sa sn sc) (.slice none 0 0)).run P w=.ok () w:=rfl;have h2:(binOp .eql t (.slice sa sn sc) (.slice none 0 0)).run P w=.ok (.bool sa.isNone) w:=by
      show ((Op.equal t (.slice sa sn sc) (.slice none 0 0)) >>= fun b=>pure (Value.bool b)).run P w=_;rw[ao (BZ ht sa sn sc)];rfl
     have h3:(do eqGuard .eql t x y (.slice sa sn sc) (.slice none 0 0);binOp .eql t (.slice sa sn sc) (.slice none 0 0)).run P w=.ok (.bool sa.isNone) w:=(by rw[ao h1];exact h2);rw[ao h3];rfl
    ·have h1:(eqGuard .neq t x y (.slice sa sn sc) (.slice none 0 0)).run P w=.ok () w:=rfl;have h2:(binOp .neq t (.slice sa sn sc) (.slice none 0 0)).run P w=.ok (.bool (!sa.isNone)) w:=by
      show ((Op.equal t (.slice sa sn sc) (.slice none 0 0)) >>= fun b=>pure (Value.bool !b)).run P w=_;rw[ao (BZ ht sa sn sc)];rfl
     have h3:(do eqGuard .neq t x y (.slice sa sn sc) (.slice none 0 0);binOp .neq t (.slice sa sn sc) (.slice none 0 0)).run P w=.ok (.bool (!sa.isNone)) w:=(by rw[ao h1];exact h2);rw[ao h3];rfl
   rw[hex];exact hnext Γ _ _ w (hall sa.isNone hsome) (gM hs hdst (Evo.refl _ _ _) aaz hs.heap (.lit _)) (Evo.refl _ _ _) aaz hr ⟨_,rfl⟩
  ·obtain⟨vH,hop',hk⟩:=h;exact plain vH (by rw[hop];exact hop') hk
 ·obtain⟨vH,hop,hk⟩:=h;exact plain vH hop hk
def mw {a:Act}{all:Array Oper}{i:Nat}(hi:i<all.size)(cv:Value):Fr (fun t=>all.toList.any fun o=>o.dst == some t) a (a.put all[i].dst cv):=by
 intro t ht;simp only[List.any_eq_false]at ht;have:=ht all[i] aaw;cases hd:all[i].dst with
 |none=>rfl
 |some d =>
  simp only[Act.put];rw[XZ,W7];intro hdt;rw[hd,hdt]at this;simp at this
def JQ {id:Nat}{dr:Bool}{all:Array Oper}(hfit:∀o,o∈all.toList->dM n o=true):∀(is:List Nat) (s:St) (Γ:aA) (a:Act) (w:World),(∀i,i∈is->i<all.size) ->
  opsV P G rd Q all (is.filterMap fun i=>all[i]?) s->nnr P G n wb Γ s a w->dp Γ s.H rd rb ->
  ∀(Q':Exit->Act->World->Prop),(∀e a' w',fN P G n wb rd rb (wr (.region id all dr)) Γ s.H a w Q e a' w'->Q' e a' w')->wpOpsIn (da rb) 0 P all Q' is a w:=by
 intro is
 induction is with
 |nil =>
  intro s Γ a w _ h hs hr Q' hq;exact hq _ _ _ (.here (x:=.normal) trivial h hs hr)
 |cons i is ih =>
  intro s Γ a w hi h hs hr Q' hq;have hlt:=hi i aaw;have ho:all[i]?=some all[i]:=Xk hlt;simp only[ZP,ho]at h;unfold wpOpsIn;rw[ho];simp only;obtain⟨t,ht,h⟩:=h;rw[nW hs ht];have hd:=hfit all[i] aaw;cases t with
  |true =>
   simp only[if_true]at h ⊢;refine ye hd hs hr h ?_ ?_
   ·rintro Γ' s' a' w' hk hs' E hn hr' ⟨cv,rfl⟩;exact ih s' Γ' _ w' (fun j hj=>hi j (by simp[hj])) hk hs' hr' Q' fun e a'' w'' hp=>hq _ _ _ (hp.step E hn (mw hlt cv) fun _ h=>h)
   ·rintro Γ' s' a' w' chain hp hc hs' E hn hr' rfl;exact hq _ _ _ ⟨.panic,s',Γ',hc,hp,hs',E,hn,hr',.refl _ _⟩
  |false =>
   simp only[Bool.false_eq_true,if_false]at h ⊢;refine⟨fun _ _=>trivial,?_⟩;have hdst:∀d,all[i].dst=some d->d<n:=by
    intro d hd';unfold dM at hd;rw[hd']at hd;simpa using hd
   have hs':=gM (v:=.lit undef) (cv:=undef) hs hdst (Evo.refl Γ s.H w) aaz hs.heap (.lit _);exact ih ⟨aF s.ρ all[i].dst (.lit undef),s.H⟩ Γ _ w (fun j hj=>hi j (by simp[hj])) h hs' hr Q' fun e a'' w'' hp=>hq _ _ _ (hp.step (Evo.refl _ _ _) aaz (mw hlt _) fun _ h=>h)
def B0 {α:Type}(l:List α):(List.range l.length).filterMap (fun i=>l[i]?)=l:=by
 induction l with
 |nil=>rfl
 |cons x xs ih =>
  rw[List.length_cons,List.range_succ_eq_map,ZP];simp only[List.getElem?_cons_zero];rw[List.filterMap_map];congr 1
theorem W.region {id:Nat}{ops:Array Oper}{s:St}(hfit:ops.toList.all (dM n)=true)(h:opsV P G rd Q ops ops.toList s):W P G n rd (.region id ops false) Q s:=by
 intro wb Γ a w rb hs hr;refine wpIn_region (JQ (id:=id) (dr:=false) (fun o ho=>XK.1 hfit o ho) _ s Γ a w (fun i hi=>XJ.1 hi) ?_ hs hr _ fun _ _ _ hp=>hp);have:(List.range ops.size).filterMap (fun i=>ops[i]?)=ops.toList:=by
  have:=B0 ops.toList;simpa using this
 rw[this];exact h
def rT {b:Frame}{a:Act}{k:List Item}{cs:List Frame}{c:Code}:
  step P (lone (b.atR a (.code (.scope c) :: k)) cs w)=.next (lone (b.atR a (.code c :: .inScope c :: k)) cs w) :=
 step_lone_go (by simp[stepG,stepG.exec,Frame.atR])
def JR {b:Frame}{a:Act}{k:List Item}{cs:List Frame}{c:Code}:
  step P (lone (b.atR a (.inScope c :: k)) cs w)=.next (lone (b.atR a k) cs w) :=
 step_lone_go (by simp[stepG,stepG.exec,Frame.atR])
def noGoto (Q:AX->St->Prop):AX->St->Prop
 |.goto _,_=>False
 |x,s=>Q x s
theorem W.scope {c:Code}{s:St}(h:W P G n rd c (noGoto Q) s):W P G n rd (.scope c) Q s:=by
 intro wb Γ a w rb hs hr b k cs hro hb hrm;have h0:(lone (b.atR a (.code (.scope c) :: k)) cs w).fenced P (da rb):=fenced_calm hb hrm rfl;obtain⟨e,a',w',hp,harr⟩:=h wb Γ a w rb hs hr b (.inScope c :: k) cs hro hb hrm;obtain⟨x,s',Γ',hx,hq,hrest⟩:=hp;cases e with
 |normal =>
  cases x with
  |normal=>exact⟨.normal,a',w',⟨.normal,s',Γ',hx,hq,hrest⟩,.head h0 rT (StepsIn.trans harr (.one (fenced_calm hb hrm rfl) JR))⟩
  |_=>exact hx.elim
 |exit i =>
  cases x with
  |exit j =>
   have hk:exitTo i (.inScope c :: k)=exitTo i k:=(by simp[exitTo]);exact⟨.exit i,a',w',⟨.exit j,s',Γ',hx,hq,hrest⟩,fun k' hk'=>.head h0 rT (harr.1 k' (by rw[hk];exact hk')),
    fun hr' hk'=>let ⟨k₁,h1,h2⟩:=harr.2 hr' (by rw[hk];exact hk');⟨k₁,h1,.head h0 rT h2⟩⟩
  |_=>exact hx.elim
 |goto i=>cases x with
  |goto j=>exact hq.elim
  |_=>exact hx.elim
 |ret=>cases x with
  |ret=>exact⟨.ret,a',w',⟨.ret,s',Γ',hx,hq,hrest⟩,.of_steps (.one h0 rT) harr⟩
  |_=>exact hx.elim
 |panic ch=>cases x with
  |panic=>exact⟨.panic ch,a',w',⟨.panic,s',Γ',hx,hq,hrest⟩,.of_steps (.one h0 rT) harr⟩
  |_=>exact hx.elim
 |outgrown=>cases x<;>exact hx.elim
end
def gO (t:Bool)(p q:Prop)(_d:TagP p q:=.mk):Prop:=(t=true->p)/\(t=false->q)
def vc (P:Program)(G:Nat->Option (List nnn))(n:Nat)(rd:Option Nat):Code->(AX->St->Prop)->St->Prop
 |.skip,Q,s=>Q .normal s
 |.label _,Q,s=>Q .normal s
 |.region _ ops false,Q,s=>opsV P G rd Q ops ops.toList s
 |.region id ops true,Q,s=>W P G n rd (.region id ops true) Q s
 |.seq a b,Q,s=>vc P G n rd a (iE (vc P G n rd b Q) Q) s
 |.cond c a b,Q,s=>bd (match ak G s.ρ c with|.lit (.bool t)=>some t|_=>none) fun t=>gO t (vc P G n rd a Q s) (vc P G n rd b Q s)
 |.block id c,Q,s=>vc P G n rd c (lK id Q) s
 |.loop c,Q,s=>W P G n rd (.loop c) Q s
 |.rangeFunc f ps asg body,Q,s=>W P G n rd (.rangeFunc f ps asg body) Q s
 |.exit id,Q,s=>Q (.exit id) s
 |.scope c,Q,s=>vc P G n rd c (noGoto Q) s
 |.goto l,Q,s=>Q (.goto l) s
 |.ret,Q,s=>Q .ret s
 |.refuse _,_,_=>False
def fits (n:Nat):Code->Bool
 |.region _ ops _=>ops.toList.all (dM n)
 |.seq a b|.cond _ a b|.rangeFunc _ _ a b=>fits n a && fits n b
 |.block _ c|.loop c|.scope c=>fits n c
 |_=>true
def nX {n:Nat}{rd:Option Nat}:∀(c:Code) (Q:AX->St->Prop) (s:St),fits n c=true->vc P G n rd c Q s->W P G n rd c Q s:=by
 intro c
 induction c with
 |skip=>exact fun Q s _ h=>.skip h
 |label l=>exact fun Q s _ h=>.label h
 |region id ops d =>
  intro Q s hf h;cases d with
  |false=>exact .region hf h
  |true=>exact h
 |seq a b iha ihb =>
  intro Q s hf h;simp only[fits,Xv]at hf;refine W.seq ((iha _ s hf.1 h).mono fun x s' hx=>?_);cases x with
  |normal=>exact ihb Q s' hf.2 hx
  |_=>exact hx
 |cond c a b iha ihb =>
  intro Q s hf h;simp only[fits,Xv]at hf;obtain⟨t,ht,h1,h2⟩:=h;split at ht
  ·rename_i t' hc;simp only[Option.some.injEq]at ht;subst ht;refine W.cond hc ?_;cases t' with
   |true=>exact iha Q s hf.1 (h1 rfl)
   |false=>exact ihb Q s hf.2 (h2 rfl)
  ·cases ht
 |block id c ih=>exact fun Q s hf h=>.block (ih _ s hf h)
 |loop c _=>exact fun Q s _ h=>h
 |rangeFunc=>exact fun Q s _ h=>h
 |exit id=>exact fun Q s _ h=>.exit h
 |scope c ih=>exact fun Q s hf h=>.scope (ih _ s hf h)
 |goto l=>exact fun Q s _ h=>.goto h
 |ret=>exact fun Q s _ h=>.ret h
 |refuse why=>exact fun Q s _ h=>h.elim
def W.vs {n:Nat}{rd:Option Nat}{c:Code}{Q:AX -> St -> Prop}{s:St}(h:vc P G n rd c Q s)(hf:fits n c=true := by rfl):W P G n rd c Q s := nX c Q s hf h
def W.sq {n:Nat}{rd:Option Nat}{x y:Code}{Q:AX -> St -> Prop}{s:St}(h:vc P G n rd x (iE (W P G n rd y Q) Q) s)(hf:fits n x=true := by rfl):W P G n rd (.seq x y) Q s := W.seq (nX x _ s hf h)
end Go.Hx
namespace Go.Hx
variable {P:Program} {G:Nat->Option (List nnn)} {Γ Γ':aA} {H H':nnl} {w w':World}
variable {tmps:Array Value}{c:Code}{ρ:Env}{fn:Func}{f:FuncId}{rs:List ResultVar}{args:List nnn}{n r:Nat}{o:Obj}{x:Option (List Deferred)}{w₀:World}{Γ₀:aA}{K:nnf → nnl → Prop}{H₀:nnl}{v:nnn}
def B1 (hr:w.heap[r]?=some (.deferred x))(o:Obj)(ho:∀c e f,o≠.cells c e f)(b i:Nat):(bx w r o).cell? ⟨b,i,none⟩=w.cell? ⟨b,i,none⟩:=by
 simp only[World.cell?,dL];by_cases h:b=r/\r<w.heap.size
 ·rw[W8 h,h.1,hr];cases o<;>first|rfl|exact absurd rfl (ho _ _ _)
 ·rw[W7 h]
def nnc.closed {cv:Value}(hr:w.heap[r]?=some (.deferred x))(ho:∀c e f,o≠.cells c e f)(h:nnc P Γ H w v cv):nnc P Γ H (bx w r o) v cv:=by
 induction h with
 |lit v=>exact .lit v
 |nu a cap=>exact .nu a cap
 |L hb hlt hlen hcs hcell hrel ih=>exact .L hb (by rw[ja];exact hlt) hlen hcs (fun i hi=>(B1 hr o ho _ _).trans (hcell i hi)) ih
 |Z h=>exact .Z h
 |Y h=>exact .Y h
 |ni hb hlt hcs hcell hrel ih=>exact .ni hb (by rw[ja];exact hlt) hcs (fun i hi=>(B1 hr o ho _ _).trans (hcell i hi)) ih
 |agg hcs hrel ih=>exact .agg hcs ih
 |nc hcs hrel ih=>exact .nc hcs ih
 |nb hfs hcs hf hc ih1 ih2=>exact .nb hfs hcs ih1 ih2
 |nk h=>exact .nk h
theorem nng.closed (R:nng P G Γ H w)(hr:w.heap[r]?=some (.deferred x))(hown:¬ Γ.dD r)(ho:∀c e f,o≠.cells c e f):nng P G Γ H (bx w r o) where
 O id g e cells hg:=by
  have h1:=R.O id g e cells hg;cases hΓ:Γ id with
  |none=>rw[hΓ]at h1;exact h1
  |some y =>
   obtain⟨b,base,n⟩:=y;rw[hΓ]at h1;obtain⟨c,a1,a2,a3,a4⟩:=h1;refine⟨c,?_,a2,a3,fun i hi=>let ⟨cv,b1,b2⟩:=a4 i hi;⟨cv,b1,b2.closed hr ho⟩⟩;rw[dL,W7]
   ·exact a1
   ·rintro⟨rfl,_⟩;exact hown ⟨id,base,n,hΓ⟩
 loop id st pend n env ps asg body hg:=by
  obtain⟨b,rr,a1,a2,a3,a4,a5,a6,a7,a8,a9⟩:=R.loop id st pend n env ps asg body hg;refine⟨b,rr,a1,?_,a3,a4,a5,a6,a7,a8,fun t ht=>(a9 t ht).closed hr ho⟩;rw[dL,W7]
  ·exact a2
  ·rintro⟨rfl,_⟩;exact hown ⟨id,0,0,a1⟩
 mp id es hg:=by
  obtain⟨b,a1,a2⟩:=R.mp id es hg;refine⟨b,a1,?_⟩;rw[dL,W7]
  ·exact a2
  ·rintro⟨rfl,_⟩;exact hown ⟨id,0,0,a1⟩
 nj:=R.nj
 inj:=R.inj
 nB:=R.nB
 lt id b base n h:=by rw[ja];exact R.lt id b base n h
 C:=R.C
 nz g cells h:=(R.nz g cells h).closed hr ho
 nN g cells h:=by
  obtain⟨c,e,f,h1,h2⟩:=R.nN g cells h;refine⟨c,e,f,?_,h2⟩;rw[dL,W7]
  ·exact h1
  ·rintro⟨rfl,_⟩;rw[hr]at h1;cases h1
def Evo.closed (E:Evo Γ₀ H₀ w₀ Γ H w)(hx:w.heap[r]?=some (.deferred x))(hr:w₀.heap.size<=r)(o:Obj)(ho:∀c e f,o≠.cells c e f):Evo Γ₀ H₀ w₀ Γ H (bx w r o) where
 os:=E.os
 tape:=E.tape
 output:=E.output
 size:=by rw[ja];exact E.size
 nf b hb ho:=by
  obtain⟨h1,h2⟩:=E.nf b hb ho;refine⟨?_,h2⟩;rw[dL,W7 U];exact h1
 na:=E.na
 nq a ha:=(rB hx (fun _ _ _ h=>by cases h) (fun c e f h=>absurd h (ho c e f)) a).trans (E.nq a ha)
 kind:=E.kind.trans (xu hx fun _ _ _ h=>by cases h)
 nL:=E.nL
def JS {R:Ending->World->Prop}{u:FrameMode}(hu:u≠.run):∀(ds:List Deferred) (w:World),
  (∀d,d∈ds->∃r,d={ target:=.collected r,args:=#[] }/\w₀.heap.size<=r/\pD Γ w r)->ds.Pairwise (fun d e=>d.target≠e.target) ->
  nng P G Γ H w->(∀t,nnc P Γ H w (ρ t) (tmps.getD t undef))->Evo Γ₀ H₀ w₀ Γ H w ->
  (∀w',nng P G Γ H w'->(∀t,nnc P Γ H w' (ρ t) (tmps.getD t undef))->Evo Γ₀ H₀ w₀ Γ H w'->LeavesIn Fence.wide 0 P fn tmps R [] u w') ->
  LeavesInM Fence.wide 0 P fn tmps R ds u w:=by
 intro ds
 induction ds with
 |nil=>intro w _ _ R0 he E h;exact h w R0 he E
 |cons d ds ih =>
  intro w hd hp R0 he E h;obtain⟨r,rfl,hle,hown,hblk⟩:=hd d aaw;have ho:∀c e f,Obj.deferred none≠.cells c e f:=fun _ _ _ h=>by cases h
  refine⟨hu,.inl ⟨r,bx w r (.deferred none),rfl,?_,?_⟩⟩
  ·unfold Instr.takeDeferred;have hg:(getObj r).run P w=.ok (.deferred (some [])) w:=(by simp[getObj,Sem.run,hblk]);rw[ao hg];simp only;have hset:(setObj r (.deferred none)).run P w=.ok () (bx w r (.deferred none)):=(by simp[setObj,Sem.run,hblk,bx]);rw[ao hset];rfl
  ·refine ih _ (fun e he'=>?_) (Y5.1 hp).2 (R0.closed hblk hown ho) (fun t=>(he t).closed hblk ho) (E.closed hblk hle _ ho) h;obtain⟨r',rfl,hle',hown',hblk'⟩:=hd e (by simp[he']);refine⟨r',rfl,hle',hown',?_⟩;rw[dL,W7]
   ·exact hblk'
   ·rintro⟨rfl,_⟩;exact(Y5.1 hp).1 _ he' rfl
def JT {t:TypeId}{a:nnn}{ca:Value}(R:nng P G Γ H w)(h:fk P H t a=some v)(ha:nnc P Γ H w a ca):
  ∃ad cv,ca=.pointer (some ad)/\(loadVar t ad).run P w=.ok cv w/\nnc P Γ H w v cv:=by
 have h0:=h;unfold fk at h;split at h
 ·rename_i id gen off;split at h
  ·rename_i g e cells hg;split at h
   ·rename_i hgg;have hl:H.na id gen=some (e,cells):=(by simp[nnl.na,hg,hgg]);obtain⟨b,base,n,hΓ,rfl⟩:=pP ha hl;obtain⟨cv,h1,h2⟩:=tQ h (rG R hl hΓ);exact⟨_,cv,rfl,h1,h2⟩
   ·cases h
  ·cases h
 ·rename_i cells off;cases ha with
  |ni hb hlt hcs hcell hrel =>
   obtain⟨cv,h1,h2⟩:=tQ h ⟨_,hcs,hcell,hrel⟩;exact⟨_,cv,rfl,h1,h2⟩
 ·cases h
def dR (P:Program)(H:nnl)(ρ:Env):List ResultVar->Option (List nnn)
 | []=>some []
 |.tmp t :: r=>(dR P H ρ r).map (ρ t :: ·)
 |.cell a t :: r=>(fk P H t (ρ a)).bind fun v=>(dR P H ρ r).map (v :: ·)
def fO:List nnn->nnn
 | [v]=>v
 |vs=>.nc vs
def pV (tmps:Array Value):ResultVar->Sem Value
 |.tmp t=>pure (tmps.getD t undef)
 |.cell a t=>do loadVar t (<- asAddr (tmps.getD a undef))
def JU (R:nng P G Γ H w)(he:∀t,nnc P Γ H w (ρ t) (tmps.getD t undef)):∀(rs:List ResultVar) (vs:List nnn),dR P H ρ rs=some vs ->
  ∃cs:List Value,(rs.mapM (pV tmps)).run P w=.ok cs w/\cs.length=vs.length/\∀i (_:i<vs.length) (_:i<cs.length),nnc P Γ H w vs[i] cs[i]:=by
 intro rs
 induction rs with
 |nil =>
  intro vs h;simp only[dR,Option.some.injEq]at h;subst h;exact⟨[],rfl,rfl,fun i h _=>absurd h (Xo _)⟩
 |cons rv rs ih =>
  intro vs h;have cons:∀(v:nnn) (cv:Value) (vs':List nnn),(pV tmps rv).run P w=.ok cv w->nnc P Γ H w v cv->dR P H ρ rs=some vs'->∃cs:List Value,((rv :: rs).mapM (pV tmps)).run P w=.ok cs w /\
    cs.length=(v :: vs').length/\∀i (_:i<(v :: vs').length) (_:i<cs.length),nnc P Γ H w (v :: vs')[i] cs[i]:=by
   intro v cv vs' hm hv hr;obtain⟨cs,h1,h2,h3⟩:=ih vs' hr;refine⟨cv :: cs,?_,by simp[h2],fun i a b=>?_⟩
   ·rw[List.mapM_cons,ao hm,ao h1];rfl
   ·cases i with
    |zero=>exact hv
    |succ i=>exact h3 i (by simpa using a) (by simpa using b)
  cases rv with
  |tmp t =>
   simp only[dR,W4]at h;obtain⟨vs',h1,rfl⟩:=h;exact cons (ρ t) _ vs' rfl (he t) h1
  |cell a t =>
   simp only[dR,Xa,W4]at h;obtain⟨v,hv,vs',h1,rfl⟩:=h;obtain⟨ad,cv,ha,hl,hr⟩:=JT R hv (he a);refine cons v cv vs' ?_ hr h1;simp only[pV,ha];have:(asAddr (.pointer (some ad))).run P w=.ok ad w:=rfl;rw[ao this];exact hl
def JV (fn:Func)(tmps:Array Value):results fn tmps=(do let vs <- fn.results.mapM (pV tmps);pure (if h:vs.size=1 then vs[0] else .tuple vs)):=by
 unfold results;congr 1
def yj {vs:List nnn}(R:nng P G Γ H w)(he:∀t,nnc P Γ H w (ρ t) (tmps.getD t undef))(h:dR P H ρ fn.results.toList=some vs):
  ∃cv,(results fn tmps).run P w=.ok cv w/\nnc P Γ H w (fO vs) cv:=by
 obtain⟨cs,h1,h2,h3⟩:=JU R he _ _ h;have hm:(fn.results.mapM (pV tmps)).run P w=.ok cs.toArray w:=by
  rw[ZD,Sem.run_map,h1];rfl
 rw[JV,ao hm]
 match vs,cs,h2,h3 with
 | [v],[c],_,h3=>exact⟨c,rfl,h3 0 aaw aaw⟩
 | [],[],_,h3=>exact⟨_,rfl,.nc (cs:=[]) rfl h3⟩
 |v :: v' :: vs,c :: c' :: cs,h2,h3 =>
  refine⟨.tuple (c :: c' :: cs).toArray,?_,.nc h2 h3⟩;have hne:¬(c :: c' :: cs).toArray.size=1:=aaw
  rw[dif_neg hne];rfl
def jK (P:Program)(G:Nat->Option (List nnn))(H:nnl)(v:nnn)(H':nnl)(v':nnn):Prop :=
 ∀ Γ w,nng P G Γ H w->∃ Γ',nng P G Γ' H' w/\Evo Γ H w Γ' H' w/\∀cv,nnc P Γ H w v cv->nnc P Γ' H' w v' cv
def ar (P:Program)(G:Nat->Option (List nnn))(H₀:nnl)(K:nnf->nnl->Prop)(v:nnn)(H:nnl):Prop :=
 ∃v' H',jK P G H v H' v'/\H₀.C<=H'.C/\K (.ret v') H'
theorem jK.refl (H:nnl)(v:nnn):jK P G H v H v:=fun Γ _ R=>⟨Γ,R,Evo.refl _ _ _,fun _ h=>h⟩
def ar.mk {K:nnf->nnl->Prop}{H:nnl}(hn:H₀.C<=H.C)(hk:K (.ret v) H):ar P G H₀ K v H:=⟨v,H,jK.refl H v,hn,hk⟩
def nY (P:Program)(G:Nat->Option (List nnn))(rs:List ResultVar)(H₀:nnl)(K:nnf->nnl->Prop):AX->St->Prop
 |.normal,s|.ret,s=>bd (dR P s.H s.ρ rs) fun vs=>ar P G H₀ K (fO vs) s.H
 |.panic,s=>∃H',jK P G s.H (.lit undef) H' (.lit undef)/\H₀.C<=H'.C/\K .panic H'
 |_,_=>False
def cR (args:List nnn):Env:=fun t=>(args[t]?).getD (.lit undef)
def af.yk        (hf : P.funcs[f]? = some fn) (hb : fn.body = some c) (hres : fn.results.toList = rs) (hnt : fn.ntmps = n) (hname : (fn.name == "runtime.NumGoroutine") = false)
  (hargs:args.length<=n) (hW:W P G n none c (nY P G rs H K) ⟨cR args,H⟩):af P G f args H K:=by
 subst hres;subst hnt;refine⟨⟨fn,hf,by rw[hb];rfl,hname⟩,fun Γ w cargs R hr=>?_⟩;refine callsIn_of_wp_marks hf hb trivial ?_;have hs:nnr P G fn.ntmps ⟨w.heap.size,[]⟩ Γ ⟨cR args,H⟩ { tmps:=cargs++Array.replicate (fn.ntmps-cargs.size) undef,defers:=[] } w:=by
  refine⟨by have:=hr.1;simp;omega,fun t=>?_,R,⟨[],rfl,Marks.nil⟩,aaz⟩;have hsz:=hr.1;by_cases ht:t<args.length
  ·have h1:(cargs++Array.replicate (fn.ntmps-cargs.size) undef).getD t undef=cargs[t]' U:=by
    simp only[XM];rw[Zy U,Xk U];rfl
   have h2:cR args t=args[t]:=by
    unfold cR;rw[W5 ht];rfl
   rw[h1];show nnc P Γ H w (cR args t) _;rw[h2];exact hr.2 t ht (U)
  ·have h1:(cargs++Array.replicate (fn.ntmps-cargs.size) undef).getD t undef=undef:=by
    simp only[XM];rw[aad U,Y0];split<;>rfl
   have h2:cR args t=.lit undef:=by
    unfold cR;rw[Xf U];rfl
   rw[h1];show nnc P Γ H w (cR args t) _;rw[h2];exact .lit _
 refine wpIn_mono (hW ⟨w.heap.size,[]⟩ Γ _ w none hs rfl) ?_;rintro e a' w' ⟨x,s',Γ',hx,hq,hs',E,hn,_,_⟩;have leave:∀(u:FrameMode) (Q:World->Prop),u≠.run->(∀w'',nng P G Γ' s'.H w''->(∀t,nnc P Γ' s'.H w'' (s'.ρ t) (a'.tmps.getD t undef))->Evo Γ H w Γ' s'.H w''->LeavesIn Fence.wide 0 P fn a'.tmps (eG P G Γ H w K) [] u w'') ->
   LeavesInM Fence.wide 0 P fn a'.tmps (eG P G Γ H w K) a'.defers u w' :=
  fun u _ hu hfin=>by
   obtain⟨m,hm,hmarks⟩:=hs'.defers;rw[hm,List.append_nil];exact JS hu m w' hmarks.1 hmarks.2 hs'.heap hs'.env E hfin
 have normal:bd (dR P s'.H s'.ρ fn.results.toList) (fun vs=>ar P G H K (fO vs) s'.H)->LeavesInM Fence.wide 0 P fn a'.tmps (eG P G Γ H w K) a'.defers .returning w':=by
  rintro⟨vs,hvs,v',H',hw,hn',hk⟩;refine leave .returning (fun _=>True) aaw fun w'' R'' he'' E''=>?_;obtain⟨cv,h1,h2⟩:=yj R'' he'' hvs;obtain⟨Γ'',R3,E3,hv3⟩:=hw Γ' w'' R'';exact⟨cv,h1,.ret v',H',Γ'',hv3 cv h2,hk,R3,E''.trans hn E3,hn'⟩
 cases e with
 |normal=>cases x with
  |normal=>exact normal hq
  |_=>exact hx.elim
 |ret=>cases x with
  |ret=>exact normal hq
  |_=>exact hx.elim
 |panic chain=>cases x with
  |panic =>
   obtain⟨H',hw,hn',hk⟩:=hq;refine leave (.panicking chain) (fun _=>True) aaw fun w'' R'' he'' E''=>?_;obtain⟨Γ'',R3,E3,_⟩:=hw Γ' w'' R'';exact⟨.panic,H',Γ'',hx,hk,R3,E''.trans hn E3,hn'⟩
  |_=>exact hx.elim
 |exit i=>cases x with
  |exit j=>exact hq.elim
  |_=>exact hx.elim
 |goto i=>cases x with
  |goto j=>exact hq.elim
  |_=>exact hx.elim
 |outgrown=>cases x<;>exact hx.elim
def af.JW        (hf : P.funcs[f]? = some fn) (hb : fn.body = some c) (hres : fn.results.toList = rs) (hnt : fn.ntmps = n) (hname : (fn.name == "runtime.NumGoroutine") = false)
  (hfit:fits n c=true) (hargs:args.length<=n) (h:vc P G n none c (nY P G rs H K) ⟨cR args,H⟩):af P G f args H K :=
 .yk hf hb hres hnt hname hargs (nX c _ _ hfit h)
end Go.Hx
