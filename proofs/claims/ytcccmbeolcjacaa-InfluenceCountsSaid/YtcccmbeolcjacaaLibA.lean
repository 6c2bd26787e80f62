/-
  Abstract values, abstract heaps, and how they stand to the model's values and worlds. Own work: no program stands in this text.
-/
import Derived.RangeFuncLeaves
import Derived.KernelRfl
import Derived.Wp
import Derived.Laws.Cells
import Derived.Laws.Entries
import Derived.IntWalk
import Derived.Laws.BytesString
set_option linter.all false
namespace Go
theorem U {P:Prop}(h:P:=by omega):P:=h
theorem Tu {P:Prop}(h:P:=by simp):P:=h
theorem Tv {P:Prop}(h:P:=by decide):P:=h
theorem Tw {P:Prop}(h:P:=by kernel_rfl):P:=h
theorem Tx {n:Nat}:n<=n:=Nat.le_refl n
def an:=@List.mem_of_getElem?
def PU:=@Option.map_eq_some_iff
def PV:=@List.getElem?_eq_getElem
def PW:=@Go.IntWalk.i64_in
def PX:=@if_neg
def PY:=@List.take_of_length_le
def PZ:=@if_pos
def P0:=@Option.bind_eq_some_iff
def P1:=@List.eq_nil_of_length_eq_zero
def P2:=@List.length_set
def P3:=@List.getElem?_append_left
def P4:=@List.getElem_map
def P5:=@Nat.lt_of_lt_of_le
def P6:=@Array.getElem?_eq_getElem
def P7:=@List.getElem?_eq_none
def P8:=@List.length_map
def P9:=@List.length_take
def Qa:=@List.getElem?_set_self
def Qb:=@Int.eq_ofNat_of_zero_le
def Qc:=@List.getElem?_append_right
def Qd:=@List.mem_iff_getElem?
def Qe:=@List.mem_append
def Qf:=@Nat.not_lt_zero
def Qg:=@Nat.eq_of_beq_eq_true
def Qh:=@List.getElem?_set_ne
def Qi:=@List.length_replicate
def Qj:=@Bool.and_eq_true
def Qk:=@List.mem_of_mem_take
def Ql:=@Nat.lt_or_ge
def Qm:=@List.mem_map
def Qn:=@List.getElem_mem
def Qo:=@List.getElem_cons_zero
def Qp:=@Int.tmod_eq_emod_of_nonneg
def Qq:=@List.take_append_drop
def Qr:=@List.mem_or_eq_of_mem_set
def Qs:=@List.getElem?_eq_some_iff
def Qt:=@List.all_eq_true
def Qu:=@Nat.pow_le_pow_right
def Qv:=@List.eq_of_mem_replicate
def Qw:=@List.drop_eq_getElem_cons
def Qx:=@Int.mul_le_mul_of_nonneg_left
def Qy:=@Option.isSome_iff_exists
def Qz:=@List.getElem?_take_of_lt
def QA:=@Classical.byContradiction
def QB:=@Array.getD_eq_getD_getElem?
def QC:=@List.ext_getElem?
def QD:=@List.getD_eq_getElem?_getD
def QE:=@Array.getElem?_eq_some_iff
def QG:=@Array.getElem?_setIfInBounds
def QH:=@Nat.le_trans
def QI:=@Int.mul_le_mul
def QJ:=@List.length_drop
def QK:=@List.getElem_cons_succ
def QL:=@List.set_append_right
def QM:=@List.replicate_succ
def QN:=@List.mem_range
def QO:=@Nat.mul_le_mul_right
def QP:=@List.mem_cons_of_mem
def QQ:=@Array.getElem_toList
def QR:=@List.getElem_append_left
def QS:=@Int.emod_lt_of_pos
def QT:=@List.length_pos_iff
def QU:=@List.getElem_append_right
def QV:=@List.mem_of_mem_drop
def QW:=@Nat.add_right_cancel_iff
def QX:=@Bool.eq_false_or_eq_true
def QY:=@Int.emod_nonneg
def QZ:=@Nat.mod_two_eq_zero_or_one
def Q1:=@Array.getElem?_eq_none
def Q2:=@List.map_append
def Q3:=@List.getElem?_eq_none_iff
def Q4:=@Bool.or_eq_true
def Q5:=@Nat.zero_testBit
def Q6:=@Nat.eq_zero_or_pos
def Q7:=@Nat.add_mul
def Q8:=@List.mem_cons_self
def Q9:=@List.foldl_cons
def Ra:=@Nat.pow_lt_pow_right
def Rb:=@List.take_length
def Rc:=@Nat.le_succ
def Rd:=@List.map_congr_left
def Re:=@List.getElem?_inj
def Rf:=@List.foldl_append
def Rg:=@List.range_succ
def Rh:=@List.mem_append_right
def Ri:=@List.set_eq_of_length_le
def Rj:=@List.mem_flatten
def Rk:=@List.getElem_set
def Rl:=@Nat.eq_of_testBit_eq
def Rm:=@Nat.testBit_or
def Ro:=@Nat.testBit_two_pow_sub_one
def Rp:=@Array.length_toList
def Rq:=@Nat.lt_succ_self
def Rs:=@List.countP_cons
def Rt:=@decide_eq_true_iff
def Ru:=@Nat.le_of_ble_eq_true
def Rv:=@Nat.add_assoc
def Rw:=@List.zip_cons_cons
def Rx:=@decide_eq_true
def Ry:=@Int.mul_nonneg
def Rz:=@List.pairwise_append
def RA:=@List.mem_append_left
def RB:=@List.getElem?_zipIdx
def RC:=@Nat.or_lt_two_pow
def RD:=@List.length_range
def RE:=@List.getElem_take
def RF:=@Nat.zero_mul
def RG:=@decide_eq_false_iff_not
def RH:=@List.getElem?_replicate
def RI:=@List.drop_drop
def RJ:=@List.zip_nil_right
def RK:=@List.map_replicate
def RL:=@List.getElem?_drop
def RM:=@decide_eq_false
def RN:=@Nat.sub_self
def RO:=@Nat.beq_refl
def RP:=@List.length_singleton
def RQ:=@Bool.eq_iff_iff
def RS:=@Nat.lt_trichotomy
def RT:=@List.sum_cons
def RU:=@List.getElem_drop
def RV:=@List.getElem?_set
def RW:=@Array.getElem_map
def RX:=@List.replicate_succ'
def RY:=@Go.IntWalk.u64_in
def RZ:=@Nat.lt_of_not_le
def R7:=@Array.getElem?_push
def R8:=@Nat.succ_mul
def R9:=@List.set_set
def Sa:=@Int.mul_comm
def Sb:=@Array.getElem?_replicate
def Sc:=@Nat.testBit_and
def Sd:=@Nat.min_eq_left
def Se:=@Nat.lt_irrefl
def Sf:=@Nat.add_sub_cancel_left
def Sg:=@List.foldl_nil
def Sh:=@Array.eq_empty_of_size_eq_zero
def Si:=@List.take_append_of_le_length
def Sj:=@List.set_append_left
def Sk:=@Int.ofNat_eq_natCast
def Sl:=@List.take_set_of_le
def Sm:=@List.nodup_cons
def Sn:=@Int.tdiv_eq_ediv_of_nonneg
def So:=@Nat.ne_of_lt
def Sp:=@Int.pow_succ
def Sq:=@Nat.shiftRight_eq_div_pow
def Sr:=@List.pairwise_iff_getElem
def Ss:=@Nat.zero_le
def Su:=@Int.mul_one
def Sv:=@Int.mul_assoc
def Sw:=@Int.mul_add
def Sx:=@Nat.le_of_not_lt
def Sy:=@Bool.not_eq_true
def Sz:=@Nat.testBit_lt_two_pow
def SA:=@List.drop_of_length_le
def SB:=@List.drop_eq_nil_of_le
def SC:=@List.map_set
def SD:=@Int.emod_add_mul_ediv
def SE:=@Int.ediv_nonneg
def SF:=@Array.toArray_toList
def SG:=@Nat.testBit_two_pow
def SH:=@Nat.xor_lt_two_pow
def SI:=@Nat.lt_of_le_of_lt
def SJ:=@List.set_eq_take_append_cons_drop
def SK:=@List.set_comm
def SL:=@List.pairwise_cons
def SM:=@Nat.not_le
def SN:=@Nat.mod_lt
def SO:=@Nat.blt_eq
def SP:=@Classical.not_not
def SQ:=@Bool.not_eq_true'
def SR:=@Array.size_append
def SU:=@Nat.mul_comm
def SV:=@Nat.le_of_lt
def SW:=@Int.pow_zero
def SX:=@Int.mul_le_mul_of_nonneg_right
def SY:=@Int.add_zero
def SZ:=@List.nodup_range
def S0:=@List.drop_append_of_le_length
def S1:=@Int.ediv_le_self
def S2:=@Array.toList_map
def S3:=@Nat.two_pow_pos
def S4:=@List.sum_append
def S5:=@List.getElem?_concat_length
def S6:=@Int.min_eq_left
def S7:=@Array.getElem?_append_left
def S8:=@Nat.lt_pow_two_of_testBit
def S9:=@Int.le_of_mul_le_mul_left
def Ta:=@Array.mapM_eq_mapM_toList
def Tb:=@Nat.mul_assoc
def Tc:=@Go.IntWalk.u8_in
def Td:=@Int.ediv_ediv_of_nonneg
def Te:=@Bool.false_or
def Tf:=@List.append_eq_nil_iff
def Tg:=@Int.ediv_eq_zero_of_lt
def Th:=@List.length_filter_le
def Ti:=@List.getElem?_zipWith
def Tj:=@List.eq_nil_or_concat
def Tk:=@List.concat_eq_append
def Tl:=@List.mem_of_getLast?
def Tm:=@List.getElem_zipWith
def Tn:=@Int.mul_ediv_self_le
def To:=@List.replicate_zero
def Tp:=@List.getElem?_range
def Tq:=@List.flatten_append
def Tr:=@List.filterMap_cons
def Ts:=@List.drop_replicate
def Tt:=@Int.one_mul
end Go
namespace Go.Hx
variable {id off:Nat}{P:Program}{cv:Value}{w w':World}
inductive Ty where
 |lit (v:Value)
 |M (len:Nat) (cells:List Ty)
 |V (id gen off len sz:Nat)
 |Y (id gen off:Nat)
 |nc (cells:List Ty) (off:Nat)
 |agg (cells:List Ty)
 |nf (vs:List Ty)
 |nl (f:FuncId) (first cap:List Ty)
 |ng (id:Nat)
instance:Inhabited Ty:=⟨.lit undef⟩
abbrev Env:=Nat->Ty
inductive TE where
 |L (gen:Nat) (elem:TypeId) (cells:List Ty)
 |loop (st:LoopState) (pend:Option Code) (n:Nat) (env:Env) (ps:Array Tmp) (asg body:Code)
 |mp (es:List (Int × Int))
 |ni
structure Tz where
 get:Nat->Option TE
 C:Nat
abbrev ar:=Nat->Option (Nat × Nat × Nat)
def ar.c9 (Γ:ar)(b:Nat):Prop:=∃id base n,Γ id=some (b,base,n)
def qz (Γ:ar)(H:Tz)(id gen off len sz:Nat)(cv:Value):Prop :=
 id<H.C/\cv.oneCell=true/\H.get id≠some .ni/\∀g e cells,H.get id=some (.L g e cells)->gen<=g/\(gen=g ->
  match Γ id with
  |some (b,base,n)=>∃a cap,cv=.slice (some a) len cap/\len<=cap/\off+len*sz<=cells.length /\
    ((a=⟨b,base+off,none⟩/\base+off+cap*sz<=n)\/(len=0/\cap=0))
  |none=>off=0/\len=0/\cv=.slice none 0 0)
def qA (Γ:ar)(H:Tz)(id gen off:Nat)(cv:Value):Prop :=
 id<H.C/\cv.oneCell=true/\H.get id≠some .ni/\∀g e cells,H.get id=some (.L g e cells)->gen<=g/\(gen=g ->
  ∃b base n,Γ id=some (b,base,n)/\cv=.pointer (some ⟨b,base+off,none⟩))
def cH:Nat->List (Int × Int)->List MapEntry
 |_,[]=>[]
 |i,(k,v) :: l=>⟨.int .i64 k,.int .i64 v,i⟩ :: cH (i+1) l
def eU (es:List (Int × Int)):Obj:=.map (cH 0 es).toArray es.length
def qB (Γ:ar)(H:Tz)(id:Nat)(cv:Value):Prop :=
 id<H.C/\cv.oneCell=true/\H.get id≠some .ni/\(∀st pend n env ps asg body,H.get id=some (.loop st pend n env ps asg body) ->
  ∃b,Γ id=some (b,0,0)/\cv=.func (.yield b) #[] #[])/\∀es,H.get id=some (.mp es)->∃b,Γ id=some (b,0,0)/\cv=.map (some b)
inductive TB (P:Program)(Γ:ar)(H:Tz)(w:World):Ty->Value->Prop
 |lit (v:Value):TB P Γ H w (.lit v) v
 |nj (a:Option Addr) (cap:Nat):TB P Γ H w (.M 0 []) (.slice a 0 cap)
 |M {len:Nat} {cells:List Ty} {b off cap:Nat} {cs:List Value} (hb:¬ Γ.c9 b) (hlt:b<w.heap.size) (hlen:len<=cap)
   (hcs:cs.length=cells.length)
   (hcell:∀i (h:i<cs.length),w.cell? ⟨b,off+i,none⟩=some cs[i])
   (hrel:∀i (h:i<cells.length) (h':i<cs.length),TB P Γ H w cells[i] cs[i]):
   TB P Γ H w (.M len cells) (.slice (some ⟨b,off,none⟩) len cap)
 |V {id gen off len sz:Nat} {cv:Value} (h:qz Γ H id gen off len sz cv):TB P Γ H w (.V id gen off len sz) cv
 |Y {id gen off:Nat} {cv:Value} (h:qA Γ H id gen off cv):TB P Γ H w (.Y id gen off) cv
 |nc {cells:List Ty} {off b o:Nat} {cs:List Value} (hb:¬ Γ.c9 b) (hlt:b<w.heap.size)
   (hcs:cs.length=cells.length)
   (hcell:∀i (h:i<cs.length),w.cell? ⟨b,o+i,none⟩=some cs[i])
   (hrel:∀i (h:i<cells.length) (h':i<cs.length),TB P Γ H w cells[i] cs[i]):
   TB P Γ H w (.nc cells off) (.pointer (some ⟨b,o+off,none⟩))
 |agg {cells:List Ty} {cs:List Value} (hcs:cs.length=cells.length)
   (hrel:∀i (h:i<cells.length) (h':i<cs.length),TB P Γ H w cells[i] cs[i]):TB P Γ H w (.agg cells) (.agg cs.toArray)
 |nf {cells:List Ty} {cs:List Value} (hcs:cs.length=cells.length)
   (hrel:∀i (h:i<cells.length) (h':i<cs.length),TB P Γ H w cells[i] cs[i]):TB P Γ H w (.nf cells) (.tuple cs.toArray)
 |nl {f:FuncId} {first cap:List Ty} {fs cs:List Value} (hfs:fs.length=first.length) (hcs:cs.length=cap.length)
   (hf:∀i (h:i<first.length) (h':i<fs.length),TB P Γ H w first[i] fs[i])
   (hc:∀i (h:i<cap.length) (h':i<cs.length),TB P Γ H w cap[i] cs[i]):
   TB P Γ H w (.nl f first cap) (.func (.func f) fs.toArray cs.toArray)
 |ng {id:Nat} {cv:Value} (h:qB Γ H id cv):TB P Γ H w (.ng id) cv
def TE.le (Γ Γ':ar)(id:Nat):TE->TE->Prop
 |.L g e cells,.L g' e' cells'=>g<=g'/\(g=g'->Γ' id=Γ id/\e'=e/\cells'.length=cells.length)
 |.loop _ _ n env ps asg body,.loop _ _ n' env' ps' asg' body'=>Γ' id=Γ id/\n'=n/\env'=env/\ps'=ps/\asg'=asg/\body'=body
 |.mp _,.mp _=>Γ' id=Γ id
 |.ni,_=>True
 |_,_=>False
def Kind (w w':World):Prop:=∀(b:Nat) (c:Array Value) (e:TypeId) (f:Nat × Nat),w.heap[b]?=some (.cells c e f)->∃c',w'.heap[b]?=some (.cells c' e f)/\c'.size=c.size
def Kind.refl (w:World):Kind w w:=fun _ c _ _ h=>⟨c,h,rfl⟩
theorem Kind.trans {w'':World}(h:Kind w w')(k:Kind w' w''):Kind w w'':=fun b c e f hb=>by
 obtain⟨c1,h1,h2⟩:=h b c e f hb;obtain⟨c2,h3,h4⟩:=k b c1 e f h1;exact⟨c2,h3,h4.trans h2⟩
def om (Γ:ar)(w:World)(Γ':ar):Prop:=∀id b x y,Γ' id=some (b,x,y)->b<w.heap.size->∃x' y',Γ id=some (b,x',y')
def om.refl (Γ:ar)(w:World):om Γ w Γ:=fun _ _ x y h _=>⟨x,y,h⟩
structure TJ (Γ:ar)(H:Tz)(w:World)(Γ':ar)(H':Tz)(w':World):Prop where
 os:w'.os=w.os
 tape:w'.tape=w.tape
 output:w'.output=w.output
 size:w.heap.size<=w'.heap.size
 na:∀b,b<w.heap.size->¬ Γ.c9 b->w'.heap[b]?=w.heap[b]?/\¬ Γ'.c9 b
 Z:∀id,id<H.C->id<H'.C->∀x',H'.get id=some x'->∃x,H.get id=some x/\TE.le Γ Γ' id x x'
 np:∀a,a.block<w.heap.size->w'.frozen? a=w.frozen? a
 kind:Kind w w'
 newb:om Γ w Γ'
def TE.le_refl (Γ:ar)(id:Nat)(x:TE):TE.le Γ Γ id x x:=by
 cases x<;>simp[TE.le]
theorem TJ.refl (Γ:ar)(H:Tz)(w:World):TJ Γ H w Γ H w :=
 ⟨rfl,rfl,rfl,Tx,fun _ _ h=>⟨rfl,h⟩,fun _ _ _ x' h=>⟨x',h,TE.le_refl _ _ _⟩,fun _ _=>rfl,.refl _,.refl _ _⟩
variable {Γ Γ':ar}
def TE.tS {x:TE}(h:TE.le Γ Γ' id x .ni):x=.ni:=by
 cases x<;>simp_all[TE.le]
def TE.le_trans {Γ₁ Γ₂ Γ₃:ar}{id:Nat}{x y z:TE}(h:TE.le Γ₁ Γ₂ id x y)(k:TE.le Γ₂ Γ₃ id y z):TE.le Γ₁ Γ₃ id x z:=by
 cases x<;>cases y<;>cases z<;>simp only[TE.le]at *
 ·rename_i g e c g' e' c' g'' e'' c'';refine⟨U,fun hg=>?_⟩;obtain⟨h1,h2⟩:=h;obtain⟨k1,k2⟩:=k;obtain⟨a1,a2,a3⟩:=h2 U;obtain⟨b1,b2,b3⟩:=k2 U;exact⟨b1.trans a1,b2.trans a2,b3.trans a3⟩
 ·obtain⟨a1,a2,a3,a4,a5,a6⟩:=h;obtain⟨b1,b2,b3,b4,b5,b6⟩:=k;exact⟨b1.trans a1,b2.trans a2,b3.trans a3,b4.trans a4,b5.trans a5,b6.trans a6⟩
 ·exact k.trans h
theorem TJ.trans {Γ₁ Γ₂ Γ₃:ar}{H₁ H₂ H₃:Tz}{w₁ w₂ w₃:World}(h:TJ Γ₁ H₁ w₁ Γ₂ H₂ w₂)(hn:H₁.C<=H₂.C)
  (k:TJ Γ₂ H₂ w₂ Γ₃ H₃ w₃):TJ Γ₁ H₁ w₁ Γ₃ H₃ w₃ where
 os:=k.os.trans h.os
 tape:=k.tape.trans h.tape
 output:=k.output.trans h.output
 size:=QH h.size k.size
 na b hb ho:=by
  obtain⟨a1,a2⟩:=h.na b hb ho;obtain⟨b1,b2⟩:=k.na b (P5 hb h.size) a2;exact⟨b1.trans a1,b2⟩
 Z id h1 h3 z hz:=by
  obtain⟨y,hy,hyz⟩:=k.Z id (P5 h1 hn) h3 z hz;obtain⟨x,hx,hxy⟩:=h.Z id h1 (P5 h1 hn) y hy;exact⟨x,hx,TE.le_trans hxy hyz⟩
 np a ha:=(k.np a (P5 ha h.size)).trans (h.np a ha)
 kind:=h.kind.trans k.kind
 newb id b x y hb hlt:=by
  obtain⟨x1,y1,h1⟩:=k.newb id b x y hb (P5 hlt h.size);exact h.newb id b x1 y1 h1 hlt
variable {H H':Tz}
theorem TJ.cell (h:TJ Γ H w Γ' H' w'){b o:Nat}(hb:b<w.heap.size)(ho:¬ Γ.c9 b):
  w'.cell? ⟨b,o,none⟩=w.cell? ⟨b,o,none⟩:=by
 have:=(h.na b hb ho).1;simp only[World.cell?,this]
def qz.aU {gen len sz:Nat}(h:qz Γ H id gen off len sz cv)
  (k:TJ Γ H w Γ' H' w') (hn:H.C<=H'.C):qz Γ' H' id gen off len sz cv:=by
 obtain⟨h1,h2,h0,h3⟩:=h;refine⟨U,h2,fun hr=>(by
  obtain⟨x,hx,hle⟩:=k.Z id h1 U _ hr;exact h0 (TE.tS hle ▸ hx)),fun g' e' cells' hg'=>?_⟩
 obtain⟨x,hx,hle⟩:=k.Z id h1 U _ hg';cases x with
 |loop=>exact hle.elim
 |mp=>exact hle.elim
 |ni=>exact absurd hx h0
 |L g e cells =>
  obtain⟨a1,a2⟩:=hle;obtain⟨b1,b2⟩:=h3 g e cells hx;refine⟨U,fun hgg=>?_⟩;obtain⟨c1,c2,c3⟩:=a2 U;have:=b2 U;rw[c1,c3];exact this
def qA.aU {gen:Nat}(h:qA Γ H id gen off cv)
  (k:TJ Γ H w Γ' H' w') (hn:H.C<=H'.C):qA Γ' H' id gen off cv:=by
 obtain⟨h1,h2,h0,h3⟩:=h;refine⟨U,h2,fun hr=>(by
  obtain⟨x,hx,hle⟩:=k.Z id h1 U _ hr;exact h0 (TE.tS hle ▸ hx)),fun g' e' cells' hg'=>?_⟩
 obtain⟨x,hx,hle⟩:=k.Z id h1 U _ hg';cases x with
 |loop=>exact hle.elim
 |mp=>exact hle.elim
 |ni=>exact absurd hx h0
 |L g e cells =>
  obtain⟨a1,a2⟩:=hle;obtain⟨b1,b2⟩:=h3 g e cells hx;refine⟨U,fun hgg=>?_⟩;obtain⟨c1,c2,c3⟩:=a2 U;have:=b2 U;rw[c1];exact this
def qB.aU (h:qB Γ H id cv)
  (k:TJ Γ H w Γ' H' w') (hn:H.C<=H'.C):qB Γ' H' id cv:=by
 obtain⟨h1,h2,h0,h3,h4⟩:=h;refine⟨U,h2,fun hr=>(by
  obtain⟨x,hx,hle⟩:=k.Z id h1 U _ hr;exact h0 (TE.tS hle ▸ hx)),fun st pend n env ps asg body hg'=>?_,fun es hg'=>?_⟩
 ·obtain⟨x,hx,hle⟩:=k.Z id h1 U _ hg';cases x with
  |L g e cells=>exact hle.elim
  |mp=>exact hle.elim
  |ni=>exact absurd hx h0
  |loop st0 pend0 n0 env0 ps0 asg0 body0 =>
   obtain⟨a1,_⟩:=hle;obtain⟨b,hb,hc⟩:=h3 _ _ _ _ _ _ _ hx;exact⟨b,a1.trans hb,hc⟩
 ·obtain⟨x,hx,hle⟩:=k.Z id h1 U _ hg';cases x with
  |L g e cells=>exact hle.elim
  |loop=>exact hle.elim
  |ni=>exact absurd hx h0
  |mp es0 =>
   obtain⟨b,hb,hc⟩:=h4 _ hx;exact⟨b,Eq.trans hle hb,hc⟩
theorem TB.aU {v:Ty}(h:TB P Γ H w v cv)
  (k:TJ Γ H w Γ' H' w') (hn:H.C<=H'.C):TB P Γ' H' w' v cv:=by
 induction h with
 |lit v=>exact .lit v
 |nj a cap=>exact .nj a cap
 |M hb hlt hlen hcs hcell hrel ih =>
  exact .M (k.na _ hlt hb).2 (P5 hlt k.size) hlen hcs (fun i hi=>(k.cell hlt hb).trans (hcell i hi)) ih
 |V h=>exact .V (h.aU k hn)
 |Y h=>exact .Y (h.aU k hn)
 |nc hb hlt hcs hcell hrel ih =>
  exact .nc (k.na _ hlt hb).2 (P5 hlt k.size) hcs (fun i hi=>(k.cell hlt hb).trans (hcell i hi)) ih
 |agg hcs hrel ih=>exact .agg hcs ih
 |nf hcs hrel ih=>exact .nf hcs ih
 |nl hfs hcs hf hc ih1 ih2=>exact .nl hfs hcs ih1 ih2
 |ng h=>exact .ng (h.aU k hn)
def oo (Γ:ar)(w:World)(r:Nat):Prop:=¬ Γ.c9 r/\w.heap[r]?=some (.deferred (some []))
def oo.aU {r:Nat}(h:oo Γ w r)(k:TJ Γ H w Γ' H' w'):oo Γ' w' r:=by
 obtain⟨h1,h2⟩:=h;have hlt:r<w.heap.size:=by
  rcases Ql r w.heap.size with h|h
  ·exact h
  ·rw[Q1 h]at h2;cases h2
 obtain⟨a,b⟩:=k.na r hlt h1;exact⟨b,a.trans h2⟩
structure TG (P:Program)(G:Nat->Option (List Ty))(Γ:ar)(H:Tz)(w:World):Prop where
 L:∀id g e cells,H.get id=some (.L g e cells) ->
  match Γ id with
  |some (b,base,n)=>∃c,w.heap[b]?=some (.cells c e (0,0))/\c.size=n/\base+cells.length<=n /\
    ∀i (h:i<cells.length),∃cv,c[base+i]?=some cv/\TB P Γ H w cells[i] cv
  |none=>cells=[]
 loop:∀id st pend n env ps asg body,H.get id=some (.loop st pend n env ps asg body) ->
  ∃b r,Γ id=some (b,0,0)/\w.heap[b]?=some (.loop r)/\r.state=st/\r.pending=pend/\r.params=ps/\r.assign=asg/\r.body=body /\
   r.tmps.size=n/\(∀t (h:t<r.tmps.size),TB P Γ H w (env t) r.tmps[t])
 mp:∀id es,H.get id=some (.mp es)->∃b,Γ id=some (b,0,0)/\w.heap[b]?=some (eU es)
 ni:∀id,H.get id=some .ni->Γ id=none
 inj:∀id id' b base n base' n',Γ id=some (b,base,n)->Γ id'=some (b,base',n')->id=id'
 nt:∀id x,Γ id=some x->∃y,H.get id=some y
 lt:∀id b base n,Γ id=some (b,base,n)->b<w.heap.size
 C:∀id y,H.get id=some y->id<H.C
 nr:∀g cells,G g=some cells->TB P Γ H w (.nc cells 0) (.pointer (some ⟨g,0,none⟩))
 gsz:∀g cells,G g=some cells->∃c e f,w.heap[g]?=some (.cells c e f)/\c.size=cells.length
def C4 {cells:List Ty}(h:TB P Γ H w (.nc cells off) cv):∀ {g x:Nat},cv=.pointer (some ⟨g,x,none⟩)->¬ Γ.c9 g/\g<w.heap.size:=by
 intro g x e;cases h with
 |nc hb hlt hcs hcell hrel=>cases e;exact⟨hb,hlt⟩
def TG.lf {G:Nat->Option (List Ty)}(R:TG P G Γ H w)(E:TJ Γ H w Γ' H' w')(g:Nat)(cells:List Ty)(h:G g=some cells):∃c e f,w'.heap[g]?=some (.cells c e f)/\c.size=cells.length:=by
 obtain⟨hb,hlt⟩:=C4 (R.nr g cells h) rfl;rw[(E.na g hlt hb).1];exact R.gsz g cells h
end Go.Hx
namespace Go.Hx
variable {α:Type}
def Ty.cells:Ty->List Ty
 |.lit v=>v.cells.toList.map .lit
 |.agg cs=>cs
 |.M l c=>[.M l c]
 |.V a b c d e=>[.V a b c d e]
 |.Y a b c=>[.Y a b c]
 |.nc a b=>[.nc a b]
 |.nf vs=>[.nf vs]
 |.nl f a b=>[.nl f a b]
 |.ng i=>[.ng i]
def Ty.one:Ty->Bool
 |.lit v=>v.oneCell
 |.agg _|.nf _=>false
 |_=>true
def mj:List Ty->Option (List Value)
 | []=>some []
 |.lit v :: r=>(mj r).map (v :: ·)
 |_ :: _=>none
def Ty.bS:Ty->Option Value
 |.lit v=>some v
 |.agg cs=>(mj cs).map fun l=>.agg l.toArray
 |_=>none
def b9 (P:Program):Sem α->Option α
 |.pure a=>some a
 |.program k=>b9 P (k P)
 |.mark _ k=>b9 P k
 |_=>none
def lg {P:Program}{s:Sem α}{a:α}(h:b9 P s=some a)(w:World):s.run P w=.ok a w:=by
 induction s<;>simp_all[b9,Sem.run]
section
variable {P:Program} {w w':World}
def ak {α β:Type}{s:Sem α}{f:α->Sem β}{a:α}(h:s.run P w=.ok a w'):(s >>= f).run P w=(f a).run P w':=by
 rw[Sem.run_bind,h];rfl
def bT {t:TypeId}{d:TypeDesc}(h:P.underlying t=some d):(underlying t).run P w=.ok d w:=run_underlying h w
def xF {t:TypeId}{d:TypeDesc}(h:P.underlying t=some d):∃i,P.info? t=some i:=by
 unfold Program.underlying at h;cases hi:P.info? t with
 |none=>simp[hi]at h
 |some i=>exact⟨i,rfl⟩
def run_typeInfo {t:TypeId}{i:TypeInfo}(h:P.info? t=some i):(typeInfo t).run P w=.ok i w:=by
 unfold typeInfo;rw[ak (run_program P w)];simp[h]
def run_sizeOf {t:TypeId}{i:TypeInfo}(h:P.info? t=some i):(sizeOf t).run P w=.ok (P.cellsOf t) w:=by
 unfold sizeOf;rw[ak (run_typeInfo h)];simp[Program.cellsOf,h]
def fT {t:TypeId}{d:TypeDesc}(h:P.underlying t=some d):(sizeOf t).run P w=.ok (P.cellsOf t) w:=by
 obtain⟨i,hi⟩:=xF h;exact run_sizeOf hi
def mm (d:TypeDesc):Bool:=match d with|.struct _|.array _ _=>true|_=>false
def tT {t:TypeId}{d:TypeDesc}(h:P.underlying t=some d):(isAgg t).run P w=.ok (mm d) w:=by
 unfold isAgg;rw[ak (bT h)];cases d<;>rfl
def C5 {a:Addr}{v:Value}(h:w.cell? a=some v):(load a).run P w=.ok v w:=by
 simp[run_load,h]
def im (b o i:Nat):(Addr.add ⟨b,o,none⟩ i)=⟨b,o+i,none⟩:=by
 unfold Addr.add;by_cases h:i=0
 ·simp[h]
 ·simp[h]
def mn {b o:Nat}{cs:List Value}(h:∀i (hi:i<cs.length),w.cell? ⟨b,o+i,none⟩=some cs[i]):
  (loadCells ⟨b,o,none⟩ cs.length).run P w=.ok cs.toArray w:=by
 refine run_loadCells_list w ⟨b,o,none⟩ cs fun j v hj=>?_;rw[im];obtain⟨hlt,hv⟩:=Qs.1 hj;rw[<- hv];exact h j hlt
def C6 {t:TypeId}{d:TypeDesc}{b o:Nat}{cs:List Value}(hd:P.underlying t=some d)(ha:mm d=true)(hl:cs.length=P.cellsOf t)
  (h:∀i (hi:i<cs.length),w.cell? ⟨b,o+i,none⟩=some cs[i]):(loadVar t ⟨b,o,none⟩).run P w=.ok (.agg cs.toArray) w:=by
 unfold loadVar;rw[ak (tT hd),ha];simp only[if_true];rw[ak (fT hd),<- hl,ak (mn h)];rfl
def C7 {t:TypeId}{d:TypeDesc}{a:Addr}{v:Value}(hd:P.underlying t=some d)(ha:mm d=false)
  (h:w.cell? a=some v):(loadVar t a).run P w=.ok v w:=by
 unfold loadVar;rw[ak (tT hd),ha];simp only[Bool.false_eq_true,if_false];exact C5 h
def setRow (c:Array Value)(o:Nat):List Value->Array Value
 | []=>c
 |v :: vs=>setRow (c.setIfInBounds o v) (o+1) vs
def size_setRow (c:Array Value)(o:Nat)(vs:List Value):(setRow c o vs).size=c.size:=by
 induction vs generalizing c o with
 |nil=>rfl
 |cons v vs ih=>simp[setRow,ih]
def xG (c:Array Value)(o:Nat)(vs:List Value)(h:o+vs.length<=c.size)(i:Nat):
  (setRow c o vs)[i]?=if o<=i/\i<o+vs.length then vs[i-o]? else c[i]?:=by
 induction vs generalizing c o with
 |nil=>simp only[setRow,List.length_nil];rw[PX U]
 |cons v vs ih =>
  simp only[List.length_cons]at h;rw[setRow,ih _ _ (by simp;omega)];simp only[List.length_cons];by_cases h1:o+1<=i/\i<o+1+vs.length
  ·rw[PZ h1,PZ U];have:i-o=(i-(o+1))+1:=U;rw[this,List.getElem?_cons_succ]
  ·rw[PX h1];by_cases h2:i=o
   ·subst h2;rw[PZ U];simp[QG];omega
   ·rw[PX U];rw[QG,PX U]
def bp (w:World)(b:Nat)(o:Obj):World:={ w with heap:=w.heap.setIfInBounds b o }
def ot {w:World}{b:Nat}{o o':Obj}(h:w.heap[b]?=some o)(h1:∀c e f,o=.cells c e f->f=(0,0))(h2:∀c e f,o'=.cells c e f->f=(0,0))(a:Addr):(bp w b o').frozen? a=w.frozen? a:=by
 have hlt:b<w.heap.size:=by
  rcases Ql b w.heap.size with h'|h'
  ·exact h'
  ·rw[Q1 h']at h;cases h
 unfold World.frozen? bp;simp only[QG];by_cases hb:b=a.block
 ·subst hb;rw[PZ rfl,PZ hlt,h];cases o with
  |cells c e f =>
   obtain rfl:=h1 c e f rfl;cases o' with
   |cells c' e' f' =>
    obtain rfl:=h2 c' e' f' rfl;simp
   |_=>simp
  |_ =>
   cases o' with
   |cells c' e' f' =>
    obtain rfl:=h2 c' e' f' rfl;simp
   |_=>rfl
 ·rw[PX hb]
def mo {w w':World}{o:Obj}(hw:w'.heap=w.heap.push o)(ho:∀c e f,o=.cells c e f->f=(0,0))(a:Addr):w'.frozen? a=w.frozen? a:=by
 unfold World.frozen?;rw[hw,R7];by_cases h:a.block=w.heap.size
 ·rw[PZ h,h,Q1 Tx];cases o with
  |cells c e f =>
   obtain rfl:=ho c e f rfl;simp
  |_=>rfl
 ·rw[PX h]
def C8 {b o:Nat}{c:Array Value}{e:TypeId}{v:Value}(h:w.heap[b]?=some (.cells c e (0,0))):
  w.setCell ⟨b,o,none⟩ v=bp w b (.cells (c.setIfInBounds o v) e (0,0)):=by
 unfold World.setCell bp;congr 1;apply Array.ext_getElem?;intro i;rw[Array.getElem?_modify,QG];by_cases hi:b=i
 ·subst hi;have hlt:b<w.heap.size:=by
   rcases Ql b w.heap.size with h'|h'
   ·exact h'
   ·rw[Q1 h']at h;cases h
  have hb:w.heap[b]=.cells c e (0,0):=by simpa[P6 hlt] using h
  simp[hlt,hb]
 ·simp[hi]
def xH {b:Nat}{o:Obj}(h:w.heap[b]?=some o):b<w.heap.size:=by
 rcases Ql b w.heap.size with h'|h'
 ·exact h'
 ·rw[Q1 h']at h;cases h
def da (b:Nat)(o:Obj)(i:Nat):(bp w b o).heap[i]?=if i=b/\b<w.heap.size then some o else w.heap[i]?:=by
 unfold bp;simp only[QG];by_cases h:b=i
 ·subst h;by_cases h':b<w.heap.size
  ·simp[h']
  ·simp[h']
 ·rw[PX h,PX U]
def gW (b:Nat)(o:Obj):(bp w b o).heap.size=w.heap.size:=by simp[bp]
def xI {b:Nat}{c c':Array Value}{e:TypeId}{f:Nat × Nat}(h:w.heap[b]?=some (.cells c e f))(hs:c'.size=c.size):Kind w (bp w b (.cells c' e f)):=fun i d e' f' hi=>by
 rw[da];by_cases hib:i=b
 ·subst hib;rw[h]at hi;cases hi;rw[PZ ⟨rfl,(QE.1 h).1⟩];exact⟨c',rfl,hs⟩
 ·rw[PX fun h=>hib h.1];exact⟨d,hi,rfl⟩
def tU {b:Nat}{o o':Obj}(h:w.heap[b]?=some o)(ho:∀c e f,o≠.cells c e f):Kind w (bp w b o'):=fun i d e' f' hi=>by
 rw[da,PX]
 ·exact⟨d,hi,rfl⟩
 ·rintro⟨rfl,_⟩;rw[h]at hi;exact ho _ _ _ (Option.some.inj hi)
def qC {w w':World}{o:Obj}(hw:w'.heap=w.heap.push o):Kind w w':=fun i d e' f' hi=>by
 have:=(QE.1 hi).1;refine⟨d,?_,rfl⟩;rw[hw,R7,PX U];exact hi
def C9 {w w':World}(hk:∀b,b<w.heap.size->w'.heap[b]?=w.heap[b]?):Kind w w':=fun i d e' f' hi=>⟨d,by rw[hk i (QE.1 hi).1];exact hi,rfl⟩
def Da (b:Nat)(o o':Obj):bp (bp w b o) b o'=bp w b o':=by
 unfold bp;simp
def xJ {b i:Nat}{c:Array Value}{e:TypeId}{f:Nat × Nat}(h:w.heap[b]?=some (.cells c e f)):w.cell? ⟨b,i,none⟩=c[i]?:=by
 simp[World.cell?,h]
def ow {b:Nat}{e:TypeId}:∀(vs:List Value) (c:Array Value) (o i:Nat) (w:World),w.heap[b]?=some (.cells c e (0,0)) ->
  o+i+vs.length<=c.size->(∀v,v∈vs->v.oneCell=true) ->
  (storeCells ⟨b,o,none⟩ vs i).run P w=.ok () (bp w b (.cells (setRow c (o+i) vs) e (0,0))):=by
 intro vs
 induction vs with
 |nil =>
  intro c o i w h _ _;have:bp w b (.cells (setRow c (o+i) []) e (0,0))=w:=by
   unfold bp setRow;have hlt:=xH h;have:w.heap.setIfInBounds b (.cells c e (0,0))=w.heap:=by
    apply Array.ext_getElem?;intro j;rw[QG];by_cases hj:b=j
    ·subst hj;have hb:w.heap[b]=.cells c e (0,0):=(by simpa[P6 hlt] using h);simp[hlt,hb]
    ·simp[hj]
   rw[this]
  rw[this];rfl
 |cons v vs ih =>
  intro c o i w h hle hone;simp only[List.length_cons]at hle;have hv:v.oneCell=true:=hone v Tu;have hlt:=xH h;have hst:(store (Addr.add ⟨b,o,none⟩ i) v).run P w=.ok () (bp w b (.cells (c.setIfInBounds (o+i) v) e (0,0))):=by
   rw[im];have hc:w.cell? ⟨b,o+i,none⟩=some (c[o+i]' U):=(by rw[xJ h];simp);have hf:w.frozen? ⟨b,o+i,none⟩=false:=(by simp[World.frozen?,h]);rw[<- C8 h];cases v<;>simp_all[store,Sem.run,Value.oneCell]
  rw[storeCells,ak hst];rw[ih (c.setIfInBounds (o+i) v) o (i+1) _ (by rw[da,PZ ⟨rfl,hlt⟩]) (by simp;omega) (fun x hx=>hone x (by simp[hx]))];rw[Da];rfl
end
def setAt (cells:List Ty)(off:Nat)(vs:List Ty):List Ty:=cells.take off++vs++cells.drop (off+vs.length)
def mq {cells:List Ty}{off:Nat}{vs:List Ty}(h:off+vs.length<=cells.length):(setAt cells off vs).length=cells.length:=by
 simp[setAt];omega
def Db {cells:List Ty}{off:Nat}{vs:List Ty}(h:off+vs.length<=cells.length)(i:Nat):
  (setAt cells off vs)[i]?=if off<=i/\i<off+vs.length then vs[i-off]? else cells[i]?:=by
 unfold setAt;by_cases h1:i<off
 ·rw[PX U,List.append_assoc,P3 (by simp;omega),List.getElem?_take,PZ h1]
 ·by_cases h2:i<off+vs.length
  ·rw[PZ U,P3 (by simp;omega),Qc (by simp;omega)];congr 1;simp;omega
  ·rw[PX U,Qc (by simp;omega),RL];congr 1;simp;omega
def dQ (P:Program)(t:TypeId)(cells:List Ty)(off:Nat):Option Ty :=
 match P.underlying t with
 |none=>none
 |some d =>
  if mm d then (if off+P.cellsOf t<=cells.length then some (.agg ((cells.drop off).take (P.cellsOf t))) else none)
  else cells[off]?
def Tz.upd (H:Tz)(id:Nat)(b:TE):Tz:={ get:=fun j=>if j=id then some b else H.get j,C:=H.C }
def Tz.lay (H:Tz)(id:Nat)(b:TE):Option Tz :=
 if id=H.C then some { get:=fun j=>if j=id then some b else H.get j,C:=H.C+1 }
 else match H.get id with
  |some .ni=>some (H.upd id b)
  |_=>none
def ei (P:Program)(H:Tz)(t:TypeId):Ty->Option Ty
 |.Y id gen off =>
  match H.get id with
  |some (.L g _ cells)=>if g=gen then dQ P t cells off else none
  |_=>none
 |.nc cells off=>dQ P t cells off
 |_=>none
def fU (P:Program)(H:Tz)(t:TypeId)(a v:Ty):Option Tz :=
 match a with
 |.Y id gen off =>
  match H.get id with
  |some (.L g e cells) =>
   if g=gen/\v.cells.length=P.cellsOf t/\v.cells.all Ty.one=true/\off+v.cells.length<=cells.length then some (H.upd id (.L g e (setAt cells off v.cells))) else none
  |_=>none
 |_=>none
def dR (place:Nat->Option (Nat × Nat))(cells:List Ty):List (Nat × Ty)->Option (List Ty)
 | []=>some cells
 |(i,v) :: rest =>
  match place i with
  |none=>none
  |some (off,size)=>if v.cells.length=size/\off+v.cells.length<=cells.length then dR place (setAt cells off v.cells) rest else none
end Go.Hx
namespace Go.Hx
variable {P:Program} {G:Nat->Option (List Ty)} {Γ Γ':ar} {H H':Tz} {w w':World}
variable {c':Array Value}{cells':List Ty}{b g id n:Nat}{v:Ty}{e:TypeId}{cv:Value}
def tW (h:cv.oneCell=true):cv.cells=#[cv]:=by
 cases cv<;>simp_all[Value.oneCell,Value.cells]
theorem TB.cells (h:TB P Γ H w v cv):cv.cells.toList.length=v.cells.length /\
  ∀i (_:i<v.cells.length) (_:i<cv.cells.toList.length),TB P Γ H w v.cells[i] cv.cells.toList[i]:=by
 have one:∀ {v:Ty} {cv:Value},TB P Γ H w v cv->v.cells=[v]->cv.cells=#[cv]->cv.cells.toList.length=v.cells.length /\
   ∀i (_:i<v.cells.length) (_:i<cv.cells.toList.length),TB P Γ H w v.cells[i] cv.cells.toList[i]:=by
  intro v cv h hv hc;simp only[hv,hc];refine⟨rfl,fun i h1 h2=>?_⟩;simp only[List.length_cons,List.length_nil]at h1;have:i=0:=U
  subst this;exact h
 cases h with
 |lit v =>
  simp only[Ty.cells];refine⟨Tu,fun i h1 h2=>?_⟩;simp only[P4];exact .lit _
 |nj a cap=>exact one (.nj a cap) rfl rfl
 |M hb hlt hlen hcs hcell hrel=>exact one (.M hb hlt hlen hcs hcell hrel) rfl rfl
 |V h=>exact one (.V h) rfl (tW h.2.1)
 |Y h=>exact one (.Y h) rfl (tW h.2.1)
 |nc hb hlt hcs hcell hrel=>exact one (.nc hb hlt hcs hcell hrel) rfl rfl
 |agg hcs hrel=>exact⟨by simpa[Ty.cells,Value.cells] using hcs,fun i h1 h2=>hrel i h1 h2⟩
 |nf hcs hrel=>exact one (.nf hcs hrel) rfl rfl
 |nl hfs hcs hf hc=>exact one (.nl hfs hcs hf hc) rfl rfl
 |ng h=>exact one (.ng h) rfl (tW h.2.1)
theorem TB.one (h:TB P Γ H w v cv)(hv:v.one=true):cv.oneCell=true:=by
 cases h with
 |lit v=>exact hv
 |V h=>exact h.2.1
 |Y h=>exact h.2.1
 |ng h=>exact h.2.1
 |agg=>simp[Ty.one]at hv
 |nf=>simp[Ty.one]at hv
 |_=>rfl
def Di:∀ {cells:List Ty} {cs vs:List Value},mj cells=some vs->cs.length=cells.length ->
  (∀i (_:i<cells.length) (_:i<cs.length),TB P Γ H w cells[i] cs[i])->cs=vs:=by
 intro cells
 induction cells with
 |nil=>intro cs vs h hl _;simp only[mj,Option.some.injEq]at h;subst h;simpa using hl
 |cons c cells ih =>
  intro cs vs h hl hr;cases c with
  |lit v =>
   simp only[mj,PU]at h;obtain⟨vs',h1,rfl⟩:=h;cases cs with
   |nil=>simp at hl
   |cons x cs =>
    have h0:=hr 0 Tu Tu;simp only[Qo]at h0;cases h0;have:=ih h1 (by simpa using hl) (fun i a b=>hr (i+1) (by simpa using a) (by simpa using b));rw[this]
  |_=>simp[mj]at h
theorem TB.bS {x:Value}(h:TB P Γ H w v cv)(hx:v.bS=some x):cv=x:=by
 cases h with
 |lit v=>simpa[Ty.bS] using hx
 |agg hcs hrel =>
  simp only[Ty.bS,PU]at hx;obtain⟨l,h1,rfl⟩:=hx;rw[Di h1 hcs hrel]
 |_=>simp[Ty.bS]at hx
def TE.qD (h:Γ' id=Γ id)(x:TE):TE.le Γ Γ' id x x:=by
 cases x<;>simp[TE.le,h]
def TG.lh (R:TG P G Γ H w)(E:TJ Γ H w Γ' H' w')(hn:H.C<=H'.C)(hget:∀j,j≠id->H'.get j=H.get j)
  (hΓ:∀j,j≠id->Γ' j=Γ j) (hheap:∀j b base n,j≠id->Γ j=some (b,base,n)->w'.heap[b]?=w.heap[b]?)
  (harr:∀g e cells,H'.get id=some (.L g e cells) ->
   match Γ' id with
   |some (b,base,n)=>∃c,w'.heap[b]?=some (.cells c e (0,0))/\c.size=n/\base+cells.length<=n /\
     ∀i (_:i<cells.length),∃cv,c[base+i]?=some cv/\TB P Γ' H' w' cells[i] cv
   |none=>cells=[])
  (hloop:∀st pend n env ps asg body,H'.get id=some (.loop st pend n env ps asg body) ->
   ∃b r,Γ' id=some (b,0,0)/\w'.heap[b]?=some (.loop r)/\r.state=st/\r.pending=pend/\r.params=ps/\r.assign=asg/\r.body=body /\
    r.tmps.size=n/\(∀t (_:t<r.tmps.size),TB P Γ' H' w' (env t) r.tmps[t]))
  (hmp:∀es,H'.get id=some (.mp es)->∃b,Γ' id=some (b,0,0)/\w'.heap[b]?=some (eU es))
  (hrsv:H'.get id=some .ni->Γ' id=none)
  (hinj:∀j b base n base' n',j≠id->Γ' id=some (b,base,n)->Γ j=some (b,base',n')->False)
  (hdom:∀x,Γ' id=some x->∃y,H'.get id=some y) (hlt:∀b base n,Γ' id=some (b,base,n)->b<w'.heap.size)
  (hnext:∀y,H'.get id=some y->id<H'.C):TG P G Γ' H' w' where
 L j g e cells hj:=by
  by_cases h:j=id
  ·subst h;exact harr g e cells hj
  ·rw[hget j h]at hj;have h1:=R.L j g e cells hj;rw[hΓ j h];cases hg:Γ j with
   |none=>rw[hg]at h1;exact h1
   |some x =>
    obtain⟨b,base,n⟩:=x;rw[hg]at h1;obtain⟨c,a1,a2,a3,a4⟩:=h1;exact⟨c,(hheap j b base n h hg).trans a1,a2,a3,fun i hi=>let ⟨cv,b1,b2⟩:=a4 i hi;⟨cv,b1,b2.aU E hn⟩⟩
 loop j st pend n env ps asg body hj:=by
  by_cases h:j=id
  ·subst h;exact hloop st pend n env ps asg body hj
  ·rw[hget j h]at hj;obtain⟨b,r,a1,a2,a3,a4,a5,a6,a7,a8,a9⟩:=R.loop j st pend n env ps asg body hj;exact⟨b,r,(hΓ j h).trans a1,(hheap j b 0 0 h a1).trans a2,a3,a4,a5,a6,a7,a8,fun t ht=>(a9 t ht).aU E hn⟩
 mp j es hj:=by
  by_cases h:j=id
  ·subst h;exact hmp es hj
  ·rw[hget j h]at hj;obtain⟨b,a1,a2⟩:=R.mp j es hj;exact⟨b,(hΓ j h).trans a1,(hheap j b 0 0 h a1).trans a2⟩
 ni j hj:=by
  by_cases h:j=id
  ·subst h;exact hrsv hj
  ·rw[hget j h]at hj;rw[hΓ j h];exact R.ni j hj
 inj i j b base n base' n' h1 h2:=by
  by_cases hi:i=id
  ·by_cases hj:j=id
   ·rw[hi,hj]
   ·rw[hi]at h1;rw[hΓ j hj]at h2;exact(hinj j b base n base' n' hj h1 h2).elim
  ·by_cases hj:j=id
   ·rw[hj]at h2;rw[hΓ i hi]at h1;exact(hinj i b base' n' base n hi h2 h1).elim
   ·rw[hΓ i hi]at h1;rw[hΓ j hj]at h2;exact R.inj i j b base n base' n' h1 h2
 nt j x hx:=by
  by_cases h:j=id
  ·subst h;exact hdom x hx
  ·rw[hΓ j h]at hx;rw[hget j h];exact R.nt j x hx
 lt j b base n hx:=by
  by_cases h:j=id
  ·subst h;exact hlt b base n hx
  ·rw[hΓ j h]at hx;exact P5 (R.lt j b base n hx) E.size
 C j y hy:=by
  by_cases h:j=id
  ·subst h;exact hnext y hy
  ·rw[hget j h]at hy;exact P5 (R.C j y hy) hn
 nr g cells hg:=(R.nr g cells hg).aU E hn
 gsz:=R.lf E
def ar.upd (Γ:ar)(id:Nat)(x:Option (Nat × Nat × Nat)):ar:=fun j=>if j=id then x else Γ j
def ar.cT (Γ:ar)(id:Nat)(x:Option (Nat × Nat × Nat)):Γ.upd id x id=x:=by simp[ar.upd]
def ar.fV (Γ:ar)(id:Nat)(x:Option (Nat × Nat × Nat)){j:Nat}(h:j≠id):Γ.upd id x j=Γ j:=by simp[ar.upd,h]
def tX {x0 y0:Nat}:om Γ w (Γ.upd id (some (w.heap.size,x0,y0))):=fun j b x y h hlt=>by
 by_cases hj:j=id
 ·subst hj;rw[ar.cT]at h;simp only[Option.some.injEq,Prod.mk.injEq]at h;omega
 ·rw[ar.fV _ _ _ hj]at h;exact⟨x,y,h⟩
def Dj {b0 x0 y0 x1 y1:Nat}(h0:Γ id=some (b0,x0,y0)):om Γ w (Γ.upd id (some (b0,x1,y1))):=fun j b x y h hlt=>by
 by_cases hj:j=id
 ·subst hj;rw[ar.cT]at h;simp only[Option.some.injEq,Prod.mk.injEq]at h;exact⟨x0,y0,by rw[h0,h.1]⟩
 ·rw[ar.fV _ _ _ hj]at h;exact⟨x,y,h⟩
def heap_alloc (w:World)(o:Obj)(b:Nat):(w.alloc o).heap[b]?=if b=w.heap.size then some o else w.heap[b]?:=by
 show (w.heap.push o)[b]?=_;rw[R7]
def mr {w:World}{o:Obj}(h:b<w.heap.size):(w.alloc o).heap[b]?=w.heap[b]?:=by
 rw[heap_alloc,PX U]
def gX {b:TE}(h:H.lay id b=some H'):
  (∀j,H'.get j=if j=id then some b else H.get j)/\((id=H.C/\H'.C=H.C+1)\/(H.get id=some .ni/\H'.C=H.C)):=by
 unfold Tz.lay at h;split at h
 ·rename_i hid;simp only[Option.some.injEq]at h;subst h;exact⟨fun j=>rfl,.inl ⟨hid,rfl⟩⟩
 ·split at h
  ·rename_i hr;simp only[Option.some.injEq]at h;subst h;exact⟨fun j=>rfl,.inr ⟨hr,rfl⟩⟩
  ·cases h
def ko (R:TG P G Γ H w){b:TE}(h:H.lay id b=some H'):Γ id=none/\(H.get id=none\/H.get id=some .ni)/\H.C<=H'.C/\id<H'.C:=by
 obtain⟨_,h2|h2⟩:=gX h
 ·have hn:H.get id=none:=by
   cases hg:H.get id with
   |none=>rfl
   |some y=>have:=R.C id y hg;omega
  have hΓ:Γ id=none:=by
   cases hg:Γ id with
   |none=>rfl
   |some x=>obtain⟨y,hy⟩:=R.nt id x hg;rw[hn]at hy;cases hy
  exact⟨hΓ,.inl hn,U,U⟩
 ·have:=R.C id _ h2.1;exact⟨R.ni id h2.1,.inr h2.1,U,U⟩
def ox {cells:List Ty}{c:Array Value}(R:TG P G Γ H w)(h:H.lay id (.L 0 e cells)=some H')
  (hlen:cells.length<=c.size) (hrel:∀i (_:i<cells.length),∃cv,c[i]?=some cv/\TB P Γ H w cells[i] cv):
  TJ Γ H w (Γ.upd id (some (w.heap.size,0,c.size))) H' (w.alloc (.cells c e))/\H.C<=H'.C /\
   TG P G (Γ.upd id (some (w.heap.size,0,c.size))) H' (w.alloc (.cells c e)):=by
 obtain⟨f1,f2,f3,f4⟩:=ko R h;obtain⟨hget,_⟩:=gX h;have E:TJ Γ H w (Γ.upd id (some (w.heap.size,0,c.size))) H' (w.alloc (.cells c e)):=by
  refine⟨rfl,rfl,rfl,Tu,fun b hb ho=>⟨mr hb,?_⟩,fun j hj hj' x' hx'=>?_,?_,qC rfl,tX⟩
  ·rintro⟨j,base,n,hj⟩;by_cases hji:j=id
   ·rw[hji,ar.cT]at hj;simp only[Option.some.injEq,Prod.mk.injEq]at hj;omega
   ·rw[ar.fV _ _ _ hji]at hj;exact ho ⟨j,base,n,hj⟩
  ·rw[hget]at hx';by_cases hji:j=id
   ·subst hji;rcases f2 with f2|f2
    ·obtain⟨_,h2|h2⟩:=gX h
     ·omega
     ·rw[f2]at h2;cases h2.1
    ·exact⟨.ni,f2,trivial⟩
   ·rw[PX hji]at hx';exact⟨x',hx',TE.qD (ar.fV _ _ _ hji) _⟩
  ·exact fun a _=>mo rfl (fun _ _ _ h=>by cases h;rfl) a
 refine⟨E,f3,R.lh (id:=id) E f3 (fun j hj=>by rw[hget,PX hj]) (fun j hj=>ar.fV _ _ _ hj)
  (fun j b base n hj hg=>mr (R.lt j b base n hg)) ?_ ?_ ?_ ?_ ?_ ?_ ?_ ?_⟩
 ·intro g e' cells' hg;rw[hget,PZ rfl]at hg;simp only[Option.some.injEq,TE.L.injEq]at hg;obtain⟨_,rfl,rfl⟩:=hg;rw[ar.cT];refine⟨c,by rw[heap_alloc,PZ rfl],rfl,U,fun i hi=>?_⟩;obtain⟨cv,h1,h2⟩:=hrel i hi;exact⟨cv,by rw[Nat.zero_add];exact h1,h2.aU E f3⟩
 ·intro st pend n env ps asg body hg;rw[hget,PZ rfl]at hg;cases hg
 ·intro es hg;rw[hget,PZ rfl]at hg;cases hg
 ·intro hg;rw[hget,PZ rfl]at hg;cases hg
 ·intro j b base n base' n' hj h1 h2;rw[ar.cT]at h1;simp only[Option.some.injEq,Prod.mk.injEq]at h1;have:=R.lt j b base' n' h2;omega
 ·exact fun x _=>⟨_,by rw[hget,PZ rfl]⟩
 ·intro b base n h1;rw[ar.cT]at h1;simp only[Option.some.injEq,Prod.mk.injEq]at h1;simp;omega
 ·exact fun _ _=>f4
def ab (H:Tz)(id:Nat)(b:TE)(j:Nat):(H.upd id b).get j=if j=id then some b else H.get j:=rfl
def tY {cells:List Ty}{base:Nat}(R:TG P G Γ H w)
  (hg:H.get id=some (.L g e cells)) (hΓ:Γ id=some (b,base,n)) (hlen:cells'.length=cells.length) (hsz:c'.size=n)
  (hrel:∀i (_:i<cells'.length),∃cv,c'[base+i]?=some cv/\TB P Γ H w cells'[i] cv):
  TJ Γ H w Γ (H.upd id (.L g e cells')) (bp w b (.cells c' e (0,0)))/\TG P G Γ (H.upd id (.L g e cells')) (bp w b (.cells c' e (0,0))):=by
 have hblk:=R.lt id b base n hΓ;have E:TJ Γ H w Γ (H.upd id (.L g e cells')) (bp w b (.cells c' e (0,0))):=by
  refine⟨rfl,rfl,rfl,by rw[gW];exact Nat.le_refl _,fun b' hb ho=>⟨?_,ho⟩,fun j hj hj' x' hx'=>?_,?_,?_,.refl _ _⟩
  ·rw[da,PX];rintro⟨rfl,_⟩;exact ho ⟨id,base,n,hΓ⟩
  ·rw[ab]at hx';by_cases hji:j=id
   ·subst hji;rw[PZ rfl]at hx';cases hx';exact⟨_,hg,Tx,fun _=>⟨rfl,rfl,hlen⟩⟩
   ·rw[PX hji]at hx';exact⟨x',hx',TE.le_refl _ _ _⟩
  ·have h0:=R.L id g e cells hg;rw[hΓ]at h0;obtain⟨c,a1,_⟩:=h0;exact fun a _=>ot a1 (fun _ _ _ h=>by cases h;rfl) (fun _ _ _ h=>by cases h;rfl) a
  ·have h0:=R.L id g e cells hg;rw[hΓ]at h0;obtain⟨c,a1,a2,_⟩:=h0;exact xI a1 (by rw[hsz,a2])
 have h0:=R.L id g e cells hg;rw[hΓ]at h0;obtain⟨c,a1,a2,a3,a4⟩:=h0;refine⟨E,R.lh (id:=id) E Tx (fun j hj=>by rw[ab,PX hj]) (fun j hj=>rfl)
  (fun j b' base' n' hj hg'=>?_) ?_ ?_ ?_ ?_ ?_ ?_ ?_ ?_⟩
 ·rw[da,PX];rintro⟨rfl,_⟩;exact hj (R.inj j id b' base' n' base n hg' hΓ)
 ·intro g' e' cells'' hg';rw[ab,PZ rfl]at hg';simp only[Option.some.injEq,TE.L.injEq]at hg';obtain⟨rfl,rfl,rfl⟩:=hg';rw[hΓ];refine⟨c',by rw[da,PZ ⟨rfl,hblk⟩],hsz,U,fun i hi=>?_⟩;obtain⟨cv,h1,h2⟩:=hrel i hi;exact⟨cv,h1,h2.aU E Tx⟩
 ·intro st pend n env ps asg body hg';rw[ab,PZ rfl]at hg';cases hg'
 ·intro es hg';rw[ab,PZ rfl]at hg';cases hg'
 ·intro hg';rw[ab,PZ rfl]at hg';cases hg'
 ·intro j b' base' n' base'' n'' hj h1 h2;rw[hΓ]at h1;simp only[Option.some.injEq,Prod.mk.injEq]at h1;obtain⟨rfl,rfl,rfl⟩:=h1;exact hj (R.inj j id _ _ _ _ _ h2 hΓ)
 ·exact fun x _=>⟨_,by rw[ab,PZ rfl]⟩
 ·intro b' base' n' h1;rw[gW];exact R.lt id b' base' n' h1
 ·exact fun _ _=>R.C id _ hg
def Dk {cells:List Ty}{base base':Nat}(R:TG P G Γ H w)
  (hg:H.get id=some (.L g e cells)) (hΓ:Γ id=some (b,base,n)) (hsz:c'.size=n) (hle:base'+cells'.length<=n)
  (hrel:∀i (_:i<cells'.length),∃cv,c'[base'+i]?=some cv/\TB P Γ H w cells'[i] cv):
  TJ Γ H w (Γ.upd id (some (b,base',n))) (H.upd id (.L (g+1) e cells')) (bp w b (.cells c' e (0,0))) /\
   TG P G (Γ.upd id (some (b,base',n))) (H.upd id (.L (g+1) e cells')) (bp w b (.cells c' e (0,0))):=by
 have hblk:=R.lt id b base n hΓ;have E:TJ Γ H w (Γ.upd id (some (b,base',n))) (H.upd id (.L (g+1) e cells')) (bp w b (.cells c' e (0,0))):=by
  refine⟨rfl,rfl,rfl,by rw[gW];exact Nat.le_refl _,fun b' hb ho=>⟨?_,?_⟩,fun j hj hj' x' hx'=>?_,?_,?_,Dj hΓ⟩
  ·rw[da,PX];rintro⟨rfl,_⟩;exact ho ⟨id,base,n,hΓ⟩
  ·rintro⟨j,base'',n'',hj⟩;by_cases hji:j=id
   ·rw[hji,ar.cT]at hj;simp only[Option.some.injEq,Prod.mk.injEq]at hj;exact ho ⟨id,base,n,by rw[hΓ,hj.1]⟩
   ·rw[ar.fV _ _ _ hji]at hj;exact ho ⟨j,base'',n'',hj⟩
  ·rw[ab]at hx';by_cases hji:j=id
   ·subst hji;rw[PZ rfl]at hx';cases hx';exact⟨_,hg,Rc _,fun h=>U⟩
   ·rw[PX hji]at hx';exact⟨x',hx',TE.qD (ar.fV _ _ _ hji) _⟩
  ·have h0:=R.L id g e cells hg;rw[hΓ]at h0;obtain⟨c,a1,_⟩:=h0;exact fun a _=>ot a1 (fun _ _ _ h=>by cases h;rfl) (fun _ _ _ h=>by cases h;rfl) a
  ·have h0:=R.L id g e cells hg;rw[hΓ]at h0;obtain⟨c,a1,a2,_⟩:=h0;exact xI a1 (by rw[hsz,a2])
 refine⟨E,R.lh (id:=id) E Tx (fun j hj=>by rw[ab,PX hj]) (fun j hj=>ar.fV _ _ _ hj)
  (fun j b' base' n' hj hg'=>?_) ?_ ?_ ?_ ?_ ?_ ?_ ?_ ?_⟩
 ·rw[da,PX];rintro⟨rfl,_⟩;exact hj (R.inj j id b' base' n' base n hg' hΓ)
 ·intro g' e' cells'' hg';rw[ab,PZ rfl]at hg';simp only[Option.some.injEq,TE.L.injEq]at hg';obtain⟨rfl,rfl,rfl⟩:=hg';rw[ar.cT];refine⟨c',by rw[da,PZ ⟨rfl,hblk⟩],hsz,hle,fun i hi=>?_⟩;obtain⟨cv,h1,h2⟩:=hrel i hi;exact⟨cv,h1,h2.aU E Tx⟩
 ·intro st pend n env ps asg body hg';rw[ab,PZ rfl]at hg';cases hg'
 ·intro es hg';rw[ab,PZ rfl]at hg';cases hg'
 ·intro hg';rw[ab,PZ rfl]at hg';cases hg'
 ·intro j b' base' n' base'' n'' hj h1 h2;rw[ar.cT]at h1;simp only[Option.some.injEq,Prod.mk.injEq]at h1;obtain⟨rfl,rfl,rfl⟩:=h1;exact hj (R.inj j id _ _ _ _ _ h2 hΓ)
 ·exact fun x _=>⟨_,by rw[ab,PZ rfl]⟩
 ·intro b' base'' n' h1;rw[ar.cT]at h1;simp only[Option.some.injEq,Prod.mk.injEq]at h1;rw[gW];omega
 ·exact fun _ _=>R.C id _ hg
def Dl {cells:List Ty}(R:TG P G Γ H w)
  (hg:H.get id=some (.L g e cells)) (hle:cells'.length<=c'.size)
  (hrel:∀i (_:i<cells'.length),∃cv,c'[i]?=some cv/\TB P Γ H w cells'[i] cv):
  TJ Γ H w (Γ.upd id (some (w.heap.size,0,c'.size))) (H.upd id (.L (g+1) e cells')) (w.alloc (.cells c' e)) /\
   TG P G (Γ.upd id (some (w.heap.size,0,c'.size))) (H.upd id (.L (g+1) e cells')) (w.alloc (.cells c' e)):=by
 have E:TJ Γ H w (Γ.upd id (some (w.heap.size,0,c'.size))) (H.upd id (.L (g+1) e cells')) (w.alloc (.cells c' e)):=by
  refine⟨rfl,rfl,rfl,Tu,fun b' hb ho=>⟨mr hb,?_⟩,fun j hj hj' x' hx'=>?_,?_,qC rfl,tX⟩
  ·rintro⟨j,base'',n'',hj⟩;by_cases hji:j=id
   ·rw[hji,ar.cT]at hj;simp only[Option.some.injEq,Prod.mk.injEq]at hj;omega
   ·rw[ar.fV _ _ _ hji]at hj;exact ho ⟨j,base'',n'',hj⟩
  ·rw[ab]at hx';by_cases hji:j=id
   ·subst hji;rw[PZ rfl]at hx';cases hx';exact⟨_,hg,Rc _,fun h=>U⟩
   ·rw[PX hji]at hx';exact⟨x',hx',TE.qD (ar.fV _ _ _ hji) _⟩
  ·exact fun a _=>mo rfl (fun _ _ _ h=>by cases h;rfl) a
 refine⟨E,R.lh (id:=id) E Tx (fun j hj=>by rw[ab,PX hj]) (fun j hj=>ar.fV _ _ _ hj)
  (fun j b' base' n' hj hg'=>mr (R.lt j b' base' n' hg')) ?_ ?_ ?_ ?_ ?_ ?_ ?_ ?_⟩
 ·intro g' e' cells'' hg';rw[ab,PZ rfl]at hg';simp only[Option.some.injEq,TE.L.injEq]at hg';obtain⟨rfl,rfl,rfl⟩:=hg';rw[ar.cT];refine⟨c',by rw[heap_alloc,PZ rfl],rfl,U,fun i hi=>?_⟩;obtain⟨cv,h1,h2⟩:=hrel i hi;exact⟨cv,by rw[Nat.zero_add];exact h1,h2.aU E Tx⟩
 ·intro st pend n env ps asg body hg';rw[ab,PZ rfl]at hg';cases hg'
 ·intro es hg';rw[ab,PZ rfl]at hg';cases hg'
 ·intro hg';rw[ab,PZ rfl]at hg';cases hg'
 ·intro j b' base' n' base'' n'' hj h1 h2;rw[ar.cT]at h1;simp only[Option.some.injEq,Prod.mk.injEq]at h1;have:=R.lt j _ _ _ h2;omega
 ·exact fun x _=>⟨_,by rw[ab,PZ rfl]⟩
 ·intro b' base'' n' h1;rw[ar.cT]at h1;simp only[Option.some.injEq,Prod.mk.injEq]at h1;simp;omega
 ·exact fun _ _=>R.C id _ hg
def qE (Γ:ar)(H:Tz)(w:World)(n:Nat):TJ Γ H w Γ H { w with drawn:=n } :=
 ⟨rfl,rfl,rfl,Tx,fun _ _ h=>⟨rfl,h⟩,fun _ _ _ x' h=>⟨x',h,TE.le_refl _ _ _⟩,fun _ _=>rfl,.refl _,.refl _ _⟩
def TG.drew (R:TG P G Γ H w)(n:Nat):TG P G Γ H { w with drawn:=n } :=
 R.lh (id:=H.C) (qE Γ H w n) Tx (fun _ _=>rfl) (fun _ _=>rfl) (fun _ _ _ _ _ _=>rfl)
  (fun g e cells h=>absurd (R.C _ _ h) (Se _)) (fun st pend n env ps asg body h=>absurd (R.C _ _ h) (Se _)) (fun es h=>absurd (R.C _ _ h) (Se _))
  (fun h=>absurd (R.C _ _ h) (Se _))
  (fun j b base n base' n' hj h1 h2=>by obtain⟨y,hy⟩:=R.nt _ _ h1;exact absurd (R.C _ _ hy) (Se _))
  (fun x hx=>R.nt _ x hx) (fun b base n hx=>R.lt _ b base n hx) (fun y hy=>R.C _ y hy)
def Dm (R:TG P G Γ H w)(h:H.lay id (.mp [])=some H'):
  TJ Γ H w (Γ.upd id (some (w.heap.size,0,0))) H' (w.alloc (eU []))/\H.C<=H'.C/\TG P G (Γ.upd id (some (w.heap.size,0,0))) H' (w.alloc (eU [])):=by
 obtain⟨f1,f2,f3,f4⟩:=ko R h;obtain⟨hget,hor⟩:=gX h;have E:TJ Γ H w (Γ.upd id (some (w.heap.size,0,0))) H' (w.alloc (eU [])):=by
  refine⟨rfl,rfl,rfl,Tu,fun b hb ho=>⟨mr hb,?_⟩,fun j hj hj' x' hx'=>?_,?_,qC rfl,tX⟩
  ·rintro⟨j,base,n,hj⟩;by_cases hji:j=id
   ·rw[hji,ar.cT]at hj;simp only[Option.some.injEq,Prod.mk.injEq]at hj;omega
   ·rw[ar.fV _ _ _ hji]at hj;exact ho ⟨j,base,n,hj⟩
  ·rw[hget]at hx';by_cases hji:j=id
   ·subst hji;rcases f2 with f2|f2
    ·rcases hor with ⟨h1,h2⟩|h2
     ·omega
     ·rw[f2]at h2;cases h2.1
    ·exact⟨.ni,f2,trivial⟩
   ·rw[PX hji]at hx';exact⟨x',hx',TE.qD (ar.fV _ _ _ hji) _⟩
  ·exact fun a _=>mo rfl (fun _ _ _ h=>by cases h) a
 refine⟨E,f3,R.lh (id:=id) E f3 (fun j hj=>by rw[hget,PX hj]) (fun j hj=>ar.fV _ _ _ hj)
  (fun j b base n hj hg=>mr (R.lt j b base n hg)) ?_ ?_ ?_ ?_ ?_ ?_ ?_ ?_⟩
 ·intro g e' cells' hg;rw[hget,PZ rfl]at hg;cases hg
 ·intro st pend n env ps asg body hg;rw[hget,PZ rfl]at hg;cases hg
 ·intro es hg;rw[hget,PZ rfl]at hg;cases hg;exact⟨w.heap.size,ar.cT _ _ _,by rw[heap_alloc,PZ rfl]⟩
 ·intro hg;rw[hget,PZ rfl]at hg;cases hg
 ·intro j b base n base' n' hj h1 h2;rw[ar.cT]at h1;simp only[Option.some.injEq,Prod.mk.injEq]at h1;have:=R.lt j b base' n' h2;omega
 ·exact fun x _=>⟨_,by rw[hget,PZ rfl]⟩
 ·intro b base n h1;rw[ar.cT]at h1;simp only[Option.some.injEq,Prod.mk.injEq]at h1;simp;omega
 ·exact fun _ _=>f4
def qF {es:List (Int × Int)}(es':List (Int × Int))(R:TG P G Γ H w)(hg:H.get id=some (.mp es))(hΓ:Γ id=some (b,0,0))(hb:w.heap[b]?=some (eU es)):
  TJ Γ H w Γ (H.upd id (.mp es')) (bp w b (eU es'))/\TG P G Γ (H.upd id (.mp es')) (bp w b (eU es')):=by
 have hblk:=R.lt id b 0 0 hΓ;have E:TJ Γ H w Γ (H.upd id (.mp es')) (bp w b (eU es')):=by
  refine⟨rfl,rfl,rfl,by rw[gW];exact Nat.le_refl _,fun b' hb ho=>⟨?_,ho⟩,fun j hj hj' x' hx'=>?_,?_,tU hb fun _ _ _ h=>(by cases h),.refl _ _⟩
  ·rw[da,PX];rintro⟨rfl,_⟩;exact ho ⟨id,0,0,hΓ⟩
  ·rw[ab]at hx';by_cases hji:j=id
   ·subst hji;rw[PZ rfl]at hx';cases hx';exact⟨_,hg,rfl⟩
   ·rw[PX hji]at hx';exact⟨x',hx',TE.le_refl _ _ _⟩
  ·exact fun a _=>ot hb (fun _ _ _ h=>by cases h) (fun _ _ _ h=>by cases h) a
 refine⟨E,R.lh (id:=id) E Tx (fun j hj=>by rw[ab,PX hj]) (fun j hj=>rfl)
  (fun j b' base' n' hj hg'=>?_) ?_ ?_ ?_ ?_ ?_ ?_ ?_ ?_⟩
 ·rw[da,PX];rintro⟨rfl,_⟩;exact hj (R.inj j id b' base' n' 0 0 hg' hΓ)
 ·intro g' e' cells'' hg';rw[ab,PZ rfl]at hg';cases hg'
 ·intro st pend n env ps asg body hg';rw[ab,PZ rfl]at hg';cases hg'
 ·intro es2 hg';rw[ab,PZ rfl]at hg';cases hg';exact⟨b,hΓ,by rw[da,PZ ⟨rfl,hblk⟩]⟩
 ·intro hg';rw[ab,PZ rfl]at hg';cases hg'
 ·intro j b' base' n' base'' n'' hj h1 h2;rw[hΓ]at h1;simp only[Option.some.injEq,Prod.mk.injEq]at h1;obtain⟨rfl,rfl,rfl⟩:=h1;exact hj (R.inj j id _ _ _ _ _ h2 hΓ)
 ·exact fun x _=>⟨_,by rw[ab,PZ rfl]⟩
 ·intro b' base' n' h1;rw[gW];exact R.lt id b' base' n' h1
 ·exact fun _ _=>R.C id _ hg
end Go.Hx
namespace Go.Hx
def aj (G:Nat->Option (List Ty))(ρ:Env):Operand->Ty
 |.tmp t=>ρ t
 |.const v=>.lit v
 |.global g=>match G g with|some cells=>.nc cells 0|none=>.lit (.pointer (some ⟨g,0,none⟩))
 |.func f=>.nl f [] []
def bC (P:Program)(t:TypeId):Option (List Ty) :=
 match P.info? t with
 |some i=>match i.zero with
  |some z=>if z.cells.size=i.size then some (z.cells.toList.map .lit) else none
  |none=>none
 |none=>none
def iq (P:Program)(t:TypeId)(n:Nat):Option (List Ty):=(bC P t).map fun z=>(List.replicate n z).flatten
def ir (P:Program)(t:TypeId):Option (List (Nat × Nat)) :=
 match P.underlying t with
 |some (.struct fs)=>if fs.toList.all fun f=>(P.info? f.type).isSome then some (fs.toList.map fun f=>(f.offset,P.cellsOf f.type)) else none
 |_=>none
def bz (P:Program)(t:TypeId)(i:Nat):Option (Nat × TypeId) :=
 match P.underlying t with
 |some (.struct fs)=>match fs[i]? with
  |some f=>if (P.info? f.type).isSome/\P.cellsOf f.type≠0 then some (f.offset,f.type) else none
  |none=>none
 |_=>none
def Tz.Z (H:Tz)(id gen:Nat):Option (TypeId × List Ty) :=
 match H.get id with
 |some (.L g e cells)=>if g=gen then some (e,cells) else none
 |_=>none
def bF:Option Ty->Nat->Nat->Option Nat
 |none,d,_=>some d
 |some (.lit (.int _ i)),_,m=>if 0<=i/\i<=(m:Int) then some i.toNat else none
 |_,_,_=>none
def kq (P:Program)(H:Tz)(t:TypeId)(x:Ty)(i:Int):Option Ty :=
 match P.underlying t with
 |some (.array n e) =>
  if 0<=i/\i<(n:Int)/\(P.underlying e).isSome then
   match x with
   |.Y id gen off=>(H.Z id gen).map fun _=>.Y id gen (off+i.toNat*P.cellsOf e)
   |.nc cells off=>some (.nc cells (off+i.toNat*P.cellsOf e))
   |_=>none
  else none
 |some (.slice e) =>
  if (P.underlying e).isSome then
   match x with
   |.V id gen off len sz=>if 0<=i/\i<(len:Int)/\sz=P.cellsOf e then (H.Z id gen).map fun _=>.Y id gen (off+i.toNat*P.cellsOf e) else none
   |.M len cells=>if 0<=i/\i<(len:Int)/\cells≠[] then some (.nc cells (i.toNat*P.cellsOf e)) else none
   |_=>none
  else none
 |_=>none
def jy (P:Program)(H:Tz)(t:TypeId)(x:Ty)(lo hi:Option Ty):Option Ty :=
 match P.underlying t with
 |some (.array n e) =>
  if (P.underlying e).isSome then
   match x with
   |.Y id gen off =>
    match H.Z id gen with
    |some (_,cells) =>
     if off+n*P.cellsOf e<=cells.length then
      (bF hi n n).bind fun h=>(bF lo 0 h).map fun l=>.V id gen (off+l*P.cellsOf e) (h-l) (P.cellsOf e)
     else none
    |none=>none
   | .nc cells off=>if off+n*P.cellsOf e≤cells.length then
      (bF hi n n).bind fun h=>(bF lo 0 h).map fun l=>.M (h-l) ((cells.drop (off+l*P.cellsOf e)).take ((h-l)*P.cellsOf e))
     else none
   |_=>none
  else none
 |some (.slice e) =>
  if (P.underlying e).isSome then
   match x with
   |.V id gen off len sz=>if sz=P.cellsOf e then (H.Z id gen).bind fun _=>(bF hi len len).bind fun h=>(bF lo 0 h).map fun l=>.V id gen (off+l*sz) (h-l) sz else none
   |.M len cells=>if cells.length=len*P.cellsOf e then (bF hi len len).bind fun h=>(bF lo 0 h).map fun l=>.M (h-l) ((cells.drop (l*P.cellsOf e)).take ((h-l)*P.cellsOf e)) else none
   |.lit (.slice none 0 0)=>(bF hi 0 0).bind fun h=>(bF lo 0 h).map fun _=>.lit (.slice none 0 0)
   |_=>none
  else none
 |some .string =>
  match x with
  |.lit (.string s)=>(bF hi s.size s.size).bind fun h=>(bF lo 0 h).map fun l=>.lit (.string (s.extract l h))
  |_=>none
 |_=>none
def bW (H:Tz)(sz:Nat):Ty->Option (Nat × List Ty)
 |.M len cells=>if cells.length=len*sz then some (len,cells) else none
 |.V id gen off len sz'=>if sz'=sz then (H.Z id gen).map fun x=>(len,(x.2.drop off).take (len*sz)) else none
 |.lit (.slice none 0 0)=>some (0,[])
 |_=>none
def bd (P:Program)(H:Tz)(id:Nat)(at0 at1:TypeId)(s x:Ty):Option (Ty × Tz) :=
 match P.underlying at0 with
 |some (.slice e) =>
  match P.underlying at1 with
  |some (.slice _) =>
   (bC P e).bind fun _ =>
   (bW H (P.cellsOf e) x).bind fun nx =>
    match s with
    |.lit (.slice none 0 0) =>
     if nx.1=0 then some (s,H)
     else if nx.1*P.bytesOf e<=2 ^ 47/\nx.1<=2 ^ 47 then (H.lay id (.L 0 e nx.2)).map fun H'=>(.V id 0 0 nx.1 (P.cellsOf e),H')
     else none
    |.V id' gen off len sz =>
     (H.Z id' gen).bind fun ec =>
      if ec.1=e/\sz=P.cellsOf e/\off+len*sz=ec.2.length/\(len+nx.1)*P.bytesOf e<=2 ^ 47/\len+nx.1<=2 ^ 47/\nx.2.all Ty.one=true then
       if nx.1=0 then some (s,H)
       else some (.V id' (gen+1) 0 (len+nx.1) sz,H.upd id' (.L (gen+1) e (ec.2.drop off++nx.2)))
      else none
    |_=>none
  |_=>none
 |_=>none
def iT (P:Program)(H:Tz)(at0:TypeId)(d x:Ty):Option (Ty × Tz) :=
 match P.underlying at0 with
 |some (.slice e) =>
  if (P.underlying e).isSome then
   (bW H (P.cellsOf e) x).bind fun nx =>
    match d with
    |.V id gen off len sz =>
     (H.Z id gen).bind fun ec =>
      if sz=P.cellsOf e/\off+len*sz<=ec.2.length/\nx.2.all Ty.one=true then
       some (.lit (.int .i64 (min nx.1 len:Nat)),H.upd id (.L gen ec.1 (setAt ec.2 off (nx.2.take (min nx.1 len*sz)))))
      else none
    |_=>none
  else none
 |_=>none
def jz (P:Program)(H:Tz)(t:TypeId)(x:Ty):Option Ty :=
 match P.underlying t with
 |some (.slice _) =>
  match x with
  |.M len _=>some (.lit (.int .i64 len))
  |.V id gen _ len _=>(H.Z id gen).map fun _=>.lit (.int .i64 len)
  |.lit (.slice none 0 0)=>some (.lit (.int .i64 0))
  |_=>none
 |some .string =>
  match x with
  |.lit (.string s)=>some (.lit (.int .i64 s.size))
  |_=>none
 |some (.array n _)=>some (.lit (.int .i64 n))
 |_=>none
def oy (P:Program)(t:TypeId):Bool:=match P.underlying t with
 |some (.map kt et)=>(match P.underlying kt with|some (.int .i64)=>true|_=>false) && (match (P.info? et).bind (·.zero) with|some (.int .i64 0)=>true|_=>false)
 |_=>false
def gp (k:Int):Nat->List (Int × Int)->Option (Nat × Int)
 |_,[]=>none
 |i,(a,v) :: l=>if k=a then some (i,v) else gp k (i+1) l
def tZ (es:List (Int × Int))(k v:Int):List (Int × Int):=match gp k 0 es with
 |some (i,_)=>es.set i (k,v)
 |none=>es++[(k,v)]
def ua (es:List (Int × Int))(i:Nat)(v:Int):List (Int × Int):=match es[i]? with
 |some (k,_)=>es.set i (k,v)
 |none=>es
def qG (ok:Bool)(r:Option (Nat × Int)):Ty:=match r with
 |some (_,v)=>if ok then .nf [.lit (.int .i64 v),.lit (.bool true)] else .lit (.int .i64 v)
 |none=>if ok then .nf [.lit (.int .i64 0),.lit (.bool false)] else .lit (.int .i64 0)
def mu (P:Program)(H:Tz)(t:TypeId)(x i:Ty)(ok:Bool):Option Ty:=if oy P t=true then
  match x,i with
  |.lit (.map none),.lit (.int .i64 _)=>some (qG ok none)
  |.ng id,.lit (.int .i64 k)=>match H.get id with
   |some (.mp es)=>some (qG ok (gp k 0 es))
   |_=>none
  |_,_=>none
 else none
def jA (P:Program)(H:Tz)(t:TypeId)(m k x:Ty):Option (Ty × Tz):=if oy P t=true then
  match m,k,x with
  |.ng id,.lit (.int .i64 k),.lit (.int .i64 v)=>match H.get id with
   |some (.mp es)=>some (.lit undef,H.upd id (.mp (tZ es k v)))
   |_=>none
  |_,_,_=>none
 else none
def lj (P:Program)(H:Tz)(t:TypeId)(m k:Ty):Option (Ty × Tz):=if oy P t=true then
  match m,k with
  |.ng id,.lit (.int .i64 k)=>match H.get id with
   |some (.mp es)=>match gp k 0 es with
    |some (i,v)=>some (.nf [.lit (.int .i64 v),.lit (.int .i64 i)],H.upd id (.mp es))
    |none=>some (.nf [.lit (.int .i64 0),.lit (.int .i64 es.length)],H.upd id (.mp (es++[(k,0)])))
   |_=>none
  |_,_=>none
 else none
def mv (H:Tz)(m s x:Ty):Option (Ty × Tz) :=
 match m,s,x with
 |.ng id,.lit (.int .i64 s),.lit (.int .i64 v)=>match H.get id with
  |some (.mp es)=>if 0<=s/\s<es.length then some (.lit undef,H.upd id (.mp (ua es s.toNat v))) else none
  |_=>none
 |_,_,_=>none
def iU (P:Program)(H:Tz)(at0:TypeId)(d:Ty):Option (Ty × Tz) :=
 match P.underlying at0 with
 |some (.slice e) =>
  match d with
  |.lit (.slice none 0 0)=>some (.nf [],H)
  |.V id gen off len sz =>
   (H.Z id gen).bind fun ec =>
    if len=0 then some (.nf [],H)
    else (iq P e len).bind fun z =>
     if z.length=len*sz/\off+len*sz<=ec.2.length/\z.all Ty.one=true then some (.nf [],H.upd id (.L gen ec.1 (setAt ec.2 off z)))
     else none
  |_=>none
 |_=>none
def mw:List Ty->Option (List Value)
 | []=>some []
 |v :: r=>(v.bS).bind fun x=>(mw r).map (x :: ·)
def eV (P:Program)(H:Tz)(id:Nat)(b:Builtin)(ats:List TypeId)(args:List Ty):Option (Ty × Tz) :=
 match b,ats,args with
 |.len,[t],[x]=>(jz P H t x).map fun v=>(v,H)
 |.append,[t,u],[s,x]=>bd P H id t u s x
 |.copy,[t,_],[d,x]=>iT P H t d x
 |.clear,[t],[d]=>iU P H t d
 |.min,_,args=>(mw args).bind fun vs=>(b9 P (Builtin.min_ #[] 0 vs.toArray)).map fun v=>(.lit v,H)
 |.max,_,args=>(mw args).bind fun vs=>(b9 P (Builtin.max_ #[] 0 vs.toArray)).map fun v=>(.lit v,H)
 |_,_,_=>none
def gY (P:Program)(H:Tz)(id:Nat)(t:TypeId)(l c:Ty):Option (Ty × Tz) :=
 match P.underlying t,l,c with
 |some (.slice e),.lit (.int _ l),.lit (.int _ c) =>
  if 0<=l/\l<=c/\c*P.bytesOf e<=2 ^ 46/\c<=2 ^ 46 then
   (iq P e l.toNat).bind fun cells=>(H.lay id (.L 0 e cells)).map fun H'=>(.V id 0 0 l.toNat (P.cellsOf e),H')
  else none
 |_,_,_=>none
def my (P:Program)(t:TypeId)(parts:List (Nat × Ty)):Option Ty :=
 (bC P t).bind fun z =>
  match P.underlying t with
  |some (.struct _)=>(ir P t).bind fun pl=>(dR (fun i=>pl[i]?) z parts).map .agg
  |some (.array _ e)=>if (P.underlying e).isSome then (dR (fun i=>some (i*P.cellsOf e,P.cellsOf e)) z parts).map .agg else none
  |_=>none
def ix (P:Program)(H:Tz)(id:Nat)(t:TypeId)(len:Nat)(parts:List (Nat × Ty)):Option (Ty × Tz) :=
 match P.underlying t with
 |some (.slice e) =>
  if len*P.cellsOf e<=2 ^ 24 then
   (iq P e len).bind fun z=>(dR (fun i=>some (i*P.cellsOf e,P.cellsOf e)) z parts).bind fun cells =>
    (H.lay id (.L 0 e cells)).map fun H'=>(.V id 0 0 len (P.cellsOf e),H')
  else none
 |_=>none
def bg (P:Program)(op:BinOp)(t:TypeId)(x y:Operand)(a b:Ty):Option Ty :=
 match a.bS,b.bS with
 |some a,some b=>(b9 P (do eqGuard op t x y a b;binOp op t a b)).map .lit
 |_,_=>none
def oz (P:Program)(op:UnOp)(a:Ty):Option Ty :=
 match a.bS with
 |some a=>(b9 P (Op.unary op a)).map .lit
 |none=>none
def iV (P:Program)(s d:TypeId)(a:Ty):Option Ty :=
 match a.bS with
 |some a=>(b9 P (convert s d a)).map .lit
 |none=>none
def mz:List Ty->Option (List Int)
 | []=>some []
 |.lit (.int .u8 n) :: l=>(mz l).map (n :: ·)
 |_ :: _=>none
def xL (l:List Int):ByteArray:=l.foldl (fun r n=>r.push (UInt8.ofNat n.toNat)) ByteArray.empty
def xM (P:Program)(s d:TypeId):Bool:=match P.underlying s,P.underlying d with
 |some (.slice e),some .string=>match P.underlying e with
  |some (.int .u8)=>true
  |_=>false
 |_,_=>false
def kv (P:Program)(H:Tz)(s d:TypeId)(x:Ty):Option Ty :=
 if xM P s d then (bW H 1 x).bind fun nl=>(mz nl.2).map fun l=>.lit (.string (xL l)) else none
def iy (P:Program)(H:Tz)(s d:TypeId)(x:Ty):Option Ty:=match x with
 |.V id g o l z=>kv P H s d (.V id g o l z)
 |.M l c=>kv P H s d (.M l c)
 |x=>iV P s d x
def iz (H:Tz):Ty->Option Ty
 |.Y id gen off=>(H.Z id gen).map fun _=>.Y id gen off
 |.nc cells off=>some (.nc cells off)
 |.nl f a b=>some (.nl f a b)
 |_=>none
def oA (P:Program)(t:TypeId)(x:Ty)(i:Ty):Option Ty :=
 match x,i with
 |.agg cells,.lit (.int _ i) =>
  match P.underlying t with
  |some (.array n e)=>if 0<=i/\i<(n:Int) then dQ P e cells (i.toNat*P.cellsOf e) else none
  |_=>none
 |.lit v,.lit i=>(b9 P (Instr.index t v i)).map .lit
 |_,_=>none
def jC:Ty->Nat->Option Ty
 |.nf vs,i=>vs[i]?
 |.lit (.tuple vs),i=>(vs[i]?).map .lit
 |_,_=>none
def ah (P:Program)(G:Nat->Option (List Ty))(ρ:Env)(H:Tz)(id:Nat)(o:Op):Option (Ty × Tz) :=
 match o with
 |.move x|.assign x=>some (aj G ρ x,H)
 |.pick c a b=>match aj G ρ c with
  |.lit (.bool t)=>some (if t then aj G ρ a else aj G ρ b,H)
  |_=>none
 |.alloc e=>(bC P e).bind fun z=>(H.lay id (.L 0 e z)).map fun H'=>(.Y id 0 0,H')
 |.box e x=>(H.lay id (.L 0 e (aj G ρ x).cells)).map fun H'=>(.Y id 0 0,H')
 |.build t parts=>(my P t (parts.toList.map fun p=>(p.1,aj G ρ p.2))).map fun v=>(v,H)
 |.buildSlice t len parts=>ix P H id t len (parts.toList.map fun p=>(p.1,aj G ρ p.2))
 |.load t a=>(ei P H t (aj G ρ a)).map fun v=>(v,H)
 |.store t a x=>if (P.underlying t).isSome then (fU P H t (aj G ρ a) (aj G ρ x)).map fun H'=>(.lit undef,H') else none
 |.nilCheck x=>(iz H (aj G ρ x)).map fun v=>(v,H)
 |.binOp op t x y _=>(bg P op t x y (aj G ρ x) (aj G ρ y)).map fun v=>(v,H)
 |.unOp op _ x=>(oz P op (aj G ρ x)).map fun v=>(v,H)
 |.convert s d x=>(iy P H s d (aj G ρ x)).map fun v=>(v,H)
 |.makeInterface t x=>match (aj G ρ x).bS with
  |some v=>(b9 P (Instr.makeInterface t v)).map fun r=>(.lit r,H)
  |none=>none
 |.makeFunc fn first captured=>match fn with
  |.func f=>some (.nl f (first.toList.map (aj G ρ)) (captured.toList.map (aj G ρ)),H)
  |_=>none
 |.makeSlice t l c=>gY P H id t (aj G ρ l) (aj G ρ c)
 |.slice t x lo hi mx=>match mx with
  |none=>(jy P H t (aj G ρ x) (lo.map (aj G ρ)) (hi.map (aj G ρ))).map fun v=>(v,H)
  |some _=>none
 |.fieldAddr s x f=>(bz P s f).bind fun of=>match aj G ρ x with
  |.Y id gen off=>(H.Z id gen).map fun _=>(.Y id gen (off+of.1),H)
  |.nc cells off=>some (.nc cells (off+of.1),H)
  |_=>none
 |.field t x f=>(bz P t f).bind fun of=>match aj G ρ x with
  |.agg cells=>(dQ P of.2 cells of.1).map fun v=>(v,H)
  |.lit (.agg cs)=>(dQ P of.2 (cs.toList.map .lit) of.1).map fun v=>(v,H)
  |_=>none
 |.indexAddr t x i=>match aj G ρ i with
  |.lit (.int _ i)=>(kq P H t (aj G ρ x) i).map fun v=>(v,H)
  |_=>none
 |.index t x i=>(oA P t (aj G ρ x) (aj G ρ i)).map fun v=>(v,H)
 |.extract t i=>(jC (aj G ρ t) i).map fun v=>(v,H)
 |.makeMap _ r=>match r with
  |none=>(H.lay id (.mp [])).map fun H'=>(.ng id,H')
  |some _=>none
 |.lookup t x i ok=>(mu P H t (aj G ρ x) (aj G ρ i) ok).map fun v=>(v,H)
 |.mapUpdate t m k x|.insert t m k x=>jA P H t (aj G ρ m) (aj G ρ k) (aj G ρ x)
 |.mapEntry t m k=>lj P H t (aj G ρ m) (aj G ρ k)
 |.entryStore _ m s x=>mv H (aj G ρ m) (aj G ρ s) (aj G ρ x)
 |.call c=>match c.callee with
  |.builtin b=>eV P H id b c.argTypes.toList (c.args.toList.map (aj G ρ))
  |_=>none
 |_=>none
end Go.Hx
namespace Go.Hx
variable {P:Program} {G:Nat->Option (List Ty)} {Γ Γ':ar} {H H':Tz} {w w':World}
variable {c:Array Value}{b base gen id n o off:Nat}{a v:Ty}{e t:TypeId}{ca cv:Value}
def gq {cells:List Ty}(h:H.Z id gen=some (e,cells)):H.get id=some (.L gen e cells):=by
 unfold Tz.Z at h;split at h
 ·rename_i g e' cells' hg;split at h
  ·rename_i hgg;simp only[Option.some.injEq,Prod.mk.injEq]at h;rw[hg,hgg,h.1,h.2]
  ·cases h
 ·cases h
def TU (P:Program)(Γ:ar)(H:Tz)(w:World)(b o:Nat)(cells:List Ty):Prop :=
 ∃cs:List Value,cs.length=cells.length/\(∀i (h:i<cs.length),w.cell? ⟨b,o+i,none⟩=some cs[i]) /\
  ∀i (_:i<cells.length) (_:i<cs.length),TB P Γ H w cells[i] cs[i]
def Dn {f:Nat × Nat}{cells:List Ty}(hb:w.heap[b]?=some (.cells c e f))(hle:base+cells.length<=c.size)
  (hrel:∀i (_:i<cells.length),∃cv,c[base+i]?=some cv/\TB P Γ H w cells[i] cv):TU P Γ H w b base cells:=by
 refine⟨(c.toList.drop base).take cells.length,by simp;omega,fun i hi=>?_,fun i h1 h2=>?_⟩
 ·rw[xJ hb];simp only[P9,QJ,Rp]at hi;simp only[RE,RU,QQ];rw[P6 U]
 ·obtain⟨cv,a1,a2⟩:=hrel i h1;simp only[RE,RU,QQ];rw[P6 U]at a1;simp only[Option.some.injEq]at a1;rw[a1];exact a2
theorem TU.drop {cells:List Ty}(h:TU P Γ H w b o cells)(k n:Nat)(hk:k+n<=cells.length):TU P Γ H w b (o+k) ((cells.drop k).take n):=by
 obtain⟨cs,h1,h2,h3⟩:=h;refine⟨(cs.drop k).take n,by simp[h1],fun i hi=>?_,fun i a1 a2=>?_⟩
 ·simp only[P9,QJ]at hi;have:=h2 (k+i) U;simp only[RE,RU];rw[<- this];congr 2;omega
 ·simp only[RE,RU];simp only[P9,QJ]at a1 a2;exact h3 (k+i) U (U)
def qH {cells:List Ty}(hp:dQ P t cells off=some v)(hr:TU P Γ H w b o cells):
  ∃cv,(loadVar t ⟨b,o+off,none⟩).run P w=.ok cv w/\TB P Γ H w v cv:=by
 unfold dQ at hp;split at hp
 ·cases hp
 ·rename_i d hd;split at hp
  ·rename_i ha;split at hp
   ·rename_i hle;simp only[Option.some.injEq]at hp;subst hp;obtain⟨cs,h1,h2,h3⟩:=hr.drop off (P.cellsOf t) hle;refine⟨.agg cs.toArray,C6 hd ha ?_ h2,.agg h1 h3⟩;rw[h1];simp;omega
   ·cases hp
  ·rename_i ha;obtain⟨cs,h1,h2,h3⟩:=hr;obtain⟨hlt,hv⟩:=Qs.1 hp;subst hv;exact⟨cs[off]' U,C7 hd (by simpa using ha) (h2 off U),h3 off hlt U⟩
def mA {cells:List Ty}(h:TB P Γ H w (.Y id gen off) cv)(hl:H.Z id gen=some (e,cells)):
  ∃b base n,Γ id=some (b,base,n)/\cv=.pointer (some ⟨b,base+off,none⟩):=by
 cases h with
 |Y h=>exact(h.2.2.2 gen e cells (gq hl)).2 rfl
def gZ {len sz:Nat}{cells:List Ty}(h:TB P Γ H w (.V id gen off len sz) cv)(hl:H.Z id gen=some (e,cells)):
  (∃b base n a cap,Γ id=some (b,base,n)/\cv=.slice (some a) len cap/\len<=cap/\off+len*sz<=cells.length /\
   ((a=⟨b,base+off,none⟩/\base+off+cap*sz<=n)\/(len=0/\cap=0))) \/
  (Γ id=none/\off=0/\len=0/\cv=.slice none 0 0):=by
 cases h with
 |V h =>
  have:=(h.2.2.2 gen e cells (gq hl)).2 rfl;cases hg:Γ id with
  |none=>rw[hg]at this;exact .inr ⟨rfl,this⟩
  |some x =>
   obtain⟨b,base,n⟩:=x;rw[hg]at this;obtain⟨a,cap,h1,h2,h3,h4⟩:=this;exact .inl ⟨b,base,n,a,cap,rfl,h1,h2,h3,h4⟩
def mB (R:TG P G Γ H w){cells:List Ty}(hl:H.Z id gen=some (e,cells))(hΓ:Γ id=some (b,base,n)):
  ∃c,w.heap[b]?=some (.cells c e (0,0))/\c.size=n/\base+cells.length<=n/\∀i (_:i<cells.length),∃cv,c[base+i]?=some cv/\TB P Γ H w cells[i] cv:=by
 have:=R.L id gen e cells (gq hl);rw[hΓ]at this;exact this
def oB (R:TG P G Γ H w){cells:List Ty}(hl:H.Z id gen=some (e,cells))(hΓ:Γ id=some (b,base,n)):
  TU P Γ H w b base cells:=by
 obtain⟨c,h1,h2,h3,h4⟩:=mB R hl hΓ;exact Dn h1 U h4
def Do (R:TG P G Γ H w)(h:ei P H t a=some v)(ha:TB P Γ H w a ca):
  ∃cv,(Instr.loadAt t ca).run P w=.ok cv w/\TB P Γ H w v cv:=by
 unfold ei at h;split at h
 ·rename_i id gen off;split at h
  ·rename_i g e cells hg;split at h
   ·rename_i hgg;have hl:H.Z id gen=some (e,cells):=(by simp[Tz.Z,hg,hgg]);obtain⟨b,base,n,hΓ,rfl⟩:=mA ha hl;obtain⟨cv,h1,h2⟩:=qH h (oB R hl hΓ);refine⟨cv,?_,h2⟩;unfold Instr.loadAt Instr.sureAddr;exact h1
   ·cases h
  ·cases h
 ·rename_i cells off;cases ha with
  |nc hb hlt hcs hcell hrel =>
   obtain⟨cv,h1,h2⟩:=qH h ⟨_,hcs,hcell,hrel⟩;exact⟨cv,h1,h2⟩
 ·cases h
def qI {cells:List Ty}{cs:List Value}(h:cells.all Ty.one=true)(hl:cs.length=cells.length)
  (hr:∀i (_:i<cells.length) (_:i<cs.length),TB P Γ H w cells[i] cs[i]):∀v,v∈cs->v.oneCell=true:=by
 intro v hv;obtain⟨i,hi,rfl⟩:=List.getElem_of_mem hv;exact(hr i U hi).one (Qt.1 h _ (Qn U))
def qJ {cells vs:List Ty}{cvs:List Value}(hle:off+vs.length<=cells.length)(hc:base+cells.length<=c.size)
  (hl:cvs.length=vs.length) (hrel:∀i (_:i<cells.length),∃cv,c[base+i]?=some cv/\TB P Γ H w cells[i] cv)
  (hv:∀i (_:i<vs.length) (_:i<cvs.length),TB P Γ H w vs[i] cvs[i]):
  ∀i (_:i<(setAt cells off vs).length),∃cv,(setRow c (base+off) cvs)[base+i]?=some cv/\TB P Γ H w (setAt cells off vs)[i] cv:=by
 intro i hi;have hi':=hi;rw[mq hle]at hi';rw[xG _ _ _ U];have hg:(setAt cells off vs)[i]?=some (setAt cells off vs)[i]:=PV hi;rw[Db hle]at hg;by_cases h1:off<=i/\i<off+vs.length
 ·rw[PZ h1]at hg;rw[PZ U];have h2:i-off<vs.length:=U
  rw[PV h2]at hg;simp only[Option.some.injEq]at hg;rw[<- hg];refine⟨cvs[i-off]' U,?_,hv _ h2 U⟩;rw[show base+i-(base+off)=i-off from by omega,PV U]
 ·rw[PX h1,PV hi']at hg;rw[PX U];simp only[Option.some.injEq]at hg;rw[<- hg];exact hrel i hi'
def Dp (R:TG P G Γ H w)(h:fU P H t a v=some H')(ht:∃i,P.info? t=some i)(ha:TB P Γ H w a ca)(hv:TB P Γ H w v cv):
  ∃w',(Instr.storeAt t ca cv).run P w=.ok () w'/\TJ Γ H w Γ H' w'/\H.C<=H'.C/\TG P G Γ H' w':=by
 unfold fU at h;split at h
 ·rename_i id gen off;split at h
  ·rename_i g e cells hg;split at h
   ·rename_i hgg;obtain⟨hgg,h1,h2,h3⟩:=hgg;simp only[Option.some.injEq]at h;subst h;have hl:H.Z id gen=some (e,cells):=(by simp[Tz.Z,hg,hgg]);obtain⟨b,base,n,hΓ,rfl⟩:=mA ha hl;obtain⟨c,c1,c2,c3,c4⟩:=mB R hl hΓ;obtain⟨v1,v2⟩:=hv.cells;obtain⟨i,hi⟩:=ht;have hrun:(Instr.storeAt t (.pointer (some ⟨b,base+off,none⟩)) cv).run P w=.ok () (bp w b (.cells (setRow c (base+off) cv.cells.toList) e (0,0))):=by
     unfold Instr.storeAt Instr.sureAddr;rw[ak (Sem.run_pure P w _)];unfold storeVar;rw[ak (run_sizeOf hi)];have:¬(cv.cells.size≠P.cellsOf t):=(by rw[<- h1,<- v1];simp);rw[PX this];have hrun:=ow (P:=P) cv.cells.toList c (base+off) 0 w c1 U (qI h2 v1 v2);exact hrun
    obtain⟨E,R'⟩:=tY (cells':=setAt cells off v.cells) (c':=setRow c (base+off) cv.cells.toList) R hg hΓ (mq h3) (by rw[size_setRow,c2])
     (qJ h3 U v1 c4 v2)
    exact⟨_,hrun,E,Tx,R'⟩
   ·cases h
  ·cases h
 ·cases h
end Go.Hx
namespace Go.Hx
variable {P:Program} {G:Nat->Option (List Ty)} {Γ Γ':ar} {H H':Tz} {w w':World}
variable {cparts:Array (Nat × Value)}{cs:Array Value}{parts:List (Nat × Ty)}{z:List Ty}{b id n:Nat}{place:Nat->Option (Nat × Nat)}{e t:TypeId}{v:Value}
def cG (P:Program)(Γ:ar)(H:Tz)(w:World)(cells:List Ty)(cs:Array Value):Prop :=
 cs.size=cells.length/\∀i (_:i<cells.length) (h:i<cs.size),TB P Γ H w cells[i] cs[i]
theorem cG.lit (cs:Array Value):cG P Γ H w (cs.toList.map .lit) cs :=
 ⟨Tu,fun i h1 h2=>by simp only[P4,QQ];exact .lit _⟩
def cG.get {cells:List Ty}(h:cG P Γ H w cells cs){i:Nat}(hi:i<cells.length):∃cv,cs[i]?=some cv/\TB P Γ H w cells[i] cv :=
 ⟨cs[i]'(by rw[h.1];exact hi),by rw[P6],h.2 i hi (by rw[h.1];exact hi)⟩
def mD (h:bC P t=some z):∃i v,P.info? t=some i/\i.zero=some v/\v.cells.size=i.size/\z=v.cells.toList.map .lit/\P.cellsOf t=i.size:=by
 unfold bC at h;split at h
 ·rename_i i hi;split at h
  ·rename_i v hv;split at h
   ·rename_i hs;simp only[Option.some.injEq]at h;exact⟨i,v,hi,hv,hs,h.symm,by simp[Program.cellsOf,hi]⟩
   ·cases h
  ·cases h
 ·cases h
def lx {i:TypeInfo}(hi:P.info? t=some i)(hv:i.zero=some v):(zeroValue t).run P w=.ok v w:=by
 unfold zeroValue;rw[ak (run_typeInfo hi)];simp[hv]
def Dr:∀(vs:List Value) (cs:Array Value) (off k:Nat),
  (vs.zipIdx k).foldl (fun cs (p:Value × Nat)=>cs.setIfInBounds (off+p.2) p.1) cs=setRow cs (off+k) vs:=by
 intro vs
 induction vs with
 |nil=>intro cs off k;rfl
 |cons v vs ih=>intro cs off k;rw[List.zipIdx_cons,Q9,ih];rfl
def Ds {cells vs:List Ty}{cvs:List Value}{off:Nat}(h:cG P Γ H w cells cs)(hle:off+vs.length<=cells.length)(hl:cvs.length=vs.length)
  (hv:∀i (_:i<vs.length) (_:i<cvs.length),TB P Γ H w vs[i] cvs[i]):cG P Γ H w (setAt cells off vs) (setRow cs off cvs):=by
 refine⟨by rw[size_setRow,mq hle,h.1],fun i h1 h2=>?_⟩;have:=qJ (base:=0) hle (by rw[h.1];omega) hl (fun i hi=>by rw[Nat.zero_add];exact h.get hi) hv i h1;rw[Nat.zero_add,Nat.zero_add]at this;obtain⟨cv,a1,a2⟩:=this;rw[P6 h2]at a1;simp only[Option.some.injEq]at a1;rw[a1];exact a2
def uo :∀(parts:List (Nat × Ty)) (cparts:List (Nat × Value)) (cells cells':List Ty) (cs:Array Value),
  dR place cells parts=some cells'->cG P Γ H w cells cs->cparts.length=parts.length ->
  (∀i (h1:i<parts.length) (h2:i<cparts.length),parts[i].1=cparts[i].1/\TB P Γ H w parts[i].2 cparts[i].2) ->
  ∃cs',Instr.fill place cs cparts=some cs'/\cG P Γ H w cells' cs':=by
 intro parts
 induction parts with
 |nil =>
  intro cparts cells cells' cs h hr hl _;simp only[dR,Option.some.injEq]at h;subst h;have:cparts=[]:=by simpa using hl
  subst this;exact⟨cs,rfl,hr⟩
 |cons p parts ih =>
  intro cparts cells cells' cs h hr hl hp;cases cparts with
  |nil=>simp at hl
  |cons cp cparts =>
   obtain⟨i,v⟩:=p;obtain⟨ci,cv⟩:=cp;obtain⟨h0,hv⟩:=hp 0 Tu Tu;simp only[Qo]at h0 hv;subst h0;simp only[dR]at h;simp only[Instr.fill];split at h
   ·cases h
   ·rename_i off size hpl;rw[hpl];split at h
    ·rename_i hc;obtain⟨v1,v2⟩:=hv.cells;have hn:(decide (cv.cells.size≠size) ||decide (off+cv.cells.size > cs.size))=false:=by
      have:cv.cells.size=v.cells.length:=(by rw[<- v1];simp);have:=hr.1;simp;omega
     simp only[hn,Bool.false_eq_true,if_false];have hf:cv.cells.zipIdx.foldl (fun cs (p:Value × Nat)=>cs.setIfInBounds (off+p.2) p.1) cs=setRow cs off cv.cells.toList:=by
      have:=Dr cv.cells.toList cs off 0;rw[Nat.add_zero]at this;rw[<- this,<- Array.foldl_toList,Array.toList_zipIdx]
     rw[hf];exact ih cparts _ _ _ h (Ds hr hc.2 v1 v2) (by simpa using hl)
      (fun i h1 h2=>hp (i+1) (by simpa using h1) (by simpa using h2))
    ·cases h
def Du :∀ {parts:List (Nat × Ty)} {cells cells':List Ty},dR place cells parts=some cells'->cells'.length=cells.length:=by
 intro parts
 induction parts with
 |nil=>intro cells cells' h;simp only[dR,Option.some.injEq]at h;rw[h]
 |cons p parts ih =>
  intro cells cells' h;obtain⟨i,v⟩:=p;simp only[dR]at h;split at h
  ·cases h
  ·split at h
   ·rename_i hc;rw[ih h,mq hc.2]
   ·cases h
def uq {α:Type}(z:List α):∀(n i:Nat) (_:i<n*z.length),(List.replicate n z).flatten[i]?=z[i % z.length]?:=by
 intro n
 induction n with
 |zero=>intro i h;simp at h
 |succ n ih =>
  intro i h;rw[QM,List.flatten_cons];by_cases hi:i<z.length
  ·rw[P3 hi,Nat.mod_eq_of_lt hi]
  ·rw[Qc U,ih (i-z.length) (by rw[R8]at h;omega)];rw[<- Nat.mod_eq_sub_mod U]
def ur (hz:z=v.cells.toList.map .lit):
  cG P Γ H w (List.replicate n z).flatten ((Array.range (n*v.cells.size)).map (v.cells[· % v.cells.size]!)):=by
 have hzl:z.length=v.cells.size:=by rw[hz];simp
 refine⟨by simp[hzl],fun i h1 h2=>?_⟩;have hi:i<n*v.cells.size:=by simpa using h2
 have hpos:0<v.cells.size:=by
  rcases Q6 v.cells.size with h|h
  ·rw[h]at hi;simp at hi
  ·exact h
 have hg:=uq z n i (by rw[hzl];exact hi);rw[PV h1,hzl]at hg;have hm:i % v.cells.size<v.cells.size:=SN _ hpos;have hz2:z[i % v.cells.size]?=some (.lit v.cells[i % v.cells.size]):=by
  rw[hz,List.getElem?_map,Array.getElem?_toList,P6 hm];rfl
 rw[hz2]at hg;simp only[Option.some.injEq]at hg;rw[hg];simp only[RW,Array.getElem_range];rw[getElem!_pos v.cells _ hm];exact .lit _
def Dv {v:Ty}(h:my P t parts=some v)(hl:cparts.toList.length=parts.length)
  (hp:∀i (h1:i<parts.length) (h2:i<cparts.toList.length),parts[i].1=cparts.toList[i].1/\TB P Γ H w parts[i].2 cparts.toList[i].2):
  ∃cv,(Instr.build t cparts).run P w=.ok cv w/\TB P Γ H w v cv:=by
 unfold my at h;simp only[P0]at h;obtain⟨z,hz,h⟩:=h;obtain⟨i,zv,hi,hzv,_,hzz,_⟩:=mD hz;unfold Instr.build;rw[ak (lx hi hzv)];have hz0:cG P Γ H w z zv.cells:=hzz ▸ cG.lit _;split at h
 ·rename_i fs hd;simp only[P0,PU]at h;obtain⟨pl,hpl,cells,hf,rfl⟩:=h;rw[ak (bT hd)];simp only;unfold ir at hpl;rw[hd]at hpl;simp only at hpl;split at hpl
  ·rename_i hall;simp only[Option.some.injEq]at hpl;have hplaces:(fs.mapM fun (f:Field)=>(do pure (f.offset,<- sizeOf f.type):Sem (Nat × Nat))).run P w=.ok (fs.map fun f=>(f.offset,P.cellsOf f.type)) w:=by
    rw[Ta];have key:∀(l:List Field),(l.all fun f=>(P.info? f.type).isSome)=true ->
      (l.mapM fun (f:Field)=>(do pure (f.offset,<- sizeOf f.type):Sem (Nat × Nat))).run P w=.ok (l.map fun f=>(f.offset,P.cellsOf f.type)) w:=by
     intro l
     induction l with
     |nil=>intro _;rfl
     |cons f l ih =>
      intro ha;simp only[List.all_cons,Qj]at ha;obtain⟨j,hj⟩:=Qy.1 ha.1;rw[List.mapM_cons,ak (a:=(f.offset,P.cellsOf f.type)) (w':=w) (by rw[ak (run_sizeOf hj)];rfl),ak (ih ha.2)];rfl
    rw[Sem.run_map,key _ hall,Result.andThen_ok,<- S2,SF]
   rw[ak hplaces];obtain⟨cs',hc1,hc2⟩:=uo parts cparts.toList z cells zv.cells hf hz0 hl hp;have hpe:(fun i:Nat=>(fs.map fun f=>(f.offset,P.cellsOf f.type))[i]?)=fun i=>pl[i]?:=by
    funext i
    rw[<- hpl];simp
   rw[hpe,hc1];exact⟨_,rfl,.agg (by simpa using hc2.1) (fun i h1 h2=>by simpa using hc2.2 i h1 (by simpa using h2))⟩
  ·cases hpl
 ·rename_i n e hd;split at h
  ·rename_i he;simp only[PU]at h;obtain⟨cells,hf,rfl⟩:=h;obtain⟨d,hde⟩:=Qy.1 he;rw[ak (bT hd)];simp only;rw[ak (fT hde)];obtain⟨cs',hc1,hc2⟩:=uo parts cparts.toList z cells zv.cells hf hz0 hl hp;rw[hc1];exact⟨_,rfl,.agg (by simpa using hc2.1) (fun i h1 h2=>by simpa using hc2.2 i h1 (by simpa using h2))⟩
  ·cases h
 ·cases h
def uu {cells:List Ty}{len cap sz:Nat}{Γ':ar}(hget:H'.get id=some (.L 0 e cells))(hn:id<H'.C)(hΓ:Γ' id=some (b,0,n))
  (hlen:len<=cap) (hle:len*sz<=cells.length) (hcap:cap*sz<=n):TB P Γ' H' w' (.V id 0 0 len sz) (.slice (some ⟨b,0,none⟩) len cap):=by
 refine .V ⟨hn,rfl,by rw[hget];simp,fun g e' cells' hg=>?_⟩;rw[hget]at hg;simp only[Option.some.injEq,TE.L.injEq]at hg;obtain⟨rfl,rfl,rfl⟩:=hg;refine⟨Tx,fun _=>?_⟩;rw[hΓ];exact⟨⟨b,0,none⟩,cap,rfl,hlen,U,.inl ⟨rfl,U⟩⟩
def xR {cells:List Ty}{Γ':ar}(hget:H'.get id=some (.L 0 e cells))(hn:id<H'.C)(hΓ:Γ' id=some (b,0,n)):
  TB P Γ' H' w' (.Y id 0 0) (.pointer (some ⟨b,0,none⟩)):=by
 refine .Y ⟨hn,rfl,by rw[hget];simp,fun g e' cells' hg=>?_⟩;rw[hget]at hg;simp only[Option.some.injEq,TE.L.injEq]at hg;obtain⟨rfl,rfl,rfl⟩:=hg;exact⟨Tx,fun _=>⟨b,0,n,hΓ,Tu⟩⟩
def Dw {len:Nat}{v:Ty}(R:TG P G Γ H w)(h:ix P H id t len parts=some (v,H'))(hl:cparts.toList.length=parts.length)
  (hp:∀i (h1:i<parts.length) (h2:i<cparts.toList.length),parts[i].1=cparts.toList[i].1/\TB P Γ H w parts[i].2 cparts.toList[i].2):
  ∃cv Γ' w',(Instr.buildSlice t len cparts).run P w=.ok cv w'/\TJ Γ H w Γ' H' w'/\H.C<=H'.C/\TG P G Γ' H' w'/\TB P Γ' H' w' v cv:=by
 unfold ix at h;split at h
 ·rename_i e hd;split at h
  ·rename_i hle;simp only[P0,PU,Prod.mk.injEq]at h;obtain⟨zs,hzs,cells,hf,H1,hlay,rfl,rfl⟩:=h;unfold iq at hzs;simp only[PU]at hzs;obtain⟨z,hz,rfl⟩:=hzs;obtain⟨i,zv,hi,hzv,hsz,hzz,hcells⟩:=mD hz;have hz0:cG P Γ H w (List.replicate len z).flatten ((Array.range (len*zv.cells.size)).map (zv.cells[· % zv.cells.size]!)):=ur hzz;obtain⟨cs',hc1,hc2⟩:=uo parts cparts.toList _ cells _ hf hz0 hl hp;have hrun:(Instr.buildSlice t len cparts).run P w=.ok (.slice (some ⟨w.heap.size,0,none⟩) len len) (w.alloc (.cells cs' e)):=by
    unfold Instr.buildSlice;rw[ak (bT hd)];simp only;rw[ak (run_sizeOf hi)];rw[PX U];have hcs:P.cellsOf e=zv.cells.size:=(by rw[hcells,hsz]);rw[hcs];rw[hcs]at hc1;by_cases h0:len*zv.cells.size=0
    ·rw[h0]at hc1;rw[PZ h0];rw[ak (Sem.run_pure P w _)];have he:∀f:Nat->Value,(Array.range 0).map f=#[]:=fun _=>Sh Tu;have he2:∀f:Nat->Value,(Array.range (len*zv.cells.size)).map f=#[]:=fun _=>Sh (by simp[h0]);rw[he]at hc1;rw[he2,hc1];rfl
    ·rw[PX h0];rw[ak (lx hi hzv),ak (Sem.run_pure P w _),hc1];rfl
   have hlen:len*P.cellsOf e<=cells.length:=by
    have h1:=Du hf;rw[h1];simp[hzz,hcells,hsz]
   obtain⟨E,hn,R'⟩:=ox (c:=cs') R hlay (by rw[hc2.1];exact Nat.le_refl _) (fun i hi=>hc2.get hi);obtain⟨hget,_⟩:=gX hlay;obtain⟨_,_,_,hid⟩:=ko R hlay;exact⟨_,_,_,hrun,E,hn,R',uu (by rw[hget,PZ rfl]) hid (ar.cT _ _ _) Tx hlen (by rw[hc2.1];exact hlen)⟩
  ·cases h
 ·cases h
end Go.Hx
namespace Go.Hx
variable {P:Program} {G:Nat->Option (List Ty)} {Γ Γ':ar} {H H':Tz} {w w':World}
variable {id k:Nat}{v:Ty}{t:TypeId}{cv:Value}
def wrap_small {n:Int}(h0:0<=n)(h1:n<=2 ^ 46):IntKind.i64.wrap n=n:=PW n (U)
def xV {i:TypeInfo}(h:P.info? t=some i):P.bytesOf t=i.bytes:=by simp[Program.bytesOf,h]
def DB {l c:Ty}{cl cc:Value}(R:TG P G Γ H w)(h:gY P H id t l c=some (v,H'))(hl:TB P Γ H w l cl)(hc:TB P Γ H w c cc):
  ∃cv Γ' w',(Instr.makeSlice t cl cc).run P w=.ok cv w'/\TJ Γ H w Γ' H' w'/\H.C<=H'.C/\TG P G Γ' H' w'/\TB P Γ' H' w' v cv:=by
 unfold gY at h;split at h
 ·rename_i e kl ln kc cn hd;cases hl;cases hc;split at h
  ·rename_i hb;obtain ⟨b1,b2,b3,b4⟩:=hb;simp only [P0,PU,Prod.mk.injEq] at h;obtain ⟨zs,hzs,H1,hlay,rfl,rfl⟩:=h;unfold iq at hzs;simp only [PU] at hzs;obtain ⟨z,hz,rfl⟩:=hzs;obtain ⟨i,zv,hi,hzv,hsz,hzz,hcells⟩:=mD hz;have hcs : P.cellsOf e=zv.cells.size:=(by rw [hcells,hsz]);have hw1:=wrap_small b1 (by omega : ln≤2 ^ 46);have hw2:=wrap_small (by omega : 0≤cn) b4;have hzr : cG P Γ H w (List.replicate cn.toNat z).flatten ((Array.range (cn.toNat*zv.cells.size)).map (zv.cells[· % zv.cells.size]!)):=ur hzz;have hrun : (Instr.makeSlice t (.int kl ln) (.int kc cn)).run P w=.ok (.slice (some ⟨w.heap.size,0,none⟩) ln.toNat cn.toNat)
     (w.alloc (.cells ((Array.range (cn.toNat*zv.cells.size)).map (zv.cells[· % zv.cells.size]!)) e)):=by
    unfold Instr.makeSlice;rw[ak (bT hd)];simp only;have ai:∀(k:IntKind) (n:Int),(asInt (.int k n)).run P w=.ok n w:=fun _ _=>rfl;rw[ak (ai _ _),ak (ai _ _),ak (run_typeInfo hi)];simp only[hw1,hw2];have hbi:=xV hi;have hmul:(i.bytes:Int)*cn<=2 ^ 46:=(by rw[<- hbi,Sa];exact b3);rw[PX (by simp;omega)];rw[ak (run_askRoom P w _),ak (run_sizeOf hi)];rw[hcs];by_cases h0:cn.toNat*zv.cells.size=0
    ·rw[PZ h0,ak (Sem.run_pure P w _)];have he2:∀f:Nat->Value,(Array.range (cn.toNat*zv.cells.size)).map f=#[]:=fun _=>Sh (by simp[h0]);rw[he2,he2];rfl
    ·rw[PX h0,ak (lx hi hzv),ak (Sem.run_pure P w _)];rfl
   have hzl:z.length=zv.cells.size:=(by rw[hzz];simp);have hsize:((Array.range (cn.toNat*zv.cells.size)).map (zv.cells[· % zv.cells.size]!)).size=cn.toNat*zv.cells.size:=Tu;have hle:ln.toNat*zv.cells.size<=cn.toNat*zv.cells.size:=QO _ U;have hlen1:(List.replicate ln.toNat z).flatten.length=ln.toNat*zv.cells.size:=(by simp[hzl]);obtain⟨E,hn,R'⟩:=ox (c:=(Array.range (cn.toNat*zv.cells.size)).map (zv.cells[· % zv.cells.size]!)) R hlay (by rw[hsize,hlen1];exact hle)
    (fun i hi=>by
     rw[hlen1]at hi;have h1:=uq z ln.toNat i (by rw[hzl];exact hi);have h2:=uq z cn.toNat i (by rw[hzl];omega);obtain⟨cv,a1,a2⟩:=hzr.get (i:=i) (by simp[hzl];omega);refine⟨cv,a1,?_⟩;have:(List.replicate ln.toNat z).flatten[i]=(List.replicate cn.toNat z).flatten[i]'(by simp[hzl];omega):=by
      rw[PV (by rw[hlen1];exact hi)]at h1;rw[PV (by simp[hzl];omega)]at h2;rw[<- h1]at h2;simpa using h2.symm
     rw[this];exact a2)
   obtain⟨hget,_⟩:=gX hlay;obtain⟨_,_,_,hid⟩:=ko R hlay;refine⟨_,_,_,hrun,E,hn,R',uu (by rw[hget,PZ rfl]) hid (ar.cT _ _ _) U ?_ ?_⟩
   ·rw[hlen1,hcs];exact Nat.le_refl _
   ·rw[hsize,hcs];exact Nat.le_refl _
  ·cases h
 ·cases h
def uw (k:IntKind)(n:Int):(asIntOf (.int k n)).run P w=.ok (k,n) w:=rfl
def xW {gen off:Nat}{e:TypeId}{cells:List Ty}(h:TB P Γ H w (.Y id gen off) cv)(hl:H.Z id gen=some (e,cells)):
  ∃a,cv=.pointer (some a)/\TB P Γ H w (.Y id gen (off+k)) (.pointer (some (a.add k))):=by
 obtain⟨b,base,n,hΓ,rfl⟩:=mA h hl;refine⟨_,rfl,?_⟩;rw[im];cases h with
 |Y h =>
  refine .Y ⟨h.1,rfl,h.2.2.1,fun g e' cells' hg=>?_⟩;refine⟨(h.2.2.2 g e' cells' hg).1,fun _=>⟨b,base,n,hΓ,?_⟩⟩;rw[Rv]
def xX {cells:List Ty}{off:Nat}(h:TB P Γ H w (.nc cells off) cv):
  ∃a,cv=.pointer (some a)/\TB P Γ H w (.nc cells (off+k)) (.pointer (some (a.add k))):=by
 cases h with
 |nc hb hlt hcs hcell hrel =>
  refine⟨_,rfl,?_⟩;rw[im,Rv];exact .nc hb hlt hcs hcell hrel
def DC {x:Ty}{k:IntKind}{i:Int}{cx:Value}(h:kq P H t x i=some v)(hx:TB P Γ H w x cx):
  ∃cv,(Instr.indexAt t cx (.int k i)).run P w=.ok cv w/\TB P Γ H w v cv:=by
 unfold kq at h;unfold Instr.indexAt;rw[ak (uw k i)];simp only;split at h
 ·rename_i n e hd;split at h
  ·rename_i hc;obtain ⟨c1,c2,c3⟩:=hc;obtain ⟨d,hde⟩:=Qy.1 c3;rw [ak (bT hd)];simp only;have fin : ∀ a : Addr,((do
      let tiny:=decide (n<=1) && (match <- underlying t with|.array ..=>true|_=>false)
      match (some a:Option Addr) with
      |some a =>
       if 0≤i∧i<(n : Int) then pure (.pointer (some (a.add (i.toNat*(← sizeOf e)))))
              else if tiny then unsupported (.noEntry "op/indexAddr.an index out of range at an array of length 0 or 1 (ledger 616)")
       else boundsPanic k i n .index
      |none=>boundsPanic k i 0 .index):Sem Value).run P w=.ok (.pointer (some (a.add (i.toNat*P.cellsOf e)))) w:=by
    intro a;rw[ak (bT hd)];simp only;rw[PZ ⟨c1,c2⟩,ak (fT hde)];rfl
   split at h
   ·rename_i id gen off;simp only[PU]at h;obtain⟨ec,hl,rfl⟩:=h;obtain⟨a,rfl,hr⟩:=xW (k:=i.toNat*P.cellsOf e) hx hl;exact⟨_,fin a,hr⟩
   ·rename_i cells off;simp only[Option.some.injEq]at h;subst h;obtain⟨a,rfl,hr⟩:=xX (k:=i.toNat*P.cellsOf e) hx;exact⟨_,fin a,hr⟩
   ·cases h
  ·cases h
 ·rename_i e hd;split at h
  ·rename_i hc;obtain ⟨d,hde⟩:=Qy.1 hc;rw [ak (bT hd)];have fin : ∀ (a : Addr) (len : Nat),0≤i∧i<(len : Int)→((do
      let tiny:=decide (len<=1) && (match <- underlying t with|.array ..=>true|_=>false)
      match (some a:Option Addr) with
      |some a =>
       if 0≤i∧i<(len : Int) then pure (.pointer (some (a.add (i.toNat*(← sizeOf e)))))
              else if tiny then unsupported (.noEntry "op/indexAddr.an index out of range at an array of length 0 or 1 (ledger 616)")
       else boundsPanic k i len .index
      |none=>boundsPanic k i 0 .index):Sem Value).run P w=.ok (.pointer (some (a.add (i.toNat*P.cellsOf e)))) w:=by
    intro a len hi;rw[ak (bT hd)];simp only;rw[PZ hi,ak (fT hde)];rfl
   split at h
   ·rename_i id gen off len sz;split at h
    ·rename_i hi;simp only[PU]at h;obtain⟨⟨e',cells⟩,hl,rfl⟩:=h;rcases gZ hx hl with ⟨b,base,n,a,cap,hΓ,rfl,h1,h2,h3⟩|⟨_,_,h0,_⟩
     ·have ha:a=⟨b,base+off,none⟩:=by
       rcases h3 with h3|h3
       ·exact h3.1
       ·omega
      subst ha;refine⟨_,fin _ len ⟨hi.1,hi.2.1⟩,?_⟩;rw[im];cases hx with
      |V hx =>
       refine .Y ⟨hx.1,rfl,hx.2.2.1,fun g e'' cells'' hg=>?_⟩;refine⟨(hx.2.2.2 g e'' cells'' hg).1,fun _=>⟨b,base,n,hΓ,?_⟩⟩;rw[Rv]
     ·omega
    ·cases h
   ·rename_i len cells;split at h
    ·rename_i hi;simp only[Option.some.injEq]at h;subst h;cases hx with
     |nj=>exact absurd rfl hi.2.2
     |M hb hlt hlen hcs hcell hrel =>
      refine⟨_,fin _ len ⟨hi.1,hi.2.1⟩,?_⟩;rw[im];exact .nc hb hlt hcs hcell hrel
    ·cases h
   ·cases h
  ·cases h
 ·cases h
end Go.Hx
namespace Go.Hx
variable {P:Program} {G:Nat->Option (List Ty)} {Γ Γ':ar} {H H':Tz} {w w':World}
variable {hi lo:Option Ty}{cv:Value}
def mE (P:Program)(Γ:ar)(H:Tz)(w:World):Option Ty->Option Value->Prop
 |none,none=>True
 |some v,some cv=>TB P Γ H w v cv
 |_,_=>False
def run_sliceBound {k:IntKind}{i:Int}{y:Nat}{code:BoundsCode}(h:0<=i/\i<=(y:Int)):(Instr.sliceBound (.int k i) y code).run P w=.ok i.toNat w:=by
 unfold Instr.sliceBound;rw[ak (uw k i)];simp only;rw[PZ h];rfl
def xY {o:Option Ty}{co:Option Value}{d m n:Nat}(h:bF o d m=some n)(hr:mE P Γ H w o co):
  (o=none/\co=none/\n=d)\/∃k i,co=some (.int k i)/\0<=i/\i<=(m:Int)/\n=i.toNat:=by
 cases o with
 |none =>
  cases co with
  |none=>simp only[bF,Option.some.injEq]at h;exact .inl ⟨rfl,rfl,h.symm⟩
  |some _=>exact hr.elim
 |some v =>
  cases co with
  |none=>exact hr.elim
  |some cv =>
   have hv:TB P Γ H w v cv:=hr;cases v with
   |lit x =>
    cases x with
    |int k i =>
     cases hv;simp only[bF]at h;split at h
     ·rename_i hi;simp only[Option.some.injEq]at h;exact .inr ⟨k,i,rfl,hi.1,hi.2,h.symm⟩
     ·cases h
    |_=>simp[bF]at h
   |_=>simp[bF]at h
def jF {nl chi:Option Value}{s:Bool}{len cap l h:Nat}(hh:bF hi len len=some h)(hl:bF lo 0 h=some l)(hlen:len<=cap)
  (rh:mE P Γ H w hi chi) (rl:mE P Γ H w lo nl):(Instr.sliceBounds s len cap nl chi none).run P w=.ok (l,h,cap) w/\l<=h/\h<=len:=by
 rcases xY hh rh with ⟨rfl,rfl,rfl⟩|⟨k,i,rfl,i0,i1,rfl⟩<;>rcases xY hl rl with ⟨rfl,rfl,rfl⟩|⟨k',j,rfl,j0,j1,rfl⟩
 ·exact⟨rfl,U,Tx⟩
 ·refine⟨?_,U,Tx⟩;unfold Instr.sliceBounds;simp only[pure_bind];rw[ak (run_sliceBound ⟨j0,j1⟩)];rfl
 ·refine⟨?_,U,U⟩;unfold Instr.sliceBounds;simp only[pure_bind];rw[ak (run_sliceBound ⟨i0,U⟩)];rfl
 ·refine⟨?_,U,U⟩;unfold Instr.sliceBounds;simp only[pure_bind];rw[ak (run_sliceBound ⟨i0,U⟩),ak (run_sliceBound ⟨j0,j1⟩)];rfl
def qL {a b c:Nat}(h:a<=b):a*c<=b*c:=QO _ h
def DD {id gen off len sz l h:Nat}{e:TypeId}{cells:List Ty}(hx:TB P Γ H w (.V id gen off len sz) cv)(hl:H.Z id gen=some (e,cells))(h1:l<=h)(h2:h<=len):
  (∃a cap,cv=.slice (some a) len cap/\len<=cap/\TB P Γ H w (.V id gen (off+l*sz) (h-l) sz) (.slice (some (if cap=l then a else a.add (l*sz))) (h-l) (cap-l))) \/
  (cv=.slice none 0 0/\len=0/\TB P Γ H w (.V id gen (off+l*sz) (h-l) sz) (.slice none 0 0)):=by
 cases hx with
 |V hx =>
  rcases gZ (P:=P) (w:=w) (.V hx) hl with ⟨b,base,n,a,cap,hΓ,rfl,c1,c2,c3⟩|⟨hΓ,rfl,rfl,rfl⟩
  ·left;refine⟨a,cap,rfl,c1,.V ⟨hx.1,rfl,hx.2.2.1,fun g e' cells' hg=>?_⟩⟩;refine⟨(hx.2.2.2 g e' cells' hg).1,fun hgg=>?_⟩;rw[gq hl]at hg;simp only[Option.some.injEq,TE.L.injEq]at hg;obtain⟨_,rfl,rfl⟩:=hg;rw[hΓ];have e1:l*sz+(h-l)*sz=h*sz:=(by rw[<- Q7];congr 1;omega);have e2:h*sz<=len*sz:=qL h2;refine⟨_,_,rfl,U,U,?_⟩;rcases c3 with ⟨rfl,c3⟩|⟨rfl,rfl⟩
   ·by_cases hcl:cap=l
    ·right;omega
    ·left;rw[PX hcl,im,Rv];refine⟨rfl,?_⟩;have e3:l*sz+(cap-l)*sz=cap*sz:=(by rw[<- Q7];congr 1;omega);omega
   ·right;omega
  ·right;have:l=0:=U;subst this;have:h=0:=U;subst this;refine⟨rfl,rfl,.V ⟨hx.1,rfl,hx.2.2.1,fun g e' cells' hg=>?_⟩⟩;refine⟨(hx.2.2.2 g e' cells' hg).1,fun hgg=>?_⟩;rw[hΓ];simp
def DE {len sz l h:Nat}{cells:List Ty}(hx:TB P Γ H w (.M len cells) cv)(hc:cells.length=len*sz)(h1:l<=h)(h2:h<=len):
  ∃a cap,cv=.slice a len cap/\len<=cap/\TB P Γ H w (.M (h-l) ((cells.drop (l*sz)).take ((h-l)*sz))) (.slice (if cap=l then a else a.map (·.add (l*sz))) (h-l) (cap-l)):=by
 cases hx with
 |nj a cap =>
  have:h=0:=U
  subst this;have:l=0:=U
  subst this;refine⟨a,cap,rfl,Ss _,?_⟩;simp only[RF,RN,List.take_zero];exact .nj _ _
 | @M _ _ b off cap cs hb hlt hlen hcs hcell hrel =>
  refine⟨_,_,rfl,hlen,?_⟩;by_cases hhl:h=l
  ·subst hhl;simp only[RN,RF,List.take_zero];exact .nj _ _
  ·have hcl:cap≠l:=U;have e1:l*sz+(h-l)*sz=h*sz:=(by rw[<- Q7];congr 1;omega);have e2:h*sz<=len*sz:=qL h2;rw[PX hcl,Option.map_some,im];obtain⟨cs',k1,k2,k3⟩:=TU.drop ⟨cs,hcs,hcell,hrel⟩ (l*sz) ((h-l)*sz) U;exact .M hb hlt U k1 k2 k3
def DF {t:TypeId}{x v:Ty}{cx:Value}{nl chi:Option Value}(R:TG P G Γ H w)(h:jy P H t x lo hi=some v)(hx:TB P Γ H w x cx)
  (rl:mE P Γ H w lo nl) (rh:mE P Γ H w hi chi):∃cv,(Instr.sliceAt t cx nl chi none).run P w=.ok cv w/\TB P Γ H w v cv:=by
 unfold jy at h;unfold Instr.sliceAt;split at h
 ·rename_i n e hd;rw[ak (bT hd)];simp only;split at h
  ·rename_i hc;obtain⟨d,hde⟩:=Qy.1 hc;split at h
   ·rename_i id gen off;split at h
    ·rename_i e' cells hl;split at h
     ·rename_i hle;simp only[P0,PU]at h;obtain⟨h',hh,l,hlo,rfl⟩:=h;obtain⟨b,base,nn,hΓ,rfl⟩:=mA hx hl;have sa:(Instr.sureAddr (.pointer (some ⟨b,base+off,none⟩))).run P w=.ok ⟨b,base+off,none⟩ w:=rfl;obtain⟨r1,r2,r3⟩:=jF (s:=false) hh hlo (Nat.le_refl n) rh rl;rw[ak sa,ak r1];simp only;rw[ak (fT hde)];refine⟨_,rfl,?_⟩;cases hx with
      |Y hx =>
       refine .V ⟨hx.1,rfl,hx.2.2.1,fun g e'' cells'' hg=>?_⟩;refine⟨(hx.2.2.2 g e'' cells'' hg).1,fun hgg=>?_⟩;rw[gq hl]at hg;simp only[Option.some.injEq,TE.L.injEq]at hg;obtain⟨_,rfl,rfl⟩:=hg;rw[hΓ];have e1:l*P.cellsOf e+(h'-l)*P.cellsOf e=h'*P.cellsOf e:=(by rw[<- Q7];congr 1;omega);have e2:h'*P.cellsOf e<=n*P.cellsOf e:=qL r3;refine⟨_,_,rfl,U,U,?_⟩;by_cases hnl:n=l
       ·right;omega
       ·left;rw[PX hnl,im,Rv];refine⟨rfl,?_⟩;have e3:l*P.cellsOf e+(n-l)*P.cellsOf e=n*P.cellsOf e:=(by rw[<- Q7];congr 1;omega);obtain⟨_,_,q2,q3,_⟩:=mB R hl hΓ;omega
     ·cases h
    ·cases h
   ·rename_i cells off;split at h
    ·rename_i hle;simp only[P0,PU]at h;obtain⟨h',hh,l,hlo,rfl⟩:=h;cases hx with
     | @nc _ _ b o cs hb hlt hcs hcell hrel =>
      have sa:(Instr.sureAddr (.pointer (some ⟨b,o+off,none⟩))).run P w=.ok ⟨b,o+off,none⟩ w:=rfl;obtain⟨r1,r2,r3⟩:=jF (s:=false) hh hlo (Nat.le_refl n) rh rl;rw[ak sa,ak r1];simp only;rw[ak (fT hde)];refine⟨_,rfl,?_⟩;have e1:l*P.cellsOf e+(h'-l)*P.cellsOf e=h'*P.cellsOf e:=(by rw[<- Q7];congr 1;omega);have e2:h'*P.cellsOf e<=n*P.cellsOf e:=qL r3;by_cases hhl:h'=l
      ·subst hhl;simp only[RN,RF,List.take_zero];exact .nj _ _
      ·rw[PX U,im];obtain⟨cs',k1,k2,k3⟩:=TU.drop ⟨cs,hcs,hcell,hrel⟩ (off+l*P.cellsOf e) ((h'-l)*P.cellsOf e) U;rw[show o+off+l*P.cellsOf e=o+(off+l*P.cellsOf e) from by omega];exact .M hb hlt U k1 k2 k3
    ·cases h
   ·cases h
  ·cases h
 ·rename_i e hd;rw[ak (bT hd)];simp only;unfold Instr.slice;rw[ak (bT hd)];split at h
  ·rename_i hc;obtain⟨d,hde⟩:=Qy.1 hc;split at h
   ·rename_i id gen off len sz;split at h
    ·rename_i hsz;subst hsz;simp only[P0,PU]at h;obtain⟨⟨e',cells⟩,hl,h',hh,l,hlo,rfl⟩:=h;obtain⟨_,q1,q2⟩:=jF (s:=true) hh hlo (Nat.le_refl len) rh rl;rcases DD hx hl q1 q2 with ⟨a,cap,rfl,c1,c2⟩|⟨rfl,rfl,c2⟩
     ·obtain⟨r1,r2,r3⟩:=jF (s:=true) hh hlo c1 rh rl;simp only;rw[ak r1];simp only;rw[ak (fT hde)];refine⟨_,rfl,?_⟩;by_cases hcl:cap=l
      ·rw[PZ hcl]at c2 ⊢;exact c2
      ·rw[PX hcl]at c2 ⊢;exact c2
     ·obtain⟨r1,r2,r3⟩:=jF (s:=true) hh hlo (Nat.le_refl 0) rh rl;simp only;rw[ak r1];simp only;rw[ak (fT hde)];refine⟨_,rfl,?_⟩;have:l=0:=U;subst this;have:h'=0:=U;subst this;exact c2
    ·cases h
   ·rename_i len cells;split at h
    ·rename_i hcl;simp only[P0,PU]at h;obtain⟨h',hh,l,hlo,rfl⟩:=h;obtain⟨_,q1,q2⟩:=jF (s:=true) hh hlo (Nat.le_refl len) rh rl;obtain⟨a,cap,rfl,c1,c2⟩:=DE hx hcl q1 q2;obtain⟨r1,r2,r3⟩:=jF (s:=true) hh hlo c1 rh rl;simp only;rw[ak r1];simp only;rw[ak (fT hde)];exact⟨_,rfl,c2⟩
    ·cases h
   ·simp only[P0,PU]at h;obtain⟨h',hh,l,hlo,rfl⟩:=h;cases hx;obtain⟨r1,r2,r3⟩:=jF (s:=true) hh hlo (Nat.le_refl 0) rh rl;simp only;rw[ak r1];simp only;rw[ak (fT hde)];refine⟨_,rfl,?_⟩;have:l=0:=U;subst this;have:h'=0:=U;subst this;exact .lit _
   ·cases h
  ·cases h
 ·rename_i hd;rw[ak (bT hd)];simp only;unfold Instr.slice;rw[ak (bT hd)];split at h
  ·rename_i s;simp only[P0,PU]at h;obtain⟨h',hh,l,hlo,rfl⟩:=h;cases hx;obtain⟨r1,r2,r3⟩:=jF (s:=false) hh hlo (Nat.le_refl s.size) rh rl;simp only[Option.isSome_none,Bool.false_eq_true,if_false];rw[ak r1];exact⟨_,rfl,.lit _⟩
  ·cases h
 ·cases h
end Go.Hx
namespace Go.Hx
variable {P:Program} {G:Nat->Option (List Ty)} {Γ Γ':ar} {H H':Tz} {w w':World}
variable {cs:List Value}{cap n:Nat}{base:Option Addr}{v:Ty}{at0 at1 ty:TypeId}{cx x:Value}
def qM {sz:Nat}{x:Ty}{cells:List Ty}(R:TG P G Γ H w)(h:bW H sz x=some (n,cells))(hx:TB P Γ H w x cx):
    (Builtin.lenOf cx).run P w=.ok n w/\cells.length=n*sz/\∃cs:List Value,(Builtin.firstCells sz n cx).run P w=.ok cs.toArray w/\cs.length=cells.length /\
      ∀i (_:i<cells.length) (_:i<cs.length),TB P Γ H w cells[i] cs[i]:=by
  unfold bW at h;split at h
  · rename_i len cells';split at h
    · rename_i hl;simp only[Option.some.injEq,Prod.mk.injEq]at h;obtain⟨rfl,rfl⟩:=h;cases hx with
      |nj a cap =>
        refine⟨rfl,hl,[],?_,rfl,fun i h1 _=>absurd h1 (Qf _)⟩;cases a with
        |none=>rfl
        |some a=>unfold Builtin.firstCells;rw[RF];rfl
      | @M _ _ b off cap cs hb hlt hlen hcs hcell hrel =>
        refine⟨rfl,hl,cs,?_,hcs,hrel⟩;unfold Builtin.firstCells;rw[<- hl,<- hcs];exact mn hcell
    · cases h
  · rename_i id gen off len sz';split at h
    · rename_i hsz;subst hsz;simp only[PU,Prod.mk.injEq]at h;obtain⟨⟨e,cells'⟩,hl,rfl,rfl⟩:=h;rcases gZ hx hl with ⟨b,base,nn,a,cap,hΓ,rfl,c1,c2,c3⟩|⟨hΓ,rfl,rfl,rfl⟩
      · refine⟨rfl,by simp only[P9,QJ];omega,?_⟩;rcases c3 with ⟨rfl,c3⟩|⟨rfl,rfl⟩
        · obtain⟨cs,k1,k2,k3⟩:=(oB R hl hΓ).drop off (len*sz') c2;refine⟨cs,?_,k1,k3⟩;unfold Builtin.firstCells;have:len*sz'=cs.length:=(by rw[k1];simp only[P9,QJ];omega);rw[this];exact mn k2
        · refine⟨[],?_,Tu,fun i h1 _=>?_⟩
          · unfold Builtin.firstCells;rw[RF];rfl
          · simp at h1
      · refine⟨rfl,Tu,[],rfl,Tu,fun i h1 _=>?_⟩;simp at h1
    · cases h
  · simp only[Option.some.injEq,Prod.mk.injEq]at h;obtain⟨rfl,rfl⟩:=h;cases hx;exact⟨rfl,Tu,[],rfl,rfl,fun i h1 _=>absurd h1 (Qf _)⟩
  · cases h
def DG (newLen:Nat):∀(k c:Nat),256<=c->c<newLen->Builtin.growBy newLen k c<=2*newLen:=by
  intro k
  induction k with
  |zero=>intro c _ h;simp only[Builtin.growBy];omega
  |succ k ih =>
    intro c h1 h2;simp only[Builtin.growBy];rw[PX U];by_cases h3:c+(c+768) / 4<newLen
    · exact ih _ U h3
    · cases k with
      |zero=>simp only[Builtin.growBy];omega
      |succ k=>simp only[Builtin.growBy];rw[PZ U];omega
def nextslicecap_le {need:Nat}(h:cap<need):Builtin.nextslicecap need cap<=2*need:=by
  unfold Builtin.nextslicecap;split
  · omega
  · split
    · omega
    · exact DG _ _ _ U h
def xZ (z:Array Value)(n:Nat):(Builtin.zeroCells z n).size=n*z.size:=by simp[Builtin.zeroCells]
def run_append_fits {e e1:TypeId}{len:Nat}(hd:P.underlying at0=some (.slice e))(hd1:P.underlying at1=some (.slice e1))(he:∃i,P.info? e=some i)
    (hlen:(Builtin.lenOf x).run P w=.ok n w) (hcs:(Builtin.firstCells (P.cellsOf e) n x).run P w=.ok cs.toArray w) (hfit:len+n<=cap)
    (hst:match base with|some a=>(storeCells (a.add (len*P.cellsOf e)) cs).run P w=.ok () w'|none=>w'=w):
    (Builtin.append_ #[at0,at1] ty #[.slice base len cap,x]).run P w=.ok (.slice base (len+n) cap) w':=by
  obtain⟨i,hi⟩:=he;unfold Builtin.append_;simp only[List.getElem?_toArray,List.getElem?_cons_zero,List.getElem?_cons_succ];rw[ak (bT hd)];simp only;rw[ak (run_sizeOf hi)];rw[ak (bT hd1),ak (Sem.run_pure P w _)];simp only[Bool.false_eq_true,if_false,Bool.not_false,if_true];rw[ak hlen];rw[PZ hfit,ak hcs];cases base with
  |none=>subst hst;rfl
  |some a=>rw[ak hst];rfl
def x5 {e e1:TypeId}{len:Nat}{zv:Value}{os:List Value}{i:TypeInfo}(hd:P.underlying at0=some (.slice e))(hd1:P.underlying at1=some (.slice e1))
    (hi:P.info? e=some i) (hz:i.zero=some zv)
    (hlen:(Builtin.lenOf x).run P w=.ok n w) (hcs:(Builtin.firstCells (P.cellsOf e) n x).run P { w with drawn:=w.drawn+1 }=.ok cs.toArray { w with drawn:=w.drawn+1 })
    (hos:(Builtin.firstCells (P.cellsOf e) len (.slice base len cap)).run P { w with drawn:=w.drawn+1 }=.ok os.toArray { w with drawn:=w.drawn+1 })
    (hfit:cap<len+n) (hb:(len+n)*P.bytesOf e<=2 ^ 47) (hn:len+n<=2 ^ 47):
    ∃newCap,len+n<=newCap/\(Builtin.append_ #[at0,at1] ty #[.slice base len cap,x]).run P w =
      .ok (.slice (some ⟨w.heap.size,0,none⟩) (len+n) newCap)
        (({ w with drawn:=w.drawn+1 }:World).alloc (.cells (os.toArray++cs.toArray++Builtin.zeroCells zv.cells (newCap-(len+n))) e)):=by
  refine⟨(Question.appendCap (len+n) cap e).cut (w.tape w.drawn (.appendCap (len+n) cap e)),?_,?_⟩
  · simp only[Question.cut];omega
  · unfold Builtin.append_;simp only [List.getElem?_toArray,List.getElem?_cons_zero,List.getElem?_cons_succ];rw [ak (bT hd)];simp only;rw [ak (run_sizeOf hi)];rw [ak (bT hd1),ak (Sem.run_pure P w _)];simp only [Bool.false_eq_true,if_false,Bool.not_false,if_true];rw [ak hlen];rw [PX U];rw [ak (run_typeInfo hi)];have hmax : IntKind.i64.max=9223372036854775807:=Tv;rw [PX (by rw [hmax];omega)];rw [ak (run_typeInfo hi)];have hbi:=xV hi;have h2:=nextslicecap_le hfit;have h3 : Builtin.nextslicecap (len+n) cap*i.bytes≤2*(len+n)*i.bytes:=QO _ h2;rw [PX (by rw [hbi] at hb;rw [Tb] at h3;omega)];have hch : (choose (.appendCap (len+n) cap e)).run P w=.ok ((Question.appendCap (len+n) cap e).cut (w.tape w.drawn (.appendCap (len+n) cap e))) { w with drawn:=w.drawn+1 }:=by
      rw[run_choose];rfl
    rw[ak hch,ak (run_typeInfo hi),ak (run_askRoom P _ _),ak hos,ak hcs,ak (lx hi hz)];rfl
def TB.drew {cv:Value}(h:TB P Γ H w v cv)(n:Nat):TB P Γ H { w with drawn:=n } v cv:=h.aU (qE Γ H w n) (Nat.le_refl _)
def x6 {cells:List Ty}{rest:Array Value}(hl:cs.length=cells.length)(hr:∀i (_:i<cells.length) (_:i<cs.length),TB P Γ H w cells[i] cs[i]):
    ∀i (_:i<cells.length),∃cv,(cs.toArray++rest)[i]?=some cv/\TB P Γ H w cells[i] cv:=fun i hi =>
  ⟨cs[i]' U,by rw[S7 (by simp;omega)];simp,hr i hi U⟩
def DH {id:Nat}{s x:Ty}{cs:Value}(R:TG P G Γ H w)(h:bd P H id at0 at1 s x=some (v,H'))(hs:TB P Γ H w s cs)(hx:TB P Γ H w x cx):
    ∃cv Γ' w',(Builtin.append_ #[at0,at1] ty #[cs,cx]).run P w=.ok cv w'/\TJ Γ H w Γ' H' w'/\H.C<=H'.C/\TG P G Γ' H' w'/\TB P Γ' H' w' v cv:=by
  unfold bd at h;split at h
  · rename_i e hd;split at h
    · rename_i e1 hd1;simp only[P0]at h;obtain⟨z,hz,⟨n,nc⟩,hsrc,h⟩:=h;obtain⟨i,zv,hi,hzv,hsz,hzz,hcells⟩:=mD hz;obtain⟨hlen,hncl,xs,hxs,hxl,hxr⟩:=qM R hsrc hx;obtain⟨_,_,ys,hsrcd,hyl,hyr⟩:=qM (R.drew (w.drawn+1)) hsrc (hx.drew (w.drawn+1));split at h
      · -- a nil slice
        cases hs;simp only at h;split at h
        · rename_i h0;simp only[Option.some.injEq,Prod.mk.injEq]at h;obtain⟨rfl,rfl⟩:=h;subst h0;exact⟨_,Γ,w,run_append_fits hd hd1 ⟨i,hi⟩ hlen hxs U rfl,TJ.refl _ _ _,Tx,R,.lit _⟩
        · rename_i h0;split at h
          · rename_i hb;simp only [PU,Prod.mk.injEq] at h;obtain ⟨H1,hlay,rfl,rfl⟩:=h;obtain ⟨newCap,hc,hrun⟩:=x5 (base:=none) (len:=0) (cap:=0) (os:=[]) (ty:=ty) hd hd1 hi hzv hlen hsrcd rfl U (by rw [Nat.zero_add];exact hb.1) U;rw [Nat.zero_add n] at hc hrun;have R1:=R.drew (w.drawn+1);have harr : ∀ j (_ : j<nc.length),∃ cv,(([] : List Value).toArray++ys.toArray++Builtin.zeroCells zv.cells (newCap - n))[j]?=some cv∧TB P Γ H { w with drawn:=w.drawn+1 } nc[j] cv:=by
              simp only[Array.empty_append];exact x6 hyl hyr
            have hsize:(([]:List Value).toArray++ys.toArray++Builtin.zeroCells zv.cells (newCap-n)).size=newCap*P.cellsOf e:=by
              simp only[SR,xZ,List.size_toArray,List.length_nil,hyl,hncl];rw[hsz,<- hcells,Nat.zero_add,<- Q7];congr 1;omega
            obtain⟨E,hn,R'⟩:=ox R1 hlay (by rw[hsize,hncl];exact QO _ U) harr;obtain⟨hget,_⟩:=gX hlay;obtain⟨_,_,_,hid⟩:=ko R hlay;refine⟨_,_,_,hrun,(qE Γ H w _).trans Tx E,hn,R',?_⟩;exact uu (by rw[hget,PZ rfl]) hid (ar.cT _ _ _) U (by rw[hncl];exact Nat.le_refl _) (by rw[hsize];exact Nat.le_refl _)
          · cases h
      · rename_i id' gen off len sz;simp only[P0]at h;obtain⟨⟨e',cells⟩,hl,h⟩:=h;simp only at h;split at h
        · rename_i hc;obtain⟨rfl,rfl,h1,h2,h3,h4⟩:=hc;split at h
          · rename_i h0;simp only [Option.some.injEq,Prod.mk.injEq] at h;obtain ⟨rfl,rfl⟩:=h;subst h0;have hxs0 : xs=[]:=by
              have:xs.length=0:=(by rw[hxl,hncl];simp);simpa using this
            subst hxs0;rcases gZ hs hl with ⟨b,base,nn,a,cap,hΓ,rfl,c1,c2,c3⟩|⟨hΓ,rfl,rfl,rfl⟩
            · exact⟨_,Γ,w,run_append_fits hd hd1 ⟨i,hi⟩ hlen hxs U rfl,TJ.refl _ _ _,Tx,R,hs⟩
            · exact⟨_,Γ,w,run_append_fits hd hd1 ⟨i,hi⟩ hlen hxs U rfl,TJ.refl _ _ _,Tx,R,hs⟩
          · rename_i h0;simp only[Option.some.injEq,Prod.mk.injEq]at h;obtain⟨rfl,rfl⟩:=h;have hnpos:0<n:=U;have hg:=gq hl
            -- where a new array is made
            have grows : ∀ (base : Option Addr) (cap : Nat) (os : List Value),(Builtin.firstCells (P.cellsOf e') len (.slice base len cap)).run P { w with drawn:=w.drawn+1 }=.ok os.toArray { w with drawn:=w.drawn+1 } →
                os.length=(cells.drop off).length->(∀j (_:j<(cells.drop off).length) (_:j<os.length),TB P Γ H { w with drawn:=w.drawn+1 } (cells.drop off)[j] os[j])->cap<len+n ->
                ∃cv Γ' w',(Builtin.append_ #[at0,at1] ty #[.slice base len cap,cx]).run P w=.ok cv w'/\TJ Γ H w Γ' (H.upd id' (.L (gen+1) e' (cells.drop off++nc))) w' /\
                  H.C<=(H.upd id' (.L (gen+1) e' (cells.drop off++nc))).C/\TG P G Γ' (H.upd id' (.L (gen+1) e' (cells.drop off++nc))) w' /\
                  TB P Γ' (H.upd id' (.L (gen+1) e' (cells.drop off++nc))) w' (.V id' (gen+1) 0 (len+n) (P.cellsOf e')) cv:=by
              intro base cap os hos hol hor hcap;obtain⟨newCap,hcp,hrun⟩:=x5 (base:=base) (ty:=ty) hd hd1 hi hzv hlen hsrcd hos hcap h2 h3;have R1:=R.drew (w.drawn+1);have hdl:(cells.drop off).length=len*P.cellsOf e':=(by simp only[QJ];omega);have hsize:(os.toArray++ys.toArray++Builtin.zeroCells zv.cells (newCap-(len+n))).size=newCap*P.cellsOf e':=by
                simp only[SR,xZ,List.size_toArray,hol,hdl,hyl,hncl];rw[hsz,<- hcells,<- Q7,<- Q7];congr 1;omega
              have hdn : (cells.drop off++nc).length=(len+n)*P.cellsOf e':=(by rw [List.length_append,hdl,hncl,Q7]);have harr : ∀ j (_ : j<(cells.drop off++nc).length),∃ cv,(os.toArray++ys.toArray++Builtin.zeroCells zv.cells (newCap - (len+n)))[j]?=some cv ∧
                  TB P Γ H { w with drawn:=w.drawn+1 } (cells.drop off++nc)[j] cv:=by
                intro j hj;have:=x6 (P:=P) (Γ:=Γ) (H:=H) (w:={ w with drawn:=w.drawn+1 }) (cells:=cells.drop off++nc) (cs:=os++ys) (rest:=Builtin.zeroCells zv.cells (newCap-(len+n)))
                  (by rw[List.length_append,List.length_append,hol,hyl]) (fun k a b=>?_) j hj
                · simpa using this
                · by_cases hk:k<(cells.drop off).length
                  · rw[QR hk,QR U];exact hor k hk (U)
                  · rw[QU U,QU U];simp only[hol];exact hyr _ (by simp only[List.length_append]at a;omega) (by simp only[List.length_append]at b;omega)
              obtain⟨E,R'⟩:=Dl R1 hg (by rw[hsize,hdn];exact QO _ hcp) harr;refine⟨_,_,_,hrun,(qE Γ H w _).trans Tx E,Tx,R',.V ⟨R.C id' _ hg,rfl,by rw[ab,PZ rfl];simp,fun g'' e'' cells'' hg''=>?_⟩⟩;rw[ab,PZ rfl]at hg'';simp only[Option.some.injEq,TE.L.injEq]at hg'';obtain⟨rfl,rfl,rfl⟩:=hg'';refine⟨Tx,fun _=>?_⟩;rw[ar.cT];exact⟨_,_,rfl,hcp,by rw[hdn,Nat.zero_add];exact Nat.le_refl _,.inl ⟨rfl,by rw[hsize,Nat.zero_add];omega⟩⟩
            rcases gZ hs hl with ⟨b,base,nn,a,cap,hΓ,rfl,c1,c2,c3⟩|⟨hΓ,rfl,rfl,rfl⟩
            · by_cases hcap:len+n<=cap
              · -- there is room
                have ha:a=⟨b,base+off,none⟩/\base+off+cap*P.cellsOf e'<=nn:=by
                  rcases c3 with c3|c3
                  · exact c3
                  · omega
                obtain⟨rfl,c4⟩:=ha;obtain⟨c,q1,q2,q3,q4⟩:=mB R hl hΓ;have hroom:(len+n)*P.cellsOf e'<=cap*P.cellsOf e':=QO _ hcap;rw[Q7]at hroom;have hst:=ow (P:=P) xs c (base+off+len*P.cellsOf e') 0 w q1 (by rw[hxl,hncl];omega) (qI h4 hxl hxr);have hrun:=run_append_fits (ty:=ty) (base:=some ⟨b,base+off,none⟩) hd hd1 ⟨i,hi⟩ hlen hxs hcap (by
                  show (storeCells (Addr.add ⟨b,base+off,none⟩ (len*P.cellsOf e')) xs).run P w=_;rw[im];exact hst)
                have hdl:(cells.drop off).length=len*P.cellsOf e':=(by simp only[QJ];omega);have hdn:(cells.drop off++nc).length=len*P.cellsOf e'+n*P.cellsOf e':=(by rw[List.length_append,hdl,hncl]);have harr:∀j (_:j<(cells.drop off++nc).length),∃cv,(setRow c (base+off+len*P.cellsOf e'+0) xs)[base+off+j]?=some cv/\TB P Γ H w (cells.drop off++nc)[j] cv:=by
                  intro j hj;rw[xG _ _ _ (by rw[hxl,hncl];omega)];by_cases hk:j<(cells.drop off).length
                  · rw[PX U,QR hk];obtain⟨cv,k1,k2⟩:=q4 (off+j) (by simp only[QJ]at hk;omega);refine⟨cv,by rw[Rv];exact k1,?_⟩;simp only[RU];exact k2
                  · rw[QU U,PZ (by rw[hxl,hncl];omega)];have hj2:j-(cells.drop off).length<nc.length:=(by simp only[List.length_append]at hj;omega);refine⟨xs[j-(cells.drop off).length]' U,?_,hxr _ hj2 U⟩;rw[show base+off+j-(base+off+len*P.cellsOf e'+0)=j-(cells.drop off).length from by omega];exact PV (U)
                obtain⟨E,R'⟩:=Dk (base':=base+off) R hg hΓ (by rw[size_setRow];exact q2) (by rw[hdn];omega) harr;refine⟨_,_,_,hrun,E,Tx,R',.V ⟨R.C id' _ hg,rfl,by rw[ab,PZ rfl];simp,fun g'' e'' cells'' hg''=>?_⟩⟩;rw[ab,PZ rfl]at hg'';simp only[Option.some.injEq,TE.L.injEq]at hg'';obtain⟨rfl,rfl,rfl⟩:=hg'';refine⟨Tx,fun _=>?_⟩;rw[ar.cT];exact⟨_,_,rfl,hcap,by rw[hdn,Nat.zero_add,Q7];exact Nat.le_refl _,.inl ⟨rfl,c4⟩⟩
              · -- there is none
                rcases c3 with ⟨rfl,c3⟩|⟨rfl,rfl⟩
                · obtain⟨os,k1,k2,k3⟩:=(oB (R.drew (w.drawn+1)) hl hΓ).drop off (len*P.cellsOf e') U;have htk:(cells.drop off).take (len*P.cellsOf e')=cells.drop off:=PY (by simp only[QJ];omega);rw[htk]at k1 k3;refine grows _ cap os ?_ k1 k3 U;unfold Builtin.firstCells;have:len*P.cellsOf e'=os.length:=(by rw[k1];simp only[QJ];omega);rw[this];exact mn k2
                · refine grows _ 0 [] ?_ (by simp only[List.length_nil,QJ];omega) (fun j _ h=>absurd h (Qf _)) U;unfold Builtin.firstCells;rw[RF];rfl
            · refine grows none 0 [] rfl (by simp only[List.length_nil,QJ];omega) (fun j _ h=>absurd h (Qf _)) (U)
        · cases h
      · cases h
    · cases h
  · cases h
end Go.Hx
namespace Go.Hx
variable {P:Program} {G:Nat->Option (List Ty)} {Γ Γ':ar} {H H':Tz} {w w':World}
variable {d v x:Ty}{at0 ty:TypeId}{cd cx:Value}
def DI {t:TypeId}(h:jz P H t x=some v)(hx:TB P Γ H w x cx):
  ∃cv,(Builtin.len_ #[t] ty #[cx]).run P w=.ok cv w/\TB P Γ H w v cv:=by
 unfold jz at h;unfold Builtin.len_;simp only[List.getElem?_toArray,List.getElem?_cons_zero];split at h
 ·rename_i e hd;rw[ak (bT hd)];split at h
  ·rename_i len cells;simp only[Option.some.injEq]at h;subst h;cases hx<;>exact⟨_,rfl,.lit _⟩
  ·rename_i id gen off len sz;simp only[PU]at h;obtain⟨⟨e',cells⟩,hl,rfl⟩:=h;rcases gZ hx hl with ⟨b,base,n,a,cap,hΓ,rfl,_⟩|⟨hΓ,rfl,rfl,rfl⟩<;>exact⟨_,rfl,.lit _⟩
  ·simp only[Option.some.injEq]at h;subst h;cases hx;exact⟨_,rfl,.lit _⟩
  ·cases h
 ·rename_i hd;rw[ak (bT hd)];split at h
  ·simp only[Option.some.injEq]at h;subst h;cases hx;exact⟨_,rfl,.lit _⟩
  ·cases h
 ·rename_i n e hd;rw[ak (bT hd)];simp only[Option.some.injEq]at h;subst h;exact⟨_,rfl,.lit _⟩
 ·cases h
def DJ {sz n m:Nat}{cells:List Ty}(R:TG P G Γ H w)(h:bW H sz x=some (n,cells))(hx:TB P Γ H w x cx)(hm:m<=n):
  ∃cs:List Value,(Builtin.firstCells sz m cx).run P w=.ok cs.toArray w/\cs.length=(cells.take (m*sz)).length /\
   ∀i (_:i<(cells.take (m*sz)).length) (_:i<cs.length),TB P Γ H w (cells.take (m*sz))[i] cs[i]:=by
 have hms:m*sz<=n*sz:=QO _ hm;unfold bW at h;split at h
 ·rename_i len cells';split at h
  ·rename_i hl;simp only[Option.some.injEq,Prod.mk.injEq]at h;obtain⟨rfl,rfl⟩:=h;cases hx with
   |nj a cap =>
    have:m=0:=U;subst this;refine⟨[],?_,Tu,fun i h1 _=>by simp at h1⟩;cases a with
    |none=>rfl
    |some a=>unfold Builtin.firstCells;rw[RF];rfl
   | @M _ _ b off cap cs hb hlt hlen hcs hcell hrel =>
    obtain⟨cs',k1,k2,k3⟩:=TU.drop (k:=0) (n:=m*sz) ⟨cs,hcs,hcell,hrel⟩ U;rw[List.drop_zero]at k1 k3;refine⟨cs',?_,k1,k3⟩;unfold Builtin.firstCells;have:m*sz=cs'.length:=(by rw[k1,P9];omega);rw[this];exact mn k2
  ·cases h
 ·rename_i id gen off len sz';split at h
  ·rename_i hsz;subst hsz;simp only[PU,Prod.mk.injEq]at h;obtain⟨⟨e,cells'⟩,hl,rfl,rfl⟩:=h;rcases gZ hx hl with ⟨b,base,nn,a,cap,hΓ,rfl,c1,c2,c3⟩|⟨hΓ,rfl,rfl,rfl⟩
   ·rcases c3 with ⟨rfl,c3⟩|⟨rfl,rfl⟩
    ·obtain⟨cs,k1,k2,k3⟩:=(oB R hl hΓ).drop off (m*sz') U;have he:((cells'.drop off).take (len*sz')).take (m*sz')=(cells'.drop off).take (m*sz'):=by
      rw[List.take_take,Sd hms]
     simp only[he];refine⟨cs,?_,k1,k3⟩;unfold Builtin.firstCells;have:m*sz'=cs.length:=(by rw[k1];simp only[P9,QJ];omega);rw[this];exact mn k2
    ·have:m=0:=U;subst this;refine⟨[],?_,Tu,fun i h1 _=>by simp at h1⟩;unfold Builtin.firstCells;rw[RF];rfl
   ·have:m=0:=U;subst this;exact⟨[],rfl,Tu,fun i h1 _=>by simp at h1⟩
  ·cases h
 ·simp only[Option.some.injEq,Prod.mk.injEq]at h;obtain⟨rfl,rfl⟩:=h;cases hx;have:m=0:=U
  subst this;exact⟨[],rfl,Tu,fun i h1 _=>by simp at h1⟩
 ·cases h
def DK {at1:TypeId}(R:TG P G Γ H w)(h:iT P H at0 d x=some (v,H'))(hd:TB P Γ H w d cd)(hx:TB P Γ H w x cx):
  ∃cv Γ' w',(Builtin.copy_ #[at0,at1] ty #[cd,cx]).run P w=.ok cv w'/\TJ Γ H w Γ' H' w'/\H.C<=H'.C/\TG P G Γ' H' w'/\TB P Γ' H' w' v cv:=by
 unfold iT at h;split at h
 ·rename_i e hu;split at h
  ·rename_i he;obtain⟨du,hde⟩:=Qy.1 he;simp only[P0]at h;obtain⟨⟨n,nc⟩,hsrc,h⟩:=h;obtain⟨hlen,hncl,xs,hxs,hxl,hxr⟩:=qM R hsrc hx;split at h
   ·rename_i id gen off len sz;simp only[P0]at h;obtain⟨⟨e',cells⟩,hl,h⟩:=h;simp only at h;split at h
    ·rename_i hc;obtain ⟨rfl,h1,h2⟩:=hc;simp only [Option.some.injEq,Prod.mk.injEq] at h;obtain ⟨rfl,rfl⟩:=h;have hmin : min n len*P.cellsOf e≤nc.length:=(by rw [hncl];exact QO _ (Nat.min_le_left _ _));have hmin2 : min n len*P.cellsOf e≤len*P.cellsOf e:=QO _ (Nat.min_le_right _ _)
          -- the first cells of the source
     obtain⟨ys,hys,hyl,hyr⟩:∃ys:List Value,(Builtin.firstCells (P.cellsOf e) (min n len) cx).run P w=.ok ys.toArray w/\ys.length=(nc.take (min n len*P.cellsOf e)).length /\
       ∀i (_:i<(nc.take (min n len*P.cellsOf e)).length) (_:i<ys.length),TB P Γ H w (nc.take (min n len*P.cellsOf e))[i] ys[i]:=DJ R hsrc hx (Nat.min_le_left n len)
     have hall:(nc.take (min n len*P.cellsOf e)).all Ty.one=true:=by
      rw[Qt]at h2 ⊢;exact fun v hv=>h2 v (Qk hv)
     have htl:(nc.take (min n len*P.cellsOf e)).length=min n len*P.cellsOf e:=(by rw[P9];omega);rcases gZ hd hl with ⟨b,base,nn,a,cap,hΓ,rfl,c1,c2,c3⟩|⟨hΓ,rfl,rfl,rfl⟩
     ·obtain⟨c,q1,q2,q3,q4⟩:=mB R hl hΓ;have hst:(storeCells a ys).run P w=.ok () (bp w b (.cells (setRow c (base+off) ys) e' (0,0))):=by
       rcases c3 with ⟨rfl,c3⟩|⟨rfl,rfl⟩
       ·exact ow (P:=P) ys c (base+off) 0 w q1 (by rw[hyl,htl];omega) (qI hall hyl hyr)
       ·have:ys=[]:=by
         have:ys.length=0:=(by rw[hyl,htl];simp);simpa using this
        subst this;have hsame:bp w b (.cells (setRow c (base+off) []) e' (0,0))=w:=by
         have:=ow (P:=P) [] c (base+off) 0 w q1 (by simp;omega) (fun v h=>by simp at h);simp only[storeCells,Sem.run_pure,Result.ok.injEq,true_and]at this;exact this.symm
        rw[hsame];rfl
      have hrun:(Builtin.copy_ #[at0,at1] ty #[.slice (some a) len cap,cx]).run P w=.ok (.int .i64 (min n len:Nat)) (bp w b (.cells (setRow c (base+off) ys) e' (0,0))):=by
       unfold Builtin.copy_;simp only[List.getElem?_toArray,List.getElem?_cons_zero,List.getElem?_cons_succ];rw[ak (bT hu)];simp only;rw[ak hlen,ak (fT hde)];rw[ak hys,ak hst];rfl
      obtain⟨E,R'⟩:=tY (cells':=setAt cells off (nc.take (min n len*P.cellsOf e))) (c':=setRow c (base+off) ys) R (gq hl) hΓ (mq (by rw[htl];omega)) (by rw[size_setRow,q2])
       (qJ (by rw[htl];omega) U hyl q4 hyr)
      exact⟨_,_,_,hrun,E,Tx,R',.lit _⟩
     ·have:min n 0=0:=U;rw[this]at hys hyl ⊢;have hys0:ys=[]:=by
       have:ys.length=0:=(by rw[hyl];simp);simpa using this
      subst hys0;have hrun:(Builtin.copy_ #[at0,at1] ty #[.slice none 0 0,cx]).run P w=.ok (.int .i64 (0:Nat)) w:=by
       unfold Builtin.copy_;simp only[List.getElem?_toArray,List.getElem?_cons_zero,List.getElem?_cons_succ];rw[ak (bT hu)];simp only;rw[ak hlen,ak (fT hde)];have:Nat.min n 0=0:=(by show min n 0=0;omega);rw[this,ak hys];rfl
      have hset:H.upd id (.L gen e' (setAt cells 0 (nc.take (0*P.cellsOf e))))=H:=by
       have hs:setAt cells 0 (nc.take (0*P.cellsOf e))=cells:=(by simp[setAt]);rw[hs];have:∀j,(H.upd id (.L gen e' cells)).get j=H.get j:=by
        intro j;rw[ab];by_cases hj:j=id
        ·rw[PZ hj,hj,gq hl]
        ·rw[PX hj]
       show ({ get:=(H.upd id (.L gen e' cells)).get,C:=H.C }:Tz)=H;rw[funext this]
      rw[hset];exact⟨_,Γ,w,hrun,TJ.refl _ _ _,Tx,R,.lit _⟩
    ·cases h
   ·cases h
  ·cases h
 ·cases h
def DL (R:TG P G Γ H w)(h:iU P H at0 d=some (v,H'))(hd:TB P Γ H w d cd):
  ∃cv Γ' w',(Builtin.clear_ #[at0] ty #[cd]).run P w=.ok cv w'/\TJ Γ H w Γ' H' w'/\H.C<=H'.C/\TG P G Γ' H' w'/\TB P Γ' H' w' v cv:=by
 have tup0:∀(Γ:ar) (H:Tz) (w:World),TB P Γ H w (.nf []) (.tuple #[]):=fun Γ H w=>TB.nf (cells:=[]) (cs:=[]) rfl fun i h _=>absurd h (Qf _);unfold iU at h;split at h
 ·rename_i e hu;split at h
  ·simp only[Option.some.injEq,Prod.mk.injEq]at h;obtain⟨rfl,rfl⟩:=h;cases hd;refine⟨.tuple #[],Γ,w,?_,TJ.refl _ _ _,Tx,R,tup0 _ _ _⟩;unfold Builtin.clear_;simp only[List.getElem?_toArray,List.getElem?_cons_zero];rw[ak (bT hu)];rfl
  ·rename_i id gen off len sz;simp only[P0]at h;obtain⟨⟨e',cells⟩,hl,h⟩:=h;simp only at h;split at h
   ·rename_i h0;subst h0;simp only[Option.some.injEq,Prod.mk.injEq]at h;obtain⟨rfl,rfl⟩:=h;refine⟨.tuple #[],Γ,w,?_,TJ.refl _ _ _,Tx,R,tup0 _ _ _⟩;rcases gZ hd hl with ⟨b,base,nn,a,cap,hΓ,rfl,c1,c2,c3⟩|⟨hΓ,rfl,_,rfl⟩
    ·unfold Builtin.clear_;simp only[List.getElem?_toArray,List.getElem?_cons_zero];rw[ak (bT hu)];rfl
    ·unfold Builtin.clear_;simp only[List.getElem?_toArray,List.getElem?_cons_zero];rw[ak (bT hu)];rfl
   ·rename_i h0;simp only[P0]at h;obtain⟨zs,hzs,h⟩:=h;split at h
    ·rename_i hc;obtain⟨h1,h2,h3⟩:=hc;simp only[Option.some.injEq,Prod.mk.injEq]at h;obtain⟨rfl,rfl⟩:=h;unfold iq at hzs;simp only[PU]at hzs;obtain⟨z,hz,rfl⟩:=hzs;obtain⟨i,zv,hi,hzv,hsz,hzz,hcells⟩:=mD hz;have hzr:cG P Γ H w (List.replicate len z).flatten (Builtin.zeroCells zv.cells len):=ur hzz;have hyl:(Builtin.zeroCells zv.cells len).toList.length=(List.replicate len z).flatten.length:=(by rw[Rp];exact hzr.1);have hyr:∀i (_:i<(List.replicate len z).flatten.length) (_:i<(Builtin.zeroCells zv.cells len).toList.length),TB P Γ H w (List.replicate len z).flatten[i] (Builtin.zeroCells zv.cells len).toList[i]:=fun i h1 h2=>hzr.2 i h1 (by rw[Rp]at h2;exact h2);rcases gZ hd hl with ⟨b,base,nn,a,cap,hΓ,rfl,c1,c2,c3⟩|⟨hΓ,_,h4,_⟩
     ·rcases c3 with ⟨rfl,c3⟩|⟨h4,_⟩
      ·obtain⟨c,q1,q2,q3,q4⟩:=mB R hl hΓ;have hst:(storeCells ⟨b,base+off,none⟩ (Builtin.zeroCells zv.cells len).toList).run P w=.ok () (bp w b (.cells (setRow c (base+off) (Builtin.zeroCells zv.cells len).toList) e' (0,0))) :=
        ow (P:=P) _ c (base+off) 0 w q1 (by rw[hyl,h1];omega) (qI h3 hyl hyr)
       have hrun:(Builtin.clear_ #[at0] ty #[.slice (some ⟨b,base+off,none⟩) len cap]).run P w=.ok (.tuple #[]) (bp w b (.cells (setRow c (base+off) (Builtin.zeroCells zv.cells len).toList) e' (0,0))):=by
        obtain⟨m,rfl⟩:∃m,len=m+1:=⟨len-1,U⟩
        unfold Builtin.clear_;simp only[List.getElem?_toArray,List.getElem?_cons_zero];rw[ak (bT hu)];simp only;rw[ak (lx hi hzv),ak hst];rfl
       obtain⟨E,R'⟩:=tY (cells':=setAt cells off (List.replicate len z).flatten) (c':=setRow c (base+off) (Builtin.zeroCells zv.cells len).toList) R (gq hl) hΓ (mq (by rw[h1];exact h2)) (by rw[size_setRow,q2])
        (qJ (by rw[h1];exact h2) U hyl q4 hyr)
       exact⟨_,_,_,hrun,E,Tx,R',tup0 _ _ _⟩
      ·exact absurd h4 h0
     ·exact absurd h4 h0
    ·cases h
  ·cases h
 ·cases h
end Go.Hx
namespace Go.Hx
variable {P:Program} {G:Nat->Option (List Ty)} {Γ Γ':ar} {H H':Tz} {w w':World}
variable {k:Int}{es:List (Int × Int)}{b i:Nat}{v:Ty}{kt t:TypeId}{ck cm cx:Value}
def DM (k:Int):∀(es:List (Int × Int)) (j i:Nat),Instr.findNow (.int .i64) (.int .i64 k) (cH j es) i=some ((gp k i es).map fun p=>(p.1,.int .i64 p.2)):=by
 intro es
 induction es with
 |nil=>intro j i;rfl
 |cons e es ih =>
  intro j i;obtain⟨a,v⟩:=e;simp only[cH,Instr.findNow,Instr.sameNow,if_true,gp];by_cases h:k=a
  ·subst h;simp
  ·have:(k == a)=false:=(by simp[h]);rw[this];simp only[PX h];exact ih (j+1) (i+1)
def DN:∀(es fs:List (Int × Int)) (j:Nat),cH j (es++fs)=cH j es++cH (j+es.length) fs:=by
 intro es
 induction es with
 |nil=>intro fs j;simp[cH]
 |cons e es ih =>
  intro fs j;obtain⟨a,v⟩:=e;simp only[List.cons_append,cH,ih,List.length_cons];rw[show j+1+es.length=j+(es.length+1) by omega]
def x7:∀(es:List (Int × Int)) (j i:Nat),(cH j es)[i]?=es[i]?.map fun p=>⟨.int .i64 p.1,.int .i64 p.2,j+i⟩:=by
 intro es
 induction es with
 |nil=>intro j i;simp[cH]
 |cons e es ih =>
  intro j i;obtain⟨a,v⟩:=e;cases i with
  |zero=>simp[cH]
  |succ i =>
   simp only[cH,List.getElem?_cons_succ,ih];rw[show j+1+i=j+(i+1) by omega]
def DO (f:MapEntry->MapEntry):∀(es:List (Int × Int)) (j i:Nat) (k v k' v':Int),es[i]?=some (k,v)->f ⟨.int .i64 k,.int .i64 v,j+i⟩=⟨.int .i64 k',.int .i64 v',j+i⟩->(cH j es).modify i f=cH j (es.set i (k',v')):=by
 intro es
 induction es with
 |nil=>intro j i k v k' v' h _;simp at h
 |cons e es ih =>
  intro j i k v k' v' h hf;obtain⟨a,u⟩:=e;cases i with
  |zero =>
   simp only[List.getElem?_cons_zero,Option.some.injEq,Prod.mk.injEq]at h;obtain⟨rfl,rfl⟩:=h;simp only[Nat.add_zero]at hf;simp[cH,hf]
  |succ i =>
   simp only[List.getElem?_cons_succ]at h;have:=ih (j+1) i k v k' v' h (by rw[show j+1+i=j+(i+1) by omega];exact hf);simp only[cH,List.modify_succ_cons,List.set_cons_succ,this]
def x8 :∀ {es:List (Int × Int)} {i n:Nat} {v:Int},gp k i es=some (n,v)->i<=n/\es[n-i]?=some (k,v):=by
 intro es
 induction es with
 |nil=>intro i n v h;cases h
 |cons e es ih =>
  intro i n v h;obtain⟨a,u⟩:=e;simp only[gp]at h;by_cases hk:k=a
  ·rw[PZ hk]at h;cases h;subst hk;exact⟨Tx,Tu⟩
  ·rw[PX hk]at h;obtain⟨h1,h2⟩:=ih h;refine⟨U,?_⟩;rw[show n-i=(n-(i+1))+1 by omega];exact h2
def DP:∀(es:List (Int × Int)) (j n:Nat),n<es.length->(cH j es).findIdx? (fun e=>(e.born:Int) == ((j+n:Nat):Int))=some n:=by
 intro es
 induction es with
 |nil=>intro j n h;simp at h
 |cons e es ih =>
  intro j n h;obtain⟨a,u⟩:=e;simp only[cH,List.findIdx?_cons];cases n with
  |zero=>simp
  |succ n =>
   have hne:((j:Int) == ((j+(n+1):Nat):Int))=false:=by
    rw[beq_eq_false_iff_ne];omega
   rw[hne];have:=ih (j+1) n (by simpa using h);rw[show j+1+n=j+(n+1) by omega]at this;simp only[Bool.false_eq_true,if_false,this];rfl
def x9 (k v:Int):Obj.map ((cH 0 es).toArray.push ⟨.int .i64 k,.int .i64 v,es.length⟩) (es.length+1)=eU (es++[(k,v)]):=by
 unfold eU;rw[DN];simp[cH]
def ux {v k' v':Int}(f:MapEntry->MapEntry)(h:es[i]?=some (k,v))(hf:f ⟨.int .i64 k,.int .i64 v,i⟩=⟨.int .i64 k',.int .i64 v',i⟩):
  Obj.map ((cH 0 es).toArray.modify i f) es.length=eU (es.set i (k',v')):=by
 unfold eU;have:=DO f es 0 i k v k' v' h (by simpa using hf);rw[<- this,P2];congr 1;apply Array.ext';simp
def DQ {v:Int}(h:es[i]?=some (k,v)):es.set i (k,v)=es:=by
 obtain⟨hi,he⟩:=Qs.1 h;rw[<- he];exact List.set_getElem_self hi
structure IntMap (P:Program)(t:TypeId)(kt et:TypeId):Prop where
 und:P.underlying t=some (.map kt et)
 key:P.underlying kt=some (.int .i64)
 zero:∀w:World,(zeroValue et).run P w=.ok (.int .i64 0) w
def uy (h:oy P t=true):∃kt et,IntMap P t kt et:=by
 unfold oy at h;split at h
 ·rename_i kt et ht;simp only[Qj]at h;obtain⟨h1,h2⟩:=h;split at h1
  ·rename_i hk;split at h2
   ·rename_i hz;rw[P0]at hz;obtain⟨i,hi,hz⟩:=hz;exact⟨kt,et,ht,hk,fun w=>lx hi hz⟩
   ·cases h2
  ·cases h1
 ·cases h
def run_checkKey {e:Bool}(hk:P.underlying kt=some (.int .i64)):(Instr.checkKey e 10000 kt (.int .i64 k)).run P w=.ok () w:=by
 show (Instr.checkKey e (9999+1) kt (.int .i64 k)).run P w=.ok () w;unfold Instr.checkKey;rw[ak (bT hk)];rfl
def run_findKey (hk:P.underlying kt=some (.int .i64)):(Instr.findKey kt (.int .i64 k) (cH 0 es)).run P w=.ok ((gp k 0 es).map fun p=>(p.1,.int .i64 p.2)) w:=by
 unfold Instr.findKey;rw[ak (bT hk),DM];rfl
def ya :(Instr.keyThatStays (.int .i64 k) (.int .i64 k)).run P w=.ok (.int .i64 k) w:=by
 unfold Instr.keyThatStays;have:Instr.sameBits 10000 (.int .i64 k) (.int .i64 k)=true:=by
  show (IntKind.i64 == IntKind.i64 && k == k)=true;simp
 rw[this];rfl
def oJ (h:w.heap[b]?=some (eU es)):(getObj b).run P w=.ok (.map (cH 0 es).toArray es.length) w:=by simp[getObj,Sem.run,h,eU]
def oK (o:Obj)(h:w.heap[b]?=some (eU es)):(setObj b o).run P w=.ok () (bp w b o):=by
 have h':w.heap[b]?=some (.map (cH 0 es).toArray es.length):=h;simp[setObj,Sem.run,h',bp]
def qN {id:Nat}{cv:Value}(R:TG P G Γ H w)(h:TB P Γ H w (.ng id) cv)(hg:H.get id=some (.mp es)):∃b,Γ id=some (b,0,0)/\cv=.map (some b)/\w.heap[b]?=some (eU es):=by
 cases h with
 |ng h =>
  obtain⟨b,h1,h2⟩:=h.2.2.2.2 es hg;obtain⟨b',h3,h4⟩:=R.mp id es hg;rw[h1]at h3;cases h3;exact⟨b,h1,h2,h4⟩
def yb (ok:Bool)(r:Option (Nat × Int))(v:Value)(b:Bool)(h:(v,b)=match r with|some (_,v)=>(Value.int .i64 v,true)|none=>(Value.int .i64 0,false)):TB P Γ H w (qG ok r) (if ok=true then .tuple #[v,.bool b] else v):=by
 have two:∀x y:Value,TB P Γ H w (.nf [.lit x,.lit y]) (.tuple #[x,y]):=fun x y=>TB.nf (cells:=[.lit x,.lit y]) (cs:=[x,y]) rfl fun i h _=>match i,h with
  |0,_=>.lit _
  |1,_=>.lit _
 cases r with
 |none =>
  simp only[Prod.mk.injEq]at h;obtain⟨rfl,rfl⟩:=h;cases ok
  ·exact .lit _
  ·exact two _ _
 |some p =>
  obtain⟨n,u⟩:=p;simp only[Prod.mk.injEq]at h;obtain⟨rfl,rfl⟩:=h;cases ok
  ·exact .lit _
  ·exact two _ _
def DR {x i:Ty}{ok:Bool}{ci:Value}(R:TG P G Γ H w)(h:mu P H t x i ok=some v)(hx:TB P Γ H w x cx)(hi:TB P Γ H w i ci):
  ∃cv,(Instr.lookup t cx ci ok).run P w=.ok cv w/\TB P Γ H w v cv:=by
 unfold mu at h;split at h
 ·rename_i hm;obtain⟨kt,et,M⟩:=uy hm;split at h
  ·rename_i k;cases hx;cases hi;cases h;refine⟨_,?_,yb ok none (.int .i64 0) false rfl⟩;unfold Instr.lookup;rw[ak (bT M.und)];simp only;refine(ak (Sem.run_pure P w _)).trans ?_;refine(ak (run_checkKey M.key)).trans ?_;refine(ak (run_findKey (es:=[]) M.key)).trans ?_;refine(ak (M.zero w)).trans ?_;cases ok<;>rfl
  ·rename_i id k;cases hi;split at h
   ·rename_i es hg;cases h;obtain⟨b,hΓ,rfl,hb⟩:=qN R hx hg;have fin:∀(u:Value) (d:Bool),((u,d)=match gp k 0 es with|some (_,v)=>(Value.int .i64 v,true)|none=>(Value.int .i64 0,false))->∃cv,(Instr.lookup t (.map (some b)) (.int .i64 k) ok).run P w=.ok cv w/\TB P Γ H w (qG ok (gp k 0 es)) cv:=by
     intro u d hud;refine⟨_,?_,yb ok _ u d hud⟩;unfold Instr.lookup;rw[ak (bT M.und)];simp only;refine(ak (oJ hb)).trans ?_;refine(ak (Sem.run_pure P w _)).trans ?_;refine(ak (run_checkKey M.key)).trans ?_;refine(ak (run_findKey (es:=es) M.key)).trans ?_;cases hf:gp k 0 es with
     |none =>
      rw[hf]at hud;cases hud;refine(ak (M.zero w)).trans ?_;cases ok<;>rfl
     |some p =>
      rw[hf]at hud;cases hud;cases ok<;>rfl
    exact fin _ _ rfl
   ·cases h
  ·cases h
 ·cases h
def yc {m k x:Ty}(R:TG P G Γ H w)(h:jA P H t m k x=some (v,H'))(hm:TB P Γ H w m cm)(hk:TB P Γ H w k ck)(hx:TB P Γ H w x cx):
  ∃ Γ' w',(Instr.mapUpdate t cm ck cx).run P w=.ok () w'/\TJ Γ H w Γ' H' w'/\H.C<=H'.C/\TG P G Γ' H' w'/\v=.lit undef:=by
 unfold jA at h;split at h
 ·rename_i him;obtain⟨kt,et,M⟩:=uy him;split at h
  ·rename_i id k u;cases hk;cases hx;split at h
   ·rename_i es hg;simp only[Option.some.injEq,Prod.mk.injEq]at h;obtain⟨rfl,rfl⟩:=h;obtain⟨b,hΓ,rfl,hb⟩:=qN R hm hg;obtain⟨E,R'⟩:=qF (tZ es k u) R hg hΓ hb;refine⟨Γ,_,?_,E,Tx,R',rfl⟩;unfold Instr.mapUpdate;rw[ak (bT M.und)];simp only;refine(ak (oJ hb)).trans ?_;refine(ak (run_checkKey M.key)).trans ?_;refine(ak (run_findKey (es:=es) M.key)).trans ?_;unfold tZ;cases hf:gp k 0 es with
    |none =>
     simp only[Option.map_none];rw[oK _ hb,x9]
    |some p =>
     obtain⟨n,nb⟩:=p;obtain⟨_,hn⟩:=x8 hf;simp only[Nat.sub_zero]at hn;have he:(cH 0 es).toArray[n]?=some ⟨.int .i64 k,.int .i64 nb,n⟩:=by
      rw[List.getElem?_toArray,x7,hn];simp
     simp only[Option.map_some,he,Option.getD_some];refine(ak ya).trans ?_;rw[oK _ hb];rw[ux (k':=k) (v':=u) _ hn rfl]
   ·cases h
  ·cases h
 ·cases h
def DS {m k:Ty}(R:TG P G Γ H w)(h:lj P H t m k=some (v,H'))(hm:TB P Γ H w m cm)(hk:TB P Γ H w k ck):
  ∃cv Γ' w',(Instr.mapEntry t cm ck).run P w=.ok cv w'/\TJ Γ H w Γ' H' w'/\H.C<=H'.C/\TG P G Γ' H' w'/\TB P Γ' H' w' v cv:=by
 have two:∀(Γ:ar) (H:Tz) (w:World) (x y:Value),TB P Γ H w (.nf [.lit x,.lit y]) (.tuple #[x,y]):=fun Γ H w x y=>TB.nf (cells:=[.lit x,.lit y]) (cs:=[x,y]) rfl fun i h _=>match i,h with
  |0,_=>.lit _
  |1,_=>.lit _
 unfold lj at h;split at h
 ·rename_i him;obtain⟨kt,et,M⟩:=uy him;split at h
  ·rename_i id k;cases hk;split at h
   ·rename_i es hg;obtain⟨b,hΓ,rfl,hb⟩:=qN R hm hg;split at h
    ·rename_i n u hf;simp only[Option.some.injEq,Prod.mk.injEq]at h;obtain⟨rfl,rfl⟩:=h;obtain⟨_,hn⟩:=x8 hf;simp only[Nat.sub_zero]at hn;have he:(cH 0 es).toArray[n]?=some ⟨.int .i64 k,.int .i64 u,n⟩:=by
      rw[List.getElem?_toArray,x7,hn];simp
     obtain⟨E,R'⟩:=qF es R hg hΓ hb;refine⟨_,Γ,_,?_,E,Tx,R',two _ _ _ (.int .i64 u) (.int .i64 n)⟩;unfold Instr.mapEntry;rw[ak (bT M.und)];simp only;refine(ak (oJ hb)).trans ?_;refine(ak (run_checkKey M.key)).trans ?_;refine(ak (run_findKey (es:=es) M.key)).trans ?_;rw[hf];simp only[Option.map_some,he,Option.getD_some];refine(ak ya).trans ?_;rw[ak (oK _ hb),ux (k':=k) (v':=u) _ hn rfl,DQ hn];rfl
    ·rename_i hf;simp only[Option.some.injEq,Prod.mk.injEq]at h;obtain⟨rfl,rfl⟩:=h;obtain⟨E,R'⟩:=qF (es++[(k,0)]) R hg hΓ hb;refine⟨_,Γ,_,?_,E,Tx,R',two _ _ _ (.int .i64 0) (.int .i64 es.length)⟩;unfold Instr.mapEntry;rw[ak (bT M.und)];simp only;refine(ak (oJ hb)).trans ?_;refine(ak (run_checkKey M.key)).trans ?_;refine(ak (run_findKey (es:=es) M.key)).trans ?_;rw[hf];simp only[Option.map_none];refine(ak (M.zero w)).trans ?_;rw[ak (oK _ hb),x9];rfl
   ·cases h
  ·cases h
 ·cases h
def DT {m s x:Ty}{cs:Value}(R:TG P G Γ H w)(h:mv H m s x=some (v,H'))(hm:TB P Γ H w m cm)(hs:TB P Γ H w s cs)(hx:TB P Γ H w x cx):
  ∃ Γ' w',(Instr.entryStore t cm cs cx).run P w=.ok () w'/\TJ Γ H w Γ' H' w'/\H.C<=H'.C/\TG P G Γ' H' w'/\v=.lit undef:=by
 unfold mv at h;split at h
 ·rename_i id s u;cases hs;cases hx;split at h
  ·rename_i es hg;split at h
   ·rename_i hlt;simp only[Option.some.injEq,Prod.mk.injEq]at h;obtain⟨rfl,rfl⟩:=h;obtain⟨b,hΓ,rfl,hb⟩:=qN R hm hg;obtain⟨n,rfl⟩:=Qb hlt.1;have hn:n<es.length:=U;obtain⟨E,R'⟩:=qF (ua es n u) R hg hΓ hb;refine⟨Γ,_,?_,E,Tx,R',rfl⟩;unfold Instr.entryStore;simp only;refine(ak (oJ hb)).trans ?_;have hi:(asInt (.int .i64 (n:Int))).run P w=.ok (n:Int) w:=rfl;refine(ak hi).trans ?_;have hf:=DP es 0 n hn;simp only[Nat.zero_add]at hf;have hf2:(cH 0 es).toArray.findIdx? (fun e=>(e.born:Int) == (n:Int))=some n:=by
     rw[List.findIdx?_toArray];exact hf
    rw[hf2];simp only;have hg2:es[n]?=some es[n]:=PV hn;rw[oK _ hb];unfold ua;rw[hg2];simp only;rw[ux (k:=es[n].1) (v:=es[n].2) (k':=es[n].1) (v':=u) _ hg2 rfl]
   ·cases h
  ·cases h
 ·cases h
end Go.Hx
namespace Go.Hx
variable {P:Program} {G:Nat->Option (List Ty)} {Γ Γ':ar} {H H':Tz} {w w':World}
variable {fs:Array Field}{cs:Array Value}{ρ:Env}{fl:Field}{id off:Nat}{f:Operand->Value}{v x:Ty}{cv cx:Value}
def yd {s:Sem Value}(h:s.run P w=.ok cv w'):(do pure (Next.value (<- s)):Sem Next).run P w=.ok (.value cv) w':=by
 rw[ak h];rfl
def qO {s:Sem Unit}(h:s.run P w=.ok () w'):(do s;pure Next.skip:Sem Next).run P w=.ok .skip w':=by
 rw[ak h];rfl
def bU (P:Program)(G:Nat->Option (List Ty))(Γ:ar)(H:Tz)(w:World)(v:Ty)(H':Tz)(s:Sem Next):Prop :=
 ∃nx cv Γ' w',s.run P w=.ok nx w'/\(nx=.value cv\/(nx=.skip/\cv=undef))/\TJ Γ H w Γ' H' w'/\H.C<=H'.C/\TG P G Γ' H' w'/\TB P Γ' H' w' v cv
def bU.same {s:Sem Value}(R:TG P G Γ H w)(h:s.run P w=.ok cv w)(hv:TB P Γ H w v cv):
  bU P G Γ H w v H (do pure (Next.value (<- s))) :=
 ⟨.value cv,cv,Γ,w,yd h,.inl rfl,TJ.refl _ _ _,Tx,R,hv⟩
theorem ye:∀ {cells:List Ty} {l:List Int} {cs:List Value},mz cells=some l->cs.length=cells.length->(∀i (_:i<cells.length) (_:i<cs.length),TB P Γ H w cells[i] cs[i])->cs=l.map (Value.int .u8)
 | [],l,cs,hb,hl,_=>by
  obtain rfl:l=[]:=by simpa[mz] using hb.symm
  exact P1 hl
 |x :: cells,l,[],hb,hl,_=>by simp at hl
 |x :: cells,l,c :: cs,hb,hl,hr=>by
  have h0:=hr 0 Tu Tu;simp only[Qo]at h0;unfold mz at hb;split at hb
  ·rename_i hx;cases hx
  ·rename_i n r hx;cases hx;simp only[PU]at hb;obtain⟨l',hl',rfl⟩:=hb;have hc:c=.int .u8 n:=(by cases h0;rfl);subst hc;have:=ye (cs:=cs) hl' (by simpa using hl) fun i h1 h2=>by
    have:=hr (i+1) (by simp;omega) (by simp;omega);simpa using this
   rw[this];rfl
  ·cases hb
def DU {n:Nat}{cells:List Ty}{l:List Int}(R:TG P G Γ H w)(hs:bW H 1 x=some (n,cells))(hx:TB P Γ H w x cx)(hc:∃a m c,cx=.slice a m c)(hb:mz cells=some l):
  (Conv.bytesToString cx).run P w=.ok (.string (xL l)) w:=by
 obtain⟨h1,h2,cs,h3,h4,h5⟩:=qM R hs hx;have h6:=ye hb h4 h5;obtain⟨a,m,c,rfl⟩:=hc;have hm:m=n:=by
  have h1':(Builtin.lenOf (.slice a m c)).run P w=.ok m w:=rfl;rw[h1']at h1;exact(Result.ok.inj h1).1
 subst hm;cases a with
 |none =>
  have h3':(Builtin.firstCells 1 m (.slice none m c)).run P w=.ok #[] w:=rfl;rw[h3']at h3;have:cs=[]:=by
   have:=(Result.ok.inj h3).1;have h7:=congrArg Array.toList this;simpa using h7.symm
  rw[this]at h6;have hl:l=[]:=by simpa using h6.symm
  subst hl;rfl
 |some a =>
  have h3':(loadCells a m).run P w=.ok cs.toArray w:=by
   have:=h3;unfold Builtin.firstCells at this
   rwa [Nat.mul_one]at this
  rw[h6]at h3';exact run_bytesToString w a m c l h3'
def DV {s d:TypeId}(R:TG P G Γ H w)(hx:TB P Γ H w x cx)(hb:iy P H s d x=some v):bU P G Γ H w v H (do pure (Next.value (<- convert s d cx))):=by
 have bytes:∀y:Ty,TB P Γ H w y cx->(∀n cells,bW H 1 y=some (n,cells)->∃a m c,cx=.slice a m c)->kv P H s d y=some v->bU P G Γ H w v H (do pure (Next.value (<- convert s d cx))):=by
  intro y hy hc hb;unfold kv at hb;split at hb
  ·rename_i hsb;simp only[P0,PU]at hb;obtain⟨⟨n,cells⟩,hs,l,hl,rfl⟩:=hb;have hsl:=hc n cells hs;have hrun:=DU R hs hy hsl hl;unfold xM at hsb;split at hsb
   ·rename_i e h1 h2;split at hsb
    ·rename_i h3;obtain⟨a,m,c,rfl⟩:=hsl;exact bU.same R ((run_convert_bytes_string w s d e a m c h1 h3 h2).trans hrun) (.lit _)
    ·cases hsb
   ·cases hsb
  ·cases hb
 unfold iy at hb;split at hb
 ·rename_i id g o l z;refine bytes _ hx (fun n cells hs=>?_) hb;unfold bW at hs;simp only at hs;split at hs
  ·simp only[PU]at hs;obtain⟨⟨e,cells'⟩,hl,_⟩:=hs;rcases gZ hx hl with ⟨b,base,nn,a,cap,hΓ,rfl,_⟩|⟨hΓ,_,_,rfl⟩
   ·exact⟨_,_,_,rfl⟩
   ·exact⟨_,_,_,rfl⟩
  ·cases hs
 ·refine bytes _ hx (fun n cells hs=>?_) hb;cases hx with
  |nj a cap=>exact⟨_,_,_,rfl⟩
  |M=>exact⟨_,_,_,rfl⟩
 ·unfold iV at hb;split at hb
  ·rename_i a ha;simp only[PU]at hb;obtain⟨r,hr,rfl⟩:=hb;rw[<- hx.bS ha]at hr;exact bU.same R (lg hr w) (.lit _)
  ·cases hb
def bU.new {s:Sem Value}(h:∃cv Γ' w',s.run P w=.ok cv w'/\TJ Γ H w Γ' H' w'/\H.C<=H'.C/\TG P G Γ' H' w'/\TB P Γ' H' w' v cv):
  bU P G Γ H w v H' (do pure (Next.value (<- s))) :=
 let ⟨cv,Γ',w',h1,h2,h3,h4,h5⟩:=h
 ⟨.value cv,cv,Γ',w',yd h1,.inl rfl,h2,h3,h4,h5⟩
def yg {G:Nat->Option (List Ty)}(hev:∀x,TB P Γ H w (aj G ρ x) (f x))(l:List Operand):
  ∀i (_:i<(l.map (aj G ρ)).length) (_:i<(l.map f).length),TB P Γ H w (l.map (aj G ρ))[i] (l.map f)[i]:=by
 intro i h1 h2;simp only[P4];exact hev _
def yi (hev:∀x,TB P Γ H w (aj G ρ x) (f x))(parts:Array (Nat × Operand)):
  (parts.map fun (p:Nat × Operand)=>(p.1,f p.2)).toList.length=(parts.toList.map fun p=>(p.1,aj G ρ p.2)).length /\
  ∀i (h1:i<(parts.toList.map fun p=>(p.1,aj G ρ p.2)).length) (h2:i<(parts.map fun (p:Nat × Operand)=>(p.1,f p.2)).toList.length),
   (parts.toList.map fun p=>(p.1,aj G ρ p.2))[i].1=(parts.map fun (p:Nat × Operand)=>(p.1,f p.2)).toList[i].1 /\
   TB P Γ H w (parts.toList.map fun p=>(p.1,aj G ρ p.2))[i].2 (parts.map fun (p:Nat × Operand)=>(p.1,f p.2)).toList[i].2:=by
 refine⟨Tu,fun i h1 h2=>?_⟩;simp only[P4,QQ,RW];exact⟨trivial,hev _⟩
def yj (hev:∀x,TB P Γ H w (aj G ρ x) (f x))(o:Option Operand):mE P Γ H w (o.map (aj G ρ)) (o.map f):=by
 cases o with
 |none=>trivial
 |some x=>exact hev x
def yk:∀ {args:List Ty} {vs cs:List Value},mw args=some vs->cs.length=args.length->(∀i (_:i<args.length) (_:i<cs.length),TB P Γ H w args[i] cs[i])->cs=vs:=by
 intro args
 induction args with
 |nil=>intro vs cs h hl _;simp only[mw,Option.some.injEq]at h;subst h;simpa using hl
 |cons a args ih =>
  intro vs cs h hl hr;simp only[mw,P0,PU]at h;obtain⟨x,hx,l,hl2,rfl⟩:=h;cases cs with
  |nil=>simp at hl
  |cons c cs =>
   have h0:=hr 0 Tu Tu;simp only[Qo]at h0;rw[h0.bS hx];have:=ih hl2 (by simpa using hl) (fun i a b=>hr (i+1) (by simpa using a) (by simpa using b));rw[this]
def DW {b:Builtin}{ats:Array TypeId}{args:List Ty}{cargs:Array Value}{ty:TypeId}{cs:Array Bool}(R:TG P G Γ H w)(h:eV P H id b ats.toList args=some (v,H'))
  (hl:cargs.toList.length=args.length) (hr:∀i (_:i<args.length) (_:i<cargs.toList.length),TB P Γ H w args[i] cargs.toList[i]):
  bU P G Γ H w v H' (builtin b ats ty cs cargs):=by
 obtain⟨ats⟩:=ats;obtain⟨cargs⟩:=cargs;simp only at h hl hr;unfold eV at h;split at h
 ·rename_i t x;simp only[PU,Prod.mk.injEq]at h;obtain⟨v',hv,rfl,rfl⟩:=h
  match cargs,hl,hr with
  | [cx],_,hr =>
   obtain⟨cv,h1,h2⟩:=DI (ty:=ty) hv (hr 0 Tu Tu);exact bU.same R h1 h2
 ·rename_i t u s x
  match cargs,hl,hr with
  | [c1,c2],_,hr=>exact bU.new (DH R h (hr 0 Tu Tu) (hr 1 Tu Tu))
 ·rename_i t u d x
  match cargs,hl,hr with
  | [c1,c2],_,hr=>exact bU.new (DK R h (hr 0 Tu Tu) (hr 1 Tu Tu))
 ·rename_i t d
  match cargs,hl,hr with
  | [c1],_,hr=>exact bU.new (DL R h (hr 0 Tu Tu))
 ·simp only[P0,PU,Prod.mk.injEq]at h;obtain⟨vs,hvs,r,hp,rfl,rfl⟩:=h;have:=yk hvs hl hr;subst this;exact bU.same R (lg hp w) (.lit _)
 ·simp only[P0,PU,Prod.mk.injEq]at h;obtain⟨vs,hvs,r,hp,rfl,rfl⟩:=h;have:=yk hvs hl hr;subst this;exact bU.same R (lg hp w) (.lit _)
 ·cases h
def uz {t:TypeId}{cells:List Ty}(h:dQ P t cells off=some v)(hc:cG P Γ H w cells cs):
  ∃cv,(part t cs off).run P w=.ok cv w/\TB P Γ H w v cv:=by
 unfold dQ at h;unfold part;split at h
 ·cases h
 ·rename_i d hd;rw[ak (tT hd)];split at h
  ·rename_i ha;split at h
   ·rename_i hle;simp only[Option.some.injEq]at h;subst h;rw[ha,PZ rfl,ak (fT hd)];refine⟨_,rfl,?_⟩;have he:(cs.extract off (off+P.cellsOf t))=((cs.toList.drop off).take (P.cellsOf t)).toArray:=by
     apply Array.ext';simp[List.extract_eq_take_drop]
    rw[he];have hsz:=hc.1;refine .agg (by simp only[P9,QJ,Rp];omega) (fun i h1 h2=>?_);simp only[RE,RU,QQ];simp only[P9,QJ]at h1;exact hc.2 (off+i) U (U)
   ·cases h
  ·rename_i ha;have:mm d=false:=(by simpa using ha);rw[this];simp only[Bool.false_eq_true,if_false];obtain⟨hlt,hv⟩:=Qs.1 h;subst hv;obtain⟨cv,h1,h2⟩:=hc.get hlt;rw[h1];exact⟨cv,rfl,h2⟩
def ym {cells:List Ty}(h:TB P Γ H w (.agg cells) cv):∃cs:Array Value,cv=.agg cs/\cG P Γ H w cells cs:=by
 cases h with
 | @agg _ cs hcs hrel=>exact⟨cs.toArray,rfl,by simpa using hcs,fun i h1 h2=>by simpa using hrel i h1 (by simpa using h2)⟩
def yn {t f:Nat}{ft:TypeId}(h:bz P t f=some (off,ft)):∃fs fl i,P.underlying t=some (.struct fs)/\fs[f]?=some fl/\P.info? fl.type=some i/\P.cellsOf fl.type≠0/\off=fl.offset/\ft=fl.type:=by
 unfold bz at h;split at h
 ·rename_i fs hd;split at h
  ·rename_i fl hf;split at h
   ·rename_i hi;obtain⟨i,hi1⟩:=Qy.1 hi.1;simp only[Option.some.injEq,Prod.mk.injEq]at h;exact⟨fs,fl,i,hd,hf,hi1,hi.2,h.1.symm,h.2.symm⟩
   ·cases h
  ·cases h
 ·cases h
def yp {t f:Nat}{i:TypeInfo}{a:Addr}(hd:P.underlying t=some (.struct fs))(hf:fs[f]?=some fl)(hi:P.info? fl.type=some i)(h0:P.cellsOf fl.type≠0):
  (Instr.fieldAt t (.pointer (some a)) f).run P w=.ok (.pointer (some (a.add fl.offset))) w:=by
 unfold Instr.fieldAt;rw[ak (bT hd)];simp only[hf];have sa:(Instr.sureAddr (.pointer (some a))).run P w=.ok a w:=rfl;rw[ak sa];unfold fieldPlace;have:(do if (<- sizeOf fl.type)=0 then partAt a fl.offset fl.byteOffset else pure (a.add fl.offset):Sem Addr).run P w=.ok (a.add fl.offset) w:=by
  rw[ak (run_sizeOf hi),PX h0];rfl
 rw[ak this];rfl
def yt {t f:Nat}(hd:P.underlying t=some (.struct fs))(hf:fs[f]?=some fl):
  (Instr.field t (.agg cs) f).run P w=(part fl.type cs fl.offset).run P w:=by
 unfold Instr.field;rw[ak (bT hd)];simp only[hf];have sa:(asAgg (.agg cs)).run P w=.ok cs w:=rfl;rw[ak sa]
def DX {i:Nat}(h:jC x i=some v)(hx:TB P Γ H w x cx):∃cv,(Instr.extract cx i).run P w=.ok cv w/\TB P Γ H w v cv:=by
 cases hx with
 | @nf vs cs hcs hrel =>
  simp only[jC]at h;obtain⟨hlt,hv⟩:=Qs.1 h;subst hv;refine⟨cs[i]' U,?_,hrel i hlt U⟩;have:Instr.extract (.tuple cs.toArray) i=(pure (cs[i]' U):Sem Value):=by
   unfold Instr.extract;simp only[List.getElem?_toArray];rw[PV U]
  rw[this];rfl
 |lit =>
  cases cx with
  |tuple vs =>
   simp only[jC,PU]at h;obtain⟨r,hr,rfl⟩:=h;refine⟨r,?_,.lit _⟩;have:Instr.extract (.tuple vs) i=(pure r:Sem Value):=by
    unfold Instr.extract;simp[hr]
   rw[this];rfl
  |_=>simp[jC]at h
 |_=>simp[jC]at h
def uA {o:Oper}(R:TG P G Γ H w)(hev:∀x,TB P Γ H w (aj G ρ x) (f x))(h:ah P G ρ H id o.op=some (v,H')):
  bU P G Γ H w v H' (execOp f o):=by
 obtain⟨dst,op,type,pos,after,guard⟩:=o;simp only at h;unfold execOp;cases op with
 |move x =>
  simp only[ah,Option.some.injEq,Prod.mk.injEq]at h;obtain⟨rfl,rfl⟩:=h;exact⟨_,_,Γ,w,rfl,.inl rfl,TJ.refl _ _ _,Tx,R,hev x⟩
 |assign x =>
  simp only[ah,Option.some.injEq,Prod.mk.injEq]at h;obtain⟨rfl,rfl⟩:=h;exact⟨_,_,Γ,w,rfl,.inl rfl,TJ.refl _ _ _,Tx,R,hev x⟩
 |pick c a b =>
  simp only[ah]at h;have hc:=hev c;split at h
  ·rename_i t ht;rw[ht]at hc;simp only[Option.some.injEq,Prod.mk.injEq]at h;obtain⟨rfl,rfl⟩:=h;dsimp only;generalize f c=fc at hc ⊢;cases hc;refine⟨.value (if t then f a else f b),(if t then f a else f b),Γ,w,?_,.inl rfl,TJ.refl _ _ _,Tx,R,?_⟩
   ·cases t<;>rfl
   ·cases t
    ·exact hev b
    ·exact hev a
  ·cases h
 |alloc e =>
  simp only[ah,P0,PU,Prod.mk.injEq]at h;obtain⟨z,hz,H1,hlay,rfl,rfl⟩:=h;obtain⟨i,zv,hi,hzv,hsz,hzz,hcells⟩:=mD hz;have hz0:cG P Γ H w z zv.cells:=hzz ▸ cG.lit _;obtain⟨E,hn,R'⟩:=ox (c:=zv.cells) R hlay (by rw[hz0.1];exact Nat.le_refl _) (fun i hi=>hz0.get hi);obtain⟨hget,_⟩:=gX hlay;obtain⟨_,_,_,hid⟩:=ko R hlay;refine bU.new ⟨_,_,_,?_,E,hn,R',xR (by rw[hget,PZ rfl]) hid (ar.cT _ _ _)⟩;unfold Instr.alloc;rw[ak (lx hi hzv)];rfl
 |box e x =>
  simp only[ah,PU,Prod.mk.injEq]at h;obtain⟨H1,hlay,rfl,rfl⟩:=h;obtain⟨v1,v2⟩:=(hev x).cells;obtain⟨E,hn,R'⟩:=ox (c:=(f x).cells) R hlay (by rw[<- v1];simp) (fun i hi=>⟨(f x).cells[i]'(by rw[<- v1]at hi;simpa using hi),P6 _,by
   have:=v2 i hi (by rw[v1];exact hi);simpa using this⟩)
  obtain⟨hget,_⟩:=gX hlay;obtain⟨_,_,_,hid⟩:=ko R hlay;exact bU.new ⟨_,_,_,rfl,E,hn,R',xR (by rw[hget,PZ rfl]) hid (ar.cT _ _ _)⟩
 |build t parts =>
  simp only[ah,PU,Prod.mk.injEq]at h;obtain⟨v',hb,rfl,rfl⟩:=h;obtain⟨p1,p2⟩:=yi hev parts;obtain⟨cv,h1,h2⟩:=Dv (w:=w) hb p1 p2;exact bU.same R h1 h2
 |buildSlice t len parts =>
  simp only[ah]at h;obtain⟨p1,p2⟩:=yi hev parts;exact bU.new (Dw R h p1 p2)
 |load t a =>
  simp only[ah,PU,Prod.mk.injEq]at h;obtain⟨v',hb,rfl,rfl⟩:=h;obtain⟨cv,h1,h2⟩:=Do R hb (hev a);exact bU.same R h1 h2
 |store t a x =>
  simp only[ah]at h;split at h
  ·rename_i hu;obtain⟨d,hd⟩:=Qy.1 hu;simp only[PU,Prod.mk.injEq]at h;obtain⟨H1,hst,rfl,rfl⟩:=h;obtain⟨w',h1,h2,h3,h4⟩:=Dp R hst (xF hd) (hev a) (hev x);exact⟨.skip,undef,Γ,w',qO h1,.inr ⟨rfl,rfl⟩,h2,h3,h4,.lit _⟩
  ·cases h
 |nilCheck x =>
  simp only[ah,PU,Prod.mk.injEq]at h;obtain⟨v',hb,rfl,rfl⟩:=h;have hx:=hev x;unfold iz at hb;split at hb
  ·rename_i id' gen off hx';simp only[PU]at hb;obtain⟨⟨e,cells⟩,hl,rfl⟩:=hb;rw[hx']at hx;obtain⟨b,base,n,hΓ,hcv⟩:=mA hx hl;simp only[hcv]at hx ⊢;exact⟨_,_,Γ,w,rfl,.inl rfl,TJ.refl _ _ _,Tx,R,hx⟩
  ·rename_i cells off hx';simp only[Option.some.injEq]at hb;subst hb;rw[hx']at hx;dsimp only;generalize f x=fx at hx ⊢;cases hx with
   |nc a b c d e=>exact⟨_,_,Γ,w,rfl,.inl rfl,TJ.refl _ _ _,Tx,R,.nc a b c d e⟩
  ·rename_i ff a b hx';simp only[Option.some.injEq]at hb;subst hb;rw[hx']at hx;dsimp only;generalize f x=fx at hx ⊢;cases hx with
   |nl a b c d=>exact⟨_,_,Γ,w,rfl,.inl rfl,TJ.refl _ _ _,Tx,R,.nl a b c d⟩
  ·cases hb
 |binOp op t x y u =>
  simp only[ah,PU,Prod.mk.injEq]at h;obtain⟨v',hb,rfl,rfl⟩:=h;unfold bg at hb;split at hb
  ·rename_i a b ha hb';simp only[PU]at hb;obtain⟨r,hr,rfl⟩:=hb;rw[<- (hev x).bS ha,<- (hev y).bS hb']at hr;exact bU.same R (lg hr w) (.lit _)
  ·cases hb
 |unOp op t x =>
  simp only[ah,PU,Prod.mk.injEq]at h;obtain⟨v',hb,rfl,rfl⟩:=h;unfold oz at hb;split at hb
  ·rename_i a ha;simp only[PU]at hb;obtain⟨r,hr,rfl⟩:=hb;rw[<- (hev x).bS ha]at hr;exact bU.same R (lg hr w) (.lit _)
  ·cases hb
 |convert s d x =>
  simp only[ah,PU,Prod.mk.injEq]at h;obtain⟨v',hb,rfl,rfl⟩:=h;exact DV R (hev x) hb
 |makeInterface t x =>
  simp only[ah]at h;split at h
  ·rename_i a ha;simp only[PU,Prod.mk.injEq]at h;obtain⟨r,hr,rfl,rfl⟩:=h;rw[<- (hev x).bS ha]at hr;exact bU.same R (lg hr w) (.lit _)
  ·cases h
 |makeFunc fn first captured =>
  simp only[ah]at h;split at h
  ·simp only[Option.some.injEq,Prod.mk.injEq]at h;obtain⟨rfl,rfl⟩:=h;refine bU.same R (cv:=.func (.func _) (first.map f) (captured.map f)) rfl ?_;have e1:first.map f=(first.toList.map f).toArray:=(by rw[<- S2,SF]);have e2:captured.map f=(captured.toList.map f).toArray:=(by rw[<- S2,SF]);rw[e1,e2];exact .nl Tu Tu (yg hev _) (yg hev _)
  ·cases h
 |makeSlice t l c =>
  simp only[ah]at h;exact bU.new (DB R h (hev l) (hev c))
 |slice t x lo hi mx =>
  simp only[ah]at h;split at h
  ·simp only[PU,Prod.mk.injEq]at h;obtain⟨v',hb,rfl,rfl⟩:=h;obtain⟨cv,h1,h2⟩:=DF R hb (hev x) (yj hev lo) (yj hev hi);exact bU.same R h1 h2
  ·cases h
 |fieldAddr s x fi =>
  simp only[ah,P0]at h;obtain⟨⟨off,ft⟩,hf,h⟩:=h;obtain⟨fs,fl,i,hd,hfl,hi,h0,rfl,rfl⟩:=yn hf;have hx:=hev x;split at h
  ·rename_i id' gen off' hx';simp only[PU,Prod.mk.injEq]at h;obtain⟨⟨e,cells⟩,hl,rfl,rfl⟩:=h;rw[hx']at hx;obtain⟨a,ha,hr⟩:=xW (k:=fl.offset) hx hl;simp only[ha];exact bU.same R (yp hd hfl hi h0) hr
  ·rename_i cells off' hx';simp only[Option.some.injEq,Prod.mk.injEq]at h;obtain⟨rfl,rfl⟩:=h;rw[hx']at hx;obtain⟨a,ha,hr⟩:=xX (k:=fl.offset) hx;simp only[ha];exact bU.same R (yp hd hfl hi h0) hr
  ·cases h
 |field t x fi =>
  simp only[ah,P0]at h;obtain⟨⟨off,ft⟩,hf,h⟩:=h;obtain⟨fs,fl,i,hd,hfl,hi,h0,rfl,rfl⟩:=yn hf;have hx:=hev x;split at h
  ·rename_i cells hx';simp only[PU,Prod.mk.injEq]at h;obtain⟨v',hp,rfl,rfl⟩:=h;rw[hx']at hx;obtain⟨cs,hcv,hrl⟩:=ym hx;obtain⟨cv,h1,h2⟩:=uz hp hrl;simp only[hcv];exact bU.same R ((yt hd hfl).trans h1) h2
  ·rename_i cs hx';simp only[PU,Prod.mk.injEq]at h;obtain⟨v',hp,rfl,rfl⟩:=h;rw[hx']at hx;obtain⟨cv,h1,h2⟩:=uz hp (cG.lit (P:=P) (Γ:=Γ) (H:=H) (w:=w) cs);dsimp only;generalize f x=fx at hx ⊢;cases hx;exact bU.same R ((yt hd hfl).trans h1) h2
  ·cases h
 |indexAddr t x i =>
  simp only[ah]at h;have hi:=hev i;split at h
  ·rename_i k n hi';simp only[PU,Prod.mk.injEq]at h;obtain⟨v',hb,rfl,rfl⟩:=h;rw[hi']at hi;have:f i=.int k n:=by
    generalize f i=fi at hi;cases hi;rfl
   simp only[this];obtain⟨cv,h1,h2⟩:=DC (w:=w) (k:=k) hb (hev x);exact bU.same R h1 h2
  ·cases h
 |index t x i =>
  simp only[ah,PU,Prod.mk.injEq]at h;obtain⟨v',hb,rfl,rfl⟩:=h;have hx:=hev x;have hi:=hev i;unfold oA at hb;split at hb
  ·rename_i cells k n hx' hi';rw[hx']at hx;rw[hi']at hi;have hfi:f i=.int k n:=by
    generalize f i=fi at hi;cases hi;rfl
   obtain⟨cs,hcv,hrl⟩:=ym hx;split at hb
   ·rename_i len e hd;split at hb
    ·rename_i hn;obtain⟨cv,h1,h2⟩:=uz hb hrl;simp only[hcv,hfi];refine bU.same R ?_ h2;unfold Instr.index;rw[ak (uw k n)];simp only;rw[ak (bT hd)];simp only;rw[PZ hn];have:∃d,P.underlying e=some d:=by
      unfold dQ at hb;split at hb
      ·cases hb
      ·rename_i d hd';exact⟨d,hd'⟩
     obtain⟨d,hde⟩:=this;rw[ak (fT hde)];exact h1
    ·cases hb
   ·cases hb
  ·rename_i vx vi hx' hi';rw[hx']at hx;rw[hi']at hi;simp only[PU]at hb;obtain⟨r,hr,rfl⟩:=hb;have h1:f x=vx:=by
    generalize f x=fx at hx;cases hx;rfl
   have h2:f i=vi:=by
    generalize f i=fx at hi;cases hi;rfl
   simp only[h1,h2];exact bU.same R (lg hr w) (.lit _)
  ·cases hb
 |extract t i =>
  simp only[ah,PU,Prod.mk.injEq]at h;obtain⟨v',hb,rfl,rfl⟩:=h;obtain⟨cv,h1,h2⟩:=DX (w:=w) hb (hev t);exact bU.same R h1 h2
 |call c =>
  simp only[ah]at h;obtain⟨callee,args,ats⟩:=c;split at h
  ·rename_i b hb;simp only at hb h;subst hb;have:=DW (ty:=type) (cs:=args.map fun|.const _=>true|_=>false) (cargs:=args.map f) R h Tu (fun i h1 h2=>by
    simp only[P4,QQ,RW];exact hev _)
   exact this
  ·cases h
 |makeMap t r =>
  simp only[ah]at h;split at h
  ·simp only[PU,Prod.mk.injEq]at h;obtain⟨H1,hlay,rfl,rfl⟩:=h;obtain⟨E,hn,R'⟩:=Dm R hlay;obtain⟨hget,_⟩:=gX hlay;obtain⟨_,_,_,hid⟩:=ko R hlay;refine bU.new ⟨.map (some w.heap.size),_,_,?_,E,hn,R',.ng ⟨hid,rfl,by rw[hget,PZ rfl];simp,fun st pend n env ps asg body hg=>(by rw[hget,PZ rfl]at hg;cases hg),fun es hg=>⟨_,ar.cT _ _ _,rfl⟩⟩⟩;rfl
  ·cases h
 |lookup t x i ok =>
  simp only[ah,PU,Prod.mk.injEq]at h;obtain⟨v',hb,rfl,rfl⟩:=h;obtain⟨cv,h1,h2⟩:=DR R hb (hev x) (hev i);exact bU.same R h1 h2
 |mapUpdate t m k x =>
  simp only[ah]at h;obtain⟨Γ',w',h1,h2,h3,h4,rfl⟩:=yc R h (hev m) (hev k) (hev x);exact⟨.skip,undef,Γ',w',qO h1,.inr ⟨rfl,rfl⟩,h2,h3,h4,.lit _⟩
 |insert t m k x =>
  simp only[ah]at h;obtain⟨Γ',w',h1,h2,h3,h4,rfl⟩:=yc R h (hev m) (hev k) (hev x);exact⟨.skip,undef,Γ',w',qO h1,.inr ⟨rfl,rfl⟩,h2,h3,h4,.lit _⟩
 |mapEntry t m k =>
  simp only[ah]at h;exact bU.new (DS R h (hev m) (hev k))
 |entryStore t m s x =>
  simp only[ah]at h;obtain⟨Γ',w',h1,h2,h3,h4,rfl⟩:=DT (t:=t) R h (hev m) (hev s) (hev x);exact⟨.skip,undef,Γ',w',qO h1,.inr ⟨rfl,rfl⟩,h2,h3,h4,.lit _⟩
 |_=>simp[ah]at h
end Go.Hx
namespace Go.Hx
variable {P:Program} {G:Nat->Option (List Ty)} {Γ Γ':ar} {H H':Tz} {w w':World}
variable {a b:Act}{lo:Nat}{ch:Nat->Bool}
structure St where
 ρ:Env
 H:Tz
inductive AX where
 |normal
 |exit (id:Nat)
 |goto (l:Nat)
 |ret
 |panic
def uB (chain:List PanicEntry):Prop:=∃t v,chain=[{ v:=.iface t v,recovered:=false }]
def uC:Exit->AX->Prop
 |.normal,.normal=>True
 |.exit i,.exit j=>i=j
 |.goto i,.goto j=>i=j
 |.ret,.ret=>True
 |.panic chain,.panic=>uB chain
 |_,_=>False
structure T2 where
 lo:Nat
 ds:List Deferred
def Marks (lo:Nat)(Γ:ar)(w:World)(m:List Deferred):Prop :=
 (∀d,d∈m->∃r,d={ target:=.collected r,args:=#[] }/\lo<=r/\oo Γ w r)/\m.Pairwise (fun d e=>d.target≠e.target)
theorem Marks.nil :Marks lo Γ w []:=⟨fun _ h=>(by cases h),.nil⟩
theorem Marks.aU {m:List Deferred}(h:Marks lo Γ w m)(E:TJ Γ H w Γ' H' w'):Marks lo Γ' w' m :=
 ⟨fun d hd=>let ⟨r,h1,h2,h3⟩:=h.1 d hd;⟨r,h1,h2,h3.aU E⟩,h.2⟩
def oL (wb:T2)(Γ:ar)(w:World)(l:List Deferred):Prop:=∃m,l=m++wb.ds/\Marks wb.lo Γ w m
theorem oL.aU {wb:T2}{l:List Deferred}(h:oL wb Γ w l)(E:TJ Γ H w Γ' H' w'):oL wb Γ' w' l :=
 let ⟨m,h1,h2⟩:=h;⟨m,h1,h2.aU E⟩
structure TS (P:Program)(G:Nat->Option (List Ty))(n:Nat)(wb:T2)(Γ:ar)(s:St)(a:Act)(w:World):Prop where
 size:a.tmps.size=n
 env:∀t,TB P Γ s.H w (s.ρ t) (a.tmps.getD t undef)
 heap:TG P G Γ s.H w
 defers:oL wb Γ w a.defers
 low:wb.lo<=w.heap.size
def cU (Γ:ar)(H:Tz):Option Nat->Option Nat->Prop
 |none,rb=>rb=none
 |some id,rb=>∃b st pend n env ps asg body,rb=some b/\Γ id=some (b,0,0)/\H.get id=some (.loop st pend n env ps asg body)
def dT (H:Tz):Option Nat->Prop
 |none=>True
 |some id=>∃st pend n env ps asg body,H.get id=some (.loop st pend n env ps asg body)
abbrev cX (rb:Option Nat):Fence:={ Fence.wide with round:=rb }
def wr:Code->Nat->Bool
 |.region _ ops _,t=>ops.toList.any fun o=>o.dst == some t
 |.seq a b,t|.cond _ a b,t=>wr a t ||wr b t
 |.block _ c,t|.loop c,t|.scope c,t=>wr c t
 |_,_=>false
def Fr (ch:Nat->Bool)(a a':Act):Prop:=∀t,ch t=false->a'.tmps[t]?=a.tmps[t]?
def Fr.refl (ch:Nat->Bool)(a:Act):Fr ch a a:=fun _ _=>rfl
theorem Fr.trans {c:Act}(h:Fr ch a b)(k:Fr ch b c):Fr ch a c:=fun t ht=>(k t ht).trans (h t ht)
def Fr.mono {ch':Nat->Bool}(h:Fr ch a b)(hc:∀t,ch' t=false->ch t=false):Fr ch' a b:=fun t ht=>h t (hc t ht)
def fo (P:Program)(G:Nat->Option (List Ty))(n:Nat)(wb:T2)(rd rb:Option Nat)(ch:Nat->Bool)(Γ:ar)(H:Tz)(a:Act)(w:World)(Q:AX->St->Prop)(e:Exit)(a':Act)(w':World):Prop :=
 ∃x s' Γ',uC e x/\Q x s'/\TS P G n wb Γ' s' a' w'/\TJ Γ H w Γ' s'.H w'/\H.C<=s'.H.C/\cU Γ' s'.H rd rb/\Fr ch a a'
def W (P:Program)(G:Nat->Option (List Ty))(n:Nat)(rd:Option Nat)(c:Code)(Q:AX->St->Prop)(s:St):Prop :=
 ∀wb Γ a w rb,TS P G n wb Γ s a w->cU Γ s.H rd rb->c.wpIn (cX rb) 0 P (fo P G n wb rd rb (wr c) Γ s.H a w Q) a w
def gv (K:St->Prop)(Q:AX->St->Prop):AX->St->Prop
 |.normal,s=>K s
 |x,s=>Q x s
def jG (id:Nat)(Q:AX->St->Prop):AX->St->Prop
 |.exit i,s=>if i=id then Q .normal s else Q (.exit i) s
 |x,s=>Q x s
section rules
variable {n:Nat} {rd:Option Nat} {Q Q':AX->St->Prop} {s:St}
def fo.mono {wb:T2}{rb:Option Nat}{ch:Nat->Bool}{e:Exit}{a a':Act}(h:fo P G n wb rd rb ch Γ H a w Q e a' w')(hq:∀x s,Q x s->Q' x s):fo P G n wb rd rb ch Γ H a w Q' e a' w' :=
 let ⟨x,s',Γ',h1,h2,h3⟩:=h;⟨x,s',Γ',h1,hq _ _ h2,h3⟩
def fo.step {wb:T2}{rb:Option Nat}{ch ch':Nat->Bool}{e:Exit}{a a₁ a':Act}{w₁:World}{H₁:Tz}{Γ₁:ar}(E:TJ Γ H w Γ₁ H₁ w₁)(hn:H.C<=H₁.C)(hf:Fr ch' a a₁)
  (h:fo P G n wb rd rb ch Γ₁ H₁ a₁ w₁ Q e a' w') (hc:∀t,ch' t=false->ch t=false):fo P G n wb rd rb ch' Γ H a w Q e a' w' :=
 let ⟨x,s',Γ',h1,h2,h3,h4,h5,h6,h7⟩:=h;⟨x,s',Γ',h1,h2,h3,E.trans hn h4,QH hn h5,h6,hf.trans (h7.mono hc)⟩
theorem W.mono {c:Code}(h:W P G n rd c Q s)(hq:∀x s,Q x s->Q' x s):W P G n rd c Q' s :=
 fun wb Γ a w rb hs hr=>wpIn_mono (h wb Γ a w rb hs hr) fun _ _ _ hp=>hp.mono hq
def fo.here {wb:T2}{rb:Option Nat}{ch:Nat->Bool}{e:Exit}{a:Act}{x:AX}(hx:uC e x)(h:Q x s)(hs:TS P G n wb Γ s a w)(hr:cU Γ s.H rd rb):
  fo P G n wb rd rb ch Γ s.H a w Q e a w:=⟨x,s,Γ,hx,h,hs,TJ.refl _ _ _,Tx,hr,.refl _ _⟩
theorem W.skip (h:Q .normal s):W P G n rd .skip Q s:=fun _ _ _ _ _ hs hr=>wpIn_skip (.here (x:=.normal) trivial h hs hr)
theorem W.label {l:Nat}(h:Q .normal s):W P G n rd (.label l) Q s:=fun _ _ _ _ _ hs hr=>wpIn_label (.here (x:=.normal) trivial h hs hr)
theorem W.exit {id:Nat}(h:Q (.exit id) s):W P G n rd (.exit id) Q s:=fun _ _ _ _ _ hs hr=>wpIn_exit (.here (x:=.exit id) rfl h hs hr)
theorem W.goto {l:Nat}(h:Q (.goto l) s):W P G n rd (.goto l) Q s:=fun _ _ _ _ _ hs hr=>wpIn_goto (.here (x:=.goto l) rfl h hs hr)
theorem W.ret (h:Q .ret s):W P G n rd .ret Q s:=fun _ _ _ _ _ hs hr=>wpIn_ret (.here (x:=.ret) trivial h hs hr)
def yu {x y:Bool}(h:(x ||y)=false):x=false:=by cases x<;>simp_all
def yv {x y:Bool}(h:(x ||y)=false):y=false:=by cases x<;>simp_all
theorem W.seq {x y:Code}(h:W P G n rd x (gv (W P G n rd y Q) Q) s):W P G n rd (.seq x y) Q s:=by
 intro wb Γ a w rb hs hr;refine wpIn_seq (wpIn_mono (h wb Γ a w rb hs hr) ?_);rintro e a' w' ⟨x',s',Γ',hx,hq,hs',E,hn,hr',hf⟩;have hf':Fr (wr (.seq x y)) a a':=hf.mono fun t ht=>yu ht;cases e with
 |normal =>
  cases x' with
  |normal=>exact wpIn_mono (hq wb Γ' a' w' rb hs' hr') fun _ _ _ hp=>hp.step E hn hf' fun t ht=>yv ht
  |_=>exact hx.elim
 |exit i=>cases x' with
  |exit j=>exact⟨_,s',Γ',hx,hq,hs',E,hn,hr',hf'⟩
  |_=>exact hx.elim
 |goto i=>cases x' with
  |goto j=>exact⟨_,s',Γ',hx,hq,hs',E,hn,hr',hf'⟩
  |_=>exact hx.elim
 |ret=>cases x' with
  |ret=>exact⟨_,s',Γ',hx,hq,hs',E,hn,hr',hf'⟩
  |_=>exact hx.elim
 |panic c=>cases x' with
  |panic=>exact⟨_,s',Γ',hx,hq,hs',E,hn,hr',hf'⟩
  |_=>exact hx.elim
 |outgrown=>cases x'<;>exact hx.elim
def fW {wb:T2}{a:Act}(hs:TS P G n wb Γ s a w)(x:Operand):TB P Γ s.H w (aj G s.ρ x) (a.eval x):=by
 cases x with
 |tmp t=>exact hs.env t
 |const v=>exact .lit v
 |global g =>
  simp only[aj,Act.eval];cases hg:G g with
  |none=>exact .lit _
  |some cells=>exact hs.heap.nr g cells hg
 |func f=>exact TB.nl (fs:=[]) (cs:=[]) rfl rfl (fun i h _=>absurd h (Qf _)) (fun i h _=>absurd h (Qf _))
theorem W.cond {c:Operand}{x y:Code}{t:Bool}(hc:aj G s.ρ c=.lit (.bool t))(h:W P G n rd (if t then x else y) Q s):W P G n rd (.cond c x y) Q s:=by
 intro wb Γ a w rb hs hr;have he:=fW hs c;rw[hc]at he;have:a.eval c=.bool t:=by
  generalize a.eval c=v at he;cases he;rfl
 refine wpIn_cond this (wpIn_mono (h wb Γ a w rb hs hr) ?_);rintro e a' w' ⟨x',s',Γ',h1,h2,h3,h4,h5,h6,h7⟩;refine⟨x',s',Γ',h1,h2,h3,h4,h5,h6,h7.mono fun i hi=>?_⟩;cases t with
 |true=>exact yu hi
 |false=>exact yv hi
theorem W.block {id:Nat}{c:Code}(h:W P G n rd c (jG id Q) s):W P G n rd (.block id c) Q s:=by
 intro wb Γ a w rb hs hr;refine wpIn_block (wpIn_mono (h wb Γ a w rb hs hr) ?_);rintro e a' w' ⟨x,s',Γ',hx,hq,hrest⟩;cases e with
 |exit i =>
  cases x with
  |exit j =>
   obtain rfl:i=j:=hx;simp only[Exit.inBlock];simp only[jG]at hq;split
   ·rename_i hi;rw[PZ hi]at hq;exact⟨.normal,s',Γ',trivial,hq,hrest⟩
   ·rename_i hi;rw[PX hi]at hq;exact⟨.exit i,s',Γ',rfl,hq,hrest⟩
  |_=>exact hx.elim
 |normal=>cases x with
  |normal=>exact⟨_,s',Γ',hx,hq,hrest⟩
  |_=>exact hx.elim
 |goto i=>cases x with
  |goto j=>exact⟨_,s',Γ',hx,hq,hrest⟩
  |_=>exact hx.elim
 |ret=>cases x with
  |ret=>exact⟨_,s',Γ',hx,hq,hrest⟩
  |_=>exact hx.elim
 |panic c=>cases x with
  |panic=>exact⟨_,s',Γ',hx,hq,hrest⟩
  |_=>exact hx.elim
 |outgrown=>cases x<;>exact hx.elim
def cq (P:Program)(G:Nat->Option (List Ty))(s s':St):Prop :=
 ∀n wb Γ a w,TS P G n wb Γ s a w->∃ Γ',TS P G n wb Γ' s' a w/\TJ Γ s.H w Γ' s'.H w /\
  (∀rd rb,cU Γ s.H rd rb->dT s'.H rd->cU Γ' s'.H rd rb)
theorem cq.refl (s:St):cq P G s s:=fun _ _ Γ _ _ h=>⟨Γ,h,TJ.refl _ _ _,fun _ _ h _=>h⟩
def mask (ws:Nat)(ρ ρ₀:Env):Env:=fun t=>if ws / 2 ^ t % 2=1 then ρ t else ρ₀ t
def jH (ws:Nat):Code->Bool
 |.region _ ops _=>ops.toList.all fun o=>match o.dst with|some d=>ws / 2 ^ d % 2 == 1|none=>true
 |.seq a b|.cond _ a b=>jH ws a && jH ws b
 |.block _ c|.loop c|.scope c=>jH ws c
 |_=>true
def DY {ws:Nat}{t:Nat}(ht:¬ws / 2 ^ t % 2=1):∀ {c:Code},jH ws c=true->wr c t=false:=by
 intro c
 induction c with
 |region id ops d =>
  intro h;simp only[jH,Qt]at h;simp only[wr,List.any_eq_false];intro o ho hd;have:=h o ho;have hd':o.dst=some t:=by simpa using hd
  rw[hd']at this;simp only[beq_iff_eq]at this;exact ht this
 |seq a b iha ihb=>intro h;simp only[jH,Qj]at h;simp only[wr,iha h.1,ihb h.2];rfl
 |cond x a b iha ihb=>intro h;simp only[jH,Qj]at h;simp only[wr,iha h.1,ihb h.2];rfl
 |block id c ih=>intro h;exact ih h
 |loop c ih=>intro h;exact ih h
 |scope c ih=>intro h;exact ih h
 |_=>intro _;rfl
theorem W.loop {c:Code}(ws:Nat)(hws:jH ws c=true)(I:Env->Tz->Prop)(μ:Env->Tz->Nat)(h0:I s.ρ s.H)
  (round:∀ ρ H,I ρ H->W P G n rd c (gv (fun s₂=>∃s₃,cq P G s₂ s₃/\s.H.C<=s₃.H.C/\dT s₃.H rd/\I (mask ws s₃.ρ s.ρ) s₃.H/\μ (mask ws s₃.ρ s.ρ) s₃.H<μ (mask ws ρ s.ρ) H) Q) ⟨mask ws ρ s.ρ,H⟩):W P G n rd (.loop c) Q s:=by
 intro wb Γ a w rb hs hr
 let j9:Env->Tz->Act->World->Prop:=fun ρ H a₁ w₁=>∃ Γ₁,I ρ H/\TS P G n wb Γ₁ ⟨mask ws ρ s.ρ,H⟩ a₁ w₁/\TJ Γ s.H w Γ₁ H w₁/\s.H.C<=H.C/\cU Γ₁ H rd rb/\Fr (wr c) a a₁
 let ex:Act->World->Prop:=fun a₁ w₁=>∃k ρ H,j9 ρ H a₁ w₁/\μ (mask ws ρ s.ρ) H=k
 let m:Act->World->Nat:=fun a₁ w₁=>Classical.epsilon fun k=>(∃ ρ H,j9 ρ H a₁ w₁/\μ (mask ws ρ s.ρ) H=k)/\∀j,(∃ ρ H,j9 ρ H a₁ w₁/\μ (mask ws ρ s.ρ) H=j)->k<=j
 have least:∀(p:Nat->Prop),(∃k,p k)->∃k,p k/\∀j,p j->k<=j:=by
  intro p ⟨k,hk⟩
  induction k using Nat.strongRecOn with
  |_ k ih =>
   by_cases h:∃j,j<k/\p j
   ·obtain⟨j,hj,hp⟩:=h;exact ih j hj hp
   ·exact⟨k,hk,fun j hj=>Sx fun hlt=>h ⟨j,hlt,hj⟩⟩
 have mspec:∀a₁ w₁,ex a₁ w₁->(∃ ρ H,j9 ρ H a₁ w₁/\μ (mask ws ρ s.ρ) H=m a₁ w₁)/\∀j,(∃ ρ H,j9 ρ H a₁ w₁/\μ (mask ws ρ s.ρ) H=j)->m a₁ w₁<=j:=by
  intro a₁ w₁ h;exact Classical.epsilon_spec (p:=fun k=>(∃ ρ H,j9 ρ H a₁ w₁/\μ (mask ws ρ s.ρ) H=k)/\∀j,(∃ ρ H,j9 ρ H a₁ w₁/\μ (mask ws ρ s.ρ) H=j)->k<=j) (least _ h)
 have mask0:mask ws s.ρ s.ρ=s.ρ:=by
  funext t
  unfold mask;split<;>rfl
 have mask2:∀ ρ,mask ws (mask ws ρ s.ρ) s.ρ=mask ws ρ s.ρ:=by
  intro ρ
  funext t
  unfold mask;by_cases h:ws / 2 ^ t % 2=1
  ·rw[PZ h,PZ h]
  ·rw[PX h,PX h]
 refine wpIn_mono (Q:=fun e a' w'=>fo P G n wb rd rb (wr c) Γ s.H a w Q e a' w') ?_ fun _ _ _ hp=>hp;refine wpIn_loop ex m ⟨_,s.ρ,s.H,⟨Γ,h0,by rw[mask0];exact hs,TJ.refl _ _ _,Tx,hr,.refl _ _⟩,rfl⟩ ?_;intro a₁ w₁ hex;obtain⟨⟨ρ,H,⟨Γ₁,hI,hs₁,E₁,hn₁,hr₁,hf₁⟩,hm⟩,hmin⟩:=mspec a₁ w₁ hex;refine wpIn_mono (round ρ H hI wb Γ₁ a₁ w₁ rb hs₁ hr₁) ?_;rintro e a' w' ⟨x,s',Γ',hx,hq,hs',E,hn,hr',hf⟩;have hf':=hf₁.trans hf;cases e with
 |normal =>
  cases x with
  |normal =>
   obtain⟨s₃,hw,hn3,hri,hI3,hlt⟩:=hq;obtain⟨Γ₃,hs₃,E₃,hrd⟩:=hw n wb Γ' a' w' hs';have E₄:TJ Γ s.H w Γ₃ s₃.H w':=(E₁.trans hn₁ E).trans (QH hn₁ hn) E₃;have hs₄:TS P G n wb Γ₃ ⟨mask ws (mask ws s₃.ρ s.ρ) s.ρ,s₃.H⟩ a' w':=by
    rw[mask2];refine⟨hs₃.size,fun t=>?_,hs₃.heap,hs₃.defers,hs₃.low⟩;show TB P Γ₃ s₃.H w' (if ws / 2 ^ t % 2=1 then s₃.ρ t else s.ρ t) _;by_cases ht:ws / 2 ^ t % 2=1
    ·rw[PZ ht];exact hs₃.env t
    ·rw[PX ht];have hsame:=hf' t (DY ht hws);have:a'.tmps.getD t undef=a.tmps.getD t undef:=by
      simp only[QB,hsame]
     rw[this];exact(hs.env t).aU E₄ hn3
   have hg:j9 (mask ws s₃.ρ s.ρ) s₃.H a' w':=⟨Γ₃,hI3,hs₄,E₄,hn3,hrd rd rb hr' hri,hf'⟩
   have hex':ex a' w':=⟨_,_,_,hg,rfl⟩
   refine⟨hex',SI ((mspec a' w' hex').2 _ ⟨_,_,hg,rfl⟩) ?_⟩;rw[<- hm,mask2];exact hlt
  |_=>exact hx.elim
 |exit i=>cases x with
  |exit j=>exact⟨_,s',Γ',hx,hq,hs',E₁.trans hn₁ E,QH hn₁ hn,hr',hf'⟩
  |_=>exact hx.elim
 |goto i=>cases x with
  |goto j=>exact⟨_,s',Γ',hx,hq,hs',E₁.trans hn₁ E,QH hn₁ hn,hr',hf'⟩
  |_=>exact hx.elim
 |ret=>cases x with
  |ret=>exact⟨_,s',Γ',hx,hq,hs',E₁.trans hn₁ E,QH hn₁ hn,hr',hf'⟩
  |_=>exact hx.elim
 |panic c=>cases x with
  |panic=>exact⟨_,s',Γ',hx,hq,hs',E₁.trans hn₁ E,QH hn₁ hn,hr',hf'⟩
  |_=>exact hx.elim
 |outgrown=>cases x<;>exact hx.elim
def W.aM {c:Code}(ws:Nat)(hws:jH ws c=true)(I:Env->Tz->Prop)(μ:Env->Tz->Nat)(h0:I s.ρ s.H)
  (round:∀ ρ H,I ρ H->W P G n rd c (gv (fun s₂=>s.H.C<=s₂.H.C/\dT s₂.H rd/\I (mask ws s₂.ρ s.ρ) s₂.H/\μ (mask ws s₂.ρ s.ρ) s₂.H<μ (mask ws ρ s.ρ) H) Q) ⟨mask ws ρ s.ρ,H⟩):W P G n rd (.loop c) Q s :=
 W.loop ws hws I μ h0 fun ρ H hI=>(round ρ H hI).mono fun x s' hx=>by
  cases x with
  |normal=>exact⟨s',cq.refl s',hx⟩
  |_=>exact hx
def W.yw {c:Code}{s':St}(hw:cq P G s s')(hn:s.H.C<=s'.H.C)(hri:dT s'.H rd)(h:W P G n rd c Q s'):W P G n rd c Q s:=by
 intro wb Γ a w rb hs hr;obtain⟨Γ',hs',E,hrd⟩:=hw n wb Γ a w hs;exact wpIn_mono (h wb Γ' a w rb hs' (hrd rd rb hr hri)) fun _ _ _ hp=>hp.step E hn (.refl _ _) fun _ h=>h
end rules
end Go.Hx
namespace Go.Hx
variable {P:Program} {G:Nat->Option (List Ty)} {Γ Γ':ar} {H H':Tz} {w w':World}
variable {a:Act}{f:FuncId}{args:List Ty}{id n:Nat}{rb rd:Option Nat}{wb:T2}{cv v:Value}
inductive TF where
 |ret (v:Ty)
 |panic
def DZ (P:Program)(Γ:ar)(H:Tz)(w:World):Ending->TF->Prop
 |.returned cv,.ret v=>TB P Γ H w v cv
 |.panicked chain,.panic=>uB chain
 |_,_=>False
def fX (P:Program)(G:Nat->Option (List Ty))(Γ:ar)(H:Tz)(w:World)(K:TF->Tz->Prop)(e:Ending)(w':World):Prop :=
 ∃r H' Γ',DZ P Γ' H' w' e r/\K r H'/\TG P G Γ' H' w'/\TJ Γ H w Γ' H' w'/\H.C<=H'.C
def af (P:Program)(G:Nat->Option (List Ty))(f:FuncId)(args:List Ty)(H:Tz)(K:TF->Tz->Prop):Prop :=
  (∃ fn, P.funcs[f]? = some fn ∧ fn.body.isNone = false ∧ (fn.name == "runtime.NumGoroutine") = false) ∧
 ∀ Γ w cargs,TG P G Γ H w->cG P Γ H w args cargs->CallsIn Fence.wide 0 P f cargs w (fX P G Γ H w K)
def aE (P:Program)(G:Nat->Option (List Ty))(fv:Ty)(args:List Ty)(H:Tz)(K:TF->Tz->Prop):Prop :=
 ∀ Γ w cfv cargs,TG P G Γ H w->TB P Γ H w fv cfv->cG P Γ H w args cargs ->
  ∃d,(Deferred.ofValue cfv cargs).run P w=.ok d w /\
   ((∃f as,(invoke d.target d.args).run P w=.ok (.enter f as) w/\CallsIn Fence.wide 0 P f as w (fX P G Γ H w K)) \/
    (∃l f tm asg body,(invoke d.target d.args).run P w=.ok (.round l f tm asg body) w/\RoundIn Fence.wide 0 P l f tm asg body w (fX P G Γ H w K)) \/
    (∃cv w',(invoke d.target d.args).run P w=.ok (.value cv) w'/\fX P G Γ H w K (.returned cv) w'))
variable {K K':TF->Tz->Prop}
def fX.mono {e:Ending}(h:fX P G Γ H w K e w')(hk:∀r H',K r H'->K' r H'):fX P G Γ H w K' e w' :=
 let ⟨r,H',Γ',h1,h2,h3⟩:=h;⟨r,H',Γ',h1,hk _ _ h2,h3⟩
theorem af.mono (h:af P G f args H K)(hk:∀r H',K r H'->K' r H'):af P G f args H K' :=
 ⟨h.1,fun Γ w cargs R hr=>(h.2 Γ w cargs R hr).mono fun _ _ hp=>hp.mono hk⟩
theorem aE.mono {fv:Ty}(h:aE P G fv args H K)(hk:∀r H',K r H'->K' r H'):aE P G fv args H K':=by
 intro Γ w cfv cargs R hv hr;obtain⟨d,h1,h2⟩:=h Γ w cfv cargs R hv hr;refine⟨d,h1,?_⟩;rcases h2 with ⟨f,as,h3,h4⟩|⟨l,f,tm,asg,body,h3,h4⟩|⟨cv,w',h3,h4⟩
 ·exact .inl ⟨f,as,h3,h4.mono fun _ _ hp=>hp.mono hk⟩
 ·exact .inr (.inl ⟨l,f,tm,asg,body,h3,h4.mono fun _ _ hp=>hp.mono hk⟩)
 ·exact .inr (.inr ⟨cv,w',h3,h4.mono hk⟩)
def qQ {a b:List Ty}{x y:Array Value}(h:cG P Γ H w a x)(k:cG P Γ H w b y):cG P Γ H w (a++b) (x++y):=by
 refine⟨by rw[SR,List.length_append,h.1,k.1],fun i h1 h2=>?_⟩;have hx:=h.1;by_cases hi:i<a.length
 ·rw[QR hi,Array.getElem_append_left U];exact h.2 i hi _
 ·rw[QU U,Array.getElem_append_right U];simp only[hx];exact k.2 _ (by simp only[List.length_append]at h1;omega) _
theorem aE.nl {f:FuncId}{first cap args:List Ty}{K:TF->Tz->Prop}(h:af P G f (first++args++cap) H K):aE P G (.nl f first cap) args H K:=by
 intro Γ w cfv cargs R hv hr;cases hv with
 | @nl _ _ _ fs cs hfs hcs hf hc =>
  refine⟨{ target:=.fn (.func f) cs.toArray,args:=fs.toArray++cargs },rfl,.inl ⟨f,fs.toArray++cargs++cs.toArray,?_,?_⟩⟩
  ·obtain⟨fn,hfn,hb,hn⟩:=h.1;show (callFunc f (fs.toArray++cargs++cs.toArray)).run P w=_;unfold callFunc;rw[ak (run_program P w)];simp only[hfn];rw[hn,hb];rfl
  ·exact h.2 Γ w _ R (qQ (qQ ⟨by simpa using hfs,fun i h1 h2=>by simpa using hf i h1 (by simpa using h2)⟩ hr) ⟨by simpa using hcs,fun i h1 h2=>by simpa using hc i h1 (by simpa using h2)⟩)
def TB.D0 (h:TB P Γ H w (.lit v) cv):cv=v:=by cases h;rfl
theorem aE.ext {fn:Func}{e:Array Value->Sem Value}{vs:List Value}{r:Ty}(hf:P.funcs[f]?=some fn)(hb:fn.body.isNone=true)
    (hn : (fn.name == "runtime.NumGoroutine") = false) (h1 : Extern.findNext fn = none) (h2 : Extern.find fn = some e) (ha : args = vs.map .lit) (hrun : ∀ w, (e vs.toArray).run P w = .ok v w)
  (hrel:∀ Γ H w,TB P Γ H w r v) (hK:K (.ret r) H):aE P G (.nl f [] []) args H K:=by
 intro Γ w cfv cargs R hv hr;subst ha;have hc:cargs=vs.toArray:=by
  obtain⟨hs,hr⟩:=hr;apply Array.ext
  ·simpa using hs
  ·intro i h1 h2;have:=hr i (by simpa using h2) h1;simp only[P4]at this;simpa using this.D0
 subst hc;cases hv with
 | @nl _ _ _ fs cs hfs hcs hf' hc' =>
  obtain rfl:fs=[]:=P1 (by simpa using hfs);obtain rfl:cs=[]:=P1 (by simpa using hcs);refine⟨{ target:=.fn (.func f) #[],args:=#[]++vs.toArray },rfl,.inr (.inr ⟨v,w,?_,.ret r,H,Γ,hrel Γ H w,hK,R,TJ.refl _ _ _,Tx⟩)⟩;show (callFunc f (#[]++vs.toArray++#[])).run P w=_;unfold callFunc;rw[ak (run_program P w)];simp only[hf];rw[hn,hb];simp only[Bool.false_eq_true,if_false,if_true,h1,h2];have e0:#[]++vs.toArray++#[]=vs.toArray:=Tu
  rw[e0];have hm:(mark (.extern f)).run P w=.ok () w:=rfl;rw[ak hm];rw[ak (hrun w)];rfl
inductive TagK {α:Type}(K:α->Prop):Type where
 |mk
inductive TagR (K:TF->Tz->Prop):Type where
 |mk
inductive TagP (p q:Prop):Type where
 |mk
def ba {α:Type}(o:Option α)(K:α->Prop)(_d:TagK K:=.mk):Prop:=∃a,o=some a/\K a
def aD (ρ:Env)(dst:Option Tmp)(v:Ty):Env :=
 match dst with
 |some d=>fun t=>if t=d then v else ρ t
 |none=>ρ
def dG (all:Array Oper)(ρ:Env)(o:Oper):Option Bool :=
 match o.guard with
 |none=>some true
 |some (j,want) =>
  match (all[j]?).bind (·.dst) with
  |some d=>match ρ d with
   |.lit (.bool b)=>some (b == want)
   |.lit _=>some false
   |_=>none
  |none=>some false
def ep (n:Nat)(o:Oper):Bool:=match o.dst with|some d=>decide (d<n)|none=>true
def gy (H:Tz)(op:BinOp)(x y:Ty):Option Bool :=
 match op,y with
 |.eql,.lit (.slice none 0 0)|.neq,.lit (.slice none 0 0)=>match x with
  |.M n _=>some (decide (0<n))
  |.V id g _ n _=>match H.Z id g with
   |some _=>some (decide (0<n))
   |none=>none
  |_=>none
 |_,_=>none
def jI (d:Option TypeDesc):Bool:=match d with|some (.slice _)=>true|_=>false
def oO (P:Program)(op:BinOp)(t:TypeId)(k:Option Bool)(Kb:Ty->Prop)(p:Prop):Prop :=
 match k with
 |some k=>jI (P.underlying t)=true/\∀b:Bool,(k=true->b=false)->Kb (.lit (.bool (if op == .neq then !b else b)))
 |none=>p
def aN (P:Program)(G:Nat->Option (List Ty))(rd:Option Nat)(Q:AX->St->Prop)(o:Oper)(K:St->Prop)(s:St):Prop :=
 match o.op with
 |.call { callee:=.value fv,args,.. }=>aE P G (aj G s.ρ fv) (args.toList.map (aj G s.ρ)) s.H fun r H'=>dT H' rd/\match r with
  |.ret v=>K ⟨aD s.ρ o.dst v,H'⟩
  |.panic=>Q .panic ⟨s.ρ,H'⟩
 |.panic x=>(∃t v,(aj G s.ρ x)=.lit (.iface t v))/\Q .panic s
 |.binOp op t x y u=>oO P op t (gy s.H op (aj G s.ρ x) (aj G s.ρ y)) (fun v=>K ⟨aD s.ρ o.dst v,s.H⟩) (ba (ah P G s.ρ s.H s.H.C (.binOp op t x y u)) fun vH=>K ⟨aD s.ρ o.dst vH.1,vH.2⟩)
 |op=>ba (ah P G s.ρ s.H s.H.C op) fun vH=>K ⟨aD s.ρ o.dst vH.1,vH.2⟩
def opsV (P:Program)(G:Nat->Option (List Ty))(rd:Option Nat)(Q:AX->St->Prop)(all:Array Oper):List Oper->St->Prop
 | [],s=>Q .normal s
 |o :: rest,s=>ba (dG all s.ρ o) fun t=>if t=true then aN P G rd Q o (opsV P G rd Q all rest) s else opsV P G rd Q all rest ⟨aD s.ρ o.dst (.lit undef),s.H⟩
def mF {s:St}{all:Array Oper}{o:Oper}{t:Bool}(hs:TS P G n wb Γ s a w)(h:dG all s.ρ o=some t):Region.wanted o (yielded all a.tmps)=t:=by
 unfold dG at h;unfold Region.wanted;split at h
 ·rename_i hg;rw[hg];simpa using h
 ·rename_i j want hg;rw[hg];simp only;split at h
  ·rename_i d hd;have he:=hs.env d;have hy:yielded all a.tmps j=match a.tmps[d]? with|some (.bool b)=>some b|_=>none:=by
    unfold yielded;rw[hd];rfl
   rw[hy];have hgd:a.tmps.getD d undef=(a.tmps[d]?).getD undef:=Tu;rw[hgd]at he;split at h
   ·rename_i b hb;rw[hb]at he;simp only[Option.some.injEq]at h;cases hd:a.tmps[d]? with
    |none=>rw[hd]at he;cases he
    |some v =>
     rw[hd]at he;cases he;simp only;rw[<- h];cases b<;>cases want<;>rfl
   ·rename_i v hnb hb;rw[hb]at he;simp only[Option.some.injEq]at h;subst h;cases hd:a.tmps[d]? with
    |none=>simp
    |some cv =>
     rw[hd]at he;cases he;cases cv with
     |bool b=>exact(hnb b rfl).elim
     |_=>rfl
   ·cases h
  ·rename_i hd;have hy:yielded all a.tmps j=none:=(by unfold yielded;rw[hd];rfl);rw[hy];simpa using h
def iB {s:St}{dst:Option Tmp}{v:Ty}{H':Tz}(hs:TS P G n wb Γ s a w)(hd:∀d,dst=some d->d<n)(E:TJ Γ s.H w Γ' H' w')(hn:s.H.C<=H'.C)
  (R:TG P G Γ' H' w') (hv:TB P Γ' H' w' v cv):TS P G n wb Γ' ⟨aD s.ρ dst v,H'⟩ (a.put dst cv) w':=by
 cases dst with
 |none=>exact⟨hs.size,fun t=>(hs.env t).aU E hn,R,hs.defers.aU E,QH hs.low E.size⟩
 |some d =>
  have hdn:=hd d rfl;refine⟨by simp[Act.put,hs.size],fun t=>?_,R,hs.defers.aU E,QH hs.low E.size⟩;simp only[Act.put,aD];by_cases ht:t=d
  ·subst ht;rw[PZ rfl];have:(a.tmps.setIfInBounds t cv).getD t undef=cv:=(by simp[hs.size,hdn]);rw[this];exact hv
  ·rw[PX ht];have:(a.tmps.setIfInBounds d cv).getD t undef=a.tmps.getD t undef:=by
    simp only[QB];rw[QG,PX U]
   rw[this];exact(hs.env t).aU E hn
def cU.aU (h:cU Γ H rd rb)(E:TJ Γ H w Γ' H' w')(hn:H.C<=H'.C)(R:TG P G Γ H w)(hi:dT H' rd):cU Γ' H' rd rb:=by
 cases rd with
 |none=>exact h
 |some id =>
  obtain⟨b,st,pend,n,env,ps,asg,body,h1,h2,h3⟩:=h;obtain⟨st',pend',n',env',ps',asg',body',h3'⟩:=hi;have hlt:=R.C id _ h3;obtain⟨x,hx,hle⟩:=E.Z id hlt (P5 hlt hn) _ h3';rw[h3]at hx;cases hx;exact⟨b,_,_,_,_,_,_,_,h1,hle.1.trans h2,h3'⟩
def D1 {b:TE}(h:H.lay id b=some H'){j:Nat}{st:LoopState}{pend:Option Code}{env:Env}{ps:Array Tmp}{asg body:Code}
  (hj:H.get j=some (.loop st pend n env ps asg body)) (hlt:j<H.C):H'.get j=some (.loop st pend n env ps asg body):=by
 obtain⟨h1,_⟩:=gX h;have hne:j≠id:=by
  rintro rfl;unfold Tz.lay at h;rw[PX U,hj]at h;cases h
 rw[h1,PX hne];exact hj
def uD (h:cU Γ H rd rb)(hk:∀j st pend n env ps asg body,H.get j=some (.loop st pend n env ps asg body)->∃st pend n env ps asg body,H'.get j=some (.loop st pend n env ps asg body)):dT H' rd:=by
 cases rd with
 |none=>trivial
 |some id =>
  obtain⟨b,st,pend,n,env,ps,asg,body,h1,h2,h3⟩:=h;exact hk id _ _ _ _ _ _ _ h3
def uE {ρ:Env}{o:Op}{v:Ty}(R:TG P G Γ H w)(h:ah P G ρ H id o=some (v,H')):∀j st pend n env ps asg body,H.get j=some (.loop st pend n env ps asg body) ->
  ∃st pend n env ps asg body,H'.get j=some (.loop st pend n env ps asg body):=by
 have same:H'=H->∀j st pend n env ps asg body,H.get j=some (.loop st pend n env ps asg body)->∃st pend n env ps asg body,H'.get j=some (.loop st pend n env ps asg body):=by
  rintro rfl j st pend n env ps asg body hj;exact⟨_,_,_,_,_,_,_,hj⟩
 have lay:∀b,H.lay id b=some H'->∀j st pend n env ps asg body,H.get j=some (.loop st pend n env ps asg body)->∃st pend n env ps asg body,H'.get j=some (.loop st pend n env ps asg body):=by
  intro b hb j st pend n env ps asg body hj;exact⟨_,_,_,_,_,_,_,D1 hb hj (R.C j _ hj)⟩
 have upd:∀id g e cells b,H.get id=some (.L g e cells)->H'=H.upd id b->∀j st pend n env ps asg body,H.get j=some (.loop st pend n env ps asg body)->∃st pend n env ps asg body,H'.get j=some (.loop st pend n env ps asg body):=by
  rintro id g e cells b hb rfl j st pend n env ps asg body hj;refine⟨st,pend,n,env,ps,asg,body,?_⟩;rw[ab,PX]
  ·exact hj
  ·rintro rfl;rw[hb]at hj;cases hj
 have updM:∀id es b,H.get id=some (.mp es)->H'=H.upd id b->∀j st pend n env ps asg body,H.get j=some (.loop st pend n env ps asg body)->∃st pend n env ps asg body,H'.get j=some (.loop st pend n env ps asg body):=by
  rintro id es b hb rfl j st pend n env ps asg body hj;refine⟨st,pend,n,env,ps,asg,body,?_⟩;rw[ab,PX]
  ·exact hj
  ·rintro rfl;rw[hb]at hj;cases hj
 have updU:∀t m k x,jA P H t m k x=some (v,H')->∀j st pend n env ps asg body,H.get j=some (.loop st pend n env ps asg body)->∃st pend n env ps asg body,H'.get j=some (.loop st pend n env ps asg body):=by
  intro t m k x h;unfold jA at h;split at h
  ·split at h
   ·split at h
    ·rename_i hg;simp only[Option.some.injEq,Prod.mk.injEq]at h;exact updM _ _ _ hg h.2.symm
    ·cases h
   ·cases h
  ·cases h
 cases o with
 |makeMap t r =>
  simp only[ah]at h;split at h
  ·simp only[PU,Prod.mk.injEq]at h;obtain⟨_,hl,_,rfl⟩:=h;exact lay _ hl
  ·cases h
 |lookup a b c d=>simp only[ah,PU,Prod.mk.injEq]at h;obtain⟨_,_,_,rfl⟩:=h;exact same rfl
 |mapUpdate t m k x=>simp only[ah]at h;exact updU _ _ _ _ h
 |insert t m k x=>simp only[ah]at h;exact updU _ _ _ _ h
 |mapEntry t m k =>
  simp only[ah]at h;unfold lj at h;split at h
  ·split at h
   ·split at h
    ·rename_i hg;split at h
     ·simp only[Option.some.injEq,Prod.mk.injEq]at h;exact updM _ _ _ hg h.2.symm
     ·simp only[Option.some.injEq,Prod.mk.injEq]at h;exact updM _ _ _ hg h.2.symm
    ·cases h
   ·cases h
  ·cases h
 |entryStore t m s x =>
  simp only[ah]at h;unfold mv at h;split at h
  ·split at h
   ·rename_i hg;split at h
    ·simp only[Option.some.injEq,Prod.mk.injEq]at h;exact updM _ _ _ hg h.2.symm
    ·cases h
   ·cases h
  ·cases h
 |alloc e =>
  simp only[ah,P0,PU,Prod.mk.injEq]at h;obtain⟨_,_,_,hl,_,rfl⟩:=h;exact lay _ hl
 |box e x =>
  simp only[ah,PU,Prod.mk.injEq]at h;obtain⟨_,hl,_,rfl⟩:=h;exact lay _ hl
 |buildSlice t len parts =>
  simp only[ah,ix]at h;split at h
  ·split at h
   ·simp only[P0,PU,Prod.mk.injEq]at h;obtain⟨_,_,_,_,_,hl,_,rfl⟩:=h;exact lay _ hl
   ·cases h
  ·cases h
 |store t a x =>
  simp only[ah]at h;split at h
  ·simp only[PU,Prod.mk.injEq]at h;obtain⟨_,hst,_,rfl⟩:=h;unfold fU at hst;split at hst
   ·split at hst
    ·rename_i hg;split at hst
     ·simp only[Option.some.injEq]at hst;exact upd _ _ _ _ _ hg hst.symm
     ·cases hst
    ·cases hst
   ·cases hst
  ·cases h
 |makeSlice t l c =>
  simp only[ah,gY]at h;split at h
  ·split at h
   ·simp only[P0,PU,Prod.mk.injEq]at h;obtain⟨_,_,_,hl,_,rfl⟩:=h;exact lay _ hl
   ·cases h
  ·cases h
 |call c =>
  simp only[ah]at h;split at h
  ·rename_i b hb;unfold eV at h;split at h
   ·simp only[PU,Prod.mk.injEq]at h;obtain⟨_,_,_,rfl⟩:=h;exact same rfl
   ·unfold bd at h;split at h
    ·split at h
     ·simp only[P0]at h;obtain⟨_,_,_,_,h⟩:=h;split at h
      ·split at h
       ·simp only[Option.some.injEq,Prod.mk.injEq]at h;exact same h.2.symm
       ·split at h
        ·simp only[PU,Prod.mk.injEq]at h;obtain⟨_,hl,_,rfl⟩:=h;exact lay _ hl
        ·cases h
      ·simp only[P0]at h;obtain⟨⟨e',cells⟩,hl,h⟩:=h;simp only at h;split at h
       ·split at h
        ·simp only[Option.some.injEq,Prod.mk.injEq]at h;exact same h.2.symm
        ·simp only[Option.some.injEq,Prod.mk.injEq]at h;exact upd _ _ _ _ _ (gq hl) h.2.symm
       ·cases h
      ·cases h
     ·cases h
    ·cases h
   ·unfold iT at h;split at h
    ·split at h
     ·simp only[P0]at h;obtain⟨_,_,h⟩:=h;split at h
      ·simp only[P0]at h;obtain⟨⟨e',cells⟩,hl,h⟩:=h;simp only at h;split at h
       ·simp only[Option.some.injEq,Prod.mk.injEq]at h;exact upd _ _ _ _ _ (gq hl) h.2.symm
       ·cases h
      ·cases h
     ·cases h
    ·cases h
   ·unfold iU at h;split at h
    ·split at h
     ·simp only[Option.some.injEq,Prod.mk.injEq]at h;exact same h.2.symm
     ·simp only[P0]at h;obtain⟨⟨e',cells⟩,hl,h⟩:=h;simp only at h;split at h
      ·simp only[Option.some.injEq,Prod.mk.injEq]at h;exact same h.2.symm
      ·simp only[P0]at h;obtain⟨_,_,h⟩:=h;split at h
       ·simp only[Option.some.injEq,Prod.mk.injEq]at h;exact upd _ _ _ _ _ (gq hl) h.2.symm
       ·cases h
     ·cases h
    ·cases h
   ·simp only[P0,PU,Prod.mk.injEq]at h;obtain⟨_,_,_,_,_,rfl⟩:=h;exact same rfl
   ·simp only[P0,PU,Prod.mk.injEq]at h;obtain⟨_,_,_,_,_,rfl⟩:=h;exact same rfl
   ·cases h
  ·cases h
 |pick c a b =>
  simp only[ah]at h;split at h
  ·simp only[Option.some.injEq,Prod.mk.injEq]at h;exact same h.2.symm
  ·cases h
 |makeFunc fn f c =>
  simp only[ah]at h;split at h
  ·simp only[Option.some.injEq,Prod.mk.injEq]at h;exact same h.2.symm
  ·cases h
 |makeInterface t x =>
  simp only[ah]at h;split at h
  ·simp only[PU,Prod.mk.injEq]at h;obtain⟨_,_,_,rfl⟩:=h;exact same rfl
  ·cases h
 |slice t x lo hi mx =>
  simp only[ah]at h;split at h
  ·simp only[PU,Prod.mk.injEq]at h;obtain⟨_,_,_,rfl⟩:=h;exact same rfl
  ·cases h
 |fieldAddr s x f =>
  simp only[ah,P0]at h;obtain⟨_,_,h⟩:=h;split at h
  ·simp only[PU,Prod.mk.injEq]at h;obtain⟨_,_,_,rfl⟩:=h;exact same rfl
  ·simp only[Option.some.injEq,Prod.mk.injEq]at h;exact same h.2.symm
  ·cases h
 |field s x f =>
  simp only[ah,P0]at h;obtain⟨_,_,h⟩:=h;split at h
  ·simp only[PU,Prod.mk.injEq]at h;obtain⟨_,_,_,rfl⟩:=h;exact same rfl
  ·simp only[PU,Prod.mk.injEq]at h;obtain⟨_,_,_,rfl⟩:=h;exact same rfl
  ·cases h
 |indexAddr t x i =>
  simp only[ah]at h;split at h
  ·simp only[PU,Prod.mk.injEq]at h;obtain⟨_,_,_,rfl⟩:=h;exact same rfl
  ·cases h
 |move x=>simp only[ah,Option.some.injEq,Prod.mk.injEq]at h;exact same h.2.symm
 |assign x=>simp only[ah,Option.some.injEq,Prod.mk.injEq]at h;exact same h.2.symm
 |build t p=>simp only[ah,PU,Prod.mk.injEq]at h;obtain⟨_,_,_,rfl⟩:=h;exact same rfl
 |load t p=>simp only[ah,PU,Prod.mk.injEq]at h;obtain⟨_,_,_,rfl⟩:=h;exact same rfl
 |nilCheck p=>simp only[ah,PU,Prod.mk.injEq]at h;obtain⟨_,_,_,rfl⟩:=h;exact same rfl
 |binOp a b c d e=>simp only[ah,PU,Prod.mk.injEq]at h;obtain⟨_,_,_,rfl⟩:=h;exact same rfl
 |unOp a b c=>simp only[ah,PU,Prod.mk.injEq]at h;obtain⟨_,_,_,rfl⟩:=h;exact same rfl
 |convert a b c=>simp only[ah,PU,Prod.mk.injEq]at h;obtain⟨_,_,_,rfl⟩:=h;exact same rfl
 |index a b c=>simp only[ah,PU,Prod.mk.injEq]at h;obtain⟨_,_,_,rfl⟩:=h;exact same rfl
 |extract a b=>simp only[ah,PU,Prod.mk.injEq]at h;obtain⟨_,_,_,rfl⟩:=h;exact same rfl
 |_=>simp[ah]at h
end Go.Hx
namespace Go.Hx
variable {P:Program} {G:Nat->Option (List Ty)} {Γ Γ':ar} {H H':Tz} {w w':World}
variable {k:Bool}{n:Nat}{cx:Value}
def yx {cells:List Ty}(hx:TB P Γ H w (.M n cells) cx):∃a m c,cx=.slice a m c/\(decide (0<n)=true->a.isNone=false):=by
 cases hx with
 |nj a cap=>exact⟨a,0,cap,rfl,fun hk=>by simp at hk⟩
 |M=>exact⟨_,_,_,rfl,fun _=>rfl⟩
def yy {id g o z:Nat}(h:(match H.Z id g with|some _=>some (decide (0<n))|none=>none)=some k)(hx:TB P Γ H w (.V id g o n z) cx):∃a m c,cx=.slice a m c/\(k=true->a.isNone=false):=by
 split at h
 ·rename_i ec hl;simp only[Option.some.injEq]at h;rcases gZ (e:=ec.1) (cells:=ec.2) hx hl with ⟨b,base,m,a,cap,_,rfl,_,_,_⟩|⟨_,_,rfl,rfl⟩
  ·exact⟨_,_,_,rfl,fun _=>rfl⟩
  ·refine⟨_,_,_,rfl,fun hk=>?_⟩;rw[<- h]at hk;simp at hk
 ·cases h
def D2 {op:BinOp}{x y:Ty}{cy:Value}(h:gy H op x y=some k)(hx:TB P Γ H w x cx)(hy:TB P Γ H w y cy):
  (op=.eql\/op=.neq)/\cy=.slice none 0 0/\∃a n c,cx=.slice a n c/\(k=true->a.isNone=false):=by
 unfold gy at h;split at h
 ·cases hy;split at h
  ·simp only[Option.some.injEq]at h;rw[<- h];exact⟨.inl rfl,rfl,yx hx⟩
  ·exact⟨.inl rfl,rfl,yy h hx⟩
  ·cases h
 ·cases hy;split at h
  ·simp only[Option.some.injEq]at h;rw[<- h];exact⟨.inr rfl,rfl,yx hx⟩
  ·exact⟨.inr rfl,rfl,yy h hx⟩
  ·cases h
 ·cases h
def yz {t:TypeId}(ht:jI (P.underlying t)=true)(a:Option Addr)(n c:Nat):(Op.equal t (.slice a n c) (.slice none 0 0)).run P w=.ok a.isNone w:=by
 unfold jI at ht;split at ht
 ·rename_i e he;show (Op.equalIn (9999+1) t (.slice a n c) (.slice none 0 0)).run P w=_;unfold Op.equalIn;rw[ak (bT he)];cases a<;>rfl
 ·cases ht
section
variable {n:Nat} {wb:T2} {rd rb:Option Nat} {Q:AX->St->Prop}
def yA {o:Oper}{K:St->Prop}{s:St}{a:Act}{C:Act->World->Prop}{Q':Exit->Act->World->Prop}(hd:ep n o=true)(hs:TS P G n wb Γ s a w)(hr:cU Γ s.H rd rb)(h:aN P G rd Q o K s)
  (hnext:∀ Γ' s' a' w',K s'->TS P G n wb Γ' s' a' w'->TJ Γ s.H w Γ' s'.H w'->s.H.C<=s'.H.C->cU Γ' s'.H rd rb->(∃cv,a'=a.put o.dst cv)->C a' w')
  (hq:∀ Γ' s' a' w' chain,Q .panic s'->uB chain->TS P G n wb Γ' s' a' w'->TJ Γ s.H w Γ' s'.H w'->s.H.C<=s'.H.C->cU Γ' s'.H rd rb->a'=a->Q' (.panic chain) a' w'):
  o.wpIn (cX rb) 0 P a w C Q':=by
 have hdst:∀d,o.dst=some d->d<n:=by
  intro d hd';unfold ep at hd;rw[hd']at hd;simpa using hd
 have plain:∀vH:Ty × Tz,ah P G s.ρ s.H s.H.C o.op=some vH->K ⟨aD s.ρ o.dst vH.1,vH.2⟩->o.wpIn (cX rb) 0 P a w C Q':=by
  rintro⟨v,H'⟩ hop hk;refine⟨fun _ _=>trivial,?_⟩;rw[Oper.semAt_eq _ _ _ (fun c hc=>by rw[hc]at hop;simp[ah]at hop)];obtain⟨nx,cv,Γ',w',hrun,hnx,E,hn,R,hv⟩:=uA hs.heap (fW hs) hop;rw[hrun];have hri:=uD hr (uE hs.heap hop);have hs':=iB hs hdst E hn R hv;have hr':=hr.aU E hn hs.heap hri;rcases hnx with rfl|⟨rfl,rfl⟩
  ·exact hnext Γ' _ _ w' hk hs' E hn hr' ⟨_,rfl⟩
  ·exact hnext Γ' _ _ w' hk hs' E hn hr' ⟨_,rfl⟩
 unfold aN at h;split at h
 ·rename_i fv args ats hop;refine⟨fun _ _=>trivial,?_⟩;rw[Oper.semAt_eq _ _ _ (fun c hc=>by rw[hc]at hop;cases hop)];obtain⟨d,h1,h2⟩:=h Γ w (a.eval fv) (args.map a.eval) hs.heap (fW hs fv) ⟨Tu,fun i h1 h2=>by simp only[P4,RW,QQ];exact fW hs _⟩;have hex:(execOp a.eval o).run P w=(invoke d.target d.args).run P w:=by
   unfold execOp;simp only[hop];unfold resolve;simp only;rw[ak h1]
  have cont:∀e w',fX P G Γ s.H w (fun r H'=>dT H' rd/\match r with
    |.ret v=>K ⟨aD s.ρ o.dst v,H'⟩
    |.panic=>Q .panic ⟨s.ρ,H'⟩) e w'->(match e with
     |.returned v=>C (a.put o.dst v) w'
     |.panicked chain=>Q' (.panic chain) a w'
     |.outgrown=>LetsOut Q'):=by
   rintro e w' ⟨r,H',Γ',hend,⟨hri,hk⟩,R,E,hn⟩;have hr':=hr.aU E hn hs.heap hri;cases e with
   |returned cv =>
    cases r with
    |ret v=>exact hnext Γ' _ _ w' hk (iB hs hdst E hn R hend) E hn hr' ⟨_,rfl⟩
    |panic=>exact hend.elim
   |panicked chain =>
    cases r with
    |ret v=>exact hend.elim
    |panic =>
     exact hq Γ' ⟨s.ρ,H'⟩ a w' chain hk hend ⟨hs.size,fun t=>(hs.env t).aU E hn,R,hs.defers.aU E,QH hs.low E.size⟩ E hn hr' rfl
   |outgrown=>cases r<;>exact hend.elim
  rw[hex];rcases h2 with ⟨f,as,h3,h4⟩|⟨l,f,tm,asg,body,h3,h4⟩|⟨cv,w',h3,h4⟩
  ·rw[h3];refine⟨fun hc=>by simp[Fence.wide]at hc,?_⟩;have h4':CallsIn (cX rb) 0 P f as w _:=h4;refine h4'.mono ?_;intro e w' hp;have:=cont e w' hp;cases e<;>exact this
  ·rw[h3];refine⟨fun hc=>by simp[Fence.wide]at hc,?_⟩;have h4':RoundIn (cX rb) 0 P l f tm asg body w _:=h4;refine h4'.mono ?_;intro e w' hp;have:=cont e w' hp;cases e<;>exact this
  ·rw[h3];exact cont (.returned cv) w' h4
 ·rename_i x hop;obtain⟨⟨t,v,hx⟩,hk⟩:=h;refine⟨fun _ _=>trivial,?_⟩;rw[Oper.semAt_eq _ _ _ (fun c hc=>by rw[hc]at hop;cases hop)];have he:=fW hs x;rw[hx]at he;have hev:a.eval x=.iface t v:=by
   generalize a.eval x=y at he;cases he;rfl
  have hex:(execOp a.eval o).run P w=.halt (.panic (.iface t v)) w:=by
   unfold execOp;simp only[hop,hev];rfl
  rw[hex];exact hq Γ s a w _ hk ⟨t,v,rfl⟩ hs (TJ.refl _ _ _) Tx hr rfl
 ·rename_i op t x y u hop;unfold oO at h;split at h
  ·rename_i k hk;obtain⟨ht,hall⟩:=h;obtain⟨hor,hcy,sa,sn,sc,hcx,hsome⟩:=D2 hk (fW hs x) (fW hs y);refine⟨fun _ _=>trivial,?_⟩;rw[Oper.semAt_eq _ _ _ (fun c hc=>by rw[hc]at hop;cases hop)];have hex:(execOp a.eval o).run P w=.ok (.value (.bool (if op == .neq then !sa.isNone else sa.isNone))) w:=by
    unfold execOp;simp only[hop,hcx,hcy];rcases hor with rfl|rfl
    ·have h1:(eqGuard .eql t x y (.slice sa sn sc) (.slice none 0 0)).run P w=.ok () w:=rfl;have h2:(binOp .eql t (.slice sa sn sc) (.slice none 0 0)).run P w=.ok (.bool sa.isNone) w:=by
      show ((Op.equal t (.slice sa sn sc) (.slice none 0 0)) >>= fun b=>pure (Value.bool b)).run P w=_;rw[ak (yz ht sa sn sc)];rfl
     have h3:(do eqGuard .eql t x y (.slice sa sn sc) (.slice none 0 0);binOp .eql t (.slice sa sn sc) (.slice none 0 0)).run P w=.ok (.bool sa.isNone) w:=(by rw[ak h1];exact h2);rw[ak h3];rfl
    ·have h1:(eqGuard .neq t x y (.slice sa sn sc) (.slice none 0 0)).run P w=.ok () w:=rfl;have h2:(binOp .neq t (.slice sa sn sc) (.slice none 0 0)).run P w=.ok (.bool (!sa.isNone)) w:=by
      show ((Op.equal t (.slice sa sn sc) (.slice none 0 0)) >>= fun b=>pure (Value.bool !b)).run P w=_;rw[ak (yz ht sa sn sc)];rfl
     have h3:(do eqGuard .neq t x y (.slice sa sn sc) (.slice none 0 0);binOp .neq t (.slice sa sn sc) (.slice none 0 0)).run P w=.ok (.bool (!sa.isNone)) w:=(by rw[ak h1];exact h2);rw[ak h3];rfl
   rw[hex];exact hnext Γ _ _ w (hall sa.isNone hsome) (iB hs hdst (TJ.refl _ _ _) Tx hs.heap (.lit _)) (TJ.refl _ _ _) Tx hr ⟨_,rfl⟩
  ·obtain⟨vH,hop',hk⟩:=h;exact plain vH (by rw[hop];exact hop') hk
 ·obtain⟨vH,hop,hk⟩:=h;exact plain vH hop hk
def mG {a:Act}{all:Array Oper}{i:Nat}(hi:i<all.size)(cv:Value):Fr (fun t=>all.toList.any fun o=>o.dst == some t) a (a.put all[i].dst cv):=by
 intro t ht;simp only[List.any_eq_false]at ht;have:=ht all[i] Tu;cases hd:all[i].dst with
 |none=>rfl
 |some d =>
  simp only[Act.put];rw[QG,PX];intro hdt;rw[hd,hdt]at this;simp at this
def D3 {id:Nat}{dr:Bool}{all:Array Oper}(hfit:∀o,o∈all.toList->ep n o=true):∀(is:List Nat) (s:St) (Γ:ar) (a:Act) (w:World),(∀i,i∈is->i<all.size) ->
  opsV P G rd Q all (is.filterMap fun i=>all[i]?) s->TS P G n wb Γ s a w->cU Γ s.H rd rb ->
  ∀(Q':Exit->Act->World->Prop),(∀e a' w',fo P G n wb rd rb (wr (.region id all dr)) Γ s.H a w Q e a' w'->Q' e a' w')->wpOpsIn (cX rb) 0 P all Q' is a w:=by
 intro is
 induction is with
 |nil =>
  intro s Γ a w _ h hs hr Q' hq;exact hq _ _ _ (.here (x:=.normal) trivial h hs hr)
 |cons i is ih =>
  intro s Γ a w hi h hs hr Q' hq;have hlt:=hi i Tu;have ho:all[i]?=some all[i]:=P6 hlt;simp only[Tr,ho]at h;unfold wpOpsIn;rw[ho];simp only;obtain⟨t,ht,h⟩:=h;rw[mF hs ht];have hd:=hfit all[i] Tu;cases t with
  |true =>
   simp only[if_true]at h ⊢;refine yA hd hs hr h ?_ ?_
   ·rintro Γ' s' a' w' hk hs' E hn hr' ⟨cv,rfl⟩;exact ih s' Γ' _ w' (fun j hj=>hi j (by simp[hj])) hk hs' hr' Q' fun e a'' w'' hp=>hq _ _ _ (hp.step E hn (mG hlt cv) fun _ h=>h)
   ·rintro Γ' s' a' w' chain hp hc hs' E hn hr' rfl;exact hq _ _ _ ⟨.panic,s',Γ',hc,hp,hs',E,hn,hr',.refl _ _⟩
  |false =>
   simp only[Bool.false_eq_true,if_false]at h ⊢;refine⟨fun _ _=>trivial,?_⟩;have hdst:∀d,all[i].dst=some d->d<n:=by
    intro d hd';unfold ep at hd;rw[hd']at hd;simpa using hd
   have hs':=iB (v:=.lit undef) (cv:=undef) hs hdst (TJ.refl Γ s.H w) Tx hs.heap (.lit _);exact ih ⟨aD s.ρ all[i].dst (.lit undef),s.H⟩ Γ _ w (fun j hj=>hi j (by simp[hj])) h hs' hr Q' fun e a'' w'' hp=>hq _ _ _ (hp.step (TJ.refl _ _ _) Tx (mG hlt _) fun _ h=>h)
def D4 {α:Type}(l:List α):(List.range l.length).filterMap (fun i=>l[i]?)=l:=by
 induction l with
 |nil=>rfl
 |cons x xs ih =>
  rw[List.length_cons,List.range_succ_eq_map,Tr];simp only[List.getElem?_cons_zero];rw[List.filterMap_map];congr 1
theorem W.region {id:Nat}{ops:Array Oper}{s:St}(hfit:ops.toList.all (ep n)=true)(h:opsV P G rd Q ops ops.toList s):W P G n rd (.region id ops false) Q s:=by
 intro wb Γ a w rb hs hr;refine wpIn_region (D3 (id:=id) (dr:=false) (fun o ho=>Qt.1 hfit o ho) _ s Γ a w (fun i hi=>QN.1 hi) ?_ hs hr _ fun _ _ _ hp=>hp);have:(List.range ops.size).filterMap (fun i=>ops[i]?)=ops.toList:=by
  have:=D4 ops.toList;simpa using this
 rw[this];exact h
def oQ {b:Frame}{a:Act}{k:List Item}{cs:List Frame}{c:Code}:
  step P (lone (b.atR a (.code (.scope c) :: k)) cs w)=.next (lone (b.atR a (.code c :: .inScope c :: k)) cs w) :=
 step_lone_go (by simp[stepG,stepG.exec,Frame.atR])
def D5 {b:Frame}{a:Act}{k:List Item}{cs:List Frame}{c:Code}:
  step P (lone (b.atR a (.inScope c :: k)) cs w)=.next (lone (b.atR a k) cs w) :=
 step_lone_go (by simp[stepG,stepG.exec,Frame.atR])
def noGoto (Q:AX->St->Prop):AX->St->Prop
 |.goto _,_=>False
 |x,s=>Q x s
theorem W.scope {c:Code}{s:St}(h:W P G n rd c (noGoto Q) s):W P G n rd (.scope c) Q s:=by
 intro wb Γ a w rb hs hr b k cs hro hb hrm;have h0:(lone (b.atR a (.code (.scope c) :: k)) cs w).fenced P (cX rb):=fenced_calm hb hrm rfl;obtain⟨e,a',w',hp,harr⟩:=h wb Γ a w rb hs hr b (.inScope c :: k) cs hro hb hrm;obtain⟨x,s',Γ',hx,hq,hrest⟩:=hp;cases e with
 |normal =>
  cases x with
  |normal=>exact⟨.normal,a',w',⟨.normal,s',Γ',hx,hq,hrest⟩,.head h0 oQ (StepsIn.trans harr (.one (fenced_calm hb hrm rfl) D5))⟩
  |_=>exact hx.elim
 |exit i =>
  cases x with
  |exit j =>
   have hk:exitTo i (.inScope c :: k)=exitTo i k:=(by simp[exitTo]);exact⟨.exit i,a',w',⟨.exit j,s',Γ',hx,hq,hrest⟩,fun k' hk'=>.head h0 oQ (harr.1 k' (by rw[hk];exact hk')),
    fun hr' hk'=>let ⟨k₁,h1,h2⟩:=harr.2 hr' (by rw[hk];exact hk');⟨k₁,h1,.head h0 oQ h2⟩⟩
  |_=>exact hx.elim
 |goto i=>cases x with
  |goto j=>exact hq.elim
  |_=>exact hx.elim
 |ret=>cases x with
  |ret=>exact⟨.ret,a',w',⟨.ret,s',Γ',hx,hq,hrest⟩,.of_steps (.one h0 oQ) harr⟩
  |_=>exact hx.elim
 |panic ch=>cases x with
  |panic=>exact⟨.panic ch,a',w',⟨.panic,s',Γ',hx,hq,hrest⟩,.of_steps (.one h0 oQ) harr⟩
  |_=>exact hx.elim
 |outgrown=>cases x<;>exact hx.elim
end
def fI (t:Bool)(p q:Prop)(_d:TagP p q:=.mk):Prop:=(t=true->p)/\(t=false->q)
def vc (P:Program)(G:Nat->Option (List Ty))(n:Nat)(rd:Option Nat):Code->(AX->St->Prop)->St->Prop
 |.skip,Q,s=>Q .normal s
 |.label _,Q,s=>Q .normal s
 |.region _ ops false,Q,s=>opsV P G rd Q ops ops.toList s
 |.region id ops true,Q,s=>W P G n rd (.region id ops true) Q s
 |.seq a b,Q,s=>vc P G n rd a (gv (vc P G n rd b Q) Q) s
 |.cond c a b,Q,s=>ba (match aj G s.ρ c with|.lit (.bool t)=>some t|_=>none) fun t=>fI t (vc P G n rd a Q s) (vc P G n rd b Q s)
 |.block id c,Q,s=>vc P G n rd c (jG id Q) s
 |.loop c,Q,s=>W P G n rd (.loop c) Q s
 |.rangeFunc f ps asg body,Q,s=>W P G n rd (.rangeFunc f ps asg body) Q s
 |.exit id,Q,s=>Q (.exit id) s
 |.scope c,Q,s=>vc P G n rd c (noGoto Q) s
 |.goto l,Q,s=>Q (.goto l) s
 |.ret,Q,s=>Q .ret s
 |.refuse _,_,_=>False
def fits (n:Nat):Code->Bool
 |.region _ ops _=>ops.toList.all (ep n)
 |.seq a b|.cond _ a b|.rangeFunc _ _ a b=>fits n a && fits n b
 |.block _ c|.loop c|.scope c=>fits n c
 |_=>true
def oS {n:Nat}{rd:Option Nat}:∀(c:Code) (Q:AX->St->Prop) (s:St),fits n c=true->vc P G n rd c Q s->W P G n rd c Q s:=by
 intro c
 induction c with
 |skip=>exact fun Q s _ h=>.skip h
 |label l=>exact fun Q s _ h=>.label h
 |region id ops d =>
  intro Q s hf h;cases d with
  |false=>exact .region hf h
  |true=>exact h
 |seq a b iha ihb =>
  intro Q s hf h;simp only[fits,Qj]at hf;refine W.seq ((iha _ s hf.1 h).mono fun x s' hx=>?_);cases x with
  |normal=>exact ihb Q s' hf.2 hx
  |_=>exact hx
 |cond c a b iha ihb =>
  intro Q s hf h;simp only[fits,Qj]at hf;obtain⟨t,ht,h1,h2⟩:=h;split at ht
  ·rename_i t' hc;simp only[Option.some.injEq]at ht;subst ht;refine W.cond hc ?_;cases t' with
   |true=>exact iha Q s hf.1 (h1 rfl)
   |false=>exact ihb Q s hf.2 (h2 rfl)
  ·cases ht
 |block id c ih=>exact fun Q s hf h=>.block (ih _ s hf h)
 |loop c _=>exact fun Q s _ h=>h
 |rangeFunc=>exact fun Q s _ h=>h
 |exit id=>exact fun Q s _ h=>.exit h
 |scope c ih=>exact fun Q s hf h=>.scope (ih _ s hf h)
 |goto l=>exact fun Q s _ h=>.goto h
 |ret=>exact fun Q s _ h=>.ret h
 |refuse why=>exact fun Q s _ h=>h.elim
def W.vs {n:Nat}{rd:Option Nat}{c:Code}{Q:AX -> St -> Prop}{s:St}(h:vc P G n rd c Q s)(hf:fits n c=true := by rfl):W P G n rd c Q s := oS c Q s hf h
def W.sq {n:Nat}{rd:Option Nat}{x y:Code}{Q:AX -> St -> Prop}{s:St}(h:vc P G n rd x (gv (W P G n rd y Q) Q) s)(hf:fits n x=true := by rfl):W P G n rd (.seq x y) Q s := W.seq (oS x _ s hf h)
end Go.Hx
namespace Go.Hx
variable {P:Program} {G:Nat->Option (List Ty)} {Γ Γ':ar} {H H':Tz} {w w':World}
variable {tmps:Array Value}{c:Code}{ρ:Env}{fn:Func}{f:FuncId}{rs:List ResultVar}{args:List Ty}{n r:Nat}{o:Obj}{x:Option (List Deferred)}{K:TF → Tz → Prop}{v:Ty}{H₀:Tz}{w₀:World}{Γ₀:ar}
def yB (hr:w.heap[r]?=some (.deferred x))(o:Obj)(ho:∀c e f,o≠.cells c e f)(b i:Nat):(bp w r o).cell? ⟨b,i,none⟩=w.cell? ⟨b,i,none⟩:=by
 simp only[World.cell?,da];by_cases h:b=r/\r<w.heap.size
 ·rw[PZ h,h.1,hr];cases o<;>first|rfl|exact absurd rfl (ho _ _ _)
 ·rw[PX h]
def TB.closed {cv:Value}(hr:w.heap[r]?=some (.deferred x))(ho:∀c e f,o≠.cells c e f)(h:TB P Γ H w v cv):TB P Γ H (bp w r o) v cv:=by
 induction h with
 |lit v=>exact .lit v
 |nj a cap=>exact .nj a cap
 |M hb hlt hlen hcs hcell hrel ih=>exact .M hb (by rw[gW];exact hlt) hlen hcs (fun i hi=>(yB hr o ho _ _).trans (hcell i hi)) ih
 |V h=>exact .V h
 |Y h=>exact .Y h
 |nc hb hlt hcs hcell hrel ih=>exact .nc hb (by rw[gW];exact hlt) hcs (fun i hi=>(yB hr o ho _ _).trans (hcell i hi)) ih
 |agg hcs hrel ih=>exact .agg hcs ih
 |nf hcs hrel ih=>exact .nf hcs ih
 |nl hfs hcs hf hc ih1 ih2=>exact .nl hfs hcs ih1 ih2
 |ng h=>exact .ng h
theorem TG.closed (R:TG P G Γ H w)(hr:w.heap[r]?=some (.deferred x))(hown:¬ Γ.c9 r)(ho:∀c e f,o≠.cells c e f):TG P G Γ H (bp w r o) where
 L id g e cells hg:=by
  have h1:=R.L id g e cells hg;cases hΓ:Γ id with
  |none=>rw[hΓ]at h1;exact h1
  |some y =>
   obtain⟨b,base,n⟩:=y;rw[hΓ]at h1;obtain⟨c,a1,a2,a3,a4⟩:=h1;refine⟨c,?_,a2,a3,fun i hi=>let ⟨cv,b1,b2⟩:=a4 i hi;⟨cv,b1,b2.closed hr ho⟩⟩;rw[da,PX]
   ·exact a1
   ·rintro⟨rfl,_⟩;exact hown ⟨id,base,n,hΓ⟩
 loop id st pend n env ps asg body hg:=by
  obtain⟨b,rr,a1,a2,a3,a4,a5,a6,a7,a8,a9⟩:=R.loop id st pend n env ps asg body hg;refine⟨b,rr,a1,?_,a3,a4,a5,a6,a7,a8,fun t ht=>(a9 t ht).closed hr ho⟩;rw[da,PX]
  ·exact a2
  ·rintro⟨rfl,_⟩;exact hown ⟨id,0,0,a1⟩
 mp id es hg:=by
  obtain⟨b,a1,a2⟩:=R.mp id es hg;refine⟨b,a1,?_⟩;rw[da,PX]
  ·exact a2
  ·rintro⟨rfl,_⟩;exact hown ⟨id,0,0,a1⟩
 ni:=R.ni
 inj:=R.inj
 nt:=R.nt
 lt id b base n h:=by rw[gW];exact R.lt id b base n h
 C:=R.C
 nr g cells h:=(R.nr g cells h).closed hr ho
 gsz g cells h:=by
  obtain⟨c,e,f,h1,h2⟩:=R.gsz g cells h;refine⟨c,e,f,?_,h2⟩;rw[da,PX]
  ·exact h1
  ·rintro⟨rfl,_⟩;rw[hr]at h1;cases h1
def TJ.closed (E:TJ Γ₀ H₀ w₀ Γ H w)(hx:w.heap[r]?=some (.deferred x))(hr:w₀.heap.size<=r)(o:Obj)(ho:∀c e f,o≠.cells c e f):TJ Γ₀ H₀ w₀ Γ H (bp w r o) where
 os:=E.os
 tape:=E.tape
 output:=E.output
 size:=by rw[gW];exact E.size
 na b hb ho:=by
  obtain⟨h1,h2⟩:=E.na b hb ho;refine⟨?_,h2⟩;rw[da,PX U];exact h1
 Z:=E.Z
 np a ha:=(ot hx (fun _ _ _ h=>by cases h) (fun c e f h=>absurd h (ho c e f)) a).trans (E.np a ha)
 kind:=E.kind.trans (tU hx fun _ _ _ h=>by cases h)
 newb:=E.newb
def D6 {R:Ending->World->Prop}{u:FrameMode}(hu:u≠.run):∀(ds:List Deferred) (w:World),
  (∀d,d∈ds->∃r,d={ target:=.collected r,args:=#[] }/\w₀.heap.size<=r/\oo Γ w r)->ds.Pairwise (fun d e=>d.target≠e.target) ->
  TG P G Γ H w->(∀t,TB P Γ H w (ρ t) (tmps.getD t undef))->TJ Γ₀ H₀ w₀ Γ H w ->
  (∀w',TG P G Γ H w'->(∀t,TB P Γ H w' (ρ t) (tmps.getD t undef))->TJ Γ₀ H₀ w₀ Γ H w'->LeavesIn Fence.wide 0 P fn tmps R [] u w') ->
  LeavesInM Fence.wide 0 P fn tmps R ds u w:=by
 intro ds
 induction ds with
 |nil=>intro w _ _ R0 he E h;exact h w R0 he E
 |cons d ds ih =>
  intro w hd hp R0 he E h;obtain⟨r,rfl,hle,hown,hblk⟩:=hd d Tu;have ho:∀c e f,Obj.deferred none≠.cells c e f:=fun _ _ _ h=>by cases h
  refine⟨hu,.inl ⟨r,bp w r (.deferred none),rfl,?_,?_⟩⟩
  ·unfold Instr.takeDeferred;have hg:(getObj r).run P w=.ok (.deferred (some [])) w:=(by simp[getObj,Sem.run,hblk]);rw[ak hg];simp only;have hset:(setObj r (.deferred none)).run P w=.ok () (bp w r (.deferred none)):=(by simp[setObj,Sem.run,hblk,bp]);rw[ak hset];rfl
  ·refine ih _ (fun e he'=>?_) (SL.1 hp).2 (R0.closed hblk hown ho) (fun t=>(he t).closed hblk ho) (E.closed hblk hle _ ho) h;obtain⟨r',rfl,hle',hown',hblk'⟩:=hd e (by simp[he']);refine⟨r',rfl,hle',hown',?_⟩;rw[da,PX]
   ·exact hblk'
   ·rintro⟨rfl,_⟩;exact(SL.1 hp).1 _ he' rfl
def D7 {t:TypeId}{a:Ty}{ca:Value}(R:TG P G Γ H w)(h:ei P H t a=some v)(ha:TB P Γ H w a ca):
  ∃ad cv,ca=.pointer (some ad)/\(loadVar t ad).run P w=.ok cv w/\TB P Γ H w v cv:=by
 have h0:=h;unfold ei at h;split at h
 ·rename_i id gen off;split at h
  ·rename_i g e cells hg;split at h
   ·rename_i hgg;have hl:H.Z id gen=some (e,cells):=(by simp[Tz.Z,hg,hgg]);obtain⟨b,base,n,hΓ,rfl⟩:=mA ha hl;obtain⟨cv,h1,h2⟩:=qH h (oB R hl hΓ);exact⟨_,cv,rfl,h1,h2⟩
   ·cases h
  ·cases h
 ·rename_i cells off;cases ha with
  |nc hb hlt hcs hcell hrel =>
   obtain⟨cv,h1,h2⟩:=qH h ⟨_,hcs,hcell,hrel⟩;exact⟨_,cv,rfl,h1,h2⟩
 ·cases h
def dH (P:Program)(H:Tz)(ρ:Env):List ResultVar->Option (List Ty)
 | []=>some []
 |.tmp t :: r=>(dH P H ρ r).map (ρ t :: ·)
 |.cell a t :: r=>(ei P H t (ρ a)).bind fun v=>(dH P H ρ r).map (v :: ·)
def fY:List Ty->Ty
 | [v]=>v
 |vs=>.nf vs
def mH (tmps:Array Value):ResultVar->Sem Value
 |.tmp t=>pure (tmps.getD t undef)
 |.cell a t=>do loadVar t (<- asAddr (tmps.getD a undef))
def D8 (R:TG P G Γ H w)(he:∀t,TB P Γ H w (ρ t) (tmps.getD t undef)):∀(rs:List ResultVar) (vs:List Ty),dH P H ρ rs=some vs ->
  ∃cs:List Value,(rs.mapM (mH tmps)).run P w=.ok cs w/\cs.length=vs.length/\∀i (_:i<vs.length) (_:i<cs.length),TB P Γ H w vs[i] cs[i]:=by
 intro rs
 induction rs with
 |nil =>
  intro vs h;simp only[dH,Option.some.injEq]at h;subst h;exact⟨[],rfl,rfl,fun i h _=>absurd h (Qf _)⟩
 |cons rv rs ih =>
  intro vs h;have cons:∀(v:Ty) (cv:Value) (vs':List Ty),(mH tmps rv).run P w=.ok cv w->TB P Γ H w v cv->dH P H ρ rs=some vs'->∃cs:List Value,((rv :: rs).mapM (mH tmps)).run P w=.ok cs w /\
    cs.length=(v :: vs').length/\∀i (_:i<(v :: vs').length) (_:i<cs.length),TB P Γ H w (v :: vs')[i] cs[i]:=by
   intro v cv vs' hm hv hr;obtain⟨cs,h1,h2,h3⟩:=ih vs' hr;refine⟨cv :: cs,?_,by simp[h2],fun i a b=>?_⟩
   ·rw[List.mapM_cons,ak hm,ak h1];rfl
   ·cases i with
    |zero=>exact hv
    |succ i=>exact h3 i (by simpa using a) (by simpa using b)
  cases rv with
  |tmp t =>
   simp only[dH,PU]at h;obtain⟨vs',h1,rfl⟩:=h;exact cons (ρ t) _ vs' rfl (he t) h1
  |cell a t =>
   simp only[dH,P0,PU]at h;obtain⟨v,hv,vs',h1,rfl⟩:=h;obtain⟨ad,cv,ha,hl,hr⟩:=D7 R hv (he a);refine cons v cv vs' ?_ hr h1;simp only[mH,ha];have:(asAddr (.pointer (some ad))).run P w=.ok ad w:=rfl;rw[ak this];exact hl
def D9 (fn:Func)(tmps:Array Value):results fn tmps=(do let vs <- fn.results.mapM (mH tmps);pure (if h:vs.size=1 then vs[0] else .tuple vs)):=by
 unfold results;congr 1
def Ea {vs:List Ty}(R:TG P G Γ H w)(he:∀t,TB P Γ H w (ρ t) (tmps.getD t undef))(h:dH P H ρ fn.results.toList=some vs):
  ∃cv,(results fn tmps).run P w=.ok cv w/\TB P Γ H w (fY vs) cv:=by
 obtain⟨cs,h1,h2,h3⟩:=D8 R he _ _ h;have hm:(fn.results.mapM (mH tmps)).run P w=.ok cs.toArray w:=by
  rw[Ta,Sem.run_map,h1];rfl
 rw[D9,ak hm]
 match vs,cs,h2,h3 with
 | [v],[c],_,h3=>exact⟨c,rfl,h3 0 Tu Tu⟩
 | [],[],_,h3=>exact⟨_,rfl,.nf (cs:=[]) rfl h3⟩
 |v :: v' :: vs,c :: c' :: cs,h2,h3 =>
  refine⟨.tuple (c :: c' :: cs).toArray,?_,.nf h2 h3⟩;have hne:¬(c :: c' :: cs).toArray.size=1:=Tu
  rw[dif_neg hne];rfl
def kA (P:Program)(G:Nat->Option (List Ty))(H:Tz)(v:Ty)(H':Tz)(v':Ty):Prop :=
 ∀ Γ w,TG P G Γ H w->∃ Γ',TG P G Γ' H' w/\TJ Γ H w Γ' H' w/\∀cv,TB P Γ H w v cv->TB P Γ' H' w v' cv
def aw (P:Program)(G:Nat->Option (List Ty))(H₀:Tz)(K:TF->Tz->Prop)(v:Ty)(H:Tz):Prop :=
 ∃v' H',kA P G H v H' v'/\H₀.C<=H'.C/\K (.ret v') H'
theorem kA.refl (H:Tz)(v:Ty):kA P G H v H v:=fun Γ _ R=>⟨Γ,R,TJ.refl _ _ _,fun _ h=>h⟩
def aw.mk {K:TF->Tz->Prop}{H:Tz}(hn:H₀.C<=H.C)(hk:K (.ret v) H):aw P G H₀ K v H:=⟨v,H,kA.refl H v,hn,hk⟩
def lz (P:Program)(G:Nat->Option (List Ty))(rs:List ResultVar)(H₀:Tz)(K:TF->Tz->Prop):AX->St->Prop
 |.normal,s|.ret,s=>ba (dH P s.H s.ρ rs) fun vs=>aw P G H₀ K (fY vs) s.H
 |.panic,s=>∃H',kA P G s.H (.lit undef) H' (.lit undef)/\H₀.C<=H'.C/\K .panic H'
 |_,_=>False
def eX (args:List Ty):Env:=fun t=>(args[t]?).getD (.lit undef)
def af.uF        (hf : P.funcs[f]? = some fn) (hb : fn.body = some c) (hres : fn.results.toList = rs) (hnt : fn.ntmps = n) (hname : (fn.name == "runtime.NumGoroutine") = false)
  (hargs:args.length<=n) (hW:W P G n none c (lz P G rs H K) ⟨eX args,H⟩):af P G f args H K:=by
 subst hres;subst hnt;refine⟨⟨fn,hf,by rw[hb];rfl,hname⟩,fun Γ w cargs R hr=>?_⟩;refine callsIn_of_wp_marks hf hb trivial ?_;have hs:TS P G fn.ntmps ⟨w.heap.size,[]⟩ Γ ⟨eX args,H⟩ { tmps:=cargs++Array.replicate (fn.ntmps-cargs.size) undef,defers:=[] } w:=by
  refine⟨by have:=hr.1;simp;omega,fun t=>?_,R,⟨[],rfl,Marks.nil⟩,Tx⟩;have hsz:=hr.1;by_cases ht:t<args.length
  ·have h1:(cargs++Array.replicate (fn.ntmps-cargs.size) undef).getD t undef=cargs[t]' U:=by
    simp only[QB];rw[S7 U,P6 U];rfl
   have h2:eX args t=args[t]:=by
    unfold eX;rw[PV ht];rfl
   rw[h1];show TB P Γ H w (eX args t) _;rw[h2];exact hr.2 t ht (U)
  ·have h1:(cargs++Array.replicate (fn.ntmps-cargs.size) undef).getD t undef=undef:=by
    simp only[QB];rw[Array.getElem?_append_right U,Sb];split<;>rfl
   have h2:eX args t=.lit undef:=by
    unfold eX;rw[P7 U];rfl
   rw[h1];show TB P Γ H w (eX args t) _;rw[h2];exact .lit _
 refine wpIn_mono (hW ⟨w.heap.size,[]⟩ Γ _ w none hs rfl) ?_;rintro e a' w' ⟨x,s',Γ',hx,hq,hs',E,hn,_,_⟩;have leave:∀(u:FrameMode) (Q:World->Prop),u≠.run->(∀w'',TG P G Γ' s'.H w''->(∀t,TB P Γ' s'.H w'' (s'.ρ t) (a'.tmps.getD t undef))->TJ Γ H w Γ' s'.H w''->LeavesIn Fence.wide 0 P fn a'.tmps (fX P G Γ H w K) [] u w'') ->
   LeavesInM Fence.wide 0 P fn a'.tmps (fX P G Γ H w K) a'.defers u w' :=
  fun u _ hu hfin=>by
   obtain⟨m,hm,hmarks⟩:=hs'.defers;rw[hm,List.append_nil];exact D6 hu m w' hmarks.1 hmarks.2 hs'.heap hs'.env E hfin
 have normal:ba (dH P s'.H s'.ρ fn.results.toList) (fun vs=>aw P G H K (fY vs) s'.H)->LeavesInM Fence.wide 0 P fn a'.tmps (fX P G Γ H w K) a'.defers .returning w':=by
  rintro⟨vs,hvs,v',H',hw,hn',hk⟩;refine leave .returning (fun _=>True) Tu fun w'' R'' he'' E''=>?_;obtain⟨cv,h1,h2⟩:=Ea R'' he'' hvs;obtain⟨Γ'',R3,E3,hv3⟩:=hw Γ' w'' R'';exact⟨cv,h1,.ret v',H',Γ'',hv3 cv h2,hk,R3,E''.trans hn E3,hn'⟩
 cases e with
 |normal=>cases x with
  |normal=>exact normal hq
  |_=>exact hx.elim
 |ret=>cases x with
  |ret=>exact normal hq
  |_=>exact hx.elim
 |panic chain=>cases x with
  |panic =>
   obtain⟨H',hw,hn',hk⟩:=hq;refine leave (.panicking chain) (fun _=>True) Tu fun w'' R'' he'' E''=>?_;obtain⟨Γ'',R3,E3,_⟩:=hw Γ' w'' R'';exact⟨.panic,H',Γ'',hx,hk,R3,E''.trans hn E3,hn'⟩
  |_=>exact hx.elim
 |exit i=>cases x with
  |exit j=>exact hq.elim
  |_=>exact hx.elim
 |goto i=>cases x with
  |goto j=>exact hq.elim
  |_=>exact hx.elim
 |outgrown=>cases x<;>exact hx.elim
def af.Eb        (hf : P.funcs[f]? = some fn) (hb : fn.body = some c) (hres : fn.results.toList = rs) (hnt : fn.ntmps = n) (hname : (fn.name == "runtime.NumGoroutine") = false)
  (hfit:fits n c=true) (hargs:args.length<=n) (h:vc P G n none c (lz P G rs H K) ⟨eX args,H⟩):af P G f args H K :=
 .uF hf hb hres hnt hname hargs (oS c _ _ hfit h)
end Go.Hx
