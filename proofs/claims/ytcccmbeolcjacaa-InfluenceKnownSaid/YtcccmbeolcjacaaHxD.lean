/-
  The operations of a region on abstract values. Own work: no program stands in this text.
-/
import Derived.Test.YtcccmbeolcjacaaHxC
namespace Go.Hx

def evA (G : Nat → Option (List AVal)) (ρ : Env) : Operand → AVal
  | .tmp t => ρ t
  | .const v => .lit v
  | .global g => match G g with | some cells => .vptr cells 0 | none => .lit (.pointer (some ⟨g, 0, none⟩))
  | .func f => .clo f [] []

def zeroA (P : Program) (t : TypeId) : Option (List AVal) :=
  match P.info? t with
  | some i => match i.zero with
    | some z => if z.cells.size = i.size then some (z.cells.toList.map .lit) else none
    | none => none
  | none => none

def zerosA (P : Program) (t : TypeId) (n : Nat) : Option (List AVal) := (zeroA P t).map fun z => (List.replicate n z).flatten

def placesA (P : Program) (t : TypeId) : Option (List (Nat × Nat)) :=
  match P.underlying t with
  | some (.struct fs) => if fs.toList.all fun f => (P.info? f.type).isSome then some (fs.toList.map fun f => (f.offset, P.cellsOf f.type)) else none
  | _ => none

def fieldA (P : Program) (t : TypeId) (i : Nat) : Option (Nat × TypeId) :=
  match P.underlying t with
  | some (.struct fs) => match fs[i]? with
    | some f => if (P.info? f.type).isSome ∧ P.cellsOf f.type ≠ 0 then some (f.offset, f.type) else none
    | none => none
  | _ => none

def AHeap.live (H : AHeap) (id gen : Nat) : Option (TypeId × List AVal) :=
  match H.get id with
  | some (.arr g e cells) => if g = gen then some (e, cells) else none
  | _ => none

def boundA : Option AVal → Nat → Nat → Option Nat
  | none, d, _ => some d
  | some (.lit (.int _ i)), _, m => if 0 ≤ i ∧ i ≤ (m : Int) then some i.toNat else none
  | _, _, _ => none

def indexAddrA (P : Program) (H : AHeap) (t : TypeId) (x : AVal) (i : Int) : Option AVal :=
  match P.underlying t with
  | some (.array n e) =>
    if 0 ≤ i ∧ i < (n : Int) ∧ (P.underlying e).isSome then
      match x with
      | .ptr id gen off => (H.live id gen).map fun _ => .ptr id gen (off + i.toNat * P.cellsOf e)
      | .vptr cells off => some (.vptr cells (off + i.toNat * P.cellsOf e))
      | _ => none
    else none
  | some (.slice e) =>
    if (P.underlying e).isSome then
      match x with
      | .own id gen off len sz => if 0 ≤ i ∧ i < (len : Int) ∧ sz = P.cellsOf e then (H.live id gen).map fun _ => .ptr id gen (off + i.toNat * P.cellsOf e) else none
      | .vec len cells => if 0 ≤ i ∧ i < (len : Int) ∧ cells ≠ [] then some (.vptr cells (i.toNat * P.cellsOf e)) else none
      | _ => none
    else none
  | _ => none

def sliceA (P : Program) (H : AHeap) (t : TypeId) (x : AVal) (lo hi : Option AVal) : Option AVal :=
  match P.underlying t with
  | some (.array n e) =>
    if (P.underlying e).isSome then
      match x with
      | .ptr id gen off =>
        match H.live id gen with
        | some (_, cells) =>
          if off + n * P.cellsOf e ≤ cells.length then
            (boundA hi n n).bind fun h => (boundA lo 0 h).map fun l => .own id gen (off + l * P.cellsOf e) (h - l) (P.cellsOf e)
          else none
        | none => none
      | .vptr cells off => if off + n * P.cellsOf e ≤ cells.length then
            (boundA hi n n).bind fun h => (boundA lo 0 h).map fun l => .vec (h - l) ((cells.drop (off + l * P.cellsOf e)).take ((h - l) * P.cellsOf e))
          else none
      | _ => none
    else none
  | some (.slice e) =>
    if (P.underlying e).isSome then
      match x with
      | .own id gen off len sz => if sz = P.cellsOf e then (H.live id gen).bind fun _ => (boundA hi len len).bind fun h => (boundA lo 0 h).map fun l => .own id gen (off + l * sz) (h - l) sz else none
      | .vec len cells => if cells.length = len * P.cellsOf e then (boundA hi len len).bind fun h => (boundA lo 0 h).map fun l => .vec (h - l) ((cells.drop (l * P.cellsOf e)).take ((h - l) * P.cellsOf e)) else none
      | .lit (.slice none 0 0) => (boundA hi 0 0).bind fun h => (boundA lo 0 h).map fun _ => .lit (.slice none 0 0)
      | _ => none
    else none
  | some .string =>
    match x with
    | .lit (.string s) => (boundA hi s.size s.size).bind fun h => (boundA lo 0 h).map fun l => .lit (.string (s.extract l h))
    | _ => none
  | _ => none

/-- The cells of what is appended, and how many elements. -/
def sourceA (H : AHeap) (sz : Nat) : AVal → Option (Nat × List AVal)
  | .vec len cells => if cells.length = len * sz then some (len, cells) else none
  | .own id gen off len sz' => if sz' = sz then (H.live id gen).map fun x => (len, (x.2.drop off).take (len * sz)) else none
  | .lit (.slice none 0 0) => some (0, [])
  | _ => none

def appendA (P : Program) (H : AHeap) (id : Nat) (at0 at1 : TypeId) (s x : AVal) : Option (AVal × AHeap) :=
  match P.underlying at0 with
  | some (.slice e) =>
    match P.underlying at1 with
    | some (.slice _) =>
      (zeroA P e).bind fun _ =>
      (sourceA H (P.cellsOf e) x).bind fun nx =>
        match s with
        | .lit (.slice none 0 0) =>
          if nx.1 = 0 then some (s, H)
          else if nx.1 * P.bytesOf e ≤ 2 ^ 46 ∧ nx.1 ≤ 2 ^ 46 then (H.lay id (.arr 0 e nx.2)).map fun H' => (.own id 0 0 nx.1 (P.cellsOf e), H')
          else none
        | .own id' gen off len sz =>
          (H.live id' gen).bind fun ec =>
            if ec.1 = e ∧ sz = P.cellsOf e ∧ off + len * sz = ec.2.length ∧ (len + nx.1) * P.bytesOf e ≤ 2 ^ 46 ∧ len + nx.1 ≤ 2 ^ 46 ∧ nx.2.all AVal.one = true then
              if nx.1 = 0 then some (s, H)
              else some (.own id' (gen + 1) 0 (len + nx.1) sz, H.upd id' (.arr (gen + 1) e (ec.2.drop off ++ nx.2)))
            else none
        | _ => none
    | _ => none
  | _ => none

def copyA (P : Program) (H : AHeap) (at0 : TypeId) (d x : AVal) : Option (AVal × AHeap) :=
  match P.underlying at0 with
  | some (.slice e) =>
    if (P.underlying e).isSome then
      (sourceA H (P.cellsOf e) x).bind fun nx =>
        match d with
        | .own id gen off len sz =>
          (H.live id gen).bind fun ec =>
            if sz = P.cellsOf e ∧ off + len * sz ≤ ec.2.length ∧ nx.2.all AVal.one = true then
              some (.lit (.int .i64 (min nx.1 len : Nat)), H.upd id (.arr gen ec.1 (setAt ec.2 off (nx.2.take (min nx.1 len * sz)))))
            else none
        | _ => none
    else none
  | _ => none

def lenA (P : Program) (H : AHeap) (t : TypeId) (x : AVal) : Option AVal :=
  match P.underlying t with
  | some (.slice _) =>
    match x with
    | .vec len _ => some (.lit (.int .i64 len))
    | .own id gen _ len _ => (H.live id gen).map fun _ => .lit (.int .i64 len)
    | .lit (.slice none 0 0) => some (.lit (.int .i64 0))
    | _ => none
  | some .string =>
    match x with
    | .lit (.string s) => some (.lit (.int .i64 s.size))
    | _ => none
  | some (.array n _) => some (.lit (.int .i64 n))
  | _ => none

def allVals : List AVal → Option (List Value)
  | [] => some []
  | v :: r => (v.toVal).bind fun x => (allVals r).map (x :: ·)

def builtinA (P : Program) (H : AHeap) (id : Nat) (b : Builtin) (ats : List TypeId) (args : List AVal) : Option (AVal × AHeap) :=
  match b, ats, args with
  | .len, [t], [x] => (lenA P H t x).map fun v => (v, H)
  | .append, [t, u], [s, x] => appendA P H id t u s x
  | .copy, [t, _], [d, x] => copyA P H t d x
  | .min, _, args => (allVals args).bind fun vs => (pureRun P (Builtin.min_ #[] 0 vs.toArray)).map fun v => (.lit v, H)
  | .max, _, args => (allVals args).bind fun vs => (pureRun P (Builtin.max_ #[] 0 vs.toArray)).map fun v => (.lit v, H)
  | _, _, _ => none

def makeSliceA (P : Program) (H : AHeap) (id : Nat) (t : TypeId) (l c : AVal) : Option (AVal × AHeap) :=
  match P.underlying t, l, c with
  | some (.slice e), .lit (.int _ l), .lit (.int _ c) =>
    if 0 ≤ l ∧ l ≤ c ∧ c * P.bytesOf e ≤ 2 ^ 46 ∧ c ≤ 2 ^ 46 then
      (zerosA P e l.toNat).bind fun cells => (H.lay id (.arr 0 e cells)).map fun H' => (.own id 0 0 l.toNat (P.cellsOf e), H')
    else none
  | _, _, _ => none

def buildA (P : Program) (t : TypeId) (parts : List (Nat × AVal)) : Option AVal :=
  (zeroA P t).bind fun z =>
    match P.underlying t with
    | some (.struct _) => (placesA P t).bind fun pl => (fillA (fun i => pl[i]?) z parts).map .agg
    | some (.array _ e) => if (P.underlying e).isSome then (fillA (fun i => some (i * P.cellsOf e, P.cellsOf e)) z parts).map .agg else none
    | _ => none

def buildSliceA (P : Program) (H : AHeap) (id : Nat) (t : TypeId) (len : Nat) (parts : List (Nat × AVal)) : Option (AVal × AHeap) :=
  match P.underlying t with
  | some (.slice e) =>
    if len * P.cellsOf e ≤ 2 ^ 24 then
      (zerosA P e len).bind fun z => (fillA (fun i => some (i * P.cellsOf e, P.cellsOf e)) z parts).bind fun cells =>
        (H.lay id (.arr 0 e cells)).map fun H' => (.own id 0 0 len (P.cellsOf e), H')
    else none
  | _ => none

def binA (P : Program) (op : BinOp) (t : TypeId) (x y : Operand) (a b : AVal) : Option AVal :=
  match a.toVal, b.toVal with
  | some a, some b => (pureRun P (do eqGuard op t x y a b; binOp op t a b)).map .lit
  | _, _ => none

def unA (P : Program) (op : UnOp) (a : AVal) : Option AVal :=
  match a.toVal with
  | some a => (pureRun P (Op.unary op a)).map .lit
  | none => none

def convA (P : Program) (s d : TypeId) (a : AVal) : Option AVal :=
  match a.toVal with
  | some a => (pureRun P (convert s d a)).map .lit
  | none => none

def nilCheckA (H : AHeap) : AVal → Option AVal
  | .ptr id gen off => (H.live id gen).map fun _ => .ptr id gen off
  | .vptr cells off => some (.vptr cells off)
  | .clo f a b => some (.clo f a b)
  | _ => none

def indexA (P : Program) (t : TypeId) (x : AVal) (i : AVal) : Option AVal :=
  match x, i with
  | .agg cells, .lit (.int _ i) =>
    match P.underlying t with
    | some (.array n e) => if 0 ≤ i ∧ i < (n : Int) then partA P e cells (i.toNat * P.cellsOf e) else none
    | _ => none
  | .lit v, .lit i => (pureRun P (Instr.index t v i)).map .lit
  | _, _ => none

def extractA : AVal → Nat → Option AVal
  | .tup vs, i => vs[i]?
  | .lit (.tuple vs), i => (vs[i]?).map .lit
  | _, _ => none

def opA (P : Program) (G : Nat → Option (List AVal)) (ρ : Env) (H : AHeap) (id : Nat) (o : Op) : Option (AVal × AHeap) :=
  match o with
  | .move x | .assign x => some (evA G ρ x, H)
  | .pick c a b => match evA G ρ c with
    | .lit (.bool t) => some (if t then evA G ρ a else evA G ρ b, H)
    | _ => none
  | .alloc e => (zeroA P e).bind fun z => (H.lay id (.arr 0 e z)).map fun H' => (.ptr id 0 0, H')
  | .box e x => (H.lay id (.arr 0 e (evA G ρ x).cells)).map fun H' => (.ptr id 0 0, H')
  | .build t parts => (buildA P t (parts.toList.map fun p => (p.1, evA G ρ p.2))).map fun v => (v, H)
  | .buildSlice t len parts => buildSliceA P H id t len (parts.toList.map fun p => (p.1, evA G ρ p.2))
  | .load t a => (loadA P H t (evA G ρ a)).map fun v => (v, H)
  | .store t a x => if (P.underlying t).isSome then (storeA P H t (evA G ρ a) (evA G ρ x)).map fun H' => (.lit undef, H') else none
  | .nilCheck x => (nilCheckA H (evA G ρ x)).map fun v => (v, H)
  | .binOp op t x y _ => (binA P op t x y (evA G ρ x) (evA G ρ y)).map fun v => (v, H)
  | .unOp op _ x => (unA P op (evA G ρ x)).map fun v => (v, H)
  | .convert s d x => (convA P s d (evA G ρ x)).map fun v => (v, H)
  | .makeInterface t x => match (evA G ρ x).toVal with
    | some v => (pureRun P (Instr.makeInterface t v)).map fun r => (.lit r, H)
    | none => none
  | .makeFunc fn first captured => match fn with
    | .func f => some (.clo f (first.toList.map (evA G ρ)) (captured.toList.map (evA G ρ)), H)
    | _ => none
  | .makeSlice t l c => makeSliceA P H id t (evA G ρ l) (evA G ρ c)
  | .slice t x lo hi mx => match mx with
    | none => (sliceA P H t (evA G ρ x) (lo.map (evA G ρ)) (hi.map (evA G ρ))).map fun v => (v, H)
    | some _ => none
  | .fieldAddr s x f => (fieldA P s f).bind fun of => match evA G ρ x with
    | .ptr id gen off => (H.live id gen).map fun _ => (.ptr id gen (off + of.1), H)
    | .vptr cells off => some (.vptr cells (off + of.1), H)
    | _ => none
  | .field t x f => (fieldA P t f).bind fun of => match evA G ρ x with
    | .agg cells => (partA P of.2 cells of.1).map fun v => (v, H)
    | .lit (.agg cs) => (partA P of.2 (cs.toList.map .lit) of.1).map fun v => (v, H)
    | _ => none
  | .indexAddr t x i => match evA G ρ i with
    | .lit (.int _ i) => (indexAddrA P H t (evA G ρ x) i).map fun v => (v, H)
    | _ => none
  | .index t x i => (indexA P t (evA G ρ x) (evA G ρ i)).map fun v => (v, H)
  | .extract t i => (extractA (evA G ρ t) i).map fun v => (v, H)
  | .call c => match c.callee with
    | .builtin b => builtinA P H id b c.argTypes.toList (c.args.toList.map (evA G ρ))
    | _ => none
  | _ => none

end Go.Hx
