/-
  Rewrite rules for slices, pointers and structs. Own work: no program stands in this text.
-/
import Derived.Test.YtcccmbeolcjacaaHxV
namespace Go.Hx
variable {P : Program} {G : Nat → Option (List AVal)} {H : AHeap}

/-! ### len -/
def lenS (H : AHeap) (x : AVal) : Option AVal :=
  match x with
    | .vec len _ => some (.lit (.int .i64 len))
    | .own id gen _ len _ => (H.live id gen).map fun _ => .lit (.int .i64 len)
    | .lit (.slice none 0 0) => some (.lit (.int .i64 0))
    | _ => none
def lenStr (x : AVal) : Option AVal :=
  match x with
    | .lit (.string s) => some (.lit (.int .i64 s.size))
    | _ => none
def lenU (d : Option TypeDesc) (H : AHeap) (x : AVal) : Option AVal :=
  match d with
  | some (.slice _) => lenS H x
  | some .string => lenStr x
  | some (.array n _) => some (.lit (.int .i64 n))
  | _ => none
theorem lenA_U (t : TypeId) (x : AVal) : lenA P H t x = lenU (P.underlying t) H x := rfl
theorem lenU_slice (e : TypeId) (x : AVal) : lenU (some (.slice e)) H x = lenS H x := rfl
theorem lenU_string (x : AVal) : lenU (some .string) H x = lenStr x := rfl
theorem lenU_array (n : Nat) (e : TypeId) (x : AVal) : lenU (some (.array n e)) H x = some (.lit (.int .i64 n)) := rfl
theorem lenS_vec (n : Nat) (l : List AVal) : lenS H (.vec n l) = some (.lit (.int .i64 n)) := rfl
theorem lenS_own (id g o n z : Nat) : lenS H (.own id g o n z) = (H.live id g).map fun _ => .lit (.int .i64 n) := rfl
theorem lenS_nil : lenS H (.lit (.slice none 0 0)) = some (.lit (.int .i64 0)) := rfl
theorem lenStr_lit (s : ByteArray) : lenStr (.lit (.string s)) = some (.lit (.int .i64 s.size)) := rfl

/-! ### loads and stores -/
def partU (d : Option TypeDesc) (n : Nat) (cells : List AVal) (off : Nat) : Option AVal :=
  match d with
  | none => none
  | some d => if aggT d then (if off + n ≤ cells.length then some (.agg ((cells.drop off).take n)) else none) else cells[off]?
theorem partA_U (t : TypeId) (cells : List AVal) (off : Nat) : partA P t cells off = partU (P.underlying t) (P.cellsOf t) cells off := rfl
theorem partU_int (k : IntKind) (n : Nat) (cells : List AVal) (off : Nat) : partU (some (.int k)) n cells off = cells[off]? := rfl
theorem partU_bool (n : Nat) (cells : List AVal) (off : Nat) : partU (some .bool) n cells off = cells[off]? := rfl
theorem partU_string (n : Nat) (cells : List AVal) (off : Nat) : partU (some .string) n cells off = cells[off]? := rfl
theorem partU_slice (e : TypeId) (n : Nat) (cells : List AVal) (off : Nat) : partU (some (.slice e)) n cells off = cells[off]? := rfl
theorem partU_pointer (e : TypeId) (n : Nat) (cells : List AVal) (off : Nat) : partU (some (.pointer e)) n cells off = cells[off]? := rfl
theorem loadA_vptr (t : TypeId) (cells : List AVal) (off : Nat) : loadA P H t (.vptr cells off) = partA P t cells off := rfl
theorem loadA_ptr (t : TypeId) (id gen off : Nat) : loadA P H t (.ptr id gen off) = (H.live id gen).bind fun ec => partA P t ec.2 off := by
  simp only [AHeap.live, loadA]
  generalize H.get id = x
  cases x with
  | none => rfl
  | some b =>
    cases b with
    | arr g e cells =>
      simp only
      by_cases hg : g = gen
      · rw [if_pos hg, if_pos hg]; rfl
      · rw [if_neg hg, if_neg hg]; rfl
    | _ => rfl
theorem storeA_ptr (t : TypeId) (id gen off : Nat) (v : AVal) : storeA P H t (.ptr id gen off) v =
    (H.live id gen).bind fun ec => if v.cells.length = P.cellsOf t ∧ v.cells.all AVal.one = true ∧ off + v.cells.length ≤ ec.2.length then some (H.upd id (.arr gen ec.1 (setAt ec.2 off v.cells))) else none := by
  simp only [AHeap.live, storeA]
  generalize H.get id = x
  cases x with
  | none => rfl
  | some b =>
    cases b with
    | arr g e cells =>
      simp only
      by_cases hg : g = gen
      · subst hg
        simp
      · rw [if_neg hg, if_neg (fun h => hg h.1)]
        rfl
    | _ => rfl

/-! ### index -/
def idxS (H : AHeap) (c : Nat) (x : AVal) (i : Int) : Option AVal :=
  match x with
  | .own id gen off len sz => if 0 ≤ i ∧ i < (len : Int) ∧ sz = c then (H.live id gen).map fun _ => .ptr id gen (off + i.toNat * c) else none
  | .vec len cells => if 0 ≤ i ∧ i < (len : Int) ∧ cells ≠ [] then some (.vptr cells (i.toNat * c)) else none
  | _ => none
def idxA (H : AHeap) (c n : Nat) (x : AVal) (i : Int) : Option AVal :=
  if 0 ≤ i ∧ i < (n : Int) then
      match x with
      | .ptr id gen off => (H.live id gen).map fun _ => .ptr id gen (off + i.toNat * c)
      | .vptr cells off => some (.vptr cells (off + i.toNat * c))
      | _ => none
  else none
def idxU (P : Program) (H : AHeap) (d : Option TypeDesc) (x : AVal) (i : Int) : Option AVal :=
  match d with
  | some (.array n e) => if (P.underlying e).isSome then idxA H (P.cellsOf e) n x i else none
  | some (.slice e) => if (P.underlying e).isSome then idxS H (P.cellsOf e) x i else none
  | _ => none
theorem indexAddrV_U (t : TypeId) (x : AVal) (k : IntKind) (i : Int) : indexAddrV P H t x (.lit (.int k i)) = idxU P H (P.underlying t) x i := by
  simp only [indexAddrV, indexAddrA, idxU]
  cases P.underlying t with
  | none => rfl
  | some d =>
    cases d with
    | array n e =>
      simp only [idxA]
      by_cases h : (P.underlying e).isSome = true
      · simp only [h, and_true, if_true]
        rfl
      · rw [if_neg h, if_neg (fun h' => h h'.2.2)]
    | slice e => rfl
    | _ => rfl
theorem idxU_slice (e : TypeId) (x : AVal) (i : Int) : idxU P H (some (.slice e)) x i = if (P.underlying e).isSome = true then idxS H (P.cellsOf e) x i else none := rfl
theorem idxU_array (n : Nat) (e : TypeId) (x : AVal) (i : Int) : idxU P H (some (.array n e)) x i = if (P.underlying e).isSome = true then idxA H (P.cellsOf e) n x i else none := rfl
theorem idxS_vec (c n : Nat) (l : List AVal) (i : Int) : idxS H c (.vec n l) i = if 0 ≤ i ∧ i < (n : Int) ∧ l ≠ [] then some (.vptr l (i.toNat * c)) else none := rfl
theorem idxS_own (c id g o n z : Nat) (i : Int) : idxS H c (.own id g o n z) i = if 0 ≤ i ∧ i < (n : Int) ∧ z = c then (H.live id g).map fun _ => .ptr id g (o + i.toNat * c) else none := rfl
theorem idxA_vptr (c n : Nat) (l : List AVal) (o : Nat) (i : Int) : idxA H c n (.vptr l o) i = if 0 ≤ i ∧ i < (n : Int) then some (.vptr l (o + i.toNat * c)) else none := rfl
theorem idxA_ptr (c n id g o : Nat) (i : Int) : idxA H c n (.ptr id g o) i = if 0 ≤ i ∧ i < (n : Int) then (H.live id g).map fun _ => .ptr id g (o + i.toNat * c) else none := rfl

/-! ### slices of slices -/
def slS (H : AHeap) (c : Nat) (x : AVal) (lo hi : Option AVal) : Option AVal :=
      match x with
      | .own id gen off len sz => if sz = c then (H.live id gen).bind fun _ => (boundA hi len len).bind fun h => (boundA lo 0 h).map fun l => .own id gen (off + l * sz) (h - l) sz else none
      | .vec len cells => if cells.length = len * c then (boundA hi len len).bind fun h => (boundA lo 0 h).map fun l => .vec (h - l) ((cells.drop (l * c)).take ((h - l) * c)) else none
      | .lit (.slice none 0 0) => (boundA hi 0 0).bind fun h => (boundA lo 0 h).map fun _ => .lit (.slice none 0 0)
      | _ => none
def slA (H : AHeap) (c n : Nat) (x : AVal) (lo hi : Option AVal) : Option AVal :=
      match x with
      | .ptr id gen off =>
        match H.live id gen with
        | some (_, cells) =>
          if off + n * c ≤ cells.length then
            (boundA hi n n).bind fun h => (boundA lo 0 h).map fun l => .own id gen (off + l * c) (h - l) c
          else none
        | none => none
      | .vptr cells off => if off + n * c ≤ cells.length then
            (boundA hi n n).bind fun h => (boundA lo 0 h).map fun l => .vec (h - l) ((cells.drop (off + l * c)).take ((h - l) * c))
          else none
      | _ => none
def slStr (x : AVal) (lo hi : Option AVal) : Option AVal :=
    match x with
    | .lit (.string s) => (boundA hi s.size s.size).bind fun h => (boundA lo 0 h).map fun l => .lit (.string (s.extract l h))
    | _ => none
def slU (P : Program) (H : AHeap) (d : Option TypeDesc) (x : AVal) (lo hi : Option AVal) : Option AVal :=
  match d with
  | some (.array n e) => if (P.underlying e).isSome then slA H (P.cellsOf e) n x lo hi else none
  | some (.slice e) => if (P.underlying e).isSome then slS H (P.cellsOf e) x lo hi else none
  | some .string => slStr x lo hi
  | _ => none
theorem sliceA_U (t : TypeId) (x : AVal) (lo hi : Option AVal) : sliceA P H t x lo hi = slU P H (P.underlying t) x lo hi := rfl
theorem slU_slice (e : TypeId) (x : AVal) (lo hi : Option AVal) : slU P H (some (.slice e)) x lo hi = if (P.underlying e).isSome = true then slS H (P.cellsOf e) x lo hi else none := rfl
theorem slU_array (n : Nat) (e : TypeId) (x : AVal) (lo hi : Option AVal) : slU P H (some (.array n e)) x lo hi = if (P.underlying e).isSome = true then slA H (P.cellsOf e) n x lo hi else none := rfl
theorem slU_string (x : AVal) (lo hi : Option AVal) : slU P H (some .string) x lo hi = slStr x lo hi := rfl
theorem slS_own (c id g o n z : Nat) (lo hi : Option AVal) : slS H c (.own id g o n z) lo hi = if z = c then (H.live id g).bind fun _ => (boundA hi n n).bind fun h => (boundA lo 0 h).map fun l => .own id g (o + l * z) (h - l) z else none := rfl
theorem slS_vec (c n : Nat) (cells : List AVal) (lo hi : Option AVal) : slS H c (.vec n cells) lo hi = if cells.length = n * c then (boundA hi n n).bind fun h => (boundA lo 0 h).map fun l => .vec (h - l) ((cells.drop (l * c)).take ((h - l) * c)) else none := rfl
theorem slS_nil (c : Nat) (lo hi : Option AVal) : slS H c (.lit (.slice none 0 0)) lo hi = (boundA hi 0 0).bind fun h => (boundA lo 0 h).map fun _ => .lit (.slice none 0 0) := rfl
theorem slA_vptr (c n : Nat) (cells : List AVal) (off : Nat) (lo hi : Option AVal) : slA H c n (.vptr cells off) lo hi = if off + n * c ≤ cells.length then
            (boundA hi n n).bind fun h => (boundA lo 0 h).map fun l => .vec (h - l) ((cells.drop (off + l * c)).take ((h - l) * c)) else none := rfl
theorem slA_ptr (c n id g off : Nat) (lo hi : Option AVal) : slA H c n (.ptr id g off) lo hi = (H.live id g).bind fun ec => if off + n * c ≤ ec.2.length then
            (boundA hi n n).bind fun h => (boundA lo 0 h).map fun l => .own id g (off + l * c) (h - l) c else none := by
  simp only [slA]
  cases H.live id g <;> rfl
theorem slStr_lit (s : ByteArray) (lo hi : Option AVal) : slStr (.lit (.string s)) lo hi = (boundA hi s.size s.size).bind fun h => (boundA lo 0 h).map fun l => .lit (.string (s.extract l h)) := rfl
theorem boundA_none (d m : Nat) : boundA none d m = some d := rfl
theorem boundA_int (k : IntKind) (i : Int) (d m : Nat) : boundA (some (.lit (.int k i))) d m = if 0 ≤ i ∧ i ≤ (m : Int) then some i.toNat else none := rfl

/-! ### append and copy -/
theorem sourceA_vec (sz n : Nat) (l : List AVal) : sourceA H sz (.vec n l) = if l.length = n * sz then some (n, l) else none := rfl
theorem sourceA_own (sz id g o n z : Nat) : sourceA H sz (.own id g o n z) = if z = sz then (H.live id g).map fun x => (n, (x.2.drop o).take (n * sz)) else none := rfl
theorem sourceA_nil (sz : Nat) : sourceA H sz (.lit (.slice none 0 0)) = some (0, []) := rfl
def appU (P : Program) (H : AHeap) (id : Nat) (d0 d1 : Option TypeDesc) (s x : AVal) : Option (AVal × AHeap) :=
  match d0, d1 with
  | some (.slice e), some (.slice _) => (zeroA P e).bind fun _ => (sourceA H (P.cellsOf e) x).bind fun nx =>
        match s with
        | .lit (.slice none 0 0) =>
          if nx.1 = 0 then some (s, H)
          else if nx.1 * P.bytesOf e ≤ 2 ^ 46 ∧ nx.1 ≤ 2 ^ 46 then (H.lay id (.arr 0 e nx.2)).map fun H' => (.own id 0 0 nx.1 (P.cellsOf e), H')
          else none
        | .own id' gen off len sz =>
          (H.live id' gen).bind fun ec =>
            if ec.1 = e ∧ sz = P.cellsOf e ∧ off + len * sz = ec.2.length ∧ (len + nx.1) * P.bytesOf e ≤ 2 ^ 46 ∧ len + nx.1 ≤ 2 ^ 46 ∧ nx.2.all AVal.one = true then
              if nx.1 = 0 then some (s, H)
              else some (.own id' (gen + 1) 0 (len + nx.1) sz, H.upd id' (.arr (gen + 1) e (ec.2.drop off ++ nx.2)))
            else none
        | _ => none
  | _, _ => none
theorem appendA_U (id : Nat) (t u : TypeId) (s x : AVal) : appendA P H id t u s x = appU P H id (P.underlying t) (P.underlying u) s x := by
  unfold appendA appU
  cases P.underlying t with
  | none => rfl
  | some d =>
    cases d with
    | slice e =>
      cases P.underlying u with
      | none => rfl
      | some d' => cases d' <;> rfl
    | _ => rfl
theorem appU_nil (id : Nat) (e u : TypeId) (x : AVal) : appU P H id (some (.slice e)) (some (.slice u)) (.lit (.slice none 0 0)) x = (zeroA P e).bind fun _ => (sourceA H (P.cellsOf e) x).bind fun nx =>
    if nx.1 = 0 then some (.lit (.slice none 0 0), H) else if nx.1 * P.bytesOf e ≤ 2 ^ 46 ∧ nx.1 ≤ 2 ^ 46 then (H.lay id (.arr 0 e nx.2)).map fun H' => (.own id 0 0 nx.1 (P.cellsOf e), H') else none := rfl
theorem appU_own (id : Nat) (e u : TypeId) (x : AVal) (id' gen off len sz : Nat) : appU P H id (some (.slice e)) (some (.slice u)) (.own id' gen off len sz) x = (zeroA P e).bind fun _ => (sourceA H (P.cellsOf e) x).bind fun nx =>
    (H.live id' gen).bind fun ec =>
            if ec.1 = e ∧ sz = P.cellsOf e ∧ off + len * sz = ec.2.length ∧ (len + nx.1) * P.bytesOf e ≤ 2 ^ 46 ∧ len + nx.1 ≤ 2 ^ 46 ∧ nx.2.all AVal.one = true then
              if nx.1 = 0 then some (.own id' gen off len sz, H)
              else some (.own id' (gen + 1) 0 (len + nx.1) sz, H.upd id' (.arr (gen + 1) e (ec.2.drop off ++ nx.2)))
            else none := rfl
def cpyU (P : Program) (H : AHeap) (d0 : Option TypeDesc) (d x : AVal) : Option (AVal × AHeap) :=
  match d0 with
  | some (.slice e) =>
    if (P.underlying e).isSome then
      (sourceA H (P.cellsOf e) x).bind fun nx =>
        match d with
        | .own id gen off len sz =>
          (H.live id gen).bind fun ec =>
            if sz = P.cellsOf e ∧ off + len * sz ≤ ec.2.length ∧ nx.2.all AVal.one = true then
              some (.lit (.int .i64 (min nx.1 len : Nat)), H.upd id (.arr gen ec.1 (setAt ec.2 off (nx.2.take (min nx.1 len * sz)))))
            else none
        | _ => none
    else none
  | _ => none
theorem copyA_U (t : TypeId) (d x : AVal) : copyA P H t d x = cpyU P H (P.underlying t) d x := rfl
theorem cpyU_own (e : TypeId) (id gen off len sz : Nat) (x : AVal) : cpyU P H (some (.slice e)) (.own id gen off len sz) x = if (P.underlying e).isSome = true then
      (sourceA H (P.cellsOf e) x).bind fun nx => (H.live id gen).bind fun ec =>
            if sz = P.cellsOf e ∧ off + len * sz ≤ ec.2.length ∧ nx.2.all AVal.one = true then
              some (.lit (.int .i64 (min nx.1 len : Nat)), H.upd id (.arr gen ec.1 (setAt ec.2 off (nx.2.take (min nx.1 len * sz)))))
            else none
      else none := rfl

/-! ### make -/
def mkU (P : Program) (H : AHeap) (id : Nat) (d : Option TypeDesc) (l c : AVal) : Option (AVal × AHeap) :=
  match d, l, c with
  | some (.slice e), .lit (.int _ l), .lit (.int _ c) =>
    if 0 ≤ l ∧ l ≤ c ∧ c * P.bytesOf e ≤ 2 ^ 46 ∧ c ≤ 2 ^ 46 then
      (zerosA P e l.toNat).bind fun cells => (H.lay id (.arr 0 e cells)).map fun H' => (.own id 0 0 l.toNat (P.cellsOf e), H')
    else none
  | _, _, _ => none
theorem makeSliceA_U (id : Nat) (t : TypeId) (l c : AVal) : makeSliceA P H id t l c = mkU P H id (P.underlying t) l c := by
  unfold makeSliceA mkU
  cases P.underlying t with
  | none => rfl
  | some d => rfl
theorem mkU_slice (id : Nat) (e : TypeId) (k k' : IntKind) (l c : Int) : mkU P H id (some (.slice e)) (.lit (.int k l)) (.lit (.int k' c)) = if 0 ≤ l ∧ l ≤ c ∧ c * P.bytesOf e ≤ 2 ^ 46 ∧ c ≤ 2 ^ 46 then
      (zerosA P e l.toNat).bind fun cells => (H.lay id (.arr 0 e cells)).map fun H' => (.own id 0 0 l.toNat (P.cellsOf e), H')
    else none := rfl
theorem zerosA_def (e : TypeId) (n : Nat) : zerosA P e n = (zeroA P e).map fun z => (List.replicate n z).flatten := rfl
theorem flatten_one (n : Nat) (v : AVal) : (List.replicate n [v]).flatten = List.replicate n v := by
  induction n with
  | zero => rfl
  | succ n ih => rw [List.replicate_succ, List.flatten_cons, ih, List.replicate_succ]; rfl
def bsU (P : Program) (H : AHeap) (id : Nat) (d : Option TypeDesc) (len : Nat) (parts : List (Nat × AVal)) : Option (AVal × AHeap) :=
  match d with
  | some (.slice e) =>
    if len * P.cellsOf e ≤ 2 ^ 24 then
      (zerosA P e len).bind fun z => (fillA (fun i => some (i * P.cellsOf e, P.cellsOf e)) z parts).bind fun cells =>
        (H.lay id (.arr 0 e cells)).map fun H' => (.own id 0 0 len (P.cellsOf e), H')
    else none
  | _ => none
theorem buildSliceA_U (id : Nat) (t : TypeId) (len : Nat) (parts : List (Nat × AVal)) : buildSliceA P H id t len parts = bsU P H id (P.underlying t) len parts := rfl
theorem bsU_slice (id : Nat) (e : TypeId) (len : Nat) (parts : List (Nat × AVal)) : bsU P H id (some (.slice e)) len parts = if len * P.cellsOf e ≤ 2 ^ 24 then
      (zerosA P e len).bind fun z => (fillA (fun i => some (i * P.cellsOf e, P.cellsOf e)) z parts).bind fun cells =>
        (H.lay id (.arr 0 e cells)).map fun H' => (.own id 0 0 len (P.cellsOf e), H')
    else none := rfl
def buildU (P : Program) (t : TypeId) (d : Option TypeDesc) (parts : List (Nat × AVal)) : Option AVal :=
  (zeroA P t).bind fun z =>
    match d with
    | some (.struct _) => (placesA P t).bind fun pl => (fillA (fun i => pl[i]?) z parts).map .agg
    | some (.array _ e) => if (P.underlying e).isSome then (fillA (fun i => some (i * P.cellsOf e, P.cellsOf e)) z parts).map .agg else none
    | _ => none
theorem buildA_U (t : TypeId) (parts : List (Nat × AVal)) : buildA P t parts = buildU P t (P.underlying t) parts := rfl
theorem buildU_struct (t : TypeId) (fs : Array Field) (parts : List (Nat × AVal)) : buildU P t (some (.struct fs)) parts = (zeroA P t).bind fun z => (placesA P t).bind fun pl => (fillA (fun i => pl[i]?) z parts).map .agg := rfl
theorem buildU_array (t : TypeId) (n : Nat) (e : TypeId) (parts : List (Nat × AVal)) : buildU P t (some (.array n e)) parts = (zeroA P t).bind fun z => if (P.underlying e).isSome = true then (fillA (fun i => some (i * P.cellsOf e, P.cellsOf e)) z parts).map .agg else none := rfl
theorem fillA_nil (pl : Nat → Option (Nat × Nat)) (cells : List AVal) : fillA pl cells [] = some cells := rfl
theorem fillA_cons (pl : Nat → Option (Nat × Nat)) (cells : List AVal) (i : Nat) (v : AVal) (rest : List (Nat × AVal)) : fillA pl cells ((i, v) :: rest) = (pl i).bind fun os =>
    if v.cells.length = os.2 ∧ os.1 + v.cells.length ≤ cells.length then fillA pl (setAt cells os.1 v.cells) rest else none := by
  simp only [fillA]
  cases pl i <;> rfl
theorem cells_int (k : IntKind) (n : Int) : (AVal.lit (.int k n)).cells = [.lit (.int k n)] := rfl
theorem cells_bool (b : Bool) : (AVal.lit (.bool b)).cells = [.lit (.bool b)] := rfl
theorem cells_string (s : ByteArray) : (AVal.lit (.string s)).cells = [.lit (.string s)] := rfl
theorem cells_slice (a : Option Addr) (n c : Nat) : (AVal.lit (.slice a n c)).cells = [.lit (.slice a n c)] := rfl
theorem cells_agg (l : List AVal) : (AVal.agg l).cells = l := rfl
theorem cells_vec (n : Nat) (l : List AVal) : (AVal.vec n l).cells = [.vec n l] := rfl
theorem cells_own (a b c d e : Nat) : (AVal.own a b c d e).cells = [.own a b c d e] := rfl
theorem cells_ptr (a b c : Nat) : (AVal.ptr a b c).cells = [.ptr a b c] := rfl
theorem one_int (k : IntKind) (n : Int) : (AVal.lit (.int k n)).one = true := rfl
theorem one_bool (b : Bool) : (AVal.lit (.bool b)).one = true := rfl
theorem one_string (s : ByteArray) : (AVal.lit (.string s)).one = true := rfl
theorem one_slice (a : Option Addr) (n c : Nat) : (AVal.lit (.slice a n c)).one = true := rfl
theorem one_vec (n : Nat) (l : List AVal) : (AVal.vec n l).one = true := rfl
theorem one_own (a b c d e : Nat) : (AVal.own a b c d e).one = true := rfl
theorem one_ptr (a b c : Nat) : (AVal.ptr a b c).one = true := rfl

/-! ### whole numbers in slices -/
def lin (n : Int) : AVal := .lit (.int .i64 n)
def ints (l : List Int) : List AVal := l.map lin
def vecI (l : List Int) : AVal := .vec l.length (ints l)
theorem ints_length (l : List Int) : (ints l).length = l.length := List.length_map ..
theorem ints_get (l : List Int) (i : Nat) : (ints l)[i]? = (l[i]?).map lin := List.getElem?_map ..
theorem ints_nil (l : List Int) : ints l = [] ↔ l = [] := List.map_eq_nil_iff
theorem ints_ne {l : List Int} {i : Nat} (h : i < l.length) : ¬ ints l = [] := by
  intro h0
  rw [ints_nil] at h0
  rw [h0] at h
  simp at h
theorem wpo_get {α : Type} {l : List α} {i : Nat} {K : α → Prop} (h : i < l.length) (k : K l[i]) : wpo l[i]? K := ⟨l[i], List.getElem?_eq_getElem h, k⟩
theorem take_succ_eq {x y : List Int} {k : Nat} (h1 : k < x.length) (h2 : k < y.length) (ht : x.take k = y.take k) (he : x[k] = y[k]) : x.take (k + 1) = y.take (k + 1) := by
  rw [List.take_succ_eq_append_getElem h1, List.take_succ_eq_append_getElem h2, ht, he]

end Go.Hx
