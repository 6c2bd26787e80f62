/-
  Rewrite rules for regions that draw, and for guards. Own work: no program stands in this text.
-/
import Derived.Test.YtcccmbeolcjacaaHxU
import Derived.Test.YtcccmbeolcjacaaHxS
namespace Go.Hx
variable {P : Program} {G : Nat → Option (List AVal)}

def guardA (want : Bool) : Option AVal → Option Bool
  | some (.lit (.bool b)) => some (b == want)
  | some (.lit _) => some false
  | none => some false
  | _ => none
theorem guardA_bool (want b : Bool) : guardA want (some (.lit (.bool b))) = some (b == want) := rfl
theorem beq_true' (b : Bool) : (b == true) = b := by cases b <;> rfl
theorem beq_false' (b : Bool) : (b == false) = !b := by cases b <;> rfl
theorem Branch_not (b : Bool) (p q : Prop) : Branch (!b) p q = Branch b q p := by cases b <;> simp [Branch]
theorem branch_ite (t : Bool) (p q : Prop) : (if t = true then p else q) = Branch t p q := by cases t <;> simp [Branch]

theorem wantA_guard (all : Array Oper) (ρ : Env) (d : Option Tmp) (op : Op) (ty : TypeId) (pos : String) (aft : Array Edge) (j : Nat) (want : Bool) :
    wantA all ρ ⟨d, op, ty, pos, aft, some (j, want)⟩ = guardA want (((all[j]?).bind (·.dst)).map ρ) := by
  unfold wantA
  simp only
  cases (all[j]?).bind (·.dst) with
  | none => rfl
  | some d =>
    simp only [Option.map_some]
    cases ρ d with
    | lit v => cases v <;> rfl
    | _ => rfl

section
variable {rd : Option Nat} {Q : AX → St → Prop} {s : St} {d : Option Tmp} {ty : TypeId} {pos : String} {aft : Array Edge} {g : Option (Nat × Bool)}
theorem opsV_guard' (all : Array Oper) (op : Op) (rest : List Oper) (j : Nat) (want : Bool) : opsV P G rd Q all (⟨d, op, ty, pos, aft, some (j, want)⟩ :: rest) s =
    wpo (guardA want (((all[j]?).bind (·.dst)).map s.ρ)) fun t => Branch t (opV P G rd Q ⟨d, op, ty, pos, aft, some (j, want)⟩ (opsV P G rd Q all rest) s) (opsV P G rd Q all rest ⟨putA s.ρ d (.lit undef), s.H⟩) := by
  rw [opsV_guard, wantA_guard]
  simp only [branch_ite]

variable {all : Array Oper} {tail : St → Prop} {b i : Nat} {bs : List Nat} {acc : List (Nat × FP)} {K : FP → St → Prop}
theorem opsD_nil (bs : List Nat) : opsD P G all tail bs i acc [] s = tail s := by cases bs <;> rfl
theorem opsD_plain (op : Op) (rest : List Oper) : opsD P G all tail (b :: bs) i acc (⟨d, op, ty, pos, aft, none⟩ :: rest) s =
    opD P G ⟨d, op, ty, pos, aft, none⟩ (fun f s' => ApartA b f acc ∧ opsD P G all tail bs (i + 1) (addF i f acc) rest s') s := by
  simp [opsD, wantA, wpo]
theorem opsD_guard (op : Op) (rest : List Oper) (j : Nat) (want : Bool) : opsD P G all tail (b :: bs) i acc (⟨d, op, ty, pos, aft, some (j, want)⟩ :: rest) s =
    wpo (guardA want (((all[j]?).bind (·.dst)).map s.ρ)) fun t =>
      Branch t (opD P G ⟨d, op, ty, pos, aft, some (j, want)⟩ (fun f s' => ApartA b f acc ∧ opsD P G all tail bs (i + 1) (addF i f acc) rest s') s)
        (opsD P G all tail bs (i + 1) acc rest ⟨putA s.ρ d (.lit undef), s.H⟩) := by
  simp only [opsD, wantA_guard, branch_ite]

theorem opD_call (fv : Operand) (args : Array Operand) (ats : Array TypeId) : opD P G ⟨d, .call ⟨.value fv, args, ats⟩, ty, pos, aft, g⟩ K s =
    ∃ v rs, PCall P G (evA G s.ρ fv) (args.toList.map (evA G s.ρ)) s.H v rs ∧ K ⟨[], rs⟩ ⟨putA s.ρ d v, s.H⟩ := rfl
abbrev QF : AX → St → Prop := fun _ _ => False
theorem opD_move (x : Operand) : opD P G ⟨d, .move x, ty, pos, aft, g⟩ K s = opV P G none QF ⟨d, .move x, ty, pos, aft, g⟩ (K ⟨[], []⟩) s := rfl
theorem opD_assign (x : Operand) : opD P G ⟨d, .assign x, ty, pos, aft, g⟩ K s = opV P G none QF ⟨d, .assign x, ty, pos, aft, g⟩ (K ⟨[], []⟩) s := rfl
theorem opD_pick (c x y : Operand) : opD P G ⟨d, .pick c x y, ty, pos, aft, g⟩ K s = opV P G none QF ⟨d, .pick c x y, ty, pos, aft, g⟩ (K ⟨[], []⟩) s := rfl
theorem opD_alloc (e : TypeId) : opD P G ⟨d, .alloc e, ty, pos, aft, g⟩ K s = opV P G none QF ⟨d, .alloc e, ty, pos, aft, g⟩ (K ⟨[s.H.next], []⟩) s := rfl
theorem opD_box (e : TypeId) (x : Operand) : opD P G ⟨d, .box e x, ty, pos, aft, g⟩ K s = opV P G none QF ⟨d, .box e x, ty, pos, aft, g⟩ (K ⟨[s.H.next], []⟩) s := rfl
theorem opD_build (t : TypeId) (p : Array (Nat × Operand)) : opD P G ⟨d, .build t p, ty, pos, aft, g⟩ K s = opV P G none QF ⟨d, .build t p, ty, pos, aft, g⟩ (K ⟨[], []⟩) s := rfl
theorem opD_buildSlice (t : TypeId) (l : Nat) (p : Array (Nat × Operand)) : opD P G ⟨d, .buildSlice t l p, ty, pos, aft, g⟩ K s = opV P G none QF ⟨d, .buildSlice t l p, ty, pos, aft, g⟩ (K ⟨[s.H.next], []⟩) s := rfl
theorem opD_load (t : TypeId) (x : Operand) : opD P G ⟨d, .load t x, ty, pos, aft, g⟩ K s = opV P G none QF ⟨d, .load t x, ty, pos, aft, g⟩ (K ⟨[], idsV (evA G s.ρ x)⟩) s := rfl
theorem opD_store (t : TypeId) (x y : Operand) : opD P G ⟨d, .store t x y, ty, pos, aft, g⟩ K s = opV P G none QF ⟨d, .store t x y, ty, pos, aft, g⟩ (K ⟨idsV (evA G s.ρ x), idsV (evA G s.ρ x)⟩) s := rfl
theorem opD_nilCheck (x : Operand) : opD P G ⟨d, .nilCheck x, ty, pos, aft, g⟩ K s = opV P G none QF ⟨d, .nilCheck x, ty, pos, aft, g⟩ (K ⟨[], idsV (evA G s.ρ x)⟩) s := rfl
theorem opD_binOp (op : BinOp) (t : TypeId) (x y : Operand) (u : TypeId) : opD P G ⟨d, .binOp op t x y u, ty, pos, aft, g⟩ K s = wpo (binA P op t x y (evA G s.ρ x) (evA G s.ρ y)) fun v => K ⟨[], []⟩ ⟨putA s.ρ d v, s.H⟩ := by
  simp only [opD, opA, wpo_map]
  rfl
theorem opD_unOp (op : UnOp) (t : TypeId) (x : Operand) : opD P G ⟨d, .unOp op t x, ty, pos, aft, g⟩ K s = opV P G none QF ⟨d, .unOp op t x, ty, pos, aft, g⟩ (K ⟨[], []⟩) s := rfl
theorem opD_convert (t u : TypeId) (x : Operand) : opD P G ⟨d, .convert t u x, ty, pos, aft, g⟩ K s = opV P G none QF ⟨d, .convert t u x, ty, pos, aft, g⟩ (K ⟨[], []⟩) s := rfl
theorem opD_makeInterface (t : TypeId) (x : Operand) : opD P G ⟨d, .makeInterface t x, ty, pos, aft, g⟩ K s = opV P G none QF ⟨d, .makeInterface t x, ty, pos, aft, g⟩ (K ⟨[], []⟩) s := rfl
theorem opD_makeFunc (f : Fn) (x y : Array Operand) : opD P G ⟨d, .makeFunc f x y, ty, pos, aft, g⟩ K s = opV P G none QF ⟨d, .makeFunc f x y, ty, pos, aft, g⟩ (K ⟨[], []⟩) s := rfl
theorem opD_makeSlice (t : TypeId) (x y : Operand) : opD P G ⟨d, .makeSlice t x y, ty, pos, aft, g⟩ K s = opV P G none QF ⟨d, .makeSlice t x y, ty, pos, aft, g⟩ (K ⟨[s.H.next], []⟩) s := rfl
theorem opD_slice (t : TypeId) (x : Operand) (lo hi mx : Option Operand) : opD P G ⟨d, .slice t x lo hi mx, ty, pos, aft, g⟩ K s = opV P G none QF ⟨d, .slice t x lo hi mx, ty, pos, aft, g⟩ (K ⟨[], idsV (evA G s.ρ x)⟩) s := rfl
theorem opD_fieldAddr (t : TypeId) (x : Operand) (f : Nat) : opD P G ⟨d, .fieldAddr t x f, ty, pos, aft, g⟩ K s = opV P G none QF ⟨d, .fieldAddr t x f, ty, pos, aft, g⟩ (K ⟨[], idsV (evA G s.ρ x)⟩) s := rfl
theorem opD_field (t : TypeId) (x : Operand) (f : Nat) : opD P G ⟨d, .field t x f, ty, pos, aft, g⟩ K s = opV P G none QF ⟨d, .field t x f, ty, pos, aft, g⟩ (K ⟨[], []⟩) s := rfl
theorem opD_indexAddr (t : TypeId) (x y : Operand) : opD P G ⟨d, .indexAddr t x y, ty, pos, aft, g⟩ K s = opV P G none QF ⟨d, .indexAddr t x y, ty, pos, aft, g⟩ (K ⟨[], idsV (evA G s.ρ x)⟩) s := rfl
theorem opD_index (t : TypeId) (x y : Operand) : opD P G ⟨d, .index t x y, ty, pos, aft, g⟩ K s = opV P G none QF ⟨d, .index t x y, ty, pos, aft, g⟩ (K ⟨[], []⟩) s := rfl
theorem opD_extract (x : Operand) (f : Nat) : opD P G ⟨d, .extract x f, ty, pos, aft, g⟩ K s = opV P G none QF ⟨d, .extract x f, ty, pos, aft, g⟩ (K ⟨[], []⟩) s := rfl
theorem opD_builtin (f : Builtin) (args : Array Operand) (ats : Array TypeId) : opD P G ⟨d, .call ⟨.builtin f, args, ats⟩, ty, pos, aft, g⟩ K s =
    opV P G none QF ⟨d, .call ⟨.builtin f, args, ats⟩, ty, pos, aft, g⟩ (K (fpB P s.H.next f ats.toList (args.toList.map (evA G s.ρ)))) s := rfl
end

theorem idsV_lit (v : Value) : idsV (.lit v) = [] := rfl
theorem idsV_vec (n : Nat) (l : List AVal) : idsV (.vec n l) = [] := rfl
theorem idsV_vptr (l : List AVal) (o : Nat) : idsV (.vptr l o) = [] := rfl
theorem idsV_agg (l : List AVal) : idsV (.agg l) = [] := rfl
theorem idsV_own (id g o l z : Nat) : idsV (.own id g o l z) = [id] := rfl
theorem idsV_ptr (id g o : Nat) : idsV (.ptr id g o) = [id] := rfl
theorem isOwn_own (id g o l z : Nat) : isOwn (.own id g o l z) = true := rfl
theorem isOwn_lit (v : Value) : isOwn (.lit v) = false := rfl
theorem isOwn_vec (n : Nat) (l : List AVal) : isOwn (.vec n l) = false := rfl
theorem fpB_len (id : Nat) (t : TypeId) (x : AVal) : fpB P id .len [t] [x] = ⟨[], lenIds P t x⟩ := rfl
theorem fpB_append (id : Nat) (ts : List TypeId) (x y : AVal) : fpB P id .append ts [x, y] = if isOwn x = true then ⟨idsV x, idsV x ++ idsV y⟩ else ⟨[id], idsV y⟩ := by
  cases ts with
  | nil => rfl
  | cons t ts => cases ts <;> rfl
theorem fpB_copy (id : Nat) (ts : List TypeId) (x y : AVal) : fpB P id .copy ts [x, y] = ⟨idsV x, idsV x ++ idsV y⟩ := by
  cases ts with
  | nil => rfl
  | cons t ts => cases ts <;> rfl
theorem fpB_min (id : Nat) (ts : List TypeId) (l : List AVal) : fpB P id .min ts l = ⟨[], []⟩ := by
  rfl
theorem fpB_max (id : Nat) (ts : List TypeId) (l : List AVal) : fpB P id .max ts l = ⟨[], []⟩ := by
  rfl
theorem lenIds_nil (t : TypeId) (x : AVal) (h : idsV x = []) : lenIds P t x = [] := by unfold lenIds; split <;> first | exact h | rfl
theorem lenIds_lit (t : TypeId) (v : Value) : lenIds P t (.lit v) = [] := lenIds_nil _ _ rfl
theorem lenIds_vec (t : TypeId) (n : Nat) (l : List AVal) : lenIds P t (.vec n l) = [] := lenIds_nil _ _ rfl
theorem lenIds_agg (t : TypeId) (l : List AVal) : lenIds P t (.agg l) = [] := lenIds_nil _ _ rfl
theorem lenIds_own {t e : TypeId} (h : P.underlying t = some (.slice e)) (id g o l z : Nat) : lenIds P t (.own id g o l z) = [id] := by unfold lenIds; rw [h]; rfl

def djF (f f' : FP) : Prop := (∀ r, r ∈ f.eff → r ∉ f'.rs) ∧ (∀ r, r ∈ f'.eff → r ∉ f.rs)
theorem ApartA_nil (b : Nat) (f : FP) : ApartA b f [] = True := by simp [ApartA]
theorem ApartA_cons (b : Nat) (f : FP) (j : Nat) (f' : FP) (acc : List (Nat × FP)) : ApartA b f ((j, f') :: acc) = ((b / 2 ^ j % 2 = 1 ∨ djF f f') ∧ ApartA b f acc) := by
  simp only [ApartA, List.forall_mem_cons, Nat.testBit_eq_decide_div_mod_eq, decide_eq_false_iff_not, eq_iff_iff]
  refine and_congr ⟨fun h => ?_, fun h hb => ?_⟩ Iff.rfl
  · by_cases hb : b / 2 ^ j % 2 = 1
    · exact .inl hb
    · exact .inr (h hb)
  · rcases h with h | h
    · exact absurd h hb
    · exact h
theorem ApartA_none (b : Nat) (acc : List (Nat × FP)) : ApartA b ⟨[], []⟩ acc = True := by
  simp [ApartA]
theorem djF_reads (r r' : List Nat) : djF ⟨[], r⟩ ⟨[], r'⟩ = True := by simp [djF]
theorem djF_nil (e r e' : List Nat) : djF ⟨e, r⟩ ⟨e', []⟩ = ∀ x, x ∈ e' → x ∉ r := by simp [djF]
theorem djF_nil' (e e' r' : List Nat) : djF ⟨e, []⟩ ⟨e', r'⟩ = ∀ x, x ∈ e → x ∉ r' := by simp [djF]
theorem djF_mk (e r e' r' : List Nat) : djF ⟨e, r⟩ ⟨e', r'⟩ = ((∀ x, x ∈ e → x ∉ r') ∧ ∀ x, x ∈ e' → x ∉ r) := rfl
theorem addF_nil (i : Nat) (acc : List (Nat × FP)) : addF i ⟨[], []⟩ acc = acc := rfl
theorem addF_eff (i x : Nat) (e r : List Nat) (acc : List (Nat × FP)) : addF i ⟨x :: e, r⟩ acc = (i, ⟨x :: e, r⟩) :: acc := rfl
theorem addF_rs (i x : Nat) (e r : List Nat) (acc : List (Nat × FP)) : addF i ⟨e, x :: r⟩ acc = (i, ⟨e, x :: r⟩) :: acc := by cases e <;> rfl

/-- A call of a function that only reads. -/
theorem PCall.mk {f : FuncId} {first cap args : List AVal} {H : AHeap} {v : AVal} {rs : List Nat} (hlt : ∀ r, r ∈ rs → r < H.next)
    (h : ∀ H2 : AHeap, (∀ r, r ∈ rs → H2.get r = H.get r) → H.next ≤ H2.next → ACall P G f (first ++ args ++ cap) H2 fun r H3 => r = .ret v ∧ H3 = H2) : PCall P G (.clo f first cap) args H v rs :=
  ⟨hlt, fun H2 h1 h2 => AApply.clo (h H2 h1 h2)⟩
theorem PCall.pure {f : FuncId} {args : List AVal} {H : AHeap} {v : AVal} (h : ∀ H2 : AHeap, ACall P G f args H2 fun r H3 => r = .ret v ∧ H3 = H2) : PCall P G (.clo f [] []) args H v [] :=
  PCall.mk (fun _ h => by cases h) fun H2 _ _ => by simpa using h H2
theorem ACall.pure {f : FuncId} {args : List AVal} {H : AHeap} {v : AVal} {K : ARes → AHeap → Prop} (h : ∀ H2 : AHeap, ACall P G f args H2 fun r H3 => r = .ret v ∧ H3 = H2) (hk : K (.ret v) H) : ACall P G f args H K :=
  (h H).mono fun r H3 ⟨h1, h2⟩ => by rw [h1, h2]; exact hk

theorem opsD_congr {all : Array Oper} {tail : St → Prop} {bs : List Nat} {i : Nat} {acc : List (Nat × FP)} {l : List Oper} {s s' : St} (h : s = s') : opsD P G all tail bs i acc l s = opsD P G all tail bs i acc l s' := by rw [h]

end Go.Hx
