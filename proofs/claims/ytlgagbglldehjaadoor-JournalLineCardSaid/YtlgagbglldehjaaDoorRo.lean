/- A region that draws its order and only reads (no call of a Go function, nothing made, nothing written) is walked once, in the order of the text, its guards decided on the way: wp_region_ro. Plain theorems over any program. -/
import Derived.Still
import Derived.WalkKit
import Derived.Deep.RegionHeld3
import Derived.Laws.Panics
namespace Go.Proofs.YtlgagbglldehjaaDoor.Ro
open Go

/-- an expression of the model either leaves the world that it got, or makes it greater -/
def Mono (P : Program) {α : Type} (e : Sem α) : Prop := ∀ w x w', e.run P w = .ok x w' → w' = w ∨ w.heap.size + w.drawn < w'.heap.size + w'.drawn
section
variable {P : Program} {α β : Type}
theorem mono_of_eq {e : Sem α} (h : ∀ w x w', e.run P w = .ok x w' → w' = w) : Mono P e := fun w x w' h' => .inl (h w x w' h')
theorem mono_pure (a : α) : Mono P (pure a : Sem α) := mono_of_eq fun w x w' h => by
  simp only [Sem.run_pure, Result.ok.injEq] at h; exact h.2.symm
theorem mono_halt (h0 : Halt) : Mono P (.halt h0 : Sem α) := mono_of_eq fun w x w' h => by simp [Sem.run] at h
theorem mono_stuck (s : String) : Mono P (stuck s : Sem α) := mono_halt _
theorem mono_unsupported (u : Unsupported) : Mono P (unsupported u : Sem α) := mono_halt _
theorem mono_goPanic (v : Value) : Mono P (goPanic v : Sem α) := mono_halt _
theorem mono_bind {e : Sem α} {f : α → Sem β} (he : Mono P e) (hf : ∀ a, Mono P (f a)) : Mono P (e >>= f) := fun w x w' h => by
  rw [Sem.run_bind] at h
  cases hr : e.run P w with
  | ok a w1 =>
    rw [hr] at h
    rcases hf a w1 x w' h with h2 | h2 <;> rcases he w a w1 hr with h1 | h1
    · exact .inl (h2.trans h1)
    · rw [h2]; exact .inr h1
    · rw [h1] at h2; exact .inr h2
    · exact .inr (by omega)
  | halt o w1 => rw [hr] at h; cases h
theorem mono_newObj (o : Obj) : Mono P (newObj o) := fun w x w' h => by
  simp only [newObj, Sem.run, Result.ok.injEq] at h
  rw [← h.2]; right; simp
theorem mono_choose (q : Question) : Mono P (choose q) := fun w x w' h => by
  simp only [choose, Sem.run] at h
  split at h
  · simp only [Result.ok.injEq] at h; exact .inl h.2.symm
  · simp only [Result.ok.injEq] at h; rw [← h.2]; right; simp
theorem mono_program : Mono P program := mono_of_eq fun w x w' h => by
  simp only [program, Sem.run, Result.ok.injEq] at h; exact h.2.symm
theorem mono_shape (r : Nat) : Mono P (shape r) := mono_of_eq fun w x w' h => by
  simp only [shape, Sem.run, Result.ok.injEq] at h; exact h.2.symm
theorem mono_frozen (a : Addr) : Mono P (frozen a) := mono_of_eq fun w x w' h => by
  simp only [frozen, Sem.run, Result.ok.injEq] at h; exact h.2.symm
theorem mono_getObj (r : Nat) : Mono P (getObj r) := mono_of_eq fun w x w' h => by
  simp only [getObj, Sem.run] at h
  split at h
  · cases h
  · simp only [Result.ok.injEq] at h; exact h.2.symm
  · cases h
theorem mono_load (a : Addr) (m : Mode) : Mono P (load a m) := mono_of_eq fun w x w' h => by
  simp only [load, Sem.run] at h
  split at h
  · simp only [Result.ok.injEq] at h; exact h.2.symm
  · split at h
    · simp only [Result.ok.injEq] at h; exact h.2.symm
    · cases h
/-- an expression that never answers -/
theorem mono_never {e : Sem α} (h0 : ∀ w, ∃ o w', e.run P w = .halt o w') : Mono P e := mono_of_eq fun w x w' h => by
  obtain ⟨o, w1, h1⟩ := h0 w; rw [h1] at h; cases h
theorem mono_boundsPanic (k : IntKind) (x y : Int) (c : BoundsCode) : Mono P (boundsPanic k x y c : Sem α) :=
  mono_never fun w => let ⟨_, _, h⟩ := run_boundsPanic (α := α) (P := P) (w := w) k x y c; ⟨_, _, h⟩
theorem mono_runtimeError (m : String) : Mono P (runtimePanic (.error m) : Sem α) := mono_bind mono_program fun _ => mono_goPanic _
theorem mono_nilDeref : Mono P (runtimePanic .nilDeref : Sem α) := mono_bind mono_program fun _ => mono_goPanic _
theorem mono_unhashable (t : TypeId) : Mono P (runtimePanic (.unhashable t) : Sem α) := mono_bind mono_program fun _ => mono_goPanic _
theorem mono_typeInfo (t : TypeId) : Mono P (typeInfo t) := mono_bind mono_program fun p => by
  split
  · exact mono_pure _
  · exact mono_stuck _
theorem mono_underlying (t : TypeId) : Mono P (underlying t) := mono_bind mono_program fun p => by
  split
  · exact mono_pure _
  · exact mono_stuck _
theorem mono_sizeOf (t : TypeId) : Mono P (sizeOf t) := mono_bind (mono_typeInfo t) fun _ => mono_pure _
theorem mono_isAgg (t : TypeId) : Mono P (isAgg t) := mono_bind (mono_underlying t) fun d => by
  split <;> exact mono_pure _
theorem mono_loadCellsFrom (a : Addr) : ∀ (n i : Nat) (acc : Array Value), Mono P (loadCellsFrom a i n acc)
  | 0, _, _ => mono_pure _
  | n + 1, _, _ => mono_bind (mono_load _ _) fun _ => mono_loadCellsFrom a n _ _
theorem mono_loadVar (t : TypeId) (a : Addr) : Mono P (loadVar t a) := mono_bind (mono_isAgg t) fun b => by
  cases b
  · exact mono_load _ _
  · exact mono_bind (mono_sizeOf t) fun _ => mono_bind (mono_loadCellsFrom _ _ _ _) fun _ => mono_pure _
theorem mono_asIntOf (v : Value) : Mono P (asIntOf v) := by
  unfold asIntOf; split
  · exact mono_pure _
  · exact mono_unsupported _
  · exact mono_stuck _
theorem mono_asBool (v : Value) : Mono P (asBool v) := by
  unfold asBool; split
  · exact mono_pure _
  · exact mono_stuck _
theorem mono_asAgg (v : Value) : Mono P (asAgg v) := by
  unfold asAgg; split
  · exact mono_pure _
  · exact mono_stuck _
theorem mono_asAddr (v : Value) : Mono P (asAddr v) := by
  unfold asAddr; split
  · exact mono_pure _
  · exact mono_nilDeref
  · exact mono_stuck _
theorem mono_sureAddr (v : Value) : Mono P (Instr.sureAddr v) := by
  unfold Instr.sureAddr; split
  · exact mono_pure _
  · exact mono_stuck _
theorem mono_loadAt (t : TypeId) (v : Value) : Mono P (Instr.loadAt t v) := mono_bind (mono_sureAddr v) fun _ => mono_loadVar _ _
theorem mono_part (t : TypeId) (cs : Array Value) (off : Nat) : Mono P (part t cs off) := mono_bind (mono_isAgg t) fun b => by
  cases b
  · simp only [Bool.false_eq_true, if_false]
    split
    · exact mono_pure _
    · exact mono_stuck _
  · exact mono_bind (mono_sizeOf t) fun _ => mono_pure _
theorem mono_field (t : TypeId) (v : Value) (f : Nat) : Mono P (Instr.field t v f) := mono_bind (mono_underlying t) fun d => by
  split
  · split
    · exact mono_bind (mono_asAgg v) fun _ => mono_part _ _ _
    · exact mono_stuck _
  · exact mono_stuck _
theorem mono_index (t : TypeId) (x i : Value) : Mono P (Instr.index t x i) := mono_bind (mono_asIntOf i) fun ki => mono_bind (mono_underlying t) fun d => by
  split
  · split
    · exact mono_bind (mono_sizeOf _) fun _ => mono_part _ _ _
    · exact mono_boundsPanic _ _ _ _
  · split
    · exact mono_pure _
    · exact mono_boundsPanic _ _ _ _
  · exact mono_stuck _
theorem mono_extract (t : Value) (i : Nat) : Mono P (Instr.extract t i) := by
  unfold Instr.extract; split
  · split
    · exact mono_pure _
    · exact mono_stuck _
  · exact mono_stuck _
theorem mono_sliceBound (x : Value) (y : Nat) (c : BoundsCode) : Mono P (Instr.sliceBound x y c) := mono_bind (mono_asIntOf x) fun ki => by
  dsimp only; split
  · exact mono_pure _
  · exact mono_boundsPanic _ _ _ _
theorem mono_sliceBounds (b : Bool) (len cap : Nat) (lo hi mx : Option Value) : Mono P (Instr.sliceBounds b len cap lo hi mx) := by
  unfold Instr.sliceBounds
  cases mx <;> cases hi <;> cases lo <;> dsimp only <;> repeat' (first | exact mono_pure _ | exact mono_sliceBound _ _ _ | exact mono_stuck _ | refine mono_bind ?_ (fun _ => ?_))
theorem mono_slice (t : TypeId) (x : Value) (lo hi mx : Option Value) : Mono P (Instr.slice t x lo hi mx) := by
  unfold Instr.slice
  refine mono_bind (mono_underlying t) fun d => ?_
  repeat' (first | split | exact mono_pure _ | exact mono_sliceBounds _ _ _ _ _ _ | exact mono_sizeOf _ | exact mono_asAddr _ | exact mono_underlying _ | exact mono_stuck _ | refine mono_bind ?_ (fun _ => ?_))
theorem mono_sliceAt (t : TypeId) (x : Value) (lo hi mx : Option Value) : Mono P (Instr.sliceAt t x lo hi mx) := mono_bind (mono_underlying t) fun d => by
  split
  · exact mono_bind (mono_sureAddr _) fun _ => mono_bind (mono_sliceBounds _ _ _ _ _ _) fun _ => mono_bind (mono_sizeOf _) fun _ => mono_pure _
  · exact mono_slice _ _ _ _ _
theorem mono_viewAt (r : Nat) : Mono P (viewAt r) := by
  unfold viewAt
  refine mono_bind (mono_shape r) fun _ => ?_
  repeat' (first | split | exact mono_pure _ | exact mono_getObj _ | refine mono_bind ?_ (fun _ => ?_))
theorem mono_numberAt (r : Nat) : Mono P (numberAt r) := by
  unfold numberAt
  refine mono_bind (mono_shape r) fun _ => ?_
  repeat' (first | split | exact mono_pure _ | exact mono_getObj _ | refine mono_bind ?_ (fun _ => ?_))
theorem mono_behindNumber (a : Addr) : Mono P (behindNumber a) := mono_bind (mono_numberAt _) fun _ => mono_pure _
theorem mono_noView (a : Addr) : Mono P (noView a) := by
  unfold noView
  refine mono_bind (mono_viewAt _) fun _ => ?_
  repeat' (first | split | exact mono_pure _ | exact mono_unsupported _)
theorem mono_byteOf (a : Addr) : Mono P (byteOf a) := by
  unfold byteOf
  repeat' (first | split | dsimp only | exact mono_pure _ | exact mono_program | exact mono_noView _ | exact mono_shape _ | exact mono_stuck _ | refine mono_bind ?_ (fun _ => ?_))
theorem mono_unsafeAdd (ts : Array TypeId) (t : TypeId) (x y : Value) : Mono P (Builtin.unsafeAdd_ ts t #[x, y]) := by
  unfold Builtin.unsafeAdd_
  cases x <;> dsimp only <;> repeat' (first | split | dsimp only | exact mono_pure _ | exact mono_program | exact mono_viewAt _ | exact mono_shape _ | exact mono_stuck _ | exact mono_unsupported _ | exact mono_asIntOf _ | refine mono_bind ?_ (fun _ => ?_))
theorem mono_movedNumber (t : TypeId) (x y : Value) : Mono P (movedNumber t x y) := by
  unfold movedNumber
  repeat' (first | split | exact mono_pure _ | exact mono_underlying _ | exact mono_unsafeAdd _ _ _ _ | exact mono_behindNumber _ | exact mono_newObj _ | exact mono_unsupported _ | refine mono_bind ?_ (fun _ => ?_))
theorem mono_movedPointer (t : TypeId) (x y : Value) : Mono P (movedPointer t x y) := by
  unfold movedPointer
  repeat' (first | split | exact mono_pure _ | exact mono_numberAt _ | exact mono_unsafeAdd _ _ _ _ | exact mono_unsupported _ | refine mono_bind ?_ (fun _ => ?_))
theorem mono_forIn_list {γ : Type} {σ : Type} {f : γ → σ → Sem (ForInStep σ)} (hf : ∀ a b, Mono P (f a b)) : ∀ (l : List γ) (b : σ), Mono P (forIn l b f)
  | [], _ => mono_pure _
  | a :: l, b => by
    rw [List.forIn_cons]
    refine mono_bind (hf a b) fun r => ?_
    cases r
    · exact mono_pure _
    · exact mono_forIn_list hf l _
theorem mono_forIn_array {γ : Type} {σ : Type} {f : γ → σ → Sem (ForInStep σ)} (hf : ∀ a b, Mono P (f a b)) (l : Array γ) (b : σ) : Mono P (forIn l b f) := by
  rw [← Array.forIn_toList]; exact mono_forIn_list hf _ _
theorem mono_forIn_range {σ : Type} {f : Nat → σ → Sem (ForInStep σ)} (hf : ∀ a b, Mono P (f a b)) (l : Std.Legacy.Range) (b : σ) : Mono P (forIn l b f) := by
  rw [Std.Legacy.Range.forIn_eq_forIn_range']; exact mono_forIn_list hf _ _
theorem mono_stringish (a : Addr) : Mono P (stringish a) := by
  unfold stringish
  repeat' (first | split | dsimp only | exact mono_pure _ | exact mono_frozen _ | exact mono_shape _ | refine mono_bind ?_ (fun _ => ?_))
theorem mono_mayBeOne (a b : Addr) : Mono P (mayBeOne a b) := by
  unfold mayBeOne
  dsimp only
  repeat' (first | split | exact mono_pure _ | exact mono_stringish _ | exact mono_shape _ | refine mono_bind ?_ (fun _ => ?_))
theorem mono_sameAddr (a b : Addr) : Mono P (sameAddr a b) := by
  unfold sameAddr
  repeat' (first | split | dsimp only | exact mono_pure _ | exact mono_frozen _ | exact mono_noView _ | exact mono_mayBeOne _ _ | exact mono_choose _ | exact mono_unsupported _ | refine mono_bind ?_ (fun _ => ?_))
theorem mono_samePointer (a b : Option Addr) : Mono P (samePointer a b) := by
  unfold samePointer
  split
  · exact mono_sameAddr _ _
  · exact mono_pure _
theorem mono_typeStr (t : TypeId) : Mono P (typeStr t) := by
  unfold typeStr
  repeat' (first | split | dsimp only | exact mono_pure _ | exact mono_typeInfo _ | exact mono_unsupported _ | refine mono_bind ?_ (fun _ => ?_))
theorem mono_equalIn : ∀ (d : Nat) (t : TypeId) (x y : Value), Mono P (Op.equalIn d t x y)
  | 0, _, _, _ => mono_unsupported _
  | d + 1, t, x, y => by
    have ih := mono_equalIn d
    unfold Op.equalIn
    refine mono_bind (mono_underlying t) fun ty => ?_
    split
    all_goals repeat' (first | exact mono_pure _ | exact mono_stuck _ | exact mono_unsupported _ | exact mono_runtimeError _ | exact mono_program | exact mono_behindNumber _ | exact mono_byteOf _ | exact mono_typeInfo _ | exact mono_sizeOf _ | exact mono_sameAddr _ _ | exact mono_samePointer _ _ | exact mono_choose _ | exact mono_part _ _ _ | exact mono_typeStr _ | exact ih _ _ _ | split | dsimp only | refine mono_forIn_array (fun _ _ => ?_) _ _ | refine mono_forIn_range (fun _ _ => ?_) _ _ | refine mono_bind ?_ (fun _ => ?_))
theorem mono_eqGuardIn : ∀ (d : Nat) (t : TypeId) (x y : Value), Mono P (Op.eqGuardIn d t x y)
  | 0, _, _, _ => mono_unsupported _
  | d + 1, t, x, y => by
    have ih := mono_eqGuardIn d
    unfold Op.eqGuardIn
    refine mono_bind (mono_underlying t) fun ty => ?_
    split
    all_goals repeat' (first | exact mono_pure _ | exact mono_sizeOf _ | exact mono_part _ _ _ | exact ih _ _ _ | split | dsimp only | refine mono_forIn_array (fun _ _ => ?_) _ _ | refine mono_forIn_range (fun _ _ => ?_) _ _ | refine mono_bind ?_ (fun _ => ?_))
theorem mono_eqGuard (op : BinOp) (t : TypeId) (x y : Operand) (a b : Value) : Mono P (eqGuard op t x y a b) := by
  unfold eqGuard
  repeat' (first | split | dsimp only | exact mono_pure _ | exact mono_program | exact mono_eqGuardIn _ _ _ _ | exact mono_unsupported _ | refine mono_bind ?_ (fun _ => ?_))
theorem mono_floatArith (op : BinOp) (k : FloatKind) (x y : Nat) : Mono P (Op.floatArith op k x y) := by
  unfold Op.floatArith
  repeat' (first | exact mono_pure _ | exact mono_stuck _ | exact mono_choose _ | split | dsimp only | refine mono_bind ?_ (fun _ => ?_))
theorem mono_floatCmp (op : BinOp) (k : FloatKind) (x y : Nat) : Mono P (Op.floatCmp op k x y) := by
  unfold Op.floatCmp
  repeat' (first | exact mono_pure _ | exact mono_stuck _ | split | dsimp only)
theorem mono_arith (op : BinOp) (k : FloatKind) (x y : Nat) : Mono P (Op.Complex.arith op k x y) := by
  unfold Op.Complex.arith
  repeat' (first | exact mono_pure _ | exact mono_stuck _ | exact mono_floatArith _ _ _ _ | split | dsimp only | refine mono_bind ?_ (fun _ => ?_))
theorem mono_cmp (op : BinOp) (k : FloatKind) (x y : Nat) : Mono P (Op.Complex.cmp op k x y) := mono_bind (mono_floatCmp _ _ _ _) fun _ => mono_asBool _
theorem mono_convF (a : FloatKind) (x : Nat) (b : FloatKind) : Mono P (Conv.floatToFloat a x b) := by
  unfold Conv.floatToFloat
  repeat' (first | exact mono_pure _ | exact mono_stuck _ | exact mono_choose _ | split | dsimp only | refine mono_bind ?_ (fun _ => ?_))
theorem mono_conv (a : FloatKind) (x : Nat) (b : FloatKind) : Mono P (Op.Complex.conv a x b) := by
  unfold Op.Complex.conv
  repeat' (first | exact mono_pure _ | exact mono_stuck _ | exact mono_convF _ _ _ | split | dsimp only | refine mono_bind ?_ (fun _ => ?_))
theorem mono_product (a b c d : Nat) : Mono P (Op.Complex.product a b c d) := by
  unfold Op.Complex.product
  repeat' (first | exact mono_pure _ | exact mono_arith _ _ _ _ | refine mono_bind ?_ (fun _ => ?_))
theorem mono_complexOp (op : BinOp) (hq : op ≠ .quo) (k : FloatKind) (a b c d : Nat) : Mono P (Op.complexOp op k a b c d) := by
  cases op
  case quo => exact absurd rfl hq
  case add => exact mono_bind (mono_arith _ _ _ _) fun _ => mono_bind (mono_arith _ _ _ _) fun _ => mono_pure _
  case sub => exact mono_bind (mono_arith _ _ _ _) fun _ => mono_bind (mono_arith _ _ _ _) fun _ => mono_pure _
  case mul => exact mono_bind (mono_conv _ _ _) fun _ => mono_bind (mono_conv _ _ _) fun _ => mono_bind (mono_conv _ _ _) fun _ => mono_bind (mono_conv _ _ _) fun _ => mono_bind (mono_product _ _ _ _) fun _ => mono_bind (mono_conv _ _ _) fun _ => mono_bind (mono_conv _ _ _) fun _ => mono_pure _
  case eql => exact mono_bind (mono_cmp _ _ _ _) fun x => by cases x <;> first | exact mono_pure _ | exact mono_bind (mono_cmp _ _ _ _) fun _ => mono_pure _
  case neq => exact mono_bind (mono_cmp _ _ _ _) fun x => by cases x <;> first | exact mono_pure _ | exact mono_bind (mono_cmp _ _ _ _) fun _ => mono_pure _
  all_goals exact mono_stuck _
theorem mono_shift (op : BinOp) (k : IntKind) (x : Int) (k2 : IntKind) (y : Int) : Mono P (Op.shift op k x k2 y) := by
  unfold Op.shift
  repeat' (first | exact mono_pure _ | exact mono_stuck _ | exact mono_runtimeError _ | split | dsimp only)
theorem mono_intArith (op : BinOp) (k : IntKind) (x y : Int) : Mono P (Op.intArith op k x y) := by
  unfold Op.intArith; split <;> first | exact mono_pure _ | exact mono_stuck _
theorem mono_intDiv (op : BinOp) (k : IntKind) (x y : Int) : Mono P (Op.intDiv op k x y) := by
  unfold Op.intDiv
  repeat' (first | exact mono_pure _ | exact mono_stuck _ | exact mono_runtimeError _ | split)
theorem mono_intBits (op : BinOp) (k : IntKind) (x y : Int) : Mono P (Op.intBits op k x y) := by
  unfold Op.intBits; dsimp only; split <;> first | exact mono_pure _ | exact mono_stuck _
theorem mono_intCmp (op : BinOp) (x y : Int) : Mono P (Op.intCmp op x y) := by
  unfold Op.intCmp; split <;> first | exact mono_pure _ | exact mono_stuck _
theorem mono_stringOp (op : BinOp) (x y : ByteArray) : Mono P (Op.stringOp op x y) := by
  unfold Op.stringOp
  repeat' (first | exact mono_pure _ | exact mono_stuck _ | exact mono_unsupported _ | split | dsimp only)
theorem mono_addrSub (k : IntKind) (a b : Addr) : Mono P (Op.addrSub k a b) := by
  unfold Op.addrSub Op.twoPlaces
  repeat' (first | exact mono_pure _ | exact mono_program | exact mono_unsupported _ | exact mono_byteOf _ | split | dsimp only | refine mono_bind ?_ (fun _ => ?_))
theorem mono_addrCmp (op : BinOp) (a b : Addr) : Mono P (Op.addrCmp op a b) := by
  unfold Op.addrCmp Op.twoPlaces
  repeat' (first | exact mono_pure _ | exact mono_program | exact mono_unsupported _ | exact mono_byteOf _ | split | dsimp only | refine mono_bind ?_ (fun _ => ?_))
theorem mono_addrMod (k : IntKind) (a : Addr) (n : Int) : Mono P (Op.addrMod k a n) := by
  unfold Op.addrMod
  repeat' (first | exact mono_pure _ | exact mono_shape _ | exact mono_typeInfo _ | exact mono_unsupported _ | exact mono_byteOf _ | split | dsimp only | refine mono_bind ?_ (fun _ => ?_))
theorem mono_binOp (op : BinOp) (hq : op ≠ .quo) (t : TypeId) (x y : Value) : Mono P (binOp op t x y) := by
  unfold binOp
  split
  all_goals repeat' (first | exact mono_pure _ | exact mono_stuck _ | exact mono_unsupported _ | exact mono_shift _ _ _ _ _ | exact mono_intArith _ _ _ _ | exact mono_intDiv _ _ _ _ | exact mono_intBits _ _ _ _ | exact mono_intCmp _ _ _ | exact mono_floatArith _ _ _ _ | exact mono_floatCmp _ _ _ _ | exact mono_complexOp _ hq _ _ _ _ _ | exact mono_stringOp _ _ _ | exact mono_equalIn _ _ _ _ | exact mono_underlying _ | exact mono_movedPointer _ _ _ | exact mono_movedNumber _ _ _ | exact mono_behindNumber _ | exact mono_addrSub _ _ _ | exact mono_addrCmp _ _ _ | exact mono_addrMod _ _ _ | split | refine mono_bind ?_ (fun _ => ?_))
theorem mono_unary (op : UnOp) (x : Value) : Mono P (Op.unary op x) := by
  unfold Op.unary
  split <;> first | exact mono_pure _ | exact mono_stuck _ | exact mono_unsupported _ | exact mono_intArith _ _ _ _ | exact mono_intBits _ _ _ _
theorem mono_fieldPlace (a : Addr) (f : Field) : Mono P (fieldPlace a f) := by
  unfold fieldPlace
  repeat' (first | exact mono_pure _ | exact mono_stuck _ | exact mono_unsupported _ | exact mono_program | exact mono_shape _ | exact mono_sizeOf _ | exact mono_typeInfo _ | exact mono_byteOf _ | exact mono_viewAt _ | split | dsimp only | refine mono_bind ?_ (fun _ => ?_))
theorem mono_fieldAt (t : TypeId) (x : Value) (f : Nat) : Mono P (Instr.fieldAt t x f) := by
  unfold Instr.fieldAt
  repeat' (first | exact mono_pure _ | exact mono_stuck _ | exact mono_underlying _ | exact mono_sureAddr _ | exact mono_fieldPlace _ _ | split | dsimp only | refine mono_bind ?_ (fun _ => ?_))
theorem mono_indexAt (t : TypeId) (x i : Value) : Mono P (Instr.indexAt t x i) := by
  unfold Instr.indexAt
  repeat' (first | exact mono_pure _ | exact mono_stuck _ | exact mono_unsupported _ | exact mono_asIntOf _ | exact mono_underlying _ | exact mono_sizeOf _ | exact mono_sureAddr _ | exact mono_boundsPanic _ _ _ _ | split | dsimp only | refine mono_bind ?_ (fun _ => ?_))
theorem mono_makeInterface (t : TypeId) (x : Value) : Mono P (Instr.makeInterface t x) := by
  unfold Instr.makeInterface
  repeat' (first | exact mono_pure _ | exact mono_stuck _ | exact mono_underlying _ | split | refine mono_bind ?_ (fun _ => ?_))
theorem mono_len (ts : Array TypeId) (t : TypeId) (xs : Array Value) : Mono P (Builtin.len_ ts t xs) := by
  unfold Builtin.len_
  repeat' (first | exact mono_pure _ | exact mono_stuck _ | exact mono_underlying _ | exact mono_getObj _ | split | dsimp only | refine mono_bind ?_ (fun _ => ?_))
theorem mono_cap (ts : Array TypeId) (t : TypeId) (xs : Array Value) : Mono P (Builtin.cap_ ts t xs) := by
  unfold Builtin.cap_
  repeat' (first | exact mono_pure _ | exact mono_stuck _ | exact mono_underlying _ | exact mono_getObj _ | split | dsimp only | refine mono_bind ?_ (fun _ => ?_))
theorem mono_foldlM {f : Value → Value → Sem Value} (hf : ∀ a b, Mono P (f a b)) : ∀ (l : List Value) (b : Value), Mono P (l.foldlM f b)
  | [], _ => mono_pure _
  | a :: l, b => by rw [List.foldlM_cons]; exact mono_bind (hf b a) fun _ => mono_foldlM hf l _
theorem mono_max (ts : Array TypeId) (t : TypeId) (xs : Array Value) : Mono P (Builtin.max_ ts t xs) := by
  unfold Builtin.max_
  split
  · exact mono_stuck _
  · refine mono_foldlM (fun a b => ?_) _ _
    unfold Builtin.max2
    repeat' (first | exact mono_pure _ | exact mono_stuck _ | exact mono_unsupported _ | exact mono_choose _ | exact mono_stringOp _ _ _ | exact mono_asBool _ | split | refine mono_bind ?_ (fun _ => ?_))
theorem mono_min (ts : Array TypeId) (t : TypeId) (xs : Array Value) : Mono P (Builtin.min_ ts t xs) := by
  unfold Builtin.min_
  split
  · exact mono_stuck _
  · refine mono_foldlM (fun a b => ?_) _ _
    unfold Builtin.min2
    repeat' (first | exact mono_pure _ | exact mono_stuck _ | exact mono_unsupported _ | exact mono_choose _ | exact mono_stringOp _ _ _ | exact mono_asBool _ | split | refine mono_bind ?_ (fun _ => ?_))
theorem mono_zeroValue (t : TypeId) : Mono P (zeroValue t) := by
  unfold zeroValue
  repeat' (first | exact mono_pure _ | exact mono_unsupported _ | exact mono_typeInfo _ | split | refine mono_bind ?_ (fun _ => ?_))
theorem mono_floatToInt (a : FloatKind) (b : Nat) (k : IntKind) : Mono P (Conv.floatToInt a b k) := by
  unfold Conv.floatToInt
  repeat' (first | exact mono_pure _ | exact mono_choose _ | split | dsimp only | refine mono_bind ?_ (fun _ => ?_))
theorem mono_convInt {src dst : TypeId} {k k' : IntKind} (h1 : P.underlying src = some (.int k)) (h2 : P.underlying dst = some (.int k')) (x : Value) : Mono P (convert src dst x) := by
  intro w r w' h
  unfold convert at h
  simp only [Sem.run_bind, run_underlying h1, run_underlying h2, Result.andThen] at h
  cases x
  case int => exact (mono_pure _ : Mono P _) w r w' h
  case float => exact mono_floatToInt _ _ _ w r w' h
  case pointer a => cases a <;> exact mono_unsupported _ w r w' h
  all_goals exact mono_unsupported _ w r w' h
theorem mono_followBlind : ∀ (l : List FieldStep) (t : TypeId) (x : Option Value), Mono P (followBlind l t x)
  | [], _, _ => mono_pure _
  | st :: l, t, x => by
    have ih := mono_followBlind l
    unfold followBlind
    repeat' (first | exact mono_pure _ | exact mono_stuck _ | exact mono_underlying _ | exact mono_field _ _ _ | exact mono_part _ _ _ | exact mono_asAgg _ | exact ih _ _ | split | dsimp only | refine mono_bind ?_ (fun _ => ?_))
theorem mono_nilAhead : ∀ (n : Nat) (t : TypeId) (v : Value) (m : String), Mono P (nilAhead n t v m)
  | 0, _, _, _ => mono_pure _
  | n + 1, t, v, m => by
    have ih := mono_nilAhead n
    unfold nilAhead
    repeat' (first | exact mono_pure _ | exact mono_stuck _ | exact mono_typeInfo _ | exact mono_underlying _ | exact mono_followBlind _ _ _ | exact ih _ _ _ | split | dsimp only | refine mono_bind ?_ (fun _ => ?_))
theorem mono_checkKey (b : Bool) : ∀ (n : Nat) (t : TypeId) (v : Value), Mono P (Instr.checkKey b n t v)
  | 0, _, _ => mono_unsupported _
  | n + 1, t, v => by
    have ih := mono_checkKey b n
    unfold Instr.checkKey
    refine mono_bind (mono_underlying t) fun ty => ?_
    split
    all_goals repeat' (first | exact mono_pure _ | exact mono_stuck _ | exact mono_typeInfo _ | exact mono_sizeOf _ | exact mono_part _ _ _ | exact mono_typeStr _ | exact mono_runtimeError _ | exact mono_unhashable _ | exact ih _ _ | split | dsimp only | refine mono_forIn_array (fun _ _ => ?_) _ _ | refine mono_forIn_range (fun _ _ => ?_) _ _ | refine mono_bind ?_ (fun _ => ?_))
theorem mono_findAsking (t : TypeId) (k : Value) : ∀ (l : List MapEntry) (i : Nat), Mono P (Instr.findAsking t k l i)
  | [], _ => mono_pure _
  | e :: l, i => by
    unfold Instr.findAsking
    refine mono_bind (mono_equalIn _ _ _ _) fun b => ?_
    cases b
    · exact mono_findAsking t k l _
    · exact mono_pure _
theorem mono_lookup (t : TypeId) (x i : Value) (b : Bool) : Mono P (Instr.lookup t x i b) := by
  unfold Instr.lookup Instr.findKey
  repeat' (first | exact mono_pure _ | exact mono_stuck _ | exact mono_underlying _ | exact mono_getObj _ | exact mono_checkKey _ _ _ _ | exact mono_findAsking _ _ _ _ | exact mono_zeroValue _ | split | dsimp only | refine mono_bind ?_ (fun _ => ?_))
/-- what a step of a region answers -/
def Val (P : Program) (e : Sem Next) : Prop := ∀ w x w', e.run P w = .ok x w' → (∃ v, x = .value v) ∧ (w' = w ∨ w.heap.size + w.drawn < w'.heap.size + w'.drawn)
theorem val_of {e : Sem Value} (h : Mono P e) : Val P (do pure (.value (← e))) := fun w x w' hr => by
  rw [Sem.run_bind] at hr
  cases h1 : e.run P w with
  | ok a w1 =>
    rw [h1] at hr
    simp only [Result.andThen, Sem.run_pure, Result.ok.injEq] at hr
    obtain ⟨rfl, rfl⟩ := hr
    exact ⟨⟨_, rfl⟩, h _ _ _ h1⟩
  | halt o w1 => rw [h1] at hr; cases hr
theorem val_pure (v : Value) : Val P (pure (.value v)) := fun w x w' h => by
  simp only [Sem.run_pure, Result.ok.injEq] at h
  exact ⟨⟨_, h.1.symm⟩, .inl h.2.symm⟩
theorem val_halt (o : Halt) : Val P (.halt o) := fun w x w' h => by simp [Sem.run] at h
theorem val_nilDeref : Val P (runtimePanic .nilDeref) := fun w x w' h => by simp [runtimePanic, goPanic, program, Sem.run] at h
theorem val_bind {e : Sem α} {f : α → Next} (h : Mono P e) (hf : ∀ a, ∃ v, f a = .value v) : Val P (do pure (f (← e))) := fun w x w' hr => by
  rw [Sem.run_bind] at hr
  cases h1 : e.run P w with
  | ok a w1 =>
    rw [h1] at hr
    simp only [Result.andThen, Sem.run_pure, Result.ok.injEq] at hr
    obtain ⟨rfl, rfl⟩ := hr
    exact ⟨hf a, h _ _ _ h1⟩
  | halt o w1 => rw [h1] at hr; cases hr
theorem val_then {e : Sem α} {f : α → Sem Next} (h : Mono P e) (hf : ∀ a, Val P (f a)) : Val P (e >>= f) := fun w x w' hr => by
  rw [Sem.run_bind] at hr
  cases h1 : e.run P w with
  | ok a w1 =>
    rw [h1] at hr
    obtain ⟨h2, h3⟩ := hf a w1 x w' hr
    refine ⟨h2, ?_⟩
    rcases h3 with h3 | h3 <;> rcases h _ _ _ h1 with h4 | h4
    · exact .inl (h3.trans h4)
    · rw [h3]; exact .inr h4
    · rw [h4] at h3; exact .inr h3
    · exact .inr (by omega)
  | halt o w1 => rw [h1] at hr; cases hr
/-- an operation that reads -/
def ro (P : Program) (o : Oper) : Bool :=
  match o.op with
  | .move _ | .assign _ | .pick _ _ _ | .load _ _ | .unOp _ _ _ | .fieldAddr _ _ _ | .field _ _ _ | .indexAddr _ _ _ | .index _ _ _ | .slice _ _ _ _ _ | .extract _ _ | .makeInterface _ _ | .nilCheck _ | .lookup _ _ _ _ => true
  | .binOp op _ _ _ _ => op != .quo
  | .convert s d _ => (match P.underlying s with | some (.int _) => true | _ => false) && (match P.underlying d with | some (.int _) => true | _ => false)
  | .call { callee := .builtin b, .. } => match b with | .len | .cap | .max | .min => true | _ => false
  | _ => false
theorem ro_val {o : Oper} (h : ro P o = true) (ρ : Operand → Value) : Val P (execOp ρ o) := by
  unfold ro at h
  unfold execOp
  split at h
  all_goals (try rename_i hop; rw [hop]; dsimp only)
  · exact val_pure _
  · exact val_pure _
  · exact val_bind (mono_asBool _) fun _ => ⟨_, rfl⟩
  · exact val_of (mono_loadAt _ _)
  · exact val_of (mono_unary _ _)
  · exact val_of (mono_fieldAt _ _ _)
  · exact val_of (mono_field _ _ _)
  · exact val_of (mono_indexAt _ _ _)
  · exact val_of (mono_index _ _ _)
  · exact val_of (mono_sliceAt _ _ _ _ _)
  · exact val_of (mono_extract _ _)
  · exact val_of (mono_makeInterface _ _)
  · split
    · exact val_nilDeref
    · exact val_nilDeref
    · exact val_nilDeref
    · split
      · exact val_nilDeref
      · refine val_then mono_program fun p => val_then (mono_nilAhead _ _ _ _) fun r => ?_
        split
        · exact val_then (mono_unsupported _) fun _ => val_pure _
        · exact val_pure _
      · exact val_pure _
    · exact val_pure _
  · exact val_of (mono_lookup _ _ _ _)
  · exact val_of (mono_bind (mono_eqGuard _ _ _ _ _ _) fun _ => mono_binOp _ (by simpa using h) _ _ _)
  · rename_i s d x
    rw [Bool.and_eq_true] at h
    cases h1 : P.underlying s with
    | none => rw [h1] at h; simp at h
    | some d1 =>
      cases h2 : P.underlying d with
      | none => rw [h2] at h; simp at h
      | some d2 =>
        rw [h1, h2] at h
        cases d1 <;> try (simp at h; done)
        cases d2 <;> try (simp at h; done)
        exact val_of (mono_convInt h1 h2 _)
  · rename_i b args ats
    cases b <;> try (simp at h; done)
    · exact val_of (mono_cap _ _ _)
    · exact val_of (mono_len _ _ _)
    · exact val_of (mono_max _ _ _)
    · exact val_of (mono_min _ _ _)
  · cases h
/-- the end of a region: there, and nowhere else -/
def Only (K : Act → World → Prop) : Exit → Act → World → Prop
  | .normal, a, w => K a w
  | _, _, _ => False
@[go_sem] theorem only_normal (K : Act → World → Prop) (a : Act) (w : World) : Only K .normal a w = K a w := rfl
theorem still_of_list {ops : Array Oper} {w : World} {K : Act → Prop} : ∀ (l : List Oper) (a : Act) (w1 : World), l.all (ro P) = true → (w1 = w ∨ w.heap.size + w.drawn < w1.heap.size + w1.drawn) →
    wpList P ops (Only fun a' w' => w' = w ∧ K a') l a w1 → w1 = w ∧ wpStill P ops w K l a
  | [], a, w1, _, _, h => h
  | o :: l, a, w1, hro, hw, h => by
    rw [List.all_cons, Bool.and_eq_true] at hro
    unfold wpList at h
    unfold wpStill
    split at h
    · rename_i hwant
      rw [if_pos hwant]
      rcases h with h | ⟨_, _, _, h⟩
      · unfold Oper.wp at h
        unfold Oper.still
        cases hr : (execOp a.eval o).run P w1 with
        | ok x w2 =>
          obtain ⟨⟨v, rfl⟩, h2⟩ := ro_val hro.1 a.eval w1 x w2 hr
          rw [hr] at h
          have h3 := still_of_list l (a.put o.dst v) w2 hro.2 (by rcases h2 with h2 | h2 <;> rcases hw with hw | hw <;> first | (subst h2; subst hw; exact .inl rfl) | (right; subst h2; exact hw) | (right; subst hw; exact h2) | (right; omega)) h
          have e1 : w1 = w := by
            rcases h2 with h2 | h2
            · rw [← h2]; exact h3.1
            · rw [h3.1] at h2
              rcases hw with hw | hw
              · exact hw
              · omega
          subst e1
          refine ⟨rfl, ?_⟩
          rw [hr]
          exact ⟨h3.1, h3.2⟩
        | halt x w2 => rw [hr] at h; cases x <;> exact h.elim
      · exact h.elim
    · rename_i hwant
      rw [if_neg hwant]
      exact still_of_list l _ w1 hro.2 hw h
/-- A region that draws its order and only reads, walked once in the order of the text: behind it the world has drawn once. -/
theorem wp_region_ro {id : Nat} {l : List Oper} {Q : Exit → Act → World → Prop} {a : Act} {w : World} (hm : P.follows .mixedOrders = true) (hB : Region.lexB .any l.toArray = true) (hro : l.all (ro P) = true)
    (h : wpList P l.toArray (Only fun a' w' => w' = w.drew ∧ Q .normal a' w.drew) l a w.drew) : (Code.region id l.toArray true).wp P Q a w :=
  wp_region_still_lit hm hB (still_of_list l a w.drew hro (.inl rfl) h).2
end
end Go.Proofs.YtlgagbglldehjaaDoor.Ro
