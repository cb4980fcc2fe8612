/- What a call may turn: every block that was there but those of a set stays as it was. Plain lemmas on worlds, texts and lists. -/
import Derived.WalkKit
import Derived.WalkSpells
import Derived.WalkLawsBesides
import Derived.Lib.Hide
import Derived.RangeFuncRecord
namespace Go.Proofs.YtlgagbglldehjaaDoor
set_option linter.unusedVariables false
set_option linter.unusedSimpArgs false
open Go Go.RowKit

/-- of w's blocks only those in S may have turned; there may be new ones -/
structure But (S : Nat → Prop) (w w' : World) : Prop where
  os : w'.os = w.os
  tape : w'.tape = w.tape
  output : w'.output = w.output
  size : w.heap.size ≤ w'.heap.size
  block : ∀ k, k < w.heap.size → ¬ S k → w'.heap[k]? = w.heap[k]?
/-- nothing that was there has turned -/
abbrev Ext (w w' : World) : Prop := But (fun _ => False) w w'
namespace But
variable {S T : Nat → Prop} {a b c : World}
theorem refl (S : Nat → Prop) (w : World) : But S w w := ⟨rfl, rfl, rfl, Nat.le_refl _, fun _ _ _ => rfl⟩
theorem trans (h : But S a b) (k : But S b c) : But S a c :=
  ⟨k.os.trans h.os, k.tape.trans h.tape, k.output.trans h.output, Nat.le_trans h.size k.size, fun i hi hs => (k.block i (Nat.lt_of_lt_of_le hi h.size) hs).trans (h.block i hi hs)⟩
theorem mono (h : But S a b) (hs : ∀ k, k < a.heap.size → S k → T k) : But T a b := ⟨h.os, h.tape, h.output, h.size, fun i hi ht => h.block i hi fun hS => ht (hs i hi hS)⟩
/-- what turned was made since -/
theorem then_new (h : But T a b) (k : But S b c) (hs : ∀ i, i < a.heap.size → S i → T i) : But T a c :=
  ⟨k.os.trans h.os, k.tape.trans h.tape, k.output.trans h.output, Nat.le_trans h.size k.size, fun i hi ht => (k.block i (Nat.lt_of_lt_of_le hi h.size) fun hS => ht (hs i hi hS)).trans (h.block i hi ht)⟩
theorem of_below (h : Below a.heap.size a b) : But S a b := ⟨h.os, h.tape, h.output, h.size, fun i hi _ => h.block i hi⟩
theorem below (h : But S a b) {n : Nat} (hn : n ≤ a.heap.size) (hs : ∀ k, k < n → ¬ S k) : Below n a b := ⟨h.os, h.tape, h.output, h.size, fun i hi => h.block i (Nat.lt_of_lt_of_le hi hn) (hs i hi)⟩
theorem drew (h : But S a b) : But S a b.drew := ⟨h.os, h.tape, h.output, h.size, h.block⟩
theorem drewN (h : But S a b) (n : Nat) : But S a (b.drewN n) := ⟨h.os, h.tape, h.output, h.size, h.block⟩
theorem alloc (h : But S a b) (o : Obj) : But S a (b.alloc o) :=
  h.trans ⟨rfl, rfl, rfl, by simp, fun _ hk _ => Below.heap_alloc _ _ _ hk⟩
theorem setCell (h : But S a b) {p : Addr} (hp : p.block < a.heap.size → S p.block) (u : Value) : But S a (b.setCell p u) :=
  ⟨h.os, h.tape, h.output, by simpa [World.setCell] using h.size, fun k hk hs => (Below.heap_setCell _ _ _ _ (fun e => hs (by subst e; exact hp hk))).trans (h.block k hk hs)⟩
theorem grown {row : Option Nat} (h : But S a b) (hg : b.grownBy c row) (hr : ∀ k, row = some k → k < a.heap.size → S k) : But S a c :=
  ⟨hg.os.trans h.os, hg.tape.trans h.tape, hg.output.trans h.output, Nat.le_trans h.size hg.size, fun k hk hs => (hg.block k (Nat.lt_of_lt_of_le hk h.size) (fun e => hs (hr k e.symm hk))).trans (h.block k hk hs)⟩
theorem heap (h : But S a b) {k : Nat} {o : Obj} (ho : a.heap[k]? = some o) (hs : ¬ S k) : b.heap[k]? = some o := (h.block k (Array.getElem?_eq_some_iff.1 ho).1 hs).trans ho
theorem cell (h : But S a b) {p : Addr} {v : Value} (hc : a.cell? p = some v) (hs : ¬ S p.block) : b.cell? p = some v := by
  have hlt : p.block < a.heap.size := by
    rcases Nat.lt_or_ge p.block a.heap.size with h1 | h1
    · exact h1
    · simp [World.cell?, Array.getElem?_eq_none h1] at hc
  rw [World.cell?_of_block (w := a) (h.block p.block hlt hs)]; exact hc
end But
theorem Ext.of_eq {w w' : World} (h : w = w') : Ext w w' := h ▸ But.refl _ _
theorem Ext.of_drewN {w w' : World} (h : ∃ n, w' = w.drewN n) : Ext w w' := by obtain ⟨n, rfl⟩ := h; exact (But.refl _ _).drewN n

/-- what a builder's writer may turn: the builder, and rows of its bytes' type among the call's own -/
def BS (e : TypeId) (B b : Nat) (w : World) : Nat → Prop := fun k => B ≤ k ∧ (k = b ∨ ∃ c f, w.heap[k]? = some (.cells c e f))
abbrev BK (e : TypeId) (B b : Nat) (w w' : World) : Prop := But (BS e B b w) w w'
theorem BK.trans {e : TypeId} {B b : Nat} {x y z : World} (h : BK e B b x y) (k : BK e B b y z) : BK e B b x z :=
  h.then_new k (by
    rintro i hi ⟨h1, h2⟩
    refine ⟨h1, ?_⟩
    rcases h2 with rfl | ⟨c, f, hc⟩
    · exact .inl rfl
    · by_cases hS : BS e B b x i
      · exact hS.2
      · rw [h.block i hi hS] at hc; exact .inr ⟨c, f, hc⟩)
theorem BK.below {e : TypeId} {B b : Nat} {x y : World} (h : BK e B b x y) (hB : B ≤ x.heap.size) : Below B x y := But.below h hB fun k hk hS => by have := hS.1; omega
theorem BK.ext {e : TypeId} {B b : Nat} {w x y : World} (h : BK e B b x y) (hw : Ext w x) (hB : B = w.heap.size) : Ext w y :=
  hw.then_new h fun i hi hS => by have := hS.1; omega
theorem BK.of_same {e : TypeId} {B b : Nat} {x y : World} (h : Ext x y) : BK e B b x y := But.mono h fun _ _ h => h.elim
/-- another thing of the call's own -/
theorem BK.heap {e : TypeId} {B b : Nat} {x y : World} (h : BK e B b x y) {k : Nat} {o : Obj} (ho : x.heap[k]? = some o) (hk : k ≠ b) (hn : ∀ c f, o ≠ .cells c e f) : y.heap[k]? = some o :=
  But.heap h ho fun hS => by
    rcases hS.2 with h1 | ⟨c, f, hc⟩
    · exact hk h1
    · rw [ho] at hc; exact hn c f (Option.some.inj hc)
theorem blk_cell {w : World} {g i : Nat} {cs : Array Value} {t : TypeId} {fr : Nat × Nat} (h : w.heap[g]? = some (.cells cs t fr)) : w.cell? ⟨g, i, none⟩ = cs[i]? := by
  simp [World.cell?, h]
theorem blk_frozen {w : World} {g i : Nat} {cs : Array Value} {t : TypeId} (h : w.heap[g]? = some (.cells cs t (0, 0))) : w.frozen? ⟨g, i, none⟩ = false := by
  simp [World.frozen?, h]
theorem blk_set {w : World} {g i : Nat} {cs : Array Value} {t : TypeId} {fr : Nat × Nat} (h : w.heap[g]? = some (.cells cs t fr)) (u : Value) :
    (w.setCell ⟨g, i, none⟩ u).heap[g]? = some (.cells (cs.setIfInBounds i u) t fr) := by
  simp [World.setCell, Array.getElem?_modify, h]
theorem blk_other {w : World} {g k i : Nat} {o : Obj} (h : w.heap[k]? = some o) (hne : k ≠ g) (u : Value) : (w.setCell ⟨g, i, none⟩ u).heap[k]? = some o :=
  (Below.heap_setCell _ _ _ _ hne).trans h
theorem blk_alloc {w : World} {k : Nat} {o : Obj} (h : w.heap[k]? = some o) (o' : Obj) : (w.alloc o').heap[k]? = some o :=
  (Below.heap_alloc _ _ _ (Array.getElem?_eq_some_iff.1 h).1).trans h
theorem blk_lt {w : World} {k : Nat} {o : Obj} (h : w.heap[k]? = some o) : k < w.heap.size := (Array.getElem?_eq_some_iff.1 h).1
theorem blk_new (w : World) (o : Obj) : (w.alloc o).heap[w.heap.size]? = some o := World.alloc_heap_new w o

theorem ret_int {k : IntKind} {a b : Int} (h : a = b) : Ending.returned (.int k a) = .returned (.int k b) := by rw [h]
theorem ret_bool {a b : Bool} (h : a = b) : Ending.returned (.bool a) = .returned (.bool b) := by rw [h]
theorem ret_string {a b : ByteArray} (h : a = b) : Ending.returned (.string a) = .returned (.string b) := by rw [h]

/-- a text's bytes -/
abbrev bs (s : ByteArray) : List UInt8 := s.data.toList
theorem bs_len (s : ByteArray) : (bs s).length = s.size := by cases s; rfl
theorem bs_get (s : ByteArray) (k : Nat) (h : k < s.size) : (bs s)[k]'(by rw [bs_len]; exact h) = s[k] := rfl
theorem bs_drop (s : ByteArray) (k : Nat) (h : k < s.size) : (bs s).drop k = s[k] :: (bs s).drop (k + 1) :=
  List.drop_eq_getElem_cons (by rw [bs_len]; exact h)
theorem bs_drop_nil (s : ByteArray) (k : Nat) (h : s.size ≤ k) : (bs s).drop k = [] := List.drop_eq_nil_of_le (by rw [bs_len]; exact h)
theorem bs_extract (s : ByteArray) (i j : Nat) : bs (s.extract i j) = ((bs s).drop i).take (j - i) := by
  simp [bs, ByteArray.data_extract]
theorem bs_rest (s : ByteArray) (i : Nat) : bs (s.extract i s.size) = (bs s).drop i := by
  rw [bs_extract, List.take_of_length_le (by rw [List.length_drop, bs_len]; omega)]
theorem bs_ext {s t : ByteArray} (h : bs s = bs t) : s = t := by
  cases s; cases t; simp only [bs] at h; exact congrArg _ (Array.toList_inj.1 h)
theorem bs_mk (l : List UInt8) : bs ⟨l.toArray⟩ = l := rfl
theorem u8_eq {a b : UInt8} (h : ((a.toNat : Int) == (b.toNat : Int)) = true) : a = b := by
  have h1 := of_decide_eq_true (p := (a.toNat : Int) = b.toNat) (by simpa using h)
  exact UInt8.toNat_inj.1 (by omega)
theorem u8_ne {a b : UInt8} (h : ((a.toNat : Int) == (b.toNat : Int)) = false) : a ≠ b := fun e => by subst e; simp at h
end Go.Proofs.YtlgagbglldehjaaDoor
