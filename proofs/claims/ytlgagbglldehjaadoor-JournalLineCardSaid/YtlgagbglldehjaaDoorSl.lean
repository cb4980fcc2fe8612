/- journal.Line. -/
import Derived.Test.YtlgagbglldehjaaDoorSq
import Derived.Test.YtlgagbglldehjaaDoorJ2
import Derived.BigQuiet
import Derived.Lib.QuietBelow
import Derived.Lib.ItoaLen
namespace Go.Proofs.YtlgagbglldehjaaDoor
set_option linter.unusedVariables false
set_option linter.unusedSimpArgs false
open Go Go.RowKit Pj J1
namespace St
theorem ext_grow {w : World} (d : Nat) (os : Array Obj) : Ext w (Sort.grow (redrawn w d) os) := But.of_below (below_regrown w d os)
theorem regrown_of_ext {w w' : World} (h : Ext w w') : ∃ p : Regrown, w' = Sort.grow (redrawn w p.d) p.os :=
  regrown_of_below (h.below (Nat.le_refl _) fun _ _ h => h)
/-- a callee that only makes things, met after others of its kind -/
theorem quiet_ext {P : Program} {f : FuncId} {args : Array Value} {w : World} {d : Nat} {os : Array Obj} {v : Value}
    (h : Calls P f args (Sort.grow (redrawn w d) os) fun e w' => e = .returned v ∧ Ext (Sort.grow (redrawn w d) os) w') : Calls P f args (Sort.grow (redrawn w d) os) fun e w'' => e = .returned v ∧ ∃ p : Regrown, w'' = Sort.grow (redrawn w p.d) p.os :=
  h.mono fun _ _ ⟨he, hb⟩ => ⟨he, regrown_of_ext ((ext_grow d os).trans hb)⟩
theorem ValidString_c (s : ByteArray) (w : World) (hs : s.size ≤ 9223372036854775807) (hT : Tabs w) :
    Calls Tryd.prog 17 #[.string s] w fun e w' => e = .returned (.bool (Lib.validD (bs s))) ∧ Ext w w' :=
  (Tryd.utf8_ValidString s w hs hT.u8).mono fun _ _ ⟨he, hb⟩ => ⟨he, But.of_below hb⟩

theorem decDigits_le (u : Nat) (h : u < 18446744073709551616) : (Lib.decDigits u).length ≤ 20 := by
  rw [Lib.decDigits_length]; exact Lib.nDigits_le20 u h

theorem holderB_size {s : ByteArray} (h : holderB (bs s) = true) : s.size ≤ 32 := by
  simp only [holderB, Bool.and_eq_true, decide_eq_true_eq] at h
  rw [← bs_len]; exact h.2
/-- a block of six cells -/
def Six (W : World) (b : Nat) (t : TypeId) (v0 v1 v2 v3 v4 v5 : Value) : Prop := W.heap[b]? = some (.cells #[v0, v1, v2, v3, v4, v5] t (0, 0))
namespace Six
variable {W W' : World} {b : Nat} {t : TypeId} {v0 v1 v2 v3 v4 v5 : Value}
theorem c0 (h : Six W b t v0 v1 v2 v3 v4 v5) : W.cell? ⟨b, 0, none⟩ = some v0 := (blk_cell h).trans rfl
theorem c1 (h : Six W b t v0 v1 v2 v3 v4 v5) : W.cell? ⟨b, 1, none⟩ = some v1 := (blk_cell h).trans rfl
theorem c2 (h : Six W b t v0 v1 v2 v3 v4 v5) : W.cell? ⟨b, 2, none⟩ = some v2 := (blk_cell h).trans rfl
theorem c3 (h : Six W b t v0 v1 v2 v3 v4 v5) : W.cell? ⟨b, 3, none⟩ = some v3 := (blk_cell h).trans rfl
theorem c4 (h : Six W b t v0 v1 v2 v3 v4 v5) : W.cell? ⟨b, 4, none⟩ = some v4 := (blk_cell h).trans rfl
theorem c5 (h : Six W b t v0 v1 v2 v3 v4 v5) : W.cell? ⟨b, 5, none⟩ = some v5 := (blk_cell h).trans rfl
theorem fz (h : Six W b t v0 v1 v2 v3 v4 v5) (i : Nat) : W.frozen? ⟨b, i, none⟩ = false := blk_frozen h
theorem ext (h : Six W b t v0 v1 v2 v3 v4 v5) (hx : Ext W W') : Six W' b t v0 v1 v2 v3 v4 v5 := But.heap hx h id
theorem all (h : Six W b t v0 v1 v2 v3 v4 v5) : W.cell? ⟨b, 0, none⟩ = some v0 ∧ W.cell? ⟨b, 1, none⟩ = some v1 ∧ W.cell? ⟨b, 2, none⟩ = some v2 ∧ W.cell? ⟨b, 3, none⟩ = some v3 ∧ W.cell? ⟨b, 4, none⟩ = some v4 ∧ W.cell? ⟨b, 5, none⟩ = some v5 ∧ W.frozen? ⟨b, 2, none⟩ = false ∧ W.frozen? ⟨b, 3, none⟩ = false ∧ W.frozen? ⟨b, 4, none⟩ = false ∧ W.frozen? ⟨b, 5, none⟩ = false :=
  ⟨h.c0, h.c1, h.c2, h.c3, h.c4, h.c5, h.fz 2, h.fz 3, h.fz 4, h.fz 5⟩
end Six
theorem quoteFrom_len (s : ByteArray) : ∀ fuel pos, (quoteFrom s fuel pos).length ≤ 4 * fuel
  | 0, _ => by simp [quoteFrom]
  | f + 1, pos => by
    have h1 := quoteR_len (Utf8.decode s pos).1
    have h2 := quoteFrom_len s f (pos + (Utf8.decode s pos).2)
    simp only [quoteFrom]
    split
    · rw [List.length_append]; omega
    · simp
theorem quoteS_len (s : ByteArray) : (quoteS s).length ≤ 4 * s.size := quoteFrom_len s _ _

theorem bs_toList (s : ByteArray) : s.toList = bs s := ByteArray.toList_eq s
def lineV : Option Bs → Value
  | none => .tuple #[.string ⟨#[]⟩, .int .i64 5]
  | some l => .tuple #[.string ⟨l.toArray⟩, .int .i64 0]
theorem lineV_some {s : ByteArray} {l : Bs} (h : bs s = l) : Value.tuple #[.string s, .int .i64 0] = lineV (some l) := by
  subst h; rfl

end St
end Go.Proofs.YtlgagbglldehjaaDoor
