/- The library's tables that the walks read, and that nothing turns them. -/
import Derived.Test.YtlgagbglldehjaaDoorBase
import Derived.Test.YtlgagbglldehjaaDoorShelf
import Derived.Lib.LaidTab
import Derived.Lib.LaidU8
namespace Go.Proofs.YtlgagbglldehjaaDoor
set_option linter.unusedVariables false
set_option linter.unusedSimpArgs false
open Go Go.RowKit
def db64 : List Int := [0, 1, 56, 2, 57, 49, 28, 3, 61, 58, 42, 50, 38, 29, 17, 4, 62, 47, 59, 36, 45, 43, 51, 22, 53, 39, 33, 30, 24, 18, 12, 5, 63, 55, 48, 27, 60, 41, 37, 16, 46, 35, 44, 21, 52, 32, 23, 11, 54, 26, 40, 15, 34, 20, 31, 10, 25, 14, 19, 9, 13, 8, 7, 6]
theorem gPow : Tryd.prog.globalNamed "internal/strconv.uint64pow10" = some 2 := by kernel_rfl
theorem gDb : Tryd.prog.globalNamed "math/bits.deBruijn64tab" = some 4 := by kernel_rfl
/-- the library's tables lie as their text lays them -/
structure Tabs (w : World) : Prop where
  ng : Tryd.prog.globals.size ≤ w.heap.size
  pow : Lib.TabIs Tryd.prog w "internal/strconv.uint64pow10" .u64 Lib.pow10Tab
  db : Lib.TabIs Tryd.prog w "math/bits.deBruijn64tab" .u8 db64
  u8 : Lib.Utf8Tabs 0 1 w
theorem g3lt : 2 < Tryd.prog.globals.size := of_decide_eq_true (by kernel_rfl)
theorem g4lt : 4 < Tryd.prog.globals.size := of_decide_eq_true (by kernel_rfl)
theorem g1lt : 0 < Tryd.prog.globals.size := of_decide_eq_true (by kernel_rfl)
theorem g2lt : 1 < Tryd.prog.globals.size := of_decide_eq_true (by kernel_rfl)
theorem Tabs.below {w w' : World} {n : Nat} (h : Tabs w) (hb : Below n w w') (hn : Tryd.prog.globals.size ≤ n) : Tabs w' :=
  ⟨Nat.le_trans h.ng hb.size, var?_below hb gPow (Nat.lt_of_lt_of_le g3lt hn) h.pow, var?_below hb gDb (Nat.lt_of_lt_of_le g4lt hn) h.db,
   ⟨fun c hc => (hb.cell (p := ⟨0, c, none⟩) (Nat.lt_of_lt_of_le g1lt hn)).trans (h.u8.1 c hc),
    fun i hi => ⟨(hb.cell (p := ⟨1, _, none⟩) (Nat.lt_of_lt_of_le g2lt hn)).trans (h.u8.2 i hi).1, (hb.cell (p := ⟨1, _, none⟩) (Nat.lt_of_lt_of_le g2lt hn)).trans (h.u8.2 i hi).2⟩⟩⟩
theorem Tabs.but {S : Nat → Prop} {w w' : World} (h : Tabs w) (hb : But S w w') (hs : ∀ k, k < Tryd.prog.globals.size → ¬ S k) : Tabs w' := h.below (hb.below h.ng hs) (Nat.le_refl _)
theorem Tabs.ext {w w' : World} (h : Tabs w) (hb : Ext w w') : Tabs w' := h.but hb fun _ _ h => h
end Go.Proofs.YtlgagbglldehjaaDoor
