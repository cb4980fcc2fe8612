/- A few bytes laid and read as a text: the walks' rules. -/
import Derived.Test.YtlgagbglldehjaaDoorBase
import Derived.Test.YtlgagbglldehjaaDoorRows
import Derived.Lib.SlBytesRow
namespace Go.Proofs.YtlgagbglldehjaaDoor
set_option linter.unusedVariables false
set_option linter.unusedSimpArgs false
open Go Go.RowKit
namespace Cv
theorem conv1 (W : World) (g : Nat) (c : UInt8) (h : W.cell? ⟨g, 0, none⟩ = some (.int .u8 c.toNat)) : (convert 61 9 (.slice (some ⟨g, 0, none⟩) 1 1)).run Tryd.prog W = .ok (.string ⟨#[c]⟩) W := by
  refine Lib.run_convert_whole (P := Tryd.prog) W 61 5 9 Tryd.underlying61 Tryd.underlying5 Tryd.underlying9 g 0 ⟨#[c]⟩ (fun i hi => ?_) 1
  have hi' : i < 1 := hi
  obtain rfl : i = 0 := by omega
  exact h
theorem conv3 (W : World) (g : Nat) (a b c : UInt8) (h0 : W.cell? ⟨g, 0, none⟩ = some (.int .u8 a.toNat)) (h1 : W.cell? ⟨g, 1, none⟩ = some (.int .u8 b.toNat)) (h2 : W.cell? ⟨g, 2, none⟩ = some (.int .u8 c.toNat)) : (convert 61 9 (.slice (some ⟨g, 0, none⟩) 3 3)).run Tryd.prog W = .ok (.string ⟨#[a, b, c]⟩) W := by
  refine Lib.run_convert_whole (P := Tryd.prog) W 61 5 9 Tryd.underlying61 Tryd.underlying5 Tryd.underlying9 g 0 ⟨#[a, b, c]⟩ (fun i hi => ?_) 3
  have hi' : i < 3 := hi
  rcases (by omega : i = 0 ∨ i = 1 ∨ i = 2) with rfl | rfl | rfl
  · exact h0
  · exact h1
  · exact h2
theorem kc1 (c : UInt8) (w : World) (g : Nat) (hg : g = w.heap.size) : (convert 61 9 (.slice (some ⟨g, 0, none⟩) 1 1)).run Tryd.prog (w.alloc (.cells #[.int .u8 c.toNat] 5)) = .ok (.string ⟨#[c]⟩) (w.alloc (.cells #[.int .u8 c.toNat] 5)) := by
  subst hg; exact conv1 _ _ c (by simp)
theorem kc1d (c : UInt8) (w : World) (g : Nat) (hg : g = w.heap.size) : (convert 61 9 (.slice (some ⟨g, 0, none⟩) 1 1)).run Tryd.prog (w.alloc (.cells #[.int .u8 c.toNat] 5)).drew = .ok (.string ⟨#[c]⟩) (w.alloc (.cells #[.int .u8 c.toNat] 5)).drew := by
  subst hg; exact conv1 _ _ c (by simp)
theorem kc3 (a b c : UInt8) (x y z : Int) (hx : x = a.toNat) (hy : y = b.toNat) (hz : z = c.toNat) (w : World) (g : Nat) (hg : g = w.heap.size) : (convert 61 9 (.slice (some ⟨g, 0, none⟩) 3 3)).run Tryd.prog (w.alloc (.cells #[.int .u8 x, .int .u8 y, .int .u8 z] 5)) = .ok (.string ⟨#[a, b, c]⟩) (w.alloc (.cells #[.int .u8 x, .int .u8 y, .int .u8 z] 5)) := by
  subst hg hx hy hz; exact conv3 _ _ a b c (by simp) (by simp) (by simp)
theorem kc3d (a b c : UInt8) (x y z : Int) (hx : x = a.toNat) (hy : y = b.toNat) (hz : z = c.toNat) (w : World) (g : Nat) (hg : g = w.heap.size) : (convert 61 9 (.slice (some ⟨g, 0, none⟩) 3 3)).run Tryd.prog (w.alloc (.cells #[.int .u8 x, .int .u8 y, .int .u8 z] 5)).drew = .ok (.string ⟨#[a, b, c]⟩) (w.alloc (.cells #[.int .u8 x, .int .u8 y, .int .u8 z] 5)).drew := by
  subst hg hx hy hz; exact conv3 _ _ a b c (by simp) (by simp) (by simp)
end Cv
end Go.Proofs.YtlgagbglldehjaaDoor
