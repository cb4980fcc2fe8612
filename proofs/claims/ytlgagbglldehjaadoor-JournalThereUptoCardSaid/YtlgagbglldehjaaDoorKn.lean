/- guiselaw22.known. -/
import Derived.Test.YtlgagbglldehjaaDoorRd
import Derived.Test.YtlgagbglldehjaaDoorSlz
namespace Go.Proofs.YtlgagbglldehjaaDoor
set_option linter.unusedVariables false
set_option linter.unusedSimpArgs false
open Go Go.RowKit Pj J1 St Es Rf Rp
namespace Kn
theorem known_line : lineV (lineOf 0 1 (bs ⟨#[97, 32, 98]⟩) (bs ⟨#[112]⟩) (bs ⟨#[]⟩) 0 (quoteS ⟨#[97, 32, 98]⟩)) = .tuple #[.string ⟨#[48, 32, 114, 101, 103, 105, 115, 116, 101, 114, 32, 97, 92, 50, 48, 59, 98, 32, 98, 121, 32, 112]⟩, .int .i64 0] := by
  have h : lineOf 0 1 (bs ⟨#[97, 32, 98]⟩) (bs ⟨#[112]⟩) (bs ⟨#[]⟩) 0 (quoteS ⟨#[97, 32, 98]⟩) = some [48, 32, 114, 101, 103, 105, 115, 116, 101, 114, 32, 97, 92, 50, 48, 59, 98, 32, 98, 121, 32, 112] := by decide +kernel
  rw [h]; rfl
theorem known_read : Rr.outV (readP (bs ⟨#[55, 32, 116, 105, 99, 107, 32, 49, 48]⟩)) = .tuple #[.agg #[.int .u64 7, .int .i64 6, .string ⟨#[]⟩, .string ⟨#[]⟩, .string ⟨#[]⟩, .int .u64 10], .int .i64 0, .int .i64 0] := by
  have h : readP (bs ⟨#[55, 32, 116, 105, 99, 107, 32, 49, 48]⟩) = (some ⟨7, 6, [], [], [], 10⟩, 0) := by kernel_rfl
  rw [h]; rfl
set_option maxHeartbeats 1000000 in
set_option maxRecDepth 100000 in
theorem known_c (w : World) (hT : Tabs w) :
    Calls Tryd.prog 11 #[] w fun e w' => e = .returned (.bool true) ∧ Ext w w' := by
  go_enter Tryd.func11, Tryd.ntmps11
  go_wp2_with (first
    | (go_at_call 8
       refine (Line_c 0 0 1 ⟨#[97, 32, 98]⟩ ⟨#[112]⟩ ⟨#[]⟩ (by decide) (by decide) (by decide) (by decide) (by decide) w hT).mono ?_
       rw [known_line]
       rintro e w1 ⟨rfl, hx1⟩)
    | (go_at_call 12
       refine (Rr.Read_c ⟨#[55, 32, 116, 105, 99, 107, 32, 49, 48]⟩ w1 (by decide) (hT.ext hx1)).mono ?_
       rw [known_read]
       rintro e w2 ⟨rfl, hx2⟩))
  go_ret
  exact ⟨rfl, ((hx1.trans hx2).alloc _)⟩
end Kn
end Go.Proofs.YtlgagbglldehjaaDoor
