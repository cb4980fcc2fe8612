/- journal.Line: every entry. -/
import Derived.Test.YtlgagbglldehjaaDoorSl1
import Derived.Test.YtlgagbglldehjaaDoorSl2
import Derived.Test.YtlgagbglldehjaaDoorSl3
import Derived.Test.YtlgagbglldehjaaDoorSl4
import Derived.Test.YtlgagbglldehjaaDoorSl5
import Derived.Test.YtlgagbglldehjaaDoorSl6
import Derived.Test.YtlgagbglldehjaaDoorSl7
import Derived.Test.YtlgagbglldehjaaDoorRd
namespace Go.Proofs.YtlgagbglldehjaaDoor
open Go Go.RowKit Pj J1
namespace St
theorem Line_c (clock ticks : Nat) (kind : Int) (name hold dest : ByteArray) (hc : clock < 18446744073709551616) (ht : ticks < 18446744073709551616) (hn : name.size ≤ 35184372088832) (hh : hold.size ≤ 9223372036854775807) (hto : dest.size ≤ 9223372036854775807) (w : World) (hT : Tabs w) :
    Calls Tryd.prog 8 #[.agg #[.int .u64 clock, .int .i64 kind, .string name, .string hold, .string dest, .int .u64 ticks]] w fun e w' => e = .returned (lineV (lineOf clock kind (bs name) (bs hold) (bs dest) ticks (quoteS name))) ∧ Ext w w' := by
  by_cases h1 : kind = 1
  · exact Line1 clock ticks kind name hold dest hc ht hn hh hto w hT h1
  by_cases h2 : kind = 2
  · exact Line2 clock ticks kind name hold dest hc ht hn hh hto w hT h2
  by_cases h3 : kind = 3
  · exact Line3 clock ticks kind name hold dest hc ht hn hh hto w hT h3
  by_cases h4 : kind = 4
  · exact Line4 clock ticks kind name hold dest hc ht hn hh hto w hT h4
  by_cases h5 : kind = 5
  · exact Line5 clock ticks kind name hold dest hc ht hn hh hto w hT h5
  by_cases h6 : kind = 6
  · exact Line6 clock ticks kind name hold dest hc ht hn hh hto w hT h6
  exact Line7 clock ticks kind name hold dest hc ht hn hh hto w hT ⟨h1, h2, h3, h4, h5, h6⟩
end St
end Go.Proofs.YtlgagbglldehjaaDoor
/- guiselaw22.known. -/
namespace Go.Proofs.YtlgagbglldehjaaDoor
set_option linter.unusedVariables false
set_option linter.unusedSimpArgs false
open Go Go.RowKit Pj J1 St Es Rf Rp
namespace Kn
theorem known_line : lineV (lineOf 0 1 (bs ⟨#[97, 32, 98]⟩) (bs ⟨#[112]⟩) (bs ⟨#[]⟩) 0 (quoteS ⟨#[97, 32, 98]⟩)) = .tuple #[.string ⟨#[48, 32, 114, 101, 103, 105, 115, 116, 101, 114, 32, 97, 92, 50, 48, 59, 98, 32, 98, 121, 32, 112]⟩, .int .i64 0] := by
  have h : lineOf 0 1 (bs ⟨#[97, 32, 98]⟩) (bs ⟨#[112]⟩) (bs ⟨#[]⟩) 0 (quoteS ⟨#[97, 32, 98]⟩) = some [48, 32, 114, 101, 103, 105, 115, 116, 101, 114, 32, 97, 92, 50, 48, 59, 98, 32, 98, 121, 32, 112] := by decide +kernel
  rw [h]; rfl
theorem known_read : Rr.outV (readP (bs ⟨#[55, 32, 116, 105, 99, 107, 32, 49, 48]⟩)) = .tuple #[.agg #[.int .u64 7, .int .i64 6, .string ⟨#[]⟩, .string ⟨#[]⟩, .string ⟨#[]⟩, .int .u64 10], .int .i64 0, .int .i64 0] := by
  have h : readP (bs ⟨#[55, 32, 116, 105, 99, 107, 32, 49, 48]⟩) = (some ⟨7, 6, [], [], [], 10⟩, 0) := by kernel_rfl
  rw [h]; rfl
set_option maxHeartbeats 1000000 in
set_option maxRecDepth 100000 in
theorem known_c (w : World) (hT : Tabs w) :
    Calls Tryd.prog 11 #[] w fun e w' => e = .returned (.bool true) ∧ Ext w w' := by
  go_enter Tryd.func11, Tryd.ntmps11
  go_wp2_with (first
    | (go_at_call 8
       refine (Line_c 0 0 1 ⟨#[97, 32, 98]⟩ ⟨#[112]⟩ ⟨#[]⟩ (by decide) (by decide) (by decide) (by decide) (by decide) w hT).mono ?_
       rw [known_line]
       rintro e w1 ⟨rfl, hx1⟩)
    | (go_at_call 12
       refine (Rr.Read_c ⟨#[55, 32, 116, 105, 99, 107, 32, 49, 48]⟩ w1 (by decide) (hT.ext hx1)).mono ?_
       rw [known_read]
       rintro e w2 ⟨rfl, hx2⟩))
  go_ret
  exact ⟨rfl, ((hx1.trans hx2).alloc _)⟩
end Kn
end Go.Proofs.YtlgagbglldehjaaDoor
