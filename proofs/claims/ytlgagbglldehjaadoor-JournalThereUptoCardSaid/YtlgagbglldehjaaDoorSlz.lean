/- journal.Line: every entry. -/
import Derived.Test.YtlgagbglldehjaaDoorSl1
import Derived.Test.YtlgagbglldehjaaDoorSl2
import Derived.Test.YtlgagbglldehjaaDoorSl3
import Derived.Test.YtlgagbglldehjaaDoorSl4
import Derived.Test.YtlgagbglldehjaaDoorSl5
import Derived.Test.YtlgagbglldehjaaDoorSl6
import Derived.Test.YtlgagbglldehjaaDoorSl7
namespace Go.Proofs.YtlgagbglldehjaaDoor
open Go Go.RowKit Pj J1
namespace St
theorem Line_c (clock ticks : Nat) (kind : Int) (name hold dest : ByteArray) (hc : clock < 18446744073709551616) (ht : ticks < 18446744073709551616) (hn : name.size ≤ 35184372088832) (hh : hold.size ≤ 9223372036854775807) (hto : dest.size ≤ 9223372036854775807) (w : World) (hT : Tabs w) :
    Calls Tryd.prog 8 #[.agg #[.int .u64 clock, .int .i64 kind, .string name, .string hold, .string dest, .int .u64 ticks]] w fun e w' => e = .returned (lineV (lineOf clock kind (bs name) (bs hold) (bs dest) ticks (quoteS name))) ∧ Ext w w' := by
  by_cases h1 : kind = 1
  · exact Line1 clock ticks kind name hold dest hc ht hn hh hto w hT h1
  by_cases h2 : kind = 2
  · exact Line2 clock ticks kind name hold dest hc ht hn hh hto w hT h2
  by_cases h3 : kind = 3
  · exact Line3 clock ticks kind name hold dest hc ht hn hh hto w hT h3
  by_cases h4 : kind = 4
  · exact Line4 clock ticks kind name hold dest hc ht hn hh hto w hT h4
  by_cases h5 : kind = 5
  · exact Line5 clock ticks kind name hold dest hc ht hn hh hto w hT h5
  by_cases h6 : kind = 6
  · exact Line6 clock ticks kind name hold dest hc ht hn hh hto w hT h6
  exact Line7 clock ticks kind name hold dest hc ht hn hh hto w hT ⟨h1, h2, h3, h4, h5, h6⟩
end St
end Go.Proofs.YtlgagbglldehjaaDoor
