/- journal.Read: every line. -/
import Derived.Test.YtlgagbglldehjaaDoorRd0
import Derived.Test.YtlgagbglldehjaaDoorRd1
import Derived.Test.YtlgagbglldehjaaDoorRd2
import Derived.Test.YtlgagbglldehjaaDoorRd3
import Derived.Test.YtlgagbglldehjaaDoorRd4
import Derived.Test.YtlgagbglldehjaaDoorRd5
import Derived.Test.YtlgagbglldehjaaDoorRd6
namespace Go.Proofs.YtlgagbglldehjaaDoor
open Go Go.RowKit Pj J1 St Es Rf Rp
namespace Rr
theorem Read_c (s : ByteArray) (w : World) (hm : s.size + 4 ≤ 140737488355328) (hT : Tabs w) :
    Calls Tryd.prog 12 #[.string s] w fun e w' => e = .returned (outV (readP (bs s))) ∧ Ext w w' := by
  cases hb : (kOf (bs s)).2.2
  · have hlt : (kOf (bs s)).1 < 6 := oneB_lt _ _ _
    have h : ∀ K, (kOf (bs s)).1 = K → Hid ((kOf (bs s)).2.2 = false ∧ (kOf (bs s)).1 = K) := fun K e => ⟨hb, e⟩
    rcases (by omega : (kOf (bs s)).1 = 0 ∨ (kOf (bs s)).1 = 1 ∨ (kOf (bs s)).1 = 2 ∨ (kOf (bs s)).1 = 3 ∨ (kOf (bs s)).1 = 4 ∨ (kOf (bs s)).1 = 5) with e | e | e | e | e | e
    · exact Read0 s w hm hT (h _ e)
    · exact Read1 s w hm hT (h _ e)
    · exact Read2 s w hm hT (h _ e)
    · exact Read3 s w hm hT (h _ e)
    · exact Read4 s w hm hT (h _ e)
    · exact Read5 s w hm hT (h _ e)
  · exact Read6 s w hm hT hb
end Rr
end Go.Proofs.YtlgagbglldehjaaDoor
