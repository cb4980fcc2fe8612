/- strconv.FormatInt in base 16, journal.spelled. -/
import Derived.Test.YtlgagbglldehjaaDoorSx
namespace Go.Proofs.YtlgagbglldehjaaDoor
set_option linter.unusedVariables false
set_option linter.unusedSimpArgs false
open Go Go.RowKit
namespace St
set_option maxHeartbeats 400000 in
theorem FormatInt_in (u : Nat) (hu : u < 256) (w : World) (hT : Tabs w) :
    Calls Tryd.prog 71 #[.int .i64 u, .int .i64 16] w fun e w' => e = .returned (.string ⟨(hexS u).toArray⟩) ∧ Ext w w' := by
  go_enter Tryd.func71, Tryd.ntmps71
  go_wp2_with (go_at_call 56; refine (formatBits_c u hu _ hT).mono ?_; rintro e w1 ⟨rfl, hx⟩)
  go_ret
  exact ⟨rfl, hx⟩
set_option maxHeartbeats 400000 in
theorem FormatInt_c (u : Nat) (hu : u < 256) (w : World) (hT : Tabs w) :
    Calls Tryd.prog 58 #[.int .i64 u, .int .i64 16] w fun e w' => e = .returned (.string ⟨(hexS u).toArray⟩) ∧ Ext w w' := by
  go_enter Tryd.func58, Tryd.ntmps58
  go_wp2_with (go_at_call 71; refine (FormatInt_in u hu _ hT).mono ?_; rintro e w1 ⟨rfl, hx⟩)
  go_ret
  exact ⟨rfl, hx⟩
theorem spell_len (u : Nat) : (spell u).length ≤ 4 := by
  unfold spell hexS; split <;> simp
set_option maxHeartbeats 400000 in
theorem spelled_c (u : Nat) (hu : u < 256) (w : World) (hT : Tabs w) :
    Calls Tryd.prog 34 #[.int .i32 u] w fun e w' => e = .returned (.string ⟨(spell u).toArray⟩) ∧ Ext w w' := by
  have hl : (hexS u).length ≤ 2 := by unfold hexS; split <;> simp
  have hb1 : ¬ 9223372036854775807 < 1 + (hexS u).length := by omega
  have hb2 : ¬ 9223372036854775807 < 1 + (hexS u).length + 1 := by omega
  go_enter Tryd.func34, Tryd.ntmps34
  go_wp2_with (go_at_call 58; refine (FormatInt_c u hu _ hT).mono ?_; rintro e w1 ⟨rfl, hx⟩)
  go_ret
  refine ⟨ret_string (bs_ext ?_), hx⟩
  simp [bs, spell, ByteArray.toList_data_append]
end St
end Go.Proofs.YtlgagbglldehjaaDoor
