/- journal.broken. -/
import Derived.Test.YtlgagbglldehjaaDoorRf
namespace Go.Proofs.YtlgagbglldehjaaDoor
set_option linter.unusedVariables false
set_option linter.unusedSimpArgs false
open Go Go.RowKit Pj
namespace Rf
theorem bs_take (s : ByteArray) (k : Nat) : bs (s.extract 0 k) = (bs s).take k := by
  rw [bs_extract]; simp

theorem brkL_stop {l : Bs} {k : Nat} (h : ¬ (k < l.length ∧ k < 4 ∧ fullB (l.take k) = false)) (f : Nat) : brkL l f k = k := by
  cases f with
  | zero => rfl
  | succ f => simp only [brkL, h, if_false]
theorem brkL_go {l : Bs} {k : Nat} (h1 : k < l.length) (h2 : k < 4) (h3 : fullB (l.take k) = false) : brkL l (5 - k) k = brkL l (5 - (k + 1)) (k + 1) := by
  rw [show 5 - k = (5 - (k + 1)) + 1 by omega]
  simp only [brkL, h1, h2, h3, and_self, if_true]
theorem brk_full {l : Bs} {k : Nat} (h : brkL l 4 1 = k) (h3 : fullB (l.take k) = true) : brk l = k - 1 := by
  unfold brk; rw [h, h3]; rfl
theorem brk_part {l : Bs} {k : Nat} (h : brkL l 4 1 = k) (h3 : fullB (l.take k) = false) : brk l = k := by
  unfold brk; rw [h, h3]; rfl

set_option maxHeartbeats 1000000 in
set_option maxRecDepth 100000 in
theorem broken_c (s : ByteArray) (w : World) (h1 : 1 ≤ s.size) (hs : s.size ≤ 9223372036854775807) (hT : Tabs w) :
    Calls Tryd.prog 46 #[.string s] w fun e w' => e = .returned (.int .i64 (brk (bs s))) ∧ Ext w w' := by
  go_enter Tryd.func46, Tryd.ntmps46
  go_wp2
  go_loopw [3] (fun n wr => ∃ k : Nat, n = .int .i64 k ∧ 1 ≤ k ∧ k ≤ 4 ∧ k ≤ s.size ∧ Ext w wr ∧ Hid (brkL (bs s) 4 1 = brkL (bs s) (5 - k) k)) (fun n wr => 4 - (intOf n).toNat)
  case atStart => exact ⟨1, rfl, by omega, by omega, h1, But.refl _ _, rfl⟩
  case round =>
    obtain ⟨k, rfl, hk1, hk4, hks, hx, HE⟩ := hrel
    have hsz : (s.extract 0 k).size ≤ 9223372036854775807 := by rw [ByteArray.size_extract]; omega
    have hbt := Lib.hid (bs_take s k)
    have hbl := Lib.hid (bs_len s)
    cases hz : fullB (bs (s.extract 0 k))
    all_goals by_cases hlt : k < s.size
    all_goals by_cases hl4 : k < 4
    all_goals go_wp2_with (go_at_call 63; refine (FullRune_c (s.extract 0 k) _ hsz (hT.ext hx)).mono ?_; rintro e w2 ⟨rfl, hx2⟩; have hx := hx.trans hx2)
    all_goals rw [hbt.out] at hz
    · refine ⟨⟨k + 1, rfl, by omega, by omega, by omega, hx, HE.out.trans (brkL_go (by rw [hbl.out]; exact hlt) hl4 hz)⟩, ?_⟩
      simp only [intOf]; omega
    · go_ret
      rw [brk_part (HE.out.trans (brkL_stop (by omega) _)) hz]
      exact ⟨rfl, hx⟩
    · go_ret
      rw [brk_part (HE.out.trans (brkL_stop (by rw [hbl.out]; omega) _)) hz]
      exact ⟨rfl, hx⟩
    · go_ret
      rw [brk_part (HE.out.trans (brkL_stop (by rw [hbl.out]; omega) _)) hz]
      exact ⟨rfl, hx⟩
    all_goals (go_ret
               rw [brk_full (HE.out.trans (brkL_stop (by simp [hz]) _)) hz]
               exact ⟨ret_int (by omega), hx⟩)
end Rf
end Go.Proofs.YtlgagbglldehjaaDoor
