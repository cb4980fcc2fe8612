/- guiselaw22.JournalStops: its walk. -/
import Derived.Test.YtlgagbglldehjaaDoorKn
namespace Go.Proofs.YtlgagbglldehjaaDoor
set_option linter.unusedVariables false
set_option linter.unusedSimpArgs false
open Go Go.RowKit Pj J1 St Es Rf Rp Rr Kn
namespace Sp
theorem outV_some (e : Ent) (p : Nat) : outV (some e, p) = .tuple #[.agg #[.int .u64 e.clock, .int .i64 e.kind, .string ⟨e.name.toArray⟩, .string ⟨e.hold.toArray⟩, .string ⟨e.dest.toArray⟩, .int .u64 e.ticks], .int .i64 0, .int .i64 0] := rfl
theorem outV_none (p : Nat) : outV (none, p) = .tuple #[.agg #[.int .u64 0, .int .i64 0, .string ⟨#[]⟩, .string ⟨#[]⟩, .string ⟨#[]⟩, .int .u64 0], .int .i64 p, .int .i64 80] := rfl
theorem cut_bs (s t : ByteArray) (k : Nat) : bs (s.extract 0 k ++ t) = (bs s).take k ++ bs t := by
  rw [show bs (s.extract 0 k ++ t) = bs (s.extract 0 k) ++ bs t from by simp [bs, ByteArray.toList_data_append], bs_extract]; simp

set_option maxHeartbeats 1000000 in
set_option maxRecDepth 100000 in
theorem Stops_c (line tail : ByteArray) (w : World) (hs : line.size ≤ 1048576) (ht : tail.size ≤ 1048576) (hT : Tabs w)
    (hp : ∀ p, readP (bs line) = (none, p) → p ≤ line.size ∧ (p < line.size → readP ((bs line).take (p + 1) ++ bs tail) = (none, p) ∧ ((∃ e, readP ((bs line).take p) = (some e, 0)) ∨ readP ((bs line).take p) = (none, p)))) :
    Calls Tryd.prog 6 #[.string line, .string tail] w fun e w' => e = .returned (.bool true) ∧ Ext w w' := by
  have hread := Read_c line w (by omega) hT
  rcases hr : readP (bs line) with ⟨o, p⟩
  rw [hr] at hread
  cases o with
  | some e =>
    rw [outV_some] at hread
    have HR := Lib.hid hread
    clear hread hp hr
    go_enter Tryd.func6, Tryd.ntmps6
    go_wp2_with (first
      | (go_at_call 12; refine HR.out.mono ?_; rintro e w1 ⟨rfl, hx1⟩)
      | (go_at_call 11; refine (known_c _ (hT.ext (hx1.alloc _))).mono ?_; rintro e w2 ⟨rfl, hx2⟩))
    go_ret
    exact ⟨rfl, (hx1.alloc _).trans hx2⟩
  | none =>
    rw [outV_none] at hread
    have HR := Lib.hid hread
    obtain ⟨hp1, hp2⟩ := hp p hr
    clear hread hp hr
    by_cases hlt : p < line.size
    · obtain ⟨h1, h2⟩ := hp2 hlt
      have hne : ((p : Int) == (line.size : Int)) = false := by simp; omega
      have hex : (line.extract 0 (p + 1)).size = p + 1 := by simp; omega
      have hex2 : (line.extract 0 p).size = p := by simp; omega
      have hread2 := fun W hW => Read_c (line.extract 0 (p + 1) ++ tail) W (by rw [ByteArray.size_append, hex]; omega) hW
      have hread3 := fun W hW => Read_c (line.extract 0 p) W (by rw [hex2]; omega) hW
      rw [cut_bs, h1, outV_none] at hread2
      rw [bs_extract, List.drop_zero, Nat.sub_zero] at hread3
      have HR2 := Lib.hid hread2
      have hb1 : ¬ 9223372036854775807 < p + 1 + tail.size := by omega
      clear hread2 hp2 h1
      rcases h2 with ⟨e, h2⟩ | h2
      · rw [h2, outV_some] at hread3
        have HR3 := Lib.hid hread3
        clear hread3 h2 hex hex2
        go_enter Tryd.func6, Tryd.ntmps6
        go_wp2_with fail
        go_at_call 12
        refine HR.out.mono ?_
        rintro e1 w1 ⟨rfl, hx1⟩
        clear HR
        go_wp2_with fail
        go_at_call 12
        refine (HR2.out _ (hT.ext (hx1.alloc _))).mono ?_
        rintro e2 w2 ⟨rfl, hx2⟩
        have hx12 := (hx1.alloc _).trans hx2
        clear HR2 hx1 hx2
        go_wp2_with fail
        go_at_call 12
        refine (HR3.out _ (hT.ext (hx12.alloc _))).mono ?_
        rintro e3 w3 ⟨rfl, hx3⟩
        have hx13 := (hx12.alloc _).trans hx3
        clear HR3 hx12 hx3
        go_wp2_with fail
        go_at_call 11
        refine (known_c _ (hT.ext (hx13.alloc _))).mono ?_
        rintro e4 w4 ⟨rfl, hx4⟩
        go_wp2
        go_ret
        exact ⟨rfl, (hx13.alloc _).trans hx4⟩
      · rw [h2, outV_none] at hread3
        have HR3 := Lib.hid hread3
        clear hread3 h2 hex hex2
        go_enter Tryd.func6, Tryd.ntmps6
        go_wp2_with fail
        go_at_call 12
        refine HR.out.mono ?_
        rintro e1 w1 ⟨rfl, hx1⟩
        clear HR
        go_wp2_with fail
        go_at_call 12
        refine (HR2.out _ (hT.ext (hx1.alloc _))).mono ?_
        rintro e2 w2 ⟨rfl, hx2⟩
        have hx12 := (hx1.alloc _).trans hx2
        clear HR2 hx1 hx2
        go_wp2_with fail
        go_at_call 12
        refine (HR3.out _ (hT.ext (hx12.alloc _))).mono ?_
        rintro e3 w3 ⟨rfl, hx3⟩
        have hx13 := (hx12.alloc _).trans hx3
        clear HR3 hx12 hx3
        go_wp2_with fail
        go_at_call 11
        refine (known_c _ (hT.ext (hx13.alloc _))).mono ?_
        rintro e4 w4 ⟨rfl, hx4⟩
        go_wp2
        go_ret
        exact ⟨rfl, (hx13.alloc _).trans hx4⟩
    · obtain rfl : p = line.size := by omega
      clear hp2 hlt hp1
      go_enter Tryd.func6, Tryd.ntmps6
      go_wp2_with (first
        | (go_at_call 12; refine HR.out.mono ?_; rintro e w1 ⟨rfl, hx1⟩)
        | (go_at_call 11; refine (known_c _ (hT.ext (hx1.alloc _))).mono ?_; rintro e w2 ⟨rfl, hx2⟩))
      go_ret
      exact ⟨rfl, (hx1.alloc _).trans hx2⟩
end Sp
end Go.Proofs.YtlgagbglldehjaaDoor
