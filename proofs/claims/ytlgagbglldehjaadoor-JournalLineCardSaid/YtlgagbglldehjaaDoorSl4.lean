/- journal.Line: kind 4 (7: none). -/
import Derived.Test.YtlgagbglldehjaaDoorSl
namespace Go.Proofs.YtlgagbglldehjaaDoor
set_option linter.unusedVariables false
set_option linter.unusedSimpArgs false
open Go Go.RowKit Pj J1
namespace St
set_option maxHeartbeats 4000000 in
set_option maxRecDepth 100000 in
theorem Line4 (clock ticks : Nat) (kind : Int) (name hold dest : ByteArray) (hc : clock < 18446744073709551616) (ht : ticks < 18446744073709551616) (hn : name.size ≤ 35184372088832) (hh : hold.size ≤ 9223372036854775807) (hto : dest.size ≤ 9223372036854775807) (w : World) (hT : Tabs w) (hk : Hid (kind = 4)) :
    Calls Tryd.prog 8 #[.agg #[.int .u64 clock, .int .i64 kind, .string name, .string hold, .string dest, .int .u64 ticks]] w fun e w' => e = .returned (lineV (lineOf clock kind (bs name) (bs hold) (bs dest) ticks (quoteS name))) ∧ Ext w w' := by
  have hb := blk_new w (.cells #[.int .u64 clock, .int .i64 kind, .string name, .string hold, .string dest, .int .u64 ticks] 27)
  generalize hw0 : w.alloc (.cells #[.int .u64 clock, .int .i64 kind, .string name, .string hold, .string dest, .int .u64 ticks] 27) = w0 at hb
  have hx0 : Ext w w0 := by subst hw0; exact (But.refl _ w).alloc _
  have hc0 : ∀ d os, (Sort.grow (redrawn w0 d) os).cell? ⟨w.heap.size, 0, none⟩ = some (.int .u64 clock) := fun d os => cell_regrown ((blk_cell hb).trans rfl) d os
  have hc1 : ∀ d os, (Sort.grow (redrawn w0 d) os).cell? ⟨w.heap.size, 1, none⟩ = some (.int .i64 kind) := fun d os => cell_regrown ((blk_cell hb).trans rfl) d os
  have hlc : (Lib.decDigits clock).length ≤ 20 := decDigits_le clock hc
  have hlw : (wordS kind).length ≤ 8 := by unfold wordS; repeat (split; · simp)
                                           simp
  have hb1 : ¬ 9223372036854775807 < (Lib.decDigits clock).length + 1 := by omega
  have hb2 : ¬ 9223372036854775807 < (Lib.decDigits clock).length + 1 + (wordS kind).length := by omega
  have hb3 : ¬ 9223372036854775807 < (Lib.decDigits clock).length + 1 + (wordS kind).length + 1 := by omega
  go_enter Tryd.func8, Tryd.ntmps8
  go_wp2_with fail
  try rw [hw0]
  refine wp_region_quiet_below (by kernel_rfl) (by kernel_rfl) ?_
  repeat (first
    | go_big_quiet_skip
    | (go_big_quiet_want
       go_big_quiet_op
       first
         | go_big_quiet_on
         | (apply Exists.intro
            refine ⟨fun _ => ?_, ?_⟩
            · first
                | (go_at_call 15; exact quiet_ext (FormatUint_c clock hc _ (hT.ext (hx0.trans (ext_grow _ _)))))
                | (go_at_call 16; exact quiet_ext ((word_c kind _).mono fun e w' he => ⟨he.1, he.2 ▸ But.refl _ _⟩))
            go_big_quiet_on)))
  refine wpQuiet_nil ?_
  intro w1 hw1
  obtain ⟨pr, hw1⟩ := hw1
  have hx01 : Ext w0 w1 := hw1 ▸ ext_grow _ _
  have hx1 := hx0.trans hx01
  clear hw1 hw0 hc0 hc1
  have A : Six w1 w.heap.size 27 (.int .u64 clock) (.int .i64 kind) (.string name) (.string hold) (.string dest) (.int .u64 ticks) := But.heap hx01 hb id
  have hlt : w.heap.size < w1.heap.size := blk_lt A
  clear hb
  have a0 := A.c0
  have a1 := A.c1
  have a2 := A.c2
  have a3 := A.c3
  have a4 := A.c4
  have a5 := A.c5
  have hlt2 : w1.heap.size < w.heap.size → False := fun h => by omega
  have hq := quoteS_len name
  have hk := hk.out
  obtain rfl := hk
  have hlt3 := decDigits_le ticks ht
  all_goals go_wp2_with (first
    | (go_at_call 15
       refine (FormatUint_c ticks ht _ (hT.ext (hx1.alloc _))).mono ?_
       rintro e w3 ⟨rfl, hx3⟩
       have D3 : Six w3 w1.heap.size 27 (.int .u64 0) (.int .i64 0) (.string name) (.string hold) (.string dest) (.int .u64 ticks) := Six.ext (blk_new _ _) hx3
       have A3 := Six.ext (blk_alloc A _) hx3
       have hx3' : Ext w w3 := (hx1.alloc _).trans hx3
       obtain ⟨p0, p1, p2, p3, p4, p5, -⟩ := A3.all
       obtain ⟨q0, q1, q2, q3, q4, q5, f2, f3, f4, f5⟩ := D3.all)
    | (go_at_call 17
       refine (ValidString_c name _ (by omega) (hT.ext (hx1.alloc _))).mono ?_
       rintro e w3 ⟨rfl, hx3⟩
       have D3 : Six w3 w1.heap.size 27 (.int .u64 0) (.int .i64 0) (.string name) (.string hold) (.string dest) (.int .u64 ticks) := Six.ext (blk_new _ _) hx3
       have A3 := Six.ext (blk_alloc A _) hx3
       have hx3' : Ext w w3 := (hx1.alloc _).trans hx3
       obtain ⟨p0, p1, p2, p3, p4, p5, -⟩ := A3.all
       obtain ⟨q0, q1, q2, q3, q4, q5, f2, f3, f4, f5⟩ := D3.all)
    | (go_at_call 18
       refine (quoted_c name _ hn (hT.ext hx3')).mono ?_
       rintro e w4 ⟨rfl, hx4⟩
       have D4 := Six.ext D3 hx4
       have A4 := Six.ext A3 hx4
       have hx4' : Ext w w4 := hx3'.trans hx4
       obtain ⟨p0, p1, p2, p3, p4, p5, -⟩ := A4.all
       obtain ⟨q0, q1, q2, q3, q4, q5, f2, f3, f4, f5⟩ := D4.all)
    | (go_at_call 19
       refine (holder_c _ _ (by first | exact hh | exact hto)).mono ?_
       rintro e w5 ⟨rfl, rfl⟩)
    | (go_at_call 16
       refine (word_c _ _).mono ?_
       rintro e w5 ⟨rfl, rfl⟩))
  all_goals try (exfalso; omega)
  all_goals try (exfalso; have hz1 : (!holderB (bs hold)) = false := by assumption
                 have hz2 := holderB_size (s := hold) (by simpa using hz1)
                 first
                   | omega
                   | (have hz3 : (!holderB (bs dest)) = false := by assumption
                      have hz4 := holderB_size (s := dest) (by simpa using hz3)
                      omega))
  all_goals go_ret2
  all_goals (clear hb1 hb2 hb3 hlc hlw hlt3)
  all_goals refine ⟨?_, by first | with_reducible exact hx1.alloc _ | with_reducible exact hx3' | with_reducible exact hx4' | with_reducible exact hx3'.setCell hlt2 _ | with_reducible exact hx4'.setCell hlt2 _ | with_reducible exact (hx4'.setCell hlt2 _).setCell hlt2 _ | with_reducible exact ((hx4'.setCell hlt2 _).setCell hlt2 _).setCell hlt2 _⟩
  all_goals clear hT A hx0 hx01 hx1
  all_goals (first
    | (refine congrArg Ending.returned ?_
       rw [show lineOf clock 4 (bs name) (bs hold) (bs dest) ticks (quoteS name) = none from by simp_all [lineOf, bs_toList]]
       rfl)
    | (refine congrArg Ending.returned ?_
       rw [show lineOf clock 4 (bs name) (bs hold) (bs dest) ticks (quoteS name) = some (Lib.decDigits clock ++ 32 :: wordS 4 ++ 32 :: quoteS name) from by simp_all [lineOf, bs_toList]]
       refine lineV_some ?_
       simp [bs, ByteArray.toList_data_append]))
end St
end Go.Proofs.YtlgagbglldehjaaDoor
