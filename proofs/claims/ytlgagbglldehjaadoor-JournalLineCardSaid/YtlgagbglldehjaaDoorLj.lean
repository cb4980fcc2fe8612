/- guiseref22.Line: kind 1 (7: none). -/
import Derived.Test.YtlgagbglldehjaaDoorLm
import Derived.Test.YtlgagbglldehjaaDoorKn
namespace Go.Proofs.YtlgagbglldehjaaDoor
set_option linter.unusedVariables false
set_option linter.unusedSimpArgs false
open Go Go.RowKit Pj Fe St Gh Ln Lm Lq
namespace Lr
set_option maxHeartbeats 4000000 in
set_option maxRecDepth 100000 in
theorem RLine1t (clock ticks : Nat) (kind : Int) (name hold dest : ByteArray) (hc : clock < 18446744073709551616) (ht : ticks < 18446744073709551616) (hn : name.size ≤ 1000000) (hh : hold.size ≤ 9223372036854775807) (hto : dest.size ≤ 9223372036854775807) (w : World) (hk : Hid (kind = 1)) (hB : namedB name = true) :
    Calls Tryd.prog 9 #[.agg #[.int .u64 clock, .int .i64 kind, .string name, .string hold, .string dest, .int .u64 ticks]] w fun e w' => e = .returned (lineV (lineOf clock kind (bs name) (bs hold) (bs dest) ticks (quoteS name))) ∧ Ext w w' := by
  have hnm := fun W => named_c name W hn
  rw [namedV_t hB] at hnm
  have HNM := Lib.hid hnm
  clear hnm
  have HT := Lib.hid (fun W => number_c ticks ht W)
  have hb := blk_new w (.cells #[.int .u64 clock, .int .i64 kind, .string name, .string hold, .string dest, .int .u64 ticks] 34)
  generalize hw0 : w.alloc (.cells #[.int .u64 clock, .int .i64 kind, .string name, .string hold, .string dest, .int .u64 ticks] 34) = w0 at hb
  have hx0 : Ext w w0 := by subst hw0; exact (But.refl _ w).alloc _
  have hc0 : ∀ d os, (Sort.grow (redrawn w0 d) os).cell? ⟨w.heap.size, 0, none⟩ = some (.int .u64 clock) := fun d os => cell_regrown ((blk_cell hb).trans rfl) d os
  have hc1 : ∀ d os, (Sort.grow (redrawn w0 d) os).cell? ⟨w.heap.size, 1, none⟩ = some (.int .i64 kind) := fun d os => cell_regrown ((blk_cell hb).trans rfl) d os
  have hlc : (Lib.decDigits clock).length ≤ 20 := decDigits_le clock hc
  have hlw : (wordS kind).length ≤ 8 := by unfold wordS; repeat (split; · simp)
                                           simp
  have hb1 : ¬ 9223372036854775807 < (Lib.decDigits clock).length + 1 := by omega
  have hb2 : ¬ 9223372036854775807 < (Lib.decDigits clock).length + 1 + (wordS kind).length := by omega
  have hb3 : ¬ 9223372036854775807 < (Lib.decDigits clock).length + 1 + (wordS kind).length + 1 := by omega
  go_enter Tryd.func9, Tryd.ntmps9
  go_wp2_with fail
  try rw [hw0]
  refine wp_region_quiet_below (by kernel_rfl) (by kernel_rfl) ?_
  repeat (first
    | go_big_quiet_skip
    | (go_big_quiet_want
       go_big_quiet_op
       first
         | go_big_quiet_on
         | (apply Exists.intro
            refine ⟨fun _ => ?_, ?_⟩
            · first
                | (go_at_call 20; exact quiet_ext (number_c clock hc _))
                | (go_at_call 21; exact quiet_ext (Word_c kind _))
            go_big_quiet_on)))
  refine wpQuiet_nil ?_
  intro w1 hw1
  obtain ⟨pr, hw1⟩ := hw1
  have hx01 : Ext w0 w1 := hw1 ▸ ext_grow _ _
  have hx1 := hx0.trans hx01
  clear hw1 hw0 hc0 hc1
  have A : Six w1 w.heap.size 34 (.int .u64 clock) (.int .i64 kind) (.string name) (.string hold) (.string dest) (.int .u64 ticks) := But.heap hx01 hb id
  clear hb
  have a2 := A.c2
  have hq := quoteS_len name
  have hk := hk.out
  obtain rfl := hk
  have hlt3 := decDigits_le ticks ht
  go_wp2_with fail
  go_at_call 22
  refine (HNM.out _).mono ?_
  rintro e w3 ⟨rfl, hx3⟩
  have A3 := Six.ext A hx3
  have hx3' : Ext w w3 := hx1.trans hx3
  obtain ⟨p0, p1, p2, p3, p4, p5, -⟩ := A3.all
  clear A a2 HNM hx0 hx01 hx1
  all_goals go_wp2_with (first
    | (go_at_call 20
       refine (HT.out _).mono ?_
       rintro e w4 ⟨rfl, hx4⟩
       have hx4' : Ext w w4 := hx3'.trans hx4)
    | (go_at_call 23
       refine (Holder_c _ _ (by first | exact hh | exact hto)).mono ?_
       rintro e w5 ⟨rfl, rfl⟩))
  all_goals try (exfalso; omega)
  all_goals try (exfalso; have hz1 : holderB (bs hold) = true := by first | assumption | (simpa using (by assumption : (!holderB (bs hold)) = false))
                 have hz2 := holderB_size hz1
                 first
                   | omega
                   | (have hz3 : holderB (bs dest) = true := by first | assumption | (simpa using (by assumption : (!holderB (bs dest)) = false))
                      have hz4 := holderB_size hz3
                      omega))
  all_goals go_ret2
  all_goals (clear hb1 hb2 hb3 hlc hlw hlt3 A3 HT)
  all_goals refine ⟨?_, by first | with_reducible exact hx3' | with_reducible exact hx4'⟩
  all_goals have hN := named_t hB
  all_goals clear hB
  all_goals (first
    | (refine congrArg Ending.returned ?_
       rw [show lineOf clock 1 (bs name) (bs hold) (bs dest) ticks (quoteS name) = none from by simp_all [lineOf, bs_toList]]
       rfl)
    | (refine congrArg Ending.returned ?_
       rw [show lineOf clock 1 (bs name) (bs hold) (bs dest) ticks (quoteS name) = some (Lib.decDigits clock ++ 32 :: wordS 1 ++ 32 :: quoteS name ++ [32, 98, 121, 32] ++ bs hold) from by simp_all [lineOf, bs_toList]]
       refine lineV_some ?_
       simp [bs, ByteArray.toList_data_append]))
set_option maxHeartbeats 4000000 in
set_option maxRecDepth 100000 in
theorem RLine1f (clock ticks : Nat) (kind : Int) (name hold dest : ByteArray) (hc : clock < 18446744073709551616) (ht : ticks < 18446744073709551616) (hn : name.size ≤ 1000000) (hh : hold.size ≤ 9223372036854775807) (hto : dest.size ≤ 9223372036854775807) (w : World) (hk : Hid (kind = 1)) (hB : namedB name = false) :
    Calls Tryd.prog 9 #[.agg #[.int .u64 clock, .int .i64 kind, .string name, .string hold, .string dest, .int .u64 ticks]] w fun e w' => e = .returned (lineV (lineOf clock kind (bs name) (bs hold) (bs dest) ticks (quoteS name))) ∧ Ext w w' := by
  have hnm := fun W => named_c name W hn
  rw [namedV_f hB] at hnm
  have HNM := Lib.hid hnm
  clear hnm
  have HT := Lib.hid (fun W => number_c ticks ht W)
  have hb := blk_new w (.cells #[.int .u64 clock, .int .i64 kind, .string name, .string hold, .string dest, .int .u64 ticks] 34)
  generalize hw0 : w.alloc (.cells #[.int .u64 clock, .int .i64 kind, .string name, .string hold, .string dest, .int .u64 ticks] 34) = w0 at hb
  have hx0 : Ext w w0 := by subst hw0; exact (But.refl _ w).alloc _
  have hc0 : ∀ d os, (Sort.grow (redrawn w0 d) os).cell? ⟨w.heap.size, 0, none⟩ = some (.int .u64 clock) := fun d os => cell_regrown ((blk_cell hb).trans rfl) d os
  have hc1 : ∀ d os, (Sort.grow (redrawn w0 d) os).cell? ⟨w.heap.size, 1, none⟩ = some (.int .i64 kind) := fun d os => cell_regrown ((blk_cell hb).trans rfl) d os
  have hlc : (Lib.decDigits clock).length ≤ 20 := decDigits_le clock hc
  have hlw : (wordS kind).length ≤ 8 := by unfold wordS; repeat (split; · simp)
                                           simp
  have hb1 : ¬ 9223372036854775807 < (Lib.decDigits clock).length + 1 := by omega
  have hb2 : ¬ 9223372036854775807 < (Lib.decDigits clock).length + 1 + (wordS kind).length := by omega
  have hb3 : ¬ 9223372036854775807 < (Lib.decDigits clock).length + 1 + (wordS kind).length + 1 := by omega
  go_enter Tryd.func9, Tryd.ntmps9
  go_wp2_with fail
  try rw [hw0]
  refine wp_region_quiet_below (by kernel_rfl) (by kernel_rfl) ?_
  repeat (first
    | go_big_quiet_skip
    | (go_big_quiet_want
       go_big_quiet_op
       first
         | go_big_quiet_on
         | (apply Exists.intro
            refine ⟨fun _ => ?_, ?_⟩
            · first
                | (go_at_call 20; exact quiet_ext (number_c clock hc _))
                | (go_at_call 21; exact quiet_ext (Word_c kind _))
            go_big_quiet_on)))
  refine wpQuiet_nil ?_
  intro w1 hw1
  obtain ⟨pr, hw1⟩ := hw1
  have hx01 : Ext w0 w1 := hw1 ▸ ext_grow _ _
  have hx1 := hx0.trans hx01
  clear hw1 hw0 hc0 hc1
  have A : Six w1 w.heap.size 34 (.int .u64 clock) (.int .i64 kind) (.string name) (.string hold) (.string dest) (.int .u64 ticks) := But.heap hx01 hb id
  clear hb
  have a2 := A.c2
  have hq := quoteS_len name
  have hk := hk.out
  obtain rfl := hk
  have hlt3 := decDigits_le ticks ht
  go_wp2_with fail
  go_at_call 22
  refine (HNM.out _).mono ?_
  rintro e w3 ⟨rfl, hx3⟩
  have A3 := Six.ext A hx3
  have hx3' : Ext w w3 := hx1.trans hx3
  obtain ⟨p0, p1, p2, p3, p4, p5, -⟩ := A3.all
  clear A a2 HNM hx0 hx01 hx1
  all_goals go_wp2_with (first
    | (go_at_call 20
       refine (HT.out _).mono ?_
       rintro e w4 ⟨rfl, hx4⟩
       have hx4' : Ext w w4 := hx3'.trans hx4)
    | (go_at_call 23
       refine (Holder_c _ _ (by first | exact hh | exact hto)).mono ?_
       rintro e w5 ⟨rfl, rfl⟩))
  all_goals try (exfalso; omega)
  all_goals try (exfalso; have hz1 : holderB (bs hold) = true := by first | assumption | (simpa using (by assumption : (!holderB (bs hold)) = false))
                 have hz2 := holderB_size hz1
                 first
                   | omega
                   | (have hz3 : holderB (bs dest) = true := by first | assumption | (simpa using (by assumption : (!holderB (bs dest)) = false))
                      have hz4 := holderB_size hz3
                      omega))
  all_goals go_ret2
  all_goals (clear hb1 hb2 hb3 hlc hlw hlt3 A3 HT)
  all_goals refine ⟨?_, by first | with_reducible exact hx3' | with_reducible exact hx4'⟩
  all_goals have hN := named_f hB
  all_goals clear hB
  all_goals (first
    | (refine congrArg Ending.returned ?_
       rw [show lineOf clock 1 (bs name) (bs hold) (bs dest) ticks (quoteS name) = none from by simp_all [lineOf, bs_toList]]
       rfl)
    | (refine congrArg Ending.returned ?_
       rw [show lineOf clock 1 (bs name) (bs hold) (bs dest) ticks (quoteS name) = some (Lib.decDigits clock ++ 32 :: wordS 1 ++ 32 :: quoteS name ++ [32, 98, 121, 32] ++ bs hold) from by simp_all [lineOf, bs_toList]]
       refine lineV_some ?_
       simp [bs, ByteArray.toList_data_append]))
end Lr
end Go.Proofs.YtlgagbglldehjaaDoor
/- guiseref22.Line: kind 2 (7: none). -/
namespace Go.Proofs.YtlgagbglldehjaaDoor
set_option linter.unusedVariables false
set_option linter.unusedSimpArgs false
open Go Go.RowKit Pj Fe St Gh Ln Lm Lq
namespace Lr
set_option maxHeartbeats 4000000 in
set_option maxRecDepth 100000 in
theorem RLine2t (clock ticks : Nat) (kind : Int) (name hold dest : ByteArray) (hc : clock < 18446744073709551616) (ht : ticks < 18446744073709551616) (hn : name.size ≤ 1000000) (hh : hold.size ≤ 9223372036854775807) (hto : dest.size ≤ 9223372036854775807) (w : World) (hk : Hid (kind = 2)) (hB : namedB name = true) :
    Calls Tryd.prog 9 #[.agg #[.int .u64 clock, .int .i64 kind, .string name, .string hold, .string dest, .int .u64 ticks]] w fun e w' => e = .returned (lineV (lineOf clock kind (bs name) (bs hold) (bs dest) ticks (quoteS name))) ∧ Ext w w' := by
  have hnm := fun W => named_c name W hn
  rw [namedV_t hB] at hnm
  have HNM := Lib.hid hnm
  clear hnm
  have HT := Lib.hid (fun W => number_c ticks ht W)
  have hb := blk_new w (.cells #[.int .u64 clock, .int .i64 kind, .string name, .string hold, .string dest, .int .u64 ticks] 34)
  generalize hw0 : w.alloc (.cells #[.int .u64 clock, .int .i64 kind, .string name, .string hold, .string dest, .int .u64 ticks] 34) = w0 at hb
  have hx0 : Ext w w0 := by subst hw0; exact (But.refl _ w).alloc _
  have hc0 : ∀ d os, (Sort.grow (redrawn w0 d) os).cell? ⟨w.heap.size, 0, none⟩ = some (.int .u64 clock) := fun d os => cell_regrown ((blk_cell hb).trans rfl) d os
  have hc1 : ∀ d os, (Sort.grow (redrawn w0 d) os).cell? ⟨w.heap.size, 1, none⟩ = some (.int .i64 kind) := fun d os => cell_regrown ((blk_cell hb).trans rfl) d os
  have hlc : (Lib.decDigits clock).length ≤ 20 := decDigits_le clock hc
  have hlw : (wordS kind).length ≤ 8 := by unfold wordS; repeat (split; · simp)
                                           simp
  have hb1 : ¬ 9223372036854775807 < (Lib.decDigits clock).length + 1 := by omega
  have hb2 : ¬ 9223372036854775807 < (Lib.decDigits clock).length + 1 + (wordS kind).length := by omega
  have hb3 : ¬ 9223372036854775807 < (Lib.decDigits clock).length + 1 + (wordS kind).length + 1 := by omega
  go_enter Tryd.func9, Tryd.ntmps9
  go_wp2_with fail
  try rw [hw0]
  refine wp_region_quiet_below (by kernel_rfl) (by kernel_rfl) ?_
  repeat (first
    | go_big_quiet_skip
    | (go_big_quiet_want
       go_big_quiet_op
       first
         | go_big_quiet_on
         | (apply Exists.intro
            refine ⟨fun _ => ?_, ?_⟩
            · first
                | (go_at_call 20; exact quiet_ext (number_c clock hc _))
                | (go_at_call 21; exact quiet_ext (Word_c kind _))
            go_big_quiet_on)))
  refine wpQuiet_nil ?_
  intro w1 hw1
  obtain ⟨pr, hw1⟩ := hw1
  have hx01 : Ext w0 w1 := hw1 ▸ ext_grow _ _
  have hx1 := hx0.trans hx01
  clear hw1 hw0 hc0 hc1
  have A : Six w1 w.heap.size 34 (.int .u64 clock) (.int .i64 kind) (.string name) (.string hold) (.string dest) (.int .u64 ticks) := But.heap hx01 hb id
  clear hb
  have a2 := A.c2
  have hq := quoteS_len name
  have hk := hk.out
  obtain rfl := hk
  have hlt3 := decDigits_le ticks ht
  go_wp2_with fail
  go_at_call 22
  refine (HNM.out _).mono ?_
  rintro e w3 ⟨rfl, hx3⟩
  have A3 := Six.ext A hx3
  have hx3' : Ext w w3 := hx1.trans hx3
  obtain ⟨p0, p1, p2, p3, p4, p5, -⟩ := A3.all
  clear A a2 HNM hx0 hx01 hx1
  all_goals go_wp2_with (first
    | (go_at_call 20
       refine (HT.out _).mono ?_
       rintro e w4 ⟨rfl, hx4⟩
       have hx4' : Ext w w4 := hx3'.trans hx4)
    | (go_at_call 23
       refine (Holder_c _ _ (by first | exact hh | exact hto)).mono ?_
       rintro e w5 ⟨rfl, rfl⟩))
  all_goals try (exfalso; omega)
  all_goals try (exfalso; have hz1 : holderB (bs hold) = true := by first | assumption | (simpa using (by assumption : (!holderB (bs hold)) = false))
                 have hz2 := holderB_size hz1
                 first
                   | omega
                   | (have hz3 : holderB (bs dest) = true := by first | assumption | (simpa using (by assumption : (!holderB (bs dest)) = false))
                      have hz4 := holderB_size hz3
                      omega))
  all_goals go_ret2
  all_goals (clear hb1 hb2 hb3 hlc hlw hlt3 A3 HT)
  all_goals refine ⟨?_, by first | with_reducible exact hx3' | with_reducible exact hx4'⟩
  all_goals have hN := named_t hB
  all_goals clear hB
  all_goals (first
    | (refine congrArg Ending.returned ?_
       rw [show lineOf clock 2 (bs name) (bs hold) (bs dest) ticks (quoteS name) = none from by simp_all [lineOf, bs_toList]]
       rfl)
    | (refine congrArg Ending.returned ?_
       rw [show lineOf clock 2 (bs name) (bs hold) (bs dest) ticks (quoteS name) = some (Lib.decDigits clock ++ 32 :: wordS 2 ++ 32 :: quoteS name ++ [32, 98, 121, 32] ++ bs hold) from by simp_all [lineOf, bs_toList]]
       refine lineV_some ?_
       simp [bs, ByteArray.toList_data_append]))
set_option maxHeartbeats 4000000 in
set_option maxRecDepth 100000 in
theorem RLine2f (clock ticks : Nat) (kind : Int) (name hold dest : ByteArray) (hc : clock < 18446744073709551616) (ht : ticks < 18446744073709551616) (hn : name.size ≤ 1000000) (hh : hold.size ≤ 9223372036854775807) (hto : dest.size ≤ 9223372036854775807) (w : World) (hk : Hid (kind = 2)) (hB : namedB name = false) :
    Calls Tryd.prog 9 #[.agg #[.int .u64 clock, .int .i64 kind, .string name, .string hold, .string dest, .int .u64 ticks]] w fun e w' => e = .returned (lineV (lineOf clock kind (bs name) (bs hold) (bs dest) ticks (quoteS name))) ∧ Ext w w' := by
  have hnm := fun W => named_c name W hn
  rw [namedV_f hB] at hnm
  have HNM := Lib.hid hnm
  clear hnm
  have HT := Lib.hid (fun W => number_c ticks ht W)
  have hb := blk_new w (.cells #[.int .u64 clock, .int .i64 kind, .string name, .string hold, .string dest, .int .u64 ticks] 34)
  generalize hw0 : w.alloc (.cells #[.int .u64 clock, .int .i64 kind, .string name, .string hold, .string dest, .int .u64 ticks] 34) = w0 at hb
  have hx0 : Ext w w0 := by subst hw0; exact (But.refl _ w).alloc _
  have hc0 : ∀ d os, (Sort.grow (redrawn w0 d) os).cell? ⟨w.heap.size, 0, none⟩ = some (.int .u64 clock) := fun d os => cell_regrown ((blk_cell hb).trans rfl) d os
  have hc1 : ∀ d os, (Sort.grow (redrawn w0 d) os).cell? ⟨w.heap.size, 1, none⟩ = some (.int .i64 kind) := fun d os => cell_regrown ((blk_cell hb).trans rfl) d os
  have hlc : (Lib.decDigits clock).length ≤ 20 := decDigits_le clock hc
  have hlw : (wordS kind).length ≤ 8 := by unfold wordS; repeat (split; · simp)
                                           simp
  have hb1 : ¬ 9223372036854775807 < (Lib.decDigits clock).length + 1 := by omega
  have hb2 : ¬ 9223372036854775807 < (Lib.decDigits clock).length + 1 + (wordS kind).length := by omega
  have hb3 : ¬ 9223372036854775807 < (Lib.decDigits clock).length + 1 + (wordS kind).length + 1 := by omega
  go_enter Tryd.func9, Tryd.ntmps9
  go_wp2_with fail
  try rw [hw0]
  refine wp_region_quiet_below (by kernel_rfl) (by kernel_rfl) ?_
  repeat (first
    | go_big_quiet_skip
    | (go_big_quiet_want
       go_big_quiet_op
       first
         | go_big_quiet_on
         | (apply Exists.intro
            refine ⟨fun _ => ?_, ?_⟩
            · first
                | (go_at_call 20; exact quiet_ext (number_c clock hc _))
                | (go_at_call 21; exact quiet_ext (Word_c kind _))
            go_big_quiet_on)))
  refine wpQuiet_nil ?_
  intro w1 hw1
  obtain ⟨pr, hw1⟩ := hw1
  have hx01 : Ext w0 w1 := hw1 ▸ ext_grow _ _
  have hx1 := hx0.trans hx01
  clear hw1 hw0 hc0 hc1
  have A : Six w1 w.heap.size 34 (.int .u64 clock) (.int .i64 kind) (.string name) (.string hold) (.string dest) (.int .u64 ticks) := But.heap hx01 hb id
  clear hb
  have a2 := A.c2
  have hq := quoteS_len name
  have hk := hk.out
  obtain rfl := hk
  have hlt3 := decDigits_le ticks ht
  go_wp2_with fail
  go_at_call 22
  refine (HNM.out _).mono ?_
  rintro e w3 ⟨rfl, hx3⟩
  have A3 := Six.ext A hx3
  have hx3' : Ext w w3 := hx1.trans hx3
  obtain ⟨p0, p1, p2, p3, p4, p5, -⟩ := A3.all
  clear A a2 HNM hx0 hx01 hx1
  all_goals go_wp2_with (first
    | (go_at_call 20
       refine (HT.out _).mono ?_
       rintro e w4 ⟨rfl, hx4⟩
       have hx4' : Ext w w4 := hx3'.trans hx4)
    | (go_at_call 23
       refine (Holder_c _ _ (by first | exact hh | exact hto)).mono ?_
       rintro e w5 ⟨rfl, rfl⟩))
  all_goals try (exfalso; omega)
  all_goals try (exfalso; have hz1 : holderB (bs hold) = true := by first | assumption | (simpa using (by assumption : (!holderB (bs hold)) = false))
                 have hz2 := holderB_size hz1
                 first
                   | omega
                   | (have hz3 : holderB (bs dest) = true := by first | assumption | (simpa using (by assumption : (!holderB (bs dest)) = false))
                      have hz4 := holderB_size hz3
                      omega))
  all_goals go_ret2
  all_goals (clear hb1 hb2 hb3 hlc hlw hlt3 A3 HT)
  all_goals refine ⟨?_, by first | with_reducible exact hx3' | with_reducible exact hx4'⟩
  all_goals have hN := named_f hB
  all_goals clear hB
  all_goals (first
    | (refine congrArg Ending.returned ?_
       rw [show lineOf clock 2 (bs name) (bs hold) (bs dest) ticks (quoteS name) = none from by simp_all [lineOf, bs_toList]]
       rfl)
    | (refine congrArg Ending.returned ?_
       rw [show lineOf clock 2 (bs name) (bs hold) (bs dest) ticks (quoteS name) = some (Lib.decDigits clock ++ 32 :: wordS 2 ++ 32 :: quoteS name ++ [32, 98, 121, 32] ++ bs hold) from by simp_all [lineOf, bs_toList]]
       refine lineV_some ?_
       simp [bs, ByteArray.toList_data_append]))
end Lr
end Go.Proofs.YtlgagbglldehjaaDoor
/- guiseref22.Line: kind 3 (7: none). -/
namespace Go.Proofs.YtlgagbglldehjaaDoor
set_option linter.unusedVariables false
set_option linter.unusedSimpArgs false
open Go Go.RowKit Pj Fe St Gh Ln Lm Lq
namespace Lr
set_option maxHeartbeats 4000000 in
set_option maxRecDepth 100000 in
theorem RLine3t (clock ticks : Nat) (kind : Int) (name hold dest : ByteArray) (hc : clock < 18446744073709551616) (ht : ticks < 18446744073709551616) (hn : name.size ≤ 1000000) (hh : hold.size ≤ 9223372036854775807) (hto : dest.size ≤ 9223372036854775807) (w : World) (hk : Hid (kind = 3)) (hB : namedB name = true) :
    Calls Tryd.prog 9 #[.agg #[.int .u64 clock, .int .i64 kind, .string name, .string hold, .string dest, .int .u64 ticks]] w fun e w' => e = .returned (lineV (lineOf clock kind (bs name) (bs hold) (bs dest) ticks (quoteS name))) ∧ Ext w w' := by
  have hnm := fun W => named_c name W hn
  rw [namedV_t hB] at hnm
  have HNM := Lib.hid hnm
  clear hnm
  have HT := Lib.hid (fun W => number_c ticks ht W)
  have hb := blk_new w (.cells #[.int .u64 clock, .int .i64 kind, .string name, .string hold, .string dest, .int .u64 ticks] 34)
  generalize hw0 : w.alloc (.cells #[.int .u64 clock, .int .i64 kind, .string name, .string hold, .string dest, .int .u64 ticks] 34) = w0 at hb
  have hx0 : Ext w w0 := by subst hw0; exact (But.refl _ w).alloc _
  have hc0 : ∀ d os, (Sort.grow (redrawn w0 d) os).cell? ⟨w.heap.size, 0, none⟩ = some (.int .u64 clock) := fun d os => cell_regrown ((blk_cell hb).trans rfl) d os
  have hc1 : ∀ d os, (Sort.grow (redrawn w0 d) os).cell? ⟨w.heap.size, 1, none⟩ = some (.int .i64 kind) := fun d os => cell_regrown ((blk_cell hb).trans rfl) d os
  have hlc : (Lib.decDigits clock).length ≤ 20 := decDigits_le clock hc
  have hlw : (wordS kind).length ≤ 8 := by unfold wordS; repeat (split; · simp)
                                           simp
  have hb1 : ¬ 9223372036854775807 < (Lib.decDigits clock).length + 1 := by omega
  have hb2 : ¬ 9223372036854775807 < (Lib.decDigits clock).length + 1 + (wordS kind).length := by omega
  have hb3 : ¬ 9223372036854775807 < (Lib.decDigits clock).length + 1 + (wordS kind).length + 1 := by omega
  go_enter Tryd.func9, Tryd.ntmps9
  go_wp2_with fail
  try rw [hw0]
  refine wp_region_quiet_below (by kernel_rfl) (by kernel_rfl) ?_
  repeat (first
    | go_big_quiet_skip
    | (go_big_quiet_want
       go_big_quiet_op
       first
         | go_big_quiet_on
         | (apply Exists.intro
            refine ⟨fun _ => ?_, ?_⟩
            · first
                | (go_at_call 20; exact quiet_ext (number_c clock hc _))
                | (go_at_call 21; exact quiet_ext (Word_c kind _))
            go_big_quiet_on)))
  refine wpQuiet_nil ?_
  intro w1 hw1
  obtain ⟨pr, hw1⟩ := hw1
  have hx01 : Ext w0 w1 := hw1 ▸ ext_grow _ _
  have hx1 := hx0.trans hx01
  clear hw1 hw0 hc0 hc1
  have A : Six w1 w.heap.size 34 (.int .u64 clock) (.int .i64 kind) (.string name) (.string hold) (.string dest) (.int .u64 ticks) := But.heap hx01 hb id
  clear hb
  have a2 := A.c2
  have hq := quoteS_len name
  have hk := hk.out
  obtain rfl := hk
  have hlt3 := decDigits_le ticks ht
  go_wp2_with fail
  go_at_call 22
  refine (HNM.out _).mono ?_
  rintro e w3 ⟨rfl, hx3⟩
  have A3 := Six.ext A hx3
  have hx3' : Ext w w3 := hx1.trans hx3
  obtain ⟨p0, p1, p2, p3, p4, p5, -⟩ := A3.all
  clear A a2 HNM hx0 hx01 hx1
  all_goals go_wp2_with (first
    | (go_at_call 20
       refine (HT.out _).mono ?_
       rintro e w4 ⟨rfl, hx4⟩
       have hx4' : Ext w w4 := hx3'.trans hx4)
    | (go_at_call 23
       refine (Holder_c _ _ (by first | exact hh | exact hto)).mono ?_
       rintro e w5 ⟨rfl, rfl⟩))
  all_goals try (exfalso; omega)
  all_goals try (exfalso; have hz1 : holderB (bs hold) = true := by first | assumption | (simpa using (by assumption : (!holderB (bs hold)) = false))
                 have hz2 := holderB_size hz1
                 first
                   | omega
                   | (have hz3 : holderB (bs dest) = true := by first | assumption | (simpa using (by assumption : (!holderB (bs dest)) = false))
                      have hz4 := holderB_size hz3
                      omega))
  all_goals go_ret2
  all_goals (clear hb1 hb2 hb3 hlc hlw hlt3 A3 HT)
  all_goals refine ⟨?_, by first | with_reducible exact hx3' | with_reducible exact hx4'⟩
  all_goals have hN := named_t hB
  all_goals clear hB
  all_goals (first
    | (refine congrArg Ending.returned ?_
       rw [show lineOf clock 3 (bs name) (bs hold) (bs dest) ticks (quoteS name) = none from by simp_all [lineOf, bs_toList]]
       rfl)
    | (refine congrArg Ending.returned ?_
       rw [show lineOf clock 3 (bs name) (bs hold) (bs dest) ticks (quoteS name) = some (Lib.decDigits clock ++ 32 :: wordS 3 ++ 32 :: quoteS name ++ [32, 98, 121, 32] ++ bs hold ++ [32, 116, 111, 32] ++ bs dest) from by simp_all [lineOf, bs_toList]]
       refine lineV_some ?_
       simp [bs, ByteArray.toList_data_append]))
set_option maxHeartbeats 4000000 in
set_option maxRecDepth 100000 in
theorem RLine3f (clock ticks : Nat) (kind : Int) (name hold dest : ByteArray) (hc : clock < 18446744073709551616) (ht : ticks < 18446744073709551616) (hn : name.size ≤ 1000000) (hh : hold.size ≤ 9223372036854775807) (hto : dest.size ≤ 9223372036854775807) (w : World) (hk : Hid (kind = 3)) (hB : namedB name = false) :
    Calls Tryd.prog 9 #[.agg #[.int .u64 clock, .int .i64 kind, .string name, .string hold, .string dest, .int .u64 ticks]] w fun e w' => e = .returned (lineV (lineOf clock kind (bs name) (bs hold) (bs dest) ticks (quoteS name))) ∧ Ext w w' := by
  have hnm := fun W => named_c name W hn
  rw [namedV_f hB] at hnm
  have HNM := Lib.hid hnm
  clear hnm
  have HT := Lib.hid (fun W => number_c ticks ht W)
  have hb := blk_new w (.cells #[.int .u64 clock, .int .i64 kind, .string name, .string hold, .string dest, .int .u64 ticks] 34)
  generalize hw0 : w.alloc (.cells #[.int .u64 clock, .int .i64 kind, .string name, .string hold, .string dest, .int .u64 ticks] 34) = w0 at hb
  have hx0 : Ext w w0 := by subst hw0; exact (But.refl _ w).alloc _
  have hc0 : ∀ d os, (Sort.grow (redrawn w0 d) os).cell? ⟨w.heap.size, 0, none⟩ = some (.int .u64 clock) := fun d os => cell_regrown ((blk_cell hb).trans rfl) d os
  have hc1 : ∀ d os, (Sort.grow (redrawn w0 d) os).cell? ⟨w.heap.size, 1, none⟩ = some (.int .i64 kind) := fun d os => cell_regrown ((blk_cell hb).trans rfl) d os
  have hlc : (Lib.decDigits clock).length ≤ 20 := decDigits_le clock hc
  have hlw : (wordS kind).length ≤ 8 := by unfold wordS; repeat (split; · simp)
                                           simp
  have hb1 : ¬ 9223372036854775807 < (Lib.decDigits clock).length + 1 := by omega
  have hb2 : ¬ 9223372036854775807 < (Lib.decDigits clock).length + 1 + (wordS kind).length := by omega
  have hb3 : ¬ 9223372036854775807 < (Lib.decDigits clock).length + 1 + (wordS kind).length + 1 := by omega
  go_enter Tryd.func9, Tryd.ntmps9
  go_wp2_with fail
  try rw [hw0]
  refine wp_region_quiet_below (by kernel_rfl) (by kernel_rfl) ?_
  repeat (first
    | go_big_quiet_skip
    | (go_big_quiet_want
       go_big_quiet_op
       first
         | go_big_quiet_on
         | (apply Exists.intro
            refine ⟨fun _ => ?_, ?_⟩
            · first
                | (go_at_call 20; exact quiet_ext (number_c clock hc _))
                | (go_at_call 21; exact quiet_ext (Word_c kind _))
            go_big_quiet_on)))
  refine wpQuiet_nil ?_
  intro w1 hw1
  obtain ⟨pr, hw1⟩ := hw1
  have hx01 : Ext w0 w1 := hw1 ▸ ext_grow _ _
  have hx1 := hx0.trans hx01
  clear hw1 hw0 hc0 hc1
  have A : Six w1 w.heap.size 34 (.int .u64 clock) (.int .i64 kind) (.string name) (.string hold) (.string dest) (.int .u64 ticks) := But.heap hx01 hb id
  clear hb
  have a2 := A.c2
  have hq := quoteS_len name
  have hk := hk.out
  obtain rfl := hk
  have hlt3 := decDigits_le ticks ht
  go_wp2_with fail
  go_at_call 22
  refine (HNM.out _).mono ?_
  rintro e w3 ⟨rfl, hx3⟩
  have A3 := Six.ext A hx3
  have hx3' : Ext w w3 := hx1.trans hx3
  obtain ⟨p0, p1, p2, p3, p4, p5, -⟩ := A3.all
  clear A a2 HNM hx0 hx01 hx1
  all_goals go_wp2_with (first
    | (go_at_call 20
       refine (HT.out _).mono ?_
       rintro e w4 ⟨rfl, hx4⟩
       have hx4' : Ext w w4 := hx3'.trans hx4)
    | (go_at_call 23
       refine (Holder_c _ _ (by first | exact hh | exact hto)).mono ?_
       rintro e w5 ⟨rfl, rfl⟩))
  all_goals try (exfalso; omega)
  all_goals try (exfalso; have hz1 : holderB (bs hold) = true := by first | assumption | (simpa using (by assumption : (!holderB (bs hold)) = false))
                 have hz2 := holderB_size hz1
                 first
                   | omega
                   | (have hz3 : holderB (bs dest) = true := by first | assumption | (simpa using (by assumption : (!holderB (bs dest)) = false))
                      have hz4 := holderB_size hz3
                      omega))
  all_goals go_ret2
  all_goals (clear hb1 hb2 hb3 hlc hlw hlt3 A3 HT)
  all_goals refine ⟨?_, by first | with_reducible exact hx3' | with_reducible exact hx4'⟩
  all_goals have hN := named_f hB
  all_goals clear hB
  all_goals (first
    | (refine congrArg Ending.returned ?_
       rw [show lineOf clock 3 (bs name) (bs hold) (bs dest) ticks (quoteS name) = none from by simp_all [lineOf, bs_toList]]
       rfl)
    | (refine congrArg Ending.returned ?_
       rw [show lineOf clock 3 (bs name) (bs hold) (bs dest) ticks (quoteS name) = some (Lib.decDigits clock ++ 32 :: wordS 3 ++ 32 :: quoteS name ++ [32, 98, 121, 32] ++ bs hold ++ [32, 116, 111, 32] ++ bs dest) from by simp_all [lineOf, bs_toList]]
       refine lineV_some ?_
       simp [bs, ByteArray.toList_data_append]))
end Lr
end Go.Proofs.YtlgagbglldehjaaDoor
/- guiseref22.Line: kind 4 (7: none). -/
namespace Go.Proofs.YtlgagbglldehjaaDoor
set_option linter.unusedVariables false
set_option linter.unusedSimpArgs false
open Go Go.RowKit Pj Fe St Gh Ln Lm Lq
namespace Lr
set_option maxHeartbeats 4000000 in
set_option maxRecDepth 100000 in
theorem RLine4t (clock ticks : Nat) (kind : Int) (name hold dest : ByteArray) (hc : clock < 18446744073709551616) (ht : ticks < 18446744073709551616) (hn : name.size ≤ 1000000) (hh : hold.size ≤ 9223372036854775807) (hto : dest.size ≤ 9223372036854775807) (w : World) (hk : Hid (kind = 4)) (hB : namedB name = true) :
    Calls Tryd.prog 9 #[.agg #[.int .u64 clock, .int .i64 kind, .string name, .string hold, .string dest, .int .u64 ticks]] w fun e w' => e = .returned (lineV (lineOf clock kind (bs name) (bs hold) (bs dest) ticks (quoteS name))) ∧ Ext w w' := by
  have hnm := fun W => named_c name W hn
  rw [namedV_t hB] at hnm
  have HNM := Lib.hid hnm
  clear hnm
  have HT := Lib.hid (fun W => number_c ticks ht W)
  have hb := blk_new w (.cells #[.int .u64 clock, .int .i64 kind, .string name, .string hold, .string dest, .int .u64 ticks] 34)
  generalize hw0 : w.alloc (.cells #[.int .u64 clock, .int .i64 kind, .string name, .string hold, .string dest, .int .u64 ticks] 34) = w0 at hb
  have hx0 : Ext w w0 := by subst hw0; exact (But.refl _ w).alloc _
  have hc0 : ∀ d os, (Sort.grow (redrawn w0 d) os).cell? ⟨w.heap.size, 0, none⟩ = some (.int .u64 clock) := fun d os => cell_regrown ((blk_cell hb).trans rfl) d os
  have hc1 : ∀ d os, (Sort.grow (redrawn w0 d) os).cell? ⟨w.heap.size, 1, none⟩ = some (.int .i64 kind) := fun d os => cell_regrown ((blk_cell hb).trans rfl) d os
  have hlc : (Lib.decDigits clock).length ≤ 20 := decDigits_le clock hc
  have hlw : (wordS kind).length ≤ 8 := by unfold wordS; repeat (split; · simp)
                                           simp
  have hb1 : ¬ 9223372036854775807 < (Lib.decDigits clock).length + 1 := by omega
  have hb2 : ¬ 9223372036854775807 < (Lib.decDigits clock).length + 1 + (wordS kind).length := by omega
  have hb3 : ¬ 9223372036854775807 < (Lib.decDigits clock).length + 1 + (wordS kind).length + 1 := by omega
  go_enter Tryd.func9, Tryd.ntmps9
  go_wp2_with fail
  try rw [hw0]
  refine wp_region_quiet_below (by kernel_rfl) (by kernel_rfl) ?_
  repeat (first
    | go_big_quiet_skip
    | (go_big_quiet_want
       go_big_quiet_op
       first
         | go_big_quiet_on
         | (apply Exists.intro
            refine ⟨fun _ => ?_, ?_⟩
            · first
                | (go_at_call 20; exact quiet_ext (number_c clock hc _))
                | (go_at_call 21; exact quiet_ext (Word_c kind _))
            go_big_quiet_on)))
  refine wpQuiet_nil ?_
  intro w1 hw1
  obtain ⟨pr, hw1⟩ := hw1
  have hx01 : Ext w0 w1 := hw1 ▸ ext_grow _ _
  have hx1 := hx0.trans hx01
  clear hw1 hw0 hc0 hc1
  have A : Six w1 w.heap.size 34 (.int .u64 clock) (.int .i64 kind) (.string name) (.string hold) (.string dest) (.int .u64 ticks) := But.heap hx01 hb id
  clear hb
  have a2 := A.c2
  have hq := quoteS_len name
  have hk := hk.out
  obtain rfl := hk
  have hlt3 := decDigits_le ticks ht
  go_wp2_with fail
  go_at_call 22
  refine (HNM.out _).mono ?_
  rintro e w3 ⟨rfl, hx3⟩
  have A3 := Six.ext A hx3
  have hx3' : Ext w w3 := hx1.trans hx3
  obtain ⟨p0, p1, p2, p3, p4, p5, -⟩ := A3.all
  clear A a2 HNM hx0 hx01 hx1
  all_goals go_wp2_with (first
    | (go_at_call 20
       refine (HT.out _).mono ?_
       rintro e w4 ⟨rfl, hx4⟩
       have hx4' : Ext w w4 := hx3'.trans hx4)
    | (go_at_call 23
       refine (Holder_c _ _ (by first | exact hh | exact hto)).mono ?_
       rintro e w5 ⟨rfl, rfl⟩))
  all_goals try (exfalso; omega)
  all_goals try (exfalso; have hz1 : holderB (bs hold) = true := by first | assumption | (simpa using (by assumption : (!holderB (bs hold)) = false))
                 have hz2 := holderB_size hz1
                 first
                   | omega
                   | (have hz3 : holderB (bs dest) = true := by first | assumption | (simpa using (by assumption : (!holderB (bs dest)) = false))
                      have hz4 := holderB_size hz3
                      omega))
  all_goals go_ret2
  all_goals (clear hb1 hb2 hb3 hlc hlw hlt3 A3 HT)
  all_goals refine ⟨?_, by first | with_reducible exact hx3' | with_reducible exact hx4'⟩
  all_goals have hN := named_t hB
  all_goals clear hB
  all_goals (first
    | (refine congrArg Ending.returned ?_
       rw [show lineOf clock 4 (bs name) (bs hold) (bs dest) ticks (quoteS name) = none from by simp_all [lineOf, bs_toList]]
       rfl)
    | (refine congrArg Ending.returned ?_
       rw [show lineOf clock 4 (bs name) (bs hold) (bs dest) ticks (quoteS name) = some (Lib.decDigits clock ++ 32 :: wordS 4 ++ 32 :: quoteS name) from by simp_all [lineOf, bs_toList]]
       refine lineV_some ?_
       simp [bs, ByteArray.toList_data_append]))
set_option maxHeartbeats 4000000 in
set_option maxRecDepth 100000 in
theorem RLine4f (clock ticks : Nat) (kind : Int) (name hold dest : ByteArray) (hc : clock < 18446744073709551616) (ht : ticks < 18446744073709551616) (hn : name.size ≤ 1000000) (hh : hold.size ≤ 9223372036854775807) (hto : dest.size ≤ 9223372036854775807) (w : World) (hk : Hid (kind = 4)) (hB : namedB name = false) :
    Calls Tryd.prog 9 #[.agg #[.int .u64 clock, .int .i64 kind, .string name, .string hold, .string dest, .int .u64 ticks]] w fun e w' => e = .returned (lineV (lineOf clock kind (bs name) (bs hold) (bs dest) ticks (quoteS name))) ∧ Ext w w' := by
  have hnm := fun W => named_c name W hn
  rw [namedV_f hB] at hnm
  have HNM := Lib.hid hnm
  clear hnm
  have HT := Lib.hid (fun W => number_c ticks ht W)
  have hb := blk_new w (.cells #[.int .u64 clock, .int .i64 kind, .string name, .string hold, .string dest, .int .u64 ticks] 34)
  generalize hw0 : w.alloc (.cells #[.int .u64 clock, .int .i64 kind, .string name, .string hold, .string dest, .int .u64 ticks] 34) = w0 at hb
  have hx0 : Ext w w0 := by subst hw0; exact (But.refl _ w).alloc _
  have hc0 : ∀ d os, (Sort.grow (redrawn w0 d) os).cell? ⟨w.heap.size, 0, none⟩ = some (.int .u64 clock) := fun d os => cell_regrown ((blk_cell hb).trans rfl) d os
  have hc1 : ∀ d os, (Sort.grow (redrawn w0 d) os).cell? ⟨w.heap.size, 1, none⟩ = some (.int .i64 kind) := fun d os => cell_regrown ((blk_cell hb).trans rfl) d os
  have hlc : (Lib.decDigits clock).length ≤ 20 := decDigits_le clock hc
  have hlw : (wordS kind).length ≤ 8 := by unfold wordS; repeat (split; · simp)
                                           simp
  have hb1 : ¬ 9223372036854775807 < (Lib.decDigits clock).length + 1 := by omega
  have hb2 : ¬ 9223372036854775807 < (Lib.decDigits clock).length + 1 + (wordS kind).length := by omega
  have hb3 : ¬ 9223372036854775807 < (Lib.decDigits clock).length + 1 + (wordS kind).length + 1 := by omega
  go_enter Tryd.func9, Tryd.ntmps9
  go_wp2_with fail
  try rw [hw0]
  refine wp_region_quiet_below (by kernel_rfl) (by kernel_rfl) ?_
  repeat (first
    | go_big_quiet_skip
    | (go_big_quiet_want
       go_big_quiet_op
       first
         | go_big_quiet_on
         | (apply Exists.intro
            refine ⟨fun _ => ?_, ?_⟩
            · first
                | (go_at_call 20; exact quiet_ext (number_c clock hc _))
                | (go_at_call 21; exact quiet_ext (Word_c kind _))
            go_big_quiet_on)))
  refine wpQuiet_nil ?_
  intro w1 hw1
  obtain ⟨pr, hw1⟩ := hw1
  have hx01 : Ext w0 w1 := hw1 ▸ ext_grow _ _
  have hx1 := hx0.trans hx01
  clear hw1 hw0 hc0 hc1
  have A : Six w1 w.heap.size 34 (.int .u64 clock) (.int .i64 kind) (.string name) (.string hold) (.string dest) (.int .u64 ticks) := But.heap hx01 hb id
  clear hb
  have a2 := A.c2
  have hq := quoteS_len name
  have hk := hk.out
  obtain rfl := hk
  have hlt3 := decDigits_le ticks ht
  go_wp2_with fail
  go_at_call 22
  refine (HNM.out _).mono ?_
  rintro e w3 ⟨rfl, hx3⟩
  have A3 := Six.ext A hx3
  have hx3' : Ext w w3 := hx1.trans hx3
  obtain ⟨p0, p1, p2, p3, p4, p5, -⟩ := A3.all
  clear A a2 HNM hx0 hx01 hx1
  all_goals go_wp2_with (first
    | (go_at_call 20
       refine (HT.out _).mono ?_
       rintro e w4 ⟨rfl, hx4⟩
       have hx4' : Ext w w4 := hx3'.trans hx4)
    | (go_at_call 23
       refine (Holder_c _ _ (by first | exact hh | exact hto)).mono ?_
       rintro e w5 ⟨rfl, rfl⟩))
  all_goals try (exfalso; omega)
  all_goals try (exfalso; have hz1 : holderB (bs hold) = true := by first | assumption | (simpa using (by assumption : (!holderB (bs hold)) = false))
                 have hz2 := holderB_size hz1
                 first
                   | omega
                   | (have hz3 : holderB (bs dest) = true := by first | assumption | (simpa using (by assumption : (!holderB (bs dest)) = false))
                      have hz4 := holderB_size hz3
                      omega))
  all_goals go_ret2
  all_goals (clear hb1 hb2 hb3 hlc hlw hlt3 A3 HT)
  all_goals refine ⟨?_, by first | with_reducible exact hx3' | with_reducible exact hx4'⟩
  all_goals have hN := named_f hB
  all_goals clear hB
  all_goals (first
    | (refine congrArg Ending.returned ?_
       rw [show lineOf clock 4 (bs name) (bs hold) (bs dest) ticks (quoteS name) = none from by simp_all [lineOf, bs_toList]]
       rfl)
    | (refine congrArg Ending.returned ?_
       rw [show lineOf clock 4 (bs name) (bs hold) (bs dest) ticks (quoteS name) = some (Lib.decDigits clock ++ 32 :: wordS 4 ++ 32 :: quoteS name) from by simp_all [lineOf, bs_toList]]
       refine lineV_some ?_
       simp [bs, ByteArray.toList_data_append]))
end Lr
end Go.Proofs.YtlgagbglldehjaaDoor
/- guiseref22.Line: kind 5 (7: none). -/
namespace Go.Proofs.YtlgagbglldehjaaDoor
set_option linter.unusedVariables false
set_option linter.unusedSimpArgs false
open Go Go.RowKit Pj Fe St Gh Ln Lm Lq
namespace Lr
set_option maxHeartbeats 4000000 in
set_option maxRecDepth 100000 in
theorem RLine5t (clock ticks : Nat) (kind : Int) (name hold dest : ByteArray) (hc : clock < 18446744073709551616) (ht : ticks < 18446744073709551616) (hn : name.size ≤ 1000000) (hh : hold.size ≤ 9223372036854775807) (hto : dest.size ≤ 9223372036854775807) (w : World) (hk : Hid (kind = 5)) (hB : namedB name = true) :
    Calls Tryd.prog 9 #[.agg #[.int .u64 clock, .int .i64 kind, .string name, .string hold, .string dest, .int .u64 ticks]] w fun e w' => e = .returned (lineV (lineOf clock kind (bs name) (bs hold) (bs dest) ticks (quoteS name))) ∧ Ext w w' := by
  have hnm := fun W => named_c name W hn
  rw [namedV_t hB] at hnm
  have HNM := Lib.hid hnm
  clear hnm
  have HT := Lib.hid (fun W => number_c ticks ht W)
  have hb := blk_new w (.cells #[.int .u64 clock, .int .i64 kind, .string name, .string hold, .string dest, .int .u64 ticks] 34)
  generalize hw0 : w.alloc (.cells #[.int .u64 clock, .int .i64 kind, .string name, .string hold, .string dest, .int .u64 ticks] 34) = w0 at hb
  have hx0 : Ext w w0 := by subst hw0; exact (But.refl _ w).alloc _
  have hc0 : ∀ d os, (Sort.grow (redrawn w0 d) os).cell? ⟨w.heap.size, 0, none⟩ = some (.int .u64 clock) := fun d os => cell_regrown ((blk_cell hb).trans rfl) d os
  have hc1 : ∀ d os, (Sort.grow (redrawn w0 d) os).cell? ⟨w.heap.size, 1, none⟩ = some (.int .i64 kind) := fun d os => cell_regrown ((blk_cell hb).trans rfl) d os
  have hlc : (Lib.decDigits clock).length ≤ 20 := decDigits_le clock hc
  have hlw : (wordS kind).length ≤ 8 := by unfold wordS; repeat (split; · simp)
                                           simp
  have hb1 : ¬ 9223372036854775807 < (Lib.decDigits clock).length + 1 := by omega
  have hb2 : ¬ 9223372036854775807 < (Lib.decDigits clock).length + 1 + (wordS kind).length := by omega
  have hb3 : ¬ 9223372036854775807 < (Lib.decDigits clock).length + 1 + (wordS kind).length + 1 := by omega
  go_enter Tryd.func9, Tryd.ntmps9
  go_wp2_with fail
  try rw [hw0]
  refine wp_region_quiet_below (by kernel_rfl) (by kernel_rfl) ?_
  repeat (first
    | go_big_quiet_skip
    | (go_big_quiet_want
       go_big_quiet_op
       first
         | go_big_quiet_on
         | (apply Exists.intro
            refine ⟨fun _ => ?_, ?_⟩
            · first
                | (go_at_call 20; exact quiet_ext (number_c clock hc _))
                | (go_at_call 21; exact quiet_ext (Word_c kind _))
            go_big_quiet_on)))
  refine wpQuiet_nil ?_
  intro w1 hw1
  obtain ⟨pr, hw1⟩ := hw1
  have hx01 : Ext w0 w1 := hw1 ▸ ext_grow _ _
  have hx1 := hx0.trans hx01
  clear hw1 hw0 hc0 hc1
  have A : Six w1 w.heap.size 34 (.int .u64 clock) (.int .i64 kind) (.string name) (.string hold) (.string dest) (.int .u64 ticks) := But.heap hx01 hb id
  clear hb
  have a2 := A.c2
  have hq := quoteS_len name
  have hk := hk.out
  obtain rfl := hk
  have hlt3 := decDigits_le ticks ht
  go_wp2_with fail
  go_at_call 22
  refine (HNM.out _).mono ?_
  rintro e w3 ⟨rfl, hx3⟩
  have A3 := Six.ext A hx3
  have hx3' : Ext w w3 := hx1.trans hx3
  obtain ⟨p0, p1, p2, p3, p4, p5, -⟩ := A3.all
  clear A a2 HNM hx0 hx01 hx1
  all_goals go_wp2_with (first
    | (go_at_call 20
       refine (HT.out _).mono ?_
       rintro e w4 ⟨rfl, hx4⟩
       have hx4' : Ext w w4 := hx3'.trans hx4)
    | (go_at_call 23
       refine (Holder_c _ _ (by first | exact hh | exact hto)).mono ?_
       rintro e w5 ⟨rfl, rfl⟩))
  all_goals try (exfalso; omega)
  all_goals try (exfalso; have hz1 : holderB (bs hold) = true := by first | assumption | (simpa using (by assumption : (!holderB (bs hold)) = false))
                 have hz2 := holderB_size hz1
                 first
                   | omega
                   | (have hz3 : holderB (bs dest) = true := by first | assumption | (simpa using (by assumption : (!holderB (bs dest)) = false))
                      have hz4 := holderB_size hz3
                      omega))
  all_goals go_ret2
  all_goals (clear hb1 hb2 hb3 hlc hlw hlt3 A3 HT)
  all_goals refine ⟨?_, by first | with_reducible exact hx3' | with_reducible exact hx4'⟩
  all_goals have hN := named_t hB
  all_goals clear hB
  all_goals (first
    | (refine congrArg Ending.returned ?_
       rw [show lineOf clock 5 (bs name) (bs hold) (bs dest) ticks (quoteS name) = none from by simp_all [lineOf, bs_toList]]
       rfl)
    | (refine congrArg Ending.returned ?_
       rw [show lineOf clock 5 (bs name) (bs hold) (bs dest) ticks (quoteS name) = some (Lib.decDigits clock ++ 32 :: wordS 5 ++ 32 :: quoteS name) from by simp_all [lineOf, bs_toList]]
       refine lineV_some ?_
       simp [bs, ByteArray.toList_data_append]))
set_option maxHeartbeats 4000000 in
set_option maxRecDepth 100000 in
theorem RLine5f (clock ticks : Nat) (kind : Int) (name hold dest : ByteArray) (hc : clock < 18446744073709551616) (ht : ticks < 18446744073709551616) (hn : name.size ≤ 1000000) (hh : hold.size ≤ 9223372036854775807) (hto : dest.size ≤ 9223372036854775807) (w : World) (hk : Hid (kind = 5)) (hB : namedB name = false) :
    Calls Tryd.prog 9 #[.agg #[.int .u64 clock, .int .i64 kind, .string name, .string hold, .string dest, .int .u64 ticks]] w fun e w' => e = .returned (lineV (lineOf clock kind (bs name) (bs hold) (bs dest) ticks (quoteS name))) ∧ Ext w w' := by
  have hnm := fun W => named_c name W hn
  rw [namedV_f hB] at hnm
  have HNM := Lib.hid hnm
  clear hnm
  have HT := Lib.hid (fun W => number_c ticks ht W)
  have hb := blk_new w (.cells #[.int .u64 clock, .int .i64 kind, .string name, .string hold, .string dest, .int .u64 ticks] 34)
  generalize hw0 : w.alloc (.cells #[.int .u64 clock, .int .i64 kind, .string name, .string hold, .string dest, .int .u64 ticks] 34) = w0 at hb
  have hx0 : Ext w w0 := by subst hw0; exact (But.refl _ w).alloc _
  have hc0 : ∀ d os, (Sort.grow (redrawn w0 d) os).cell? ⟨w.heap.size, 0, none⟩ = some (.int .u64 clock) := fun d os => cell_regrown ((blk_cell hb).trans rfl) d os
  have hc1 : ∀ d os, (Sort.grow (redrawn w0 d) os).cell? ⟨w.heap.size, 1, none⟩ = some (.int .i64 kind) := fun d os => cell_regrown ((blk_cell hb).trans rfl) d os
  have hlc : (Lib.decDigits clock).length ≤ 20 := decDigits_le clock hc
  have hlw : (wordS kind).length ≤ 8 := by unfold wordS; repeat (split; · simp)
                                           simp
  have hb1 : ¬ 9223372036854775807 < (Lib.decDigits clock).length + 1 := by omega
  have hb2 : ¬ 9223372036854775807 < (Lib.decDigits clock).length + 1 + (wordS kind).length := by omega
  have hb3 : ¬ 9223372036854775807 < (Lib.decDigits clock).length + 1 + (wordS kind).length + 1 := by omega
  go_enter Tryd.func9, Tryd.ntmps9
  go_wp2_with fail
  try rw [hw0]
  refine wp_region_quiet_below (by kernel_rfl) (by kernel_rfl) ?_
  repeat (first
    | go_big_quiet_skip
    | (go_big_quiet_want
       go_big_quiet_op
       first
         | go_big_quiet_on
         | (apply Exists.intro
            refine ⟨fun _ => ?_, ?_⟩
            · first
                | (go_at_call 20; exact quiet_ext (number_c clock hc _))
                | (go_at_call 21; exact quiet_ext (Word_c kind _))
            go_big_quiet_on)))
  refine wpQuiet_nil ?_
  intro w1 hw1
  obtain ⟨pr, hw1⟩ := hw1
  have hx01 : Ext w0 w1 := hw1 ▸ ext_grow _ _
  have hx1 := hx0.trans hx01
  clear hw1 hw0 hc0 hc1
  have A : Six w1 w.heap.size 34 (.int .u64 clock) (.int .i64 kind) (.string name) (.string hold) (.string dest) (.int .u64 ticks) := But.heap hx01 hb id
  clear hb
  have a2 := A.c2
  have hq := quoteS_len name
  have hk := hk.out
  obtain rfl := hk
  have hlt3 := decDigits_le ticks ht
  go_wp2_with fail
  go_at_call 22
  refine (HNM.out _).mono ?_
  rintro e w3 ⟨rfl, hx3⟩
  have A3 := Six.ext A hx3
  have hx3' : Ext w w3 := hx1.trans hx3
  obtain ⟨p0, p1, p2, p3, p4, p5, -⟩ := A3.all
  clear A a2 HNM hx0 hx01 hx1
  all_goals go_wp2_with (first
    | (go_at_call 20
       refine (HT.out _).mono ?_
       rintro e w4 ⟨rfl, hx4⟩
       have hx4' : Ext w w4 := hx3'.trans hx4)
    | (go_at_call 23
       refine (Holder_c _ _ (by first | exact hh | exact hto)).mono ?_
       rintro e w5 ⟨rfl, rfl⟩))
  all_goals try (exfalso; omega)
  all_goals try (exfalso; have hz1 : holderB (bs hold) = true := by first | assumption | (simpa using (by assumption : (!holderB (bs hold)) = false))
                 have hz2 := holderB_size hz1
                 first
                   | omega
                   | (have hz3 : holderB (bs dest) = true := by first | assumption | (simpa using (by assumption : (!holderB (bs dest)) = false))
                      have hz4 := holderB_size hz3
                      omega))
  all_goals go_ret2
  all_goals (clear hb1 hb2 hb3 hlc hlw hlt3 A3 HT)
  all_goals refine ⟨?_, by first | with_reducible exact hx3' | with_reducible exact hx4'⟩
  all_goals have hN := named_f hB
  all_goals clear hB
  all_goals (first
    | (refine congrArg Ending.returned ?_
       rw [show lineOf clock 5 (bs name) (bs hold) (bs dest) ticks (quoteS name) = none from by simp_all [lineOf, bs_toList]]
       rfl)
    | (refine congrArg Ending.returned ?_
       rw [show lineOf clock 5 (bs name) (bs hold) (bs dest) ticks (quoteS name) = some (Lib.decDigits clock ++ 32 :: wordS 5 ++ 32 :: quoteS name) from by simp_all [lineOf, bs_toList]]
       refine lineV_some ?_
       simp [bs, ByteArray.toList_data_append]))
end Lr
end Go.Proofs.YtlgagbglldehjaaDoor
/- guiseref22.Line: kind 6 (7: none). -/
namespace Go.Proofs.YtlgagbglldehjaaDoor
set_option linter.unusedVariables false
set_option linter.unusedSimpArgs false
open Go Go.RowKit Pj Fe St Gh Ln Lm Lq
namespace Lr
set_option maxHeartbeats 4000000 in
set_option maxRecDepth 100000 in
theorem RLine6t (clock ticks : Nat) (kind : Int) (name hold dest : ByteArray) (hc : clock < 18446744073709551616) (ht : ticks < 18446744073709551616) (hn : name.size ≤ 1000000) (hh : hold.size ≤ 9223372036854775807) (hto : dest.size ≤ 9223372036854775807) (w : World) (hk : Hid (kind = 6)) (hB : namedB name = true) :
    Calls Tryd.prog 9 #[.agg #[.int .u64 clock, .int .i64 kind, .string name, .string hold, .string dest, .int .u64 ticks]] w fun e w' => e = .returned (lineV (lineOf clock kind (bs name) (bs hold) (bs dest) ticks (quoteS name))) ∧ Ext w w' := by
  have hnm := fun W => named_c name W hn
  rw [namedV_t hB] at hnm
  have HNM := Lib.hid hnm
  clear hnm
  have HT := Lib.hid (fun W => number_c ticks ht W)
  have hb := blk_new w (.cells #[.int .u64 clock, .int .i64 kind, .string name, .string hold, .string dest, .int .u64 ticks] 34)
  generalize hw0 : w.alloc (.cells #[.int .u64 clock, .int .i64 kind, .string name, .string hold, .string dest, .int .u64 ticks] 34) = w0 at hb
  have hx0 : Ext w w0 := by subst hw0; exact (But.refl _ w).alloc _
  have hc0 : ∀ d os, (Sort.grow (redrawn w0 d) os).cell? ⟨w.heap.size, 0, none⟩ = some (.int .u64 clock) := fun d os => cell_regrown ((blk_cell hb).trans rfl) d os
  have hc1 : ∀ d os, (Sort.grow (redrawn w0 d) os).cell? ⟨w.heap.size, 1, none⟩ = some (.int .i64 kind) := fun d os => cell_regrown ((blk_cell hb).trans rfl) d os
  have hlc : (Lib.decDigits clock).length ≤ 20 := decDigits_le clock hc
  have hlw : (wordS kind).length ≤ 8 := by unfold wordS; repeat (split; · simp)
                                           simp
  have hb1 : ¬ 9223372036854775807 < (Lib.decDigits clock).length + 1 := by omega
  have hb2 : ¬ 9223372036854775807 < (Lib.decDigits clock).length + 1 + (wordS kind).length := by omega
  have hb3 : ¬ 9223372036854775807 < (Lib.decDigits clock).length + 1 + (wordS kind).length + 1 := by omega
  go_enter Tryd.func9, Tryd.ntmps9
  go_wp2_with fail
  try rw [hw0]
  refine wp_region_quiet_below (by kernel_rfl) (by kernel_rfl) ?_
  repeat (first
    | go_big_quiet_skip
    | (go_big_quiet_want
       go_big_quiet_op
       first
         | go_big_quiet_on
         | (apply Exists.intro
            refine ⟨fun _ => ?_, ?_⟩
            · first
                | (go_at_call 20; exact quiet_ext (number_c clock hc _))
                | (go_at_call 21; exact quiet_ext (Word_c kind _))
            go_big_quiet_on)))
  refine wpQuiet_nil ?_
  intro w1 hw1
  obtain ⟨pr, hw1⟩ := hw1
  have hx01 : Ext w0 w1 := hw1 ▸ ext_grow _ _
  have hx1 := hx0.trans hx01
  clear hw1 hw0 hc0 hc1
  have A : Six w1 w.heap.size 34 (.int .u64 clock) (.int .i64 kind) (.string name) (.string hold) (.string dest) (.int .u64 ticks) := But.heap hx01 hb id
  clear hb
  have a2 := A.c2
  have hq := quoteS_len name
  have hk := hk.out
  obtain rfl := hk
  have hlt3 := decDigits_le ticks ht
  go_wp2_with fail
  go_at_call 22
  refine (HNM.out _).mono ?_
  rintro e w3 ⟨rfl, hx3⟩
  have A3 := Six.ext A hx3
  have hx3' : Ext w w3 := hx1.trans hx3
  obtain ⟨p0, p1, p2, p3, p4, p5, -⟩ := A3.all
  clear A a2 HNM hx0 hx01 hx1
  all_goals go_wp2_with (first
    | (go_at_call 20
       refine (HT.out _).mono ?_
       rintro e w4 ⟨rfl, hx4⟩
       have hx4' : Ext w w4 := hx3'.trans hx4)
    | (go_at_call 23
       refine (Holder_c _ _ (by first | exact hh | exact hto)).mono ?_
       rintro e w5 ⟨rfl, rfl⟩))
  all_goals try (exfalso; omega)
  all_goals try (exfalso; have hz1 : holderB (bs hold) = true := by first | assumption | (simpa using (by assumption : (!holderB (bs hold)) = false))
                 have hz2 := holderB_size hz1
                 first
                   | omega
                   | (have hz3 : holderB (bs dest) = true := by first | assumption | (simpa using (by assumption : (!holderB (bs dest)) = false))
                      have hz4 := holderB_size hz3
                      omega))
  all_goals go_ret2
  all_goals (clear hb1 hb2 hb3 hlc hlw hlt3 A3 HT)
  all_goals refine ⟨?_, by first | with_reducible exact hx3' | with_reducible exact hx4'⟩
  all_goals have hN := named_t hB
  all_goals clear hB
  all_goals (first
    | (refine congrArg Ending.returned ?_
       rw [show lineOf clock 6 (bs name) (bs hold) (bs dest) ticks (quoteS name) = none from by simp_all [lineOf, bs_toList]]
       rfl)
    | (refine congrArg Ending.returned ?_
       rw [show lineOf clock 6 (bs name) (bs hold) (bs dest) ticks (quoteS name) = some (Lib.decDigits clock ++ 32 :: wordS 6 ++ 32 :: Lib.decDigits ticks) from by simp_all [lineOf, bs_toList]]
       refine lineV_some ?_
       simp [bs, ByteArray.toList_data_append]))
set_option maxHeartbeats 4000000 in
set_option maxRecDepth 100000 in
theorem RLine6f (clock ticks : Nat) (kind : Int) (name hold dest : ByteArray) (hc : clock < 18446744073709551616) (ht : ticks < 18446744073709551616) (hn : name.size ≤ 1000000) (hh : hold.size ≤ 9223372036854775807) (hto : dest.size ≤ 9223372036854775807) (w : World) (hk : Hid (kind = 6)) (hB : namedB name = false) :
    Calls Tryd.prog 9 #[.agg #[.int .u64 clock, .int .i64 kind, .string name, .string hold, .string dest, .int .u64 ticks]] w fun e w' => e = .returned (lineV (lineOf clock kind (bs name) (bs hold) (bs dest) ticks (quoteS name))) ∧ Ext w w' := by
  have hnm := fun W => named_c name W hn
  rw [namedV_f hB] at hnm
  have HNM := Lib.hid hnm
  clear hnm
  have HT := Lib.hid (fun W => number_c ticks ht W)
  have hb := blk_new w (.cells #[.int .u64 clock, .int .i64 kind, .string name, .string hold, .string dest, .int .u64 ticks] 34)
  generalize hw0 : w.alloc (.cells #[.int .u64 clock, .int .i64 kind, .string name, .string hold, .string dest, .int .u64 ticks] 34) = w0 at hb
  have hx0 : Ext w w0 := by subst hw0; exact (But.refl _ w).alloc _
  have hc0 : ∀ d os, (Sort.grow (redrawn w0 d) os).cell? ⟨w.heap.size, 0, none⟩ = some (.int .u64 clock) := fun d os => cell_regrown ((blk_cell hb).trans rfl) d os
  have hc1 : ∀ d os, (Sort.grow (redrawn w0 d) os).cell? ⟨w.heap.size, 1, none⟩ = some (.int .i64 kind) := fun d os => cell_regrown ((blk_cell hb).trans rfl) d os
  have hlc : (Lib.decDigits clock).length ≤ 20 := decDigits_le clock hc
  have hlw : (wordS kind).length ≤ 8 := by unfold wordS; repeat (split; · simp)
                                           simp
  have hb1 : ¬ 9223372036854775807 < (Lib.decDigits clock).length + 1 := by omega
  have hb2 : ¬ 9223372036854775807 < (Lib.decDigits clock).length + 1 + (wordS kind).length := by omega
  have hb3 : ¬ 9223372036854775807 < (Lib.decDigits clock).length + 1 + (wordS kind).length + 1 := by omega
  go_enter Tryd.func9, Tryd.ntmps9
  go_wp2_with fail
  try rw [hw0]
  refine wp_region_quiet_below (by kernel_rfl) (by kernel_rfl) ?_
  repeat (first
    | go_big_quiet_skip
    | (go_big_quiet_want
       go_big_quiet_op
       first
         | go_big_quiet_on
         | (apply Exists.intro
            refine ⟨fun _ => ?_, ?_⟩
            · first
                | (go_at_call 20; exact quiet_ext (number_c clock hc _))
                | (go_at_call 21; exact quiet_ext (Word_c kind _))
            go_big_quiet_on)))
  refine wpQuiet_nil ?_
  intro w1 hw1
  obtain ⟨pr, hw1⟩ := hw1
  have hx01 : Ext w0 w1 := hw1 ▸ ext_grow _ _
  have hx1 := hx0.trans hx01
  clear hw1 hw0 hc0 hc1
  have A : Six w1 w.heap.size 34 (.int .u64 clock) (.int .i64 kind) (.string name) (.string hold) (.string dest) (.int .u64 ticks) := But.heap hx01 hb id
  clear hb
  have a2 := A.c2
  have hq := quoteS_len name
  have hk := hk.out
  obtain rfl := hk
  have hlt3 := decDigits_le ticks ht
  go_wp2_with fail
  go_at_call 22
  refine (HNM.out _).mono ?_
  rintro e w3 ⟨rfl, hx3⟩
  have A3 := Six.ext A hx3
  have hx3' : Ext w w3 := hx1.trans hx3
  obtain ⟨p0, p1, p2, p3, p4, p5, -⟩ := A3.all
  clear A a2 HNM hx0 hx01 hx1
  all_goals go_wp2_with (first
    | (go_at_call 20
       refine (HT.out _).mono ?_
       rintro e w4 ⟨rfl, hx4⟩
       have hx4' : Ext w w4 := hx3'.trans hx4)
    | (go_at_call 23
       refine (Holder_c _ _ (by first | exact hh | exact hto)).mono ?_
       rintro e w5 ⟨rfl, rfl⟩))
  all_goals try (exfalso; omega)
  all_goals try (exfalso; have hz1 : holderB (bs hold) = true := by first | assumption | (simpa using (by assumption : (!holderB (bs hold)) = false))
                 have hz2 := holderB_size hz1
                 first
                   | omega
                   | (have hz3 : holderB (bs dest) = true := by first | assumption | (simpa using (by assumption : (!holderB (bs dest)) = false))
                      have hz4 := holderB_size hz3
                      omega))
  all_goals go_ret2
  all_goals (clear hb1 hb2 hb3 hlc hlw hlt3 A3 HT)
  all_goals refine ⟨?_, by first | with_reducible exact hx3' | with_reducible exact hx4'⟩
  all_goals have hN := named_f hB
  all_goals clear hB
  all_goals (first
    | (refine congrArg Ending.returned ?_
       rw [show lineOf clock 6 (bs name) (bs hold) (bs dest) ticks (quoteS name) = none from by simp_all [lineOf, bs_toList]]
       rfl)
    | (refine congrArg Ending.returned ?_
       rw [show lineOf clock 6 (bs name) (bs hold) (bs dest) ticks (quoteS name) = some (Lib.decDigits clock ++ 32 :: wordS 6 ++ 32 :: Lib.decDigits ticks) from by simp_all [lineOf, bs_toList]]
       refine lineV_some ?_
       simp [bs, ByteArray.toList_data_append]))
end Lr
end Go.Proofs.YtlgagbglldehjaaDoor
/- guiseref22.Line: kind 7 (7: none). -/
namespace Go.Proofs.YtlgagbglldehjaaDoor
set_option linter.unusedVariables false
set_option linter.unusedSimpArgs false
open Go Go.RowKit Pj Fe St Gh Ln Lm Lq
namespace Lr
set_option maxHeartbeats 4000000 in
set_option maxRecDepth 100000 in
theorem RLine7t (clock ticks : Nat) (kind : Int) (name hold dest : ByteArray) (hc : clock < 18446744073709551616) (ht : ticks < 18446744073709551616) (hn : name.size ≤ 1000000) (hh : hold.size ≤ 9223372036854775807) (hto : dest.size ≤ 9223372036854775807) (w : World) (hk : Hid (kind ≠ 1 ∧ kind ≠ 2 ∧ kind ≠ 3 ∧ kind ≠ 4 ∧ kind ≠ 5 ∧ kind ≠ 6)) (hB : namedB name = true) :
    Calls Tryd.prog 9 #[.agg #[.int .u64 clock, .int .i64 kind, .string name, .string hold, .string dest, .int .u64 ticks]] w fun e w' => e = .returned (lineV (lineOf clock kind (bs name) (bs hold) (bs dest) ticks (quoteS name))) ∧ Ext w w' := by
  have hnm := fun W => named_c name W hn
  rw [namedV_t hB] at hnm
  have HNM := Lib.hid hnm
  clear hnm
  have HT := Lib.hid (fun W => number_c ticks ht W)
  have hb := blk_new w (.cells #[.int .u64 clock, .int .i64 kind, .string name, .string hold, .string dest, .int .u64 ticks] 34)
  generalize hw0 : w.alloc (.cells #[.int .u64 clock, .int .i64 kind, .string name, .string hold, .string dest, .int .u64 ticks] 34) = w0 at hb
  have hx0 : Ext w w0 := by subst hw0; exact (But.refl _ w).alloc _
  have hc0 : ∀ d os, (Sort.grow (redrawn w0 d) os).cell? ⟨w.heap.size, 0, none⟩ = some (.int .u64 clock) := fun d os => cell_regrown ((blk_cell hb).trans rfl) d os
  have hc1 : ∀ d os, (Sort.grow (redrawn w0 d) os).cell? ⟨w.heap.size, 1, none⟩ = some (.int .i64 kind) := fun d os => cell_regrown ((blk_cell hb).trans rfl) d os
  have hlc : (Lib.decDigits clock).length ≤ 20 := decDigits_le clock hc
  have hlw : (wordS kind).length ≤ 8 := by unfold wordS; repeat (split; · simp)
                                           simp
  have hb1 : ¬ 9223372036854775807 < (Lib.decDigits clock).length + 1 := by omega
  have hb2 : ¬ 9223372036854775807 < (Lib.decDigits clock).length + 1 + (wordS kind).length := by omega
  have hb3 : ¬ 9223372036854775807 < (Lib.decDigits clock).length + 1 + (wordS kind).length + 1 := by omega
  go_enter Tryd.func9, Tryd.ntmps9
  go_wp2_with fail
  try rw [hw0]
  refine wp_region_quiet_below (by kernel_rfl) (by kernel_rfl) ?_
  repeat (first
    | go_big_quiet_skip
    | (go_big_quiet_want
       go_big_quiet_op
       first
         | go_big_quiet_on
         | (apply Exists.intro
            refine ⟨fun _ => ?_, ?_⟩
            · first
                | (go_at_call 20; exact quiet_ext (number_c clock hc _))
                | (go_at_call 21; exact quiet_ext (Word_c kind _))
            go_big_quiet_on)))
  refine wpQuiet_nil ?_
  intro w1 hw1
  obtain ⟨pr, hw1⟩ := hw1
  have hx01 : Ext w0 w1 := hw1 ▸ ext_grow _ _
  have hx1 := hx0.trans hx01
  clear hw1 hw0 hc0 hc1
  have A : Six w1 w.heap.size 34 (.int .u64 clock) (.int .i64 kind) (.string name) (.string hold) (.string dest) (.int .u64 ticks) := But.heap hx01 hb id
  clear hb
  have a2 := A.c2
  have hq := quoteS_len name
  have hk := hk.out
  obtain ⟨n1, n2, n3, n4, n5, n6⟩ := hk
  have hw7 : wordS kind = [] := by simp [wordS, n1, n2, n3, n4, n5, n6]
  have hlt3 := decDigits_le ticks ht
  go_wp2_with fail
  go_at_call 22
  refine (HNM.out _).mono ?_
  rintro e w3 ⟨rfl, hx3⟩
  have A3 := Six.ext A hx3
  have hx3' : Ext w w3 := hx1.trans hx3
  obtain ⟨p0, p1, p2, p3, p4, p5, -⟩ := A3.all
  clear A a2 HNM hx0 hx01 hx1
  all_goals go_wp2_with (first
    | (go_at_call 20
       refine (HT.out _).mono ?_
       rintro e w4 ⟨rfl, hx4⟩
       have hx4' : Ext w w4 := hx3'.trans hx4)
    | (go_at_call 23
       refine (Holder_c _ _ (by first | exact hh | exact hto)).mono ?_
       rintro e w5 ⟨rfl, rfl⟩))
  all_goals try (exfalso; omega)
  all_goals try (exfalso; have hz1 : holderB (bs hold) = true := by first | assumption | (simpa using (by assumption : (!holderB (bs hold)) = false))
                 have hz2 := holderB_size hz1
                 first
                   | omega
                   | (have hz3 : holderB (bs dest) = true := by first | assumption | (simpa using (by assumption : (!holderB (bs dest)) = false))
                      have hz4 := holderB_size hz3
                      omega))
  all_goals go_ret2
  all_goals (clear hb1 hb2 hb3 hlc hlw hlt3 A3 HT)
  all_goals refine ⟨?_, by first | with_reducible exact hx3' | with_reducible exact hx4'⟩
  all_goals have hN := named_t hB
  all_goals clear hB
  all_goals (first
    | (refine congrArg Ending.returned ?_
       rw [show lineOf clock kind (bs name) (bs hold) (bs dest) ticks (quoteS name) = none from by simp_all [lineOf, bs_toList]]
       rfl)
    | (refine congrArg Ending.returned ?_
       rw [show lineOf clock kind (bs name) (bs hold) (bs dest) ticks (quoteS name) = some (Lib.decDigits clock ++ 32 :: wordS 7 ++ 32 :: quoteS name) from by simp_all [lineOf, bs_toList]]
       refine lineV_some ?_
       simp [bs, ByteArray.toList_data_append]))
set_option maxHeartbeats 4000000 in
set_option maxRecDepth 100000 in
theorem RLine7f (clock ticks : Nat) (kind : Int) (name hold dest : ByteArray) (hc : clock < 18446744073709551616) (ht : ticks < 18446744073709551616) (hn : name.size ≤ 1000000) (hh : hold.size ≤ 9223372036854775807) (hto : dest.size ≤ 9223372036854775807) (w : World) (hk : Hid (kind ≠ 1 ∧ kind ≠ 2 ∧ kind ≠ 3 ∧ kind ≠ 4 ∧ kind ≠ 5 ∧ kind ≠ 6)) (hB : namedB name = false) :
    Calls Tryd.prog 9 #[.agg #[.int .u64 clock, .int .i64 kind, .string name, .string hold, .string dest, .int .u64 ticks]] w fun e w' => e = .returned (lineV (lineOf clock kind (bs name) (bs hold) (bs dest) ticks (quoteS name))) ∧ Ext w w' := by
  have hnm := fun W => named_c name W hn
  rw [namedV_f hB] at hnm
  have HNM := Lib.hid hnm
  clear hnm
  have HT := Lib.hid (fun W => number_c ticks ht W)
  have hb := blk_new w (.cells #[.int .u64 clock, .int .i64 kind, .string name, .string hold, .string dest, .int .u64 ticks] 34)
  generalize hw0 : w.alloc (.cells #[.int .u64 clock, .int .i64 kind, .string name, .string hold, .string dest, .int .u64 ticks] 34) = w0 at hb
  have hx0 : Ext w w0 := by subst hw0; exact (But.refl _ w).alloc _
  have hc0 : ∀ d os, (Sort.grow (redrawn w0 d) os).cell? ⟨w.heap.size, 0, none⟩ = some (.int .u64 clock) := fun d os => cell_regrown ((blk_cell hb).trans rfl) d os
  have hc1 : ∀ d os, (Sort.grow (redrawn w0 d) os).cell? ⟨w.heap.size, 1, none⟩ = some (.int .i64 kind) := fun d os => cell_regrown ((blk_cell hb).trans rfl) d os
  have hlc : (Lib.decDigits clock).length ≤ 20 := decDigits_le clock hc
  have hlw : (wordS kind).length ≤ 8 := by unfold wordS; repeat (split; · simp)
                                           simp
  have hb1 : ¬ 9223372036854775807 < (Lib.decDigits clock).length + 1 := by omega
  have hb2 : ¬ 9223372036854775807 < (Lib.decDigits clock).length + 1 + (wordS kind).length := by omega
  have hb3 : ¬ 9223372036854775807 < (Lib.decDigits clock).length + 1 + (wordS kind).length + 1 := by omega
  go_enter Tryd.func9, Tryd.ntmps9
  go_wp2_with fail
  try rw [hw0]
  refine wp_region_quiet_below (by kernel_rfl) (by kernel_rfl) ?_
  repeat (first
    | go_big_quiet_skip
    | (go_big_quiet_want
       go_big_quiet_op
       first
         | go_big_quiet_on
         | (apply Exists.intro
            refine ⟨fun _ => ?_, ?_⟩
            · first
                | (go_at_call 20; exact quiet_ext (number_c clock hc _))
                | (go_at_call 21; exact quiet_ext (Word_c kind _))
            go_big_quiet_on)))
  refine wpQuiet_nil ?_
  intro w1 hw1
  obtain ⟨pr, hw1⟩ := hw1
  have hx01 : Ext w0 w1 := hw1 ▸ ext_grow _ _
  have hx1 := hx0.trans hx01
  clear hw1 hw0 hc0 hc1
  have A : Six w1 w.heap.size 34 (.int .u64 clock) (.int .i64 kind) (.string name) (.string hold) (.string dest) (.int .u64 ticks) := But.heap hx01 hb id
  clear hb
  have a2 := A.c2
  have hq := quoteS_len name
  have hk := hk.out
  obtain ⟨n1, n2, n3, n4, n5, n6⟩ := hk
  have hw7 : wordS kind = [] := by simp [wordS, n1, n2, n3, n4, n5, n6]
  have hlt3 := decDigits_le ticks ht
  go_wp2_with fail
  go_at_call 22
  refine (HNM.out _).mono ?_
  rintro e w3 ⟨rfl, hx3⟩
  have A3 := Six.ext A hx3
  have hx3' : Ext w w3 := hx1.trans hx3
  obtain ⟨p0, p1, p2, p3, p4, p5, -⟩ := A3.all
  clear A a2 HNM hx0 hx01 hx1
  all_goals go_wp2_with (first
    | (go_at_call 20
       refine (HT.out _).mono ?_
       rintro e w4 ⟨rfl, hx4⟩
       have hx4' : Ext w w4 := hx3'.trans hx4)
    | (go_at_call 23
       refine (Holder_c _ _ (by first | exact hh | exact hto)).mono ?_
       rintro e w5 ⟨rfl, rfl⟩))
  all_goals try (exfalso; omega)
  all_goals try (exfalso; have hz1 : holderB (bs hold) = true := by first | assumption | (simpa using (by assumption : (!holderB (bs hold)) = false))
                 have hz2 := holderB_size hz1
                 first
                   | omega
                   | (have hz3 : holderB (bs dest) = true := by first | assumption | (simpa using (by assumption : (!holderB (bs dest)) = false))
                      have hz4 := holderB_size hz3
                      omega))
  all_goals go_ret2
  all_goals (clear hb1 hb2 hb3 hlc hlw hlt3 A3 HT)
  all_goals refine ⟨?_, by first | with_reducible exact hx3' | with_reducible exact hx4'⟩
  all_goals have hN := named_f hB
  all_goals clear hB
  all_goals (first
    | (refine congrArg Ending.returned ?_
       rw [show lineOf clock kind (bs name) (bs hold) (bs dest) ticks (quoteS name) = none from by simp_all [lineOf, bs_toList]]
       rfl)
    | (refine congrArg Ending.returned ?_
       rw [show lineOf clock kind (bs name) (bs hold) (bs dest) ticks (quoteS name) = some (Lib.decDigits clock ++ 32 :: wordS 7 ++ 32 :: quoteS name) from by simp_all [lineOf, bs_toList]]
       refine lineV_some ?_
       simp [bs, ByteArray.toList_data_append]))
end Lr
end Go.Proofs.YtlgagbglldehjaaDoor
/- guiselaw22.JournalLine: its walk. -/
namespace Go.Proofs.YtlgagbglldehjaaDoor
set_option linter.unusedVariables false
set_option linter.unusedSimpArgs false
open Go Go.RowKit Pj J1 St Es Rf Rp Rr Kn Fe Gh Ln Lm Lq
namespace Lj
theorem RLine_c (clock ticks : Nat) (kind : Int) (name hold dest : ByteArray) (hc : clock < 18446744073709551616) (ht : ticks < 18446744073709551616) (hn : name.size ≤ 1000000) (hh : hold.size ≤ 9223372036854775807) (hto : dest.size ≤ 9223372036854775807) (w : World) :
    Calls Tryd.prog 9 #[.agg #[.int .u64 clock, .int .i64 kind, .string name, .string hold, .string dest, .int .u64 ticks]] w fun e w' => e = .returned (lineV (lineOf clock kind (bs name) (bs hold) (bs dest) ticks (quoteS name))) ∧ Ext w w' := by
  cases hB : namedB name with
  | true =>
    by_cases h1 : kind = 1
    · exact Lr.RLine1t clock ticks kind name hold dest hc ht hn hh hto w (Lib.hid h1) hB
    by_cases h2 : kind = 2
    · exact Lr.RLine2t clock ticks kind name hold dest hc ht hn hh hto w (Lib.hid h2) hB
    by_cases h3 : kind = 3
    · exact Lr.RLine3t clock ticks kind name hold dest hc ht hn hh hto w (Lib.hid h3) hB
    by_cases h4 : kind = 4
    · exact Lr.RLine4t clock ticks kind name hold dest hc ht hn hh hto w (Lib.hid h4) hB
    by_cases h5 : kind = 5
    · exact Lr.RLine5t clock ticks kind name hold dest hc ht hn hh hto w (Lib.hid h5) hB
    by_cases h6 : kind = 6
    · exact Lr.RLine6t clock ticks kind name hold dest hc ht hn hh hto w (Lib.hid h6) hB
    exact Lr.RLine7t clock ticks kind name hold dest hc ht hn hh hto w (Lib.hid ⟨h1, h2, h3, h4, h5, h6⟩) hB
  | false =>
    by_cases h1 : kind = 1
    · exact Lr.RLine1f clock ticks kind name hold dest hc ht hn hh hto w (Lib.hid h1) hB
    by_cases h2 : kind = 2
    · exact Lr.RLine2f clock ticks kind name hold dest hc ht hn hh hto w (Lib.hid h2) hB
    by_cases h3 : kind = 3
    · exact Lr.RLine3f clock ticks kind name hold dest hc ht hn hh hto w (Lib.hid h3) hB
    by_cases h4 : kind = 4
    · exact Lr.RLine4f clock ticks kind name hold dest hc ht hn hh hto w (Lib.hid h4) hB
    by_cases h5 : kind = 5
    · exact Lr.RLine5f clock ticks kind name hold dest hc ht hn hh hto w (Lib.hid h5) hB
    by_cases h6 : kind = 6
    · exact Lr.RLine6f clock ticks kind name hold dest hc ht hn hh hto w (Lib.hid h6) hB
    exact Lr.RLine7f clock ticks kind name hold dest hc ht hn hh hto w (Lib.hid ⟨h1, h2, h3, h4, h5, h6⟩) hB
set_option maxHeartbeats 1000000 in
set_option maxRecDepth 100000 in
theorem few_c (s : ByteArray) (w : World) (hs : s.size ≤ 9223372036854775807) :
    Calls Tryd.prog 7 #[.string s, .int .i64 5000] w fun e w' => ∃ t : ByteArray, t.size ≤ 5000 ∧ e = .returned (.string t) ∧ w = w' := by
  by_cases h : 5000 < s.size
  · have g : 5000 < (s.size : Int) := by omega
    have hz : (s.extract 0 5000).size ≤ 5000 := by simp; omega
    go_enter Tryd.func7, Tryd.ntmps7
    go_wp2
    go_ret
    exact ⟨_, hz, rfl, rfl⟩
  · have g : ¬ 5000 < (s.size : Int) := by omega
    have hz : s.size ≤ 5000 := by omega
    go_enter Tryd.func7, Tryd.ntmps7
    go_wp2
    go_ret
    exact ⟨_, hz, rfl, rfl⟩
set_option maxHeartbeats 1000000 in
set_option maxRecDepth 100000 in
theorem plain_c (clock ticks : Nat) (kind : Int) (name hold dest : ByteArray) (w : World) :
    Calls Tryd.prog 10 #[.agg #[.int .u64 clock, .int .i64 kind, .string name, .string hold, .string dest, .int .u64 ticks]] w fun e w' => e = .returned (.agg #[.int .u64 clock, .int .i64 kind, .string name, .string hold, .string dest, .int .u64 ticks]) ∧ Ext w w' := by
  go_enter Tryd.func10, Tryd.ntmps10
  go_wp2
  refine bodyPost_ret (v := .agg #[.int .u64 clock, .int .i64 kind, .string name, .string hold, .string dest, .int .u64 ticks]) (by simp [results, Tryd.results10, go_sem]) rfl ⟨rfl, ?_⟩
  exact ((But.refl _ _).alloc _).alloc _
theorem blk_new3 (w : World) (o o' : Obj) : ((w.alloc o).alloc o').heap[w.heap.size + 1]? = some o' := by
  have h := blk_new (w.alloc o) o'
  have e : (w.alloc o).heap.size = w.heap.size + 1 := by simp
  rw [e] at h; exact h
theorem lineV_form (o : Option Bs) : ∃ (S : ByteArray) (E : Int), lineV o = .tuple #[.string S, .int .i64 E] := by
  cases o with
  | none => exact ⟨_, _, rfl⟩
  | some l => exact ⟨_, _, rfl⟩
set_option maxHeartbeats 4000000 in
set_option maxRecDepth 100000 in
theorem JLine_c (clock ticks : Nat) (kind : Int) (name hold dest : ByteArray) (w : World) (hc : clock < 18446744073709551616) (ht : ticks < 18446744073709551616) (hn : name.size ≤ 9223372036854775807) (hh : hold.size ≤ 9223372036854775807) (hd : dest.size ≤ 9223372036854775807) (hT : Tabs w) :
    Calls Tryd.prog 3 #[.int .u64 clock, .agg #[.int .i64 kind, .string name, .string hold, .string dest, .int .u64 ticks]] w fun e w' => e = .returned (.bool true) ∧ Ext w w' := by
  have HF := Lib.hid (fun W => few_c name W hn)
  clear hn
  go_enter Tryd.func3, Tryd.ntmps3
  go_wp2_with fail
  go_at_call 7
  refine (HF.out _).mono ?_
  rintro e0 w0 ⟨t, ht5, rfl, rfl⟩
  have hl := fun W hW => Line_c clock ticks kind t hold dest hc ht (by omega) hh hd W hW
  have hr := fun W => RLine_c clock ticks kind t hold dest hc ht (by omega) hh hd W
  obtain ⟨S, E, hS⟩ := lineV_form (lineOf clock kind (bs t) (bs hold) (bs dest) ticks (quoteS t))
  rw [hS] at hl hr
  have HL := Lib.hid hl
  have HR := Lib.hid hr
  clear hl hr hS HF hc ht hh hd ht5
  go_wp2_with fail
  go_at_call 8
  refine (HL.out _ (hT.ext ?x1)).mono ?_
  case x1 => exact ((But.refl _ _).alloc _).alloc _
  rintro e1 w1 ⟨rfl, hx1⟩
  have A : Six w1 (w.heap.size + 1) 27 (.int .u64 clock) (.int .i64 kind) (.string t) (.string hold) (.string dest) (.int .u64 ticks) := Six.ext (blk_new3 _ _ _) hx1
  have hy1 : Ext w w1 := (((But.refl _ _).alloc _).alloc _).trans hx1
  clear hx1 HL
  obtain ⟨a0, a1, a2, a3, a4, a5, -⟩ := A.all
  go_wp2_with fail
  go_at_call 10
  refine (plain_c clock ticks kind t hold dest _).mono ?_
  rintro e2 w2 ⟨rfl, hx2⟩
  have hy2 := hy1.trans hx2
  clear hx2 A a0 a1 a2 a3 a4 a5
  go_wp2_with fail
  go_at_call 9
  refine (HR.out _).mono ?_
  rintro e3 w3 ⟨rfl, hx3⟩
  have hy3 := hy2.trans hx3
  clear hx3 hy1 hy2 HR
  go_wp2_with fail
  go_at_call 11
  refine (known_c _ (hT.ext hy3)).mono ?_
  rintro e4 w4 ⟨rfl, hx4⟩
  have hy4 := hy3.trans hx4
  clear hx4 hy3
  go_wp2
  go_ret
  exact ⟨rfl, hy4⟩
end Lj
end Go.Proofs.YtlgagbglldehjaaDoor
