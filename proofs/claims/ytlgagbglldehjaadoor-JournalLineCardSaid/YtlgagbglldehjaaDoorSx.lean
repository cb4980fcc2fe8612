/- strconv.FormatInt in base 16 at small numbers. -/
import Derived.Test.YtlgagbglldehjaaDoorSt
import Derived.Test.YtlgagbglldehjaaDoorPn
import Derived.LoopN
import Derived.Laws.BitsLemmas
namespace Go.Proofs.YtlgagbglldehjaaDoor
set_option linter.unusedVariables false
set_option linter.unusedSimpArgs false
open Go Go.RowKit
namespace St
set_option maxHeartbeats 400000 in
theorem pow2_c (w : World) : Calls Tryd.prog 68 #[.int .i64 16] w fun e w' => e = .returned (.bool true) ∧ w = w' := by
  go_enter Tryd.func68, Tryd.ntmps68
  go_wp2
  go_ret
  exact ⟨by simp; decide, rfl⟩
set_option maxHeartbeats 400000 in
theorem tz64_c (w : World) (hT : Tabs w) : Calls Tryd.prog 75 #[.int .u64 16] w fun e w' => e = .returned (.int .i64 4) ∧ w = w' := by
  have hc : w.cell? ⟨4, 15, none⟩ = some (.int .u8 4) := hT.db.cell gDb 15 (by decide)
  have h1 : bits BinOp.and IntKind.u64 16 (IntKind.u64.wrap (-16)) = 16 := by decide
  have h2 : IntKind.u64.wrap 4573923408821661840 = 4573923408821661840 := by decide
  go_enter Tryd.func75, Tryd.ntmps75
  go_wp2
  go_ret
  exact ⟨rfl, rfl⟩
set_option maxHeartbeats 400000 in
theorem tz_c (w : World) (hT : Tabs w) : Calls Tryd.prog 69 #[.int .u64 16] w fun e w' => e = .returned (.int .i64 4) ∧ w = w' := by
  go_enter Tryd.func69, Tryd.ntmps69
  go_wp2_with (go_at_call 75; refine (tz64_c _ hT).mono ?_; rintro e w1 ⟨rfl, rfl⟩)
  go_ret
  exact ⟨rfl, rfl⟩

theorem and15 (u : Nat) (hu : u < 256) : bits BinOp.and IntKind.u64 (u : Int) 15 = ((u % 16 : Nat) : Int) := by
  have h := bits_mask .u64 63 (by decide) (fun n h0 h1 => by simp [IntKind.wrap, IntKind.bits, IntKind.signed]; omega) 4 (by decide) (u : Int) (by omega) (by omega)
  simpa using h

theorem conv_at (W : World) (b o n cap : Nat) (l : List UInt8) (hn : l.length = n) (hc : ∀ j (hj : j < l.length), W.cell? ⟨b, o + j, none⟩ = some (.int .u8 (l[j].toNat : Int))) :
    (convert 61 9 (.slice (some ⟨b, o, none⟩) n cap)).run Tryd.prog W = .ok (.string ⟨l.toArray⟩) W := by
  subst hn
  exact run_convert_bytes_back W 61 9 5 ⟨b, o, none⟩ cap l Tryd.underlying61 Tryd.underlying5 Tryd.underlying9 fun j hj => by rw [Lib.add_plain]; exact hc j hj
abbrev digs : ByteArray := ⟨#[48, 49, 50, 51, 52, 53, 54, 55, 56, 57, 97, 98, 99, 100, 101, 102, 103, 104, 105, 106, 107, 108, 109, 110, 111, 112, 113, 114, 115, 116, 117, 118, 119, 120, 121, 122]⟩
theorem digs_get (k : Nat) (h : k < digs.size) (hk : k < 16) : digs[k] = hexd k := by
  have h1 : ∀ i : Fin 16, digs[i.1]'(Nat.lt_trans i.2 (by decide)) = hexd i.1 := by decide
  exact h1 ⟨k, hk⟩

set_option maxHeartbeats 1000000 in
set_option maxRecDepth 100000 in
theorem formatBits_c (u : Nat) (hu : u < 256) (w : World) (hT : Tabs w) :
    Calls Tryd.prog 56 #[.slice none 0 0, .int .u64 u, .int .i64 16, .bool false, .bool false] w fun e w' => e = .returned (.tuple #[.slice none 0 0, .string ⟨(hexS u).toArray⟩]) ∧ Ext w w' := by
  have h1 := and15 u hu
  by_cases h : u < 16
  · go_enter Tryd.func56, Tryd.ntmps56
    go_wp2_with (first | (go_at_call 68; refine (pow2_c _).mono ?_; rintro e w1 ⟨rfl, rfl⟩) | (go_at_call 69; refine (tz_c _ (hT.ext ((But.refl _ w).alloc _))).mono ?_; rintro e w1 ⟨rfl, rfl⟩))
    refine wp_loop_rounds 1 ?_
    rw [rounds_succ]
    go_wp2
    have hx : hexS u = [hexd u] := if_pos h
    rw [conv_at _ w.heap.size 64 1 1 (hexS u) (by rw [hx]; rfl) ?c1]
    case c1 =>
      intro j hj
      simp only [hx, List.length_cons, List.length_nil] at hj ⊢
      obtain rfl : j = 0 := by omega
      rw [World.cell?_alloc_new]
      exact congrArg (fun b : UInt8 => some (Value.int .u8 (b.toNat : Int))) (digs_get u _ h)
    simp only [Result.andThen]
    rw [Oper.upon_value]
    go_wp2
    go_ret2
    refine ⟨?_, (But.refl _ w).alloc _⟩
    simp [hx]
  · have h2 : u / 16 < 16 := by omega
    go_enter Tryd.func56, Tryd.ntmps56
    go_wp2_with (first | (go_at_call 68; refine (pow2_c _).mono ?_; rintro e w1 ⟨rfl, rfl⟩) | (go_at_call 69; refine (tz_c _ (hT.ext ((But.refl _ w).alloc _))).mono ?_; rintro e w1 ⟨rfl, rfl⟩))
    refine wp_loop_rounds 2 ?_
    rw [rounds_succ]
    go_wp2
    rw [rounds_succ]
    go_wp2
    have hx : hexS u = [hexd (u / 16), hexd (u % 16)] := if_neg h
    rw [conv_at _ w.heap.size 63 2 2 (hexS u) (by rw [hx]; rfl) ?c1]
    case c1 =>
      intro j hj
      simp only [hx, List.length_cons, List.length_nil] at hj ⊢
      rw [World.cell?_alloc_new]
      obtain rfl | rfl : j = 0 ∨ j = 1 := by omega
      · exact congrArg (fun b : UInt8 => some (Value.int .u8 (b.toNat : Int))) (digs_get (u / 16) _ h2)
      · exact congrArg (fun b : UInt8 => some (Value.int .u8 (b.toNat : Int))) (digs_get (u % 16) _ (Nat.mod_lt _ (by decide)))
    simp only [Result.andThen]
    rw [Oper.upon_value]
    go_wp2
    go_ret2
    refine ⟨?_, (But.refl _ w).alloc _⟩
    simp [hx]
end St
end Go.Proofs.YtlgagbglldehjaaDoor
