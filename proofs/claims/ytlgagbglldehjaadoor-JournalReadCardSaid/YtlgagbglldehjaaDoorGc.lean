/- guiseref22.could. -/
import Derived.Test.YtlgagbglldehjaaDoorGs
import Derived.Test.YtlgagbglldehjaaDoorCv
import Derived.BigQuiet
import Derived.Lib.Hide
namespace Go.Proofs.YtlgagbglldehjaaDoor
set_option linter.unusedVariables false
set_option linter.unusedSimpArgs false
open Go Go.RowKit Pj Fe Gs
namespace Gc
def Miss (s : ByteArray) (n : Nat) : Prop := ∀ t ∈ couldT.take n, seqN (bs s ++ t) < (bs s).length
theorem miss_next {s : ByteArray} {n : Nat} {t : Bs} (h : Miss s n) (ht : couldT[n]? = some t) (hm : seqN (bs s ++ t) < (bs s).length) : Miss s (n + 1) := by
  intro u hu
  rw [List.take_add_one, ht] at hu
  rcases List.mem_append.1 hu with hu | hu
  · exact h u hu
  · have : u = t := by simpa using hu
    subst this; exact hm
theorem miss_all {s : ByteArray} (h : Miss s 16) : couldF (bs s) = false := could_no fun t ht => h t (by
  rw [List.take_of_length_le (by decide)]; exact ht)
theorem hit {s : ByteArray} {n : Nat} {t : Bs} (ht : couldT[n]? = some t) (hm : (bs s).length ≤ seqN (bs s ++ t)) : couldF (bs s) = true := could_yes t (List.mem_of_getElem? ht) hm
theorem bs_app (s t : ByteArray) : bs (s ++ t) = bs s ++ bs t := by simp [bs, ByteArray.toList_data_append]
/-- the bytes that are tried, by the three counters -/
def bA (a : Nat) : UInt8 := if a = 0 then 0x90 else 0x8f
def bB (a : Nat) : UInt8 := if a = 0 then 0x80 else 0xbf
def bC (a : Nat) : UInt8 := if a = 0 then 0xa0 else 0x80
theorem tryT (a b c : Nat) (ha : a < 2) (hb : b < 2) (hc : c < 2) : couldT[8 * a + 4 * b + 2 * c]? = some [bA a, bB b, bB c] ∧ couldT[8 * a + 4 * b + 2 * c + 1]? = some [bC a, 0x80, 0x80] := by
  rcases (by omega : a = 0 ∨ a = 1) with rfl | rfl <;> rcases (by omega : b = 0 ∨ b = 1) with rfl | rfl <;> rcases (by omega : c = 0 ∨ c = 1) with rfl | rfl <;> exact ⟨rfl, rfl⟩
theorem getA (a : Nat) (ha : a < 2) : ∀ h, ([.int .u8 144, .int .u8 143] : List Value)[a]'h = .int .u8 ((bA a).toNat : Int) := by
  intro _
  rcases (by omega : a = 0 ∨ a = 1) with rfl | rfl <;> rfl
theorem getB (a : Nat) (ha : a < 2) : ∀ h, ([.int .u8 128, .int .u8 191] : List Value)[a]'h = .int .u8 ((bB a).toNat : Int) := by
  intro _
  rcases (by omega : a = 0 ∨ a = 1) with rfl | rfl <;> rfl
theorem getC (a : Nat) (ha : a < 2) : ∀ h, ([.int .u8 160, .int .u8 128] : List Value)[a]'h = .int .u8 ((bC a).toNat : Int) := by
  intro _
  rcases (by omega : a = 0 ∨ a = 1) with rfl | rfl <;> rfl
set_option maxHeartbeats 4000000 in
set_option maxRecDepth 100000 in
theorem could_c (s : ByteArray) (w : World) (hs : s.size ≤ 9223372036854775800) :
    Calls Tryd.prog 64 #[.string s] w fun e w' => e = .returned (.bool (couldF (bs s))) ∧ Ext w w' := by
  have hb1 : ¬ 9223372036854775807 < s.size + 3 := by omega
  go_enter Tryd.func64, Tryd.ntmps64
  go_wp2
  go_loopw [3] (fun i wr => ∃ a : Nat, a ≤ 2 ∧ i = .int .i64 a ∧ Hid (Miss s (8 * a)) ∧ Ext w wr) (fun i _ => 2 - (intOf i).toNat)
  case atStart => exact ⟨0, by omega, rfl, fun t ht => by simp at ht, But.refl _ _⟩
  case round =>
    obtain ⟨a, ha, rfl, HM, hx⟩ := hrel
    by_cases hlt : a < 2
    · have ga : (a : Int) < 2 := by omega
      go_wp2
      go_loopw [4] (fun i wr => ∃ b : Nat, b ≤ 2 ∧ i = .int .i64 b ∧ Hid (Miss s (8 * a + 4 * b)) ∧ Ext w wr) (fun i _ => 2 - (intOf i).toNat)
      case atStart => exact ⟨0, by omega, rfl, HM, hx⟩
      case round =>
        clear HM hx
        obtain ⟨b, hb, rfl, HM, hx⟩ := hrel
        by_cases hlt2 : b < 2
        · have gb : (b : Int) < 2 := by omega
          go_wp2
          go_loopw [5] (fun i wr => ∃ c : Nat, c ≤ 2 ∧ i = .int .i64 c ∧ Hid (Miss s (8 * a + 4 * b + 2 * c)) ∧ Ext w wr) (fun i _ => 2 - (intOf i).toNat)
          case atStart => exact ⟨0, by omega, rfl, HM, hx⟩
          case round =>
            clear HM hx
            obtain ⟨c, hc, rfl, HM, hx⟩ := hrel
            by_cases hlt3 : c < 2
            · have gc : (c : Int) < 2 := by omega
              obtain ⟨t1, t2⟩ := tryT a b c hlt hlt2 hlt3
              have kA := getA a hlt
              have kB := getB b hlt2
              have kB2 := getB c hlt3
              have kC := getC a hlt
              have H1 : Hid (couldT[8 * a + 4 * b + 2 * c]? = some (bs ⟨#[bA a, bB b, bB c]⟩)) := t1
              have H2 : Hid (couldT[8 * a + 4 * b + 2 * c + 1]? = some (bs ⟨#[bC a, 0x80, 0x80]⟩)) := t2
              clear t1 t2
              have kd := fun w g hg => Cv.kc3d (bA a) (bB b) (bB c) _ _ _ rfl rfl rfl w g hg
              have ka := fun w g hg => Cv.kc3 (bC a) 0x80 0x80 _ 128 128 rfl rfl rfl w g hg
              have kad := fun w g hg => Cv.kc3d (bC a) 0x80 0x80 _ 128 128 rfl rfl rfl w g hg
              have S1 := fun W => Sequence_c (s ++ ⟨#[bA a, bB b, bB c]⟩) W (by rw [ByteArray.size_append]; show s.size + 3 ≤ _; omega)
              have S2 := fun W => Sequence_c (s ++ ⟨#[bC a, 0x80, 0x80]⟩) W (by rw [ByteArray.size_append]; show s.size + 3 ≤ _; omega)
              have HS1 := Lib.hid S1
              have HS2 := Lib.hid S2
              clear S1 S2
              go_wp2_with fail
              go_region
              all_goals
                clear kd kA kB kB2
                go_wp2_with fail
                go_at_call 60
                refine (HS1.out _).mono ?_
                rintro e1 w1 ⟨r1, rfl, rfl⟩
                by_cases m1 : s.size ≤ seqN (bs (s ++ ⟨#[bA a, bB b, bB c]⟩))
                · have hit1 : Hid (couldF (bs s) = true) := hit H1.out (by rw [← bs_app, bs_len]; exact m1)
                  generalize seqN (bs (s ++ ⟨#[bA a, bB b, bB c]⟩)) = n1 at *
                  have m2 : (s.size : Int) ≤ n1 := by omega
                  go_wp2
                  go_ret
                  refine ⟨ret_bool hit1.out.symm, ?_⟩
                  repeat (first | exact hx | with_reducible refine But.drew ?_ | with_reducible refine But.alloc ?_ _)
                · have miss1 : Hid (Miss s (8 * a + 4 * b + 2 * c + 1)) := miss_next HM.out H1.out (by rw [← bs_app, bs_len]; omega)
                  generalize seqN (bs (s ++ ⟨#[bA a, bB b, bB c]⟩)) = n1 at *
                  have m2 : (n1 : Int) < s.size := by omega
                  go_wp2_with fail
                  go_at_call 60
                  refine (HS2.out _).mono ?_
                  rintro e2 w2 ⟨r2, rfl, rfl⟩
                  by_cases m3 : s.size ≤ seqN (bs (s ++ ⟨#[bC a, 0x80, 0x80]⟩))
                  · have hit1 : Hid (couldF (bs s) = true) := hit H2.out (by rw [← bs_app, bs_len]; exact m3)
                    generalize seqN (bs (s ++ ⟨#[bC a, 0x80, 0x80]⟩)) = n2 at *
                    have m4 : (s.size : Int) ≤ n2 := by omega
                    go_wp2
                    go_ret
                    refine ⟨ret_bool hit1.out.symm, ?_⟩
                    repeat (first | exact hx | with_reducible refine But.drew ?_ | with_reducible refine But.alloc ?_ _)
                  · have miss2 : Hid (Miss s (8 * a + 4 * b + 2 * (c + 1))) := miss_next miss1.out H2.out (by rw [← bs_app, bs_len]; omega)
                    generalize seqN (bs (s ++ ⟨#[bC a, 0x80, 0x80]⟩)) = n2 at *
                    have m4 : (n2 : Int) < s.size := by omega
                    go_wp2
                    go_roundw
                    case rel =>
                      refine ⟨c + 1, by omega, by go_num, miss2, ?_⟩
                      repeat (first | exact hx | with_reducible refine But.drew ?_ | with_reducible refine But.alloc ?_ _)
                    case measure => simp [intOf]; omega
            · obtain rfl : c = 2 := by omega
              go_wp2
              go_roundw
              case rel => exact ⟨b + 1, by omega, by go_num, HM, hx⟩
              case measure => simp [intOf]; omega
        · obtain rfl : b = 2 := by omega
          go_wp2
          go_roundw
          case rel => exact ⟨a + 1, by omega, by go_num, HM, hx⟩
          case measure => simp [intOf]; omega
    · obtain rfl : a = 2 := by omega
      have hno := miss_all HM.out
      have HN := Lib.hid hno
      clear hno
      go_wp2
      go_ret
      exact ⟨ret_bool HN.out.symm, hx⟩
end Gc
end Go.Proofs.YtlgagbglldehjaaDoor
