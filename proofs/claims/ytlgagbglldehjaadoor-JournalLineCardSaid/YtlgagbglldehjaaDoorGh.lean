/- guiseref22's small functions: Word, hidden, hex, Holder, letter. -/
import Derived.Test.YtlgagbglldehjaaDoorGs
import Derived.Test.YtlgagbglldehjaaDoorRo
import Derived.BigQuiet
namespace Go.Proofs.YtlgagbglldehjaaDoor
set_option linter.unusedVariables false
set_option linter.unusedSimpArgs false
open Go Go.RowKit Pj Fe St
namespace Gh
set_option maxHeartbeats 1000000 in
theorem Word_c (k : Int) (w : World) :
    Calls Tryd.prog 21 #[.int .i64 k] w fun e w' => e = .returned (.string ⟨(wordS k).toArray⟩) ∧ Ext w w' := by
  by_cases h : 1 ≤ k ∧ k ≤ 6
  · rcases (by omega : k = 1 ∨ k = 2 ∨ k = 3 ∨ k = 4 ∨ k = 5 ∨ k = 6) with rfl | rfl | rfl | rfl | rfl | rfl
    all_goals
      go_enter Tryd.func21, Tryd.ntmps21
      go_wp2
      go_ret
      exact ⟨rfl, (But.refl _ _).alloc _⟩
  · have hz : wordS k = [] := by
      unfold wordS
      rw [if_neg (by omega), if_neg (by omega), if_neg (by omega), if_neg (by omega), if_neg (by omega), if_neg (by omega)]
    rw [hz]
    clear hz
    rcases (by omega : k < 1 ∨ 7 ≤ k) with h1 | h1
    · clear h
      go_enter Tryd.func21, Tryd.ntmps21
      go_wp2
      go_ret
      exact ⟨rfl, (But.refl _ _).alloc _⟩
    · have h2 : ¬ k < 1 := by omega
      clear h
      go_enter Tryd.func21, Tryd.ntmps21
      go_wp2
      go_ret
      exact ⟨rfl, (But.refl _ _).alloc _⟩
set_option maxHeartbeats 400000 in
theorem hidden_c (r : Int) (w : World) :
    Calls Tryd.prog 39 #[.int .i32 r] w fun e w' => e = .returned (.bool (hiddenB r)) ∧ w = w' := by
  go_enter Tryd.func39, Tryd.ntmps39
  go_wp2
  all_goals (go_ret; refine ⟨ret_bool ?_, rfl⟩)
  all_goals (unfold hiddenB; simp; try omega)
/-- sixteen digits -/
abbrev hexDigs : ByteArray := ⟨#[48, 49, 50, 51, 52, 53, 54, 55, 56, 57, 97, 98, 99, 100, 101, 102]⟩
theorem hex_one : ∀ r : Nat, r < 16 → hexDigs.extract r (r + 1) = ⟨#[hexd r]⟩ := by decide +kernel
theorem and15 : ∀ r : Nat, r < 128 → bits BinOp.and IntKind.i32 (r : Int) 15 = ((r % 16 : Nat) : Int) := by decide +kernel
set_option maxHeartbeats 1000000 in
set_option maxRecDepth 100000 in
theorem hex_c (r : Nat) (hr : r < 128) (w : World) :
    Calls Tryd.prog 40 #[.int .i32 r] w fun e w' => e = .returned (.string ⟨(hexS r).toArray⟩) ∧ ∃ n, w' = w.drewN n := by
  by_cases h : r < 16
  · have g : (r : Int) < 16 := by omega
    go_enter Tryd.func40, Tryd.ntmps40
    go_wp2
    go_ret
    refine ⟨ret_string ?_, 0, rfl⟩
    rw [hex_one r h]
    unfold hexS; rw [if_pos h]
  · have g : ¬ (r : Int) < 16 := by omega
    obtain ⟨p, hp⟩ : ∃ p, r / 16 = p := ⟨_, rfl⟩
    obtain ⟨q, hq⟩ : ∃ q, r % 16 = q := ⟨_, rfl⟩
    have g2 : (r : Int) / 16 = (p : Int) := by omega
    have g3 := and15 r hr
    rw [hq] at g3
    have hp8 : p < 8 := by omega
    have hq8 : q < 16 := by omega
    have g4 : IntKind.i32.wrap ((p : Int) + 1) = (p : Int) + 1 := by simp [IntKind.wrap, IntKind.bits, IntKind.signed]; omega
    have g5 : IntKind.i32.wrap ((q : Int) + 1) = (q : Int) + 1 := by simp [IntKind.wrap, IntKind.bits, IntKind.signed]; omega
    have g6 : (p : Int) + 1 ≤ 16 := by omega
    have g7 : (q : Int) + 1 ≤ 16 := by omega
    have HX : Hid (hexS r = [hexd p, hexd q]) := by unfold Hid hexS; rw [if_neg h, hp, hq]
    clear hp hq
    go_enter Tryd.func40, Tryd.ntmps40
    go_wp2
    go_region
    go_wp2
    go_ret
    refine ⟨ret_string ?_, 1, rfl⟩
    rw [hex_one p (by omega), hex_one q hq8, HX.out]
    rfl
/-- a holder's byte, as the reference tests it -/
theorem letter_not {c : Nat} (h : letterB (c : Int) = false) : (c : Int) ≠ 45 ∧ ((c : Int) < 97 ∨ 122 < (c : Int)) ∧ ((c : Int) < 48 ∨ 57 < (c : Int)) := by
  simp only [letterB, Bool.or_eq_false_iff, Bool.and_eq_false_iff, decide_eq_false_iff_not, beq_eq_false_iff_ne] at h
  omega
theorem letter_yes {c : Nat} (h : letterB (c : Int) = true) : (c : Int) = 45 ∨ (97 ≤ (c : Int) ∧ (c : Int) ≤ 122) ∨ (48 ≤ (c : Int) ∧ (c : Int) ≤ 57) := by
  simp only [letterB, Bool.or_eq_true, Bool.and_eq_true, decide_eq_true_eq, beq_iff_eq] at h
  omega
theorem letters_take {l : Bs} {k : Nat} (h : k < l.length) : letters (l.take (k + 1)) = (letters (l.take k) && letterB (l[k].toNat : Int)) := by
  unfold letters
  rw [List.take_succ_eq_append_getElem h, List.all_append]; simp
theorem letters_bad {l : Bs} {k : Nat} (h : k < l.length) (hb : letterB (l[k].toNat : Int) = false) : letters l = false := by
  cases e : letters l with
  | false => rfl
  | true =>
    have := List.all_eq_true.1 e l[k] (List.getElem_mem h)
    rw [hb] at this; cases this
set_option maxHeartbeats 2000000 in
set_option maxRecDepth 100000 in
theorem Holder_c (s : ByteArray) (w : World) (hs : s.size ≤ 9223372036854775807) :
    Calls Tryd.prog 23 #[.string s] w fun e w' => e = .returned (.bool (holderB (bs s))) ∧ w = w' := by
  go_enter Tryd.func23, Tryd.ntmps23
  go_wp2
  go_loop [3] (fun i => ∃ k : Nat, k ≤ s.size ∧ i = .int .i64 k ∧ Hid (letters ((bs s).take k) = true)) (fun i => s.size - (intOf i).toNat)
  case atStart => exact ⟨0, by omega, rfl, rfl⟩
  case round =>
    obtain ⟨k, hk, rfl, HL⟩ := hrel
    by_cases hlt : k < s.size
    · have hkl : k < (bs s).length := by rw [bs_len]; exact hlt
      cases hc : letterB (s[k].toNat : Int) with
      | true =>
        have HN : Hid (letters ((bs s).take (k + 1)) = true) := by
          rw [letters_take hkl, HL.out, bs_get s k hlt, hc]; rfl
        have hy := letter_yes hc
        clear hc
        have h45 : ∀ b, (((s[k].toNat : Int) != 45) = b) = (((s[k].toNat : Int) != 45) = b) := fun _ => rfl
        clear h45
        rcases hy with hy | hy | hy
        · have g1 : ((s[k].toNat : Int) != 45) = false := by simp [hy]
          clear hy
          go_wp2
          go_round
          case rel => exact ⟨k + 1, by omega, by go_num, HN⟩
          case measure => simp [intOf]; omega
        · obtain ⟨y1, y2⟩ := hy
          have g1 : ((s[k].toNat : Int) != 45) = true := by simp only [bne_iff_ne, ne_eq]; omega
          go_wp2
          go_round
          case rel => exact ⟨k + 1, by omega, by go_num, HN⟩
          case measure => simp [intOf]; omega
        · obtain ⟨y1, y2⟩ := hy
          have g1 : ((s[k].toNat : Int) != 45) = true := by simp only [bne_iff_ne, ne_eq]; omega
          have g2 : (s[k].toNat : Int) < 97 := by omega
          go_wp2
          go_round
          case rel => exact ⟨k + 1, by omega, by go_num, HN⟩
          case measure => simp [intOf]; omega
      | false =>
        have HN : Hid (holderB (bs s) = false) := by
          unfold holderB; rw [letters_bad hkl (by rw [bs_get s k hlt]; exact hc)]; rfl
        obtain ⟨y1, y2, y3⟩ := letter_not hc
        have g1 : ((s[k].toNat : Int) != 45) = true := by simp only [bne_iff_ne, ne_eq]; exact y1
        clear hc y1
        rcases y2 with y2 | y2
        · rcases y3 with y3 | y3
          all_goals
            go_wp2
            all_goals
              go_ret
              exact ⟨ret_bool HN.out.symm, rfl⟩
        · rcases y3 with y3 | y3
          all_goals
            go_wp2
            all_goals
              go_ret
              exact ⟨ret_bool HN.out.symm, rfl⟩
    · obtain rfl : k = s.size := by omega
      have hl : letters (bs s) = true := by have := HL.out; rwa [← bs_len, List.take_length] at this
      have HH : Hid (holderB (bs s) = (decide (1 ≤ s.size) && decide (s.size ≤ 32))) := by
        unfold Hid holderB; rw [hl, bs_len]; simp
      clear hl HL
      by_cases h0 : 0 < s.size
      · by_cases h32 : s.size ≤ 32
        · have g0 : 0 < (s.size : Int) := by omega
          have g1 : (s.size : Int) ≤ 32 := by omega
          go_wp2
          go_ret
          exact ⟨ret_bool (by rw [HH.out, decide_eq_true (by omega : 1 ≤ s.size), decide_eq_true h32]; rfl), rfl⟩
        · have g0 : 0 < (s.size : Int) := by omega
          have g1 : ¬ (s.size : Int) ≤ 32 := by omega
          go_wp2
          go_ret
          exact ⟨ret_bool (by rw [HH.out, decide_eq_false h32]; simp), rfl⟩
      · have g0 : ¬ 0 < (s.size : Int) := by omega
        go_wp2
        go_ret
        exact ⟨ret_bool (by rw [HH.out, decide_eq_false (by omega : ¬ 1 ≤ s.size)]; rfl), rfl⟩
end Gh
end Go.Proofs.YtlgagbglldehjaaDoor
