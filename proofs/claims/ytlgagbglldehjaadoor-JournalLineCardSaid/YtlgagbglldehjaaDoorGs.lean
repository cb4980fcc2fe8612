/- guiseref1.second, guiseref1.Sequence. -/
import Derived.Test.YtlgagbglldehjaaDoorFe
import Derived.Test.YtlgagbglldehjaaDoorRows
import Derived.WalkKit
import Derived.Lib.Hide
namespace Go.Proofs.YtlgagbglldehjaaDoor
set_option linter.unusedVariables false
set_option linter.unusedSimpArgs false
open Go Go.RowKit Pj Fe
namespace Gs
/-- what the second byte of a sequence may be -/
def secLo (c : Nat) : Nat := if Lib.firstT c < 240 then Lib.accLo (Lib.firstT c / 16) else 0
def secHi (c : Nat) : Nat := if Lib.firstT c < 240 then Lib.accHi (Lib.firstT c / 16) else 0
theorem sec_std {c : Nat} (h : (194 ≤ c ∧ c ≤ 223) ∨ (225 ≤ c ∧ c ≤ 236) ∨ c = 238 ∨ c = 239 ∨ (241 ≤ c ∧ c ≤ 243)) : secLo c = 128 ∧ secHi c = 191 := by
  unfold secLo secHi
  rcases (by omega : (194 ≤ c ∧ c < 224) ∨ ((225 ≤ c ∧ c < 237) ∨ (238 ≤ c ∧ c < 240)) ∨ (241 ≤ c ∧ c < 244)) with h | h | h
  · rw [Lib.firstT_C2 h]; exact ⟨rfl, rfl⟩
  · rw [Lib.firstT_E1 h]; exact ⟨rfl, rfl⟩
  · rw [Lib.firstT_F1 h]; exact ⟨rfl, rfl⟩
theorem sec_e0 {c : Nat} (h : c = 224) : secLo c = 160 ∧ secHi c = 191 := by subst h; exact ⟨rfl, rfl⟩
theorem sec_ed {c : Nat} (h : c = 237) : secLo c = 128 ∧ secHi c = 159 := by subst h; exact ⟨rfl, rfl⟩
theorem sec_f0 {c : Nat} (h : c = 240) : secLo c = 144 ∧ secHi c = 191 := by subst h; exact ⟨rfl, rfl⟩
theorem sec_f4 {c : Nat} (h : c = 244) : secLo c = 128 ∧ secHi c = 143 := by subst h; exact ⟨rfl, rfl⟩
theorem sec_no {c : Nat} (h : c < 194 ∨ 244 < c) : secLo c = 0 ∧ secHi c = 0 := by
  unfold secLo secHi
  have : ¬ Lib.firstT c < 240 := fun e => by
    rcases Lib.firstT_low e with e | e | e | e | e | e | e <;> omega
  rw [if_neg this, if_neg this]; exact ⟨rfl, rfl⟩
theorem ret_two {a b : Nat} {x y : Int} (h : x = (a : Int) ∧ y = (b : Int)) : Ending.returned (.tuple #[.int .u8 x, .int .u8 y]) = .returned (.tuple #[.int .u8 a, .int .u8 b]) := by rw [h.1, h.2]
set_option maxHeartbeats 1000000 in
theorem second_c (c : Nat) (hc : c < 256) (w : World) :
    Calls Tryd.prog 73 #[.int .u8 c] w fun e w' => e = .returned (.tuple #[.int .u8 (secLo c), .int .u8 (secHi c)]) ∧ w = w' := by
  go_enter Tryd.func73, Tryd.ntmps73
  go_wp2
  all_goals go_ret2
  all_goals refine ⟨ret_two ?_, rfl⟩
  all_goals (try simp only [beq_iff_eq, beq_eq_false_iff_ne, ne_eq, decide_eq_true_eq, decide_eq_false_iff_not] at *)
  all_goals first
    | (have h := sec_std (c := c) (by omega); rw [h.1, h.2]; exact ⟨rfl, rfl⟩)
    | (have h := sec_e0 (c := c) (by omega); rw [h.1, h.2]; exact ⟨rfl, rfl⟩)
    | (have h := sec_ed (c := c) (by omega); rw [h.1, h.2]; exact ⟨rfl, rfl⟩)
    | (have h := sec_f0 (c := c) (by omega); rw [h.1, h.2]; exact ⟨rfl, rfl⟩)
    | (have h := sec_f4 (c := c) (by omega); rw [h.1, h.2]; exact ⟨rfl, rfl⟩)
    | (have h := sec_no (c := c) (by omega); rw [h.1, h.2]; exact ⟨rfl, rfl⟩)
/-! ### how many bytes the sequence has -/
theorem sec_lead {c : UInt8} (h : leadB c) : secLo c.toNat = Lib.accLo (Lib.firstT c.toNat / 16) ∧ secHi c.toNat = Lib.accHi (Lib.firstT c.toNat / 16) := by
  unfold leadB at h
  exact ⟨if_pos h, if_pos h⟩
theorem sec_not {c : UInt8} (h : ¬ leadB c) : secLo c.toNat = 0 := if_neg h
theorem ok_sec {c d : UInt8} (h : leadB c) : okB c d ↔ secLo c.toNat ≤ d.toNat ∧ d.toNat ≤ secHi c.toNat := by
  rw [(sec_lead h).1, (sec_lead h).2]; exact Iff.rfl
theorem sec_pos {c : UInt8} (h : leadB c) : 128 ≤ secLo c.toNat := by
  rw [(sec_lead h).1]
  rcases Lib.firstT_low h with e | e | e | e | e | e | e
  · rw [Lib.firstT_C2 e]; decide
  · rw [Lib.firstT_E0 e]; decide
  · rw [Lib.firstT_E1 e]; decide
  · rw [Lib.firstT_ED e]; decide
  · rw [Lib.firstT_F0 e]; decide
  · rw [Lib.firstT_F1 e]; decide
  · rw [Lib.firstT_F4 e]; decide
theorem sec_hi {c : UInt8} (h : leadB c) : secHi c.toNat ≤ 191 := by
  rw [(sec_lead h).2]
  rcases Lib.firstT_low h with e | e | e | e | e | e | e
  · rw [Lib.firstT_C2 e]; decide
  · rw [Lib.firstT_E0 e]; decide
  · rw [Lib.firstT_E1 e]; decide
  · rw [Lib.firstT_ED e]; decide
  · rw [Lib.firstT_F0 e]; decide
  · rw [Lib.firstT_F1 e]; decide
  · rw [Lib.firstT_F4 e]; decide
theorem sz_of {c : UInt8} (h : leadB c) : szB c = if 240 ≤ c.toNat then 4 else if 224 ≤ c.toNat then 3 else 2 := by
  rcases lead_parts h with ⟨_, _, e, _⟩ | ⟨_, e, _⟩ | ⟨_, _, e, _⟩ | ⟨_, e, _⟩ | ⟨_, e, _⟩ | ⟨_, _, e, _⟩ | ⟨_, e, _⟩
  all_goals (rw [e]; repeat' split)
  all_goals omega
theorem bs_cons {s : ByteArray} (h : 0 < s.size) : bs s = s[0] :: (bs s).drop 1 := by
  have := bs_drop s 0 h
  rwa [List.drop_zero] at this
theorem bs_getD0 (s : ByteArray) (k : Nat) (h : k < s.size) : (bs s).getD k 0 = s[k] := by
  rw [List.getD_eq_getElem?_getD, List.getElem?_eq_getElem (by rw [bs_len]; exact h)]; rfl
/-- what Sequence answers -/
def SeqPost (s : ByteArray) (w : World) (e : Ending) (w' : World) : Prop := ∃ r : Int, e = .returned (.tuple #[.int .i64 (seqN (bs s)), .int .i32 r]) ∧ w = w'
theorem seq_mk {s : ByteArray} {w : World} {n : Nat} {r : Int} (h : seqN (bs s) = n) : SeqPost s w (.returned (.tuple #[.int .i64 n, .int .i32 r])) w := ⟨r, by rw [h], rfl⟩
set_option maxHeartbeats 2000000 in
set_option maxRecDepth 100000 in
theorem Sequence_c (s : ByteArray) (w : World) (hs : s.size ≤ 9223372036854775807) :
    Calls Tryd.prog 60 #[.string s] w (SeqPost s w) := by
  by_cases h0 : 0 < s.size
  · have hbs := bs_cons h0
    have hlen := bs_len s
    have hdl : ((bs s).drop 1).length = s.size - 1 := by rw [List.length_drop, bs_len]
    have g0 : ((s.size : Int) == 0) = false := beq_eq_false_iff_ne.2 (by omega)
    have hc8 := UInt8.toNat_lt s[0]
    rcases (by omega : s[0].toNat < 128 ∨ 128 ≤ s[0].toNat) with hc | hc
    · have hq : seqN (bs s) = 1 := by rw [hbs]; exact seq_ascii _ hc
      have HQ := Lib.hid hq
      clear hq hbs hlen hdl
      go_enter Tryd.func60, Tryd.ntmps60
      go_wp2
      go_ret2
      exact seq_mk HQ.out
    · have hsc := second_c s[0].toNat (by omega)
      by_cases hl : leadB s[0]
      · have hlo := sec_pos hl
        have hok := fun d => ok_sec (d := d) hl
        have hsz := sz_of hl
        have HSZ := Lib.hid hsz
        have HBS := Lib.hid hbs
        have HDL := Lib.hid hdl
        generalize secLo s[0].toNat = lo at hlo hok hsc
        obtain ⟨hi, HHI0⟩ : ∃ hi, Hid (secHi s[0].toNat = hi) := ⟨secHi s[0].toNat, Lib.hid rfl⟩
        have HOK : Hid (∀ d, okB s[0] d ↔ lo ≤ d.toNat ∧ d.toNat ≤ hi) := fun d => by rw [← HHI0.out]; exact hok d
        rw [HHI0.out] at hsc
        have HS := Lib.hid hsc
        have g1 : ((lo : Int) == 0) = false := by simp; omega
        clear hok hsz hbs hsc hlen hdl
        by_cases h2 : s.size < 2
        · have hq : Hid (seqN (bs s) = 0) := by rw [HBS.out]; exact seq_bad hl (fun hg => by have := hg.1; rw [List.length_cons, HDL.out] at this; have := sz_bd hl; omega)
          go_enter Tryd.func60, Tryd.ntmps60
          go_wp2_with (go_at_call 73; refine (HS.out _).mono ?_; rintro e w1 ⟨rfl, rfl⟩)
          go_ret2
          exact seq_mk hq.out
        · have h2' : 1 < s.size := by omega
          have e1 : Hid ((bs s).getD 1 0 = s[1]) := bs_getD0 s 1 h2'
          by_cases hok : okB s[0] s[1]
          · have hok2 := (HOK.out s[1]).1 hok
            have k1 : ¬ ((s[1].toNat : Int) < lo) := by omega
            have k2 : ¬ ((hi : Int) < s[1].toNat) := by omega
            have HHI : Hid (secHi s[0].toNat = hi) := HHI0
            rcases (by omega : s[0].toNat < 224 ∨ (224 ≤ s[0].toNat ∧ s[0].toNat < 240) ∨ 240 ≤ s[0].toNat) with h3 | h3 | h3
            · have k3 : (s[0].toNat : Int) < 224 := by omega
              have HSN : Hid (szB s[0] = 2) := HSZ.out.trans (by rw [if_neg (by omega), if_neg (by omega)])
              clear HSZ
              go_enter Tryd.func60, Tryd.ntmps60
              go_wp2_with (go_at_call 73; refine (HS.out _).mono ?_; rintro e w1 ⟨rfl, rfl⟩)
              go_loop [8, 9] (fun r i => ∃ (k : Nat) (x : Int), 1 ≤ k ∧ k ≤ 2 ∧ i = .int .i64 k ∧ r = .int .i32 x ∧ Hid (∀ j, 2 ≤ j → j < k → j < s.size ∧ contB ((bs s).getD j 0))) (fun _ i => 2 - (intOf i).toNat)
              case atStart => exact ⟨1, _, by omega, by omega, rfl, rfl, fun j h1 h2 => by omega⟩
              case round =>
                obtain ⟨k, x, hk1, hk2, rfl, rfl, HJ⟩ := hrel
                by_cases hkn : k < 2
                · by_cases hks : k < s.size
                  · have ek : Hid ((bs s).getD k 0 = s[k]) := bs_getD0 s k hks
                    by_cases hcb : contB s[k]
                    · have hcb1 := hcb.1
                      have hcb2 := hcb.2
                      have hg1 : ¬ ((s.size : Int) ≤ k) := by omega
                      have hg2 : ¬ ((s[k].toNat : Int) < 128) := by omega
                      have hg3 : ¬ (191 < (s[k].toNat : Int)) := by omega
                      go_wp2
                      go_round
                      case rel => exact ⟨k + 1, _, by omega, by omega, by go_num, rfl, fun j h1 h2 => by
                        rcases Nat.lt_or_ge j k with h | h
                        · exact HJ.out j h1 h
                        · obtain rfl : j = k := by omega
                          exact ⟨hks, by rw [ek.out]; exact hcb⟩⟩
                      case measure => simp [intOf]; omega
                    · have hq : Hid (seqN (bs s) = 0) := by
                        rw [HBS.out]
                        refine seq_bad hl (fun hg => ?_)
                        rw [← HBS.out] at hg
                        apply hcb
                        rw [← ek.out]
                        rcases (by omega : k = 1 ∨ k = 2 ∨ k = 3) with rfl | rfl | rfl
                        · have h8 := ok_ge hl hg.2.1
                          have h9 := (HOK.out _).1 hg.2.1
                          exact ⟨h8, by have := sec_hi hl; rw [HHI.out] at this; omega⟩
                        · exact hg.2.2.1 (by rw [HSN.out]; omega)
                        · exact hg.2.2.2 (by rw [HSN.out]; omega)
                      have hcb2 : s[k].toNat < 128 ∨ 191 < s[k].toNat := by unfold contB at hcb; omega
                      have hg1 : ¬ ((s.size : Int) ≤ k) := by omega
                      rcases hcb2 with kk | kk
                      · have hg2 : (s[k].toNat : Int) < 128 := by omega
                        go_wp2
                        all_goals (go_ret2; exact seq_mk hq.out)
                      · have hg2 : 191 < (s[k].toNat : Int) := by omega
                        go_wp2
                        all_goals (go_ret2; exact seq_mk hq.out)
                  · have hq : Hid (seqN (bs s) = 0) := by
                      rw [HBS.out]
                      refine seq_bad hl (fun hg => ?_)
                      have := hg.1
                      rw [HSN.out, List.length_cons, HDL.out] at this; omega
                    have hg1 : (s.size : Int) ≤ k := by omega
                    go_wp2
                    all_goals (go_ret2; exact seq_mk hq.out)
                · obtain rfl : k = 2 := by omega
                  have hq : Hid (seqN (bs s) = 2) := by
                    rw [HBS.out, ← HSN.out]
                    refine seq_good hl ?_
                    rw [← HBS.out]
                    refine ⟨by rw [HSN.out, HBS.out, List.length_cons, HDL.out]; omega, by rw [e1.out]; exact hok, fun h => ?_, fun h => ?_⟩
                    · rw [HSN.out] at h; first | omega | exact (HJ.out 2 (by omega) (by omega)).2
                    · rw [HSN.out] at h; first | omega | exact (HJ.out 3 (by omega) (by omega)).2
                  go_wp2
                  go_ret2
                  exact seq_mk hq.out
            · have k3 : 224 ≤ (s[0].toNat : Int) := by omega
              have k4 : (s[0].toNat : Int) < 240 := by omega
              have HSN : Hid (szB s[0] = 3) := HSZ.out.trans (by rw [if_neg (by omega), if_pos (by omega)])
              clear HSZ
              go_enter Tryd.func60, Tryd.ntmps60
              go_wp2_with (go_at_call 73; refine (HS.out _).mono ?_; rintro e w1 ⟨rfl, rfl⟩)
              go_loop [8, 9] (fun r i => ∃ (k : Nat) (x : Int), 1 ≤ k ∧ k ≤ 3 ∧ i = .int .i64 k ∧ r = .int .i32 x ∧ Hid (∀ j, 2 ≤ j → j < k → j < s.size ∧ contB ((bs s).getD j 0))) (fun _ i => 3 - (intOf i).toNat)
              case atStart => exact ⟨1, _, by omega, by omega, rfl, rfl, fun j h1 h2 => by omega⟩
              case round =>
                obtain ⟨k, x, hk1, hk2, rfl, rfl, HJ⟩ := hrel
                by_cases hkn : k < 3
                · by_cases hks : k < s.size
                  · have ek : Hid ((bs s).getD k 0 = s[k]) := bs_getD0 s k hks
                    by_cases hcb : contB s[k]
                    · have hcb1 := hcb.1
                      have hcb2 := hcb.2
                      have hg1 : ¬ ((s.size : Int) ≤ k) := by omega
                      have hg2 : ¬ ((s[k].toNat : Int) < 128) := by omega
                      have hg3 : ¬ (191 < (s[k].toNat : Int)) := by omega
                      go_wp2
                      go_round
                      case rel => exact ⟨k + 1, _, by omega, by omega, by go_num, rfl, fun j h1 h2 => by
                        rcases Nat.lt_or_ge j k with h | h
                        · exact HJ.out j h1 h
                        · obtain rfl : j = k := by omega
                          exact ⟨hks, by rw [ek.out]; exact hcb⟩⟩
                      case measure => simp [intOf]; omega
                    · have hq : Hid (seqN (bs s) = 0) := by
                        rw [HBS.out]
                        refine seq_bad hl (fun hg => ?_)
                        rw [← HBS.out] at hg
                        apply hcb
                        rw [← ek.out]
                        rcases (by omega : k = 1 ∨ k = 2 ∨ k = 3) with rfl | rfl | rfl
                        · have h8 := ok_ge hl hg.2.1
                          have h9 := (HOK.out _).1 hg.2.1
                          exact ⟨h8, by have := sec_hi hl; rw [HHI.out] at this; omega⟩
                        · exact hg.2.2.1 (by rw [HSN.out]; omega)
                        · exact hg.2.2.2 (by rw [HSN.out]; omega)
                      have hcb2 : s[k].toNat < 128 ∨ 191 < s[k].toNat := by unfold contB at hcb; omega
                      have hg1 : ¬ ((s.size : Int) ≤ k) := by omega
                      rcases hcb2 with kk | kk
                      · have hg2 : (s[k].toNat : Int) < 128 := by omega
                        go_wp2
                        all_goals (go_ret2; exact seq_mk hq.out)
                      · have hg2 : 191 < (s[k].toNat : Int) := by omega
                        go_wp2
                        all_goals (go_ret2; exact seq_mk hq.out)
                  · have hq : Hid (seqN (bs s) = 0) := by
                      rw [HBS.out]
                      refine seq_bad hl (fun hg => ?_)
                      have := hg.1
                      rw [HSN.out, List.length_cons, HDL.out] at this; omega
                    have hg1 : (s.size : Int) ≤ k := by omega
                    go_wp2
                    all_goals (go_ret2; exact seq_mk hq.out)
                · obtain rfl : k = 3 := by omega
                  have hq : Hid (seqN (bs s) = 3) := by
                    rw [HBS.out, ← HSN.out]
                    refine seq_good hl ?_
                    rw [← HBS.out]
                    refine ⟨by rw [HSN.out, HBS.out, List.length_cons, HDL.out]; have := (HJ.out 2 (by omega) (by omega)).1; omega, by rw [e1.out]; exact hok, fun h => ?_, fun h => ?_⟩
                    · rw [HSN.out] at h; first | omega | exact (HJ.out 2 (by omega) (by omega)).2
                    · rw [HSN.out] at h; first | omega | exact (HJ.out 3 (by omega) (by omega)).2
                  go_wp2
                  go_ret2
                  exact seq_mk hq.out
            · have k3 : 224 ≤ (s[0].toNat : Int) := by omega
              have k4 : 240 ≤ (s[0].toNat : Int) := by omega
              have HSN : Hid (szB s[0] = 4) := HSZ.out.trans (by rw [if_pos (by omega)])
              clear HSZ
              go_enter Tryd.func60, Tryd.ntmps60
              go_wp2_with (go_at_call 73; refine (HS.out _).mono ?_; rintro e w1 ⟨rfl, rfl⟩)
              go_loop [8, 9] (fun r i => ∃ (k : Nat) (x : Int), 1 ≤ k ∧ k ≤ 4 ∧ i = .int .i64 k ∧ r = .int .i32 x ∧ Hid (∀ j, 2 ≤ j → j < k → j < s.size ∧ contB ((bs s).getD j 0))) (fun _ i => 4 - (intOf i).toNat)
              case atStart => exact ⟨1, _, by omega, by omega, rfl, rfl, fun j h1 h2 => by omega⟩
              case round =>
                obtain ⟨k, x, hk1, hk2, rfl, rfl, HJ⟩ := hrel
                by_cases hkn : k < 4
                · by_cases hks : k < s.size
                  · have ek : Hid ((bs s).getD k 0 = s[k]) := bs_getD0 s k hks
                    by_cases hcb : contB s[k]
                    · have hcb1 := hcb.1
                      have hcb2 := hcb.2
                      have hg1 : ¬ ((s.size : Int) ≤ k) := by omega
                      have hg2 : ¬ ((s[k].toNat : Int) < 128) := by omega
                      have hg3 : ¬ (191 < (s[k].toNat : Int)) := by omega
                      go_wp2
                      go_round
                      case rel => exact ⟨k + 1, _, by omega, by omega, by go_num, rfl, fun j h1 h2 => by
                        rcases Nat.lt_or_ge j k with h | h
                        · exact HJ.out j h1 h
                        · obtain rfl : j = k := by omega
                          exact ⟨hks, by rw [ek.out]; exact hcb⟩⟩
                      case measure => simp [intOf]; omega
                    · have hq : Hid (seqN (bs s) = 0) := by
                        rw [HBS.out]
                        refine seq_bad hl (fun hg => ?_)
                        rw [← HBS.out] at hg
                        apply hcb
                        rw [← ek.out]
                        rcases (by omega : k = 1 ∨ k = 2 ∨ k = 3) with rfl | rfl | rfl
                        · have h8 := ok_ge hl hg.2.1
                          have h9 := (HOK.out _).1 hg.2.1
                          exact ⟨h8, by have := sec_hi hl; rw [HHI.out] at this; omega⟩
                        · exact hg.2.2.1 (by rw [HSN.out]; omega)
                        · exact hg.2.2.2 (by rw [HSN.out]; omega)
                      have hcb2 : s[k].toNat < 128 ∨ 191 < s[k].toNat := by unfold contB at hcb; omega
                      have hg1 : ¬ ((s.size : Int) ≤ k) := by omega
                      rcases hcb2 with kk | kk
                      · have hg2 : (s[k].toNat : Int) < 128 := by omega
                        go_wp2
                        all_goals (go_ret2; exact seq_mk hq.out)
                      · have hg2 : 191 < (s[k].toNat : Int) := by omega
                        go_wp2
                        all_goals (go_ret2; exact seq_mk hq.out)
                  · have hq : Hid (seqN (bs s) = 0) := by
                      rw [HBS.out]
                      refine seq_bad hl (fun hg => ?_)
                      have := hg.1
                      rw [HSN.out, List.length_cons, HDL.out] at this; omega
                    have hg1 : (s.size : Int) ≤ k := by omega
                    go_wp2
                    all_goals (go_ret2; exact seq_mk hq.out)
                · obtain rfl : k = 4 := by omega
                  have hq : Hid (seqN (bs s) = 4) := by
                    rw [HBS.out, ← HSN.out]
                    refine seq_good hl ?_
                    rw [← HBS.out]
                    refine ⟨by rw [HSN.out, HBS.out, List.length_cons, HDL.out]; have := (HJ.out 3 (by omega) (by omega)).1; omega, by rw [e1.out]; exact hok, fun h => ?_, fun h => ?_⟩
                    · rw [HSN.out] at h; first | omega | exact (HJ.out 2 (by omega) (by omega)).2
                    · rw [HSN.out] at h; first | omega | exact (HJ.out 3 (by omega) (by omega)).2
                  go_wp2
                  go_ret2
                  exact seq_mk hq.out
          · have hok2 : s[1].toNat < lo ∨ hi < s[1].toNat := by
              rcases Nat.lt_or_ge s[1].toNat lo with h | h
              · exact .inl h
              · rcases Nat.lt_or_ge hi s[1].toNat with h' | h'
                · exact .inr h'
                · exact absurd ((HOK.out s[1]).2 ⟨h, h'⟩) hok
            have hq : Hid (seqN (bs s) = 0) := by
              rw [HBS.out]
              refine seq_bad hl (fun hg => ?_)
              have := hg.2.1
              rw [← HBS.out, e1.out] at this
              exact hok this
            rcases hok2 with k | k
            · have k1 : (s[1].toNat : Int) < lo := by omega
              go_enter Tryd.func60, Tryd.ntmps60
              go_wp2_with (go_at_call 73; refine (HS.out _).mono ?_; rintro e w1 ⟨rfl, rfl⟩)
              all_goals (go_ret2; exact seq_mk hq.out)
            · have k1 : (hi : Int) < s[1].toNat := by omega
              go_enter Tryd.func60, Tryd.ntmps60
              go_wp2_with (go_at_call 73; refine (HS.out _).mono ?_; rintro e w1 ⟨rfl, rfl⟩)
              all_goals (go_ret2; exact seq_mk hq.out)
      · have hlo := sec_not hl
        have hq : seqN (bs s) = 0 := by rw [hbs]; exact seq_none _ hc hl
        have HQ := Lib.hid hq
        rw [hlo] at hsc
        have HS := Lib.hid hsc
        clear hq hbs hlen hdl hlo hsc
        go_enter Tryd.func60, Tryd.ntmps60
        go_wp2_with (go_at_call 73; refine (HS.out _).mono ?_; rintro e w1 ⟨rfl, rfl⟩)
        go_ret2
        exact seq_mk HQ.out
  · have hq : seqN (bs s) = 0 := by
      have : bs s = [] := List.eq_nil_of_length_eq_zero (by rw [bs_len]; omega)
      rw [this]; rfl
    have hz : s.size = 0 := by omega
    have HQ := Lib.hid hq
    have g0 : ((s.size : Int) == 0) = true := beq_iff_eq.2 (by omega)
    clear hq hz
    go_enter Tryd.func60, Tryd.ntmps60
    go_wp2
    go_ret2
    exact seq_mk HQ.out
end Gs
end Go.Proofs.YtlgagbglldehjaaDoor
