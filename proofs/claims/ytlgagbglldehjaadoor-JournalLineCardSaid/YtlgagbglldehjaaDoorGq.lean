/- guiseref1.Sequence, with the rune that it tells. -/
import Derived.Test.YtlgagbglldehjaaDoorGs
import Derived.Test.YtlgagbglldehjaaDoorTl
namespace Go.Proofs.YtlgagbglldehjaaDoor
set_option linter.unusedVariables false
set_option linter.unusedSimpArgs false
open Go Go.RowKit Pj Fe Gs
namespace Gq
/-- the rune as it grows: m keeps the first byte's bits -/
def runeK (m : Nat) (l : Bs) : Nat → Nat
  | 0 => 0
  | k + 1 => if k = 0 then (l.getD 0 0).toNat % m else runeK m l k * 64 + (l.getD k 0).toNat % 64
theorem runeK_lt {m : Nat} (h0 : 0 < m) (hm : m ≤ 32) (l : Bs) : (∀ k, k ≤ 1 → runeK m l k < 32) ∧ (∀ k, k ≤ 2 → runeK m l k < 2048) ∧ (∀ k, k ≤ 3 → runeK m l k < 131072) := by
  have h1 : runeK m l 1 < m := by simp only [runeK, if_pos]; exact Nat.mod_lt _ h0
  have h2 : runeK m l 2 = runeK m l 1 * 64 + (l.getD 1 0).toNat % 64 := by rw [runeK, if_neg (by decide)]
  have h3 : runeK m l 3 = runeK m l 2 * 64 + (l.getD 2 0).toNat % 64 := by rw [runeK, if_neg (by decide)]
  have h00 : runeK m l 0 = 0 := rfl
  refine ⟨fun k hk => ?_, fun k hk => ?_, fun k hk => ?_⟩
  · rcases (by omega : k = 0 ∨ k = 1) with rfl | rfl <;> omega
  · rcases (by omega : k = 0 ∨ k = 1 ∨ k = 2) with rfl | rfl | rfl <;> omega
  · rcases (by omega : k = 0 ∨ k = 1 ∨ k = 2 ∨ k = 3) with rfl | rfl | rfl | rfl <;> omega
theorem seq_fin2 {c : UInt8} {t l : Bs} (h : leadB c) (hb : l = c :: t) (hs : szB c = 2) (hg : goodB c l) : seqN l = 2 ∧ (Lib.decodeL l).1 = runeK 32 l 2 := by
  subst hb
  refine ⟨(seq_good h hg).trans hs, ?_⟩
  rw [Th.slow_good h hg, if_pos (by omega)]; rfl
theorem seq_fin3 {c : UInt8} {t l : Bs} (h : leadB c) (hb : l = c :: t) (hs : szB c = 3) (hg : goodB c l) : seqN l = 3 ∧ (Lib.decodeL l).1 = runeK 16 l 3 := by
  subst hb
  refine ⟨(seq_good h hg).trans hs, ?_⟩
  rw [Th.slow_good h hg, if_neg (by omega), if_pos (by omega)]
  simp only [runeK, List.getD_cons_zero]; simp; omega
theorem seq_fin4 {c : UInt8} {t l : Bs} (h : leadB c) (hb : l = c :: t) (hs : szB c = 4) (hg : goodB c l) : seqN l = 4 ∧ (Lib.decodeL l).1 = runeK 8 l 4 := by
  subst hb
  refine ⟨(seq_good h hg).trans hs, ?_⟩
  rw [Th.slow_good h hg, if_neg (by omega), if_neg (by omega)]
  simp only [runeK, List.getD_cons_zero]; simp; omega
def SeqR (s : ByteArray) (w : World) (e : Ending) (w' : World) : Prop := ∃ r : Int, e = .returned (.tuple #[.int .i64 (seqN (bs s)), .int .i32 r]) ∧ w = w' ∧ (seqN (bs s) ≠ 0 → r = ((Lib.decodeL (bs s)).1 : Int))
theorem seq_mk0 {s : ByteArray} {w : World} {r : Int} (h : seqN (bs s) = 0) : SeqR s w (.returned (.tuple #[.int .i64 0, .int .i32 r])) w := ⟨r, by rw [h]; rfl, rfl, fun h0 => absurd h h0⟩
theorem seq_mkr {s : ByteArray} {w : World} {n : Nat} {r : Int} (h : seqN (bs s) = n) (hr : r = ((Lib.decodeL (bs s)).1 : Int)) : SeqR s w (.returned (.tuple #[.int .i64 n, .int .i32 r])) w := ⟨r, by rw [h], rfl, fun _ => hr⟩
theorem i32_small : ∀ n : Int, 0 ≤ n → n < 2 ^ 31 → IntKind.i32.wrap n = n := fun n h1 h2 => by rw [IntKind.wrap_i32]; omega
theorem seq_start2 {l : Bs} {c : UInt8} (h : l.getD 0 0 = c) : Hid ((c.toNat : Int) % 32 = ((runeK 32 l 1 : Nat) : Int)) := Lib.hid (by subst h; simp [runeK])
theorem seq_start3 {l : Bs} {c : UInt8} (h : l.getD 0 0 = c) : Hid ((c.toNat : Int) % 16 = ((runeK 16 l 1 : Nat) : Int)) := Lib.hid (by subst h; simp [runeK])
theorem seq_start4 {l : Bs} {c : UInt8} (h : l.getD 0 0 = c) : Hid ((c.toNat : Int) % 8 = ((runeK 8 l 1 : Nat) : Int)) := Lib.hid (by subst h; simp [runeK])
theorem seq_next {l : Bs} {c : UInt8} {k m : Nat} {x : Int} (hk : 1 ≤ k) (hk3 : k ≤ 3) (h0 : 0 < m) (hm : m ≤ 32) (hx : x = ((runeK m l k : Nat) : Int)) (h : l.getD k 0 = c) : Hid (bits BinOp.or IntKind.i32 (wrap32 (x * 64)) ((c.toNat : Int) % 64) = ((runeK m l (k + 1) : Nat) : Int)) := by
  have hb : runeK m l k < 131072 := (runeK_lt h0 hm l).2.2 k hk3
  have hc : (0 : Int) ≤ (c.toNat : Int) % 64 ∧ (c.toNat : Int) % 64 < 64 := by omega
  rw [runeK, if_neg (by omega), h]
  have hw : wrap32 (x * 64) = x * 64 := by unfold wrap32; omega
  rw [hw, bits_join .i32 31 (by decide) i32_small 6 (x * 64) _ (by omega) (by omega) (by omega) hc.1 (by omega) (by omega), hx]
  exact Lib.hid (by push_cast; rfl)
set_option maxHeartbeats 2000000 in
set_option maxRecDepth 100000 in
theorem Sequence2_c (s : ByteArray) (w : World) (hs : s.size ≤ 9223372036854775807) :
    Calls Tryd.prog 60 #[.string s] w (SeqR s w) := by
  by_cases h0 : 0 < s.size
  · have hbs := bs_cons h0
    have hlen := bs_len s
    have hdl : ((bs s).drop 1).length = s.size - 1 := by rw [List.length_drop, bs_len]
    have E0 : (bs s).getD 0 0 = s[0] := bs_getD0 s 0 h0
    have HE0 := Lib.hid E0
    clear E0
    have g0 : ((s.size : Int) == 0) = false := beq_eq_false_iff_ne.2 (by omega)
    have hc8 := UInt8.toNat_lt s[0]
    rcases (by omega : s[0].toNat < 128 ∨ 128 ≤ s[0].toNat) with hc | hc
    · have hq : seqN (bs s) = 1 := by rw [hbs]; exact seq_ascii _ hc
      have HQ := Lib.hid hq
      have HA : Hid ((s[0].toNat : Int) = ((Lib.decodeL (bs s)).1 : Int)) := by rw [hbs, Lib.decodeL_ascii _ _ hc]; exact Lib.hid rfl
      clear hq hbs hlen hdl
      go_enter Tryd.func60, Tryd.ntmps60
      go_wp2
      go_ret2
      exact seq_mkr HQ.out HA.out
    · have hsc := second_c s[0].toNat (by omega)
      by_cases hl : leadB s[0]
      · have hlo := sec_pos hl
        have hok := fun d => ok_sec (d := d) hl
        have hsz := sz_of hl
        have HSZ := Lib.hid hsz
        have HBS := Lib.hid hbs
        have HDL := Lib.hid hdl
        generalize secLo s[0].toNat = lo at hlo hok hsc
        obtain ⟨hi, HHI0⟩ : ∃ hi, Hid (secHi s[0].toNat = hi) := ⟨secHi s[0].toNat, Lib.hid rfl⟩
        have HOK : Hid (∀ d, okB s[0] d ↔ lo ≤ d.toNat ∧ d.toNat ≤ hi) := fun d => by rw [← HHI0.out]; exact hok d
        rw [HHI0.out] at hsc
        have HS := Lib.hid hsc
        have g1 : ((lo : Int) == 0) = false := by simp; omega
        clear hok hsz hbs hsc hlen hdl
        by_cases h2 : s.size < 2
        · have hq : Hid (seqN (bs s) = 0) := by rw [HBS.out]; exact seq_bad hl (fun hg => by have := hg.1; rw [List.length_cons, HDL.out] at this; have := sz_bd hl; omega)
          go_enter Tryd.func60, Tryd.ntmps60
          go_wp2_with (go_at_call 73; refine (HS.out _).mono ?_; rintro e w1 ⟨rfl, rfl⟩)
          go_ret2
          exact seq_mk0 hq.out
        · have h2' : 1 < s.size := by omega
          have e1 : Hid ((bs s).getD 1 0 = s[1]) := bs_getD0 s 1 h2'
          by_cases hok : okB s[0] s[1]
          · have hok2 := (HOK.out s[1]).1 hok
            have k1 : ¬ ((s[1].toNat : Int) < lo) := by omega
            have k2 : ¬ ((hi : Int) < s[1].toNat) := by omega
            have HHI : Hid (secHi s[0].toNat = hi) := HHI0
            rcases (by omega : s[0].toNat < 224 ∨ (224 ≤ s[0].toNat ∧ s[0].toNat < 240) ∨ 240 ≤ s[0].toNat) with h3 | h3 | h3
            · have k3 : (s[0].toNat : Int) < 224 := by omega
              have HSN : Hid (szB s[0] = 2) := HSZ.out.trans (by rw [if_neg (by omega), if_neg (by omega)])
              clear HSZ
              go_enter Tryd.func60, Tryd.ntmps60
              go_wp2_with (go_at_call 73; refine (HS.out _).mono ?_; rintro e w1 ⟨rfl, rfl⟩)
              go_loop [8, 9] (fun r i => ∃ (k : Nat) (x : Int), 1 ≤ k ∧ k ≤ 2 ∧ i = .int .i64 k ∧ r = .int .i32 x ∧ Hid (∀ j, 2 ≤ j → j < k → j < s.size ∧ contB ((bs s).getD j 0)) ∧ Hid (x = ((runeK 32 (bs s) k : Nat) : Int))) (fun _ i => 2 - (intOf i).toNat)
              case atStart =>
                refine ⟨1, _, by omega, by omega, rfl, rfl, fun j h1 h2 => by omega, ?_⟩
                exact seq_start2 HE0.out
              case round =>
                obtain ⟨k, x, hk1, hk2, rfl, rfl, HJ, HX⟩ := hrel
                by_cases hkn : k < 2
                · by_cases hks : k < s.size
                  · have ek : Hid ((bs s).getD k 0 = s[k]) := bs_getD0 s k hks
                    by_cases hcb : contB s[k]
                    · have hcb1 := hcb.1
                      have hcb2 := hcb.2
                      have hg1 : ¬ ((s.size : Int) ≤ k) := by omega
                      have hg2 : ¬ ((s[k].toNat : Int) < 128) := by omega
                      have hg3 : ¬ (191 < (s[k].toNat : Int)) := by omega
                      go_wp2
                      go_round
                      case rel =>
                        refine ⟨k + 1, _, by omega, by omega, by go_num, rfl, fun j h1 h2 => by
                        rcases Nat.lt_or_ge j k with h | h
                        · exact HJ.out j h1 h
                        · obtain rfl : j = k := by omega
                          exact ⟨hks, by rw [ek.out]; exact hcb⟩, ?_⟩
                        exact seq_next hk1 (by omega) (by decide) (by decide) HX.out ek.out
                      case measure => simp [intOf]; omega
                    · have hq : Hid (seqN (bs s) = 0) := by
                        rw [HBS.out]
                        refine seq_bad hl (fun hg => ?_)
                        rw [← HBS.out] at hg
                        apply hcb
                        rw [← ek.out]
                        rcases (by omega : k = 1 ∨ k = 2 ∨ k = 3) with rfl | rfl | rfl
                        · have h8 := ok_ge hl hg.2.1
                          have h9 := (HOK.out _).1 hg.2.1
                          exact ⟨h8, by have := sec_hi hl; rw [HHI.out] at this; omega⟩
                        · exact hg.2.2.1 (by rw [HSN.out]; omega)
                        · exact hg.2.2.2 (by rw [HSN.out]; omega)
                      have hcb2 : s[k].toNat < 128 ∨ 191 < s[k].toNat := by unfold contB at hcb; omega
                      have hg1 : ¬ ((s.size : Int) ≤ k) := by omega
                      rcases hcb2 with kk | kk
                      · have hg2 : (s[k].toNat : Int) < 128 := by omega
                        go_wp2
                        all_goals (go_ret2; exact seq_mk0 hq.out)
                      · have hg2 : 191 < (s[k].toNat : Int) := by omega
                        go_wp2
                        all_goals (go_ret2; exact seq_mk0 hq.out)
                  · have hq : Hid (seqN (bs s) = 0) := by
                      rw [HBS.out]
                      refine seq_bad hl (fun hg => ?_)
                      have := hg.1
                      rw [HSN.out, List.length_cons, HDL.out] at this; omega
                    have hg1 : (s.size : Int) ≤ k := by omega
                    go_wp2
                    all_goals (go_ret2; exact seq_mk0 hq.out)
                · obtain rfl : k = 2 := by omega
                  have hq : Hid (seqN (bs s) = 2 ∧ (Lib.decodeL (bs s)).1 = runeK 32 (bs s) 2) := by
                    refine seq_fin2 hl HBS.out HSN.out ?_
                    refine ⟨by rw [HSN.out, HBS.out, List.length_cons, HDL.out]; omega, by rw [e1.out]; exact hok, fun h => ?_, fun h => ?_⟩
                    · rw [HSN.out] at h; first | omega | exact (HJ.out 2 (by omega) (by omega)).2
                    · rw [HSN.out] at h; first | omega | exact (HJ.out 3 (by omega) (by omega)).2
                  go_wp2
                  go_ret2
                  exact seq_mkr hq.out.1 (HX.out.trans (by rw [hq.out.2]))
            · have k3 : 224 ≤ (s[0].toNat : Int) := by omega
              have k4 : (s[0].toNat : Int) < 240 := by omega
              have HSN : Hid (szB s[0] = 3) := HSZ.out.trans (by rw [if_neg (by omega), if_pos (by omega)])
              clear HSZ
              go_enter Tryd.func60, Tryd.ntmps60
              go_wp2_with (go_at_call 73; refine (HS.out _).mono ?_; rintro e w1 ⟨rfl, rfl⟩)
              go_loop [8, 9] (fun r i => ∃ (k : Nat) (x : Int), 1 ≤ k ∧ k ≤ 3 ∧ i = .int .i64 k ∧ r = .int .i32 x ∧ Hid (∀ j, 2 ≤ j → j < k → j < s.size ∧ contB ((bs s).getD j 0)) ∧ Hid (x = ((runeK 16 (bs s) k : Nat) : Int))) (fun _ i => 3 - (intOf i).toNat)
              case atStart =>
                refine ⟨1, _, by omega, by omega, rfl, rfl, fun j h1 h2 => by omega, ?_⟩
                exact seq_start3 HE0.out
              case round =>
                obtain ⟨k, x, hk1, hk2, rfl, rfl, HJ, HX⟩ := hrel
                by_cases hkn : k < 3
                · by_cases hks : k < s.size
                  · have ek : Hid ((bs s).getD k 0 = s[k]) := bs_getD0 s k hks
                    by_cases hcb : contB s[k]
                    · have hcb1 := hcb.1
                      have hcb2 := hcb.2
                      have hg1 : ¬ ((s.size : Int) ≤ k) := by omega
                      have hg2 : ¬ ((s[k].toNat : Int) < 128) := by omega
                      have hg3 : ¬ (191 < (s[k].toNat : Int)) := by omega
                      go_wp2
                      go_round
                      case rel =>
                        refine ⟨k + 1, _, by omega, by omega, by go_num, rfl, fun j h1 h2 => by
                        rcases Nat.lt_or_ge j k with h | h
                        · exact HJ.out j h1 h
                        · obtain rfl : j = k := by omega
                          exact ⟨hks, by rw [ek.out]; exact hcb⟩, ?_⟩
                        exact seq_next hk1 (by omega) (by decide) (by decide) HX.out ek.out
                      case measure => simp [intOf]; omega
                    · have hq : Hid (seqN (bs s) = 0) := by
                        rw [HBS.out]
                        refine seq_bad hl (fun hg => ?_)
                        rw [← HBS.out] at hg
                        apply hcb
                        rw [← ek.out]
                        rcases (by omega : k = 1 ∨ k = 2 ∨ k = 3) with rfl | rfl | rfl
                        · have h8 := ok_ge hl hg.2.1
                          have h9 := (HOK.out _).1 hg.2.1
                          exact ⟨h8, by have := sec_hi hl; rw [HHI.out] at this; omega⟩
                        · exact hg.2.2.1 (by rw [HSN.out]; omega)
                        · exact hg.2.2.2 (by rw [HSN.out]; omega)
                      have hcb2 : s[k].toNat < 128 ∨ 191 < s[k].toNat := by unfold contB at hcb; omega
                      have hg1 : ¬ ((s.size : Int) ≤ k) := by omega
                      rcases hcb2 with kk | kk
                      · have hg2 : (s[k].toNat : Int) < 128 := by omega
                        go_wp2
                        all_goals (go_ret2; exact seq_mk0 hq.out)
                      · have hg2 : 191 < (s[k].toNat : Int) := by omega
                        go_wp2
                        all_goals (go_ret2; exact seq_mk0 hq.out)
                  · have hq : Hid (seqN (bs s) = 0) := by
                      rw [HBS.out]
                      refine seq_bad hl (fun hg => ?_)
                      have := hg.1
                      rw [HSN.out, List.length_cons, HDL.out] at this; omega
                    have hg1 : (s.size : Int) ≤ k := by omega
                    go_wp2
                    all_goals (go_ret2; exact seq_mk0 hq.out)
                · obtain rfl : k = 3 := by omega
                  have hq : Hid (seqN (bs s) = 3 ∧ (Lib.decodeL (bs s)).1 = runeK 16 (bs s) 3) := by
                    refine seq_fin3 hl HBS.out HSN.out ?_
                    refine ⟨by rw [HSN.out, HBS.out, List.length_cons, HDL.out]; have := (HJ.out 2 (by omega) (by omega)).1; omega, by rw [e1.out]; exact hok, fun h => ?_, fun h => ?_⟩
                    · rw [HSN.out] at h; first | omega | exact (HJ.out 2 (by omega) (by omega)).2
                    · rw [HSN.out] at h; first | omega | exact (HJ.out 3 (by omega) (by omega)).2
                  go_wp2
                  go_ret2
                  exact seq_mkr hq.out.1 (HX.out.trans (by rw [hq.out.2]))
            · have k3 : 224 ≤ (s[0].toNat : Int) := by omega
              have k4 : 240 ≤ (s[0].toNat : Int) := by omega
              have HSN : Hid (szB s[0] = 4) := HSZ.out.trans (by rw [if_pos (by omega)])
              clear HSZ
              go_enter Tryd.func60, Tryd.ntmps60
              go_wp2_with (go_at_call 73; refine (HS.out _).mono ?_; rintro e w1 ⟨rfl, rfl⟩)
              go_loop [8, 9] (fun r i => ∃ (k : Nat) (x : Int), 1 ≤ k ∧ k ≤ 4 ∧ i = .int .i64 k ∧ r = .int .i32 x ∧ Hid (∀ j, 2 ≤ j → j < k → j < s.size ∧ contB ((bs s).getD j 0)) ∧ Hid (x = ((runeK 8 (bs s) k : Nat) : Int))) (fun _ i => 4 - (intOf i).toNat)
              case atStart =>
                refine ⟨1, _, by omega, by omega, rfl, rfl, fun j h1 h2 => by omega, ?_⟩
                exact seq_start4 HE0.out
              case round =>
                obtain ⟨k, x, hk1, hk2, rfl, rfl, HJ, HX⟩ := hrel
                by_cases hkn : k < 4
                · by_cases hks : k < s.size
                  · have ek : Hid ((bs s).getD k 0 = s[k]) := bs_getD0 s k hks
                    by_cases hcb : contB s[k]
                    · have hcb1 := hcb.1
                      have hcb2 := hcb.2
                      have hg1 : ¬ ((s.size : Int) ≤ k) := by omega
                      have hg2 : ¬ ((s[k].toNat : Int) < 128) := by omega
                      have hg3 : ¬ (191 < (s[k].toNat : Int)) := by omega
                      go_wp2
                      go_round
                      case rel =>
                        refine ⟨k + 1, _, by omega, by omega, by go_num, rfl, fun j h1 h2 => by
                        rcases Nat.lt_or_ge j k with h | h
                        · exact HJ.out j h1 h
                        · obtain rfl : j = k := by omega
                          exact ⟨hks, by rw [ek.out]; exact hcb⟩, ?_⟩
                        exact seq_next hk1 (by omega) (by decide) (by decide) HX.out ek.out
                      case measure => simp [intOf]; omega
                    · have hq : Hid (seqN (bs s) = 0) := by
                        rw [HBS.out]
                        refine seq_bad hl (fun hg => ?_)
                        rw [← HBS.out] at hg
                        apply hcb
                        rw [← ek.out]
                        rcases (by omega : k = 1 ∨ k = 2 ∨ k = 3) with rfl | rfl | rfl
                        · have h8 := ok_ge hl hg.2.1
                          have h9 := (HOK.out _).1 hg.2.1
                          exact ⟨h8, by have := sec_hi hl; rw [HHI.out] at this; omega⟩
                        · exact hg.2.2.1 (by rw [HSN.out]; omega)
                        · exact hg.2.2.2 (by rw [HSN.out]; omega)
                      have hcb2 : s[k].toNat < 128 ∨ 191 < s[k].toNat := by unfold contB at hcb; omega
                      have hg1 : ¬ ((s.size : Int) ≤ k) := by omega
                      rcases hcb2 with kk | kk
                      · have hg2 : (s[k].toNat : Int) < 128 := by omega
                        go_wp2
                        all_goals (go_ret2; exact seq_mk0 hq.out)
                      · have hg2 : 191 < (s[k].toNat : Int) := by omega
                        go_wp2
                        all_goals (go_ret2; exact seq_mk0 hq.out)
                  · have hq : Hid (seqN (bs s) = 0) := by
                      rw [HBS.out]
                      refine seq_bad hl (fun hg => ?_)
                      have := hg.1
                      rw [HSN.out, List.length_cons, HDL.out] at this; omega
                    have hg1 : (s.size : Int) ≤ k := by omega
                    go_wp2
                    all_goals (go_ret2; exact seq_mk0 hq.out)
                · obtain rfl : k = 4 := by omega
                  have hq : Hid (seqN (bs s) = 4 ∧ (Lib.decodeL (bs s)).1 = runeK 8 (bs s) 4) := by
                    refine seq_fin4 hl HBS.out HSN.out ?_
                    refine ⟨by rw [HSN.out, HBS.out, List.length_cons, HDL.out]; have := (HJ.out 3 (by omega) (by omega)).1; omega, by rw [e1.out]; exact hok, fun h => ?_, fun h => ?_⟩
                    · rw [HSN.out] at h; first | omega | exact (HJ.out 2 (by omega) (by omega)).2
                    · rw [HSN.out] at h; first | omega | exact (HJ.out 3 (by omega) (by omega)).2
                  go_wp2
                  go_ret2
                  exact seq_mkr hq.out.1 (HX.out.trans (by rw [hq.out.2]))
          · have hok2 : s[1].toNat < lo ∨ hi < s[1].toNat := by
              rcases Nat.lt_or_ge s[1].toNat lo with h | h
              · exact .inl h
              · rcases Nat.lt_or_ge hi s[1].toNat with h' | h'
                · exact .inr h'
                · exact absurd ((HOK.out s[1]).2 ⟨h, h'⟩) hok
            have hq : Hid (seqN (bs s) = 0) := by
              rw [HBS.out]
              refine seq_bad hl (fun hg => ?_)
              have := hg.2.1
              rw [← HBS.out, e1.out] at this
              exact hok this
            rcases hok2 with k | k
            · have k1 : (s[1].toNat : Int) < lo := by omega
              go_enter Tryd.func60, Tryd.ntmps60
              go_wp2_with (go_at_call 73; refine (HS.out _).mono ?_; rintro e w1 ⟨rfl, rfl⟩)
              all_goals (go_ret2; exact seq_mk0 hq.out)
            · have k1 : (hi : Int) < s[1].toNat := by omega
              go_enter Tryd.func60, Tryd.ntmps60
              go_wp2_with (go_at_call 73; refine (HS.out _).mono ?_; rintro e w1 ⟨rfl, rfl⟩)
              all_goals (go_ret2; exact seq_mk0 hq.out)
      · have hlo := sec_not hl
        have hq : seqN (bs s) = 0 := by rw [hbs]; exact seq_none _ hc hl
        have HQ := Lib.hid hq
        rw [hlo] at hsc
        have HS := Lib.hid hsc
        clear hq hbs hlen hdl hlo hsc
        go_enter Tryd.func60, Tryd.ntmps60
        go_wp2_with (go_at_call 73; refine (HS.out _).mono ?_; rintro e w1 ⟨rfl, rfl⟩)
        go_ret2
        exact seq_mk0 HQ.out
  · have hq : seqN (bs s) = 0 := by
      have : bs s = [] := List.eq_nil_of_length_eq_zero (by rw [bs_len]; omega)
      rw [this]; rfl
    have hz : s.size = 0 := by omega
    have HQ := Lib.hid hq
    have g0 : ((s.size : Int) == 0) = true := beq_iff_eq.2 (by omega)
    clear hq hz
    go_enter Tryd.func60, Tryd.ntmps60
    go_wp2
    go_ret2
    exact seq_mk0 HQ.out
end Gq
end Go.Proofs.YtlgagbglldehjaaDoor
