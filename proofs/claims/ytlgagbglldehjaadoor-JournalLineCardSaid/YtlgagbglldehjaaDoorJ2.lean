/- The walks of package journal's reader: numbers and holders' words. -/
import Derived.Test.YtlgagbglldehjaaDoorJ1
namespace Go.Proofs.YtlgagbglldehjaaDoor
set_option linter.unusedVariables false
set_option linter.unusedSimpArgs false
open Go Go.RowKit Pj
namespace J1

set_option maxHeartbeats 400000 in
theorem holder_c (s : ByteArray) (w : World) (hs : s.size ≤ 9223372036854775807) :
    Calls Tryd.prog 19 #[.string s] w fun e w' => e = .returned (.bool (holderB (bs s))) ∧ w = w' := by
  go_enter Tryd.func19, Tryd.ntmps19
  go_wp2
  go_loop [6] (fun i => ∃ k : Nat, k ≤ s.size ∧ i = .int .i64 k ∧ Hid (letters (bs s) = letters ((bs s).drop k))) (fun i => s.size - (intOf i).toNat)
  case atStart => exact ⟨0, by omega, rfl, rfl⟩
  case round =>
    obtain ⟨k, hk, rfl, HL⟩ := hrel
    by_cases hlt : k < s.size
    · have hd := Lib.hid (bs_drop s k hlt)
      cases hb : letterB (s[k].toNat : Int)
      all_goals (have HB := Lib.hid hb; clear hb)
      all_goals (go_wp2_with (go_at_call 37; refine (letter_c _ _).mono ?_; rintro e w1 ⟨rfl, rfl⟩; rw [HB.out]))
      · go_ret
        refine ⟨ret_bool ?_, rfl⟩
        unfold holderB; rw [HL.out, hd.out]; simp [letters, HB.out]
      · refine ⟨⟨k + 1, by omega, rfl, ?_⟩, by simp [intOf]; omega⟩
        have h9 := HL.out; rw [hd.out] at h9; unfold Hid; rw [h9]; simp [letters, HB.out]
    · have hl : letters (bs s) = true := by rw [HL.out, bs_drop_nil s k (by omega)]; rfl
      have HX := Lib.hid hl
      clear hl
      go_wp2
      all_goals (go_ret; refine ⟨ret_bool ?_, rfl⟩; unfold holderB; rw [HX.out, bs_len, Bool.eq_iff_iff]; simp; try omega)

set_option maxHeartbeats 1000000 in
set_option maxRecDepth 100000 in
theorem number_c (w : World) (g p : Nat) (s : ByteArray) (h : Rd w g s p false) (hp : p ≤ s.size) (hm : s.size < 9223372036854775807) :
    Calls Tryd.prog 24 #[.pointer (some ⟨g, 0, none⟩)] w fun e w' => e = .returned (.int .u64 (numR ((bs s).drop p)).1) ∧
      Rd w' g s (p + (numR ((bs s).drop p)).2.1) (numR ((bs s).drop p)).2.2 ∧ But (· = g) w w' := by
  have h1 := h.c1
  go_enter Tryd.func24, Tryd.ntmps24
  go_wp2
  clear h1
  obtain ⟨z, hz⟩ : ∃ z, z = zeroB ((bs s).drop p) := ⟨_, rfl⟩
  have HZ := Lib.hid hz
  clear hz
  go_loopw [4] (fun n wr => ∃ m k : Nat, k ≤ s.size - p ∧ m < 18446744073709551616 ∧ n = .int .u64 m ∧ Rd wr g s (p + k) false ∧ But (· = g) w wr ∧ Hid (numR ((bs s).drop p) = numL z k m ((bs s).drop (p + k)))) (fun _ wr => s.size - atOf wr g)
  case atStart => exact ⟨0, 0, by omega, by omega, rfl, h, But.refl _ _, by unfold Hid numR; rw [HZ.out]; rfl⟩
  case round =>
    obtain ⟨m, k, hk, hm, rfl, hR, hB, HE⟩ := hrel
    have c0 := hR.c0
    have c1 := hR.c1
    have c2 := hR.c2
    have f1 := hR.fz 1
    have f2 := hR.fz 2
    go_wp2_with fail
    refine Ro.wp_region_ro (by kernel_rfl) (by kernel_rfl) (by kernel_rfl) ?_
    go_wp2
    all_goals (refine ⟨rfl, ?_⟩; go_wp2_with fail)
    · have g1 : (p : Int) + k < s.size := by assumption
      have g2 : 48 ≤ (s[p + k].toNat : Int) := by assumption
      have g3 : (s[p + k].toNat : Int) ≤ 57 := by assumption
      have HD := Lib.hid (bs_drop s (p + k) (by omega))
      have HZ2 : Hid (z = (s[p] == 48)) := by unfold Hid; rw [HZ.out, bs_drop s p (by omega)]; rfl
      have HU : Hid (s[p] = 48 ↔ (s[p].toNat : Int) = 48) := by
        unfold Hid; constructor
        · intro e; rw [e]; rfl
        · intro e; exact UInt8.toNat_inj.1 (by have : s[p].toNat = 48 := by omega
                                               exact this)
      refine Ro.wp_region_ro (by kernel_rfl) (by kernel_rfl) (by kernel_rfl) ?_
      go_wp2
      refine ⟨rfl, ?_⟩
      go_wp2
      · have hE := HE.out
        rw [HD.out, numL_bad _ g2 g3 (.inl ⟨by omega, by rw [HZ2.out]; simpa using HU.out.2 (by assumption)⟩)] at hE
        first | go_ret | refine ⟨_, results_tmp rfl _ _ _, ?_⟩
        rw [hE]
        exact ⟨rfl, hR.set2 true, hB.trans (((But.refl (· = g) wr).setCell (fun _ => rfl) _).drew.drew)⟩
      · have hE := HE.out
        have h5 : ((s[p].toNat : Int) == 48) = true ∨ (18446744073709551615 - ((s[p + k].toNat : Int) - 48)) / 10 < (m : Int) := by assumption
        rw [HD.out, numL_bad _ g2 g3 (.inr (h5.resolve_left (by simp_all)))] at hE
        go_ret; rw [hE]
        exact ⟨rfl, hR.set2 true, hB.trans (((But.refl (· = g) wr).setCell (fun _ => rfl) _).drew.drew)⟩
      · have hE := HE.out
        have h5 : ((s[p].toNat : Int) == 48) = false ∧ (m : Int) ≤ (18446744073709551615 - ((s[p + k].toNat : Int) - 48)) / 10 := by assumption
        rw [HD.out, numL_go _ g2 g3 (by rw [HZ2.out]; rintro ⟨_, h6⟩; have := HU.out.1 (by simpa using h6); simp_all) h5.2] at hE
        refine ⟨⟨10 * m + (s[p + k].toNat - 48), k + 1, by omega, by omega, ?_, hR.set1 (p + k + 1), hB.trans (((But.refl (· = g) wr).setCell (fun _ => rfl) _).drew.drew), hE⟩, ?_⟩
        · congr 1; omega
        · have h6 := (hR.set1 (p + k + 1)).atOf
          have h7 := hR.atOf
          change s.size - atOf (wr.setCell ⟨g, 1, none⟩ (.int .i64 ((p + k + 1 : Nat)))) g < _
          rw [h6, h7]; omega
      · have hE := HE.out
        rw [HD.out, numL_bad _ g2 g3 (.inr (by assumption))] at hE
        go_ret; rw [hE]
        exact ⟨rfl, hR.set2 true, hB.trans (((But.refl (· = g) wr).setCell (fun _ => rfl) _).drew.drew)⟩
      · have hE := HE.out
        rw [HD.out, numL_go _ g2 g3 (by rintro ⟨_, _⟩; omega) (by assumption)] at hE
        refine ⟨⟨10 * m + (s[p + k].toNat - 48), k + 1, by omega, by omega, ?_, hR.set1 (p + k + 1), hB.trans (((But.refl (· = g) wr).setCell (fun _ => rfl) _).drew.drew), hE⟩, ?_⟩
        · congr 1; omega
        · have h6 := (hR.set1 (p + k + 1)).atOf
          have h7 := hR.atOf
          change s.size - atOf (wr.setCell ⟨g, 1, none⟩ (.int .i64 ((p + k + 1 : Nat)))) g < _
          rw [h6, h7]; omega
    · have hE := HE.out
      rw [bs_drop s (p + k) (by omega), numL_end _ (by first | (left; assumption) | (right; assumption))] at hE
      first | go_ret | refine ⟨_, results_tmp rfl _ _ _, ?_⟩
      rw [hE]
      refine ⟨rfl, ?_, hB.trans (((But.refl (· = g) wr).setCell (fun _ => rfl) _).drew)⟩
      rw [show (k == 0) = ((p : Int) + k == p) from by rw [Bool.eq_iff_iff]; simp; omega]
      exact hR.set2 _
    · have hE := HE.out
      rw [bs_drop s (p + k) (by omega), numL_end _ (by first | (left; assumption) | (right; assumption))] at hE
      first | go_ret | refine ⟨_, results_tmp rfl _ _ _, ?_⟩
      rw [hE]
      refine ⟨rfl, ?_, hB.trans (((But.refl (· = g) wr).setCell (fun _ => rfl) _).drew)⟩
      rw [show (k == 0) = ((p : Int) + k == p) from by rw [Bool.eq_iff_iff]; simp; omega]
      exact hR.set2 _
    · have hE := HE.out
      rw [bs_drop_nil s (p + k) (by omega), numL_nil] at hE
      first | go_ret | refine ⟨_, results_tmp rfl _ _ _, ?_⟩
      rw [hE]
      refine ⟨rfl, ?_, hB.trans (((But.refl (· = g) wr).setCell (fun _ => rfl) _).drew)⟩
      rw [show (k == 0) = ((p : Int) + k == p) from by rw [Bool.eq_iff_iff]; simp; omega]
      exact hR.set2 _
end J1
end Go.Proofs.YtlgagbglldehjaaDoor
