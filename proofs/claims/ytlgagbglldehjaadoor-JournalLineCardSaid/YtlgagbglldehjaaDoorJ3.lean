/- The walks of package journal's reader: holders' words, and what stands where a sequence breaks off. -/
import Derived.Test.YtlgagbglldehjaaDoorJ2
import Derived.BigQuiet
namespace Go.Proofs.YtlgagbglldehjaaDoor
set_option linter.unusedVariables false
set_option linter.unusedSimpArgs false
open Go Go.RowKit Pj
namespace J1
theorem letter_q (c : Int) (b : Bool) (h : letterB c = b) (w : World) (n : Nat) :
    Calls Tryd.prog 37 #[.int .u8 c] (w.drewN n) fun e w' => e = .returned (.bool b) ∧ ∃ m, w' = w.drewN m :=
  (letter_c c _).mono fun e w' ⟨he, hw⟩ => ⟨by rw [he, h], n, hw.symm⟩

set_option maxHeartbeats 1000000 in
set_option maxRecDepth 100000 in
theorem holderR_c (w : World) (g p : Nat) (s : ByteArray) (h : Rd w g s p false) (hp : p ≤ s.size) (hm : s.size < 9223372036854775807) :
    Calls Tryd.prog 27 #[.pointer (some ⟨g, 0, none⟩)] w fun e w' => (∃ r, e = .returned (.string r) ∧ ((holL 0 ((bs s).drop p)).2 = false → bs r = ((bs s).drop p).take (holL 0 ((bs s).drop p)).1)) ∧
      Rd w' g s (p + (holL 0 ((bs s).drop p)).1) (holL 0 ((bs s).drop p)).2 ∧ But (· = g) w w' := by
  have h1 := h.c1
  go_enter Tryd.func27, Tryd.ntmps27
  go_wp2
  clear h1
  go_loopw [8] (fun _ wr => ∃ k : Nat, k ≤ s.size - p ∧ Rd wr g s (p + k) false ∧ But (· = g) w wr ∧ Hid (holL 0 ((bs s).drop p) = holL k ((bs s).drop (p + k)))) (fun _ wr => s.size - atOf wr g)
  case atStart => exact ⟨0, by omega, h, But.refl _ _, rfl⟩
  case round =>
    obtain ⟨k, hk, hR, hB, HE⟩ := hrel
    have c0 := hR.c0
    have c1 := hR.c1
    have c2 := hR.c2
    have f1 := hR.fz 1
    have f2 := hR.fz 2
    by_cases hlt : p + k < s.size
    · have g1 : (p : Int) + k < s.size := by omega
      have g0 : 0 ≤ (p : Int) + k := by omega
      have g4 : decide ((p : Int) + k < s.size) = true := decide_eq_true g1
      have HD := Lib.hid (bs_drop s (p + k) (by omega))
      cases hb : letterB (s[p + k].toNat : Int)
      all_goals (have HB := Lib.hid hb; clear hb)
      all_goals (go_wp2_with fail)
      all_goals (go_quiet ((go_at_call 37; exact letter_q _ _ HB.out _ _)))
      all_goals go_wp2
      · have hE := HE.out
        rw [HD.out, holL_end _ HB.out] at hE
        refine Ro.wp_region_ro (by kernel_rfl) (by kernel_rfl) (by kernel_rfl) ?_
        go_wp2
        refine ⟨rfl, ?_⟩
        go_wp2
        first | go_ret | refine ⟨_, results_tmp rfl _ _ _, ?_⟩
        rw [hE]
        refine ⟨⟨_, rfl, fun _ => ?_⟩, ?_, hB.trans (((But.refl (· = g) wr).drewN nq).setCell (fun _ => rfl) _).drew⟩
        · rw [bs_extract]; congr 1; omega
        · rw [show (k == 0) = ((p : Int) + k == p) from by rw [Bool.eq_iff_iff]; simp; omega]
          exact Rd.set2 (w := wr.drewN nq) hR _
      · have h32 : k = 32 := by
          have : (p : Int) + k - p = 32 := by have h9 : ((p : Int) + k - p == 32) = true := by assumption
                                              exact of_decide_eq_true (by simpa using h9)
          omega
        subst h32
        have hE := HE.out
        rw [HD.out, holL_long _ HB.out] at hE
        go_ret
        rw [hE]
        exact ⟨⟨_, rfl, fun h => by cases h⟩, Rd.set2 (w := wr.drewN nq) hR true, hB.trans (((But.refl (· = g) wr).drewN nq).setCell (fun _ => rfl) _)⟩
      · have h32 : k ≠ 32 := by
          rintro rfl
          have h9 : ((p : Int) + (32 : Nat) - p == 32) = false := by assumption
          have h10 : (p : Int) + (32 : Nat) - p = 32 := by omega
          rw [h10] at h9; simp at h9
        have hE := HE.out
        rw [HD.out, holL_go _ HB.out h32] at hE
        refine ⟨⟨k + 1, by omega, Rd.set1 (w := wr.drewN nq) hR (p + k + 1), hB.trans (((But.refl (· = g) wr).drewN nq).setCell (fun _ => rfl) _), hE⟩, ?_⟩
        have h6 := (Rd.set1 (w := wr.drewN nq) hR (p + k + 1)).atOf
        have h7 := hR.atOf
        change s.size - atOf ((wr.drewN nq).setCell ⟨g, 1, none⟩ (.int .i64 ((p + k + 1 : Nat)))) g < _
        rw [h6, h7]; omega
    · have g4 : decide ((p : Int) + k < s.size) = false := decide_eq_false (by omega)
      go_wp2_with fail
      go_quiet (fail)
      go_wp2
      · have hE := HE.out
        rw [bs_drop_nil s (p + k) (by omega), holL_nil] at hE
        refine Ro.wp_region_ro (by kernel_rfl) (by kernel_rfl) (by kernel_rfl) ?_
        go_wp2
        refine ⟨rfl, ?_⟩
        go_wp2
        first | go_ret | refine ⟨_, results_tmp rfl _ _ _, ?_⟩
        rw [hE]
        refine ⟨⟨_, rfl, fun _ => ?_⟩, ?_, hB.trans (((But.refl (· = g) wr).drewN nq).setCell (fun _ => rfl) _).drew⟩
        · rw [bs_extract]; congr 1; omega
        · rw [show (k == 0) = ((p : Int) + k == p) from by rw [Bool.eq_iff_iff]; simp; omega]
          exact Rd.set2 (w := wr.drewN nq) hR _
end J1
end Go.Proofs.YtlgagbglldehjaaDoor
