/- journal.Read: its parts at either state of the reader; what it reads, plain. -/
import Derived.Test.YtlgagbglldehjaaDoorNm
import Derived.Test.YtlgagbglldehjaaDoorJ3
namespace Go.Proofs.YtlgagbglldehjaaDoor
set_option linter.unusedVariables false
set_option linter.unusedSimpArgs false
open Go Go.RowKit Pj J1 St Es Rf
namespace Rp
theorem one_any (w : World) (g p : Nat) (s : ByteArray) (b : Bool) (h : Rd w g s p b) (hp : p ≤ s.size) (hm : s.size < 9223372036854775807) (k : Nat) (l : List ByteArray) (c : Nat) (hr : RowS w k l) (hk : k ≠ g) (hl : l.length ≤ 1000) (hl2 : ∀ t ∈ l, t.size ≤ 9223372036854775807) :
    Calls Tryd.prog 25 #[.pointer (some ⟨g, 0, none⟩), .slice (some ⟨k, 0, none⟩) l.length c] w fun e w' => e = .returned (.int .i64 (oneB b (l.map bs) ((bs s).drop p)).1) ∧
      Rd w' g s (p + (oneB b (l.map bs) ((bs s).drop p)).2.1) (oneB b (l.map bs) ((bs s).drop p)).2.2 ∧ But (· = g) w w' := by
  cases b
  · exact one_c w g p s h hp hm k l c hr hk hl hl2
  · refine (one_bad w g p s h _).mono ?_
    rintro e w' ⟨rfl, rfl⟩
    exact ⟨rfl, h, But.refl _ _⟩

set_option maxHeartbeats 1000000 in
set_option maxRecDepth 100000 in
theorem holder_bad (w : World) (g p : Nat) (s : ByteArray) (h : Rd w g s p true) (hp : p ≤ s.size) (hm : s.size < 9223372036854775807) :
    Calls Tryd.prog 27 #[.pointer (some ⟨g, 0, none⟩)] w fun e w' => (∃ r, e = .returned (.string r)) ∧ Rd w' g s p true ∧ But (· = g) w w' := by
  have h1 := h.c1
  go_enter Tryd.func27, Tryd.ntmps27
  go_wp2
  clear h1
  go_loopw [8] (fun _ wr => Rd wr g s p true ∧ But (· = g) w wr) (fun _ wr => 0)
  case atStart => exact ⟨h, But.refl _ _⟩
  case round =>
    obtain ⟨hR, hB⟩ := hrel
    have c0 := hR.c0
    have c1 := hR.c1
    have c2 := hR.c2
    have f1 := hR.fz 1
    have f2 := hR.fz 2
    go_wp2_with fail
    go_quiet (fail)
    go_wp2
    refine Ro.wp_region_ro (by kernel_rfl) (by kernel_rfl) (by kernel_rfl) ?_
    go_wp2
    refine ⟨rfl, ?_⟩
    go_wp2
    first | go_ret | refine ⟨_, results_tmp rfl _ _ _, ?_⟩
    exact ⟨⟨_, rfl⟩, Rd.set2 (w := wr.drewN nq) hR true, hB.trans (((But.refl (· = g) wr).drewN nq).setCell (fun _ => rfl) _).drew⟩
theorem holder_any (w : World) (g p : Nat) (s : ByteArray) (b : Bool) (h : Rd w g s p b) (hp : p ≤ s.size) (hm : s.size < 9223372036854775807) :
    Calls Tryd.prog 27 #[.pointer (some ⟨g, 0, none⟩)] w fun e w' => (∃ r, e = .returned (.string r) ∧ ((holB b ((bs s).drop p)).2 = false → bs r = ((bs s).drop p).take (holB b ((bs s).drop p)).1)) ∧
      Rd w' g s (p + (holB b ((bs s).drop p)).1) (holB b ((bs s).drop p)).2 ∧ But (· = g) w w' := by
  cases b
  · exact holderR_c w g p s h hp hm
  · refine (holder_bad w g p s h hp hm).mono ?_
    rintro e w' ⟨⟨r, rfl⟩, hR, hB⟩
    exact ⟨⟨r, rfl, fun h => by cases h⟩, hR, hB⟩

theorem nameStep_pos {l b : Bs} {n : Nat} (h : Nm.nameStep l = some (b, n, false)) : 1 ≤ n := by
  unfold Nm.nameStep at h
  split at h
  · cases h
  · split at h
    · have h3 := Nm.oneL_three l (fun y hy => by obtain ⟨c, -, rfl⟩ := List.mem_map.1 hy; exact Nm.spell_three c) spells 0 0 (fun y hy => by obtain ⟨c, -, rfl⟩ := List.mem_map.1 hy; exact Nm.spell_three c)
      simp only [Option.some.injEq, Prod.mk.injEq] at h
      have := h3 h.2.2
      have h4 : (oneL 0 0 spells l).2.1 = n := h.2.1
      omega
    · split at h
      · simp at h
      · split at h
        · simp at h
        · simp only [Option.some.injEq, Prod.mk.injEq] at h
          rw [← h.2.1]; exact Lib.decodeL_width l
theorem nameL_fuel : ∀ (m : Nat) (l : Bs), l.length ≤ m → ∀ f, l.length ≤ f → Nm.nameL f l = Nm.nameL l.length l
  | 0, l, hl, f, _ => by
    have : l = [] := List.eq_nil_of_length_eq_zero (by omega)
    subst this
    rw [Nm.nameL_end (l := []) (by simp [Nm.nameStep]), Nm.nameL_end (l := []) (by simp [Nm.nameStep])]
  | m + 1, l, hl, f, hf => by
    cases hs : Nm.nameStep l with
    | none => rw [Nm.nameL_end hs, Nm.nameL_end hs]
    | some r =>
      obtain ⟨b, n, bad⟩ := r
      have hne : l ≠ [] := by rintro rfl; simp [Nm.nameStep] at hs
      have hlp := List.length_pos_iff.2 hne
      obtain ⟨f, rfl⟩ : ∃ g, f = g + 1 := ⟨f - 1, by omega⟩
      obtain ⟨e, he⟩ : ∃ g, l.length = g + 1 := ⟨l.length - 1, by omega⟩
      rw [he]
      cases bad
      · have hn := nameStep_pos hs
        have hd : (l.drop n).length ≤ m := by rw [List.length_drop]; omega
        rw [Nm.nameL_go hs, Nm.nameL_go hs, nameL_fuel m _ hd f (by rw [List.length_drop]; omega), nameL_fuel m _ hd e (by rw [List.length_drop]; omega)]
      · rw [Nm.nameL_bad hs, Nm.nameL_bad hs]
end Rp
end Go.Proofs.YtlgagbglldehjaaDoor
