/- The walks of package journal's small functions: what each computes, for every argument. -/
import Derived.Test.YtlgagbglldehjaaDoorRows
import Derived.Test.YtlgagbglldehjaaDoorRo
import Derived.Test.YtlgagbglldehjaaDoorBase
import Derived.Test.YtlgagbglldehjaaDoorPj
namespace Go.Proofs.YtlgagbglldehjaaDoor
set_option linter.unusedVariables false
set_option linter.unusedSimpArgs false
open Go Go.RowKit Pj
namespace J1

set_option maxHeartbeats 400000 in
theorem hidden_c (r : Int) (w : World) :
    Calls Tryd.prog 32 #[.int .i32 r] w fun e w' => e = .returned (.bool (hiddenB r)) ∧ w = w' := by
  go_enter Tryd.func32, Tryd.ntmps32
  go_wp2
  all_goals (go_ret; refine ⟨ret_bool ?_, rfl⟩)
  all_goals (unfold hiddenB; simp; try omega)

set_option maxHeartbeats 400000 in
theorem letter_c (c : Int) (w : World) :
    Calls Tryd.prog 37 #[.int .u8 c] w fun e w' => e = .returned (.bool (letterB c)) ∧ w = w' := by
  go_enter Tryd.func37, Tryd.ntmps37
  go_wp2
  all_goals (go_ret; refine ⟨ret_bool ?_, rfl⟩)
  all_goals (unfold letterB; rw [Bool.eq_iff_iff]; simp; try omega)

set_option maxHeartbeats 400000 in
theorem word_c (k : Int) (w : World) :
    Calls Tryd.prog 16 #[.int .i64 k] w fun e w' => e = .returned (.string ⟨(wordS k).toArray⟩) ∧ w = w' := by
  go_enter Tryd.func16, Tryd.ntmps16
  go_wp2
  all_goals (go_ret; refine ⟨ret_string ?_, rfl⟩)
  all_goals (simp_all [wordS])

set_option maxHeartbeats 400000 in
theorem common_c (s t : ByteArray) (w : World) (hs : s.size ≤ 9223372036854775807) :
    Calls Tryd.prog 42 #[.string s, .string t] w fun e w' => e = .returned (.int .i64 (lcp (bs s) (bs t))) ∧ ∃ n, w' = w.drewN n := by
  go_enter Tryd.func42, Tryd.ntmps42
  go_wp2
  go_loopw [5] (fun n wr => ∃ k : Nat, k ≤ s.size ∧ k ≤ t.size ∧ n = .int .i64 k ∧ lcp (bs s) (bs t) = k + lcp ((bs s).drop k) ((bs t).drop k) ∧ ∃ m, wr = w.drewN m) (fun n _ => s.size - (intOf n).toNat)
  case atStart => exact ⟨0, by omega, by omega, rfl, by simp, 0, rfl⟩
  case round =>
    obtain ⟨k, hk, hk2, rfl, hl, m, rfl⟩ := hrel
    have HL := Lib.hid hl
    clear hl
    go_wp2_with fail
    refine Ro.wp_region_ro (by kernel_rfl) (by kernel_rfl) (by kernel_rfl) ?_
    go_wp2
    all_goals (refine ⟨rfl, ?_⟩; go_wp2)
    · have h1 : k < s.size := by assumption
      have h2 : k < t.size := by assumption
      have h3 : ((s[k].toNat : Int) == (t[k].toNat : Int)) = true := by assumption
      refine ⟨⟨k + 1, by omega, by omega, rfl, ?_, m + 1, rfl⟩, by simp [intOf]; omega⟩
      rw [HL.out, bs_drop s k h1, bs_drop t k h2, u8_eq h3, lcp_cons]; omega
    · have h1 : k < s.size := by assumption
      have h2 : k < t.size := by assumption
      have h3 : ((s[k].toNat : Int) == (t[k].toNat : Int)) = false := by assumption
      go_ret
      refine ⟨ret_int ?_, m + 1, rfl⟩
      rw [HL.out, bs_drop s k h1, bs_drop t k h2, lcp_ne (u8_ne h3)]; simp
    · go_ret
      refine ⟨ret_int ?_, m + 1, rfl⟩
      rw [HL.out, bs_drop_nil t k (by omega), lcp_nil_right]; simp
    · go_ret
      refine ⟨ret_int ?_, m + 1, rfl⟩
      rw [HL.out, bs_drop_nil s k (by omega), lcp_nil_left]; simp

/-- a reader lies at g -/
def Rd (w : World) (g : Nat) (s : ByteArray) (p : Nat) (b : Bool) : Prop := w.heap[g]? = some (.cells #[.string s, .int .i64 p, .bool b] 54 (0, 0))
namespace Rd
variable {w : World} {g p : Nat} {s : ByteArray} {b : Bool}
theorem c0 (h : Rd w g s p b) : w.cell? ⟨g, 0, none⟩ = some (.string s) := (blk_cell h).trans rfl
theorem c1 (h : Rd w g s p b) : w.cell? ⟨g, 1, none⟩ = some (.int .i64 p) := (blk_cell h).trans rfl
theorem c2 (h : Rd w g s p b) : w.cell? ⟨g, 2, none⟩ = some (.bool b) := (blk_cell h).trans rfl
theorem fz (h : Rd w g s p b) (i : Nat) : w.frozen? ⟨g, i, none⟩ = false := blk_frozen h
theorem set1 (h : Rd w g s p b) (q : Nat) : Rd (w.setCell ⟨g, 1, none⟩ (.int .i64 q)) g s q b := (blk_set h _).trans rfl
theorem set2 (h : Rd w g s p b) (c : Bool) : Rd (w.setCell ⟨g, 2, none⟩ (.bool c)) g s p c := (blk_set h _).trans rfl
end Rd
/-- where a reader stands -/
def atOf (w : World) (g : Nat) : Nat := match w.cell? ⟨g, 1, none⟩ with | some (.int _ n) => n.toNat | _ => 0
theorem Rd.atOf {w : World} {g p : Nat} {s : ByteArray} {b : Bool} (h : Rd w g s p b) : J1.atOf w g = p := by simp [J1.atOf, h.c1]

set_option maxHeartbeats 400000 in
theorem rest_c (w : World) (g p : Nat) (s : ByteArray) (b : Bool) (h : Rd w g s p b) (hp : p ≤ s.size) :
    Calls Tryd.prog 43 #[.pointer (some ⟨g, 0, none⟩)] w fun e w' => e = .returned (.string (s.extract p s.size)) ∧ ∃ n, w' = w.drewN n := by
  have h0 := h.c0
  have h1 := h.c1
  go_enter Tryd.func43, Tryd.ntmps43
  go_wp2
  refine Ro.wp_region_ro (by kernel_rfl) (by kernel_rfl) (by kernel_rfl) ?_
  go_wp2
  refine ⟨rfl, ?_⟩
  go_wp2
  go_ret
  exact ⟨rfl, 1, rfl⟩

/-- some texts lie side by side -/
def RowS (w : World) (k : Nat) (l : List ByteArray) : Prop := ∀ i, (h : i < l.length) → w.cell? ⟨k, i, none⟩ = some (.string l[i])
theorem RowS.but {S : Nat → Prop} {w w' : World} {k : Nat} {l : List ByteArray} (h : RowS w k l) (hb : But S w w') (hs : ¬ S k) : RowS w' k l := fun i hi => hb.cell (h i hi) hs

set_option maxHeartbeats 400000 in
theorem one_bad (w : World) (g p : Nat) (s : ByteArray) (h : Rd w g s p true) (v : Value) :
    Calls Tryd.prog 25 #[.pointer (some ⟨g, 0, none⟩), v] w fun e w' => e = .returned (.int .i64 0) ∧ w = w' := by
  have h2 := h.c2
  go_enter Tryd.func25, Tryd.ntmps25
  go_wp2
  go_ret
  exact ⟨rfl, rfl⟩

set_option maxHeartbeats 400000 in
theorem one_c (w : World) (g p : Nat) (s : ByteArray) (h : Rd w g s p false) (hp : p ≤ s.size) (hm : s.size < 9223372036854775807) (k : Nat) (l : List ByteArray) (c : Nat) (hr : RowS w k l) (hk : k ≠ g) (hl : l.length ≤ 1000) (hl2 : ∀ t ∈ l, t.size ≤ 9223372036854775807) :
    Calls Tryd.prog 25 #[.pointer (some ⟨g, 0, none⟩), .slice (some ⟨k, 0, none⟩) l.length c] w fun e w' => e = .returned (.int .i64 (oneR (l.map bs) ((bs s).drop p)).1) ∧
      Rd w' g s (p + (oneR (l.map bs) ((bs s).drop p)).2.1) (oneR (l.map bs) ((bs s).drop p)).2.2 ∧ But (· = g) w w' := by
  have h2 := h.c2
  go_enter Tryd.func25, Tryd.ntmps25
  go_wp2
  clear h2
  go_loopw [5, 15] (fun b i wr => ∃ best n : Nat, n ≤ l.length ∧ best ≤ s.size - p ∧ b = .int .i64 best ∧ i = .int .i64 n ∧ Hid (oneR (l.map bs) ((bs s).drop p) = oneL best n ((l.map bs).drop n) ((bs s).drop p)) ∧ ∃ m, wr = w.drewN m) (fun _ i _ => l.length - (intOf i).toNat)
  case atStart => exact ⟨0, 0, by omega, by omega, rfl, rfl, rfl, 0, rfl⟩
  case round =>
    obtain ⟨best, n, hn, hb, rfl, rfl, HE, m, rfl⟩ := hrel
    by_cases hlt : n < l.length
    · have hc := hr n hlt
      have h0 := h.c0
      have h1 := h.c1
      have hf := h.fz 1
      have hlc : lcp (bs l[n]) (bs (s.extract p s.size)) ≤ s.size - p := by
        have := lcp_le_right (bs l[n]) (bs (s.extract p s.size)); rw [bs_rest, List.length_drop, bs_len] at this; rw [bs_rest]; exact this
      go_wp2_with (first | (go_at_call 43; refine (rest_c (w.drewN m) g p s false h hp).mono ?_; rintro e w1 ⟨rfl, m1, rfl⟩) | (go_at_call 42; refine (common_c _ _ _ (hl2 _ (List.getElem_mem hlt))).mono ?_; rintro e w1 ⟨rfl, m1, rfl⟩))
      · have h4 : lcp (bs l[n]) ((bs s).drop p) = (bs l[n]).length := by
          have h3 : ((lcp (bs l[n]) (bs (s.extract p s.size)) : Int) == (l[n].size : Int)) = true := by assumption
          have := of_decide_eq_true (p := (lcp (bs l[n]) (bs (s.extract p s.size)) : Int) = l[n].size) (by simpa using h3)
          rw [← bs_rest, bs_len]; omega
        have hE : oneR (l.map bs) ((bs s).drop p) = (n, (bs l[n]).length, false) := by
          rw [HE.out, List.drop_eq_getElem_cons (l := l.map bs) (i := n) (by simpa using hlt)]; simp only [List.getElem_map]; rw [oneL_hit _ _ _ h4]
        go_ret
        rw [hE]
        refine ⟨rfl, ?_, ((But.refl (· = g) w).drewN _).setCell (fun _ => rfl) _⟩
        rw [← h4, ← bs_rest]
        exact Rd.set1 (w := w.drewN _) h _
      · have h4 : lcp (bs l[n]) ((bs s).drop p) ≠ (bs l[n]).length := by
          have h3 : ((lcp (bs l[n]) (bs (s.extract p s.size)) : Int) == (l[n].size : Int)) = false := by assumption
          rw [← bs_rest, bs_len]
          intro e; rw [e] at h3; simp at h3
        refine ⟨⟨max best (lcp (bs l[n]) ((bs s).drop p)), n + 1, by omega, by rw [← bs_rest]; omega, ?_, rfl, ?_, _, rfl⟩, by simp [intOf]; omega⟩
        · rw [← bs_rest]; simp; omega
        · have h5 := HE.out
          rw [List.drop_eq_getElem_cons (l := l.map bs) (i := n) (by simpa using hlt)] at h5; simp only [List.getElem_map] at h5; rw [oneL_miss _ _ _ h4] at h5
          exact h5
    · have h0 := h.c0
      have h1 := h.c1
      have h2 := h.c2
      have hf := h.fz 1
      have hf2 := h.fz 2
      go_wp2
      go_ret
      have hE : oneR (l.map bs) ((bs s).drop p) = (0, best, true) := by
        rw [HE.out, List.drop_eq_nil_of_le (by simp; omega), oneL_nil]
      rw [hE]
      refine ⟨rfl, ?_, (((But.refl (· = g) w).drewN _).setCell (fun _ => rfl) _).setCell (fun _ => rfl) _⟩
      exact Rd.set2 (Rd.set1 (w := w.drewN _) h _) true
end J1
end Go.Proofs.YtlgagbglldehjaaDoor
