/- utf8.FullRuneInString, journal.broken. -/
import Derived.Test.YtlgagbglldehjaaDoorTb
import Derived.Test.YtlgagbglldehjaaDoorRo
import Derived.Test.YtlgagbglldehjaaDoorPj
import Derived.Test.YtlgagbglldehjaaDoorPn
import Derived.BigQuiet
import Derived.Lib.QuietBelow
namespace Go.Proofs.YtlgagbglldehjaaDoor
set_option linter.unusedVariables false
set_option linter.unusedSimpArgs false
open Go Go.RowKit Pj
namespace Rf
theorem bs_getD (s : ByteArray) (k : Nat) (h : k < s.size) : (bs s).getD k 0 = s[k] := by
  rw [List.getD_eq_getElem?_getD, List.getElem?_eq_getElem (by rw [bs_len]; exact h)]; rfl

theorem fullB_iff {s : ByteArray} {x : Nat} (h0 : 0 < s.size) (hb : (bs s).getD 0 0 = s[0]) (hx : Lib.firstT s[0].toNat = x) :
    fullB (bs s) = (decide (x % 8 ≤ s.size) || (decide (1 < s.size) && (decide (((bs s).getD 1 0).toNat < Lib.accLo (x / 16)) || decide (Lib.accHi (x / 16) < ((bs s).getD 1 0).toNat))) || (decide (2 < s.size) && (decide (((bs s).getD 2 0).toNat < 128) || decide (191 < ((bs s).getD 2 0).toNat)))) := by
  have hl := bs_len s
  have hne : bs s ≠ [] := fun e => by rw [e] at hl; simp at hl; omega
  simp only [fullB, hb, hx, hl, hne, if_false]
  have h : ∀ b c : Bool, (if b = true then true else c) = (b || c) := by decide
  by_cases hc : x % 8 ≤ s.size
  · simp only [hc, if_true, decide_true, Bool.true_or]
  · simp only [hc, if_false, decide_false, Bool.false_or]
    exact h _ _
section
variable {s : ByteArray} {x : Nat} (h0 : 0 < s.size) (hb : (bs s).getD 0 0 = s[0]) (hx : Lib.firstT s[0].toNat = x)
include hb hx
theorem fullB_hit1 (h : x % 8 ≤ s.size) : true = fullB (bs s) := by
  rw [fullB_iff h0 hb hx]; simp [h]
theorem fullB_hit2 (h1 : 1 < s.size) (h : s[1].toNat < Lib.accLo (x / 16) ∨ Lib.accHi (x / 16) < s[1].toNat) : true = fullB (bs s) := by
  rw [fullB_iff h0 hb hx, bs_getD s 1 h1]; rcases h with h | h <;> simp [h, h1]
theorem fullB_hit3 (h2 : 2 < s.size) (h : s[2].toNat < 128 ∨ 191 < s[2].toNat) : true = fullB (bs s) := by
  rw [fullB_iff h0 hb hx, bs_getD s 2 h2]; rcases h with h | h <;> simp [h, h2]
theorem fullB_miss1 (h : s.size < x % 8) (h1 : s.size ≤ 1) : false = fullB (bs s) := by
  rw [fullB_iff h0 hb hx]; simp [show ¬ x % 8 ≤ s.size by omega, show ¬ 1 < s.size by omega, show ¬ 2 < s.size by omega]
theorem fullB_miss2 (h : s.size < x % 8) (h2 : s.size ≤ 2) (h1 : 1 < s.size) (hc : Lib.accLo (x / 16) ≤ s[1].toNat ∧ s[1].toNat ≤ Lib.accHi (x / 16)) : false = fullB (bs s) := by
  rw [fullB_iff h0 hb hx, bs_getD s 1 h1]; simp [show ¬ x % 8 ≤ s.size by omega, show ¬ 2 < s.size by omega, show ¬ s[1].toNat < Lib.accLo (x / 16) by omega, show ¬ Lib.accHi (x / 16) < s[1].toNat by omega]
theorem fullB_miss3 (h : s.size < x % 8) (h2 : 2 < s.size) (h1 : 1 < s.size) (hc : Lib.accLo (x / 16) ≤ s[1].toNat ∧ s[1].toNat ≤ Lib.accHi (x / 16)) (hd : 128 ≤ s[2].toNat ∧ s[2].toNat ≤ 191) : false = fullB (bs s) := by
  rw [fullB_iff h0 hb hx, bs_getD s 1 h1, bs_getD s 2 h2]; simp [show ¬ x % 8 ≤ s.size by omega, show ¬ s[1].toNat < Lib.accLo (x / 16) by omega, show ¬ Lib.accHi (x / 16) < s[1].toNat by omega, show ¬ s[2].toNat < 128 by omega, show ¬ 191 < s[2].toNat by omega]
end

set_option maxHeartbeats 2000000 in
set_option maxRecDepth 100000 in
theorem FullRune_c (s : ByteArray) (w : World) (hs : s.size ≤ 9223372036854775807) (hT : Tabs w) :
    Calls Tryd.prog 63 #[.string s] w fun e w' => e = .returned (.bool (fullB (bs s))) ∧ Ext w w' := by
  by_cases h0 : s.size = 0
  · have hb : bs s = [] := List.eq_nil_of_length_eq_zero (by rw [bs_len]; exact h0)
    rw [hb]
    go_enter Tryd.func63, Tryd.ntmps63
    go_wp2
    go_ret
    exact ⟨rfl, But.refl _ _⟩
  · have h00 : 0 < s.size := by omega
    clear h0
    have hf := hT.u8.1 s[0].toNat s[0].toNat_lt
    have hacc := hT.u8.2
    have hb0 := bs_getD s 0 h00
    obtain ⟨x, hx⟩ : ∃ x, Lib.firstT s[0].toNat = x := ⟨_, rfl⟩
    have hc := Lib.firstT_cases s[0].toNat
    rw [hx] at hc hf
    clear hT
    have p0 : w.cell? ⟨1, 0, none⟩ = some (.int .u8 128) := (hacc 0 (by decide)).1
    have p1 : w.cell? ⟨1, 1, none⟩ = some (.int .u8 191) := (hacc 0 (by decide)).2
    have p2 : w.cell? ⟨1, 2, none⟩ = some (.int .u8 160) := (hacc 1 (by decide)).1
    have p3 : w.cell? ⟨1, 3, none⟩ = some (.int .u8 191) := (hacc 1 (by decide)).2
    have p4 : w.cell? ⟨1, 4, none⟩ = some (.int .u8 128) := (hacc 2 (by decide)).1
    have p5 : w.cell? ⟨1, 5, none⟩ = some (.int .u8 159) := (hacc 2 (by decide)).2
    have p6 : w.cell? ⟨1, 6, none⟩ = some (.int .u8 144) := (hacc 3 (by decide)).1
    have p7 : w.cell? ⟨1, 7, none⟩ = some (.int .u8 191) := (hacc 3 (by decide)).2
    have p8 : w.cell? ⟨1, 8, none⟩ = some (.int .u8 128) := (hacc 4 (by decide)).1
    have p9 : w.cell? ⟨1, 9, none⟩ = some (.int .u8 143) := (hacc 4 (by decide)).2
    clear hacc
    have e240 : bits BinOp.and IntKind.u8 240 7 = 0 := by decide
    have e241 : bits BinOp.and IntKind.u8 241 7 = 1 := by decide
    have e2 : bits BinOp.and IntKind.u8 2 7 = 2 := by decide
    have e19 : bits BinOp.and IntKind.u8 19 7 = 3 := by decide
    have e3 : bits BinOp.and IntKind.u8 3 7 = 3 := by decide
    have e35 : bits BinOp.and IntKind.u8 35 7 = 3 := by decide
    have e52 : bits BinOp.and IntKind.u8 52 7 = 4 := by decide
    have e4 : bits BinOp.and IntKind.u8 4 7 = 4 := by decide
    have e68 : bits BinOp.and IntKind.u8 68 7 = 4 := by decide
    have hlt : (s[0].toNat : Int) < 256 := by have := s[0].toNat_lt; omega
    have HX := Lib.hid hx
    have HB := Lib.hid hb0
    clear hx hb0
    rcases hc with rfl | rfl | rfl | rfl | rfl | rfl | rfl | rfl | rfl
    all_goals (go_enter Tryd.func63, Tryd.ntmps63)
    all_goals go_wp2
    all_goals first
      | go_ret
      | (refine Ro.wp_region_ro (by kernel_rfl) (by kernel_rfl) (by kernel_rfl) ?_
         go_wp2
         all_goals (refine ⟨rfl, ?_⟩)
         all_goals go_wp2
         all_goals first | go_ret | refine ⟨_, results_tmp rfl _ _ _, ?_⟩ | skip)
    all_goals first | refine ⟨ret_bool ?_, ?_⟩ | refine ⟨congrArg Value.bool ?_, ?_⟩
    any_goals (first | with_reducible exact But.refl _ _ | with_reducible exact (But.refl _ _).alloc _ | with_reducible exact ((But.refl _ _).alloc _).drew)
    all_goals (clear p0 p1 p2 p3 p4 p5 p6 p7 p8 p9 e240 e241 e2 e3 e4 e19 e35 e52 e68)
    all_goals (clear hf)
    all_goals first
      | exact fullB_hit1 h00 HB.out HX.out (by omega)
      | exact fullB_hit2 h00 HB.out HX.out (by omega) (by simp [Lib.accLo, Lib.accHi]; omega)
      | exact fullB_hit3 h00 HB.out HX.out (by omega) (by omega)
      | exact fullB_miss1 h00 HB.out HX.out (by omega) (by omega)
      | exact fullB_miss2 h00 HB.out HX.out (by omega) (by omega) (by omega) (by simp [Lib.accLo, Lib.accHi]; omega)
      | exact fullB_miss3 h00 HB.out HX.out (by omega) (by omega) (by omega) (by simp [Lib.accLo, Lib.accHi]; omega) (by omega)
end Rf
end Go.Proofs.YtlgagbglldehjaaDoor
