/- the reference's feed: its block; digit, letter. -/
import Derived.Test.YtlgagbglldehjaaDoorGh
import Derived.Test.YtlgagbglldehjaaDoorCv
import Derived.BigQuiet
namespace Go.Proofs.YtlgagbglldehjaaDoor
set_option linter.unusedVariables false
set_option linter.unusedSimpArgs false
open Go Go.RowKit Pj Fe St Gh
namespace Gd
/-- a feed lies at g -/
def FB (w : World) (g clock : Nat) (kind : Int) (hold dest : ByteArray) (ticks state : Nat) (part : ByteArray) (v : Value) (rest : ByteArray) : Prop :=
  w.heap[g]? = some (.cells #[.int .u64 clock, .int .i64 kind, .string ⟨#[]⟩, .string hold, .string dest, .int .u64 ticks, .int .i64 state, .string part, v, .string rest] 63 (0, 0))
namespace FB
variable {w w' : World} {g clock : Nat} {kind : Int} {hold dest : ByteArray} {ticks state : Nat} {part : ByteArray} {v : Value} {rest : ByteArray}
theorem cells (h : FB w g clock kind hold dest ticks state part v rest) : w.cell? ⟨g, 0, none⟩ = some (.int .u64 clock) ∧ w.cell? ⟨g, 1, none⟩ = some (.int .i64 kind) ∧ w.cell? ⟨g, 2, none⟩ = some (.string ⟨#[]⟩) ∧ w.cell? ⟨g, 3, none⟩ = some (.string hold) ∧ w.cell? ⟨g, 4, none⟩ = some (.string dest) ∧
    w.cell? ⟨g, 5, none⟩ = some (.int .u64 ticks) ∧ w.cell? ⟨g, 6, none⟩ = some (.int .i64 state) ∧ w.cell? ⟨g, 7, none⟩ = some (.string part) ∧ w.cell? ⟨g, 8, none⟩ = some v ∧ w.cell? ⟨g, 9, none⟩ = some (.string rest) :=
  ⟨(blk_cell h).trans rfl, (blk_cell h).trans rfl, (blk_cell h).trans rfl, (blk_cell h).trans rfl, (blk_cell h).trans rfl, (blk_cell h).trans rfl, (blk_cell h).trans rfl, (blk_cell h).trans rfl, (blk_cell h).trans rfl, (blk_cell h).trans rfl⟩
theorem fz (h : FB w g clock kind hold dest ticks state part v rest) (i : Nat) : w.frozen? ⟨g, i, none⟩ = false := blk_frozen h
theorem fzs (h : FB w g clock kind hold dest ticks state part v rest) : w.frozen? ⟨g, 0, none⟩ = false ∧ w.frozen? ⟨g, 1, none⟩ = false ∧ w.frozen? ⟨g, 2, none⟩ = false ∧ w.frozen? ⟨g, 3, none⟩ = false ∧ w.frozen? ⟨g, 4, none⟩ = false ∧ w.frozen? ⟨g, 5, none⟩ = false ∧ w.frozen? ⟨g, 6, none⟩ = false ∧ w.frozen? ⟨g, 7, none⟩ = false ∧ w.frozen? ⟨g, 8, none⟩ = false ∧ w.frozen? ⟨g, 9, none⟩ = false :=
  ⟨h.fz 0, h.fz 1, h.fz 2, h.fz 3, h.fz 4, h.fz 5, h.fz 6, h.fz 7, h.fz 8, h.fz 9⟩
theorem ext (h : FB w g clock kind hold dest ticks state part v rest) (hx : Ext w w') : FB w' g clock kind hold dest ticks state part v rest := But.heap hx h id
theorem drew (h : FB w g clock kind hold dest ticks state part v rest) : FB w.drew g clock kind hold dest ticks state part v rest := h
theorem alloc (h : FB w g clock kind hold dest ticks state part v rest) (o : Obj) : FB (w.alloc o) g clock kind hold dest ticks state part v rest := blk_alloc h o
theorem set0 (h : FB w g clock kind hold dest ticks state part v rest) (x : Nat) : FB (w.setCell ⟨g, 0, none⟩ (.int .u64 x)) g x kind hold dest ticks state part v rest := (blk_set h _).trans rfl
theorem set1 (h : FB w g clock kind hold dest ticks state part v rest) (x : Int) : FB (w.setCell ⟨g, 1, none⟩ (.int .i64 x)) g clock x hold dest ticks state part v rest := (blk_set h _).trans rfl
theorem set3 (h : FB w g clock kind hold dest ticks state part v rest) (x : ByteArray) : FB (w.setCell ⟨g, 3, none⟩ (.string x)) g clock kind x dest ticks state part v rest := (blk_set h _).trans rfl
theorem set4 (h : FB w g clock kind hold dest ticks state part v rest) (x : ByteArray) : FB (w.setCell ⟨g, 4, none⟩ (.string x)) g clock kind hold x ticks state part v rest := (blk_set h _).trans rfl
theorem set5 (h : FB w g clock kind hold dest ticks state part v rest) (x : Nat) : FB (w.setCell ⟨g, 5, none⟩ (.int .u64 x)) g clock kind hold dest x state part v rest := (blk_set h _).trans rfl
theorem set6 (h : FB w g clock kind hold dest ticks state part v rest) (x : Nat) : FB (w.setCell ⟨g, 6, none⟩ (.int .i64 x)) g clock kind hold dest ticks x part v rest := (blk_set h _).trans rfl
theorem set7 (h : FB w g clock kind hold dest ticks state part v rest) (x : ByteArray) : FB (w.setCell ⟨g, 7, none⟩ (.string x)) g clock kind hold dest ticks state x v rest := (blk_set h _).trans rfl
theorem set8 (h : FB w g clock kind hold dest ticks state part v rest) (x : Value) : FB (w.setCell ⟨g, 8, none⟩ x) g clock kind hold dest ticks state part x rest := (blk_set h _).trans rfl
theorem set9 (h : FB w g clock kind hold dest ticks state part v rest) (x : ByteArray) : FB (w.setCell ⟨g, 9, none⟩ (.string x)) g clock kind hold dest ticks state part v x := (blk_set h _).trans rfl
theorem but_set (hb : But (· = g) w w') (i : Nat) (x : Value) : But (· = g) w (w'.setCell ⟨g, i, none⟩ x) := hb.setCell (S := (· = g)) (p := ⟨g, i, none⟩) (fun _ => rfl) x
end FB
/-- what digit answers -/
def DigPost (w : World) (g clock : Nat) (kind : Int) (hold dest : ByteArray) (ticks state : Nat) (part : ByteArray) (v : Value) (rest : ByteArray) (c : UInt8) (e : Ending) (w' : World) : Option Nat → Prop
  | none => e = .returned (.tuple #[.int .u64 0, .bool false]) ∧ Ext w w'
  | some m => e = .returned (.tuple #[.int .u64 m, .bool true]) ∧ FB w' g clock kind hold dest ticks state (part ++ ⟨#[c]⟩) v rest ∧ But (· = g) w w' ∧ m < 18446744073709551616
theorem ret_dig {a : Int} {m : Nat} (h : a = (m : Int)) : Ending.returned (.tuple #[.int .u64 a, .bool true]) = .returned (.tuple #[.int .u64 m, .bool true]) := by rw [h]
theorem tl (s : ByteArray) : s.toList = bs s := ByteArray.toList_eq s
theorem lit_eq {s : ByteArray} {l : Bs} (h : bs s = l) : (s.toList == l) = true := by rw [tl, h]; exact beq_self_eq_true l
theorem lit_ne {s : ByteArray} {l : Bs} (h : bs s ≠ l) : (s.toList == l) = false := by rw [tl]; exact beq_eq_false_iff_ne.2 h
set_option maxHeartbeats 2000000 in
set_option maxRecDepth 100000 in
theorem digit_c (w : World) (g clock : Nat) (kind : Int) (hold dest : ByteArray) (ticks state : Nat) (part : ByteArray) (v : Value) (rest : ByteArray) (h : FB w g clock kind hold dest ticks state part v rest) (hp : part.size ≤ 9223372036854775800) (n : Nat) (c : UInt8) (hn : n < 18446744073709551616) :
    Calls Tryd.prog 48 #[.pointer (some ⟨g, 0, none⟩), .int .u64 n, .int .u8 c.toNat] w fun e w' => DigPost w g clock kind hold dest ticks state part v rest c e w' (digitF (bs part) n c) := by
  have hc8 := UInt8.toNat_lt c
  obtain ⟨-, -, -, -, -, -, -, c7, -, -⟩ := h.cells
  have f7 := h.fz 7
  have hgl := blk_lt h
  have hb1 : ¬ 9223372036854775807 < part.size + 1 := by omega
  by_cases h1 : c.toNat < 48
  · have hd : Hid (digitF (bs part) n c = none) := by unfold digitF; exact if_pos (.inl h1)
    have g1 : (c.toNat : Int) < 48 := by omega
    rw [hd.out]
    go_enter Tryd.func48, Tryd.ntmps48
    go_wp2
    go_ret2
    exact ⟨rfl, But.refl _ _⟩
  · by_cases h2 : 57 < c.toNat
    · have hd : Hid (digitF (bs part) n c = none) := by unfold digitF; exact if_pos (.inr (.inl h2))
      have g1 : ¬ (c.toNat : Int) < 48 := by omega
      have g2 : 57 < (c.toNat : Int) := by omega
      rw [hd.out]
      go_enter Tryd.func48, Tryd.ntmps48
      go_wp2
      go_ret2
      exact ⟨rfl, But.refl _ _⟩
    · have g1 : ¬ (c.toNat : Int) < 48 := by omega
      have g2 : ¬ 57 < (c.toNat : Int) := by omega
      by_cases h3 : bs part = [48]
      · have hd : Hid (digitF (bs part) n c = none) := by unfold digitF; exact if_pos (.inr (.inr h3))
        have g3 : (part.toList == [48]) = true := lit_eq h3
        rw [hd.out]
        clear h3
        go_enter Tryd.func48, Tryd.ntmps48
        go_wp2
        go_ret2
        exact ⟨rfl, But.refl _ _⟩
      · have g3 : (part.toList == [48]) = false := lit_ne h3
        have hd0 : digitF (bs part) n c = if 1844674407370955161 < n ∨ (n = 1844674407370955161 ∧ 5 < c.toNat - 48) then none else some (10 * n + (c.toNat - 48)) := by
          unfold digitF; rw [if_neg]; rintro (e | e | e)
          · omega
          · omega
          · exact h3 e
        have HD0 := Lib.hid hd0
        clear hd0 h3
        obtain ⟨d, hd⟩ : ∃ d : Nat, c.toNat = 48 + d := ⟨c.toNat - 48, by omega⟩
        have hdi : (c.toNat : Int) - 48 = (d : Int) := by omega
        have hdn : c.toNat - 48 = d := by omega
        rw [hdn] at HD0
        have hd9 : d ≤ 9 := by omega
        clear hd hdn
        have k1 := Cv.kc1d c
        have k2 := Cv.kc1 c
        by_cases h4 : 1844674407370955161 < n
        · have g4 : 1844674407370955161 < (n : Int) := by omega
          have hd : Hid (digitF (bs part) n c = none) := HD0.out.trans (if_pos (.inl h4))
          rw [hd.out]
          clear hd HD0
          go_enter Tryd.func48, Tryd.ntmps48
          go_wp2
          go_ret2
          exact ⟨rfl, But.refl _ _⟩
        · have g4 : ¬ 1844674407370955161 < (n : Int) := by omega
          by_cases h5 : n = 1844674407370955161
          · have g5 : ((n : Int) == 1844674407370955161) = true := beq_iff_eq.2 (by omega)
            by_cases h6 : 5 < d
            · have g6 : 5 < (d : Int) := by omega
              have hd : Hid (digitF (bs part) n c = none) := HD0.out.trans (if_pos (.inr ⟨h5, h6⟩))
              rw [hd.out]
              clear hd HD0 h5
              go_enter Tryd.func48, Tryd.ntmps48
              go_wp2
              go_ret2
              exact ⟨rfl, But.refl _ _⟩
            · have g6 : ¬ 5 < (d : Int) := by omega
              have hd : Hid (digitF (bs part) n c = some (10 * n + d)) := HD0.out.trans (if_neg (by omega))
              have hlt : 10 * n + d < 18446744073709551616 := by omega
              rw [hd.out]
              clear hd HD0 h5
              go_enter Tryd.func48, Tryd.ntmps48
              go_wp2
              go_region
              all_goals
                go_wp2
                go_ret2
                refine ⟨ret_dig (by push_cast; omega), ?_, ?_, hlt⟩
                · exact ((h.set7 _).alloc _).drew
                · exact ((FB.but_set (But.refl _ _) 7 _).alloc _).drew
          · have g5 : ((n : Int) == 1844674407370955161) = false := beq_eq_false_iff_ne.2 (by omega)
            have hd : Hid (digitF (bs part) n c = some (10 * n + d)) := HD0.out.trans (if_neg (by omega))
            have hlt : 10 * n + d < 18446744073709551616 := by omega
            rw [hd.out]
            clear hd HD0 h5
            go_enter Tryd.func48, Tryd.ntmps48
            go_wp2
            go_region
            all_goals
              go_wp2
              go_ret2
              refine ⟨ret_dig (by push_cast; omega), ?_, ?_, hlt⟩
              · exact ((h.set7 _).alloc _).drew
              · exact ((FB.but_set (But.refl _ _) 7 _).alloc _).drew
set_option maxHeartbeats 2000000 in
set_option maxRecDepth 100000 in
theorem letter_c (s : ByteArray) (c : UInt8) (hs : s.size ≤ 9223372036854775800) (w : World) :
    Calls Tryd.prog 52 #[.string s, .int .u8 c.toNat] w fun e w' => e = .returned (.tuple #[.string (s ++ ⟨#[c]⟩), .bool (holderB (bs s ++ [c]))]) ∧ Ext w w' := by
  have hb1 : ¬ 9223372036854775807 < s.size + 1 := by omega
  have k2 := Cv.kc1 c
  have hh := fun W => Holder_c (s ++ ⟨#[c]⟩) W (by rw [ByteArray.size_append]; show s.size + 1 ≤ _; omega)
  rw [show bs (s ++ ⟨#[c]⟩) = bs s ++ [c] from by simp [bs, ByteArray.toList_data_append]] at hh
  have HH := Lib.hid hh
  clear hh
  go_enter Tryd.func52, Tryd.ntmps52
  go_wp2_with (go_at_call 23; refine (HH.out _).mono ?_; rintro e w1 ⟨rfl, rfl⟩)
  go_ret2
  exact ⟨rfl, (But.refl _ _).alloc _⟩
theorem ret_fix {a b x y : Bool} (h : a = x) (h2 : b = y) : Ending.returned (.tuple #[.bool a, .bool b]) = .returned (.tuple #[.bool x, .bool y]) := by rw [h, h2]
theorem pre_test {P word : ByteArray} (h : P.size ≤ word.size) : ((word.extract 0 P.size).toList == P.toList) = (bs P).isPrefixOf (bs word) := by
  rw [tl, tl, bs_extract, List.drop_zero, Nat.sub_zero, Bool.eq_iff_iff, beq_iff_eq, List.isPrefixOf_iff_prefix, List.prefix_iff_eq_take, bs_len]
  exact eq_comm
theorem pre_long {P word : ByteArray} (h : ¬ P.size ≤ word.size) : (bs P).isPrefixOf (bs word) = false := by
  cases e : (bs P).isPrefixOf (bs word) with
  | false => rfl
  | true =>
    have := (List.isPrefixOf_iff_prefix.1 e).length_le
    rw [bs_len, bs_len] at this; exact absurd this h
/-- one more byte of a word that must stand there: its test, and whether it is all there -/
def FixPost (w : World) (g clock : Nat) (kind : Int) (hold dest : ByteArray) (ticks state : Nat) (part : ByteArray) (v : Value) (rest : ByteArray) (word : Bs) (c : UInt8) (e : Ending) (w' : World) : Prop :=
  (∃ b : Bool, e = .returned (.tuple #[.bool ((bs part ++ [c]).isPrefixOf word), .bool b]) ∧ (b = true ↔ bs part ++ [c] = word)) ∧ FB w' g clock kind hold dest ticks state (part ++ ⟨#[c]⟩) v rest ∧ But (· = g) w w'
set_option maxHeartbeats 2000000 in
set_option maxRecDepth 100000 in
theorem fixed_c (w : World) (g clock : Nat) (kind : Int) (hold dest : ByteArray) (ticks state : Nat) (part : ByteArray) (v : Value) (rest : ByteArray) (h : FB w g clock kind hold dest ticks state part v rest) (hp : part.size ≤ 9223372036854775800) (word : ByteArray) (hw : word.size ≤ 9223372036854775807) (c : UInt8) :
    Calls Tryd.prog 51 #[.pointer (some ⟨g, 0, none⟩), .string word, .int .u8 c.toNat] w fun e w' => FixPost w g clock kind hold dest ticks state part v rest (bs word) c e w' := by
  have hc8 := UInt8.toNat_lt c
  obtain ⟨-, -, -, -, -, -, -, c7, -, -⟩ := h.cells
  have f7 := h.fz 7
  have hgl := blk_lt h
  have hb1 : ¬ 9223372036854775807 < part.size + 1 := by omega
  have k1 := Cv.kc1d c
  have hps : (part ++ ⟨#[c]⟩).size = part.size + 1 := by rw [ByteArray.size_append]; rfl
  obtain ⟨P, hP⟩ : ∃ P, part ++ ⟨#[c]⟩ = P := ⟨_, rfl⟩
  have hPb : bs P = bs part ++ [c] := by rw [← hP]; simp [bs, ByteArray.toList_data_append]
  go_enter Tryd.func51, Tryd.ntmps51
  go_wp2
  go_region
  have HF : FB (((w.setCell ⟨g, 7, none⟩ (.string P)).alloc (.cells #[.int .u8 c.toNat] 5)).drew) g clock kind hold dest ticks state P v rest := ((h.set7 P).alloc _).drew
  have HB : But (· = g) w (((w.setCell ⟨g, 7, none⟩ (.string P)).alloc (.cells #[.int .u8 c.toNat] 5)).drew) := ((FB.but_set (But.refl _ _) 7 _).alloc _).drew
  generalize ((w.setCell ⟨g, 7, none⟩ (.string P)).alloc (.cells #[.int .u8 c.toNat] 5)).drew = W at HF HB ⊢
  clear c7 f7
  obtain ⟨-, -, -, -, -, -, -, c7, -, -⟩ := HF.cells
  rw [← hP] at HF
  clear hP k1
  go_wp2_with fail
  refine Ro.wp_region_ro (by kernel_rfl) (by kernel_rfl) (by kernel_rfl) ?_
  go_wp2
  all_goals (refine ⟨rfl, ?_⟩; go_wp2; go_ret2)
  · have hle : P.size ≤ word.size := by assumption
    refine ⟨⟨_, ret_fix ?_ rfl, by rw [tl, tl, hPb, beq_iff_eq]⟩, HF.drew, HB.drew⟩
    rw [← hPb]; exact pre_test hle
  · have hle : ¬ P.size ≤ word.size := by assumption
    refine ⟨⟨_, ret_fix ?_ rfl, by rw [tl, tl, hPb, beq_iff_eq]⟩, HF.drew, HB.drew⟩
    rw [← hPb]; exact (pre_long hle).symm
end Gd
end Go.Proofs.YtlgagbglldehjaaDoor
