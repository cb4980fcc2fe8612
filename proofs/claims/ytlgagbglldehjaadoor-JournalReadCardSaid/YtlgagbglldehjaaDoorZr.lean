/- guiseref22.begins. -/
import Derived.Test.YtlgagbglldehjaaDoorGd
import Derived.Test.YtlgagbglldehjaaDoorGr
import Derived.Test.YtlgagbglldehjaaDoorGe
import Derived.Test.YtlgagbglldehjaaDoorRi
import Derived.Lib.BufferRead
import Derived.Lib.SlBytesRow
import Derived.Test.YtlgagbglldehjaaDoorKn
import Derived.BigQuiet
import Derived.Lib.QuietBelow
namespace Go.Proofs.YtlgagbglldehjaaDoor
set_option linter.unusedVariables false
set_option linter.unusedSimpArgs false
open Go Go.RowKit Pj Fe St Gh Gd
namespace Gb
theorem kind_get (k : Nat) (h1 : 1 ≤ k) (h6 : k ≤ 6) : kindW[k - 1]? = some (wordS (k : Int) ++ [32]) := by
  rcases (by omega : k = 1 ∨ k = 2 ∨ k = 3 ∨ k = 4 ∨ k = 5 ∨ k = 6) with rfl | rfl | rfl | rfl | rfl | rfl <;> rfl
theorem take_next (k : Nat) (h1 : 1 ≤ k) (h6 : k ≤ 6) : kindW.take (k + 1 - 1) = kindW.take (k - 1) ++ [wordS (k : Int) ++ [32]] := by
  rw [show k + 1 - 1 = (k - 1) + 1 by omega, List.take_add_one, kind_get k h1 h6]; rfl
def any (p : Bs) (n : Nat) : Bool := (kindW.take n).any fun w => p.isPrefixOf w
theorem begins_hit {p : Bs} {k : Nat} (h1 : 1 ≤ k) (h6 : k ≤ 6) (hn : p ∉ kindW.take (k - 1)) (he : p = wordS (k : Int) ++ [32]) : beginsF p = some k := by
  have hg := kind_get k h1 h6
  have hm : p ∈ kindW := by rw [he]; exact List.mem_of_getElem? hg
  have hi : kindW.idxOf p = k - 1 := by
    rw [he]
    rcases (by omega : k = 1 ∨ k = 2 ∨ k = 3 ∨ k = 4 ∨ k = 5 ∨ k = 6) with rfl | rfl | rfl | rfl | rfl | rfl <;> decide +kernel
  unfold beginsF
  rw [if_pos (List.any_eq_true.2 ⟨p, hm, List.isPrefixOf_iff_prefix.2 (List.prefix_refl p)⟩), if_pos hm, hi]
  congr 1; omega
theorem begins_end {p : Bs} (hn : p ∉ kindW.take (7 - 1)) : beginsF p = if any p 6 then some 0 else none := by
  have e : kindW.take (7 - 1) = kindW := by decide +kernel
  rw [e] at hn
  unfold beginsF any
  rw [if_neg hn, show kindW.take 6 = kindW from e]
def BegPost (p : Bs) (w : World) (e : Ending) (w' : World) : Prop := e = .returned (.tuple #[.bool (beginsF p).isSome, .int .i64 ((beginsF p).getD 0 : Nat)]) ∧ Ext w w'
theorem beg_mk {p : Bs} {w w' : World} {b : Bool} {n : Nat} (h1 : (beginsF p).isSome = b) (h2 : (beginsF p).getD 0 = n) (hx : Ext w w') : BegPost p w (.returned (.tuple #[.bool b, .int .i64 n])) w' := ⟨by rw [h1, h2], hx⟩
set_option maxHeartbeats 2000000 in
set_option maxRecDepth 100000 in
theorem begins_c (p : ByteArray) (hp : p.size ≤ 9223372036854775807) (w : World) :
    Calls Tryd.prog 49 #[.string p] w (BegPost (bs p) w) := by
  go_enter Tryd.func49, Tryd.ntmps49
  go_wp2
  go_loopw [4, 5] (fun b i wr => ∃ k : Nat, 1 ≤ k ∧ k ≤ 7 ∧ i = .int .i64 k ∧ b = .bool (any (bs p) (k - 1)) ∧ Hid (bs p ∉ kindW.take (k - 1)) ∧ Ext w wr) (fun _ i _ => 7 - (intOf i).toNat)
  case atStart => exact ⟨1, by omega, by omega, rfl, rfl, by simp [Hid], But.refl _ _⟩
  case round =>
    obtain ⟨k, hk1, hk7, rfl, rfl, HN, hx⟩ := hrel
    by_cases hlt : k ≤ 6
    · have gk : (k : Int) ≤ 6 := by omega
      have hwl : (wordS (k : Int)).length ≤ 8 := by
        unfold wordS; repeat (split; · simp)
        simp
      have hb1 : ¬ 9223372036854775807 < (wordS (k : Int)).length + 1 := by omega
      obtain ⟨W, hW⟩ : ∃ W : ByteArray, (⟨(wordS (k : Int)).toArray⟩ : ByteArray) ++ ⟨#[32]⟩ = W := ⟨_, rfl⟩
      have hWb : Hid (bs W = wordS (k : Int) ++ [32]) := by rw [← hW]; simp [bs, ByteArray.toList_data_append, Hid]
      have HT := Lib.hid (take_next k hk1 hlt)
      by_cases hpre : (bs p).isPrefixOf (bs W) = true
      · have hle : p.size ≤ W.size := by have := (List.isPrefixOf_iff_prefix.1 hpre).length_le; rwa [bs_len, bs_len] at this
        have t1 : ((W.extract 0 p.size).toList == p.toList) = true := by rw [pre_test hle]; exact hpre
        by_cases heq : bs p = bs W
        · have t2 : (p.toList == W.toList) = true := by rw [tl, tl, heq]; exact beq_self_eq_true _
          have hb := begins_hit hk1 hlt HN.out (heq.trans hWb.out)
          have HB := Lib.hid hb
          clear hb heq hpre
          go_wp2_with (go_at_call 21; refine (Word_c _ _).mono ?_; rintro e w2 ⟨rfl, hx2⟩)
          go_ret2
          exact beg_mk (by rw [HB.out]; rfl) (by rw [HB.out]; rfl) (hx.trans hx2)
        · have t2 : (p.toList == W.toList) = false := by rw [tl, tl]; exact beq_eq_false_iff_ne.2 heq
          have hany : Hid (any (bs p) (k + 1 - 1) = true) := by
            unfold Hid any; rw [HT.out, List.any_append, ← hWb.out]; simp [hpre]
          have hnot : Hid (bs p ∉ kindW.take (k + 1 - 1)) := by
            unfold Hid; rw [HT.out, List.mem_append, ← hWb.out]; rintro (e | e)
            · exact HN.out e
            · exact heq (by simpa using e)
          clear heq hpre
          go_wp2_with (go_at_call 21; refine (Word_c _ _).mono ?_; rintro e w2 ⟨rfl, hx2⟩)
          go_roundw
          case rel => exact ⟨k + 1, by omega, by omega, by go_num, by rw [hany.out], hnot, hx.trans hx2⟩
          case measure => simp [intOf]; omega
      · have hpf : (bs p).isPrefixOf (bs W) = false := by simpa using hpre
        have hany : Hid (any (bs p) (k + 1 - 1) = any (bs p) (k - 1)) := by
          unfold Hid any; rw [HT.out, List.any_append, ← hWb.out]; simp [hpf]
        have hnot : Hid (bs p ∉ kindW.take (k + 1 - 1)) := by
          unfold Hid; rw [HT.out, List.mem_append, ← hWb.out]; rintro (e | e)
          · exact HN.out e
          · have : bs p = bs W := by simpa using e
            rw [this] at hpre
            exact hpre (List.isPrefixOf_iff_prefix.2 (List.prefix_refl _))
        clear hpre
        by_cases hle : p.size ≤ W.size
        · have t1 : ((W.extract 0 p.size).toList == p.toList) = false := by rw [pre_test hle]; exact hpf
          clear hpf
          go_wp2_with (go_at_call 21; refine (Word_c _ _).mono ?_; rintro e w2 ⟨rfl, hx2⟩)
          go_roundw
          case rel => exact ⟨k + 1, by omega, by omega, by go_num, by rw [hany.out], hnot, hx.trans hx2⟩
          case measure => simp [intOf]; omega
        · clear hpf
          go_wp2_with (go_at_call 21; refine (Word_c _ _).mono ?_; rintro e w2 ⟨rfl, hx2⟩)
          go_roundw
          case rel => exact ⟨k + 1, by omega, by omega, by go_num, by rw [hany.out], hnot, hx.trans hx2⟩
          case measure => simp [intOf]; omega
    · obtain rfl : k = 7 := by omega
      have hb := begins_end HN.out
      have HB := Lib.hid hb
      clear hb
      cases ha : any (bs p) 6 with
      | true =>
        rw [ha] at HB
        clear ha
        go_wp2
        go_ret2
        exact beg_mk (n := 0) (by rw [HB.out]; rfl) (by rw [HB.out]; rfl) hx
      | false =>
        rw [ha] at HB
        clear ha
        go_wp2
        go_ret2
        exact beg_mk (n := 0) (by rw [HB.out]; rfl) (by rw [HB.out]; rfl) hx
end Gb
end Go.Proofs.YtlgagbglldehjaaDoor
/- (*feed).done. -/
namespace Go.Proofs.YtlgagbglldehjaaDoor
set_option linter.unusedVariables false
set_option linter.unusedSimpArgs false
open Go Go.RowKit Pj Fe St Es Gh Gd Gs Gr
namespace Gy
/-- the plain feed that lies there -/
def fd (clock : Nat) (kind : Int) (hold dest : ByteArray) (ticks state : Nat) (part : ByteArray) (name : Bs) (rest : ByteArray) : Fe.Fd := ⟨clock, kind, bs hold, bs dest, ticks, state, bs part, name, bs rest⟩
theorem own_len {B : Nat} {w : World} {v : Value} {n : Nat} {xs : List Value} (h : w.ownsRow B 5 1 v n xs) : ∃ ao cap, v = .slice ao n cap := by
  rcases h.2 with ⟨hv, h0⟩ | ⟨g, cap, cur, hv, _⟩
  · subst h0; exact ⟨_, _, hv⟩
  · exact ⟨_, _, hv⟩
theorem isE (s : ByteArray) : (!s.toList.isEmpty) = (bs s != []) := by
  rw [tl]; cases bs s <;> rfl
theorem done_other {f : Fe.Fd} (h : f.state ≠ 7) (h2 : f.state ≠ 2) (h4 : f.state ≠ 4) (h6 : f.state ≠ 6) : doneF f = false := by
  unfold doneF
  split
  · exact absurd (by assumption) h
  · exact absurd (by assumption) h2
  · exact absurd (by assumption) h4
  · exact absurd (by assumption) h6
  · rfl
set_option maxHeartbeats 4000000 in
set_option maxRecDepth 100000 in
theorem done_c (B : Nat) (w : World) (g clock : Nat) (kind : Int) (hold dest : ByteArray) (ticks state : Nat) (part : ByteArray) (name : Bs) (rest : ByteArray) (v : Value) (h : FN B w g clock kind hold dest ticks state part name rest v) (hs : state ≤ 7) :
    Calls Tryd.prog 29 #[.pointer (some ⟨g, 0, none⟩)] w fun e w' => e = .returned (.bool (doneF (fd clock kind hold dest ticks state part name rest))) ∧ ∃ n, w' = w.drewN n := by
  obtain ⟨c0, c1, c2, c3, c4, c5, c6, c7, c8, c9⟩ := h.b.cells
  obtain ⟨ao, cap, rfl⟩ := own_len h.o
  rcases (by omega : state = 7 ∨ state = 2 ∨ state = 4 ∨ state = 6 ∨ (state ≠ 7 ∧ state ≠ 2 ∧ state ≠ 4 ∧ state ≠ 6)) with rfl | rfl | rfl | rfl | ⟨s7, s2, s4, s6⟩
  · go_enter Tryd.func29, Tryd.ntmps29
    go_wp2
    go_ret
    exact ⟨ret_bool (isE part), 0, rfl⟩
  · by_cases e1 : bs rest = []
    · have t1 : rest.toList = [] := (tl rest).trans e1
      by_cases e2 : name = []
      · have n1 : ¬ 0 < (name.length : Int) := by rw [e2]; simp
        have HD : Hid (doneF (fd clock kind hold dest ticks 2 part name rest) = false) := by unfold Hid doneF fd; simp [e1, e2]
        clear e1 e2
        go_enter Tryd.func29, Tryd.ntmps29
        go_wp2
        go_ret
        exact ⟨ret_bool HD.out.symm, 0, rfl⟩
      · have n1 : 0 < (name.length : Int) := by have := List.length_pos_iff.2 e2; omega
        have HD : Hid (doneF (fd clock kind hold dest ticks 2 part name rest) = decide (4 ≤ kind)) := by unfold Hid doneF fd; simp [e1, e2]
        clear e1 e2
        go_enter Tryd.func29, Tryd.ntmps29
        go_wp2
        all_goals go_ret
        all_goals exact ⟨ret_bool HD.out.symm, 0, rfl⟩
    · have t1 : rest.toList ≠ [] := fun e => e1 ((tl rest).symm.trans e)
      have t2 : rest.toList.isEmpty = false := by simpa using t1
      have HD : Hid (doneF (fd clock kind hold dest ticks 2 part name rest) = false) := by
        have e2 : (bs rest == []) = false := beq_eq_false_iff_ne.2 e1
        unfold Hid doneF fd; dsimp only; rw [e2]; rfl
      clear e1
      go_enter Tryd.func29, Tryd.ntmps29
      go_wp2
      go_ret
      exact ⟨ret_bool HD.out.symm, 0, rfl⟩
  · by_cases e1 : kind < 3
    · have HD : Hid (doneF (fd clock kind hold dest ticks 4 part name rest) = (bs hold != [])) := by unfold Hid doneF fd; simp [e1]
      go_enter Tryd.func29, Tryd.ntmps29
      go_wp2
      go_ret
      exact ⟨ret_bool ((isE hold).trans HD.out.symm), 0, rfl⟩
    · have HD : Hid (doneF (fd clock kind hold dest ticks 4 part name rest) = false) := by unfold Hid doneF fd; simp [e1]
      go_enter Tryd.func29, Tryd.ntmps29
      go_wp2
      go_ret
      exact ⟨ret_bool HD.out.symm, 0, rfl⟩
  · go_enter Tryd.func29, Tryd.ntmps29
    go_wp2
    go_ret
    exact ⟨ret_bool (isE dest), 0, rfl⟩
  · have HD : Hid (doneF (fd clock kind hold dest ticks state part name rest) = false) := done_other s7 s2 s4 s6
    have b7 : ((state : Int) == 7) = false := beq_eq_false_iff_ne.2 (by omega)
    have b2 : ((state : Int) == 2) = false := beq_eq_false_iff_ne.2 (by omega)
    have b4 : ((state : Int) == 4) = false := beq_eq_false_iff_ne.2 (by omega)
    have b6 : ((state : Int) == 6) = false := beq_eq_false_iff_ne.2 (by omega)
    clear s7 s2 s4 s6
    go_enter Tryd.func29, Tryd.ntmps29
    go_wp2
    go_ret
    exact ⟨ret_bool HD.out.symm, 0, rfl⟩
/-- what byte answers -/
def BytePost (B : Nat) (w : World) (g : Nat) (e : Ending) (w' : World) : Option Fe.Fd → Prop
  | none => e = .returned (.bool false) ∧ Below B w w'
  | some f => e = .returned (.bool true) ∧ Below B w w' ∧ ∃ clock kind hold dest ticks state part name rest v, f = fd clock kind hold dest ticks state part name rest ∧ FN B w' g clock kind hold dest ticks state part name rest v
theorem byte_ok {B : Nat} {w w' : World} {g : Nat} {o : Option Fe.Fd} {clock : Nat} {kind : Int} {hold dest : ByteArray} {ticks state : Nat} {part : ByteArray} {name : Bs} {rest : ByteArray} {v : Value} (ho : o = some (fd clock kind hold dest ticks state part name rest)) (hb : Below B w w') (h : FN B w' g clock kind hold dest ticks state part name rest v) : BytePost B w g (.returned (.bool true)) w' o := by
  subst ho; exact ⟨rfl, hb, _, _, _, _, _, _, _, _, _, _, rfl, h⟩
theorem byte_no {B : Nat} {w w' : World} {g : Nat} {o : Option Fe.Fd} (ho : o = none) (hb : Below B w w') : BytePost B w g (.returned (.bool false)) w' o := by
  subst ho; exact ⟨rfl, hb⟩
/-- what is within bounds -/
def Bnd (i : Nat) (f : Fe.Fd) : Prop := f.part.length ≤ i + 1 ∧ f.name.length ≤ i ∧ f.rest.length ≤ i ∧ f.hold.length ≤ i ∧ f.dest.length ≤ i ∧ f.clock < 18446744073709551616 ∧ f.ticks < 18446744073709551616 ∧ f.state ≤ 7
theorem digit_lt {part : Bs} {n m : Nat} {c : UInt8} (hn : n < 18446744073709551616) (h : digitF part n c = some m) : m < 18446744073709551616 := by
  unfold digitF at h
  split at h
  · cases h
  · split at h
    · cases h
    · rename_i h1 h2
      simp only [Option.some.injEq] at h
      have : ¬ (c.toNat < 48) := fun e => h1 (.inl e)
      have : ¬ (57 < c.toNat) := fun e => h1 (.inr (.inl e))
      omega
theorem rune_len {name rest : Bs} {c : UInt8} {x : Bs × Bs} {i : Nat} (hn : name.length + rest.length ≤ i) (h : runeF name rest c = some x) : x.1.length + x.2.length ≤ i + 1 := by
  unfold runeF at h
  dsimp only at h
  split at h
  · split at h
    · cases h
    · split at h
      · cases h; simp; omega
      · cases h; simp; omega
  · split at h
    · cases h
    · split at h
      · cases h; simp; omega
      · cases h; simp; omega
theorem letter_len {h l : Bs} {c : UInt8} (e : letterF h c = some l) : l.length = h.length + 1 := by
  unfold letterF at e
  split at e
  · cases e; simp
  · cases e
/-- .. kept by a step (the name and what of it isn't whole are counted together) -/
def BndS (i : Nat) (f : Fe.Fd) : Prop := f.part.length ≤ i + 1 ∧ f.name.length + f.rest.length ≤ i ∧ f.hold.length ≤ i ∧ f.dest.length ≤ i ∧ f.clock < 18446744073709551616 ∧ f.ticks < 18446744073709551616 ∧ f.state ≤ 7
theorem step_bnd {i : Nat} {f f' : Fe.Fd} {c : UInt8} (hb : BndS i f) (h : stepF f c = some f') : BndS (i + 1) f' := by
  obtain ⟨b1, b2, b3, b4, b5, b6, b7⟩ := hb
  unfold stepF at h
  split at h
  · split at h
    · cases h; exact ⟨by simp, by dsimp only; omega, by dsimp only; omega, by dsimp only; omega, b5, b6, by dsimp only; omega⟩
    · obtain ⟨n, hn, rfl⟩ := Option.map_eq_some_iff.1 h
      exact ⟨by simp; omega, by dsimp only; omega, by dsimp only; omega, by dsimp only; omega, digit_lt b5 hn, b6, b7⟩
  · obtain ⟨k, hk, rfl⟩ := Option.map_eq_some_iff.1 h
    split
    · exact ⟨by simp, by dsimp only; omega, by dsimp only; omega, by dsimp only; omega, b5, b6, by dsimp only; split <;> omega⟩
    · exact ⟨by simp; omega, by dsimp only; omega, by dsimp only; omega, by dsimp only; omega, b5, b6, b7⟩
  · obtain ⟨n, hn, rfl⟩ := Option.map_eq_some_iff.1 h
    exact ⟨by simp; omega, by dsimp only; omega, by dsimp only; omega, by dsimp only; omega, b5, digit_lt b6 hn, b7⟩
  · split at h
    · cases h; exact ⟨by simp, by dsimp only; omega, by dsimp only; omega, by dsimp only; omega, b5, b6, by dsimp only; omega⟩
    · split at h
      · cases h
      · obtain ⟨x, hx, rfl⟩ := Option.map_eq_some_iff.1 h
        have := rune_len b2 hx
        exact ⟨by dsimp only; omega, by dsimp only; omega, by dsimp only; omega, by dsimp only; omega, b5, b6, b7⟩
  · split at h
    · cases h; exact ⟨by simp; omega, by dsimp only; omega, by dsimp only; omega, by dsimp only; omega, b5, b6, by dsimp only; split <;> omega⟩
    · cases h
  · split at h
    · cases h; exact ⟨by simp, by dsimp only; omega, by dsimp only; omega, by dsimp only; omega, b5, b6, by dsimp only; omega⟩
    · obtain ⟨l, hl, rfl⟩ := Option.map_eq_some_iff.1 h
      have := letter_len hl
      exact ⟨by dsimp only; omega, by dsimp only; omega, by dsimp only; omega, by dsimp only; omega, b5, b6, b7⟩
  · split at h
    · cases h; exact ⟨by simp; omega, by dsimp only; omega, by dsimp only; omega, by dsimp only; omega, b5, b6, by dsimp only; split <;> omega⟩
    · cases h
  · obtain ⟨l, hl, rfl⟩ := Option.map_eq_some_iff.1 h
    have := letter_len hl
    exact ⟨by dsimp only; omega, by dsimp only; omega, by dsimp only; omega, by dsimp only; omega, b5, b6, b7⟩
  · cases h
end Gy
end Go.Proofs.YtlgagbglldehjaaDoor
/- (*feed).byte at states 0 and 7. -/
namespace Go.Proofs.YtlgagbglldehjaaDoor
set_option linter.unusedVariables false
set_option linter.unusedSimpArgs false
open Go Go.RowKit Pj Fe St Es Rp Gh Gd Gs Gr Gy
namespace Yb
set_option maxHeartbeats 4000000 in
set_option maxRecDepth 100000 in
theorem byte0 (B : Nat) (w : World) (g clock : Nat) (kind : Int) (hold dest : ByteArray) (ticks : Nat) (part : ByteArray) (name : Bs) (rest : ByteArray) (v : Value) (h : FN B w g clock kind hold dest ticks 0 part name rest v) (hB : B ≤ w.heap.size)
    (hp : part.size ≤ 1048576) (hr : rest.size ≤ 1048576) (hn : name.length ≤ 1048576) (hh : hold.size ≤ 1048576) (hd : dest.size ≤ 1048576) (hc : clock < 18446744073709551616) (ht : ticks < 18446744073709551616) (c : UInt8) :
    Calls Tryd.prog 28 #[.pointer (some ⟨g, 0, none⟩), .int .u8 c.toNat] w fun e w' => BytePost B w g e w' (stepF (fd clock kind hold dest ticks 0 part name rest) c) := by
  have hc8 := UInt8.toNat_lt c
  obtain ⟨c0, c1, c2, c3, c4, c5, c6, c7, c8, c9⟩ := h.b.cells
  obtain ⟨f0, f1, f2, f3, f4, f5, f6, f7, f8, f9⟩ := h.b.fzs
  have hgl := blk_lt h.b
  have hg := h.g
  have c32 : c = 32 → ((c.toNat : Int) == 32) = true := fun e => by subst e; rfl
  have n32 : c ≠ 32 → ((c.toNat : Int) == 32) = false := fun e => beq_eq_false_iff_ne.2 (fun e2 => e (UInt8.toNat_inj.1 (by show c.toNat = 32; omega)))
  by_cases hb : c = 32 ∧ bs part ≠ []
  · obtain ⟨h32, hpn⟩ := hb
    have g32 := c32 h32
    have p1 : ¬ part.toList = [] := fun e => hpn ((tl part).symm.trans e)
    have p2 : part.toList.isEmpty = false := by simpa using p1
    have HS : Hid (stepF (fd clock kind hold dest ticks 0 part name rest) c = some (fd clock kind hold dest ticks 1 ⟨#[]⟩ name rest)) := if_pos ⟨h32, hpn⟩
    obtain ⟨O, hO⟩ : ∃ O, stepF (fd clock kind hold dest ticks 0 part name rest) c = O := ⟨_, rfl⟩
    rw [hO]
    have HO : Hid (O = some (fd clock kind hold dest ticks 1 ⟨#[]⟩ name rest)) := hO.symm.trans HS.out
    have N2 := (h.but (FB.but_set (But.refl _ _) 7 _) (h.b.set7 ⟨#[]⟩))
    have N3 := N2.but (FB.but_set (But.refl _ _) 6 _) (N2.b.set6 1)
    have hlow : Below B w ((w.setCell ⟨g, 7, none⟩ (.string ⟨#[]⟩)).setCell ⟨g, 6, none⟩ (.int .i64 ((1 : Nat) : Int))) := ((Below.refl _ _).setCell hg _).setCell hg _
    clear hO HS h32 hpn c32 n32 N2
    go_enter Tryd.func28, Tryd.ntmps28
    go_wp2
    go_ret
    exact byte_ok HO.out hlow N3
  · have HS : Hid (stepF (fd clock kind hold dest ticks 0 part name rest) c = (digitF (bs part) clock c).map fun n => { fd clock kind hold dest ticks 0 part name rest with clock := n, part := bs part ++ [c] }) := if_neg hb
    have HD := Lib.hid (digit_c w g clock kind hold dest ticks 0 part v rest h.b (by omega) clock c hc)
    by_cases h32 : c = 32
    · have g32 := c32 h32
      have hpn : bs part = [] := by
        cases e : bs part with
        | nil => rfl
        | cons a t => exact absurd ⟨h32, by rw [e]; simp⟩ hb
      have p1 : part.toList = [] := (tl part).trans hpn
      clear c32 n32 hb h32 hpn
      cases hdg : digitF (bs part) clock c with
      | none =>
        have HS2 : Hid (stepF (fd clock kind hold dest ticks 0 part name rest) c = none) := by rw [HS.out, hdg]; rfl
        rw [HS2.out]
        rw [hdg] at HD
        clear HS HS2 hdg
        go_enter Tryd.func28, Tryd.ntmps28
        go_wp2_with fail
        go_at_call 48
        refine HD.out.mono ?_
        rintro e1 w1 ⟨rfl, hx1⟩
        have F1 := h.b.ext hx1
        have hlow := below_ext hB hx1
        clear HD c0 c1 c2 c3 c4 c5 c6 c7 c8 c9 f0 f1 f2 f3 f4 f5 f6 f7 f8 f9
        obtain ⟨c0, c1, c2, c3, c4, c5, c6, c7, c8, c9⟩ := F1.cells
        obtain ⟨f0, f1, f2, f3, f4, f5, f6, f7, f8, f9⟩ := F1.fzs
        have hlow2 : Below B w (w1.setCell ⟨g, 0, none⟩ (.int .u64 0)) := hlow.setCell hg _
        go_wp2
        go_ret
        exact ⟨rfl, hlow2⟩
      | some m =>
        have HS2 : Hid (stepF (fd clock kind hold dest ticks 0 part name rest) c = some (fd m kind hold dest ticks 0 (part ++ ⟨#[c]⟩) name rest)) := by rw [HS.out, hdg]; unfold fd; rw [app_bs]; rfl
        rw [hdg] at HD
        clear HS hdg
        obtain ⟨O, hO⟩ : ∃ O, stepF (fd clock kind hold dest ticks 0 part name rest) c = O := ⟨_, rfl⟩
        rw [hO]
        have HO : Hid (O = some (fd m kind hold dest ticks 0 (part ++ ⟨#[c]⟩) name rest)) := hO.symm.trans HS2.out
        clear hO HS2
        go_enter Tryd.func28, Tryd.ntmps28
        go_wp2_with fail
        go_at_call 48
        refine HD.out.mono ?_
        rintro e1 w1 ⟨rfl, F1, hb1, hm⟩
        have N1 := h.but hb1 F1
        have hlow := below_but hg hB hb1
        clear HD c0 c1 c2 c3 c4 c5 c6 c7 c8 c9 f0 f1 f2 f3 f4 f5 f6 f7 f8 f9
        obtain ⟨c0, c1, c2, c3, c4, c5, c6, c7, c8, c9⟩ := F1.cells
        obtain ⟨f0, f1, f2, f3, f4, f5, f6, f7, f8, f9⟩ := F1.fzs
        have hlow2 : Below B w (w1.setCell ⟨g, 0, none⟩ (.int .u64 m)) := hlow.setCell hg _
        have N2 := N1.but (FB.but_set (But.refl _ _) 0 _) (F1.set0 m)
        clear N1 F1
        go_wp2
        go_ret
        exact byte_ok HO.out hlow2 N2
    · have g32 := n32 h32
      clear c32 n32 hb h32
      cases hdg : digitF (bs part) clock c with
      | none =>
        have HS2 : Hid (stepF (fd clock kind hold dest ticks 0 part name rest) c = none) := by rw [HS.out, hdg]; rfl
        rw [HS2.out]
        rw [hdg] at HD
        clear HS HS2 hdg
        go_enter Tryd.func28, Tryd.ntmps28
        go_wp2_with fail
        go_at_call 48
        refine HD.out.mono ?_
        rintro e1 w1 ⟨rfl, hx1⟩
        have F1 := h.b.ext hx1
        have hlow := below_ext hB hx1
        clear HD c0 c1 c2 c3 c4 c5 c6 c7 c8 c9 f0 f1 f2 f3 f4 f5 f6 f7 f8 f9
        obtain ⟨c0, c1, c2, c3, c4, c5, c6, c7, c8, c9⟩ := F1.cells
        obtain ⟨f0, f1, f2, f3, f4, f5, f6, f7, f8, f9⟩ := F1.fzs
        have hlow2 : Below B w (w1.setCell ⟨g, 0, none⟩ (.int .u64 0)) := hlow.setCell hg _
        go_wp2
        go_ret
        exact ⟨rfl, hlow2⟩
      | some m =>
        have HS2 : Hid (stepF (fd clock kind hold dest ticks 0 part name rest) c = some (fd m kind hold dest ticks 0 (part ++ ⟨#[c]⟩) name rest)) := by rw [HS.out, hdg]; unfold fd; rw [app_bs]; rfl
        rw [hdg] at HD
        clear HS hdg
        obtain ⟨O, hO⟩ : ∃ O, stepF (fd clock kind hold dest ticks 0 part name rest) c = O := ⟨_, rfl⟩
        rw [hO]
        have HO : Hid (O = some (fd m kind hold dest ticks 0 (part ++ ⟨#[c]⟩) name rest)) := hO.symm.trans HS2.out
        clear hO HS2
        go_enter Tryd.func28, Tryd.ntmps28
        go_wp2_with fail
        go_at_call 48
        refine HD.out.mono ?_
        rintro e1 w1 ⟨rfl, F1, hb1, hm⟩
        have N1 := h.but hb1 F1
        have hlow := below_but hg hB hb1
        clear HD c0 c1 c2 c3 c4 c5 c6 c7 c8 c9 f0 f1 f2 f3 f4 f5 f6 f7 f8 f9
        obtain ⟨c0, c1, c2, c3, c4, c5, c6, c7, c8, c9⟩ := F1.cells
        obtain ⟨f0, f1, f2, f3, f4, f5, f6, f7, f8, f9⟩ := F1.fzs
        have hlow2 : Below B w (w1.setCell ⟨g, 0, none⟩ (.int .u64 m)) := hlow.setCell hg _
        have N2 := N1.but (FB.but_set (But.refl _ _) 0 _) (F1.set0 m)
        clear N1 F1
        go_wp2
        go_ret
        exact byte_ok HO.out hlow2 N2
set_option maxHeartbeats 4000000 in
set_option maxRecDepth 100000 in
theorem byte7 (B : Nat) (w : World) (g clock : Nat) (kind : Int) (hold dest : ByteArray) (ticks : Nat) (part : ByteArray) (name : Bs) (rest : ByteArray) (v : Value) (h : FN B w g clock kind hold dest ticks 7 part name rest v) (hB : B ≤ w.heap.size)
    (hp : part.size ≤ 1048576) (hr : rest.size ≤ 1048576) (hn : name.length ≤ 1048576) (hh : hold.size ≤ 1048576) (hd : dest.size ≤ 1048576) (hc : clock < 18446744073709551616) (ht : ticks < 18446744073709551616) (c : UInt8) :
    Calls Tryd.prog 28 #[.pointer (some ⟨g, 0, none⟩), .int .u8 c.toNat] w fun e w' => BytePost B w g e w' (stepF (fd clock kind hold dest ticks 7 part name rest) c) := by
  have hc8 := UInt8.toNat_lt c
  obtain ⟨c0, c1, c2, c3, c4, c5, c6, c7, c8, c9⟩ := h.b.cells
  obtain ⟨f0, f1, f2, f3, f4, f5, f6, f7, f8, f9⟩ := h.b.fzs
  have hgl := blk_lt h.b
  have hg := h.g
  have HS : Hid (stepF (fd clock kind hold dest ticks 7 part name rest) c = (digitF (bs part) ticks c).map fun n => { fd clock kind hold dest ticks 7 part name rest with ticks := n, part := bs part ++ [c] }) := rfl
  have HD := Lib.hid (digit_c w g clock kind hold dest ticks 7 part v rest h.b (by omega) ticks c ht)
  cases hdg : digitF (bs part) ticks c with
  | none =>
    have HS2 : Hid (stepF (fd clock kind hold dest ticks 7 part name rest) c = none) := by rw [HS.out, hdg]; rfl
    rw [HS2.out]
    rw [hdg] at HD
    clear HS HS2 hdg
    go_enter Tryd.func28, Tryd.ntmps28
    go_wp2_with fail
    go_at_call 48
    refine HD.out.mono ?_
    rintro e1 w1 ⟨rfl, hx1⟩
    have F1 := h.b.ext hx1
    have hlow := below_ext hB hx1
    clear HD c0 c1 c2 c3 c4 c5 c6 c7 c8 c9 f0 f1 f2 f3 f4 f5 f6 f7 f8 f9
    obtain ⟨c0, c1, c2, c3, c4, c5, c6, c7, c8, c9⟩ := F1.cells
    obtain ⟨f0, f1, f2, f3, f4, f5, f6, f7, f8, f9⟩ := F1.fzs
    have hlow2 : Below B w (w1.setCell ⟨g, 5, none⟩ (.int .u64 0)) := hlow.setCell hg _
    go_wp2
    go_ret
    exact ⟨rfl, hlow2⟩
  | some m =>
    have HS2 : Hid (stepF (fd clock kind hold dest ticks 7 part name rest) c = some (fd clock kind hold dest m 7 (part ++ ⟨#[c]⟩) name rest)) := by rw [HS.out, hdg]; unfold fd; rw [app_bs]; rfl
    rw [hdg] at HD
    clear HS hdg
    obtain ⟨O, hO⟩ : ∃ O, stepF (fd clock kind hold dest ticks 7 part name rest) c = O := ⟨_, rfl⟩
    rw [hO]
    have HO : Hid (O = some (fd clock kind hold dest m 7 (part ++ ⟨#[c]⟩) name rest)) := hO.symm.trans HS2.out
    clear hO HS2
    go_enter Tryd.func28, Tryd.ntmps28
    go_wp2_with fail
    go_at_call 48
    refine HD.out.mono ?_
    rintro e1 w1 ⟨rfl, F1, hb1, hm⟩
    have N1 := h.but hb1 F1
    have hlow := below_but hg hB hb1
    clear HD c0 c1 c2 c3 c4 c5 c6 c7 c8 c9 f0 f1 f2 f3 f4 f5 f6 f7 f8 f9
    obtain ⟨c0, c1, c2, c3, c4, c5, c6, c7, c8, c9⟩ := F1.cells
    obtain ⟨f0, f1, f2, f3, f4, f5, f6, f7, f8, f9⟩ := F1.fzs
    have hlow2 : Below B w (w1.setCell ⟨g, 5, none⟩ (.int .u64 m)) := hlow.setCell hg _
    have N2 := N1.but (FB.but_set (But.refl _ _) 5 _) (F1.set5 m)
    clear N1 F1
    go_wp2
    go_ret
    exact byte_ok HO.out hlow2 N2
end Yb
end Go.Proofs.YtlgagbglldehjaaDoor
/- (*feed).byte at state 1. -/
namespace Go.Proofs.YtlgagbglldehjaaDoor
set_option linter.unusedVariables false
set_option linter.unusedSimpArgs false
open Go Go.RowKit Pj Fe St Es Rp Gh Gd Gs Gr Gy
namespace Yb
set_option maxHeartbeats 4000000 in
set_option maxRecDepth 100000 in
theorem byte1 (B : Nat) (w : World) (g clock : Nat) (kind : Int) (hold dest : ByteArray) (ticks : Nat) (part : ByteArray) (name : Bs) (rest : ByteArray) (v : Value) (h : FN B w g clock kind hold dest ticks 1 part name rest v) (hB : B ≤ w.heap.size)
    (hp : part.size ≤ 1048576) (hr : rest.size ≤ 1048576) (hn : name.length ≤ 1048576) (hh : hold.size ≤ 1048576) (hd : dest.size ≤ 1048576) (hc : clock < 18446744073709551616) (ht : ticks < 18446744073709551616) (c : UInt8) :
    Calls Tryd.prog 28 #[.pointer (some ⟨g, 0, none⟩), .int .u8 c.toNat] w fun e w' => BytePost B w g e w' (stepF (fd clock kind hold dest ticks 1 part name rest) c) := by
  have hc8 := UInt8.toNat_lt c
  obtain ⟨c0, c1, c2, c3, c4, c5, c6, c7, c8, c9⟩ := h.b.cells
  obtain ⟨f0, f1, f2, f3, f4, f5, f6, f7, f8, f9⟩ := h.b.fzs
  have hgl := blk_lt h.b
  have hg := h.g
  have hb1 : ¬ 9223372036854775807 < part.size + 1 := by omega
  have k1 := Cv.kc1d c
  obtain ⟨P, hP⟩ : ∃ P, part ++ ⟨#[c]⟩ = P := ⟨_, rfl⟩
  have HPB : Hid (bs P = bs part ++ [c]) := by rw [← hP]; exact app_bs _ _
  have hPl : P.size ≤ 1048577 := by rw [← hP, ByteArray.size_append]; show part.size + 1 ≤ _; omega
  have HS : Hid (stepF (fd clock kind hold dest ticks 1 part name rest) c = (beginsF (bs P)).map fun (k : Nat) => if 0 < k then { fd clock kind hold dest ticks 1 part name rest with kind := (k : Int), part := [], state := if k = 6 then 7 else 2 } else { fd clock kind hold dest ticks 1 part name rest with kind := 0, part := bs P }) := by
    rw [HPB.out]; rfl
  have HG := Lib.hid (fun W => Gb.begins_c P (by omega) W)
  obtain ⟨O, hO⟩ : ∃ O, stepF (fd clock kind hold dest ticks 1 part name rest) c = O := ⟨_, rfl⟩
  rw [hO]
  have HO : Hid (O = (beginsF (bs P)).map fun (k : Nat) => if 0 < k then { fd clock kind hold dest ticks 1 part name rest with kind := (k : Int), part := [], state := if k = 6 then 7 else 2 } else { fd clock kind hold dest ticks 1 part name rest with kind := 0, part := bs P }) := hO.symm.trans HS.out
  clear hO HS
  go_enter Tryd.func28, Tryd.ntmps28
  go_wp2
  go_region
  have F1 : FB (((w.setCell ⟨g, 7, none⟩ (.string P)).alloc (.cells #[.int .u8 c.toNat] 5)).drew) g clock kind hold dest ticks 1 P v rest := ((h.b.set7 P).alloc _).drew
  have hB1 : But (· = g) w (((w.setCell ⟨g, 7, none⟩ (.string P)).alloc (.cells #[.int .u8 c.toNat] 5)).drew) := ((FB.but_set (But.refl _ _) 7 _).alloc _).drew
  have N1 := h.but hB1 F1
  have hlow1 := below_but hg hB hB1
  have hBB := Nat.le_trans hB hB1.size
  generalize ((w.setCell ⟨g, 7, none⟩ (.string P)).alloc (.cells #[.int .u8 c.toNat] 5)).drew = W at F1 N1 hlow1 hBB ⊢
  clear hB1 k1 hP c0 c1 c2 c3 c4 c5 c6 c7 c8 c9 f0 f1 f2 f3 f4 f5 f6 f7 f8 f9
  obtain ⟨c0, c1, c2, c3, c4, c5, c6, c7, c8, c9⟩ := F1.cells
  go_wp2_with fail
  go_at_call 49
  refine (HG.out _).mono ?_
  rintro e1 w2 ⟨rfl, hx2⟩
  have N2 := N1.ext hx2
  have hlow2 := hlow1.trans (below_ext hBB hx2)
  clear HG hx2 N1 F1 hlow1 c0 c1 c2 c3 c4 c5 c6 c7 c8 c9
  obtain ⟨c0, c1, c2, c3, c4, c5, c6, c7, c8, c9⟩ := N2.b.cells
  obtain ⟨f0, f1, f2, f3, f4, f5, f6, f7, f8, f9⟩ := N2.b.fzs
  cases hbg : beginsF (bs P) with
  | none =>
    have HO2 : Hid (O = none) := by rw [HO.out, hbg]; rfl
    have hlow3 : Below B w (w2.setCell ⟨g, 1, none⟩ (.int .i64 ((0 : Nat) : Int))) := hlow2.setCell hg _
    clear HO
    rw [show (none : Option Nat).isSome = false from rfl, show (none : Option Nat).getD 0 = 0 from rfl]
    go_wp2
    all_goals go_ret
    all_goals exact byte_no HO2.out hlow3
  | some k =>
    rw [hbg] at HO
    rw [show (some k).isSome = true from rfl, show (some k).getD 0 = k from rfl]
    by_cases hk0 : 0 < k
    · have gk : 0 < (k : Int) := by omega
      have M1 := N2.but (FB.but_set (But.refl _ _) 1 _) (N2.b.set1 (k : Int))
      have M2 := M1.but (FB.but_set (But.refl _ _) 7 _) (M1.b.set7 ⟨#[]⟩)
      have M3 := M2.but (FB.but_set (But.refl _ _) 6 _) (M2.b.set6 2)
      have L3 : Below B w (((w2.setCell ⟨g, 1, none⟩ (.int .i64 (k : Int))).setCell ⟨g, 7, none⟩ (.string ⟨#[]⟩)).setCell ⟨g, 6, none⟩ (.int .i64 ((2 : Nat) : Int))) := ((hlow2.setCell hg _).setCell hg _).setCell hg _
      by_cases hk6 : k = 6
      · subst hk6
        have M4 := M3.but (FB.but_set (But.refl _ _) 6 _) (M3.b.set6 7)
        have L4 := L3.setCell (p := ⟨g, 6, none⟩) hg (.int .i64 ((7 : Nat) : Int))
        have HO2 : Hid (O = some (fd clock 6 hold dest ticks 7 ⟨#[]⟩ name rest)) := HO.out
        clear HO hbg M1 M2 M3 L3
        go_wp2
        go_ret
        exact byte_ok HO2.out L4 M4
      · have HO2 : Hid (O = some (fd clock (k : Int) hold dest ticks 2 ⟨#[]⟩ name rest)) := by
          rw [HO.out, Option.map_some, if_pos hk0, if_neg hk6]; rfl
        have g6 : ((k : Int) == 6) = false := beq_eq_false_iff_ne.2 (by omega)
        clear HO hbg M1 M2 hk6
        go_wp2
        go_ret
        exact byte_ok HO2.out L3 M3
    · obtain rfl : k = 0 := by omega
      have HO2 : Hid (O = some (fd clock 0 hold dest ticks 1 P name rest)) := HO.out
      have M1 := N2.but (FB.but_set (But.refl _ _) 1 _) (N2.b.set1 0)
      have L1 : Below B w (w2.setCell ⟨g, 1, none⟩ (.int .i64 0)) := hlow2.setCell hg _
      clear HO hbg hk0
      go_wp2
      go_ret
      exact byte_ok HO2.out L1 M1
end Yb
end Go.Proofs.YtlgagbglldehjaaDoor
/- (*feed).byte at state 2. -/
namespace Go.Proofs.YtlgagbglldehjaaDoor
set_option linter.unusedVariables false
set_option linter.unusedSimpArgs false
open Go Go.RowKit Pj Fe St Es Rp Gh Gd Gs Gr Gy
namespace Yb
set_option maxHeartbeats 4000000 in
set_option maxRecDepth 100000 in
theorem byte2 (B : Nat) (w : World) (g clock : Nat) (kind : Int) (hold dest : ByteArray) (ticks : Nat) (part : ByteArray) (name : Bs) (rest : ByteArray) (v : Value) (h : FN B w g clock kind hold dest ticks 2 part name rest v) (hB : B ≤ w.heap.size)
    (hp : part.size ≤ 1048576) (hr : rest.size ≤ 1048576) (hn : name.length ≤ 1048576) (hh : hold.size ≤ 1048576) (hd : dest.size ≤ 1048576) (hc : clock < 18446744073709551616) (ht : ticks < 18446744073709551616) (c : UInt8) :
    Calls Tryd.prog 28 #[.pointer (some ⟨g, 0, none⟩), .int .u8 c.toNat] w fun e w' => BytePost B w g e w' (stepF (fd clock kind hold dest ticks 2 part name rest) c) := by
  have hc8 := UInt8.toNat_lt c
  obtain ⟨c0, c1, c2, c3, c4, c5, c6, c7, c8, c9⟩ := h.b.cells
  obtain ⟨f0, f1, f2, f3, f4, f5, f6, f7, f8, f9⟩ := h.b.fzs
  have hgl := blk_lt h.b
  have hg := h.g
  obtain ⟨ao, cap, rfl⟩ := own_len h.o
  have c32 : c = 32 → ((c.toNat : Int) == 32) = true ∧ ((c.toNat : Int) != 32) = false := fun e => by subst e; exact ⟨rfl, rfl⟩
  have n32 : c ≠ 32 → ((c.toNat : Int) == 32) = false ∧ ((c.toNat : Int) != 32) = true := fun e => by
    have : (c.toNat : Int) ≠ 32 := fun e2 => e (UInt8.toNat_inj.1 (by show c.toNat = 32; omega))
    exact ⟨beq_eq_false_iff_ne.2 this, by simpa using this⟩
  obtain ⟨O, hO⟩ : ∃ O, stepF (fd clock kind hold dest ticks 2 part name rest) c = O := ⟨_, rfl⟩
  rw [hO]
  have HO : Hid (O = stepF (fd clock kind hold dest ticks 2 part name rest) c) := hO.symm
  clear hO
  by_cases h32 : c = 32
  · obtain ⟨g1, g2⟩ := c32 h32
    by_cases e1 : bs rest = []
    · have t1 : rest.toList = [] := (tl rest).trans e1
      by_cases e2 : name = []
      · have n1 : ¬ 0 < (name.length : Int) := by rw [e2]; simp
        have HN : Hid (O = none) := by
          have hx : ¬ (c = 32 ∧ bs rest = [] ∧ name ≠ [] ∧ kind ≤ 3) := fun x => x.2.2.1 e2
          exact HO.out.trans ((if_neg hx).trans (if_pos h32))
        clear e1 e2 HO c32 n32 h32

        go_enter Tryd.func28, Tryd.ntmps28
        go_wp2
        go_ret
        exact byte_no HN.out (Below.refl _ _)
      · have n1 : 0 < (name.length : Int) := by have := List.length_pos_iff.2 e2; omega
        by_cases e3 : kind ≤ 3
        · have HS : Hid (O = some (fd clock kind hold dest ticks 3 ⟨#[32]⟩ name rest)) := by
            have hx : c = 32 ∧ bs rest = [] ∧ name ≠ [] ∧ kind ≤ 3 := ⟨h32, e1, e2, e3⟩
            exact HO.out.trans (if_pos hx)
          have N2 := h.but (FB.but_set (But.refl _ _) 7 _) (h.b.set7 ⟨#[32]⟩)
          have N3 := N2.but (FB.but_set (But.refl _ _) 6 _) (N2.b.set6 3)
          have hlow : Below B w ((w.setCell ⟨g, 7, none⟩ (.string ⟨#[32]⟩)).setCell ⟨g, 6, none⟩ (.int .i64 ((3 : Nat) : Int))) := ((Below.refl _ _).setCell hg _).setCell hg _
          clear e1 e2 HO c32 n32 h32 N2
          go_enter Tryd.func28, Tryd.ntmps28
          go_wp2
          go_ret
          exact byte_ok HS.out hlow N3
        · have HN : Hid (O = none) := by
            have hx : ¬ (c = 32 ∧ bs rest = [] ∧ name ≠ [] ∧ kind ≤ 3) := fun x => e3 x.2.2.2
            exact HO.out.trans ((if_neg hx).trans (if_pos h32))
          clear e1 e2 HO c32 n32 h32

          go_enter Tryd.func28, Tryd.ntmps28
          go_wp2
          go_ret
          exact byte_no HN.out (Below.refl _ _)
    · have t1 : ¬ rest.toList = [] := fun e => e1 ((tl rest).symm.trans e)
      have t2 : rest.toList.isEmpty = false := by simpa using t1
      have HN : Hid (O = none) := by
        have hx : ¬ (c = 32 ∧ bs rest = [] ∧ name ≠ [] ∧ kind ≤ 3) := fun x => e1 x.2.1
        exact HO.out.trans ((if_neg hx).trans (if_pos h32))
      clear e1 HO c32 n32 h32

      go_enter Tryd.func28, Tryd.ntmps28
      go_wp2
      go_ret
      exact byte_no HN.out (Below.refl _ _)
  · obtain ⟨g1, g2⟩ := n32 h32
    have HR := Lib.hid (rune_c B w g clock kind hold dest ticks 2 part name rest (.slice ao name.length cap) h hB hr hn c)
    have HO2 : Hid (O = (runeF name (bs rest) c).map fun x => { fd clock kind hold dest ticks 2 part name rest with name := x.1, rest := x.2 }) := by
      have hx : ¬ (c = 32 ∧ bs rest = [] ∧ name ≠ [] ∧ kind ≤ 3) := fun x => h32 x.1
      exact HO.out.trans ((if_neg hx).trans (if_neg h32))
    clear HO c32 n32 h32
    cases hru : runeF name (bs rest) c with
    | none =>
      have HN : Hid (O = none) := by rw [HO2.out, hru]; rfl
      rw [hru] at HR
      clear hru HO2
      go_enter Tryd.func28, Tryd.ntmps28
      go_wp2_with (go_at_call 50; refine HR.out.mono ?_; rintro e1 w1 ⟨rfl, hl⟩)
      go_ret
      exact byte_no HN.out hl
    | some x =>
      have HN : Hid (O = some { fd clock kind hold dest ticks 2 part name rest with name := x.1, rest := x.2 }) := by rw [HO2.out, hru]; rfl
      rw [hru] at HR
      clear hru HO2
      go_enter Tryd.func28, Tryd.ntmps28
      go_wp2_with (go_at_call 50; refine HR.out.mono ?_; rintro e1 w1 ⟨rfl, hl, rest', v', hr', N1⟩)
      go_ret
      exact byte_ok (by rw [HN.out, ← hr']; rfl) hl N1
end Yb
end Go.Proofs.YtlgagbglldehjaaDoor
/- (*feed).byte at states 3 and 5. -/
namespace Go.Proofs.YtlgagbglldehjaaDoor
set_option linter.unusedVariables false
set_option linter.unusedSimpArgs false
open Go Go.RowKit Pj Fe St Es Rp Gh Gd Gs Gr Gy
namespace Yb
set_option maxHeartbeats 4000000 in
set_option maxRecDepth 100000 in
theorem byte3 (B : Nat) (w : World) (g clock : Nat) (kind : Int) (hold dest : ByteArray) (ticks : Nat) (part : ByteArray) (name : Bs) (rest : ByteArray) (v : Value) (h : FN B w g clock kind hold dest ticks 3 part name rest v) (hB : B ≤ w.heap.size)
    (hp : part.size ≤ 1048576) (hr : rest.size ≤ 1048576) (hn : name.length ≤ 1048576) (hh : hold.size ≤ 1048576) (hd : dest.size ≤ 1048576) (hc : clock < 18446744073709551616) (ht : ticks < 18446744073709551616) (c : UInt8) :
    Calls Tryd.prog 28 #[.pointer (some ⟨g, 0, none⟩), .int .u8 c.toNat] w fun e w' => BytePost B w g e w' (stepF (fd clock kind hold dest ticks 3 part name rest) c) := by
  have hc8 := UInt8.toNat_lt c
  obtain ⟨c0, c1, c2, c3, c4, c5, c6, c7, c8, c9⟩ := h.b.cells
  obtain ⟨f0, f1, f2, f3, f4, f5, f6, f7, f8, f9⟩ := h.b.fzs
  have hgl := blk_lt h.b
  have hg := h.g
  obtain ⟨O, hO⟩ : ∃ O, stepF (fd clock kind hold dest ticks 3 part name rest) c = O := ⟨_, rfl⟩
  rw [hO]
  have HO : Hid (O = stepF (fd clock kind hold dest ticks 3 part name rest) c) := hO.symm
  clear hO
  have HX := Lib.hid (fixed_c w g clock kind hold dest ticks 3 part v rest h.b (by omega) ⟨#[32, 98, 121, 32]⟩ (by decide) c)
  have HO2 : Hid (O = if (bs part ++ [c]).isPrefixOf byB then some { fd clock kind hold dest ticks 3 part name rest with part := bs part ++ [c], state := if bs part ++ [c] = byB then 4 else 3 } else none) := HO.out
  clear HO
  go_enter Tryd.func28, Tryd.ntmps28
  go_wp2_with fail
  go_at_call 51
  refine HX.out.mono ?_
  rintro e1 w1 ⟨⟨b, rfl, hbb⟩, F1, hb1⟩
  have N1 := h.but hb1 F1
  have hlow := below_but hg hB hb1
  rw [show bs (⟨#[32, 98, 121, 32]⟩ : ByteArray) = byB from rfl] at hbb ⊢
  clear HX c0 c1 c2 c3 c4 c5 c6 c7 c8 c9 f0 f1 f2 f3 f4 f5 f6 f7 f8 f9 hb1 F1
  obtain ⟨f0, f1, f2, f3, f4, f5, f6, f7, f8, f9⟩ := N1.b.fzs
  obtain ⟨c0, c1, c2, c3, c4, c5, c6, c7, c8, c9⟩ := N1.b.cells
  cases hpre : (bs part ++ [c]).isPrefixOf byB with
  | false =>
    have hb : b = false := by
      cases b with
      | false => rfl
      | true =>
        have := hbb.1 rfl
        rw [this] at hpre
        revert hpre; decide
    subst hb
    have HN : Hid (O = none) := by rw [HO2.out, hpre]; rfl
    clear HO2 hbb hpre
    go_wp2
    go_ret
    exact byte_no HN.out hlow
  | true =>
    cases b with
    | true =>
      have he := hbb.1 rfl
      have HS : Hid (O = some (fd clock kind hold dest ticks 4 (part ++ ⟨#[c]⟩) name rest)) := by
        rw [HO2.out, if_pos hpre, if_pos he]; unfold fd; rw [app_bs]; rfl
      have N2 := N1.but (FB.but_set (But.refl _ _) 6 _) (N1.b.set6 4)
      have hlow2 : Below B w (w1.setCell ⟨g, 6, none⟩ (.int .i64 ((4 : Nat) : Int))) := hlow.setCell hg _
      clear HO2 hbb hpre he
      go_wp2
      go_ret
      exact byte_ok HS.out hlow2 N2
    | false =>
      have he : ¬ bs part ++ [c] = byB := fun e => by have := hbb.2 e; cases this
      have HS : Hid (O = some (fd clock kind hold dest ticks 3 (part ++ ⟨#[c]⟩) name rest)) := by
        rw [HO2.out, if_pos hpre, if_neg he]; unfold fd; rw [app_bs]; rfl
      clear HO2 hbb hpre he
      go_wp2
      go_ret
      exact byte_ok HS.out hlow N1
set_option maxHeartbeats 4000000 in
set_option maxRecDepth 100000 in
theorem byte5 (B : Nat) (w : World) (g clock : Nat) (kind : Int) (hold dest : ByteArray) (ticks : Nat) (part : ByteArray) (name : Bs) (rest : ByteArray) (v : Value) (h : FN B w g clock kind hold dest ticks 5 part name rest v) (hB : B ≤ w.heap.size)
    (hp : part.size ≤ 1048576) (hr : rest.size ≤ 1048576) (hn : name.length ≤ 1048576) (hh : hold.size ≤ 1048576) (hd : dest.size ≤ 1048576) (hc : clock < 18446744073709551616) (ht : ticks < 18446744073709551616) (c : UInt8) :
    Calls Tryd.prog 28 #[.pointer (some ⟨g, 0, none⟩), .int .u8 c.toNat] w fun e w' => BytePost B w g e w' (stepF (fd clock kind hold dest ticks 5 part name rest) c) := by
  have hc8 := UInt8.toNat_lt c
  obtain ⟨c0, c1, c2, c3, c4, c5, c6, c7, c8, c9⟩ := h.b.cells
  obtain ⟨f0, f1, f2, f3, f4, f5, f6, f7, f8, f9⟩ := h.b.fzs
  have hgl := blk_lt h.b
  have hg := h.g
  obtain ⟨O, hO⟩ : ∃ O, stepF (fd clock kind hold dest ticks 5 part name rest) c = O := ⟨_, rfl⟩
  rw [hO]
  have HO : Hid (O = stepF (fd clock kind hold dest ticks 5 part name rest) c) := hO.symm
  clear hO
  have HX := Lib.hid (fixed_c w g clock kind hold dest ticks 5 part v rest h.b (by omega) ⟨#[32, 116, 111, 32]⟩ (by decide) c)
  have HO2 : Hid (O = if (bs part ++ [c]).isPrefixOf toB then some { fd clock kind hold dest ticks 5 part name rest with part := bs part ++ [c], state := if bs part ++ [c] = toB then 6 else 5 } else none) := HO.out
  clear HO
  go_enter Tryd.func28, Tryd.ntmps28
  go_wp2_with fail
  go_at_call 51
  refine HX.out.mono ?_
  rintro e1 w1 ⟨⟨b, rfl, hbb⟩, F1, hb1⟩
  have N1 := h.but hb1 F1
  have hlow := below_but hg hB hb1
  rw [show bs (⟨#[32, 116, 111, 32]⟩ : ByteArray) = toB from rfl] at hbb ⊢
  clear HX c0 c1 c2 c3 c4 c5 c6 c7 c8 c9 f0 f1 f2 f3 f4 f5 f6 f7 f8 f9 hb1 F1
  obtain ⟨f0, f1, f2, f3, f4, f5, f6, f7, f8, f9⟩ := N1.b.fzs
  obtain ⟨c0, c1, c2, c3, c4, c5, c6, c7, c8, c9⟩ := N1.b.cells
  cases hpre : (bs part ++ [c]).isPrefixOf toB with
  | false =>
    have hb : b = false := by
      cases b with
      | false => rfl
      | true =>
        have := hbb.1 rfl
        rw [this] at hpre
        revert hpre; decide
    subst hb
    have HN : Hid (O = none) := by rw [HO2.out, hpre]; rfl
    clear HO2 hbb hpre
    go_wp2
    go_ret
    exact byte_no HN.out hlow
  | true =>
    cases b with
    | true =>
      have he := hbb.1 rfl
      have HS : Hid (O = some (fd clock kind hold dest ticks 6 (part ++ ⟨#[c]⟩) name rest)) := by
        rw [HO2.out, if_pos hpre, if_pos he]; unfold fd; rw [app_bs]; rfl
      have N2 := N1.but (FB.but_set (But.refl _ _) 6 _) (N1.b.set6 6)
      have hlow2 : Below B w (w1.setCell ⟨g, 6, none⟩ (.int .i64 ((6 : Nat) : Int))) := hlow.setCell hg _
      clear HO2 hbb hpre he
      go_wp2
      go_ret
      exact byte_ok HS.out hlow2 N2
    | false =>
      have he : ¬ bs part ++ [c] = toB := fun e => by have := hbb.2 e; cases this
      have HS : Hid (O = some (fd clock kind hold dest ticks 5 (part ++ ⟨#[c]⟩) name rest)) := by
        rw [HO2.out, if_pos hpre, if_neg he]; unfold fd; rw [app_bs]; rfl
      clear HO2 hbb hpre he
      go_wp2
      go_ret
      exact byte_ok HS.out hlow N1
end Yb
end Go.Proofs.YtlgagbglldehjaaDoor
/- (*feed).byte at states 4 and 6. -/
namespace Go.Proofs.YtlgagbglldehjaaDoor
set_option linter.unusedVariables false
set_option linter.unusedSimpArgs false
open Go Go.RowKit Pj Fe St Es Rp Gh Gd Gs Gr Gy
namespace Yb
set_option maxHeartbeats 4000000 in
set_option maxRecDepth 100000 in
theorem byte4 (B : Nat) (w : World) (g clock : Nat) (kind : Int) (hold dest : ByteArray) (ticks : Nat) (part : ByteArray) (name : Bs) (rest : ByteArray) (v : Value) (h : FN B w g clock kind hold dest ticks 4 part name rest v) (hB : B ≤ w.heap.size)
    (hp : part.size ≤ 1048576) (hr : rest.size ≤ 1048576) (hn : name.length ≤ 1048576) (hh : hold.size ≤ 1048576) (hd : dest.size ≤ 1048576) (hc : clock < 18446744073709551616) (ht : ticks < 18446744073709551616) (c : UInt8) :
    Calls Tryd.prog 28 #[.pointer (some ⟨g, 0, none⟩), .int .u8 c.toNat] w fun e w' => BytePost B w g e w' (stepF (fd clock kind hold dest ticks 4 part name rest) c) := by
  have hc8 := UInt8.toNat_lt c
  obtain ⟨c0, c1, c2, c3, c4, c5, c6, c7, c8, c9⟩ := h.b.cells
  obtain ⟨f0, f1, f2, f3, f4, f5, f6, f7, f8, f9⟩ := h.b.fzs
  have hgl := blk_lt h.b
  have hg := h.g
  have c32 : c = 32 → ((c.toNat : Int) == 32) = true ∧ ((c.toNat : Int) != 32) = false := fun e => by subst e; exact ⟨rfl, rfl⟩
  have n32 : c ≠ 32 → ((c.toNat : Int) == 32) = false ∧ ((c.toNat : Int) != 32) = true := fun e => by
    have : (c.toNat : Int) ≠ 32 := fun e2 => e (UInt8.toNat_inj.1 (by show c.toNat = 32; omega))
    exact ⟨beq_eq_false_iff_ne.2 this, by simpa using this⟩
  obtain ⟨O, hO⟩ : ∃ O, stepF (fd clock kind hold dest ticks 4 part name rest) c = O := ⟨_, rfl⟩
  rw [hO]
  have HO : Hid (O = stepF (fd clock kind hold dest ticks 4 part name rest) c) := hO.symm
  clear hO
  by_cases hcond : c = 32 ∧ kind = 3 ∧ bs hold ≠ []
  · obtain ⟨h32, h3, hh0⟩ := hcond
    obtain ⟨g1, g2⟩ := c32 h32
    have gk : (kind == 3) = true := by rw [h3]; rfl
    have t1 : ¬ hold.toList = [] := fun e => hh0 ((tl hold).symm.trans e)
    have t2 : hold.toList.isEmpty = false := by simpa using t1
    have HS : Hid (O = some (fd clock kind hold dest ticks 5 ⟨#[32]⟩ name rest)) := by
      have hx : c = 32 ∧ kind = 3 ∧ bs hold ≠ [] := ⟨h32, h3, hh0⟩
      exact HO.out.trans (if_pos hx)
    have N2 := h.but (FB.but_set (But.refl _ _) 7 _) (h.b.set7 ⟨#[32]⟩)
    have N3 := N2.but (FB.but_set (But.refl _ _) 6 _) (N2.b.set6 5)
    have hlow : Below B w ((w.setCell ⟨g, 7, none⟩ (.string ⟨#[32]⟩)).setCell ⟨g, 6, none⟩ (.int .i64 ((5 : Nat) : Int))) := ((Below.refl _ _).setCell hg _).setCell hg _
    clear HO c32 n32 h32 N2 h3 hh0
    go_enter Tryd.func28, Tryd.ntmps28
    go_wp2
    go_ret
    exact byte_ok HS.out hlow N3
  · by_cases h32 : c = 32
    · obtain ⟨g1, g2⟩ := c32 h32
      by_cases h3 : kind = 3
      · have gk : (kind == 3) = true := by rw [h3]; rfl
        have hh0 : bs hold = [] := by
          cases e : bs hold with
          | nil => rfl
          | cons a t => exact absurd ⟨h32, h3, by rw [e]; simp⟩ hcond
        have t1 : hold.toList = [] := (tl hold).trans hh0
        clear c32 n32 h32 h3 hh0
        have HX := Lib.hid (fun W => letter_c hold c (by omega) W)
        have HO2 : Hid (O = (letterF (bs hold) c).map fun h => { fd clock kind hold dest ticks 4 part name rest with hold := h }) := by
          exact HO.out.trans (if_neg hcond)
        clear HO hcond
        go_enter Tryd.func28, Tryd.ntmps28
        go_wp2_with fail
        go_at_call 52
        refine (HX.out _).mono ?_
        rintro e1 w1 ⟨rfl, hx1⟩
        have N1 := h.ext hx1
        have hlow := below_ext hB hx1
        clear HX c0 c1 c2 c3 c4 c5 c6 c7 c8 c9 f0 f1 f2 f3 f4 f5 f6 f7 f8 f9 hx1
        obtain ⟨f0, f1, f2, f3, f4, f5, f6, f7, f8, f9⟩ := N1.b.fzs
        obtain ⟨c0, c1, c2, c3, c4, c5, c6, c7, c8, c9⟩ := N1.b.cells
        have N2 := N1.but (FB.but_set (But.refl _ _) 3 _) (N1.b.set3 (hold ++ ⟨#[c]⟩))
        have hlow2 : Below B w (w1.setCell ⟨g, 3, none⟩ (.string (hold ++ ⟨#[c]⟩))) := hlow.setCell hg _
        cases hl : holderB (bs hold ++ [c]) with
        | false =>
          have HN : Hid (O = none) := by rw [HO2.out]; unfold letterF; rw [hl]; rfl
          clear HO2 hl
          go_wp2
          go_ret
          exact byte_no HN.out hlow2
        | true =>
          have HS : Hid (O = some (fd clock kind (hold ++ ⟨#[c]⟩) dest ticks 4 part name rest)) := by
            rw [HO2.out]; unfold letterF fd; rw [hl, app_bs]; rfl
          clear HO2 hl
          go_wp2
          go_ret
          exact byte_ok HS.out hlow2 N2
      · have gk : (kind == 3) = false := beq_eq_false_iff_ne.2 h3
        clear c32 n32 h32 h3
        have HX := Lib.hid (fun W => letter_c hold c (by omega) W)
        have HO2 : Hid (O = (letterF (bs hold) c).map fun h => { fd clock kind hold dest ticks 4 part name rest with hold := h }) := by
          exact HO.out.trans (if_neg hcond)
        clear HO hcond
        go_enter Tryd.func28, Tryd.ntmps28
        go_wp2_with fail
        go_at_call 52
        refine (HX.out _).mono ?_
        rintro e1 w1 ⟨rfl, hx1⟩
        have N1 := h.ext hx1
        have hlow := below_ext hB hx1
        clear HX c0 c1 c2 c3 c4 c5 c6 c7 c8 c9 f0 f1 f2 f3 f4 f5 f6 f7 f8 f9 hx1
        obtain ⟨f0, f1, f2, f3, f4, f5, f6, f7, f8, f9⟩ := N1.b.fzs
        obtain ⟨c0, c1, c2, c3, c4, c5, c6, c7, c8, c9⟩ := N1.b.cells
        have N2 := N1.but (FB.but_set (But.refl _ _) 3 _) (N1.b.set3 (hold ++ ⟨#[c]⟩))
        have hlow2 : Below B w (w1.setCell ⟨g, 3, none⟩ (.string (hold ++ ⟨#[c]⟩))) := hlow.setCell hg _
        cases hl : holderB (bs hold ++ [c]) with
        | false =>
          have HN : Hid (O = none) := by rw [HO2.out]; unfold letterF; rw [hl]; rfl
          clear HO2 hl
          go_wp2
          go_ret
          exact byte_no HN.out hlow2
        | true =>
          have HS : Hid (O = some (fd clock kind (hold ++ ⟨#[c]⟩) dest ticks 4 part name rest)) := by
            rw [HO2.out]; unfold letterF fd; rw [hl, app_bs]; rfl
          clear HO2 hl
          go_wp2
          go_ret
          exact byte_ok HS.out hlow2 N2
    · obtain ⟨g1, g2⟩ := n32 h32
      clear c32 n32 h32
      have HX := Lib.hid (fun W => letter_c hold c (by omega) W)
      have HO2 : Hid (O = (letterF (bs hold) c).map fun h => { fd clock kind hold dest ticks 4 part name rest with hold := h }) := by
        exact HO.out.trans (if_neg hcond)
      clear HO hcond
      go_enter Tryd.func28, Tryd.ntmps28
      go_wp2_with fail
      go_at_call 52
      refine (HX.out _).mono ?_
      rintro e1 w1 ⟨rfl, hx1⟩
      have N1 := h.ext hx1
      have hlow := below_ext hB hx1
      clear HX c0 c1 c2 c3 c4 c5 c6 c7 c8 c9 f0 f1 f2 f3 f4 f5 f6 f7 f8 f9 hx1
      obtain ⟨f0, f1, f2, f3, f4, f5, f6, f7, f8, f9⟩ := N1.b.fzs
      obtain ⟨c0, c1, c2, c3, c4, c5, c6, c7, c8, c9⟩ := N1.b.cells
      have N2 := N1.but (FB.but_set (But.refl _ _) 3 _) (N1.b.set3 (hold ++ ⟨#[c]⟩))
      have hlow2 : Below B w (w1.setCell ⟨g, 3, none⟩ (.string (hold ++ ⟨#[c]⟩))) := hlow.setCell hg _
      cases hl : holderB (bs hold ++ [c]) with
      | false =>
        have HN : Hid (O = none) := by rw [HO2.out]; unfold letterF; rw [hl]; rfl
        clear HO2 hl
        go_wp2
        go_ret
        exact byte_no HN.out hlow2
      | true =>
        have HS : Hid (O = some (fd clock kind (hold ++ ⟨#[c]⟩) dest ticks 4 part name rest)) := by
          rw [HO2.out]; unfold letterF fd; rw [hl, app_bs]; rfl
        clear HO2 hl
        go_wp2
        go_ret
        exact byte_ok HS.out hlow2 N2
set_option maxHeartbeats 4000000 in
set_option maxRecDepth 100000 in
theorem byte6 (B : Nat) (w : World) (g clock : Nat) (kind : Int) (hold dest : ByteArray) (ticks : Nat) (part : ByteArray) (name : Bs) (rest : ByteArray) (v : Value) (h : FN B w g clock kind hold dest ticks 6 part name rest v) (hB : B ≤ w.heap.size)
    (hp : part.size ≤ 1048576) (hr : rest.size ≤ 1048576) (hn : name.length ≤ 1048576) (hh : hold.size ≤ 1048576) (hd : dest.size ≤ 1048576) (hc : clock < 18446744073709551616) (ht : ticks < 18446744073709551616) (c : UInt8) :
    Calls Tryd.prog 28 #[.pointer (some ⟨g, 0, none⟩), .int .u8 c.toNat] w fun e w' => BytePost B w g e w' (stepF (fd clock kind hold dest ticks 6 part name rest) c) := by
  have hc8 := UInt8.toNat_lt c
  obtain ⟨c0, c1, c2, c3, c4, c5, c6, c7, c8, c9⟩ := h.b.cells
  obtain ⟨f0, f1, f2, f3, f4, f5, f6, f7, f8, f9⟩ := h.b.fzs
  have hgl := blk_lt h.b
  have hg := h.g
  obtain ⟨O, hO⟩ : ∃ O, stepF (fd clock kind hold dest ticks 6 part name rest) c = O := ⟨_, rfl⟩
  rw [hO]
  have HO : Hid (O = stepF (fd clock kind hold dest ticks 6 part name rest) c) := hO.symm
  clear hO
  have HX := Lib.hid (fun W => letter_c dest c (by omega) W)
  have HO2 : Hid (O = (letterF (bs dest) c).map fun h => { fd clock kind hold dest ticks 6 part name rest with dest := h }) := by
    exact HO.out
  clear HO
  go_enter Tryd.func28, Tryd.ntmps28
  go_wp2_with fail
  go_at_call 52
  refine (HX.out _).mono ?_
  rintro e1 w1 ⟨rfl, hx1⟩
  have N1 := h.ext hx1
  have hlow := below_ext hB hx1
  clear HX c0 c1 c2 c3 c4 c5 c6 c7 c8 c9 f0 f1 f2 f3 f4 f5 f6 f7 f8 f9 hx1
  obtain ⟨f0, f1, f2, f3, f4, f5, f6, f7, f8, f9⟩ := N1.b.fzs
  obtain ⟨c0, c1, c2, c3, c4, c5, c6, c7, c8, c9⟩ := N1.b.cells
  have N2 := N1.but (FB.but_set (But.refl _ _) 4 _) (N1.b.set4 (dest ++ ⟨#[c]⟩))
  have hlow2 : Below B w (w1.setCell ⟨g, 4, none⟩ (.string (dest ++ ⟨#[c]⟩))) := hlow.setCell hg _
  cases hl : holderB (bs dest ++ [c]) with
  | false =>
    have HN : Hid (O = none) := by rw [HO2.out]; unfold letterF; rw [hl]; rfl
    clear HO2 hl
    go_wp2
    go_ret
    exact byte_no HN.out hlow2
  | true =>
    have HS : Hid (O = some (fd clock kind hold (dest ++ ⟨#[c]⟩) ticks 6 part name rest)) := by
      rw [HO2.out]; unfold letterF fd; rw [hl, app_bs]; rfl
    clear HO2 hl
    go_wp2
    go_ret
    exact byte_ok HS.out hlow2 N2
end Yb
end Go.Proofs.YtlgagbglldehjaaDoor
/- (*feed).byte at every state. -/
namespace Go.Proofs.YtlgagbglldehjaaDoor
set_option linter.unusedVariables false
set_option linter.unusedSimpArgs false
open Go Go.RowKit Pj Fe St Es Rp Gh Gd Gs Gr Gy
namespace Yb
theorem byte_c (B : Nat) (w : World) (g clock : Nat) (kind : Int) (hold dest : ByteArray) (ticks state : Nat) (hs : state ≤ 7) (part : ByteArray) (name : Bs) (rest : ByteArray) (v : Value) (h : FN B w g clock kind hold dest ticks state part name rest v) (hB : B ≤ w.heap.size)
    (hp : part.size ≤ 1048576) (hr : rest.size ≤ 1048576) (hn : name.length ≤ 1048576) (hh : hold.size ≤ 1048576) (hd : dest.size ≤ 1048576) (hc : clock < 18446744073709551616) (ht : ticks < 18446744073709551616) (c : UInt8) :
    Calls Tryd.prog 28 #[.pointer (some ⟨g, 0, none⟩), .int .u8 c.toNat] w fun e w' => BytePost B w g e w' (stepF (fd clock kind hold dest ticks state part name rest) c) := by
  rcases (by omega : state = 0 ∨ state = 1 ∨ state = 2 ∨ state = 3 ∨ state = 4 ∨ state = 5 ∨ state = 6 ∨ state = 7) with rfl | rfl | rfl | rfl | rfl | rfl | rfl | rfl
  · exact byte0 B w g clock kind hold dest ticks part name rest v h hB hp hr hn hh hd hc ht c
  · exact byte1 B w g clock kind hold dest ticks part name rest v h hB hp hr hn hh hd hc ht c
  · exact byte2 B w g clock kind hold dest ticks part name rest v h hB hp hr hn hh hd hc ht c
  · exact byte3 B w g clock kind hold dest ticks part name rest v h hB hp hr hn hh hd hc ht c
  · exact byte4 B w g clock kind hold dest ticks part name rest v h hB hp hr hn hh hd hc ht c
  · exact byte5 B w g clock kind hold dest ticks part name rest v h hB hp hr hn hh hd hc ht c
  · exact byte6 B w g clock kind hold dest ticks part name rest v h hB hp hr hn hh hd hc ht c
  · exact byte7 B w g clock kind hold dest ticks part name rest v h hB hp hr hn hh hd hc ht c
end Yb
end Go.Proofs.YtlgagbglldehjaaDoor
/- guiseref22.Read. -/
namespace Go.Proofs.YtlgagbglldehjaaDoor
set_option linter.unusedVariables false
set_option linter.unusedSimpArgs false
open Go Go.RowKit Pj Fe St Es Rp Rr Gh Gd Gs Gr Gy Yb
namespace Zr
/-- six cells of the reference's entry -/
abbrev ZE (W : World) (b : Nat) (v0 v1 v2 v3 v4 v5 : Value) : Prop := Six W b 34 v0 v1 v2 v3 v4 v5
/-- what is answered -/
def outR : Option Ent × Nat → Value
  | (none, p) => .tuple #[.agg #[.int .u64 0, .int .i64 0, .string ⟨#[]⟩, .string ⟨#[]⟩, .string ⟨#[]⟩, .int .u64 0], .int .i64 p, .int .i64 80]
  | (some e, _) => .tuple #[.agg #[.int .u64 e.clock, .int .i64 e.kind, .string ⟨e.name.toArray⟩, .string ⟨e.hold.toArray⟩, .string ⟨e.dest.toArray⟩, .int .u64 e.ticks], .int .i64 0, .int .i64 0]
theorem infoE : (Tryd.prog.info? 34).map (·.size) = some 6 := by kernel_rfl
theorem end_r {Q : Ending → World → Prop} {a : Act} {W : World} {rb : Nat} {v3 v4 : Value} {cs : Array Value} (hd : a.defers = []) (h2 : a.tmps.getD 2 undef = .pointer (some ⟨rb, 0, none⟩)) (h3 : a.tmps.getD 3 undef = v3) (h4 : a.tmps.getD 4 undef = v4)
    (hz : W.heap[rb]? = some (.cells cs 34 (0, 0))) (hcs : cs.size = 6) (hQ : Q (.returned (.tuple #[.agg cs, v3, v4])) W) : bodyPost Tryd.prog Tryd.f13 Q .ret a W := by
  have h := Re.results_cell3 (P := Tryd.prog) (fn := Tryd.f13) (p := 2) (u := 3) (v := 4) (ty := 34) rfl a.tmps W rb _ cs (0, 0) _ h2 hz Tryd.underlying34 rfl (by rw [infoE, hcs])
  rw [h3, h4] at h
  exact bodyPost_ret h hd hQ
theorem conv_own {B : Nat} {W : World} {v : Value} {name : Bs} (h : W.ownsRow B 5 1 v name.length (Lib.byteCells name)) : (convert 61 9 v).run Tryd.prog W = .ok (.string ⟨name.toArray⟩) W := by
  obtain ⟨hl, h⟩ := h
  rcases h with ⟨hv, h0⟩ | ⟨g, cap, cur, hv, hbg, hg, hnc, hcm, hcur, htake⟩
  · have : name = [] := List.eq_nil_of_length_eq_zero h0
    subst this hv
    exact Lib.run_convert_nil_bytes (P := Tryd.prog) W 61 9 5 0 Tryd.underlying61 Tryd.underlying5 Tryd.underlying9
  · subst hv
    have hsz : (⟨name.toArray⟩ : ByteArray).size = name.length := by show name.toArray.size = _; simp
    rw [← hsz]
    refine Lib.run_convert_whole (P := Tryd.prog) W 61 5 9 Tryd.underlying61 Tryd.underlying5 Tryd.underlying9 g 0 ⟨name.toArray⟩ (fun i hi => ?_) cap
    rw [hsz] at hi
    rw [Nat.zero_add, blk_cell hg]
    have e1 : (Lib.byteCells name)[i]? = some (.int .u8 (name[i].toNat : Int)) := by simp [Lib.byteCells, hi]
    rw [← htake] at e1
    rw [List.getElem?_take_of_lt (by simpa using hi)] at e1
    rw [← Array.getElem?_toList, e1]
    rfl
/-- what holds between two rounds: k bytes have been fed -/
def RelR (w0 : World) (B g : Nat) (s : ByteArray) (R : Option Ent × Nat) (k : Nat) (wr : World) : Prop :=
  ∃ clock kind hold dest ticks state part name rest v, FN B wr g clock kind hold dest ticks state part name rest v ∧ BndS k (fd clock kind hold dest ticks state part name rest) ∧ R = runF (fd clock kind hold dest ticks state part name rest) k ((bs s).drop k) ∧ Below B w0 wr ∧ B ≤ wr.heap.size
theorem put6_below {n : Nat} {X W : World} {b : Nat} (h : Below n X W) (hb : n ≤ b) (v0 v1 v2 v3 v4 v5 : Value) : Below n X (put6 W b v0 v1 v2 v3 v4 v5) :=
  (((((h.setCell (p := ⟨b, 0, none⟩) hb v0).setCell (p := ⟨b, 1, none⟩) hb v1).setCell (p := ⟨b, 2, none⟩) hb v2).setCell (p := ⟨b, 3, none⟩) hb v3).setCell (p := ⟨b, 4, none⟩) hb v4).setCell (p := ⟨b, 5, none⟩) hb v5
theorem low_of {w w0 W : World} {n : Nat} (hx : Ext w w0) (h : Below n w0 W) (hn : w.heap.size ≤ n) : Below w.heap.size w W := (hx.below (Nat.le_refl _) (fun _ _ e => e)).trans (h.mono hn)
theorem of_bs (s : ByteArray) : (⟨(bs s).toArray⟩ : ByteArray) = s := by cases s; rfl
set_option maxHeartbeats 4000000 in
set_option maxRecDepth 100000 in
theorem Read_r (s : ByteArray) (w : World) (hs : s.size ≤ 1000000) :
    Calls Tryd.prog 13 #[.string s] w fun e w' => e = .returned (outR (readF (bs s))) ∧ Below w.heap.size w w' := by
  obtain ⟨R, hR⟩ : ∃ R, readF (bs s) = R := ⟨_, rfl⟩
  rw [hR]
  have HR := Lib.hid hR
  clear hR
  go_enter Tryd.func13, Tryd.ntmps13
  go_wp2
  generalize hw0 : (w.alloc _).alloc _ = w0
  have hZ0 : ZE w0 w.heap.size (.int .u64 0) (.int .i64 0) (.string ⟨#[]⟩) (.string ⟨#[]⟩) (.string ⟨#[]⟩) (.int .u64 0) := by subst hw0; exact blk_alloc (blk_new w _) _
  have hF0 : FB w0 (w.heap.size + 1) 0 0 ⟨#[]⟩ ⟨#[]⟩ 0 0 ⟨#[]⟩ (.slice none 0 0) ⟨#[]⟩ := by subst hw0; exact blk_new2 w _ _
  have hx0 : Ext w w0 := by subst hw0; exact ((But.refl _ w).alloc _).alloc _
  have hs0 : w.heap.size + 1 < w0.heap.size := blk_lt hF0
  clear hw0
  go_loopw [6] (fun i wr => ∃ k : Nat, k ≤ s.size ∧ i = .int .i64 k ∧ RelR w0 (w.heap.size + 1) (w.heap.size + 1) s R k wr) (fun i _ => s.size - (intOf i).toNat)
  case atStart =>
    refine ⟨0, by omega, rfl, 0, 0, ⟨#[]⟩, ⟨#[]⟩, 0, 0, ⟨#[]⟩, [], ⟨#[]⟩, .slice none 0 0, ⟨hF0, World.ownsRow_nil _ _ _ _, Nat.le_refl _⟩, ?_, ?_, Below.refl _ _, by omega⟩
    · exact ⟨by decide, by decide, by decide, by decide, by decide, by decide, by decide⟩
    · rw [← HR.out, List.drop_zero]; rfl
  case round =>
    obtain ⟨k, hk, rfl, clock, kind, hold, dest, ticks, state, part, name, rest, v, N, bnd, hrun, hlow, hBr⟩ := hrel
    have HRUN := Lib.hid hrun
    clear hrun
    have hZ : ZE _ w.heap.size (.int .u64 0) (.int .i64 0) (.string ⟨#[]⟩) (.string ⟨#[]⟩) (.string ⟨#[]⟩) (.int .u64 0) := (hlow.block _ (by omega)).trans hZ0
    obtain ⟨b1, b2, b3, b4, b5, b6, b7⟩ := bnd
    dsimp only [fd] at b1 b2 b3 b4 b5 b6 b7
    rw [bs_len] at b1 b3 b4
    rw [bs_len] at b2
    by_cases hlt : k < s.size
    · have hby := byte_c (w.heap.size + 1) _ (w.heap.size + 1) clock kind hold dest ticks state b7 part name rest v N hBr (by omega) (by omega) (by omega) (by omega) (by omega) b5 b6 s[k]
      have hdk := bs_drop s k hlt
      cases hst : stepF (fd clock kind hold dest ticks state part name rest) s[k] with
      | none =>
        rw [hst] at hby
        have HBY := Lib.hid hby
        have HR2 : Hid (R = (none, k)) := by rw [HRUN.out, hdk]; exact run_no hst k _
        clear hby hst hdk HRUN HR N
        go_wp2_with fail
        go_at_call 28
        refine HBY.out.mono ?_
        rintro e1 w2 ⟨rfl, hl2⟩
        have hl3 := hlow.trans hl2
        have hZ2 : ZE w2 w.heap.size (.int .u64 0) (.int .i64 0) (.string ⟨#[]⟩) (.string ⟨#[]⟩) (.string ⟨#[]⟩) (.int .u64 0) := (hl3.block _ (by omega)).trans hZ0
        clear HBY hl2 hlow hZ
        obtain ⟨y0, y1, y2, y3, y4, y5⟩ := six_c hZ2
        obtain ⟨z0, z1, z2, z3, z4, z5⟩ := six_fz hZ2
        go_wp2
        refine end_r rfl rfl rfl rfl (put6_six hZ2 _ _ _ _ _ _) rfl ?_
        rw [HR2.out]
        exact ⟨rfl, put6_below (low_of hx0 hl3 (by omega)) (Nat.le_refl _) _ _ _ _ _ _⟩
      | some f' =>
        rw [hst] at hby
        have HBY := Lib.hid hby
        have bnd2 := step_bnd (i := k) (f := fd clock kind hold dest ticks state part name rest) (by refine ⟨?_, ?_, ?_, ?_, b5, b6, b7⟩ <;> (dsimp only [fd]; simp only [bs_len]; omega)) hst
        have HR2 : Hid (R = runF f' (k + 1) ((bs s).drop (k + 1))) := by rw [HRUN.out, hdk]; exact run_go hst k _
        have HB2 := Lib.hid bnd2
        clear hby hst hdk HRUN HR N bnd2 b1 b2 b3 b4 b5 b6 b7
        go_wp2_with fail
        go_at_call 28
        refine HBY.out.mono ?_
        rintro e1 w2 ⟨rfl, hl2, clock', kind', hold', dest', ticks', state', part', name', rest', v', rfl, N2⟩
        have hl3 := hlow.trans hl2
        have hB3 := Nat.le_trans hBr hl2.size
        clear HBY hl2 hlow hZ
        go_wp2
        go_roundw
        case rel => exact ⟨k + 1, by omega, by go_num, ⟨clock', kind', hold', dest', ticks', state', part', name', rest', v', N2, HB2.out, HR2.out, hl3, hB3⟩⟩
        case measure => simp [intOf]; omega
    · obtain rfl : k = s.size := by omega
      have hdr : (bs s).drop s.size = [] := bs_drop_nil s s.size (Nat.le_refl _)
      have hdone := done_c (w.heap.size + 1) _ (w.heap.size + 1) clock kind hold dest ticks state part name rest v N b7
      cases hd : doneF (fd clock kind hold dest ticks state part name rest) with
      | false =>
        rw [hd] at hdone
        have HD := Lib.hid hdone
        have HR2 : Hid (R = (none, s.size)) := by rw [HRUN.out, hdr]; unfold runF; rw [hd]; rfl
        clear hdone hd hdr HRUN HR N
        go_wp2_with fail
        go_at_call 29
        refine HD.out.mono ?_
        rintro e1 w2 ⟨rfl, n2, rfl⟩
        have hZ2 := hZ.ext ((But.refl _ _).drewN n2)
        have hl3 := hlow.trans (below_ext hBr ((But.refl _ _).drewN n2))
        clear HD hZ hlow
        obtain ⟨y0, y1, y2, y3, y4, y5⟩ := six_c hZ2
        obtain ⟨z0, z1, z2, z3, z4, z5⟩ := six_fz hZ2
        go_wp2
        refine end_r rfl rfl rfl rfl (put6_six hZ2 _ _ _ _ _ _) rfl ?_
        rw [HR2.out]
        exact ⟨rfl, put6_below (low_of hx0 hl3 (by omega)) (Nat.le_refl _) _ _ _ _ _ _⟩
      | true =>
        rw [hd] at hdone
        have HD := Lib.hid hdone
        have HR2 : Hid (R = (some ⟨clock, kind, name, bs hold, bs dest, ticks⟩, 0)) := by rw [HRUN.out, hdr]; unfold runF; rw [hd]; rfl
        clear hdone hd hdr HRUN HR
        go_wp2_with fail
        go_at_call 29
        refine HD.out.mono ?_
        rintro e1 w2 ⟨rfl, n2, rfl⟩
        have hl3 := hlow.trans (below_ext hBr ((But.refl _ _).drewN n2))
        have hZ2 := hZ.ext ((But.refl _ _).drewN n2)
        have N2 := N.ext ((But.refl (fun _ => False) _).drewN n2)
        clear HD hZ hlow N
        generalize wr.drewN n2 = W at hl3 hZ2 N2 ⊢
        have hcv := conv_own N2.o
        have hZ3 : ZE (W.setCell ⟨w.heap.size + 1, 2, none⟩ (.string ⟨name.toArray⟩)) w.heap.size (.int .u64 0) (.int .i64 0) (.string ⟨#[]⟩) (.string ⟨#[]⟩) (.string ⟨#[]⟩) (.int .u64 0) := blk_other hZ2 (by omega) _
        have hl4 : Below (w.heap.size + 1) w0 (W.setCell ⟨w.heap.size + 1, 2, none⟩ (.string ⟨name.toArray⟩)) := hl3.setCell (Nat.le_refl _) _
        obtain ⟨y0, y1, y2, y3, y4, y5⟩ := six_c hZ2
        obtain ⟨z0, z1, z2, z3, z4, z5⟩ := six_fz hZ2
        obtain ⟨c0, c1, c2, c3, c4, c5, c6, c7, c8, c9⟩ := N2.b.cells
        have f2 := N2.b.fz 2
        clear hl3 hZ2 N2
        go_wp2
        refine end_r rfl rfl rfl rfl (put6_six hZ3 _ _ _ _ _ _) rfl ?_
        rw [HR2.out]
        refine ⟨?_, put6_below (low_of hx0 hl4 (by omega)) (Nat.le_refl _) _ _ _ _ _ _⟩
        unfold outR
        dsimp only
        rw [of_bs, of_bs]
        rfl
end Zr
end Go.Proofs.YtlgagbglldehjaaDoor
/- guiselaw22.JournalRead: its walk. -/
namespace Go.Proofs.YtlgagbglldehjaaDoor
set_option linter.unusedVariables false
set_option linter.unusedSimpArgs false
open Go Go.RowKit Pj J1 St Es Rf Rp Rr Kn Fe Zr
namespace Jr
set_option maxHeartbeats 1000000 in
set_option maxRecDepth 100000 in
theorem few_c (s : ByteArray) (w : World) (hs : s.size ≤ 9223372036854775807) :
    Calls Tryd.prog 7 #[.string s, .int .i64 5000] w fun e w' => ∃ t : ByteArray, t.size ≤ 5000 ∧ e = .returned (.string t) ∧ w = w' := by
  by_cases h : 5000 < s.size
  · have g : 5000 < (s.size : Int) := by omega
    have hz : (s.extract 0 5000).size ≤ 5000 := by simp; omega
    go_enter Tryd.func7, Tryd.ntmps7
    go_wp2
    go_ret
    exact ⟨_, hz, rfl, rfl⟩
  · have g : ¬ 5000 < (s.size : Int) := by omega
    have hz : s.size ≤ 5000 := by omega
    go_enter Tryd.func7, Tryd.ntmps7
    go_wp2
    go_ret
    exact ⟨_, hz, rfl, rfl⟩
set_option maxHeartbeats 1000000 in
set_option maxRecDepth 100000 in
theorem entry_c (clock ticks : Nat) (kind : Int) (name hold dest : ByteArray) (w : World) :
    Calls Tryd.prog 14 #[.agg #[.int .u64 clock, .int .i64 kind, .string name, .string hold, .string dest, .int .u64 ticks]] w fun e w' => e = .returned (.agg #[.int .u64 clock, .int .i64 kind, .string name, .string hold, .string dest, .int .u64 ticks]) ∧ Ext w w' := by
  go_enter Tryd.func14, Tryd.ntmps14
  go_wp2
  refine bodyPost_ret (v := .agg #[.int .u64 clock, .int .i64 kind, .string name, .string hold, .string dest, .int .u64 ticks]) (by simp [results, Tryd.results14, go_sem]) rfl ⟨rfl, ?_⟩
  exact ((But.refl _ _).alloc _).alloc _
/-- both readers answer alike -/
theorem out_same (s : ByteArray) : ∃ (clock ticks : Nat) (kind p q : Int) (n h d : ByteArray), Rr.outV (readP (bs s)) = .tuple #[.agg #[.int .u64 clock, .int .i64 kind, .string n, .string h, .string d, .int .u64 ticks], .int .i64 p, .int .i64 q] ∧ outR (readF (bs s)) = .tuple #[.agg #[.int .u64 clock, .int .i64 kind, .string n, .string h, .string d, .int .u64 ticks], .int .i64 p, .int .i64 q] := by
  rw [Fe.read_eq]
  rcases hr : readP (bs s) with ⟨o, p⟩
  cases o with
  | none => exact ⟨0, 0, 0, p, 80, ⟨#[]⟩, ⟨#[]⟩, ⟨#[]⟩, rfl, rfl⟩
  | some e =>
    have hp : p = 0 := Fe.run_some_zero _ _ _ _ e (by rw [← Fe.read_eq] at hr; exact hr)
    subst hp
    exact ⟨e.clock, e.ticks, e.kind, 0, 0, ⟨e.name.toArray⟩, ⟨e.hold.toArray⟩, ⟨e.dest.toArray⟩, rfl, rfl⟩
set_option maxHeartbeats 4000000 in
set_option maxRecDepth 100000 in
theorem JRead_c (line : ByteArray) (w : World) (hl : line.size ≤ 9223372036854775807) (hT : Tabs w) :
    Calls Tryd.prog 4 #[.string line] w fun e w' => e = .returned (.bool true) ∧ Ext w w' := by
  have hng := hT.ng
  go_enter Tryd.func4, Tryd.ntmps4
  go_wp2_with fail
  go_at_call 7
  refine (few_c line w hl).mono ?_
  rintro e0 w0 ⟨s, hs, rfl, rfl⟩
  have h1 := Read_c s w (by omega) hT
  have h2 := fun W => Read_r s W (by omega)
  obtain ⟨clock, ticks, kind, p, q, n, h, d, e1, e2⟩ := out_same s
  rw [e1] at h1
  rw [e2] at h2
  have H1 := Lib.hid h1
  have H2 := Lib.hid h2
  clear h1 h2 e1 e2
  go_wp2_with fail
  go_at_call 12
  refine H1.out.mono ?_
  rintro e1 w1 ⟨rfl, hx1⟩
  go_wp2_with fail
  go_at_call 13
  refine (H2.out _).mono ?_
  rintro e2 w2 ⟨rfl, hb2⟩
  have hA : Six w2 w1.heap.size 27 (.int .u64 clock) (.int .i64 kind) (.string n) (.string h) (.string d) (.int .u64 ticks) := (hb2.block _ (by simp)).trans (blk_new _ _)
  have hx2 : Ext w w2 := (hx1.alloc _).trans (But.of_below hb2)
  clear hb2 H1 H2
  go_wp2_with fail
  generalize hW : w2.alloc _ = W
  have hB : ZE W w2.heap.size (.int .u64 clock) (.int .i64 kind) (.string n) (.string h) (.string d) (.int .u64 ticks) := by subst hW; exact blk_new w2 _
  have hA' : Six W w1.heap.size 27 (.int .u64 clock) (.int .i64 kind) (.string n) (.string h) (.string d) (.int .u64 ticks) := by subst hW; exact blk_alloc hA _
  have hx : Ext w W := by subst hW; exact hx2.alloc _
  have hTW := hT.ext hx
  clear hW hA
  have a := fun d os => (Six.ext hA' (ext_grow d os)).all
  have b := fun d os => (Six.ext hB (ext_grow d os)).all
  have a0 : ∀ d os, (Sort.grow (redrawn W d) os).cell? ⟨w1.heap.size, 0, none⟩ = _ := fun d os => (a d os).1
  have a1 : ∀ d os, (Sort.grow (redrawn W d) os).cell? ⟨w1.heap.size, 1, none⟩ = _ := fun d os => (a d os).2.1
  have a2 : ∀ d os, (Sort.grow (redrawn W d) os).cell? ⟨w1.heap.size, 2, none⟩ = _ := fun d os => (a d os).2.2.1
  have a3 : ∀ d os, (Sort.grow (redrawn W d) os).cell? ⟨w1.heap.size, 3, none⟩ = _ := fun d os => (a d os).2.2.2.1
  have a4 : ∀ d os, (Sort.grow (redrawn W d) os).cell? ⟨w1.heap.size, 4, none⟩ = _ := fun d os => (a d os).2.2.2.2.1
  have a5 : ∀ d os, (Sort.grow (redrawn W d) os).cell? ⟨w1.heap.size, 5, none⟩ = _ := fun d os => (a d os).2.2.2.2.2.1
  have b0 : ∀ d os, (Sort.grow (redrawn W d) os).cell? ⟨w2.heap.size, 0, none⟩ = _ := fun d os => (b d os).1
  have b1 : ∀ d os, (Sort.grow (redrawn W d) os).cell? ⟨w2.heap.size, 1, none⟩ = _ := fun d os => (b d os).2.1
  have b2 : ∀ d os, (Sort.grow (redrawn W d) os).cell? ⟨w2.heap.size, 2, none⟩ = _ := fun d os => (b d os).2.2.1
  have b3 : ∀ d os, (Sort.grow (redrawn W d) os).cell? ⟨w2.heap.size, 3, none⟩ = _ := fun d os => (b d os).2.2.2.1
  have b4 : ∀ d os, (Sort.grow (redrawn W d) os).cell? ⟨w2.heap.size, 4, none⟩ = _ := fun d os => (b d os).2.2.2.2.1
  have b5 : ∀ d os, (Sort.grow (redrawn W d) os).cell? ⟨w2.heap.size, 5, none⟩ = _ := fun d os => (b d os).2.2.2.2.2.1
  clear a b
  refine wp_region_quiet_below (by kernel_rfl) (by kernel_rfl) ?_
  repeat (first
    | go_big_quiet_skip
    | (go_big_quiet_want
       go_big_quiet_op
       first
         | go_big_quiet_on
         | (apply Exists.intro
            refine ⟨fun _ => ?_, ?_⟩
            · first
                | (go_at_call 14; exact quiet_ext (entry_c clock ticks kind n h d _))
                | (go_at_call 11; exact quiet_ext (known_c _ (hTW.ext (ext_grow _ _))))
            go_big_quiet_on)))
  refine wpQuiet_nil ?_
  intro w3 hw3
  obtain ⟨pr, hw3⟩ := hw3
  have hx3 : Ext w w3 := hx.trans (hw3 ▸ ext_grow _ _)
  clear hw3
  go_wp2
  go_ret
  exact ⟨rfl, hx3⟩
end Jr
end Go.Proofs.YtlgagbglldehjaaDoor
