/- what (*journal.reader).name reads: plain. -/
import Derived.Test.YtlgagbglldehjaaDoorEs
import Derived.Test.YtlgagbglldehjaaDoorRb
import Derived.Test.YtlgagbglldehjaaDoorBr
import Derived.Test.YtlgagbglldehjaaDoorSq
import Derived.Test.YtlgagbglldehjaaDoorRo
import Derived.Lib.MapLaws
import Derived.Lib.TrimUEq
namespace Go.Proofs.YtlgagbglldehjaaDoor
set_option linter.unusedVariables false
set_option linter.unusedSimpArgs false
open Go Go.RowKit Pj J1 St Es Rf
namespace Nm
theorem nameL_end {l : Bs} (h : nameStep l = none) (f : Nat) : nameL f l = ([], 0, false) := by
  cases f with
  | zero => rfl
  | succ f => simp only [nameL, h]
theorem nameL_bad {l b : Bs} {n : Nat} (h : nameStep l = some (b, n, true)) (f : Nat) : nameL (f + 1) l = (b, n, true) := by
  simp only [nameL, h]
theorem nameL_go {l b : Bs} {n : Nat} (h : nameStep l = some (b, n, false)) (f : Nat) : nameL (f + 1) l = (b ++ (nameL f (l.drop n)).1, n + (nameL f (l.drop n)).2.1, (nameL f (l.drop n)).2.2) := by
  simp only [nameL, h]
/-- what changes below a builder leaves it -/
theorem isB_low {S : Nat → Prop} {w w' : World} {T e : TypeId} {B b : Nat} {l : List Value} (h : Lib.IsBuilder T e B b l w) (hx : But S w w') (hs : ∀ k, S k → k < B) : Lib.IsBuilder T e B b l w' := by
  have key : ∀ p, Lib.BuilderAt T e B b p l w → Lib.BuilderAt T e B b p l w' := by
    rintro p ⟨hB, v, hb, hown, hne⟩
    exact ⟨hB, v, But.heap hx hb (fun hS => by have := hs b hS; omega), Ow.own_keep hown hx (fun g hg hS => by have := (Ow.own_lt hown hg).1; have := hs g hS; omega), hne⟩
  exact h.imp (key _) (key _)
theorem decodeGo_L (s : ByteArray) (h : 0 < s.size) : Lib.decodeGo s = Lib.decodeL (bs s) := by
  unfold Lib.decodeGo; rw [if_neg (by omega)]
  exact (Lib.decodeL_drop s 0).symm

theorem but_below {B : Nat} {x y : World} (h : Below B x y) : But (fun k => B ≤ k) x y := ⟨h.os, h.tape, h.output, h.size, fun i _ hs => h.block i (Nat.not_le.1 hs)⟩
theorem decode_c (s : ByteArray) (w : World) (h0 : 0 < s.size) (hT : Tabs w) (x n : Nat) (hd : Lib.decodeL (bs s) = (x, n)) :
    Calls Tryd.prog 44 #[.string s] w fun e w' => e = .returned (.tuple #[.int .i32 x, .int .i64 n]) ∧ Ext w w' := by
  have h := Tryd.utf8_DecodeRuneInString s w hT.u8
  rw [decodeGo_L s h0, hd] at h
  exact h.mono fun e w' ⟨he, hb⟩ => ⟨he, But.of_below hb⟩
theorem brkL_le (l : Bs) : ∀ f n, n ≤ l.length → brkL l f n ≤ l.length
  | 0, n, h => h
  | f + 1, n, h => by
    rw [brkL]; split
    · exact brkL_le l f (n + 1) (by omega)
    · exact h
theorem brk_le (l : Bs) (h : l ≠ []) : brk l ≤ l.length := by
  have := brkL_le l 4 1 (List.length_pos_iff.2 h)
  unfold brk; split <;> omega
theorem oneL_le (r : Bs) : ∀ (l : List Bs) (b i : Nat), (oneL b i l r).2.1 ≤ max b r.length
  | [], b, i => by simp [oneL]; omega
  | x :: l, b, i => by
    have h1 := lcp_le_right x r
    rw [oneL]; split
    · show x.length ≤ _; omega
    · have := oneL_le r l (max b (lcp x r)) (i + 1); omega
theorem oneL_three (r : Bs) (h3 : ∀ x ∈ spells, 3 ≤ x.length) : ∀ (l : List Bs) (b i : Nat), (∀ x ∈ l, 3 ≤ x.length) → (oneL b i l r).2.2 = false → 3 ≤ (oneL b i l r).2.1
  | [], b, i, _, h => by simp [oneL] at h
  | x :: l, b, i, hl, h => by
    rw [oneL] at h ⊢; split at h
    · rw [if_pos (by assumption)]; exact hl x (by simp)
    · rw [if_neg (by assumption)]; exact oneL_three r h3 l _ _ (fun y hy => hl y (by simp [hy])) h
theorem spell_three (u : Nat) : 3 ≤ (spell u).length := by
  unfold spell hexS; split <;> simp
theorem hids_lt (i : Nat) : hids.getD i 0 < 128 := by
  rw [List.getD_eq_getElem?_getD]
  cases h : hids[i]? with
  | none => decide
  | some v =>
    have := List.mem_of_getElem? h
    simp [hids, hidsTo] at this
    simpa using this.1
theorem enc_one {r : Nat} (h : r < 128) : (Lib.encodeRune (r : Int)).length = 1 := by
  rw [Lib.encodeRune, Lib.encodeRuneZ_one (by omega) (by omega)]; rfl
/-- behind a step -/
theorem rel_step {RES : Bs × Nat × Bool} {acc l b' : Bs} {k f n' : Nat} {bad : Bool} (h : RES = (acc ++ (nameL f l).1, k + (nameL f l).2.1, (nameL f l).2.2)) (hf : f ≠ 0) (hs : nameStep l = some (b', n', bad)) :
    Hid (if bad then RES = (acc ++ b', k + n', true) else RES = ((acc ++ b') ++ (nameL (f - 1) (l.drop n')).1, (k + n') + (nameL (f - 1) (l.drop n')).2.1, (nameL (f - 1) (l.drop n')).2.2)) := by
  obtain ⟨f, rfl⟩ : ∃ m, f = m + 1 := ⟨f - 1, by omega⟩
  cases bad
  · rw [nameL_go hs] at h
    simp only [Hid, Bool.false_eq_true, if_false, Nat.add_sub_cancel, List.append_assoc, Nat.add_assoc] at h ⊢
    exact h
  · rw [nameL_bad hs] at h
    simpa [Hid] using h
theorem wrap64_small (x : Int) (h0 : 0 ≤ x) (h1 : x ≤ 140737488355328) : wrap64 x = x := by unfold wrap64; omega
theorem i64wrap_small (x : Int) (h0 : 0 ≤ x) (h1 : x ≤ 140737488355328) : IntKind.i64.wrap x = x := by simp [IntKind.wrap, IntKind.bits, IntKind.signed]; omega
def badOf (w : World) (g : Nat) : Bool := match w.cell? ⟨g, 2, none⟩ with | some (.bool b) => b | _ => false
theorem badOf_rd {w : World} {g p : Nat} {s : ByteArray} {b : Bool} (h : Rd w g s p b) : badOf w g = b := by simp [badOf, h.c2]
def meas (s : ByteArray) (g : Nat) (w : World) : Nat := 2 * (s.size - atOf w g) + (if badOf w g then 0 else 1)
theorem meas_rd {w : World} {g p : Nat} {s : ByteArray} {b : Bool} (h : Rd w g s p b) : meas s g w = 2 * (s.size - p) + (if b then 0 else 1) := by
  simp only [meas, badOf_rd h, h.atOf]

/-- what holds between two rounds -/
def Rel (w : World) (g p : Nat) (s : ByteArray) (RES : Bs × Nat × Bool) (wr : World) : Prop :=
  ∃ (k : Nat) (b : Bool) (acc : Bs) (f : Nat), p + k ≤ s.size ∧ Rd wr g s (p + k) b ∧ Lib.IsBuilder 73 5 w.heap.size w.heap.size (Lib.byteCells acc) wr ∧ But (· = g) w wr ∧ (b = false → acc.length ≤ k) ∧ (b = false → s.size ≤ p + k + f) ∧
      Hid (if b then RES = (acc, k, true) else RES = (acc ++ (nameL f ((bs s).drop (p + k))).1, k + (nameL f ((bs s).drop (p + k))).2.1, (nameL f ((bs s).drop (p + k))).2.2))
theorem round_end {w wr w5 : World} {g p k f n' : Nat} {s : ByteArray} {RES : Bs × Nat × Bool} {acc b' : Bs} {bad : Bool} (hk : p + k < s.size) (hf : s.size ≤ p + k + f) (hal : acc.length ≤ k) (hR : Rd wr g s (p + k) false)
    (HX : RES = (acc ++ (nameL f ((bs s).drop (p + k))).1, k + (nameL f ((bs s).drop (p + k))).2.1, (nameL f ((bs s).drop (p + k))).2.2)) (hst : nameStep ((bs s).drop (p + k)) = some (b', n', bad)) (hn : n' ≤ s.size - (p + k))
    (hgood : bad = false → b'.length ≤ n' ∧ 1 ≤ n') (hR5 : Rd w5 g s (p + k + n') bad) (hI5 : Lib.IsBuilder 73 5 w.heap.size w.heap.size (Lib.byteCells (acc ++ b')) w5) (hB5 : But (· = g) w w5) :
    Rel w g p s RES w5 ∧ meas s g w5 < meas s g wr := by
  have h1 := rel_step HX (by omega) hst
  rw [List.drop_drop, Nat.add_assoc p k n'] at h1
  refine ⟨⟨k + n', bad, acc ++ b', f - 1, by omega, by rw [← Nat.add_assoc]; exact hR5, hI5, hB5, fun h => by have := hgood h; rw [List.length_append]; omega, fun h => by have := hgood h; omega, h1⟩, ?_⟩
  rw [meas_rd hR5, meas_rd hR]
  cases bad
  · have := hgood rfl; simp; omega
  · simp; omega

end Nm
end Go.Proofs.YtlgagbglldehjaaDoor
