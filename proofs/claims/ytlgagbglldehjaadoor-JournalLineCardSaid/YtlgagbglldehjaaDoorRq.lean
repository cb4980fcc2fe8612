/- journal.Read: how far its parts go: plain. -/
import Derived.Test.YtlgagbglldehjaaDoorRp
namespace Go.Proofs.YtlgagbglldehjaaDoor
set_option linter.unusedVariables false
set_option linter.unusedSimpArgs false
open Go Go.RowKit Pj J1 St Es Rf Rp
namespace Rp
theorem numL_le (z : Bool) : ∀ (l : Bs) (k n : Nat), (numL z k n l).2.1 ≤ k + l.length
  | [], k, n => by simp [numL]
  | c :: l, k, n => by
    rw [numL]; split
    · split
      · simp
      · have := numL_le z l (k + 1) (10 * n + (c.toNat - 48)); rw [List.length_cons]; omega
    · simp
theorem numR_le (l : Bs) : (numR l).2.1 ≤ l.length := by have := numL_le (zeroB l) l 0 0; unfold numR; omega
theorem oneR_le (l : List Bs) (r : Bs) : (oneR l r).2.1 ≤ r.length := by have := Nm.oneL_le r l 0 0; unfold oneR; omega
theorem oneB_le (b : Bool) (l : List Bs) (r : Bs) : (oneB b l r).2.1 ≤ r.length := by
  unfold oneB; split
  · simp
  · exact oneR_le l r
theorem holL_le : ∀ (l : Bs) (k : Nat), k ≤ 32 → (holL k l).1 ≤ k + l.length
  | [], k, _ => by simp [holL]
  | c :: l, k, hk => by
    rw [holL]; split
    · split
      · simp; omega
      · have := holL_le l (k + 1) (by omega); rw [List.length_cons]; omega
    · simp
theorem holB_le (b : Bool) (r : Bs) : (holB b r).1 ≤ r.length := by
  unfold holB; split
  · simp
  · have := holL_le r 0 (by omega); omega
theorem nameStep_le {l b : Bs} {n : Nat} {bad : Bool} (h : Nm.nameStep l = some (b, n, bad)) : n ≤ l.length := by
  unfold Nm.nameStep at h
  split at h
  · cases h
  · rename_i hne
    have hne' : l ≠ [] := fun e => hne (.inl e)
    split at h
    · simp only [Option.some.injEq, Prod.mk.injEq] at h
      have := oneR_le spells l; omega
    · split at h
      · simp only [Option.some.injEq, Prod.mk.injEq] at h
        have := Nm.brk_le l hne'; omega
      · split at h
        · simp only [Option.some.injEq, Prod.mk.injEq] at h; omega
        · simp only [Option.some.injEq, Prod.mk.injEq] at h
          have := Lib.decodeL_le l hne'; omega
theorem nameL_le : ∀ (f : Nat) (l : Bs), (Nm.nameL f l).2.1 ≤ l.length
  | 0, l => by simp [Nm.nameL]
  | f + 1, l => by
    cases hs : Nm.nameStep l with
    | none => rw [Nm.nameL_end hs]; simp
    | some r =>
      obtain ⟨b, n, bad⟩ := r
      have hn := nameStep_le hs
      cases bad
      · rw [Nm.nameL_go hs]
        have := nameL_le f (l.drop n)
        rw [List.length_drop] at this
        simp only; omega
      · rw [Nm.nameL_bad hs]; exact hn
theorem nameR_le (l : Bs) : (nameR l).2.1 ≤ l.length := nameL_le _ _
theorem oneL_bad0 (r : Bs) : ∀ (l : List Bs) (b i : Nat), (oneL b i l r).2.2 = true → (oneL b i l r).1 = 0
  | [], b, i, _ => rfl
  | x :: l, b, i, h => by
    rw [oneL] at h ⊢; split at h
    · cases h
    · rw [if_neg (by assumption)]; exact oneL_bad0 r l _ _ h
theorem oneB_bad0 {b : Bool} {l : List Bs} {r : Bs} (h : (oneB b l r).2.2 = true) : (oneB b l r).1 = 0 := by
  unfold oneB at h ⊢; split at h
  · rw [if_pos (by assumption)]
  · rw [if_neg (by assumption)]; exact oneL_bad0 r l 0 0 h
theorem oneB_lt (b : Bool) (l : List Bs) (r : Bs) : (oneB b l r).1 < max 1 l.length := by
  unfold oneB; split
  · show 0 < _; omega
  · have := oneL_lt r l 0 0; unfold oneR; omega
theorem blk_new2 (w : World) (o1 o2 : Obj) : ((w.alloc o1).alloc o2).heap[w.heap.size + 1]? = some o2 := by
  have h : (w.alloc o1).heap.size = w.heap.size + 1 := by simp
  rw [← h]; exact blk_new _ _
theorem kindL_len : kindL.length = 6 := rfl
theorem kindL_map : kindL.map bs = [1, 2, 3, 4, 5, 6].map fun k : Nat => wordS (k : Int) ++ [32] := rfl
theorem kindB_eq (k : Nat) : (⟨(wordS (k : Int)).toArray⟩ : ByteArray) ++ ⟨#[32]⟩ = kindB k := bs_ext (by simp [bs, kindB, ByteArray.toList_data_append])
theorem kindL_take {k : Nat} (h : k < 6) : (kindL.take (k + 1)).map Value.string = (kindL.take k).map Value.string ++ [.string (kindB (k + 1))] := by
  have h1 : ∀ i : Fin 6, (kindL.take (i.1 + 1)).map Value.string = (kindL.take i.1).map Value.string ++ [.string (kindB (i.1 + 1))] := by
    intro i
    match i with
    | 0 => rfl
    | 1 => rfl
    | 2 => rfl
    | 3 => rfl
    | 4 => rfl
    | 5 => rfl
  exact h1 ⟨k, h⟩
theorem wordS_len (k : Int) : (wordS k).length ≤ 8 := by
  unfold wordS; repeat (split; · simp)
  simp
end Rp
end Go.Proofs.YtlgagbglldehjaaDoor
