/- rows that a call owns, two at a time -/
import Derived.Test.YtlgagbglldehjaaDoorBase
import Derived.Maps.AppendAt
namespace Go.Proofs.YtlgagbglldehjaaDoor
set_option linter.unusedVariables false
set_option linter.unusedSimpArgs false
open Go Go.RowKit
namespace Ow
theorem own_keep {S : Nat → Prop} {w w' : World} {B : Nat} {e : TypeId} {v : Value} {n k : Nat} {xs : List Value} (h : w.ownsRow B e k v n xs) (hx : But S w w') (hs : ∀ g, v.ownBlock = some g → ¬ S g) : w'.ownsRow B e k v n xs := by
  refine ⟨h.1, ?_⟩
  rcases h.2 with hn | ⟨g, cap, cur, hv, hbg, hg, rest⟩
  · exact .inl hn
  · exact .inr ⟨g, cap, cur, hv, hbg, But.heap hx hg (hs g (by rw [hv]; rfl)), rest⟩
theorem own_lt {w : World} {B : Nat} {e : TypeId} {v : Value} {n k g : Nat} {xs : List Value} (h : w.ownsRow B e k v n xs) (hg : v.ownBlock = some g) : B ≤ g ∧ g < w.heap.size := by
  rcases h.2 with ⟨hn, _⟩ | ⟨g', cap, cur, hv, hbg, hh, rest⟩
  · rw [hn] at hg; cases hg
  · rw [hv] at hg
    obtain rfl : g' = g := by simpa [Value.ownBlock] using hg
    exact ⟨hbg, blk_lt hh⟩
theorem but_grown {w w' : World} {row : Option Nat} (h : w.grownBy w' row) : But (fun k => some k = row) w w' := ⟨h.os, h.tape, h.output, h.size, fun k hk hs => h.block k hk hs⟩
/-- two rows of the call's own -/
structure Two (e1 e2 : TypeId) (W : World) (B : Nat) (v1 : Value) (l1 : List Value) (v2 : Value) (l2 : List Value) : Prop where
  a : W.ownsRow B e1 1 v1 l1.length l1
  b : W.ownsRow B e2 1 v2 l2.length l2
  ne : ∀ g, v1.ownBlock = some g → v2.ownBlock ≠ some g
namespace Two
variable {e1 e2 : TypeId} {W W' : World} {B : Nat} {v1 v2 v' : Value} {l1 l2 l' : List Value}
theorem ext (h : Two e1 e2 W B v1 l1 v2 l2) (hx : Ext W W') : Two e1 e2 W' B v1 l1 v2 l2 := ⟨own_keep h.a hx fun _ _ h => h, own_keep h.b hx fun _ _ h => h, h.ne⟩
theorem growL (h : Two e1 e2 W B v1 l1 v2 l2) (hg : W.grownBy W' v1.ownBlock) (ho : W'.ownsRow B e1 1 v' l'.length l') (hv : v'.ownBlock = v1.ownBlock ∨ v'.ownBlock = some W.heap.size) : Two e1 e2 W' B v' l' v2 l2 := by
  refine ⟨ho, own_keep h.b (but_grown hg) (fun g h2 h1 => h.ne g h1.symm h2), fun g h1 h2 => ?_⟩
  rcases hv with hv | hv
  · exact h.ne g (hv ▸ h1) h2
  · have := (own_lt h.b h2).2
    rw [hv] at h1; simp at h1; omega
theorem growR (h : Two e1 e2 W B v1 l1 v2 l2) (hg : W.grownBy W' v2.ownBlock) (ho : W'.ownsRow B e2 1 v' l'.length l') (hv : v'.ownBlock = v2.ownBlock ∨ v'.ownBlock = some W.heap.size) : Two e1 e2 W' B v1 l1 v' l' := by
  refine ⟨own_keep h.a (but_grown hg) (fun g h2 h1 => h.ne g h2 h1.symm), ho, fun g h1 h2 => ?_⟩
  rcases hv with hv | hv
  · exact h.ne g h1 (hv ▸ h2)
  · have := (own_lt h.a h1).2
    rw [hv] at h2; simp at h2; omega
end Two
theorem ext_grown {w x y : World} {v : Value} {B k n : Nat} {e : TypeId} {xs : List Value} (h : Ext w x) (hg : x.grownBy y v.ownBlock) (ho : x.ownsRow B e k v n xs) (hB : w.heap.size ≤ B) : Ext w y :=
  h.then_new (but_grown hg) fun i hi hs => by have := (own_lt ho hs.symm).1; omega
/-- what a row reads as -/
theorem own_cells {w : World} {B : Nat} {e : TypeId} {v : Value} {n : Nat} {xs : List Value} (h : w.ownsRow B e 1 v n xs) (hn : 0 < n) :
    ∃ g cap, v = .slice (some ⟨g, 0, none⟩) n cap ∧ B ≤ g ∧ g < w.heap.size ∧ n ≤ cap ∧ ∀ i (hi : i < xs.length), w.cell? ⟨g, i, none⟩ = some xs[i] := by
  obtain ⟨hl, h⟩ := h
  rcases h with ⟨_, h0⟩ | ⟨g, cap, cur, hv, hbg, hg, hnc, hcm, hcur, htake⟩
  · omega
  · refine ⟨g, cap, hv, hbg, blk_lt hg, hnc, fun i hi => ?_⟩
    rw [blk_cell hg]
    subst htake
    rw [List.getElem_take, ← Array.getElem?_toList]
    exact List.getElem?_eq_getElem _
end Ow
end Go.Proofs.YtlgagbglldehjaaDoor
