/- journal.Read: what its walks share. -/
import Derived.Test.YtlgagbglldehjaaDoorRq
import Derived.Test.YtlgagbglldehjaaDoorSl
import Derived.Test.YtlgagbglldehjaaDoorRe
namespace Go.Proofs.YtlgagbglldehjaaDoor
set_option linter.unusedVariables false
set_option linter.unusedSimpArgs false
open Go Go.RowKit Pj J1 St Es Rf Rp
namespace Rr
def zeroE (w : World) (b : Nat) : Prop := Six w b 27 (.int .u64 0) (.int .i64 0) (.string ⟨#[]⟩) (.string ⟨#[]⟩) (.string ⟨#[]⟩) (.int .u64 0)

/-- what holds of a reading call's own things: the reader at g, the answer's cells at rb, the entry under way at eb -/
structure Inv (w W : World) (g rb eb p : Nat) (s : ByteArray) (bad : Bool) (v0 v1 v2 v3 v4 v5 : Value) : Prop where
  rd : Rd W g s p bad
  z : zeroE W rb
  e : Six W eb 27 v0 v1 v2 v3 v4 v5
  x : Ext w W
  lg : w.heap.size ≤ g
  lr : rb ≠ g
  le : eb ≠ g
  ler : eb ≠ rb
  lew : w.heap.size ≤ eb
namespace Inv
variable {w W W' : World} {g rb eb p p' : Nat} {s : ByteArray} {bad bad' : Bool} {v0 v1 v2 v3 v4 v5 v : Value}
theorem but (h : Inv w W g rb eb p s bad v0 v1 v2 v3 v4 v5) (hb : But (· = g) W W') (hr : Rd W' g s p' bad') : Inv w W' g rb eb p' s bad' v0 v1 v2 v3 v4 v5 :=
  ⟨hr, But.heap hb h.z h.lr, But.heap hb h.e h.le, h.x.then_new hb (fun i hi e => by have e1 : i = g := e; have := h.lg; omega), h.lg, h.lr, h.le, h.ler, h.lew⟩
theorem ext (h : Inv w W g rb eb p s bad v0 v1 v2 v3 v4 v5) (hb : Ext W W') : Inv w W' g rb eb p s bad v0 v1 v2 v3 v4 v5 :=
  ⟨But.heap hb h.rd id, But.heap hb h.z id, But.heap hb h.e id, h.x.trans hb, h.lg, h.lr, h.le, h.ler, h.lew⟩
theorem tabs (h : Inv w W g rb eb p s bad v0 v1 v2 v3 v4 v5) (hT : Tabs w) : Tabs W := hT.ext h.x
theorem put (h : Inv w W g rb eb p s bad v0 v1 v2 v3 v4 v5) (i : Nat) (v : Value) {u0 u1 u2 u3 u4 u5 : Value} (hu : (#[v0, v1, v2, v3, v4, v5] : Array Value).setIfInBounds i v = #[u0, u1, u2, u3, u4, u5]) :
    Inv w (W.setCell ⟨eb, i, none⟩ v) g rb eb p s bad u0 u1 u2 u3 u4 u5 :=
  ⟨(blk_other h.rd (fun e => h.le e.symm) _), (blk_other h.z (fun e => h.ler e.symm) _), (blk_set h.e v).trans (by rw [hu]), h.x.setCell (p := ⟨eb, i, none⟩) (fun hl => by have h1 : eb < w.heap.size := hl; have := h.lew; omega) v, h.lg, h.lr, h.le, h.ler, h.lew⟩
end Inv
theorem but_ext {w W W' : World} {g : Nat} (h : Ext w W) (hb : But (· = g) W W') (hg : w.heap.size ≤ g) : Ext w W' := h.then_new hb fun i hi e => by have e1 : i = g := e; omega
/-- what is answered -/
def outV : Option Ent × Nat → Value
  | (none, p) => .tuple #[.agg #[.int .u64 0, .int .i64 0, .string ⟨#[]⟩, .string ⟨#[]⟩, .string ⟨#[]⟩, .int .u64 0], .int .i64 p, .int .i64 80]
  | (some e, _) => .tuple #[.agg #[.int .u64 e.clock, .int .i64 e.kind, .string ⟨e.name.toArray⟩, .string ⟨e.hold.toArray⟩, .string ⟨e.dest.toArray⟩, .int .u64 e.ticks], .int .i64 0, .int .i64 0]
theorem six_fz {W : World} {b : Nat} {t : TypeId} {v0 v1 v2 v3 v4 v5 : Value} (h : Six W b t v0 v1 v2 v3 v4 v5) : W.frozen? ⟨b, 0, none⟩ = false ∧ W.frozen? ⟨b, 1, none⟩ = false ∧ W.frozen? ⟨b, 2, none⟩ = false ∧ W.frozen? ⟨b, 3, none⟩ = false ∧ W.frozen? ⟨b, 4, none⟩ = false ∧ W.frozen? ⟨b, 5, none⟩ = false :=
  ⟨h.fz 0, h.fz 1, h.fz 2, h.fz 3, h.fz 4, h.fz 5⟩
theorem six_c {W : World} {b : Nat} {t : TypeId} {v0 v1 v2 v3 v4 v5 : Value} (h : Six W b t v0 v1 v2 v3 v4 v5) : W.cell? ⟨b, 0, none⟩ = some v0 ∧ W.cell? ⟨b, 1, none⟩ = some v1 ∧ W.cell? ⟨b, 2, none⟩ = some v2 ∧ W.cell? ⟨b, 3, none⟩ = some v3 ∧ W.cell? ⟨b, 4, none⟩ = some v4 ∧ W.cell? ⟨b, 5, none⟩ = some v5 :=
  ⟨h.c0, h.c1, h.c2, h.c3, h.c4, h.c5⟩
abbrev put6 (W : World) (b : Nat) (v0 v1 v2 v3 v4 v5 : Value) : World := (((((W.setCell ⟨b, 0, none⟩ v0).setCell ⟨b, 1, none⟩ v1).setCell ⟨b, 2, none⟩ v2).setCell ⟨b, 3, none⟩ v3).setCell ⟨b, 4, none⟩ v4).setCell ⟨b, 5, none⟩ v5
theorem put6_six {W : World} {b : Nat} {t : TypeId} {u0 u1 u2 u3 u4 u5 : Value} (h : Six W b t u0 u1 u2 u3 u4 u5) (v0 v1 v2 v3 v4 v5 : Value) : (put6 W b v0 v1 v2 v3 v4 v5).heap[b]? = some (.cells #[v0, v1, v2, v3, v4, v5] t (0, 0)) :=
  (blk_set (blk_set (blk_set (blk_set (blk_set (blk_set h v0) v1) v2) v3) v4) v5).trans rfl
theorem put6_ext {w W : World} {b : Nat} (h : Ext w W) (hb : w.heap.size ≤ b) (v0 v1 v2 v3 v4 v5 : Value) : Ext w (put6 W b v0 v1 v2 v3 v4 v5) := by
  have k : ∀ {X : World} (i : Nat) (v : Value), Ext w X → Ext w (X.setCell ⟨b, i, none⟩ v) := fun i v hx => hx.setCell (p := ⟨b, i, none⟩) (fun hl => by have h1 : b < w.heap.size := hl; omega) v
  exact k 5 v5 (k 4 v4 (k 3 v3 (k 2 v2 (k 1 v1 (k 0 v0 h)))))
theorem zero_drew {W : World} {b : Nat} (h : zeroE W b) : zeroE W.drew b := h
theorem end_world {w W : World} {b : Nat} (hx : Ext w W) (hz : zeroE W b) (hb : w.heap.size ≤ b) : zeroE (put6 W b (.int .u64 0) (.int .i64 0) (.string ⟨#[]⟩) (.string ⟨#[]⟩) (.string ⟨#[]⟩) (.int .u64 0)).drew b ∧ Ext w (put6 W b (.int .u64 0) (.int .i64 0) (.string ⟨#[]⟩) (.string ⟨#[]⟩) (.string ⟨#[]⟩) (.int .u64 0)).drew := by
  have h1 : zeroE (put6 W b (.int .u64 0) (.int .i64 0) (.string ⟨#[]⟩) (.string ⟨#[]⟩) (.string ⟨#[]⟩) (.int .u64 0)) b := put6_six hz _ _ _ _ _ _
  have h2 := put6_ext hx hb (.int .u64 0) (.int .i64 0) (.string ⟨#[]⟩) (.string ⟨#[]⟩) (.string ⟨#[]⟩) (.int .u64 0)
  generalize put6 W b _ _ _ _ _ _ = W2 at h1 h2 ⊢
  exact ⟨zero_drew h1, h2.drew⟩
/-- the kinds' numbers, side by side -/
def Kinds (W : World) (kb : Nat) : Prop := ∀ i, i < 6 → W.cell? ⟨kb, i, none⟩ = some (.int .i64 ((i : Int) + 1))
theorem Kinds.but {S : Nat → Prop} {W W' : World} {kb : Nat} (h : Kinds W kb) (hb : But S W W') (hs : ¬ S kb) : Kinds W' kb := fun i hi => hb.cell (h i hi) hs

/-- which kind's word stands there, how many bytes are alike, whether it is none -/
def kOf (l : Bs) : Nat × Nat × Bool := oneB (oneB (numR l).2.2 [[32]] (l.drop (numR l).2.1)).2.2 (kindL.map bs) (l.drop ((numR l).2.1 + (oneB (numR l).2.2 [[32]] (l.drop (numR l).2.1)).2.1))
theorem name_any (w : World) (g p : Nat) (s : ByteArray) (h : Rd w g s p false) (hp : p ≤ s.size) (hm : s.size + 4 ≤ 140737488355328) (hT : Tabs w) (hg : Tryd.prog.globals.size ≤ g) :
    Calls Tryd.prog 26 #[.pointer (some ⟨g, 0, none⟩)] w fun e w' => (∃ r, e = .returned (.string r) ∧ ((nameR ((bs s).drop p)).2.2 = false → bs r = (nameR ((bs s).drop p)).1)) ∧
      Rd w' g s (p + (nameR ((bs s).drop p)).2.1) (nameR ((bs s).drop p)).2.2 ∧ But (· = g) w w' := by
  have h1 := Nm.name_c w g p s h hp hm hT hg
  have h2 : Nm.nameL s.size ((bs s).drop p) = Nm.nameL ((bs s).drop p).length ((bs s).drop p) := nameL_fuel _ _ (Nat.le_refl _) _ (by rw [List.length_drop, bs_len]; omega)
  rw [h2] at h1
  refine h1.mono ?_
  rintro e w' ⟨⟨r, he, hr⟩, hR, hB⟩
  refine ⟨⟨r, he, fun hb => hr ?_⟩, hR, hB⟩
  simp only [nameR, Bool.or_eq_false_iff] at hb
  exact hb.1
theorem row_one (W : World) (n : Nat) (t : ByteArray) {e : TypeId} (h : W.heap.size = n) : RowS (W.alloc (.cells #[.string t] e)) n [t] := by
  subst h
  intro i hi
  simp only [List.length_cons, List.length_nil] at hi
  obtain rfl : i = 0 := by omega
  simp
theorem str_bs {r : ByteArray} {l : Bs} (h : bs r = l) : (⟨l.toArray⟩ : ByteArray) = r := by subst h; rfl
end Rr
end Go.Proofs.YtlgagbglldehjaaDoor
