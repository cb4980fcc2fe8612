/- A request that is handed over by value: opened to its five fields, and shut again. -/
import Derived.Test.YtlgagbglldehjaaDoorRw
import Derived.Lib.SmallJoins
namespace Go.Proofs.YtlgagbglldehjaaDoor.Rw
set_option linter.unusedVariables false
set_option linter.unusedSimpArgs false
open Go Go.RowKit Go.ChangeShapes Go.WideShapes Go.Joins
open Go.ChangeMaps (open_string shut_string)
section
variable {H : Type} {enc : TypeId × Value → H} {w : World} {base : Nat} {spare : Nat → Bool} {held : Bool}
theorem five_of {α : Type} {cs : Array α} (h : cs.size = 5) : ∃ a b c d e, cs = #[a, b, c, d, e] := by
  obtain ⟨l⟩ := cs
  match l, h with
  | [a, b, c, d, e], _ => exact ⟨a, b, c, d, e, rfl⟩
theorem req_cells : Tryd.prog.cellsOf 24 = 5 := by kernel_rfl
theorem one_int : Tryd.prog.cellsOf 3 = 1 := by kernel_rfl
theorem one_str : Tryd.prog.cellsOf 9 = 1 := by kernel_rfl
theorem one_u64 : Tryd.prog.cellsOf 22 = 1 := by kernel_rfl
theorem u64_max : IntKind.max .u64 = 18446744073709551615 := by kernel_rfl
theorem u64_min : IntKind.min .u64 = 0 := by kernel_rfl
theorem u64_wf {n : Int} (h : (Lit.int .u64 n).wf = true) : ∃ m : Nat, n = m ∧ m < 18446744073709551616 := by
  simp only [Lit.wf, u64_max, u64_min, Bool.and_eq_true, decide_eq_true_eq] at h
  exact ⟨n.toNat, by omega, by omega⟩
set_option maxRecDepth 100000 in
theorem open_req {r : Reach} {b0 : Nat} {v : Value} {d : DataW H} {p : List MemPlace} (hv : Value.okWide Tryd.prog w r b0 24 v) (h : DataW.Trod enc Tryd.prog w base spare held 24 v d p) :
    ∃ (kind : Int) (name hold dest : ByteArray) (ticks : Int), v = .agg #[.int .i64 kind, .string name, .string hold, .string dest, .int .u64 ticks] ∧ d = .agg [.lit (.int .i64 kind), .lit (.string name.data.toList), .lit (.string hold.data.toList), .lit (.string dest.data.toList), .lit (.int .u64 ticks)] ∧ p = [] ∧
      (Lit.int .i64 kind).wf = true ∧ name.size ≤ maxLen ∧ hold.size ≤ maxLen ∧ dest.size ≤ maxLen ∧ (Lit.int .u64 ticks).wf = true := by
  obtain ⟨cs, rfl, hsz⟩ := okWide_struct Tryd.underlying24 hv
  obtain ⟨a0, a1, a2, a3, a4, rfl⟩ := five_of (hsz.trans req_cells)
  obtain ⟨fuel, hf⟩ := h
  obtain ⟨xs, n, -, hx, -, hlen, hg⟩ := DataW.trod_struct Tryd.underlying24 hf
  have g0 : DataW.trod enc Tryd.prog w base spare held n 3 (([a0, a1, a2, a3, a4].drop 0).take (Tryd.prog.cellsOf 3)) = xs[0]? := hg 0 _ rfl
  have g1 : DataW.trod enc Tryd.prog w base spare held n 9 (([a0, a1, a2, a3, a4].drop 1).take (Tryd.prog.cellsOf 9)) = xs[1]? := hg 1 _ rfl
  have g2 : DataW.trod enc Tryd.prog w base spare held n 9 (([a0, a1, a2, a3, a4].drop 2).take (Tryd.prog.cellsOf 9)) = xs[2]? := hg 2 _ rfl
  have g3 : DataW.trod enc Tryd.prog w base spare held n 9 (([a0, a1, a2, a3, a4].drop 3).take (Tryd.prog.cellsOf 9)) = xs[3]? := hg 3 _ rfl
  have g4 : DataW.trod enc Tryd.prog w base spare held n 22 (([a0, a1, a2, a3, a4].drop 4).take (Tryd.prog.cellsOf 22)) = xs[4]? := hg 4 _ rfl
  rw [one_int] at g0
  rw [one_str] at g1 g2 g3
  rw [one_u64] at g4
  match xs, hlen with
  | [y0, y1, y2, y3, y4], _ =>
    obtain ⟨kind, e0, x0, w0⟩ := DataW.trod_int (Tryd.underlying3) (x := y0) g0
    obtain ⟨name, e1, x1, w1⟩ := DataW.trod_string (Tryd.underlying9) (x := y1) g1
    obtain ⟨hold, e2, x2, w2⟩ := DataW.trod_string (Tryd.underlying9) (x := y2) g2
    obtain ⟨dest, e3, x3, w3⟩ := DataW.trod_string (Tryd.underlying9) (x := y3) g3
    obtain ⟨ticks, e4, x4, w4⟩ := DataW.trod_int (Tryd.underlying22) (x := y4) g4
    simp at e0 e1 e2 e3 e4
    subst e0 e1 e2 e3 e4 x0 x1 x2 x3 x4
    simp only [Prod.mk.injEq] at hx
    exact ⟨kind, name, hold, dest, ticks, rfl, hx.1, hx.2, w0, w1, w2, w3, w4⟩
set_option maxRecDepth 100000 in
theorem shut_req {kind ticks : Int} {name hold dest : ByteArray} (w0 : (Lit.int .i64 kind).wf = true) (w1 : name.size ≤ maxLen) (w2 : hold.size ≤ maxLen) (w3 : dest.size ≤ maxLen) (w4 : (Lit.int .u64 ticks).wf = true) :
    DataW.Trod enc Tryd.prog w base spare held 24 (.agg #[.int .i64 kind, .string name, .string hold, .string dest, .int .u64 ticks]) (.agg [.lit (.int .i64 kind), .lit (.string name.data.toList), .lit (.string hold.data.toList), .lit (.string dest.data.toList), .lit (.int .u64 ticks)]) [] := by
  have key : ∀ {t : TypeId} {v : Value} {d : DataW H}, DataW.Trod enc Tryd.prog w base spare held t v d [] → v.cells.toList = [v] → ∃ n, DataW.trod enc Tryd.prog w base spare held n t [v] = some (d, []) := fun h h1 => by
    obtain ⟨n, hn⟩ := h
    exact ⟨n, by rw [← h1]; exact hn⟩
  obtain ⟨n0, k0⟩ := key (shut_int Tryd.underlying3 w0) rfl
  obtain ⟨n1, k1⟩ := key (shut_string Tryd.underlying9 w1) rfl
  obtain ⟨n2, k2⟩ := key (shut_string Tryd.underlying9 w2) rfl
  obtain ⟨n3, k3⟩ := key (shut_string Tryd.underlying9 w3) rfl
  obtain ⟨n4, k4⟩ := key (shut_int Tryd.underlying22 w4) rfl
  have l0 := DataW.trod_le (show n0 ≤ n0 + n1 + n2 + n3 + n4 by omega) k0
  have l1 := DataW.trod_le (show n1 ≤ n0 + n1 + n2 + n3 + n4 by omega) k1
  have l2 := DataW.trod_le (show n2 ≤ n0 + n1 + n2 + n3 + n4 by omega) k2
  have l3 := DataW.trod_le (show n3 ≤ n0 + n1 + n2 + n3 + n4 by omega) k3
  have l4 := DataW.trod_le (show n4 ≤ n0 + n1 + n2 + n3 + n4 by omega) k4
  have ts := trod_struct_mk (enc := enc) (w := w) (base := base) (spare := spare) (held := held) (n := n0 + n1 + n2 + n3 + n4) (cs := [.int .i64 kind, .string name, .string hold, .string dest, .int .u64 ticks])
    (xs := [(.lit (.int .i64 kind), []), (.lit (.string name.data.toList), []), (.lit (.string hold.data.toList), []), (.lit (.string dest.data.toList), []), (.lit (.int .u64 ticks), [])]) Tryd.underlying24 req_cells.symm (by
      simp only [List.mapM_cons, List.mapM_nil, one_int, one_str, one_u64, List.drop_succ_cons, List.drop_zero, List.take_succ_cons, List.take_zero, l0, l1, l2, l3, l4]
      rfl)
  exact ⟨_, by simpa [Value.cells] using ts⟩
end
end Go.Proofs.YtlgagbglldehjaaDoor.Rw
