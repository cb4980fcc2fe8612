/- results of which the first lies in a struct's cells, two more in slots -/
import Derived.Test.YtlgagbglldehjaaDoorSl
import Derived.Laws.Rows
namespace Go.Proofs.YtlgagbglldehjaaDoor
set_option linter.unusedVariables false
set_option linter.unusedSimpArgs false
open Go Go.RowKit
namespace Re
theorem results_cell3 {P : Program} {fn : Func} {p u v : Tmp} {ty : TypeId} (h : fn.results = #[.cell p ty, .tmp u, .tmp v]) (tmps : Array Value) (w : World) (g : Nat) (t : TypeId) (cs : Array Value) (fr : Nat × Nat) (d : TypeDesc)
    (hp : tmps.getD p undef = .pointer (some ⟨g, 0, none⟩)) (hg : w.heap[g]? = some (.cells cs t fr))
    (hu : P.underlying ty = some d) (hd : (match d with | .struct _ | .array _ _ => true | _ => false) = true) (hi : (P.info? ty).map (·.size) = some cs.size) :
    (results fn tmps).run P w = .ok (.tuple #[.agg cs, tmps.getD u undef, tmps.getD v undef]) w := by
  have hp' : tmps[p]?.getD undef = .pointer (some ⟨g, 0, none⟩) := by simpa using hp
  simp [results, h, hp', asAddr, run_loadVar_row w g t ty cs fr d hg hu hd hi, Sem.run_bind, Result.andThen]
theorem infoE : (Tryd.prog.info? 27).map (·.size) = some 6 := by kernel_rfl
/-- the end of a function of that kind -/
theorem end_read {Q : Ending → World → Prop} {a : Act} {W : World} {rb : Nat} {v3 v4 : Value} {cs : Array Value} (hd : a.defers = []) (h2 : a.tmps.getD 2 undef = .pointer (some ⟨rb, 0, none⟩)) (h3 : a.tmps.getD 3 undef = v3) (h4 : a.tmps.getD 4 undef = v4)
    (hz : W.heap[rb]? = some (.cells cs 27 (0, 0))) (hcs : cs.size = 6) (hQ : Q (.returned (.tuple #[.agg cs, v3, v4])) W) : bodyPost Tryd.prog Tryd.f12 Q .ret a W := by
  have h := results_cell3 (P := Tryd.prog) (fn := Tryd.f12) (p := 2) (u := 3) (v := 4) (ty := 27) rfl a.tmps W rb _ cs (0, 0) _ h2 hz Tryd.underlying27 rfl (by rw [infoE, hcs])
  rw [h3, h4] at h
  exact bodyPost_ret h hd hQ
end Re
end Go.Proofs.YtlgagbglldehjaaDoor
