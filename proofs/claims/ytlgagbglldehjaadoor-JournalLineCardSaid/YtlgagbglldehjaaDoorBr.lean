/- strings.Builder's WriteRune, at a builder that the call itself has made. -/
import Derived.Test.YtlgagbglldehjaaDoorBu
import Derived.Test.YtlgagbglldehjaaDoorShelf
namespace Go.Proofs.YtlgagbglldehjaaDoor
set_option linter.unusedVariables false
set_option linter.unusedSimpArgs false
open Go Go.RowKit
namespace Bu
set_option maxHeartbeats 2000000 in
set_option maxRecDepth 100000 in
theorem WriteRune_c (B b : Nat) (l : List Value) (r : Int) (hr0 : -2147483648 ≤ r) (hr1 : r ≤ 2147483647) (w : World) (h : Lib.IsBuilder TB TE B b l w) (hlen : l.length + 4 ≤ 140737488355328) (hBw : B ≤ w.heap.size) :
    Calls Tryd.prog 35 #[.pointer (some ⟨b, 0, none⟩), .int .i32 r] w fun e w' => (∃ v, e = .returned v) ∧ Lib.IsBuilder TB TE B b (l ++ Lib.runeCells r) w' ∧ BK TE B b w w' := by
  go_enter Tryd.func35, Tryd.ntmps35
  go_wp2_with (go_at_call 57; refine (copyCheck_c B b l _ h).mono ?_)
  rintro e w1 ⟨rfl, h1, hb1⟩
  obtain ⟨hB, v, hbk, hown, hne⟩ := h1
  obtain ⟨ao, cap, rfl⟩ : ∃ ao cap, v = .slice ao l.length cap := by
    rcases hown.2 with ⟨hv, h0⟩ | ⟨g, cap, cur, hv, _⟩
    · exact ⟨none, 0, by rw [hv, h0]⟩
    · exact ⟨_, _, hv⟩
  have c0 : w1.cell? ⟨b, 0, none⟩ = some (.pointer (some ⟨b, 0, none⟩)) := by rw [Lib.cell_of_heap hbk]; rfl
  have c1 : w1.cell? ⟨b, 1, none⟩ = some (.slice ao l.length cap) := by rw [Lib.cell_of_heap hbk]; rfl
  go_wp2_with (go_at_call 59; refine (Tryd.utf8_AppendRune_plain B _ _ l r hr0 hr1 _ hown hlen (Nat.le_trans hBw hb1.size)).mono ?_)
  rintro e w2 ⟨v', rfl, hown', o, hgrow⟩
  have hlt : b < w1.heap.size := blk_lt hbk
  have hb2 : w2.heap[b]? = some (.cells #[.pointer (some ⟨b, 0, none⟩), .slice ao l.length cap] TB (0, 0)) := by
    rw [hgrow.block b (by simp; omega) (fun e => hne e.symm)]
    exact blk_alloc hbk o
  have hb3 : BK TE B b w w2 := BK.trans hb1 ((But.refl _ _).alloc o |>.grown hgrow fun k hk _ => by
    obtain ⟨_, h2⟩ := hown
    rcases h2 with ⟨h2, _⟩ | ⟨g, cap, cur, h2, hB, hc, _⟩
    · rw [h2] at hk; simp [Value.ownBlock] at hk
    · rw [h2] at hk; simp [Value.ownBlock] at hk; subst hk
      exact ⟨hB, .inr ⟨_, _, hc⟩⟩)
  have hn : l.length + (Lib.runeCells r).length = (l ++ Lib.runeCells r).length := by simp
  obtain ⟨ao', n', cap', rfl⟩ : ∃ ao n' cap, v' = .slice ao n' cap := by
    rcases hown'.2 with ⟨hv, _⟩ | ⟨g, cap, cur, hv, _⟩
    · exact ⟨_, _, _, hv⟩
    · exact ⟨_, _, _, hv⟩
  have d0 : w2.cell? ⟨b, 0, none⟩ = some (.pointer (some ⟨b, 0, none⟩)) := by rw [Lib.cell_of_heap hb2]; rfl
  have d1 : w2.cell? ⟨b, 1, none⟩ = some (.slice ao l.length cap) := by rw [Lib.cell_of_heap hb2]; rfl
  have f1 : w2.frozen? ⟨b, 1, none⟩ = false := Lib.frozen_of_heap hb2 1
  rw [hn] at hown'
  clear hn
  go_wp2
  go_ret2
  refine ⟨⟨_, rfl⟩, .inr ?_, ?_⟩
  · exact Lib.BuilderAt.put (T := TB) (e := TE) hB hb2 (bs' := l ++ Lib.runeCells r) hown' (by decide)
  · exact BK.trans hb3 ((But.refl _ _).setCell (fun _ => ⟨hB, .inl rfl⟩) _)
end Bu
end Go.Proofs.YtlgagbglldehjaaDoor
