/- journal.quoted. -/
import Derived.Test.YtlgagbglldehjaaDoorSy
import Derived.Test.YtlgagbglldehjaaDoorBr
import Derived.Test.YtlgagbglldehjaaDoorJ1
import Derived.Lib.OthersKept
namespace Go.Proofs.YtlgagbglldehjaaDoor
set_option linter.unusedVariables false
set_option linter.unusedSimpArgs false
open Go Go.RowKit Pj J1
namespace St
/-- what changes only things that are no cells leaves a builder -/
theorem ownsRow_but {S : Nat → Prop} {w w' : World} {B : Nat} {e : TypeId} {v : Value} {n : Nat} {xs : List Value} (h : w.ownsRow B e 1 v n xs) (hx : But S w w') (hs : ∀ k, S k → ∀ c t f, w.heap[k]? ≠ some (.cells c t f)) : w'.ownsRow B e 1 v n xs := by
  refine ⟨h.1, ?_⟩
  rcases h.2 with hn | ⟨g, cap, cur, hv, hbg, hg, rest⟩
  · exact .inl hn
  · exact .inr ⟨g, cap, cur, hv, hbg, But.heap hx hg (fun hS => hs g hS _ _ _ hg), rest⟩
theorem builderAt_but {S : Nat → Prop} {w w' : World} {T e : TypeId} {B b : Nat} {p : Value} {l : List Value} (h : Lib.BuilderAt T e B b p l w) (hx : But S w w') (hs : ∀ k, S k → ∀ c t f, w.heap[k]? ≠ some (.cells c t f)) : Lib.BuilderAt T e B b p l w' := by
  obtain ⟨hB, v, hb, hown, hne⟩ := h
  exact ⟨hB, v, But.heap hx hb (fun hS => hs b hS _ _ _ hb), ownsRow_but hown hx hs, hne⟩
theorem isB_but {S : Nat → Prop} {w w' : World} {T e : TypeId} {B b : Nat} {l : List Value} (h : Lib.IsBuilder T e B b l w) (hx : But S w w') (hs : ∀ k, S k → ∀ c t f, w.heap[k]? ≠ some (.cells c t f)) : Lib.IsBuilder T e B b l w' :=
  h.imp (builderAt_but · hx hs) (builderAt_but · hx hs)
theorem isB_ext {w w' : World} {T e : TypeId} {B b : Nat} {l : List Value} (h : Lib.IsBuilder T e B b l w) (hx : Ext w w') : Lib.IsBuilder T e B b l w' := isB_but h hx fun _ h => h.elim
theorem iterAt_but (w : World) (k : Nat) (s : ByteArray) (pos : Nat) : But (· = k) w (w.iterAt k s pos) :=
  ⟨rfl, rfl, rfl, by rw [Lib.iterAt_size]; exact Nat.le_refl _, fun i _ hi => Lib.iterAt_other w k i s pos hi⟩
theorem isB_iter {w : World} {T e : TypeId} {B b : Nat} {l : List Value} (h : Lib.IsBuilder T e B b l w) {k : Nat} {s : ByteArray} {pos : Nat} (hk : w.heap[k]? = some (.stringIter s pos)) (pos' : Nat) : Lib.IsBuilder T e B b l (w.iterAt k s pos') :=
  isB_but h (iterAt_but w k s pos') (by rintro i rfl c t f hc; rw [hk] at hc; cases hc)
/-- .. and of the call's own alone -/
theorem iterAt_ext {w x : World} (h : Ext w x) {k : Nat} (hk : w.heap.size ≤ k) (s : ByteArray) (pos : Nat) : Ext w (x.iterAt k s pos) :=
  h.then_new (iterAt_but x k s pos) fun i hi e => by omega

theorem width_pos (s : ByteArray) (pos : Nat) (h : pos < s.size) : 1 ≤ (Utf8.decode s pos).2 := by
  by_cases ha : (s[pos]'h).toNat < 128
  · rw [decode_ascii s pos h ha]
    exact Nat.le_refl _
  · exact (decode_high s pos h (by omega)).2
theorem quoteFrom_end (s : ByteArray) (fuel pos : Nat) (h : ¬ pos < s.size) : quoteFrom s fuel pos = [] := by
  cases fuel with
  | zero => rfl
  | succ f => simp [quoteFrom, h]
theorem hidden_lt {r : Nat} (h : hiddenB (r : Int) = true) : r < 128 := by
  simp [hiddenB] at h
  omega
theorem quoteR_len (r : Nat) : (quoteR r).length ≤ 4 := by
  unfold quoteR
  split
  · exact spell_len r
  · have := (Lib.runeCells_le (r : Int)).2
    rwa [Lib.runeCells_length] at this

set_option maxHeartbeats 1000000 in
set_option maxRecDepth 100000 in
theorem quoted_c (s : ByteArray) (w : World) (hs : s.size ≤ 35184372088832) (hT : Tabs w) :
    Calls Tryd.prog 18 #[.string s] w fun e w' => e = .returned (.string ⟨(quoteS s).toArray⟩) ∧ Ext w w' := by
  go_enter Tryd.func18, Tryd.ntmps18
  go_wp2
  go_loopw [] (fun wr => ∃ (pos fuel : Nat) (acc : List UInt8), Lib.IsBuilder 73 5 w.heap.size w.heap.size (Lib.byteCells acc) wr ∧ wr.heap[w.heap.size + 1]? = some (.stringIter s pos) ∧ Ext w wr ∧ acc ++ quoteFrom s fuel pos = quoteS s ∧ s.size ≤ pos + fuel ∧ acc.length ≤ 4 * pos) (fun wr => s.size - wr.iterPos (w.heap.size + 1))
  case atStart =>
    refine ⟨0, s.size, [], isB_ext (Lib.fresh_isBuilder 73 5 w) ((But.refl _ _).alloc _), ?_, ((But.refl _ w).alloc _).alloc _, rfl, by omega, by simp⟩
    have := World.iter_heap (w.alloc (.cells #[.pointer none, .slice none 0 0] 73)) s 0
    simpa using this
  case round =>
    obtain ⟨pos, fuel, acc, hI, hit, hbw, hacc, hfu, hal⟩ := hrel
    have hsz : w.heap.size + 1 < wr.heap.size := (Array.getElem?_eq_some_iff.1 hit).1
    by_cases hp : pos < s.size
    · have hnx : ∀ ty, (Instr.next (.pointer (some ⟨w.heap.size + 1, 0, none⟩)) true ty).run Tryd.prog wr = _ := fun ty => Lib.run_next_any_at wr (w.heap.size + 1) s pos ty hit hp
      have hwd := width_pos s pos hp
      have hd1 := decode_le s pos
      have hI2 := isB_iter hI hit (pos + (Utf8.decode s pos).2)
      have hit2 := Lib.iterAt_heap wr (w.heap.size + 1) s pos (pos + (Utf8.decode s pos).2) hit
      have hbw2 := iterAt_ext hbw (k := w.heap.size + 1) (by omega) s (pos + (Utf8.decode s pos).2)
      have hsz2 : w.heap.size ≤ (wr.iterAt (w.heap.size + 1) s (pos + (Utf8.decode s pos).2)).heap.size := by rw [Lib.iterAt_size]; omega
      obtain ⟨f, rfl⟩ : ∃ f, fuel = f + 1 := ⟨fuel - 1, by omega⟩
      have hq := quoteR_len (Utf8.decode s pos).1
      cases hh : hiddenB (Utf8.decode s pos).1 with
      | true =>
        have hlt := hidden_lt hh
        have hqe : quoteR (Utf8.decode s pos).1 = spell (Utf8.decode s pos).1 := by simp [quoteR, hh]
        go_wp2_with (first | (go_at_call 32; refine (hidden_c _ _).mono ?_; rintro e w1 ⟨rfl, rfl⟩) | (go_at_call 34; refine (spelled_c _ (by omega) _ (hT.ext hbw2)).mono ?_; rintro e w1 ⟨rfl, hx1⟩) | (go_at_call 33; refine (Bu.WriteString_c w.heap.size _ _ _ _ (isB_ext hI2 hx1) (by rw [Lib.byteCells_length]; show _ + (spell _).length ≤ _; rw [← hqe]; omega) (Nat.le_trans hsz2 hx1.size)).mono ?_; rintro e w2 ⟨rfl, h2, b2⟩))
        go_roundw
        case rel =>
          refine ⟨pos + (Utf8.decode s pos).2, f, acc ++ spell (Utf8.decode s pos).1, ?_, b2.heap (But.heap hx1 hit2 id) (by omega) (by intro c f; simp), ?_, ?_, by omega, by simp [← hqe]; omega⟩
          · rw [Lib.byteCells_append]; exact h2
          · exact b2.ext (hbw2.trans hx1) rfl
          · rw [← hacc]; simp [quoteFrom, hp, hqe]
        case measure =>
          simp only [World.iterPos, b2.heap (But.heap hx1 hit2 id) (by omega) (by intro c f; simp), hit]
          omega
      | false =>
        have hqe : quoteR (Utf8.decode s pos).1 = Lib.encodeRune (Utf8.decode s pos).1 := by simp [quoteR, hh]
        go_wp2_with (first | (go_at_call 32; refine (hidden_c _ _).mono ?_; rintro e w1 ⟨rfl, rfl⟩) | (go_at_call 35; refine (Bu.WriteRune_c w.heap.size _ _ ((Utf8.decode s pos).1 : Int) (by omega) (by omega) _ hI2 (by rw [Lib.byteCells_length]; omega) hsz2).mono ?_; rintro e w2 ⟨⟨vr, rfl⟩, h2, b2⟩))
        go_roundw
        case rel =>
          refine ⟨pos + (Utf8.decode s pos).2, f, acc ++ Lib.encodeRune (Utf8.decode s pos).1, ?_, b2.heap hit2 (by omega) (by intro c f; simp), ?_, ?_, by omega, by simp [← hqe]; omega⟩
          · rw [Lib.byteCells_append, Lib.byteCells_encodeRune]; exact h2
          · exact b2.ext hbw2 rfl
          · rw [← hacc]; simp [quoteFrom, hp, hqe]
        case measure =>
          simp only [World.iterPos, b2.heap hit2 (by omega) (by intro c f; simp), hit]
          omega
    · have hnx : ∀ ty, (Instr.next (.pointer (some ⟨w.heap.size + 1, 0, none⟩)) true ty).run Tryd.prog wr = _ := fun ty => Lib.run_next_end_at wr (w.heap.size + 1) s pos ty hit hp
      go_wp2_with (go_at_call 36; refine (Tryd.Builder_String_any w.heap.size w.heap.size acc _ hI (by omega)).mono ?_; rintro e W1 ⟨rfl, b1⟩)
      go_ret
      rw [quoteFrom_end s fuel pos hp, List.append_nil] at hacc
      subst hacc
      exact ⟨rfl, hbw.then_new (S := fun k => w.heap.size ≤ k) ⟨b1.os, b1.tape, b1.output, b1.size, fun i hi hs => b1.block i (Nat.not_le.1 hs)⟩ (fun i hi hS => absurd hS (Nat.not_le.2 hi))⟩
end St
end Go.Proofs.YtlgagbglldehjaaDoor
