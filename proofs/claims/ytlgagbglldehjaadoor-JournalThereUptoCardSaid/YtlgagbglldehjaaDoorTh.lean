/- guiselaw22.JournalThere: its walk. -/
import Derived.Test.YtlgagbglldehjaaDoorKn
import Derived.Test.YtlgagbglldehjaaDoorTl
namespace Go.Proofs.YtlgagbglldehjaaDoor
set_option linter.unusedVariables false
set_option linter.unusedSimpArgs false
open Go Go.RowKit Pj J1 St Es Rf Rp Rr Kn
namespace Hw
theorem outV_some (e : Ent) (p : Nat) : outV (some e, p) = .tuple #[.agg #[.int .u64 e.clock, .int .i64 e.kind, .string ⟨e.name.toArray⟩, .string ⟨e.hold.toArray⟩, .string ⟨e.dest.toArray⟩, .int .u64 e.ticks], .int .i64 0, .int .i64 0] := rfl
theorem outV_none (p : Nat) : outV (none, p) = .tuple #[.agg #[.int .u64 0, .int .i64 0, .string ⟨#[]⟩, .string ⟨#[]⟩, .string ⟨#[]⟩, .int .u64 0], .int .i64 p, .int .i64 80] := rfl
theorem of_bs (s : ByteArray) : (⟨(bs s).toArray⟩ : ByteArray) = s := str_bs rfl
theorem line_len {clock ticks : Nat} {kind : Int} {name hold dest q s : Bs} (hc : clock < 18446744073709551616) (ht : ticks < 18446744073709551616) (h : lineOf clock kind name hold dest ticks q = some s) : s.length ≤ q.length + 200 := by
  have h1 := decDigits_le clock hc
  have h2 := decDigits_le ticks ht
  have h3 := wordS_len kind
  have h4 := wordS_len 6
  have h5 : ∀ h : Bs, holderB h = true → h.length ≤ 32 := fun h hh => by simp only [holderB, Bool.and_eq_true, decide_eq_true_eq] at hh; exact hh.2
  unfold lineOf at h
  split at h
  · split at h
    · cases h
      simp only [List.length_append, List.length_cons] at *; omega
    · cases h
  · split at h
    · cases h
    · split at h
      · split at h
        · cases h
          simp only [List.length_append, List.length_cons] at *; omega
        · cases h
      · split at h
        · split at h
          · rename_i hx
            cases h
            have := h5 _ hx.1
            simp only [List.length_append, List.length_cons, List.length_nil] at *; omega
          · cases h
        · split at h
          · split at h
            · rename_i hx
              cases h
              have := h5 _ hx.1
              have := h5 _ hx.2.1
              simp only [List.length_append, List.length_cons, List.length_nil] at *; omega
            · cases h
          · cases h
/-- what the second half of the law does: the line is read, and written again -/
def Back (line : ByteArray) : Prop :=
  (∃ p, p ≤ line.size ∧ readP (bs line) = (none, p)) ∨ (∃ e : Ent, readP (bs line) = (some e, 0) ∧ e.clock < 18446744073709551616 ∧ e.ticks < 18446744073709551616 ∧ e.name.length ≤ 1048576 ∧ e.hold.length ≤ 32 ∧ e.dest.length ≤ 32 ∧ lineOf e.clock e.kind e.name e.hold e.dest e.ticks (quoteS ⟨e.name.toArray⟩) = some (bs line))
theorem back_all (line : ByteArray) (hl : line.size ≤ 1048576) : Back line := by
  rcases hr : readP (bs line) with ⟨o, p⟩
  cases o with
  | none => exact .inl ⟨p, by have := (Fe.stops_plain (bs line) [] p hr).1; rw [bs_len] at this; exact this, hr⟩
  | some e =>
    have hp : p = 0 := Fe.run_some_zero _ _ _ _ e (by rw [← Fe.read_eq] at hr; exact hr)
    subst hp
    obtain ⟨h1, h2, h3, h4, h5, h6⟩ := Th.back hr
    rw [bs_len] at h3
    refine .inr ⟨e, hr, h1, h2, by omega, h4, h5, ?_⟩
    rw [Th.quoteS_D, show bs (⟨e.name.toArray⟩ : ByteArray) = e.name from rfl]
    exact h6 _ (by rw [← bs_len]; exact Nat.le_refl _)
end Hw
end Go.Proofs.YtlgagbglldehjaaDoor
