/- The reference's reader of lines and the program's are one: plain: put together; what JournalStops says. -/
import Derived.Test.YtlgagbglldehjaaDoorFh
namespace Go.Proofs.YtlgagbglldehjaaDoor
set_option linter.unusedVariables false
set_option linter.unusedSimpArgs false
open Pj Rf St Es Nm Rp
namespace Fe
theorem free1 (w : Bs) : Free [w] := fun u hu v hv _ => by rw [List.mem_singleton.1 hu, List.mem_singleton.1 hv]
theorem one_first {w : Bs} {c : UInt8} {t : Bs} (hw : w.head? ≠ some c) (hne : w ≠ []) : oneR [w] (c :: t) = (0, 0, true) :=
  one_miss (p := []) (L := [w]) ⟨w, by simp, List.nil_prefix⟩ (fun v hv h => by rw [List.mem_singleton.1 hv] at h; exact hne (List.prefix_nil.1 h)) (fun v hv h => by
    rw [List.mem_singleton.1 hv] at h
    obtain ⟨r, rfl⟩ := h
    exact hw rfl)
theorem one_nil {w : Bs} (hne : w ≠ []) : oneR [w] [] = (0, 0, true) :=
  one_end (p := []) (L := [w]) ⟨w, by simp, List.nil_prefix⟩ (fun v hv h => by rw [List.mem_singleton.1 hv] at h; exact hne (List.prefix_nil.1 h))
theorem drop_next {l t : Bs} {i : Nat} {c : UInt8} (h : l.drop i = c :: t) : l.drop (i + 1) = t ∧ i < l.length := by
  constructor
  · rw [← List.drop_drop, h]; rfl
  · rcases Nat.lt_or_ge i l.length with h1 | h1
    · exact h1
    · rw [List.drop_eq_nil_of_le h1] at h; cases h
theorem drop_add {l w r : Bs} {i : Nat} (h : l.drop i = w ++ r) : l.drop (i + w.length) = r := by rw [← List.drop_drop, h, List.drop_left]
theorem fixed_step (word : Bs) (f : Fd) (c : UInt8) (X Y : Fd) (p : Bs) :
    (if (p ++ [c]).isPrefixOf word then some (if p ++ [c] = word then X else Y) else none) = if (∃ w ∈ [word], (p ++ [c]) <+: w) then some (if p ++ [c] ∈ [word] then X else Y) else (none : Option Fd) := by
  simp only [List.mem_singleton, exists_eq_left, List.isPrefixOf_iff_prefix]
theorem done5 {f : Fd} (h : f.state = 5) : doneF f = false := by unfold doneF; rw [h]; rfl
theorem done3 {f : Fd} (h : f.state = 3) : doneF f = false := by unfold doneF; rw [h]; rfl
theorem done1 {f : Fd} (h : f.state = 1) : doneF f = false := by unfold doneF; rw [h]; rfl
theorem step5 {f : Fd} (h : f.state = 5) (p : Bs) (c : UInt8) : stepF { f with part := p } c = if (∃ w ∈ [toB], (p ++ [c]) <+: w) then some (if p ++ [c] ∈ [toB] then { f with part := p ++ [c], state := 6 } else { f with part := p ++ [c] }) else none := by
  rw [← fixed_step toB f c]
  unfold stepF
  simp only [h]
  by_cases h1 : (p ++ [c]).isPrefixOf toB
  · by_cases h2 : p ++ [c] = toB
    · simp [h1, h2, h]
    · simp [h1, h2, h]
  · simp [h1, h]
theorem step3 {f : Fd} (h : f.state = 3) (p : Bs) (c : UInt8) : stepF { f with part := p } c = if (∃ w ∈ [byB], (p ++ [c]) <+: w) then some (if p ++ [c] ∈ [byB] then { f with part := p ++ [c], state := 4 } else { f with part := p ++ [c] }) else none := by
  rw [← fixed_step byB f c]
  unfold stepF
  simp only [h]
  by_cases h1 : (p ++ [c]).isPrefixOf byB
  · by_cases h2 : p ++ [c] = byB
    · simp [h1, h2, h]
    · simp [h1, h2, h]
  · simp [h1, h]
theorem tail_to {f : Fd} (hs : f.state = 5) (hp : f.part = [32]) (hd : f.dest = []) (hk : f.kind = 3) (ht : f.ticks = 0) {l t : Bs} {i : Nat} (hl : l.drop i = 32 :: t) : runF f (i + 1) t = readTo f.clock f.name f.hold i l := by
  have hf : f = { f with part := [32] } := by rw [← hp]
  have h := run_words (free1 toB) (fun p => { f with part := p }) (fun w => { f with part := w, state := 6 }) (fun _ => True) (fun _ _ _ => trivial) (fun p _ => done5 hs) (fun p c _ => step5 hs p c) t [32] (i + 1) trivial ⟨toB, by simp, by decide⟩ (by decide) (by simp)
  try dsimp only at h
  rw [← hf, show ([32] ++ t : Bs) = 32 :: t from rfl] at h
  unfold readTo
  rw [hl]
  rcases h with ⟨h1, h2⟩ | ⟨w, r, h1, h2, h3, h4, h5, h6⟩
  · rw [h2]
    simp only [h1, holB, if_true, Bool.true_or]
    congr 1; simp only [List.length_cons, List.length_nil]; omega
  · have hw : w = toB := by have := List.mem_of_getElem? h2; simpa using this
    subst hw
    rw [h4] at hl
    have hdr := drop_add hl
    rw [h6]
    simp only [h1, h3, holB, Bool.false_eq_true, if_false]
    have e4 : i + 1 + toB.length - [(32 : UInt8)].length = i + toB.length := by simp only [List.length_cons, List.length_nil]; omega
    rw [e4, hdr]
    obtain ⟨d1, d2, d3⟩ := run_dest r { f with part := toB, state := 6 } (i + toB.length) rfl (by rw [hd]; rfl) (by rw [hd]; simp)
    rw [d3]
    try dsimp only
    rw [hd]
    simp only [List.length_nil, Nat.sub_zero, List.nil_append]
    have hlen : l.length = i + toB.length + r.length := by
      have h7 := congrArg List.length hdr
      rw [List.length_drop] at h7
      have h8 := congrArg List.length hl
      rw [List.length_drop, List.length_append] at h8
      simp only [List.length_cons, List.length_nil] at h7 h8 ⊢
      omega
    rw [hlen, show decide (i + toB.length + (holL 0 r).1 < i + toB.length + r.length) = decide ((holL 0 r).1 < r.length) from by simp]
    simp only [entF, hk, ht]
theorem hold_letters : ∀ (r : Bs) (k : Nat), k ≤ 32 → letters (r.take ((holL k r).1 - k)) = true
  | [], k, _ => by rw [holL_nil]; simp [letters]
  | c :: r, k, hk => by
    cases hc : letterB (c.toNat : Int) with
    | false => rw [holL_end r hc]; simp [letters]
    | true =>
      by_cases h32 : k = 32
      · subst h32; rw [holL_long r hc]; simp [letters]
      · rw [holL_go r hc h32]
        have ih := hold_letters r (k + 1) (by omega)
        rcases Nat.lt_or_ge k (holL (k + 1) r).1 with h | h
        · rw [show (holL (k + 1) r).1 - k = ((holL (k + 1) r).1 - (k + 1)) + 1 by omega, List.take_succ_cons]
          unfold letters at ih ⊢
          rw [List.all_cons, ih, hc]; rfl
        · rw [show (holL (k + 1) r).1 - k = 0 by omega]; simp [letters]
theorem tail_by {f : Fd} (hs : f.state = 3) (hp : f.part = [32]) (hh : f.hold = []) (hd : f.dest = []) (hk : f.kind = 1 ∨ f.kind = 2 ∨ f.kind = 3) (ht : f.ticks = 0) {l t : Bs} {i : Nat} (hl : l.drop i = 32 :: t) : runF f (i + 1) t = readBy f.clock f.kind f.name i l := by
  have hf : f = { f with part := [32] } := by rw [← hp]
  have h := run_words (free1 byB) (fun p => { f with part := p }) (fun w => { f with part := w, state := 4 }) (fun _ => True) (fun _ _ _ => trivial) (fun p _ => done3 hs) (fun p c _ => step3 hs p c) t [32] (i + 1) trivial ⟨byB, by simp, by decide⟩ (by decide) (by simp)
  try dsimp only at h
  rw [← hf, show ([32] ++ t : Bs) = 32 :: t from rfl] at h
  unfold readBy
  rw [hl]
  rcases h with ⟨h1, h2⟩ | ⟨w, r, h1, h2, h3, h4, h5, h6⟩
  · rw [h2]
    simp only [h1, holB, if_true]
    congr 1; simp only [List.length_cons, List.length_nil]; omega
  · have hw : w = byB := by have := List.mem_of_getElem? h2; simpa using this
    subst hw
    rw [h4] at hl
    have hdr := drop_add hl
    rw [h6]
    simp only [h1, h3, holB, Bool.false_eq_true, if_false]
    have e4 : i + 1 + byB.length - [(32 : UInt8)].length = i + byB.length := by simp only [List.length_cons, List.length_nil]; omega
    rw [e4, hdr]
    obtain ⟨d1, d2, d3, d4⟩ := run_hold r { f with part := byB, state := 4 } (i + byB.length) rfl (by rw [hh]; rfl) (by rw [hh]; simp)
    try dsimp only at d1 d2 d3 d4
    rw [hh] at d1 d2 d3 d4
    rw [hh]
    simp only [List.length_nil, Nat.sub_zero, List.nil_append] at d1 d2 d3 d4
    have hlen : l.length = i + byB.length + r.length := by
      have h7 := congrArg List.length hdr
      rw [List.length_drop] at h7
      have h8 := congrArg List.length hl
      rw [List.length_drop, List.length_append] at h8
      simp only [List.length_cons, List.length_nil] at h7 h8 ⊢
      omega
    cases hb : (holL 0 r).2 with
    | true => rw [d3 hb, if_pos rfl]
    | false =>
      obtain ⟨g1, g2, g3⟩ := d4 hb
      rw [if_neg (by simp), g3]
      have hdr2 : r.drop (holL 0 r).1 = l.drop (i + byB.length + (holL 0 r).1) := by rw [← hdr, List.drop_drop]
      generalize hD : i + byB.length + (holL 0 r).1 = D at *
      cases hrr : r.drop (holL 0 r).1 with
      | nil =>
        rw [hrr] at hdr2
        have hlD : l.length ≤ D := List.drop_eq_nil_iff.1 hdr2.symm
        by_cases h3k : f.kind = 3
        · rw [if_pos h3k]
          have hdn : doneF { clock := f.clock, kind := f.kind, hold := r.take (holL 0 r).1, dest := f.dest, ticks := f.ticks, state := 4, part := byB, name := f.name, rest := f.rest } = false := by
            unfold doneF; simp [h3k]
          rw [runF, hdn]
          unfold readTo
          rw [← hdr2, one_nil (by simp)]
          simp [holB]
        · rw [if_neg h3k, if_neg (show ¬ D < l.length by omega)]
          have hne : r.take (holL 0 r).1 ≠ [] := by
            intro e
            have := congrArg List.length e
            rw [List.length_take, Nat.min_eq_left d2] at this
            simp at this; omega
          have hdn : doneF { clock := f.clock, kind := f.kind, hold := r.take (holL 0 r).1, dest := f.dest, ticks := f.ticks, state := 4, part := byB, name := f.name, rest := f.rest } = true := by
            unfold doneF
            have : f.kind < 3 := by omega
            simp [this, hne]
          rw [runF, hdn]
          simp only [entF, if_true, hd, ht]
      | cons c t2 =>
        rw [hrr] at hdr2
        have hnl := g2 c t2 hrr
        obtain ⟨hdt, hDl⟩ := drop_next hdr2.symm
        have hne : r.take (holL 0 r).1 ≠ [] := by
          intro e
          have := congrArg List.length e
          rw [List.length_take, Nat.min_eq_left d2] at this
          simp at this; omega
        by_cases h3k : f.kind = 3
        · rw [if_pos h3k]
          by_cases hc : c = 32
          · subst hc
            have hst : stepF { clock := f.clock, kind := f.kind, hold := r.take (holL 0 r).1, dest := f.dest, ticks := f.ticks, state := 4, part := byB, name := f.name, rest := f.rest } 32 = some { clock := f.clock, kind := f.kind, hold := r.take (holL 0 r).1, dest := f.dest, ticks := f.ticks, state := 5, part := [32], name := f.name, rest := f.rest } := by
              unfold stepF; simp [h3k, hne]
            rw [run_go hst]
            exact tail_to (f := { clock := f.clock, kind := f.kind, hold := r.take (holL 0 r).1, dest := f.dest, ticks := f.ticks, state := 5, part := [32], name := f.name, rest := f.rest }) rfl rfl hd h3k ht hdr2.symm
          · have hll : letters (r.take (holL 0 r).1) = true := hold_letters r 0 (by omega)
            have hst : stepF { clock := f.clock, kind := f.kind, hold := r.take (holL 0 r).1, dest := f.dest, ticks := f.ticks, state := 4, part := byB, name := f.name, rest := f.rest } c = none := by
              unfold stepF
              simp only [hc, false_and, if_false]
              rw [letter_F hll, if_neg (by rw [hnl]; simp)]; rfl
            rw [run_no hst]
            unfold readTo
            rw [← hdr2, one_first (by simpa using Ne.symm hc) (by simp)]
            simp [holB]
        · rw [if_neg h3k, if_pos hDl]
          have hll : letters (r.take (holL 0 r).1) = true := hold_letters r 0 (by omega)
          have hst : stepF { clock := f.clock, kind := f.kind, hold := r.take (holL 0 r).1, dest := f.dest, ticks := f.ticks, state := 4, part := byB, name := f.name, rest := f.rest } c = none := by
            unfold stepF
            simp only [h3k, false_and, and_false, if_false]
            rw [letter_F hll, if_neg (by rw [hnl]; simp)]; rfl
          rw [run_no hst]
theorem tail_name {f : Fd} (hs : f.state = 2) (hr : f.rest = []) (hn : f.name = []) (hh : f.hold = []) (hd : f.dest = []) (hk1 : 1 ≤ f.kind) (hk5 : f.kind ≤ 5) (ht : f.ticks = 0) (l : Bs) (i : Nat) (hi : i ≤ l.length) : runF f i (l.drop i) = readN f.clock f.kind i l := by
  obtain ⟨a1, a2, a3⟩ := run_name (l.drop i).length (l.drop i) f i (Nat.le_refl _) hs hr
  unfold readN nameR
  try dsimp only
  generalize nameL (l.drop i).length (l.drop i) = m at a1 a2 a3
  rw [List.length_drop] at a1
  cases hb : m.2.2 with
  | true => rw [a2 hb]; rfl
  | false =>
    obtain ⟨b1, b2⟩ := a3 hb
    rw [b2, hn, List.nil_append, List.drop_drop, Bool.false_or]
    rw [List.drop_drop] at b1
    generalize hN : i + m.2.1 = N at *
    by_cases he : m.1 = []
    · rw [he]
      rw [if_pos (by simp)]
      cases hl : l.drop N with
      | nil =>
        have hdn : doneF { clock := f.clock, kind := f.kind, hold := f.hold, dest := f.dest, ticks := f.ticks, state := f.state, part := f.part, name := [], rest := [] } = false := by unfold doneF; simp [hs]
        rw [runF, hdn]; rfl
      | cons c t =>
        rw [hl] at b1
        have hc : c = 32 := by simpa using b1
        subst hc
        refine run_no ?_ _ _
        unfold stepF; simp [hs]
    · rw [if_neg (by simpa using he)]
      cases hl : l.drop N with
      | nil =>
        have hlN : l.length ≤ N := List.drop_eq_nil_iff.1 hl
        by_cases hk : f.kind = 1 ∨ f.kind = 2 ∨ f.kind = 3
        · rw [if_pos hk]
          have hdn : doneF { clock := f.clock, kind := f.kind, hold := f.hold, dest := f.dest, ticks := f.ticks, state := f.state, part := f.part, name := m.1, rest := [] } = false := by
            unfold doneF
            have : ¬ 4 ≤ f.kind := by omega
            simp [hs, this]
          rw [runF, hdn]
          unfold readBy
          rw [hl, one_nil (by simp)]
          simp [holB]
        · rw [if_neg hk, if_neg (show ¬ N < l.length by omega)]
          have hdn : doneF { clock := f.clock, kind := f.kind, hold := f.hold, dest := f.dest, ticks := f.ticks, state := f.state, part := f.part, name := m.1, rest := [] } = true := by
            unfold doneF
            have : 4 ≤ f.kind := by omega
            simp [hs, this, he]
          rw [runF, hdn]
          simp only [entF, if_true, hh, hd, ht]
      | cons c t =>
        rw [hl] at b1
        have hc : c = 32 := by simpa using b1
        subst hc
        obtain ⟨hdt, hNl⟩ := drop_next hl
        by_cases hk : f.kind = 1 ∨ f.kind = 2 ∨ f.kind = 3
        · rw [if_pos hk]
          have hst : stepF { clock := f.clock, kind := f.kind, hold := f.hold, dest := f.dest, ticks := f.ticks, state := f.state, part := f.part, name := m.1, rest := [] } 32 = some { clock := f.clock, kind := f.kind, hold := f.hold, dest := f.dest, ticks := f.ticks, state := 3, part := [32], name := m.1, rest := [] } := by
            unfold stepF
            have : f.kind ≤ 3 := by omega
            simp [hs, this, he]
          rw [run_go hst]
          exact tail_by (f := { clock := f.clock, kind := f.kind, hold := f.hold, dest := f.dest, ticks := f.ticks, state := 3, part := [32], name := m.1, rest := [] }) rfl rfl hh hd hk ht hl
        · rw [if_neg hk, if_pos hNl]
          refine run_no ?_ _ _
          unfold stepF
          have : ¬ f.kind ≤ 3 := by omega
          simp [hs, this]
theorem kind_at : ∀ j, j < 6 → kindW.idxOf (kindW.getD j []) = j := by decide +kernel
theorem step1 {f : Fd} (h : f.state = 1) (hk : f.kind = 0) (p : Bs) (c : UInt8) : stepF { f with part := p } c = if (∃ w ∈ kindW, (p ++ [c]) <+: w) then some (if p ++ [c] ∈ kindW then { f with kind := ((kindW.idxOf (p ++ [c]) + 1 : Nat) : Int), part := [], state := if kindW.idxOf (p ++ [c]) + 1 = 6 then 7 else 2 } else { f with part := p ++ [c] }) else none := by
  have hst : stepF { f with part := p } c = (beginsF (p ++ [c])).map fun (k : Nat) => if 0 < k then { f with kind := (k : Int), part := [], state := if k = 6 then 7 else 2 } else { f with kind := 0, part := p ++ [c] } := by
    unfold stepF
    simp only [h]
  rw [hst]
  by_cases h1 : ∃ w ∈ kindW, (p ++ [c]) <+: w
  · obtain ⟨w, hw, hp⟩ := h1
    have hb : beginsF (p ++ [c]) = some (if p ++ [c] ∈ kindW then kindW.idxOf (p ++ [c]) + 1 else 0) := by
      unfold beginsF; rw [if_pos (List.any_eq_true.2 ⟨w, hw, List.isPrefixOf_iff_prefix.2 hp⟩)]
    rw [hb, if_pos (⟨w, hw, hp⟩ : ∃ w ∈ kindW, (p ++ [c]) <+: w)]
    by_cases h2 : p ++ [c] ∈ kindW
    · rw [if_pos h2, if_pos h2, Option.map_some, if_pos (by omega)]
    · rw [if_neg h2, if_neg h2, Option.map_some, if_neg (by omega), ← hk]
  · have hb : beginsF (p ++ [c]) = none := by
      unfold beginsF; rw [if_neg]
      intro e
      obtain ⟨w, hw, hp⟩ := List.any_eq_true.1 e
      exact h1 ⟨w, hw, List.isPrefixOf_iff_prefix.1 hp⟩
    rw [hb, if_neg h1]; rfl
theorem one_blank (r : Bs) : oneR [[32]] r = if r.head? = some 32 then (0, 1, false) else (0, 0, true) := by
  cases r with
  | nil => exact one_nil (by simp)
  | cons c t =>
    by_cases h : c = 32
    · subst h
      rw [if_pos (show (32 :: t : Bs).head? = some 32 from rfl)]
      exact one_hit (L := [[32]]) (w := [32]) (l := t) (j := 0) (free1 _) rfl (fun j' h => by omega)
    · rw [one_first (by simpa using Ne.symm h) (by simp), if_neg (by simpa using h)]
theorem read_eq (l : Bs) : readF l = readP l := by
  obtain ⟨h1, -⟩ := run_clock (zeroB l) l zeroF 0 0 rfl (had_start l)
  unfold readF
  rw [h1]
  unfold readP
  rw [show numL (zeroB l) 0 zeroF.clock l = numR l from rfl]
  generalize numR l = c
  try dsimp only
  simp only [Nat.zero_add, Nat.sub_zero]
  cases hb : c.2.2 with
  | true => simp [oneB]
  | false =>
    simp only [oneB, Bool.false_eq_true, if_false]
    rw [one_blank]
    by_cases hh : (l.drop c.2.1).head? = some 32
    · rw [if_pos hh, if_pos hh]
      try dsimp only
      simp only [Bool.false_eq_true, if_false]
      have hle : c.2.1 + 1 ≤ l.length := by
        rcases Nat.lt_or_ge c.2.1 l.length with h | h
        · exact h
        · rw [List.drop_eq_nil_of_le h] at hh; cases hh
      have hw := run_words (L := kindW) kindW_free (fun p => { zeroF with clock := c.1, part := p, state := 1 }) (fun w => { zeroF with clock := c.1, kind := ((kindW.idxOf w + 1 : Nat) : Int), part := [], state := if kindW.idxOf w + 1 = 6 then 7 else 2 }) (fun _ => True)
        (fun _ _ _ => trivial) (fun p _ => rfl) (fun p d _ => step1 (f := { zeroF with clock := c.1, state := 1 }) rfl rfl p d) (l.drop (c.2.1 + 1)) [] (c.2.1 + 1) trivial ⟨kindW.getD 0 [], by decide +kernel, List.nil_prefix⟩ (by decide +kernel) (by simp)
      try dsimp only at hw
      rw [List.nil_append, show kindW = kindL.map bs from rfl] at hw
      rcases hw with ⟨g1, g2⟩ | ⟨w, r, g1, g2, g3, g4, g5, g6⟩
      · rw [g2, g1, if_pos rfl]; rfl
      · have hj : (oneR (kindL.map bs) (l.drop (c.2.1 + 1))).1 < 6 := (List.getElem?_eq_some_iff.1 g2).1
        have hwj : kindW.getD (oneR (kindL.map bs) (l.drop (c.2.1 + 1))).1 [] = w := by rw [List.getD_eq_getElem?_getD, show kindW = kindL.map bs from rfl, g2]; rfl
        have hx := kind_at _ hj
        rw [hwj] at hx
        rw [g6, g1, g3, if_neg (show ¬ (false = true) by simp)]
        rw [show (kindL.map bs) = kindW from rfl] at *
        rw [hx]
        generalize (oneR kindW (l.drop (c.2.1 + 1))).1 = j at *
        have hr : r = l.drop (c.2.1 + 1 + w.length) := (drop_add g4).symm
        have hP : c.2.1 + 1 + w.length ≤ l.length := by
          have := congrArg List.length g4
          rw [List.length_drop, List.length_append] at this; omega
        rw [show c.2.1 + 1 + w.length - ([] : Bs).length = c.2.1 + 1 + w.length from rfl, hr]
        generalize c.2.1 + 1 + w.length = P at *
        by_cases h5 : j = 5
        · subst h5
          rw [if_pos (show 5 + 1 = 6 from rfl), if_pos (show (5 : Nat) = 5 from rfl)]
          obtain ⟨t1, -⟩ := run_ticks (zeroB (l.drop P)) (l.drop P) { zeroF with clock := c.1, kind := ((5 + 1 : Nat) : Int), part := [], state := 7 } P 0 rfl (had_start _)
          rw [t1]
          unfold readT
          rw [show numL (zeroB (l.drop P)) 0 zeroF.ticks (l.drop P) = numR (l.drop P) from rfl]
          generalize numR (l.drop P) = n
          try dsimp only
          rw [List.length_drop, Nat.sub_zero, show decide (n.2.1 < l.length - P) = decide (P + n.2.1 < l.length) from by rw [decide_eq_decide]; omega]
          rfl
        · rw [if_neg (show ¬ j + 1 = 6 by omega), if_neg h5]
          exact tail_name (f := { zeroF with clock := c.1, kind := ((j + 1 : Nat) : Int), part := [], state := 2 }) rfl rfl rfl rfl rfl (by dsimp only; omega) (by dsimp only; omega) rfl l P hP
    · rw [if_neg hh, if_neg hh]
      simp
/-! ### behind a first wrong byte nothing matters -/
theorem run_bd : ∀ (l : Bs) (f : Fd) (i p : Nat), runF f i l = (none, p) → i ≤ p ∧ p ≤ i + l.length
  | [], f, i, p, h => by
    rw [runF] at h
    split at h
    · cases h
    · cases h; simp
  | c :: l, f, i, p, h => by
    cases hs : stepF f c with
    | none => rw [run_no hs] at h; cases h; simp
    | some f' =>
      rw [run_go hs] at h
      have := run_bd l f' (i + 1) p h
      simp; omega
theorem run_some_zero : ∀ (l : Bs) (f : Fd) (i p : Nat) (e : Ent), runF f i l = (some e, p) → p = 0
  | [], f, i, p, e, h => by
    rw [runF] at h
    split at h
    · cases h; rfl
    · cases h
  | c :: l, f, i, p, e, h => by
    cases hs : stepF f c with
    | none => rw [run_no hs] at h; cases h
    | some f' => rw [run_go hs] at h; exact run_some_zero l f' (i + 1) p e h
theorem run_tail : ∀ (l : Bs) (f : Fd) (i p : Nat) (T : Bs), runF f i l = (none, p) → p < i + l.length → runF f i (l.take (p + 1 - i) ++ T) = (none, p)
  | [], f, i, p, T, h, hl => by have := run_bd [] f i p h; simp at hl; omega
  | c :: l, f, i, p, T, h, hl => by
    have hb := run_bd _ f i p h
    rw [show p + 1 - i = (p - i) + 1 by omega, List.take_succ_cons, List.cons_append]
    cases hs : stepF f c with
    | none => rw [run_no hs] at h ⊢; exact h
    | some f' =>
      rw [run_go hs] at h ⊢
      have hb2 := run_bd _ f' (i + 1) p h
      have := run_tail l f' (i + 1) p T h (by simp at hl; omega)
      rwa [show p + 1 - (i + 1) = p - i by omega] at this
theorem run_head : ∀ (l : Bs) (f : Fd) (i p : Nat), runF f i l = (none, p) → p < i + l.length → (∃ e, runF f i (l.take (p - i)) = (some e, 0)) ∨ runF f i (l.take (p - i)) = (none, p)
  | [], f, i, p, h, hl => by have := run_bd [] f i p h; simp at hl; omega
  | c :: l, f, i, p, h, hl => by
    have hb := run_bd _ f i p h
    have hnil : ∀ g : Fd, (∃ e, runF g i [] = (some e, 0)) ∨ runF g i [] = (none, i) := fun g => by
      rw [runF]; split
      · exact .inl ⟨_, rfl⟩
      · exact .inr rfl
    cases hs : stepF f c with
    | none =>
      rw [run_no hs] at h; cases h
      rw [Nat.sub_self]; exact hnil f
    | some f' =>
      rw [run_go hs] at h
      have hb2 := run_bd _ f' (i + 1) p h
      rw [show p - i = (p - (i + 1)) + 1 by omega, List.take_succ_cons, run_go hs]
      exact run_head l f' (i + 1) p h (by simp at hl; omega)
theorem stops_plain (l T : Bs) (p : Nat) (h : readP l = (none, p)) : p ≤ l.length ∧ (p < l.length → readP (l.take (p + 1) ++ T) = (none, p) ∧ ((∃ e, readP (l.take p) = (some e, 0)) ∨ readP (l.take p) = (none, p))) := by
  rw [← read_eq] at h
  have hb := run_bd l zeroF 0 p h
  refine ⟨by omega, fun hp => ?_⟩
  rw [← read_eq, ← read_eq]
  exact ⟨run_tail l zeroF 0 p T h (by omega), run_head l zeroF 0 p h (by omega)⟩
end Fe
end Go.Proofs.YtlgagbglldehjaaDoor
