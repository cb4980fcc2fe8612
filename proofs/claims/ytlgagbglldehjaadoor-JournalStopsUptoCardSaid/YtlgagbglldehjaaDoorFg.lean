/- A name, fed byte by byte, beside the program's reader of names: plain. -/
import Derived.Test.YtlgagbglldehjaaDoorFf
namespace Go.Proofs.YtlgagbglldehjaaDoor
set_option linter.unusedVariables false
set_option linter.unusedSimpArgs false
open Pj Rf St Es Nm Rp
namespace Fe
theorem step2_go {f : Fd} {c : UInt8} (hs : f.state = 2) (hc : c ≠ 32) : stepF f c = (runeF f.name f.rest c).map fun x => { f with name := x.1, rest := x.2 } := by
  unfold stepF; rw [hs]; simp only [hc, false_and, if_false]
theorem step2_blank {f : Fd} (hs : f.state = 2) (hr : f.rest ≠ []) : stepF f 32 = none := by
  unfold stepF; rw [hs]; simp only [hr, false_and, and_false, if_false, if_true]
theorem rune_high {name rest s : Bs} {x : UInt8} (hS : rest ++ [x] = s) (h0 : s.getD 0 0 ≠ 92) (hx : s.length = 1 → 128 ≤ x.toNat) :
    runeF name rest x = if couldF s = false then none else if seqN s = s.length then some (name ++ s, []) else some (name, s) := by
  unfold runeF
  simp only [hS]
  rw [if_neg h0]
  by_cases hc : couldF s = false
  · rw [if_pos (.inl hc), if_pos hc]
  · rw [if_neg (by rintro (e | ⟨e1, e2, e3⟩); exact hc e; have := hx e1; omega), if_neg hc]
theorem run2_end {f : Fd} (hs : f.state = 2) (hr : f.rest ≠ []) (i : Nat) : runF f i [] = (none, i) := by
  have hd : doneF f = false := by
    unfold doneF; rw [hs]
    cases h : f.rest with
    | nil => exact absurd h hr
    | cons a t => rfl
  rw [runF, hd]; rfl
/-- one more byte behind some of a sequence that it can't go on -/
theorem run2_stop {f : Fd} {s : Bs} {x : UInt8} (hs : f.state = 2) (hr : f.rest ≠ []) (hS : f.rest ++ [x] = s) (h0 : s.getD 0 0 ≠ 92) (hl : 2 ≤ s.length) (hc : couldF s = false) (i : Nat) (t : Bs) : runF f i (x :: t) = (none, i) := by
  refine run_no ?_ i t
  by_cases hx : x = 32
  · subst hx; exact step2_blank hs hr
  · rw [step2_go hs hx, rune_high hS h0 (by omega), if_pos hc]; rfl
theorem run2_more {f : Fd} {s : Bs} {x : UInt8} (hs : f.state = 2) (hx : x ≠ 32) (hS : f.rest ++ [x] = s) (h0 : s.getD 0 0 ≠ 92) (hl : s.length = 1 → 128 ≤ x.toNat) (hc : couldF s = true) (hq : seqN s ≠ s.length) (i : Nat) (t : Bs) : runF f i (x :: t) = runF { f with rest := s } (i + 1) t := by
  refine run_go ?_ i t
  rw [step2_go hs hx, rune_high hS h0 hl, if_neg (by rw [hc]; simp), if_neg hq]; rfl
theorem run2_whole {f : Fd} {s : Bs} {x : UInt8} (hs : f.state = 2) (hx : x ≠ 32) (hS : f.rest ++ [x] = s) (h0 : s.getD 0 0 ≠ 92) (hl : s.length = 1 → 128 ≤ x.toNat) (hc : couldF s = true) (hq : seqN s = s.length) (i : Nat) (t : Bs) : runF f i (x :: t) = runF { f with name := f.name ++ s, rest := [] } (i + 1) t := by
  refine run_go ?_ i t
  rw [step2_go hs hx, rune_high hS h0 hl, if_neg (by rw [hc]; simp), if_pos hq]; rfl
theorem ge_ne32 {x : UInt8} (h : 128 ≤ x.toNat) : x ≠ 32 := fun e => by subst e; simp at h
theorem ge_ne92 {x : UInt8} (h : 128 ≤ x.toNat) : x ≠ 92 := fun e => by subst e; simp at h
theorem run_lead {f : Fd} {c : UInt8} (hs : f.state = 2) (hr : f.rest = []) (hc : leadB c) (i : Nat) (t : Bs) :
    (goodB c (c :: t) → runF f i (c :: t) = runF { f with name := f.name ++ (c :: t).take (szB c), rest := [] } (i + szB c) ((c :: t).drop (szB c))) ∧ (¬ goodB c (c :: t) → runF f i (c :: t) = (none, i + brk (c :: t))) := by
  have hb := sz_bd hc
  have hge := lead_ge hc
  have h92 : c ≠ 92 := ge_ne92 (by omega)
  have h1 : runF f i (c :: t) = runF { f with rest := [c] } (i + 1) t :=
    run2_more (s := [c]) hs (ge_ne32 (by omega)) (by rw [hr]; rfl) h92 (fun _ => by omega) (could1 hc) (by rw [seq_bad hc (fun hg => by have := hg.1; simp at this; omega)]; simp) i t
  rw [h1]
  cases t with
  | nil =>
    refine ⟨fun hg => by have := hg.1; simp at this; omega, fun _ => ?_⟩
    rw [run2_end (f := { f with rest := [c] }) hs (by simp), brk_one hc]
  | cons d t =>
    by_cases hd : okB c d
    · have hd8 := ok_ge hc hd
      rcases (by omega : szB c = 2 ∨ 3 ≤ szB c) with h2 | h3
      · have hg : goodB c [c, d] := ⟨by rw [h2]; simp, hd, fun h => by omega, fun h => by omega⟩
        have hg2 : goodB c (c :: d :: t) := ⟨by rw [h2]; simp, hd, fun h => by omega, fun h => by omega⟩
        refine ⟨fun _ => ?_, fun h => absurd hg2 h⟩
        rw [run2_whole (f := { f with rest := [c] }) (s := [c, d]) hs (ge_ne32 hd8) rfl h92 (by simp) (by rw [could2 hc, decide_eq_true hd]) (by rw [seq_good hc hg, h2]; rfl), h2]
        rfl
      · have hg : ¬ goodB c [c, d] := fun hg => by have := hg.1; simp at this; omega
        rw [run2_more (f := { f with rest := [c] }) (s := [c, d]) hs (ge_ne32 hd8) rfl h92 (by simp) (by rw [could2 hc, decide_eq_true hd]) (by rw [seq_bad hc hg]; simp)]
        cases t with
        | nil =>
          refine ⟨fun h => absurd h hg, fun _ => ?_⟩
          rw [run2_end (f := { f with rest := [c, d] }) hs (by simp), brk_two_end hc hd h3]
        | cons e t =>
          by_cases he : contB e
          · have he8 : 128 ≤ e.toNat := he.1
            rcases (by omega : szB c = 3 ∨ szB c = 4) with h3' | h4
            · have hg : goodB c [c, d, e] := ⟨by rw [h3']; simp, hd, fun _ => he, fun h => by omega⟩
              have hg2 : goodB c (c :: d :: e :: t) := ⟨by rw [h3']; simp, hd, fun _ => he, fun h => by omega⟩
              refine ⟨fun _ => ?_, fun h => absurd hg2 h⟩
              rw [run2_whole (f := { f with rest := [c, d] }) (s := [c, d, e]) hs (ge_ne32 he8) rfl h92 (by simp) (by rw [could3 hc h3 hd, decide_eq_true he]) (by rw [seq_good hc hg, h3']; rfl), h3']
              rfl
            · have hg : ¬ goodB c [c, d, e] := fun hg => by have := hg.1; simp at this; omega
              rw [run2_more (f := { f with rest := [c, d] }) (s := [c, d, e]) hs (ge_ne32 he8) rfl h92 (by simp) (by rw [could3 hc h3 hd, decide_eq_true he]) (by rw [seq_bad hc hg]; simp)]
              cases t with
              | nil =>
                refine ⟨fun h => absurd h hg, fun _ => ?_⟩
                rw [run2_end (f := { f with rest := [c, d, e] }) hs (by simp), brk_three_end hc hd h4 he]
              | cons g t =>
                by_cases hgc : contB g
                · have hg8 : 128 ≤ g.toNat := hgc.1
                  have hg : goodB c [c, d, e, g] := ⟨by rw [h4]; simp, hd, fun _ => he, fun h => hgc⟩
                  have hg2 : goodB c (c :: d :: e :: g :: t) := ⟨by rw [h4]; simp, hd, fun _ => he, fun h => hgc⟩
                  refine ⟨fun _ => ?_, fun h => absurd hg2 h⟩
                  rw [run2_whole (f := { f with rest := [c, d, e] }) (s := [c, d, e, g]) hs (ge_ne32 hg8) rfl h92 (by simp) (by rw [could4 hc h4 hd he, decide_eq_true hgc]) (by rw [seq_good hc hg, h4]; rfl), h4]
                  rfl
                · refine ⟨fun h => absurd (h.2.2.2 (by omega)) hgc, fun _ => ?_⟩
                  rw [run2_stop (f := { f with rest := [c, d, e] }) (s := [c, d, e, g]) hs (by simp) rfl h92 (by simp) (by rw [could4 hc h4 hd he, decide_eq_false hgc]), brk_four t hc hd h4 he]
          · refine ⟨fun h => absurd (h.2.2.1 h3) he, fun _ => ?_⟩
            rw [run2_stop (f := { f with rest := [c, d] }) (s := [c, d, e]) hs (by simp) rfl h92 (by simp) (by rw [could3 hc h3 hd, decide_eq_false he]), brk_three t hc hd h3 he]
    · refine ⟨fun h => absurd h.2.1 hd, fun _ => ?_⟩
      rw [run2_stop (f := { f with rest := [c] }) (s := [c, d]) hs (by simp) rfl h92 (by simp) (by rw [could2 hc, decide_eq_false hd]), brk_two t hc hd]

/-! ### a word that is fed -/
theorem idx_first : ∀ (L : List Bs) (w : Bs), w ∈ L → ∃ j : Nat, L[j]? = some w ∧ ∀ j' : Nat, j' < j → L[j']? ≠ some w
  | [], w, h => by cases h
  | s :: L, w, h => by
    by_cases e : s = w
    · exact ⟨0, by simp [e], fun j' h' => by omega⟩
    · obtain ⟨j, h1, h2⟩ := idx_first L w (by simpa [Ne.symm e] using h)
      refine ⟨j + 1, by simpa using h1, fun j' h' => ?_⟩
      cases j' with
      | zero => simpa using e
      | succ j' => simpa using h2 j' (by omega)
theorem run_words {L : List Bs} (hF : Free L) (A B : Bs → Fd) (G : Bs → Prop) (hG : ∀ p c, G p → G (p ++ [c])) (hd : ∀ p, G p → doneF (A p) = false)
    (hs : ∀ p c, G p → stepF (A p) c = if (∃ w ∈ L, (p ++ [c]) <+: w) then some (if p ++ [c] ∈ L then B (p ++ [c]) else A (p ++ [c])) else none) :
    ∀ (l p : Bs) (i : Nat), G p → (∃ w ∈ L, p <+: w) → (∀ w ∈ L, ¬ w <+: p) → p.length ≤ i →
      ((oneR L (p ++ l)).2.2 = true ∧ runF (A p) i l = (none, i + (oneR L (p ++ l)).2.1 - p.length)) ∨
      (∃ w r, (oneR L (p ++ l)).2.2 = false ∧ L[(oneR L (p ++ l)).1]? = some w ∧ (oneR L (p ++ l)).2.1 = w.length ∧ p ++ l = w ++ r ∧ p.length < w.length ∧ runF (A p) i l = runF (B w) (i + w.length - p.length) r)
  | [], p, i, hg, hp, hn, hi => by
    left
    rw [List.append_nil, one_end hp hn, runF, hd p hg]
    exact ⟨rfl, by simp⟩
  | c :: l, p, i, hg, hp, hn, hi => by
    by_cases hc : ∃ w ∈ L, (p ++ [c]) <+: w
    · have hst := hs p c hg
      rw [if_pos hc] at hst
      have happ : p ++ c :: l = (p ++ [c]) ++ l := by simp
      by_cases hm : p ++ [c] ∈ L
      · right
        rw [if_pos hm] at hst
        obtain ⟨j, h1, h2⟩ := idx_first L _ hm
        refine ⟨p ++ [c], l, ?_⟩
        rw [happ, one_hit hF h1 h2, run_go hst]
        refine ⟨rfl, h1, rfl, rfl, by simp, ?_⟩
        congr 1; simp; omega
      · rw [if_neg hm] at hst
        have hn2 : ∀ w ∈ L, ¬ w <+: p ++ [c] := fun w hw h => by
          obtain ⟨u, hu, hpu⟩ := hc
          have := hF w hw u hu (h.trans hpu)
          subst this
          have e : w = p ++ [c] := List.IsPrefix.eq_of_length_le h hpu.length_le
          exact hm (e ▸ hw)
        have ih := run_words hF A B G hG hd hs l (p ++ [c]) (i + 1) (hG p c hg) hc hn2 (by simp; omega)
        rw [happ, run_go hst]
        have e1 : ∀ n, i + 1 + n - (p ++ [c]).length = i + n - p.length := fun n => by simp; omega
        rcases ih with ⟨h1, h2⟩ | ⟨w, r, h1, h2, h3, h4, h5, h6⟩
        · exact .inl ⟨h1, by rw [h2, e1]⟩
        · exact .inr ⟨w, r, h1, h2, h3, h4, by simp at h5; omega, by rw [h6, e1]⟩
    · left
      have hst := hs p c hg
      rw [if_neg hc] at hst
      rw [one_miss hp hn (fun w hw h => hc ⟨w, hw, h⟩), run_no hst]
      exact ⟨rfl, by simp⟩

/-! ### a rune that is written by its number -/
theorem spells_free : Free spells := by
  have : ∀ u ∈ spells, ∀ w ∈ spells, u.isPrefixOf w = true → u = w := by decide +kernel
  intro u hu w hw h
  exact this u hu w hw (List.isPrefixOf_iff_prefix.2 h)
/-- the rune that such a text stands for -/
def unspell (w : Bs) : Nat := hids.getD (spells.idxOf w) 0
theorem unspell_spell : ∀ r ∈ hids, unspell (spell r) = r := by decide +kernel
theorem unspell_at : ∀ j, j < spells.length → unspell (spells.getD j []) = hids.getD j 0 := by decide +kernel
theorem spells_head : ∀ w ∈ spells, w.head? = some 92 ∧ 32 ∉ w ∧ 3 ≤ w.length := by decide +kernel
theorem rune_esc {name rest : Bs} {c : UInt8} (h0 : (rest ++ [c]).head? = some 92) :
    runeF name rest c = if (∃ w ∈ spells, (rest ++ [c]) <+: w) then some (if rest ++ [c] ∈ spells then (name ++ [(unspell (rest ++ [c])).toUInt8], []) else (name, rest ++ [c])) else none := by
  unfold runeF
  dsimp only
  have hg : (rest ++ [c]).getD 0 0 = 92 := by
    cases h : rest ++ [c] with
    | nil => rw [h] at h0; cases h0
    | cons a t => rw [h] at h0; simpa using h0
  rw [if_pos hg]
  generalize rest ++ [c] = s at h0
  cases hf : hids.find? (fun r => s.isPrefixOf (spell r)) with
  | none =>
    rw [if_neg]
    rintro ⟨w, hw, hp⟩
    obtain ⟨r, hr, rfl⟩ := List.mem_map.1 hw
    have := List.find?_eq_none.1 hf r hr
    exact this (List.isPrefixOf_iff_prefix.2 hp)
  | some r =>
    have hr := List.mem_of_find?_eq_some hf
    have hp := List.isPrefixOf_iff_prefix.1 (List.find?_some (p := fun r => s.isPrefixOf (spell r)) hf)
    have hw : spell r ∈ spells := List.mem_map.2 ⟨r, hr, rfl⟩
    rw [if_pos ⟨_, hw, hp⟩]
    by_cases hm : s ∈ spells
    · have e := spells_free s hm _ hw hp
      subst e
      rw [if_pos hm, unspell_spell r hr]
      simp
    · rw [if_neg hm]
      have : s ≠ spell r := fun e => hm (e ▸ hw)
      simp [this]
theorem done2_esc {f : Fd} (hs : f.state = 2) (hr : f.rest ≠ []) : doneF f = false := by
  unfold doneF; rw [hs]
  cases h : f.rest with
  | nil => exact absurd h hr
  | cons a t => rfl
theorem run_esc {f : Fd} (hs : f.state = 2) (hr : f.rest = []) (i : Nat) (t : Bs) :
    ((oneR spells (92 :: t)).2.2 = true ∧ runF f i (92 :: t) = (none, i + (oneR spells (92 :: t)).2.1)) ∨
    ((oneR spells (92 :: t)).2.2 = false ∧ 3 ≤ (oneR spells (92 :: t)).2.1 ∧ (oneR spells (92 :: t)).2.1 ≤ (92 :: t).length ∧
      runF f i (92 :: t) = runF { f with name := f.name ++ [(hids.getD (oneR spells (92 :: t)).1 0).toUInt8], rest := [] } (i + (oneR spells (92 :: t)).2.1) ((92 :: t).drop (oneR spells (92 :: t)).2.1)) := by
  have h0 : stepF f 92 = some { f with rest := [92] } := by
    rw [step2_go hs (by decide), hr, rune_esc rfl, if_pos ⟨spell 0, by decide +kernel, by decide +kernel⟩, if_neg (by decide +kernel)]
    rfl
  rw [run_go h0]
  have h := run_words (L := spells) spells_free (fun p => { f with rest := p }) (fun w => { f with name := f.name ++ [(unspell w).toUInt8], rest := [] }) (fun p => p.head? = some 92)
    (fun p c hp => by
      cases p with
      | nil => cases hp
      | cons a p => exact hp)
    (fun p hp => done2_esc hs (fun e => by rw [show p = [] from e] at hp; cases hp))
    (fun p c hp => by
      have hne : p ≠ [] := fun e => by rw [e] at hp; cases hp
      have hp2 : (p ++ [c]).head? = some 92 := by
        cases p with
        | nil => cases hp
        | cons a p => exact hp
      by_cases hc : c = 32
      · subst hc
        rw [step2_blank (f := { f with rest := p }) hs hne, if_neg]
        rintro ⟨w, hw, h⟩
        obtain ⟨r, rfl⟩ := h
        exact (spells_head _ hw).2.1 (by simp)
      · rw [step2_go (f := { f with rest := p }) hs hc]
        dsimp only
        rw [rune_esc hp2]
        by_cases h1 : ∃ w ∈ spells, p ++ [c] <+: w
        · rw [if_pos h1, if_pos h1]
          by_cases h2 : p ++ [c] ∈ spells
          · rw [if_pos h2, if_pos h2]; rfl
          · rw [if_neg h2, if_neg h2]; rfl
        · rw [if_neg h1, if_neg h1]; rfl)
    t [92] (i + 1) rfl ⟨spell 0, by decide +kernel, by decide +kernel⟩ (fun w hw hp => by have := hp.length_le; have := (spells_head w hw).2.2; simp at *; omega) (by simp)
  rw [show ([92] ++ t : Bs) = 92 :: t from rfl] at h
  rcases h with ⟨h1, h2⟩ | ⟨w, r, h1, h2, h3, h4, h5, h6⟩
  · left; exact ⟨h1, by rw [h2]; congr 1; simp only [List.length_cons, List.length_nil]; omega⟩
  · right
    have hj : (oneR spells (92 :: t)).1 < spells.length := (List.getElem?_eq_some_iff.1 h2).1
    have hw : spells.getD (oneR spells (92 :: t)).1 [] = w := by rw [List.getD_eq_getElem?_getD, h2]; rfl
    have hu := unspell_at _ hj
    rw [hw] at hu
    refine ⟨h1, ?_, ?_, ?_⟩
    · rw [h3]; exact (spells_head w (List.mem_of_getElem? h2)).2.2
    · rw [h3, h4]; simp
    · rw [h6, h3, hu, show (92 :: t).drop w.length = (w ++ r).drop w.length from by rw [h4]]
      rw [List.drop_left, show i + 1 + w.length - [(92 : UInt8)].length = i + w.length from by simp only [List.length_cons, List.length_nil]; omega]
end Fe
end Go.Proofs.YtlgagbglldehjaaDoor
