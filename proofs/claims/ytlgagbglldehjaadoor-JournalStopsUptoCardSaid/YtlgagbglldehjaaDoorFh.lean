/- The reference's reader of lines and the program's are one: plain. -/
import Derived.Test.YtlgagbglldehjaaDoorFg
namespace Go.Proofs.YtlgagbglldehjaaDoor
set_option linter.unusedVariables false
set_option linter.unusedSimpArgs false
open Pj Rf St Es Nm Rp
namespace Fe
theorem enc_small {r : Nat} (h : r < 128) : Lib.encodeRune (r : Int) = [r.toUInt8] := by
  rw [Lib.encodeRune, Lib.encodeRuneZ_one (by omega) (by omega)]; rfl
theorem hids_small (j : Nat) : hids.getD j 0 < 128 := by
  rw [List.getD_eq_getElem?_getD]
  cases h : hids[j]? with
  | none => decide
  | some v =>
    have := List.mem_of_getElem? h
    simp [hids, hidsTo] at this
    simpa using this.1
theorem hid_hidden {c : Nat} (h : hiddenB (c : Int) = true) : c ≤ 127 := by simp [hiddenB] at h; omega
theorem not_hidden {x : Nat} (h : 128 ≤ x) : hiddenB (x : Int) = false := by
  cases e : hiddenB (x : Int) with
  | false => rfl
  | true => have := hid_hidden e; omega
theorem oneL_bd (r : Bs) : ∀ (l : List Bs) (b i : Nat), (oneL b i l r).2.1 ≤ max b r.length
  | [], b, i => by simp [oneL]; omega
  | x :: l, b, i => by
    have h1 := lcp_le_right x r
    rw [oneL]; split
    · show x.length ≤ _; omega
    · have := oneL_bd r l (max b (lcp x r)) (i + 1); omega
theorem oneR_bd (L : List Bs) (r : Bs) : (oneR L r).2.1 ≤ r.length := by have := oneL_bd r L 0 0; unfold oneR; omega
theorem brkL_bd (l : Bs) : ∀ f n, n ≤ l.length → brkL l f n ≤ l.length
  | 0, n, h => h
  | f + 1, n, h => by
    rw [brkL]; split
    · exact brkL_bd l f (n + 1) (by omega)
    · exact h
theorem brk_bd (l : Bs) (h : l ≠ []) : brk l ≤ l.length := by
  have := brkL_bd l 4 1 (List.length_pos_iff.2 h)
  unfold brk; split <;> omega
theorem run_step {f : Fd} (hs : f.state = 2) (hr : f.rest = []) (i : Nat) (l : Bs) :
    (nameStep l = none ∧ (l = [] ∨ l.head? = some 32)) ∨ (∃ b n, nameStep l = some (b, n, true) ∧ n ≤ l.length ∧ runF f i l = (none, i + n)) ∨
    (∃ b n, nameStep l = some (b, n, false) ∧ 1 ≤ n ∧ n ≤ l.length ∧ b ≠ [] ∧ runF f i l = runF { f with name := f.name ++ b, rest := [] } (i + n) (l.drop n)) := by
  cases l with
  | nil => left; exact ⟨by simp [nameStep], .inl rfl⟩
  | cons c t =>
    by_cases h32 : c = 32
    · subst h32; left; exact ⟨by simp [nameStep], .inr rfl⟩
    have hN : nameStep (c :: t) = if (Lib.decodeL (c :: t)).1 = 92 then some (Lib.encodeRune ((hids.getD (oneR spells (c :: t)).1 0 : Nat) : Int), (oneR spells (c :: t)).2.1, (oneR spells (c :: t)).2.2)
        else if (Lib.decodeL (c :: t)).1 = 65533 ∧ (Lib.decodeL (c :: t)).2 = 1 then some ([], brk (c :: t), true)
        else if hiddenB ((Lib.decodeL (c :: t)).1 : Int) = true then some ([], 0, true) else some (Lib.encodeRune ((Lib.decodeL (c :: t)).1 : Int), (Lib.decodeL (c :: t)).2, false) := by
      unfold nameStep; rw [if_neg]
      rintro (e | e)
      · cases e
      · exact h32 e
    right
    rcases (by omega : c.toNat < 128 ∨ 128 ≤ c.toNat) with hc | hc
    · have hd := Lib.decodeL_ascii c t hc
      by_cases h92 : c = 92
      · subst h92
        rw [hN, hd, if_pos (by rfl)]
        rcases run_esc hs hr i t with ⟨h1, h2⟩ | ⟨h1, h2, h3, h4⟩
        · left; refine ⟨_, _, by rw [h1], ?_, h2⟩
          exact oneR_bd _ _
        · right; refine ⟨_, _, by rw [h1], by omega, h3, ?_, ?_⟩
          · rw [enc_small (hids_small _)]; simp
          · rw [h4, enc_small (hids_small _)]
      · have n92 : ¬ c.toNat = 92 := fun e => h92 (UInt8.toNat_inj.1 e)
        rw [hN, hd, if_neg n92, if_neg (by rintro ⟨e, -⟩; simp only at e; omega)]
        dsimp only
        have hrf : runeF f.name f.rest c = if hiddenB (c.toNat : Int) = true then none else some (f.name ++ [c], []) := by
          unfold runeF
          rw [hr]
          dsimp only [List.nil_append]
          rw [if_neg (by simpa using h92), could1_ascii hc, seq_ascii [] hc]
          by_cases hh : hiddenB (c.toNat : Int) = true
          · rw [if_pos (.inr ⟨rfl, hh, hc⟩), if_pos hh]
          · rw [if_neg (by rintro (e | ⟨-, e, -⟩); cases e; exact hh e), if_neg hh]; rfl
        by_cases hh : hiddenB (c.toNat : Int) = true
        · left
          rw [if_pos hh] at hrf ⊢
          exact ⟨_, _, rfl, by omega, run_no (by rw [step2_go hs h32, hrf]; rfl) i t⟩
        · right
          rw [if_neg hh] at hrf ⊢
          refine ⟨_, _, rfl, Nat.le_refl _, by simp, by rw [enc_small hc]; simp, ?_⟩
          rw [run_go (f' := { f with name := f.name ++ [c], rest := [] }) (by rw [step2_go hs h32, hrf]; rfl), enc_small hc]
          simp
    · by_cases hl : leadB c
      · obtain ⟨g1, g2⟩ := run_lead hs hr hl i t
        by_cases hg : goodB c (c :: t)
        · obtain ⟨d1, d2⟩ := dec_good hl hg
          have hb := sz_bd hl
          right
          have hv : ¬ ((Lib.decodeL (c :: t)).1 = 65533 ∧ (Lib.decodeL (c :: t)).2 = 1) := by rintro ⟨-, e⟩; omega
          rw [hN, if_neg (by omega), if_neg hv, if_neg (by rw [not_hidden d2]; simp)]
          refine ⟨_, _, rfl, by omega, by rw [d1]; exact hg.1, ?_, ?_⟩
          · rw [Lib.encode_decode _ (by simp) hv, d1]
            intro e
            have := congrArg List.length e
            rw [List.length_take] at this
            have := hg.1
            simp at *; omega
          · rw [g1 hg, Lib.encode_decode _ (by simp) hv, d1]
        · left
          have hd := dec_bad hl hg
          rw [hN, hd, if_neg (by simp), if_pos ⟨rfl, rfl⟩]
          exact ⟨_, _, rfl, brk_bd _ (by simp), g2 hg⟩
      · left
        rw [hN, dec_none t hc hl, if_neg (by simp), if_pos ⟨rfl, rfl⟩]
        refine ⟨_, _, rfl, brk_bd _ (by simp), ?_⟩
        rw [brk_none t hc hl]
        refine run_no ?_ i t
        rw [step2_go hs h32, rune_high (s := [c]) (by rw [hr]; rfl) (by simpa using ge_ne92 hc) (fun _ => hc), if_pos (could1_none hc hl)]
        rfl
/-- a name, up to a blank or the end -/
theorem run_name : ∀ (F : Nat) (l : Bs) (f : Fd) (i : Nat), l.length ≤ F → f.state = 2 → f.rest = [] →
    (nameL F l).2.1 ≤ l.length ∧ ((nameL F l).2.2 = true → runF f i l = (none, i + (nameL F l).2.1)) ∧
      ((nameL F l).2.2 = false → (l.drop (nameL F l).2.1 = [] ∨ (l.drop (nameL F l).2.1).head? = some 32) ∧ runF f i l = runF { f with name := f.name ++ (nameL F l).1, rest := [] } (i + (nameL F l).2.1) (l.drop (nameL F l).2.1))
  | 0, l, f, i, hl, hs, hr => by
    have : l = [] := List.eq_nil_of_length_eq_zero (by omega)
    subst this
    have hf : ({ f with name := f.name ++ [], rest := [] } : Fd) = f := by rw [List.append_nil, ← hr]
    refine ⟨Nat.zero_le _, (fun h => by cases h), fun _ => ⟨.inl rfl, ?_⟩⟩
    show runF f i [] = runF { f with name := f.name ++ [], rest := [] } (i + 0) []
    rw [hf]; rfl
  | F + 1, l, f, i, hl, hs, hr => by
    have hf : ({ f with name := f.name ++ [], rest := [] } : Fd) = f := by rw [List.append_nil, ← hr]
    rcases run_step hs hr i l with ⟨h1, h2⟩ | ⟨b, n, h1, h2, h3⟩ | ⟨b, n, h1, h2, h3, -, h4⟩
    · rw [show nameL (F + 1) l = ([], 0, false) from by simp only [nameL, h1]]
      refine ⟨Nat.zero_le _, (fun h => by cases h), fun _ => ⟨h2, ?_⟩⟩
      show runF f i l = runF { f with name := f.name ++ [], rest := [] } (i + 0) l
      rw [hf]; rfl
    · rw [show nameL (F + 1) l = (b, n, true) from by simp only [nameL, h1]]
      exact ⟨h2, fun _ => h3, fun h => by cases h⟩
    · have ih := run_name F (l.drop n) { f with name := f.name ++ b, rest := [] } (i + n) (by rw [List.length_drop]; omega) hs rfl
      have e : nameL (F + 1) l = (b ++ (nameL F (l.drop n)).1, n + (nameL F (l.drop n)).2.1, (nameL F (l.drop n)).2.2) := by simp only [nameL, h1]
      rw [e, h4]
      dsimp only at ih ⊢
      generalize nameL F (l.drop n) = r at ih ⊢
      obtain ⟨i1, i2, i3⟩ := ih
      rw [List.length_drop] at i1
      refine ⟨by omega, fun h => by rw [i2 h, Nat.add_assoc], fun h => ?_⟩
      obtain ⟨j1, j2⟩ := i3 h
      rw [List.drop_drop] at j1 j2
      exact ⟨j1, by rw [j2, List.append_assoc, Nat.add_assoc]⟩

/-! ### a holder's word -/
theorem letter_F {h : Bs} (hl : letters h = true) (c : UInt8) : letterF h c = if letterB (c.toNat : Int) = true ∧ h.length < 32 then some (h ++ [c]) else none := by
  have e : letters (h ++ [c]) = letterB (c.toNat : Int) := by
    unfold letters at hl ⊢; rw [List.all_append, hl]; simp
  unfold letterF holderB
  rw [e, List.length_append, List.length_singleton]
  by_cases h1 : letterB (c.toNat : Int) = true
  · by_cases h2 : h.length < 32
    · rw [if_pos (by rw [h1]; simp; omega), if_pos ⟨h1, h2⟩]
    · rw [if_neg (by rw [h1]; simp; omega), if_neg (fun x => h2 x.2)]
  · rw [if_neg (by simp [h1]), if_neg (fun x => h1 x.1)]
theorem letters_snoc {h : Bs} {c : UInt8} (hl : letters h = true) (hc : letterB (c.toNat : Int) = true) : letters (h ++ [c]) = true := by
  unfold letters at hl ⊢; rw [List.all_append, hl]; simp [hc]
theorem letter_32 : letterB ((32 : UInt8).toNat : Int) = false := by decide
theorem run_hold : ∀ (l : Bs) (f : Fd) (i : Nat), f.state = 4 → letters f.hold = true → f.hold.length ≤ 32 →
    f.hold.length ≤ (holL f.hold.length l).1 ∧ (holL f.hold.length l).1 - f.hold.length ≤ l.length ∧ ((holL f.hold.length l).2 = true → runF f i l = (none, i + ((holL f.hold.length l).1 - f.hold.length))) ∧
      ((holL f.hold.length l).2 = false → 0 < (holL f.hold.length l).1 ∧ (∀ c t, l.drop ((holL f.hold.length l).1 - f.hold.length) = c :: t → letterB (c.toNat : Int) = false) ∧
        runF f i l = runF { f with hold := f.hold ++ l.take ((holL f.hold.length l).1 - f.hold.length) } (i + ((holL f.hold.length l).1 - f.hold.length)) (l.drop ((holL f.hold.length l).1 - f.hold.length)))
  | [], f, i, hs, hl, hk => by
    rw [holL_nil]
    simp only [Nat.sub_self, Nat.le_refl, true_and, List.length_nil, Nat.add_zero, List.take_nil, List.append_nil, List.drop_nil]
    refine ⟨fun h => ?_, fun h => ⟨by simpa [Nat.pos_iff_ne_zero] using h, fun c t e => (by cases e), trivial⟩⟩
    have hz : f.hold = [] := List.eq_nil_of_length_eq_zero (by simpa using h)
    have hd : doneF f = false := by unfold doneF; rw [hs, hz]; simp
    rw [runF, hd]; rfl
  | c :: l, f, i, hs, hl, hk => by
    cases hc : letterB (c.toNat : Int) with
    | false =>
      rw [holL_end l hc]
      simp only [Nat.sub_self, Nat.le_refl, true_and, Nat.add_zero, List.take_zero, List.append_nil, List.drop_zero]
      refine ⟨Nat.zero_le _, fun h => ?_, fun h => ⟨by simpa [Nat.pos_iff_ne_zero] using h, fun c' t e => (by cases e; exact hc), trivial⟩⟩
      have hz : f.hold = [] := List.eq_nil_of_length_eq_zero (by simpa using h)
      refine run_no ?_ i l
      unfold stepF; rw [hs]
      simp only [hz, ne_eq, not_true_eq_false, and_false, if_false]
      rw [letter_F (by rfl), if_neg (by rw [hc]; simp)]; rfl
    | true =>
      have h32 : c ≠ 32 := fun e => by subst e; rw [letter_32] at hc; cases hc
      have hst : stepF f c = (letterF f.hold c).map fun h => { f with hold := h } := by unfold stepF; rw [hs]; simp only [h32, false_and, if_false]
      by_cases hk2 : f.hold.length = 32
      · rw [hk2, holL_long l hc]
        simp only [Nat.sub_self, Nat.le_refl, true_and, Nat.add_zero]
        refine ⟨Nat.zero_le _, fun _ => run_no (by rw [hst, letter_F hl, if_neg (by omega)]; rfl) i l, fun h => by cases h⟩
      · rw [holL_go l hc hk2]
        have hst2 : stepF f c = some { f with hold := f.hold ++ [c] } := by rw [hst, letter_F hl, if_pos ⟨hc, by omega⟩]; rfl
        have ih := run_hold l { f with hold := f.hold ++ [c] } (i + 1) hs (letters_snoc hl hc) (by simp; omega)
        rw [run_go hst2]
        simp only [List.length_append, List.length_singleton] at ih
        generalize holL (f.hold.length + 1) l = r at ih ⊢
        obtain ⟨i1, i2, i3, i4⟩ := ih
        have e3 : r.1 - f.hold.length = (r.1 - (f.hold.length + 1)) + 1 := by omega
        rw [e3]
        refine ⟨by omega, by simp; omega, fun h => by rw [i3 h]; congr 1; omega, fun h => ?_⟩
        obtain ⟨j1, j2, j3⟩ := i4 h
        refine ⟨j1, j2, ?_⟩
        rw [j3, List.drop_succ_cons, List.take_succ_cons, List.append_assoc, List.singleton_append]
        congr 1; omega
theorem run_dest : ∀ (l : Bs) (f : Fd) (i : Nat), f.state = 6 → letters f.dest = true → f.dest.length ≤ 32 →
    f.dest.length ≤ (holL f.dest.length l).1 ∧ (holL f.dest.length l).1 - f.dest.length ≤ l.length ∧
      runF f i l = (if (holL f.dest.length l).2 || decide ((holL f.dest.length l).1 - f.dest.length < l.length) then (none, i + ((holL f.dest.length l).1 - f.dest.length)) else (some (entF { f with dest := f.dest ++ l.take ((holL f.dest.length l).1 - f.dest.length) }), 0))
  | [], f, i, hs, hl, hk => by
    rw [holL_nil]
    simp only [Nat.sub_self, Nat.le_refl, true_and, List.length_nil, Nat.add_zero, List.take_nil, List.append_nil, Nat.lt_irrefl, decide_false, Bool.or_false]
    have hd : doneF f = (f.dest != []) := by unfold doneF; rw [hs]; rfl
    rw [runF, hd]
    cases h : f.dest with
    | nil => simp
    | cons a t =>
      have e : ({ f with dest := a :: t } : Fd) = f := by rw [← h]
      rw [e]; simp
  | c :: l, f, i, hs, hl, hk => by
    have hst : stepF f c = (letterF f.dest c).map fun h => { f with dest := h } := by unfold stepF; rw [hs]; rfl
    cases hc : letterB (c.toNat : Int) with
    | false =>
      rw [holL_end l hc]
      simp only [Nat.sub_self, Nat.le_refl, true_and, Nat.add_zero]
      refine ⟨Nat.zero_le _, ?_⟩
      rw [run_no (by rw [hst, letter_F hl, if_neg (by rw [hc]; simp)]; rfl)]
      simp
    | true =>
      by_cases hk2 : f.dest.length = 32
      · rw [hk2, holL_long l hc]
        simp only [Nat.sub_self, Nat.le_refl, true_and, Nat.add_zero]
        refine ⟨Nat.zero_le _, ?_⟩
        rw [run_no (by rw [hst, letter_F hl, if_neg (by omega)]; rfl)]
        simp
      · rw [holL_go l hc hk2]
        have hst2 : stepF f c = some { f with dest := f.dest ++ [c] } := by rw [hst, letter_F hl, if_pos ⟨hc, by omega⟩]; rfl
        have ih := run_dest l { f with dest := f.dest ++ [c] } (i + 1) hs (letters_snoc hl hc) (by simp; omega)
        rw [run_go hst2]
        simp only [List.length_append, List.length_singleton] at ih
        generalize holL (f.dest.length + 1) l = r at ih ⊢
        obtain ⟨i1, i2, i3⟩ := ih
        have e3 : r.1 - f.dest.length = (r.1 - (f.dest.length + 1)) + 1 := by omega
        rw [e3]
        refine ⟨by omega, by simp; omega, ?_⟩
        rw [i3, List.length_cons, List.take_succ_cons, List.append_assoc, List.singleton_append, show decide (r.1 - (f.dest.length + 1) + 1 < l.length + 1) = decide (r.1 - (f.dest.length + 1) < l.length) from by simp, show i + 1 + (r.1 - (f.dest.length + 1)) = i + (r.1 - (f.dest.length + 1) + 1) from by omega]
end Fe
end Go.Proofs.YtlgagbglldehjaaDoor
