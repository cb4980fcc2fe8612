/- The reference's line reader, fed byte by byte: plain; how its parts go beside the program's. -/
import Derived.Test.YtlgagbglldehjaaDoorPn
namespace Go.Proofs.YtlgagbglldehjaaDoor
set_option linter.unusedVariables false
set_option linter.unusedSimpArgs false
open Pj Rf St Es Nm Rp
namespace Fe

/-! ### one of some texts -/
theorem lcp_pre : ∀ {s r : Bs}, lcp s r = s.length ↔ s <+: r
  | [], r => by simp [lcp]
  | a :: s, [] => by simp [lcp]
  | a :: s, b :: r => by
    by_cases h : a = b
    · subst h; rw [lcp_cons, List.length_cons, List.cons_prefix_cons, ← lcp_pre (s := s) (r := r)]; simp
    · rw [lcp_ne h, List.length_cons, List.cons_prefix_cons]; constructor
      · intro e; omega
      · intro e; exact absurd e.1 h
theorem lcp_take : ∀ (s r : Bs) (m : Nat), m ≤ lcp s r → s.take m = r.take m
  | _, _, 0, _ => by simp
  | [], r, m + 1, h => by simp [lcp] at h
  | _ :: _, [], m + 1, h => by simp [lcp] at h
  | a :: s, b :: r, m + 1, h => by
    by_cases e : a = b
    · subst e; rw [lcp_cons] at h; rw [List.take_succ_cons, List.take_succ_cons, lcp_take s r m (by omega)]
    · rw [lcp_ne e] at h; omega
theorem lcp_ge : ∀ (p s r : Bs), p <+: s → p <+: r → p.length ≤ lcp s r
  | [], _, _, _, _ => by simp
  | a :: p, s, r, h1, h2 => by
    obtain ⟨s', rfl⟩ := h1
    obtain ⟨r', rfl⟩ := h2
    rw [List.cons_append, List.cons_append, lcp_cons, List.length_cons]
    have := lcp_ge p (p ++ s') (p ++ r') (List.prefix_append _ _) (List.prefix_append _ _)
    omega
theorem oneL_none {r : Bs} {m : Nat} : ∀ (L : List Bs) (b i : Nat), (∀ w ∈ L, lcp w r ≠ w.length) → (∀ w ∈ L, lcp w r ≤ m) → b ≤ m → (b = m ∨ ∃ w ∈ L, lcp w r = m) → oneL b i L r = (0, m, true)
  | [], b, i, _, _, _, h => by
    rcases h with rfl | ⟨w, hw, _⟩
    · rfl
    · cases hw
  | s :: L, b, i, h1, h2, h3, h4 => by
    rw [oneL_miss b i L (h1 s (by simp))]
    have h5 := h2 s (by simp)
    refine oneL_none L _ _ (fun w hw => h1 w (by simp [hw])) (fun w hw => h2 w (by simp [hw])) (by omega) ?_
    rcases h4 with h4 | ⟨w, hw, h4⟩
    · left; omega
    · rcases List.mem_cons.1 hw with rfl | hw
      · left; omega
      · right; exact ⟨w, hw, h4⟩
theorem oneL_some {r w : Bs} : ∀ (L : List Bs) (b i j : Nat), L[j]? = some w → w <+: r → (∀ u ∈ L, u <+: r → u = w) → (∀ j', j' < j → L[j']? ≠ some w) → oneL b i L r = (i + j, w.length, false)
  | [], b, i, j, h, _, _, _ => by simp at h
  | s :: L, b, i, 0, h, hp, hu, _ => by
    simp at h; subst h
    rw [oneL_hit b i L (lcp_pre.2 hp)]; rfl
  | s :: L, b, i, j + 1, h, hp, hu, hj => by
    have hs : s ≠ w := by have := hj 0 (by omega); simpa using this
    rw [oneL_miss b i L (fun e => hs (hu s (by simp) (lcp_pre.1 e)))]
    rw [oneL_some L _ _ j (by simpa using h) hp (fun u hm => hu u (by simp [hm])) (fun j' h' => by have := hj (j' + 1) (by omega); simpa using this)]
    congr 1; omega
/-- no text of the list begins with another -/
def Free (L : List Bs) : Prop := ∀ u ∈ L, ∀ w ∈ L, u <+: w → u = w
theorem pre_both {u w r : Bs} (h1 : u <+: r) (h2 : w <+: r) : u <+: w ∨ w <+: u := List.prefix_or_prefix_of_prefix h1 h2
/-- fed up to p, the bytes l left: it ends here -/
theorem one_end {L : List Bs} {p : Bs} (hp : ∃ w ∈ L, p <+: w) (hn : ∀ w ∈ L, ¬ w <+: p) : oneR L p = (0, p.length, true) := by
  refine oneL_none L 0 0 (fun w hw e => hn w hw (lcp_pre.1 e)) (fun w hw => lcp_le_right w p) (Nat.zero_le _) ?_
  obtain ⟨w, hw, hpw⟩ := hp
  exact .inr ⟨w, hw, Nat.le_antisymm (lcp_le_right w p) (lcp_ge p w p hpw (List.prefix_refl p))⟩
theorem one_miss {L : List Bs} {p l : Bs} {c : UInt8} (hp : ∃ w ∈ L, p <+: w) (hn : ∀ w ∈ L, ¬ w <+: p) (hc : ∀ w ∈ L, ¬ (p ++ [c]) <+: w) : oneR L (p ++ c :: l) = (0, p.length, true) := by
  have hk : ∀ w ∈ L, lcp w (p ++ c :: l) ≤ p.length := fun w hw => by
    rcases Nat.lt_or_ge p.length (lcp w (p ++ c :: l)) with h | h
    · exfalso
      have h1 := lcp_take w (p ++ c :: l) (p.length + 1) h
      rw [show (p ++ c :: l).take (p.length + 1) = p ++ [c] from by rw [List.take_append]; simp [List.take_of_length_le]] at h1
      exact hc w hw (h1 ▸ List.take_prefix _ w)
    · exact h
  refine oneL_none L 0 0 (fun w hw e => ?_) hk (Nat.zero_le _) ?_
  · have h1 := lcp_pre.1 e
    have h2 := hk w hw
    rw [e] at h2
    exact hn w hw (List.prefix_of_prefix_length_le h1 (List.prefix_append p _) h2)
  · obtain ⟨w, hw, hpw⟩ := hp
    exact .inr ⟨w, hw, Nat.le_antisymm (hk w hw) (lcp_ge p w _ hpw (List.prefix_append p _))⟩
theorem one_hit {L : List Bs} {w l : Bs} {j : Nat} (hF : Free L) (hj : L[j]? = some w) (hj' : ∀ j', j' < j → L[j']? ≠ some w) : oneR L (w ++ l) = (j, w.length, false) := by
  have hm := List.mem_of_getElem? hj
  have h := oneL_some L 0 0 j hj (List.prefix_append w l) (fun u hu h => by
    rcases pre_both h (List.prefix_append w l) with h1 | h1
    · exact hF u hu w hm h1
    · exact (hF w hm u hu h1).symm) hj'
  rw [Nat.zero_add] at h
  exact h

/-! ### the reference's reader -/
structure Fd where
  clock : Nat
  kind : Int
  hold : Bs
  dest : Bs
  ticks : Nat
  state : Nat
  part : Bs
  name : Bs
  rest : Bs
/-- one more digit -/
def digitF (part : Bs) (n : Nat) (c : UInt8) : Option Nat :=
  if c.toNat < 48 ∨ 57 < c.toNat ∨ part = [48] then none
  else if 1844674407370955161 < n ∨ (n = 1844674407370955161 ∧ 5 < c.toNat - 48) then none
  else some (10 * n + (c.toNat - 48))
def kindW : List Bs := kindL.map bs
/-- does a kind's word begin so, or which is it? -/
def beginsF (part : Bs) : Option Nat :=
  if kindW.any (fun w => part.isPrefixOf w) then some (if part ∈ kindW then kindW.idxOf part + 1 else 0) else none
/-- how many bytes the sequence at the head has; 0: none -/
def seqN (l : Bs) : Nat := if l = [] ∨ ((Lib.decodeL l).1 = 65533 ∧ (Lib.decodeL l).2 = 1) then 0 else (Lib.decodeL l).2
def couldT : List Bs := [[0x90, 0x80, 0x80], [0xa0, 0x80, 0x80], [0x90, 0x80, 0xbf], [0xa0, 0x80, 0x80], [0x90, 0xbf, 0x80], [0xa0, 0x80, 0x80], [0x90, 0xbf, 0xbf], [0xa0, 0x80, 0x80],
  [0x8f, 0x80, 0x80], [0x80, 0x80, 0x80], [0x8f, 0x80, 0xbf], [0x80, 0x80, 0x80], [0x8f, 0xbf, 0x80], [0x80, 0x80, 0x80], [0x8f, 0xbf, 0xbf], [0x80, 0x80, 0x80]]
def couldF (s : Bs) : Bool := couldT.any fun t => decide (s.length ≤ seqN (s ++ t))
/-- one more byte of a name -/
def runeF (name rest : Bs) (c : UInt8) : Option (Bs × Bs) :=
  let s := rest ++ [c]
  if s.getD 0 0 = 92 then
    match hids.find? (fun r => s.isPrefixOf (spell r)) with
    | none => none
    | some r => if s = spell r then some (name ++ [r.toUInt8], []) else some (name, s)
  else if couldF s = false ∨ (s.length = 1 ∧ hiddenB (c.toNat : Int) = true ∧ c.toNat < 128) then none
  else if seqN s = s.length then some (name ++ s, []) else some (name, s)
def letterF (h : Bs) (c : UInt8) : Option Bs := if holderB (h ++ [c]) then some (h ++ [c]) else none
def stepF (f : Fd) (c : UInt8) : Option Fd :=
  match f.state with
  | 0 => if c = 32 ∧ f.part ≠ [] then some { f with part := [], state := 1 } else (digitF f.part f.clock c).map fun n => { f with clock := n, part := f.part ++ [c] }
  | 1 => (beginsF (f.part ++ [c])).map fun (k : Nat) => if 0 < k then { f with kind := (k : Int), part := [], state := if k = 6 then 7 else 2 } else { f with kind := 0, part := f.part ++ [c] }
  | 7 => (digitF f.part f.ticks c).map fun n => { f with ticks := n, part := f.part ++ [c] }
  | 2 => if c = 32 ∧ f.rest = [] ∧ f.name ≠ [] ∧ f.kind ≤ 3 then some { f with part := [32], state := 3 } else if c = 32 then none else (runeF f.name f.rest c).map fun x => { f with name := x.1, rest := x.2 }
  | 3 => if (f.part ++ [c]).isPrefixOf byB then some { f with part := f.part ++ [c], state := if f.part ++ [c] = byB then 4 else 3 } else none
  | 4 => if c = 32 ∧ f.kind = 3 ∧ f.hold ≠ [] then some { f with part := [32], state := 5 } else (letterF f.hold c).map fun h => { f with hold := h }
  | 5 => if (f.part ++ [c]).isPrefixOf toB then some { f with part := f.part ++ [c], state := if f.part ++ [c] = toB then 6 else 5 } else none
  | 6 => (letterF f.dest c).map fun h => { f with dest := h }
  | _ => none
def doneF (f : Fd) : Bool :=
  match f.state with
  | 7 => f.part != []
  | 2 => f.rest == [] && f.name != [] && decide (4 ≤ f.kind)
  | 4 => decide (f.kind < 3) && f.hold != []
  | 6 => f.dest != []
  | _ => false
def entF (f : Fd) : Ent := ⟨f.clock, f.kind, f.name, f.hold, f.dest, f.ticks⟩
def runF : Fd → Nat → Bs → Option Ent × Nat
  | f, i, [] => if doneF f then (some (entF f), 0) else (none, i)
  | f, i, c :: l => match stepF f c with
    | none => (none, i)
    | some f' => runF f' (i + 1) l
def zeroF : Fd := ⟨0, 0, [], [], 0, 0, [], [], []⟩
def readF (l : Bs) : Option Ent × Nat := runF zeroF 0 l
theorem run_no {f : Fd} {c : UInt8} (h : stepF f c = none) (i : Nat) (l : Bs) : runF f i (c :: l) = (none, i) := by rw [runF, h]
theorem run_go {f f' : Fd} {c : UInt8} (h : stepF f c = some f') (i : Nat) (l : Bs) : runF f i (c :: l) = runF f' (i + 1) l := by rw [runF, h]

/-! ### numbers -/
theorem digit_no {part : Bs} {n : Nat} {c : UInt8} (h : c.toNat < 48 ∨ 57 < c.toNat) : digitF part n c = none := by
  unfold digitF; rw [if_pos (by rcases h with h | h; exact .inl h; exact .inr (.inl h))]
/-- what a number's reader has had: k bytes, the first of them a nought (z) -/
def Had (part : Bs) (z : Bool) (k : Nat) (l : Bs) : Prop := part.length = k ∧ (part = [48] ↔ (0 < k ∧ z = true)) ∧ (k = 0 → z = zeroB l)
theorem had_start (l : Bs) : Had [] (zeroB l) 0 l := ⟨rfl, by simp, fun _ => rfl⟩
theorem digit_bad {part l : Bs} {z : Bool} {k n : Nat} {c : UInt8} (hH : Had part z k (c :: l)) (h1 : 48 ≤ c.toNat) (h2 : c.toNat ≤ 57) (h : (0 < k ∧ z = true) ∨ (18446744073709551615 - (c.toNat - 48)) / 10 < n) : digitF part n c = none := by
  unfold digitF
  rcases h with h | h
  · rw [if_pos (.inr (.inr (hH.2.1.2 h)))]
  · split
    · rfl
    · rw [if_pos (by omega)]
theorem digit_go {part l : Bs} {z : Bool} {k n : Nat} {c : UInt8} (hH : Had part z k (c :: l)) (h1 : 48 ≤ c.toNat) (h2 : c.toNat ≤ 57) (h3 : ¬ (0 < k ∧ z = true)) (h : n ≤ (18446744073709551615 - (c.toNat - 48)) / 10) :
    digitF part n c = some (10 * n + (c.toNat - 48)) ∧ Had (part ++ [c]) z (k + 1) l := by
  constructor
  · unfold digitF
    rw [if_neg (by rintro (e | e | e); omega; omega; exact h3 (hH.2.1.1 e)), if_neg (by omega)]
  · refine ⟨by rw [List.length_append, hH.1]; rfl, ⟨fun e => ?_, fun e => ?_⟩, by omega⟩
    · have hl : part = [] := by
        cases part with
        | nil => rfl
        | cons a t => simp at e
      subst hl
      have hk : k = 0 := hH.1.symm
      rw [hH.2.2 hk]
      have : c = 48 := by simpa using e
      subst this; simp [zeroB]
    · have hk : k = 0 := by
        rcases Nat.eq_zero_or_pos k with h0 | h0
        · exact h0
        · exact absurd ⟨h0, e.2⟩ h3
      have hp : part = [] := List.eq_nil_of_length_eq_zero (hH.1.trans hk)
      have hz := hH.2.2 hk
      rw [e.2] at hz
      have : c = 48 := by simpa [zeroB] using hz.symm
      rw [hp, this]; rfl
theorem dig_parts (c : UInt8) : (c.toNat < 48 ∨ 57 < c.toNat) ∨ (48 ≤ c.toNat ∧ c.toNat ≤ 57) := by omega
theorem not_blank {c : UInt8} (h1 : 48 ≤ c.toNat) : c ≠ 32 := fun e => by subst e; simp at h1
/-- the clock's number and the blank behind it -/
theorem run_clock (z : Bool) : ∀ (l : Bs) (f : Fd) (i k : Nat), f.state = 0 → Had f.part z k l →
    runF f i l = (let r := numL z k f.clock l
      if r.2.2 then (none, i + (r.2.1 - k)) else if (l.drop (r.2.1 - k)).head? = some 32 then runF { f with clock := r.1, part := [], state := 1 } (i + (r.2.1 - k) + 1) (l.drop (r.2.1 - k + 1)) else (none, i + (r.2.1 - k))) ∧ k ≤ (numL z k f.clock l).2.1
  | [], f, i, k, hs, hH => by
    rw [numL_nil, runF]
    have hd : doneF f = false := by unfold doneF; rw [hs]; rfl
    rw [hd]; simp
  | c :: l, f, i, k, hs, hH => by
    rcases dig_parts c with hd | ⟨h1, h2⟩
    · rw [numL_end l (by omega)]
      simp only [Nat.sub_self, Nat.add_zero, List.drop_zero, List.head?_cons]
      by_cases hk : k = 0
      · subst hk
        have hp : f.part = [] := List.eq_nil_of_length_eq_zero hH.1
        have hst : stepF f c = none := by unfold stepF; rw [hs]; simp only [hp, ne_eq, not_true_eq_false, and_false, if_false, digit_no hd, Option.map_none]
        rw [run_no hst]; simp
      · have hp : f.part ≠ [] := fun e => hk (by rw [← hH.1, e]; rfl)
        have hkb : (k == 0) = false := by simpa using hk
        rw [hkb]
        by_cases hc : c = 32
        · subst hc
          have hst : stepF f 32 = some { f with part := [], state := 1 } := by unfold stepF; rw [hs]; simp only [hp, ne_eq, not_false_eq_true, and_self, if_true]
          rw [run_go hst]; simp
        · have hst : stepF f c = none := by unfold stepF; rw [hs]; simp only [hc, false_and, if_false, digit_no hd, Option.map_none]
          rw [run_no hst]
          have : some c ≠ some (32 : UInt8) := by simpa using hc
          simp [hc]
    · by_cases hb : (0 < k ∧ z = true) ∨ (18446744073709551615 - (c.toNat - 48)) / 10 < f.clock
      · rw [numL_bad l (by omega) (by omega) (by rcases hb with h | h; exact .inl h; right; omega)]
        have hst : stepF f c = none := by unfold stepF; rw [hs]; simp only [not_blank h1, false_and, if_false, digit_bad hH h1 h2 hb, Option.map_none]
        rw [run_no hst]; simp
      · have h3 : ¬ (0 < k ∧ z = true) := fun e => hb (.inl e)
        have h4 : f.clock ≤ (18446744073709551615 - (c.toNat - 48)) / 10 := by omega
        obtain ⟨e1, e2⟩ := digit_go hH h1 h2 h3 h4
        rw [numL_go l (by omega) (by omega) h3 (by omega)]
        have hst : stepF f c = some { f with clock := 10 * f.clock + (c.toNat - 48), part := f.part ++ [c] } := by unfold stepF; rw [hs]; simp only [not_blank h1, false_and, if_false, e1, Option.map_some]
        rw [run_go hst]
        obtain ⟨h5, h6⟩ := run_clock z l { f with clock := 10 * f.clock + (c.toNat - 48), part := f.part ++ [c] } (i + 1) (k + 1) hs e2
        rw [h5]
        dsimp only at h6 ⊢
        generalize numL z (k + 1) (10 * f.clock + (c.toNat - 48)) l = r at h6 ⊢
        have e3 : r.2.1 - k = (r.2.1 - (k + 1)) + 1 := by omega
        rw [e3, List.drop_succ_cons, List.drop_succ_cons, show i + 1 + (r.2.1 - (k + 1)) = i + (r.2.1 - (k + 1) + 1) by omega]
        exact ⟨rfl, by omega⟩
/-- the ticks' number, up to the end -/
theorem run_ticks (z : Bool) : ∀ (l : Bs) (f : Fd) (i k : Nat), f.state = 7 → Had f.part z k l →
    runF f i l = (let r := numL z k f.ticks l
      if r.2.2 || decide (r.2.1 - k < l.length) then (none, i + (r.2.1 - k)) else (some (entF { f with ticks := r.1 }), 0)) ∧ k ≤ (numL z k f.ticks l).2.1
  | [], f, i, k, hs, hH => by
    rw [numL_nil, runF]
    have hd : doneF f = (f.part != []) := by unfold doneF; rw [hs]; rfl
    rw [hd]
    by_cases hk : k = 0
    · have hp : f.part = [] := List.eq_nil_of_length_eq_zero (hH.1.trans hk)
      rw [hp, hk]; simp
    · have hp : f.part ≠ [] := fun e => hk (by rw [← hH.1, e]; rfl)
      have hkb : (k == 0) = false := by simpa using hk
      rw [hkb]; simp [hp]
  | c :: l, f, i, k, hs, hH => by
    rcases dig_parts c with hd | ⟨h1, h2⟩
    · rw [numL_end l (by omega)]
      have hst : stepF f c = none := by unfold stepF; rw [hs]; simp only [digit_no hd, Option.map_none]
      rw [run_no hst]; simp
    · by_cases hb : (0 < k ∧ z = true) ∨ (18446744073709551615 - (c.toNat - 48)) / 10 < f.ticks
      · rw [numL_bad l (by omega) (by omega) (by rcases hb with h | h; exact .inl h; right; omega)]
        have hst : stepF f c = none := by unfold stepF; rw [hs]; simp only [digit_bad hH h1 h2 hb, Option.map_none]
        rw [run_no hst]; simp
      · have h3 : ¬ (0 < k ∧ z = true) := fun e => hb (.inl e)
        have h4 : f.ticks ≤ (18446744073709551615 - (c.toNat - 48)) / 10 := by omega
        obtain ⟨e1, e2⟩ := digit_go hH h1 h2 h3 h4
        rw [numL_go l (by omega) (by omega) h3 (by omega)]
        have hst : stepF f c = some { f with ticks := 10 * f.ticks + (c.toNat - 48), part := f.part ++ [c] } := by unfold stepF; rw [hs]; simp only [e1, Option.map_some]
        rw [run_go hst]
        obtain ⟨h5, h6⟩ := run_ticks z l { f with ticks := 10 * f.ticks + (c.toNat - 48), part := f.part ++ [c] } (i + 1) (k + 1) hs e2
        rw [h5]
        dsimp only at h6 ⊢
        generalize numL z (k + 1) (10 * f.ticks + (c.toNat - 48)) l = r at h6 ⊢
        have e3 : r.2.1 - k = (r.2.1 - (k + 1)) + 1 := by omega
        rw [e3, show i + 1 + (r.2.1 - (k + 1)) = i + (r.2.1 - (k + 1) + 1) by omega, List.length_cons, show decide (r.2.1 - (k + 1) + 1 < l.length + 1) = decide (r.2.1 - (k + 1) < l.length) from by simp]
        exact ⟨rfl, by omega⟩

/-! ### the kind's word -/
theorem kindW_free : Free kindW := by
  have : ∀ u ∈ kindW, ∀ w ∈ kindW, u.isPrefixOf w = true → u = w := by decide +kernel
  intro u hu w hw h
  exact this u hu w hw (List.isPrefixOf_iff_prefix.2 h)
end Fe
end Go.Proofs.YtlgagbglldehjaaDoor
/- A name, fed byte by byte: its sequences: plain. -/
namespace Go.Proofs.YtlgagbglldehjaaDoor
set_option linter.unusedVariables false
set_option linter.unusedSimpArgs false
open Pj Rf St Es Nm Rp
namespace Fe
def szB (c : UInt8) : Nat := Lib.firstT c.toNat % 8
def okB (c d : UInt8) : Prop := Lib.accLo (Lib.firstT c.toNat / 16) ≤ d.toNat ∧ d.toNat ≤ Lib.accHi (Lib.firstT c.toNat / 16)
def contB (d : UInt8) : Prop := 128 ≤ d.toNat ∧ d.toNat ≤ 191
def leadB (c : UInt8) : Prop := Lib.firstT c.toNat < 240
instance (c d : UInt8) : Decidable (okB c d) := by unfold okB; infer_instance
instance (d : UInt8) : Decidable (contB d) := by unfold contB; infer_instance
instance (c : UInt8) : Decidable (leadB c) := by unfold leadB; infer_instance
theorem lead_parts {c : UInt8} (h : leadB c) : (194 ≤ c.toNat ∧ c.toNat < 224 ∧ szB c = 2 ∧ ∀ d, okB c d ↔ 128 ≤ d.toNat ∧ d.toNat ≤ 191) ∨ (c.toNat = 224 ∧ szB c = 3 ∧ ∀ d, okB c d ↔ 160 ≤ d.toNat ∧ d.toNat ≤ 191) ∨
    (225 ≤ c.toNat ∧ c.toNat < 240 ∧ szB c = 3 ∧ ∀ d, okB c d ↔ 128 ≤ d.toNat ∧ d.toNat ≤ 191) ∨ (c.toNat = 237 ∧ szB c = 3 ∧ ∀ d, okB c d ↔ 128 ≤ d.toNat ∧ d.toNat ≤ 159) ∨
    (c.toNat = 240 ∧ szB c = 4 ∧ ∀ d, okB c d ↔ 144 ≤ d.toNat ∧ d.toNat ≤ 191) ∨ (241 ≤ c.toNat ∧ c.toNat < 244 ∧ szB c = 4 ∧ ∀ d, okB c d ↔ 128 ≤ d.toNat ∧ d.toNat ≤ 191) ∨ (c.toNat = 244 ∧ szB c = 4 ∧ ∀ d, okB c d ↔ 128 ≤ d.toNat ∧ d.toNat ≤ 143) := by
  rcases Lib.firstT_low h with e | e | e | e | e | e | e
  · left; refine ⟨e.1, e.2, by simp [szB, Lib.firstT_C2 e], fun d => by simp [okB, Lib.firstT_C2 e, Lib.accLo, Lib.accHi]⟩
  · right; left; refine ⟨e, by simp [szB, Lib.firstT_E0 e], fun d => by simp [okB, Lib.firstT_E0 e, Lib.accLo, Lib.accHi]⟩
  · right; right; left; refine ⟨by omega, by omega, by simp [szB, Lib.firstT_E1 e], fun d => by simp [okB, Lib.firstT_E1 e, Lib.accLo, Lib.accHi]⟩
  · right; right; right; left; refine ⟨e, by simp [szB, Lib.firstT_ED e], fun d => by simp [okB, Lib.firstT_ED e, Lib.accLo, Lib.accHi]⟩
  · right; right; right; right; left; refine ⟨e, by simp [szB, Lib.firstT_F0 e], fun d => by simp [okB, Lib.firstT_F0 e, Lib.accLo, Lib.accHi]⟩
  · right; right; right; right; right; left; refine ⟨e.1, e.2, by simp [szB, Lib.firstT_F1 e], fun d => by simp [okB, Lib.firstT_F1 e, Lib.accLo, Lib.accHi]⟩
  · right; right; right; right; right; right; refine ⟨e, by simp [szB, Lib.firstT_F4 e], fun d => by simp [okB, Lib.firstT_F4 e, Lib.accLo, Lib.accHi]⟩
theorem sz_bd {c : UInt8} (h : leadB c) : 2 ≤ szB c ∧ szB c ≤ 4 := by
  rcases lead_parts h with e | e | e | e | e | e | e <;> omega
theorem lead_ge {c : UInt8} (h : leadB c) : 194 ≤ c.toNat := by
  rcases lead_parts h with e | e | e | e | e | e | e <;> omega
theorem ok_ge {c d : UInt8} (h : leadB c) (hd : okB c d) : 128 ≤ d.toNat := by
  rcases lead_parts h with ⟨_, _, _, e⟩ | ⟨_, _, e⟩ | ⟨_, _, _, e⟩ | ⟨_, _, e⟩ | ⟨_, _, e⟩ | ⟨_, _, _, e⟩ | ⟨_, _, e⟩ <;> (have := (e d).1 hd; omega)
/-- the bytes at the head are a whole sequence of the lead byte c -/
def goodB (c : UInt8) (l : Bs) : Prop := szB c ≤ l.length ∧ okB c (l.getD 1 0) ∧ (3 ≤ szB c → contB (l.getD 2 0)) ∧ (4 ≤ szB c → contB (l.getD 3 0))
theorem dec_lead {c : UInt8} (t : Bs) (h : leadB c) : Lib.decodeL (c :: t) = Lib.slowN (c :: t).length c.toNat ((c :: t).getD 1 0).toNat ((c :: t).getD 2 0).toNat ((c :: t).getD 3 0).toNat (szB c) (Lib.accLo (Lib.firstT c.toNat / 16)) (Lib.accHi (Lib.firstT c.toNat / 16)) := by
  rw [Lib.decodeL_N]
  exact (Lib.slow_eq _ _ _ _ _ (by simp) (UInt8.toNat_lt _) (UInt8.toNat_lt _) (UInt8.toNat_lt _) h).symm
theorem dec_bad {c : UInt8} {t : Bs} (h : leadB c) (hg : ¬ goodB c (c :: t)) : Lib.decodeL (c :: t) = (65533, 1) := by
  rw [dec_lead t h]
  unfold goodB okB contB at hg
  unfold Lib.slowN
  have hs := sz_bd h
  repeat' split
  all_goals first | rfl | (exfalso; apply hg; refine ⟨by omega, ⟨by omega, by omega⟩, fun _ => ⟨by omega, by omega⟩, fun _ => ⟨by omega, by omega⟩⟩)
theorem dec_good {c : UInt8} {t : Bs} (h : leadB c) (hg : goodB c (c :: t)) : (Lib.decodeL (c :: t)).2 = szB c ∧ 128 ≤ (Lib.decodeL (c :: t)).1 := by
  rw [dec_lead t h]
  obtain ⟨h1, h2, h3, h4⟩ := hg
  have hs := sz_bd h
  have h2' := h2
  unfold okB at h2
  unfold contB at h3 h4
  unfold Lib.slowN
  rw [if_neg (by omega), if_neg (by omega)]
  have k1 := UInt8.toNat_lt ((c :: t).getD 1 0)
  rcases lead_parts h with ⟨_, _, e, o⟩ | ⟨_, e, o⟩ | ⟨_, _, e, o⟩ | ⟨_, e, o⟩ | ⟨_, e, o⟩ | ⟨_, _, e, o⟩ | ⟨_, e, o⟩
  all_goals have o1 := (o _).1 h2'
  all_goals (try have h3' := h3 (by omega))
  all_goals (try have h4' := h4 (by omega))
  all_goals repeat' split
  all_goals first | (exfalso; omega) | (refine ⟨by simp only; omega, by simp only; omega⟩)
theorem dec_none {c : UInt8} (t : Bs) (h1 : 128 ≤ c.toNat) (h : ¬ leadB c) : Lib.decodeL (c :: t) = (65533, 1) := by
  rw [Lib.decodeL_N]
  refine Lib.bad_eq _ _ _ _ _ (UInt8.toNat_lt _) ?_
  show Lib.firstT c.toNat = 241
  unfold leadB at h
  unfold Lib.firstT at h ⊢
  repeat' split at h
  all_goals first | (exfalso; omega) | (exfalso; apply h; decide) | skip
  all_goals (repeat' split)
  all_goals first | rfl | (exfalso; omega)
theorem seq_ascii {c : UInt8} (t : Bs) (h : c.toNat < 128) : seqN (c :: t) = 1 := by
  unfold seqN; rw [Lib.decodeL_ascii c t h, if_neg]
  rintro (e | ⟨e, -⟩)
  · cases e
  · simp only at e; omega
theorem seq_good {c : UInt8} {t : Bs} (h : leadB c) (hg : goodB c (c :: t)) : seqN (c :: t) = szB c := by
  obtain ⟨h1, h2⟩ := dec_good h hg
  have hs := sz_bd h
  unfold seqN; rw [if_neg, h1]
  rintro (e | ⟨-, e⟩)
  · cases e
  · omega
theorem seq_bad {c : UInt8} {t : Bs} (h : leadB c) (hg : ¬ goodB c (c :: t)) : seqN (c :: t) = 0 := by
  unfold seqN; rw [dec_bad h hg, if_pos (.inr ⟨rfl, rfl⟩)]
theorem seq_none {c : UInt8} (t : Bs) (h1 : 128 ≤ c.toNat) (h : ¬ leadB c) : seqN (c :: t) = 0 := by
  unfold seqN; rw [dec_none t h1 h, if_pos (.inr ⟨rfl, rfl⟩)]
/-! ### could these be the beginning -/
theorem could_yes {s : Bs} (t : Bs) (ht : t ∈ couldT) (h : s.length ≤ seqN (s ++ t)) : couldF s = true := List.any_eq_true.2 ⟨t, ht, decide_eq_true h⟩
theorem could_no {s : Bs} (h : ∀ t ∈ couldT, seqN (s ++ t) < s.length) : couldF s = false := by
  rw [couldF, List.any_eq_false]
  intro t ht
  have := h t ht
  simp only [decide_eq_true_eq]; omega
theorem could1 {c : UInt8} (h : leadB c) : couldF [c] = true := by
  have hs := sz_bd h
  have key : ∀ a b d : UInt8, okB c a → contB b → contB d → goodB c (c :: [a, b, d]) := fun a b d h1 h2 h3 => ⟨by simp; omega, h1, fun _ => h2, fun _ => h3⟩
  have fin : ∀ a b d : UInt8, [a, b, d] ∈ couldT → okB c a → contB b → contB d → couldF [c] = true := fun a b d hm h1 h2 h3 =>
    could_yes [a, b, d] hm (by rw [show ([c] ++ [a, b, d] : Bs) = c :: [a, b, d] from rfl, seq_good h (key a b d h1 h2 h3)]; simp; omega)
  rcases lead_parts h with ⟨_, _, e, o⟩ | ⟨_, e, o⟩ | ⟨_, _, e, o⟩ | ⟨_, e, o⟩ | ⟨_, e, o⟩ | ⟨_, _, e, o⟩ | ⟨_, e, o⟩
  · exact fin 0x90 0x80 0x80 (by decide) ((o _).2 (by decide)) (by decide) (by decide)
  · exact fin 0xa0 0x80 0x80 (by decide) ((o _).2 (by decide)) (by decide) (by decide)
  · exact fin 0x90 0x80 0x80 (by decide) ((o _).2 (by decide)) (by decide) (by decide)
  · exact fin 0x90 0x80 0x80 (by decide) ((o _).2 (by decide)) (by decide) (by decide)
  · exact fin 0x90 0x80 0x80 (by decide) ((o _).2 (by decide)) (by decide) (by decide)
  · exact fin 0x90 0x80 0x80 (by decide) ((o _).2 (by decide)) (by decide) (by decide)
  · exact fin 0x80 0x80 0x80 (by decide) ((o _).2 (by decide)) (by decide) (by decide)
theorem could1_ascii {c : UInt8} (h : c.toNat < 128) : couldF [c] = true := could_yes [0x90, 0x80, 0x80] (by decide) (by rw [List.singleton_append, seq_ascii _ h]; simp)
theorem could1_none {c : UInt8} (h1 : 128 ≤ c.toNat) (h : ¬ leadB c) : couldF [c] = false := could_no fun t _ => by rw [List.singleton_append, seq_none _ h1 h]; simp
theorem could2 {c d : UInt8} (h : leadB c) : couldF [c, d] = decide (okB c d) := by
  have hs := sz_bd h
  by_cases hd : okB c d
  · rw [decide_eq_true hd]
    refine could_yes [0x90, 0x80, 0x80] (by decide) ?_
    rw [show ([c, d] ++ [0x90, 0x80, 0x80] : Bs) = c :: d :: [0x90, 0x80, 0x80] from rfl, seq_good (t := d :: [0x90, 0x80, 0x80]) h ⟨by simp; omega, hd, fun _ => (by decide : contB 0x90), fun _ => (by decide : contB 0x80)⟩]
    simp; omega
  · rw [decide_eq_false hd]
    refine could_no fun t _ => ?_
    rw [show ([c, d] ++ t : Bs) = c :: d :: t from rfl, seq_bad (t := d :: t) h (fun hg => hd hg.2.1)]
    simp
theorem could3 {c d e : UInt8} (h : leadB c) (h3 : 3 ≤ szB c) (hd : okB c d) : couldF [c, d, e] = decide (contB e) := by
  have hs := sz_bd h
  by_cases he : contB e
  · rw [decide_eq_true he]
    refine could_yes [0x90, 0x80, 0x80] (by decide) ?_
    rw [show ([c, d, e] ++ [0x90, 0x80, 0x80] : Bs) = c :: d :: e :: [0x90, 0x80, 0x80] from rfl, seq_good (t := d :: e :: [0x90, 0x80, 0x80]) h ⟨by simp; omega, hd, fun _ => he, fun _ => (by decide : contB 0x90)⟩]
    simp; omega
  · rw [decide_eq_false he]
    refine could_no fun t _ => ?_
    rw [show ([c, d, e] ++ t : Bs) = c :: d :: e :: t from rfl, seq_bad (t := d :: e :: t) h (fun hg => he (hg.2.2.1 h3))]
    simp
theorem could4 {c d e g : UInt8} (h : leadB c) (h4 : szB c = 4) (hd : okB c d) (he : contB e) : couldF [c, d, e, g] = decide (contB g) := by
  by_cases hg : contB g
  · rw [decide_eq_true hg]
    refine could_yes [0x90, 0x80, 0x80] (by decide) ?_
    rw [show ([c, d, e, g] ++ [0x90, 0x80, 0x80] : Bs) = c :: d :: e :: g :: [0x90, 0x80, 0x80] from rfl, seq_good (t := d :: e :: g :: [0x90, 0x80, 0x80]) h ⟨by simp; omega, hd, fun _ => he, fun _ => hg⟩]
    simp; omega
  · rw [decide_eq_false hg]
    refine could_no fun t _ => ?_
    rw [show ([c, d, e, g] ++ t : Bs) = c :: d :: e :: g :: t from rfl, seq_bad (t := d :: e :: g :: t) h (fun hG => hg (hG.2.2.2 (by omega)))]
    simp
/-! ### how many bytes could begin a sequence -/
theorem full1 {c : UInt8} (h : leadB c) : fullB [c] = false := by
  have hs := sz_bd h
  simp only [fullB, List.getD_cons_zero, show (Lib.firstT c.toNat % 8) = szB c from rfl]
  rw [if_neg (by simp), if_neg (by simp; omega)]
  simp
theorem full2 {c d : UInt8} (h : leadB c) : fullB [c, d] = (decide (szB c = 2) || !decide (okB c d)) := by
  have hs := sz_bd h
  simp only [fullB, List.getD_cons_zero, List.getD_cons_succ, show (Lib.firstT c.toNat % 8) = szB c from rfl]
  rw [if_neg (by simp)]
  by_cases h2 : szB c = 2
  · rw [if_pos (by simp; omega), h2]; simp
  · rw [if_neg (by simp; omega), decide_eq_false h2, Bool.false_or]
    by_cases hd : okB c d
    · rw [if_neg, decide_eq_true hd]
      · simp
      · unfold okB at hd; simp; omega
    · rw [if_pos, decide_eq_false hd]
      · rfl
      · unfold okB at hd; simp; omega
theorem full3 {c d e : UInt8} (h : leadB c) (hd : okB c d) (h3 : 3 ≤ szB c) : fullB [c, d, e] = (decide (szB c = 3) || !decide (contB e)) := by
  have hs := sz_bd h
  simp only [fullB, List.getD_cons_zero, List.getD_cons_succ, show (Lib.firstT c.toNat % 8) = szB c from rfl]
  rw [if_neg (by simp)]
  by_cases h2 : szB c = 3
  · rw [if_pos (by simp; omega), h2]; simp
  · rw [if_neg (by simp; omega), decide_eq_false h2, Bool.false_or]
    rw [if_neg (by unfold okB at hd; simp; omega)]
    unfold contB
    by_cases he : 128 ≤ e.toNat ∧ e.toNat ≤ 191
    · rw [decide_eq_true he]; simp; omega
    · rw [decide_eq_false he]; simp; omega
theorem full4 {c d e g : UInt8} (h : leadB c) : fullB [c, d, e, g] = true := by
  have hs := sz_bd h
  simp only [fullB, List.getD_cons_zero, List.getD_cons_succ, show (Lib.firstT c.toNat % 8) = szB c from rfl]
  rw [if_neg (by simp), if_pos (by simp; omega)]
theorem brk_none {c : UInt8} (t : Bs) (h1 : 128 ≤ c.toNat) (h : ¬ leadB c) : brk (c :: t) = 0 := by
  have hf : Lib.firstT c.toNat = 241 := by
    unfold leadB at h
    unfold Lib.firstT at h ⊢
    repeat' split at h
    all_goals first | (exfalso; omega) | (exfalso; apply h; decide) | skip
    all_goals (repeat' split)
    all_goals first | rfl | (exfalso; omega)
  have hb : fullB [c] = true := by simp [fullB, hf]
  have : brkL (c :: t) 4 1 = 1 := by simp [brkL, hb]
  unfold brk; rw [this]; simp [hb]
theorem brk_one {c : UInt8} (h : leadB c) : brk [c] = 1 := by
  have hb := full1 h
  have : brkL [c] 4 1 = 1 := by simp [brkL]
  unfold brk; rw [this]; simp [hb]
theorem brk_two {c d : UInt8} (t : Bs) (h : leadB c) (hd : ¬ okB c d) : brk (c :: d :: t) = 1 := by
  have hb := full1 h
  have hb2 := full2 (d := d) h
  rw [decide_eq_false hd, Bool.not_false, Bool.or_true] at hb2
  have : brkL (c :: d :: t) 4 1 = 2 := by simp [brkL, hb, hb2]
  unfold brk; rw [this]; simp [hb2]
theorem brk_two_end {c d : UInt8} (h : leadB c) (hd : okB c d) (h3 : 3 ≤ szB c) : brk [c, d] = 2 := by
  have hb := full1 h
  have hb2 := full2 (d := d) h
  rw [decide_eq_true hd, decide_eq_false (by omega)] at hb2
  have : brkL [c, d] 4 1 = 2 := by simp [brkL, hb, hb2]
  unfold brk; rw [this]; simp [hb2]
theorem brk_three {c d e : UInt8} (t : Bs) (h : leadB c) (hd : okB c d) (h3 : 3 ≤ szB c) (he : ¬ contB e) : brk (c :: d :: e :: t) = 2 := by
  have hb := full1 h
  have hb2 := full2 (d := d) h
  have hb3 := full3 (e := e) h hd h3
  rw [decide_eq_true hd, decide_eq_false (by omega)] at hb2
  rw [decide_eq_false he, Bool.not_false, Bool.or_true] at hb3
  have : brkL (c :: d :: e :: t) 4 1 = 3 := by simp [brkL, hb, hb2, hb3]
  unfold brk; rw [this]; simp [hb3]
theorem brk_three_end {c d e : UInt8} (h : leadB c) (hd : okB c d) (h4 : szB c = 4) (he : contB e) : brk [c, d, e] = 3 := by
  have hb := full1 h
  have hb2 := full2 (d := d) h
  have hb3 := full3 (e := e) h hd (by omega)
  rw [decide_eq_true hd, decide_eq_false (by omega)] at hb2
  rw [decide_eq_true he, decide_eq_false (by omega)] at hb3
  have : brkL [c, d, e] 4 1 = 3 := by simp [brkL, hb, hb2, hb3]
  unfold brk; rw [this]; simp [hb3]
theorem brk_four {c d e g : UInt8} (t : Bs) (h : leadB c) (hd : okB c d) (h4 : szB c = 4) (he : contB e) : brk (c :: d :: e :: g :: t) = 3 := by
  have hb := full1 h
  have hb2 := full2 (d := d) h
  have hb3 := full3 (e := e) h hd (by omega)
  have hb4 := full4 (d := d) (e := e) (g := g) h
  rw [decide_eq_true hd, decide_eq_false (by omega)] at hb2
  rw [decide_eq_true he, decide_eq_false (by omega)] at hb3
  have : brkL (c :: d :: e :: g :: t) 4 1 = 4 := by simp [brkL, hb, hb2, hb3]
  unfold brk; rw [this]; simp [hb4]
end Fe
end Go.Proofs.YtlgagbglldehjaaDoor
/- A name, fed byte by byte, beside the program's reader of names: plain. -/
namespace Go.Proofs.YtlgagbglldehjaaDoor
set_option linter.unusedVariables false
set_option linter.unusedSimpArgs false
open Pj Rf St Es Nm Rp
namespace Fe
theorem step2_go {f : Fd} {c : UInt8} (hs : f.state = 2) (hc : c ≠ 32) : stepF f c = (runeF f.name f.rest c).map fun x => { f with name := x.1, rest := x.2 } := by
  unfold stepF; rw [hs]; simp only [hc, false_and, if_false]
theorem step2_blank {f : Fd} (hs : f.state = 2) (hr : f.rest ≠ []) : stepF f 32 = none := by
  unfold stepF; rw [hs]; simp only [hr, false_and, and_false, if_false, if_true]
theorem rune_high {name rest s : Bs} {x : UInt8} (hS : rest ++ [x] = s) (h0 : s.getD 0 0 ≠ 92) (hx : s.length = 1 → 128 ≤ x.toNat) :
    runeF name rest x = if couldF s = false then none else if seqN s = s.length then some (name ++ s, []) else some (name, s) := by
  unfold runeF
  simp only [hS]
  rw [if_neg h0]
  by_cases hc : couldF s = false
  · rw [if_pos (.inl hc), if_pos hc]
  · rw [if_neg (by rintro (e | ⟨e1, e2, e3⟩); exact hc e; have := hx e1; omega), if_neg hc]
theorem run2_end {f : Fd} (hs : f.state = 2) (hr : f.rest ≠ []) (i : Nat) : runF f i [] = (none, i) := by
  have hd : doneF f = false := by
    unfold doneF; rw [hs]
    cases h : f.rest with
    | nil => exact absurd h hr
    | cons a t => rfl
  rw [runF, hd]; rfl
/-- one more byte behind some of a sequence that it can't go on -/
theorem run2_stop {f : Fd} {s : Bs} {x : UInt8} (hs : f.state = 2) (hr : f.rest ≠ []) (hS : f.rest ++ [x] = s) (h0 : s.getD 0 0 ≠ 92) (hl : 2 ≤ s.length) (hc : couldF s = false) (i : Nat) (t : Bs) : runF f i (x :: t) = (none, i) := by
  refine run_no ?_ i t
  by_cases hx : x = 32
  · subst hx; exact step2_blank hs hr
  · rw [step2_go hs hx, rune_high hS h0 (by omega), if_pos hc]; rfl
theorem run2_more {f : Fd} {s : Bs} {x : UInt8} (hs : f.state = 2) (hx : x ≠ 32) (hS : f.rest ++ [x] = s) (h0 : s.getD 0 0 ≠ 92) (hl : s.length = 1 → 128 ≤ x.toNat) (hc : couldF s = true) (hq : seqN s ≠ s.length) (i : Nat) (t : Bs) : runF f i (x :: t) = runF { f with rest := s } (i + 1) t := by
  refine run_go ?_ i t
  rw [step2_go hs hx, rune_high hS h0 hl, if_neg (by rw [hc]; simp), if_neg hq]; rfl
theorem run2_whole {f : Fd} {s : Bs} {x : UInt8} (hs : f.state = 2) (hx : x ≠ 32) (hS : f.rest ++ [x] = s) (h0 : s.getD 0 0 ≠ 92) (hl : s.length = 1 → 128 ≤ x.toNat) (hc : couldF s = true) (hq : seqN s = s.length) (i : Nat) (t : Bs) : runF f i (x :: t) = runF { f with name := f.name ++ s, rest := [] } (i + 1) t := by
  refine run_go ?_ i t
  rw [step2_go hs hx, rune_high hS h0 hl, if_neg (by rw [hc]; simp), if_pos hq]; rfl
theorem ge_ne32 {x : UInt8} (h : 128 ≤ x.toNat) : x ≠ 32 := fun e => by subst e; simp at h
theorem ge_ne92 {x : UInt8} (h : 128 ≤ x.toNat) : x ≠ 92 := fun e => by subst e; simp at h
theorem run_lead {f : Fd} {c : UInt8} (hs : f.state = 2) (hr : f.rest = []) (hc : leadB c) (i : Nat) (t : Bs) :
    (goodB c (c :: t) → runF f i (c :: t) = runF { f with name := f.name ++ (c :: t).take (szB c), rest := [] } (i + szB c) ((c :: t).drop (szB c))) ∧ (¬ goodB c (c :: t) → runF f i (c :: t) = (none, i + brk (c :: t))) := by
  have hb := sz_bd hc
  have hge := lead_ge hc
  have h92 : c ≠ 92 := ge_ne92 (by omega)
  have h1 : runF f i (c :: t) = runF { f with rest := [c] } (i + 1) t :=
    run2_more (s := [c]) hs (ge_ne32 (by omega)) (by rw [hr]; rfl) h92 (fun _ => by omega) (could1 hc) (by rw [seq_bad hc (fun hg => by have := hg.1; simp at this; omega)]; simp) i t
  rw [h1]
  cases t with
  | nil =>
    refine ⟨fun hg => by have := hg.1; simp at this; omega, fun _ => ?_⟩
    rw [run2_end (f := { f with rest := [c] }) hs (by simp), brk_one hc]
  | cons d t =>
    by_cases hd : okB c d
    · have hd8 := ok_ge hc hd
      rcases (by omega : szB c = 2 ∨ 3 ≤ szB c) with h2 | h3
      · have hg : goodB c [c, d] := ⟨by rw [h2]; simp, hd, fun h => by omega, fun h => by omega⟩
        have hg2 : goodB c (c :: d :: t) := ⟨by rw [h2]; simp, hd, fun h => by omega, fun h => by omega⟩
        refine ⟨fun _ => ?_, fun h => absurd hg2 h⟩
        rw [run2_whole (f := { f with rest := [c] }) (s := [c, d]) hs (ge_ne32 hd8) rfl h92 (by simp) (by rw [could2 hc, decide_eq_true hd]) (by rw [seq_good hc hg, h2]; rfl), h2]
        rfl
      · have hg : ¬ goodB c [c, d] := fun hg => by have := hg.1; simp at this; omega
        rw [run2_more (f := { f with rest := [c] }) (s := [c, d]) hs (ge_ne32 hd8) rfl h92 (by simp) (by rw [could2 hc, decide_eq_true hd]) (by rw [seq_bad hc hg]; simp)]
        cases t with
        | nil =>
          refine ⟨fun h => absurd h hg, fun _ => ?_⟩
          rw [run2_end (f := { f with rest := [c, d] }) hs (by simp), brk_two_end hc hd h3]
        | cons e t =>
          by_cases he : contB e
          · have he8 : 128 ≤ e.toNat := he.1
            rcases (by omega : szB c = 3 ∨ szB c = 4) with h3' | h4
            · have hg : goodB c [c, d, e] := ⟨by rw [h3']; simp, hd, fun _ => he, fun h => by omega⟩
              have hg2 : goodB c (c :: d :: e :: t) := ⟨by rw [h3']; simp, hd, fun _ => he, fun h => by omega⟩
              refine ⟨fun _ => ?_, fun h => absurd hg2 h⟩
              rw [run2_whole (f := { f with rest := [c, d] }) (s := [c, d, e]) hs (ge_ne32 he8) rfl h92 (by simp) (by rw [could3 hc h3 hd, decide_eq_true he]) (by rw [seq_good hc hg, h3']; rfl), h3']
              rfl
            · have hg : ¬ goodB c [c, d, e] := fun hg => by have := hg.1; simp at this; omega
              rw [run2_more (f := { f with rest := [c, d] }) (s := [c, d, e]) hs (ge_ne32 he8) rfl h92 (by simp) (by rw [could3 hc h3 hd, decide_eq_true he]) (by rw [seq_bad hc hg]; simp)]
              cases t with
              | nil =>
                refine ⟨fun h => absurd h hg, fun _ => ?_⟩
                rw [run2_end (f := { f with rest := [c, d, e] }) hs (by simp), brk_three_end hc hd h4 he]
              | cons g t =>
                by_cases hgc : contB g
                · have hg8 : 128 ≤ g.toNat := hgc.1
                  have hg : goodB c [c, d, e, g] := ⟨by rw [h4]; simp, hd, fun _ => he, fun h => hgc⟩
                  have hg2 : goodB c (c :: d :: e :: g :: t) := ⟨by rw [h4]; simp, hd, fun _ => he, fun h => hgc⟩
                  refine ⟨fun _ => ?_, fun h => absurd hg2 h⟩
                  rw [run2_whole (f := { f with rest := [c, d, e] }) (s := [c, d, e, g]) hs (ge_ne32 hg8) rfl h92 (by simp) (by rw [could4 hc h4 hd he, decide_eq_true hgc]) (by rw [seq_good hc hg, h4]; rfl), h4]
                  rfl
                · refine ⟨fun h => absurd (h.2.2.2 (by omega)) hgc, fun _ => ?_⟩
                  rw [run2_stop (f := { f with rest := [c, d, e] }) (s := [c, d, e, g]) hs (by simp) rfl h92 (by simp) (by rw [could4 hc h4 hd he, decide_eq_false hgc]), brk_four t hc hd h4 he]
          · refine ⟨fun h => absurd (h.2.2.1 h3) he, fun _ => ?_⟩
            rw [run2_stop (f := { f with rest := [c, d] }) (s := [c, d, e]) hs (by simp) rfl h92 (by simp) (by rw [could3 hc h3 hd, decide_eq_false he]), brk_three t hc hd h3 he]
    · refine ⟨fun h => absurd h.2.1 hd, fun _ => ?_⟩
      rw [run2_stop (f := { f with rest := [c] }) (s := [c, d]) hs (by simp) rfl h92 (by simp) (by rw [could2 hc, decide_eq_false hd]), brk_two t hc hd]

/-! ### a word that is fed -/
theorem idx_first : ∀ (L : List Bs) (w : Bs), w ∈ L → ∃ j : Nat, L[j]? = some w ∧ ∀ j' : Nat, j' < j → L[j']? ≠ some w
  | [], w, h => by cases h
  | s :: L, w, h => by
    by_cases e : s = w
    · exact ⟨0, by simp [e], fun j' h' => by omega⟩
    · obtain ⟨j, h1, h2⟩ := idx_first L w (by simpa [Ne.symm e] using h)
      refine ⟨j + 1, by simpa using h1, fun j' h' => ?_⟩
      cases j' with
      | zero => simpa using e
      | succ j' => simpa using h2 j' (by omega)
theorem run_words {L : List Bs} (hF : Free L) (A B : Bs → Fd) (G : Bs → Prop) (hG : ∀ p c, G p → G (p ++ [c])) (hd : ∀ p, G p → doneF (A p) = false)
    (hs : ∀ p c, G p → stepF (A p) c = if (∃ w ∈ L, (p ++ [c]) <+: w) then some (if p ++ [c] ∈ L then B (p ++ [c]) else A (p ++ [c])) else none) :
    ∀ (l p : Bs) (i : Nat), G p → (∃ w ∈ L, p <+: w) → (∀ w ∈ L, ¬ w <+: p) → p.length ≤ i →
      ((oneR L (p ++ l)).2.2 = true ∧ runF (A p) i l = (none, i + (oneR L (p ++ l)).2.1 - p.length)) ∨
      (∃ w r, (oneR L (p ++ l)).2.2 = false ∧ L[(oneR L (p ++ l)).1]? = some w ∧ (oneR L (p ++ l)).2.1 = w.length ∧ p ++ l = w ++ r ∧ p.length < w.length ∧ runF (A p) i l = runF (B w) (i + w.length - p.length) r)
  | [], p, i, hg, hp, hn, hi => by
    left
    rw [List.append_nil, one_end hp hn, runF, hd p hg]
    exact ⟨rfl, by simp⟩
  | c :: l, p, i, hg, hp, hn, hi => by
    by_cases hc : ∃ w ∈ L, (p ++ [c]) <+: w
    · have hst := hs p c hg
      rw [if_pos hc] at hst
      have happ : p ++ c :: l = (p ++ [c]) ++ l := by simp
      by_cases hm : p ++ [c] ∈ L
      · right
        rw [if_pos hm] at hst
        obtain ⟨j, h1, h2⟩ := idx_first L _ hm
        refine ⟨p ++ [c], l, ?_⟩
        rw [happ, one_hit hF h1 h2, run_go hst]
        refine ⟨rfl, h1, rfl, rfl, by simp, ?_⟩
        congr 1; simp; omega
      · rw [if_neg hm] at hst
        have hn2 : ∀ w ∈ L, ¬ w <+: p ++ [c] := fun w hw h => by
          obtain ⟨u, hu, hpu⟩ := hc
          have := hF w hw u hu (h.trans hpu)
          subst this
          have e : w = p ++ [c] := List.IsPrefix.eq_of_length_le h hpu.length_le
          exact hm (e ▸ hw)
        have ih := run_words hF A B G hG hd hs l (p ++ [c]) (i + 1) (hG p c hg) hc hn2 (by simp; omega)
        rw [happ, run_go hst]
        have e1 : ∀ n, i + 1 + n - (p ++ [c]).length = i + n - p.length := fun n => by simp; omega
        rcases ih with ⟨h1, h2⟩ | ⟨w, r, h1, h2, h3, h4, h5, h6⟩
        · exact .inl ⟨h1, by rw [h2, e1]⟩
        · exact .inr ⟨w, r, h1, h2, h3, h4, by simp at h5; omega, by rw [h6, e1]⟩
    · left
      have hst := hs p c hg
      rw [if_neg hc] at hst
      rw [one_miss hp hn (fun w hw h => hc ⟨w, hw, h⟩), run_no hst]
      exact ⟨rfl, by simp⟩

/-! ### a rune that is written by its number -/
theorem spells_free : Free spells := by
  have : ∀ u ∈ spells, ∀ w ∈ spells, u.isPrefixOf w = true → u = w := by decide +kernel
  intro u hu w hw h
  exact this u hu w hw (List.isPrefixOf_iff_prefix.2 h)
/-- the rune that such a text stands for -/
def unspell (w : Bs) : Nat := hids.getD (spells.idxOf w) 0
theorem unspell_spell : ∀ r ∈ hids, unspell (spell r) = r := by decide +kernel
theorem unspell_at : ∀ j, j < spells.length → unspell (spells.getD j []) = hids.getD j 0 := by decide +kernel
theorem spells_head : ∀ w ∈ spells, w.head? = some 92 ∧ 32 ∉ w ∧ 3 ≤ w.length := by decide +kernel
theorem rune_esc {name rest : Bs} {c : UInt8} (h0 : (rest ++ [c]).head? = some 92) :
    runeF name rest c = if (∃ w ∈ spells, (rest ++ [c]) <+: w) then some (if rest ++ [c] ∈ spells then (name ++ [(unspell (rest ++ [c])).toUInt8], []) else (name, rest ++ [c])) else none := by
  unfold runeF
  dsimp only
  have hg : (rest ++ [c]).getD 0 0 = 92 := by
    cases h : rest ++ [c] with
    | nil => rw [h] at h0; cases h0
    | cons a t => rw [h] at h0; simpa using h0
  rw [if_pos hg]
  generalize rest ++ [c] = s at h0
  cases hf : hids.find? (fun r => s.isPrefixOf (spell r)) with
  | none =>
    rw [if_neg]
    rintro ⟨w, hw, hp⟩
    obtain ⟨r, hr, rfl⟩ := List.mem_map.1 hw
    have := List.find?_eq_none.1 hf r hr
    exact this (List.isPrefixOf_iff_prefix.2 hp)
  | some r =>
    have hr := List.mem_of_find?_eq_some hf
    have hp := List.isPrefixOf_iff_prefix.1 (List.find?_some (p := fun r => s.isPrefixOf (spell r)) hf)
    have hw : spell r ∈ spells := List.mem_map.2 ⟨r, hr, rfl⟩
    rw [if_pos ⟨_, hw, hp⟩]
    by_cases hm : s ∈ spells
    · have e := spells_free s hm _ hw hp
      subst e
      rw [if_pos hm, unspell_spell r hr]
      simp
    · rw [if_neg hm]
      have : s ≠ spell r := fun e => hm (e ▸ hw)
      simp [this]
theorem done2_esc {f : Fd} (hs : f.state = 2) (hr : f.rest ≠ []) : doneF f = false := by
  unfold doneF; rw [hs]
  cases h : f.rest with
  | nil => exact absurd h hr
  | cons a t => rfl
theorem run_esc {f : Fd} (hs : f.state = 2) (hr : f.rest = []) (i : Nat) (t : Bs) :
    ((oneR spells (92 :: t)).2.2 = true ∧ runF f i (92 :: t) = (none, i + (oneR spells (92 :: t)).2.1)) ∨
    ((oneR spells (92 :: t)).2.2 = false ∧ 3 ≤ (oneR spells (92 :: t)).2.1 ∧ (oneR spells (92 :: t)).2.1 ≤ (92 :: t).length ∧
      runF f i (92 :: t) = runF { f with name := f.name ++ [(hids.getD (oneR spells (92 :: t)).1 0).toUInt8], rest := [] } (i + (oneR spells (92 :: t)).2.1) ((92 :: t).drop (oneR spells (92 :: t)).2.1)) := by
  have h0 : stepF f 92 = some { f with rest := [92] } := by
    rw [step2_go hs (by decide), hr, rune_esc rfl, if_pos ⟨spell 0, by decide +kernel, by decide +kernel⟩, if_neg (by decide +kernel)]
    rfl
  rw [run_go h0]
  have h := run_words (L := spells) spells_free (fun p => { f with rest := p }) (fun w => { f with name := f.name ++ [(unspell w).toUInt8], rest := [] }) (fun p => p.head? = some 92)
    (fun p c hp => by
      cases p with
      | nil => cases hp
      | cons a p => exact hp)
    (fun p hp => done2_esc hs (fun e => by rw [show p = [] from e] at hp; cases hp))
    (fun p c hp => by
      have hne : p ≠ [] := fun e => by rw [e] at hp; cases hp
      have hp2 : (p ++ [c]).head? = some 92 := by
        cases p with
        | nil => cases hp
        | cons a p => exact hp
      by_cases hc : c = 32
      · subst hc
        rw [step2_blank (f := { f with rest := p }) hs hne, if_neg]
        rintro ⟨w, hw, h⟩
        obtain ⟨r, rfl⟩ := h
        exact (spells_head _ hw).2.1 (by simp)
      · rw [step2_go (f := { f with rest := p }) hs hc]
        dsimp only
        rw [rune_esc hp2]
        by_cases h1 : ∃ w ∈ spells, p ++ [c] <+: w
        · rw [if_pos h1, if_pos h1]
          by_cases h2 : p ++ [c] ∈ spells
          · rw [if_pos h2, if_pos h2]; rfl
          · rw [if_neg h2, if_neg h2]; rfl
        · rw [if_neg h1, if_neg h1]; rfl)
    t [92] (i + 1) rfl ⟨spell 0, by decide +kernel, by decide +kernel⟩ (fun w hw hp => by have := hp.length_le; have := (spells_head w hw).2.2; simp at *; omega) (by simp)
  rw [show ([92] ++ t : Bs) = 92 :: t from rfl] at h
  rcases h with ⟨h1, h2⟩ | ⟨w, r, h1, h2, h3, h4, h5, h6⟩
  · left; exact ⟨h1, by rw [h2]; congr 1; simp only [List.length_cons, List.length_nil]; omega⟩
  · right
    have hj : (oneR spells (92 :: t)).1 < spells.length := (List.getElem?_eq_some_iff.1 h2).1
    have hw : spells.getD (oneR spells (92 :: t)).1 [] = w := by rw [List.getD_eq_getElem?_getD, h2]; rfl
    have hu := unspell_at _ hj
    rw [hw] at hu
    refine ⟨h1, ?_, ?_, ?_⟩
    · rw [h3]; exact (spells_head w (List.mem_of_getElem? h2)).2.2
    · rw [h3, h4]; simp
    · rw [h6, h3, hu, show (92 :: t).drop w.length = (w ++ r).drop w.length from by rw [h4]]
      rw [List.drop_left, show i + 1 + w.length - [(92 : UInt8)].length = i + w.length from by simp only [List.length_cons, List.length_nil]; omega]
end Fe
end Go.Proofs.YtlgagbglldehjaaDoor
/- The reference's reader of lines and the program's are one: plain. -/
namespace Go.Proofs.YtlgagbglldehjaaDoor
set_option linter.unusedVariables false
set_option linter.unusedSimpArgs false
open Pj Rf St Es Nm Rp
namespace Fe
theorem enc_small {r : Nat} (h : r < 128) : Lib.encodeRune (r : Int) = [r.toUInt8] := by
  rw [Lib.encodeRune, Lib.encodeRuneZ_one (by omega) (by omega)]; rfl
theorem hids_small (j : Nat) : hids.getD j 0 < 128 := by
  rw [List.getD_eq_getElem?_getD]
  cases h : hids[j]? with
  | none => decide
  | some v =>
    have := List.mem_of_getElem? h
    simp [hids, hidsTo] at this
    simpa using this.1
theorem hid_hidden {c : Nat} (h : hiddenB (c : Int) = true) : c ≤ 127 := by simp [hiddenB] at h; omega
theorem not_hidden {x : Nat} (h : 128 ≤ x) : hiddenB (x : Int) = false := by
  cases e : hiddenB (x : Int) with
  | false => rfl
  | true => have := hid_hidden e; omega
theorem oneL_bd (r : Bs) : ∀ (l : List Bs) (b i : Nat), (oneL b i l r).2.1 ≤ max b r.length
  | [], b, i => by simp [oneL]; omega
  | x :: l, b, i => by
    have h1 := lcp_le_right x r
    rw [oneL]; split
    · show x.length ≤ _; omega
    · have := oneL_bd r l (max b (lcp x r)) (i + 1); omega
theorem oneR_bd (L : List Bs) (r : Bs) : (oneR L r).2.1 ≤ r.length := by have := oneL_bd r L 0 0; unfold oneR; omega
theorem brkL_bd (l : Bs) : ∀ f n, n ≤ l.length → brkL l f n ≤ l.length
  | 0, n, h => h
  | f + 1, n, h => by
    rw [brkL]; split
    · exact brkL_bd l f (n + 1) (by omega)
    · exact h
theorem brk_bd (l : Bs) (h : l ≠ []) : brk l ≤ l.length := by
  have := brkL_bd l 4 1 (List.length_pos_iff.2 h)
  unfold brk; split <;> omega
theorem run_step {f : Fd} (hs : f.state = 2) (hr : f.rest = []) (i : Nat) (l : Bs) :
    (nameStep l = none ∧ (l = [] ∨ l.head? = some 32)) ∨ (∃ b n, nameStep l = some (b, n, true) ∧ n ≤ l.length ∧ runF f i l = (none, i + n)) ∨
    (∃ b n, nameStep l = some (b, n, false) ∧ 1 ≤ n ∧ n ≤ l.length ∧ b ≠ [] ∧ runF f i l = runF { f with name := f.name ++ b, rest := [] } (i + n) (l.drop n)) := by
  cases l with
  | nil => left; exact ⟨by simp [nameStep], .inl rfl⟩
  | cons c t =>
    by_cases h32 : c = 32
    · subst h32; left; exact ⟨by simp [nameStep], .inr rfl⟩
    have hN : nameStep (c :: t) = if (Lib.decodeL (c :: t)).1 = 92 then some (Lib.encodeRune ((hids.getD (oneR spells (c :: t)).1 0 : Nat) : Int), (oneR spells (c :: t)).2.1, (oneR spells (c :: t)).2.2)
        else if (Lib.decodeL (c :: t)).1 = 65533 ∧ (Lib.decodeL (c :: t)).2 = 1 then some ([], brk (c :: t), true)
        else if hiddenB ((Lib.decodeL (c :: t)).1 : Int) = true then some ([], 0, true) else some (Lib.encodeRune ((Lib.decodeL (c :: t)).1 : Int), (Lib.decodeL (c :: t)).2, false) := by
      unfold nameStep; rw [if_neg]
      rintro (e | e)
      · cases e
      · exact h32 e
    right
    rcases (by omega : c.toNat < 128 ∨ 128 ≤ c.toNat) with hc | hc
    · have hd := Lib.decodeL_ascii c t hc
      by_cases h92 : c = 92
      · subst h92
        rw [hN, hd, if_pos (by rfl)]
        rcases run_esc hs hr i t with ⟨h1, h2⟩ | ⟨h1, h2, h3, h4⟩
        · left; refine ⟨_, _, by rw [h1], ?_, h2⟩
          exact oneR_bd _ _
        · right; refine ⟨_, _, by rw [h1], by omega, h3, ?_, ?_⟩
          · rw [enc_small (hids_small _)]; simp
          · rw [h4, enc_small (hids_small _)]
      · have n92 : ¬ c.toNat = 92 := fun e => h92 (UInt8.toNat_inj.1 e)
        rw [hN, hd, if_neg n92, if_neg (by rintro ⟨e, -⟩; simp only at e; omega)]
        dsimp only
        have hrf : runeF f.name f.rest c = if hiddenB (c.toNat : Int) = true then none else some (f.name ++ [c], []) := by
          unfold runeF
          rw [hr]
          dsimp only [List.nil_append]
          rw [if_neg (by simpa using h92), could1_ascii hc, seq_ascii [] hc]
          by_cases hh : hiddenB (c.toNat : Int) = true
          · rw [if_pos (.inr ⟨rfl, hh, hc⟩), if_pos hh]
          · rw [if_neg (by rintro (e | ⟨-, e, -⟩); cases e; exact hh e), if_neg hh]; rfl
        by_cases hh : hiddenB (c.toNat : Int) = true
        · left
          rw [if_pos hh] at hrf ⊢
          exact ⟨_, _, rfl, by omega, run_no (by rw [step2_go hs h32, hrf]; rfl) i t⟩
        · right
          rw [if_neg hh] at hrf ⊢
          refine ⟨_, _, rfl, Nat.le_refl _, by simp, by rw [enc_small hc]; simp, ?_⟩
          rw [run_go (f' := { f with name := f.name ++ [c], rest := [] }) (by rw [step2_go hs h32, hrf]; rfl), enc_small hc]
          simp
    · by_cases hl : leadB c
      · obtain ⟨g1, g2⟩ := run_lead hs hr hl i t
        by_cases hg : goodB c (c :: t)
        · obtain ⟨d1, d2⟩ := dec_good hl hg
          have hb := sz_bd hl
          right
          have hv : ¬ ((Lib.decodeL (c :: t)).1 = 65533 ∧ (Lib.decodeL (c :: t)).2 = 1) := by rintro ⟨-, e⟩; omega
          rw [hN, if_neg (by omega), if_neg hv, if_neg (by rw [not_hidden d2]; simp)]
          refine ⟨_, _, rfl, by omega, by rw [d1]; exact hg.1, ?_, ?_⟩
          · rw [Lib.encode_decode _ (by simp) hv, d1]
            intro e
            have := congrArg List.length e
            rw [List.length_take] at this
            have := hg.1
            simp at *; omega
          · rw [g1 hg, Lib.encode_decode _ (by simp) hv, d1]
        · left
          have hd := dec_bad hl hg
          rw [hN, hd, if_neg (by simp), if_pos ⟨rfl, rfl⟩]
          exact ⟨_, _, rfl, brk_bd _ (by simp), g2 hg⟩
      · left
        rw [hN, dec_none t hc hl, if_neg (by simp), if_pos ⟨rfl, rfl⟩]
        refine ⟨_, _, rfl, brk_bd _ (by simp), ?_⟩
        rw [brk_none t hc hl]
        refine run_no ?_ i t
        rw [step2_go hs h32, rune_high (s := [c]) (by rw [hr]; rfl) (by simpa using ge_ne92 hc) (fun _ => hc), if_pos (could1_none hc hl)]
        rfl
/-- a name, up to a blank or the end -/
theorem run_name : ∀ (F : Nat) (l : Bs) (f : Fd) (i : Nat), l.length ≤ F → f.state = 2 → f.rest = [] →
    (nameL F l).2.1 ≤ l.length ∧ ((nameL F l).2.2 = true → runF f i l = (none, i + (nameL F l).2.1)) ∧
      ((nameL F l).2.2 = false → (l.drop (nameL F l).2.1 = [] ∨ (l.drop (nameL F l).2.1).head? = some 32) ∧ runF f i l = runF { f with name := f.name ++ (nameL F l).1, rest := [] } (i + (nameL F l).2.1) (l.drop (nameL F l).2.1))
  | 0, l, f, i, hl, hs, hr => by
    have : l = [] := List.eq_nil_of_length_eq_zero (by omega)
    subst this
    have hf : ({ f with name := f.name ++ [], rest := [] } : Fd) = f := by rw [List.append_nil, ← hr]
    refine ⟨Nat.zero_le _, (fun h => by cases h), fun _ => ⟨.inl rfl, ?_⟩⟩
    show runF f i [] = runF { f with name := f.name ++ [], rest := [] } (i + 0) []
    rw [hf]; rfl
  | F + 1, l, f, i, hl, hs, hr => by
    have hf : ({ f with name := f.name ++ [], rest := [] } : Fd) = f := by rw [List.append_nil, ← hr]
    rcases run_step hs hr i l with ⟨h1, h2⟩ | ⟨b, n, h1, h2, h3⟩ | ⟨b, n, h1, h2, h3, -, h4⟩
    · rw [show nameL (F + 1) l = ([], 0, false) from by simp only [nameL, h1]]
      refine ⟨Nat.zero_le _, (fun h => by cases h), fun _ => ⟨h2, ?_⟩⟩
      show runF f i l = runF { f with name := f.name ++ [], rest := [] } (i + 0) l
      rw [hf]; rfl
    · rw [show nameL (F + 1) l = (b, n, true) from by simp only [nameL, h1]]
      exact ⟨h2, fun _ => h3, fun h => by cases h⟩
    · have ih := run_name F (l.drop n) { f with name := f.name ++ b, rest := [] } (i + n) (by rw [List.length_drop]; omega) hs rfl
      have e : nameL (F + 1) l = (b ++ (nameL F (l.drop n)).1, n + (nameL F (l.drop n)).2.1, (nameL F (l.drop n)).2.2) := by simp only [nameL, h1]
      rw [e, h4]
      dsimp only at ih ⊢
      generalize nameL F (l.drop n) = r at ih ⊢
      obtain ⟨i1, i2, i3⟩ := ih
      rw [List.length_drop] at i1
      refine ⟨by omega, fun h => by rw [i2 h, Nat.add_assoc], fun h => ?_⟩
      obtain ⟨j1, j2⟩ := i3 h
      rw [List.drop_drop] at j1 j2
      exact ⟨j1, by rw [j2, List.append_assoc, Nat.add_assoc]⟩

/-! ### a holder's word -/
theorem letter_F {h : Bs} (hl : letters h = true) (c : UInt8) : letterF h c = if letterB (c.toNat : Int) = true ∧ h.length < 32 then some (h ++ [c]) else none := by
  have e : letters (h ++ [c]) = letterB (c.toNat : Int) := by
    unfold letters at hl ⊢; rw [List.all_append, hl]; simp
  unfold letterF holderB
  rw [e, List.length_append, List.length_singleton]
  by_cases h1 : letterB (c.toNat : Int) = true
  · by_cases h2 : h.length < 32
    · rw [if_pos (by rw [h1]; simp; omega), if_pos ⟨h1, h2⟩]
    · rw [if_neg (by rw [h1]; simp; omega), if_neg (fun x => h2 x.2)]
  · rw [if_neg (by simp [h1]), if_neg (fun x => h1 x.1)]
theorem letters_snoc {h : Bs} {c : UInt8} (hl : letters h = true) (hc : letterB (c.toNat : Int) = true) : letters (h ++ [c]) = true := by
  unfold letters at hl ⊢; rw [List.all_append, hl]; simp [hc]
theorem letter_32 : letterB ((32 : UInt8).toNat : Int) = false := by decide
theorem run_hold : ∀ (l : Bs) (f : Fd) (i : Nat), f.state = 4 → letters f.hold = true → f.hold.length ≤ 32 →
    f.hold.length ≤ (holL f.hold.length l).1 ∧ (holL f.hold.length l).1 - f.hold.length ≤ l.length ∧ ((holL f.hold.length l).2 = true → runF f i l = (none, i + ((holL f.hold.length l).1 - f.hold.length))) ∧
      ((holL f.hold.length l).2 = false → 0 < (holL f.hold.length l).1 ∧ (∀ c t, l.drop ((holL f.hold.length l).1 - f.hold.length) = c :: t → letterB (c.toNat : Int) = false) ∧
        runF f i l = runF { f with hold := f.hold ++ l.take ((holL f.hold.length l).1 - f.hold.length) } (i + ((holL f.hold.length l).1 - f.hold.length)) (l.drop ((holL f.hold.length l).1 - f.hold.length)))
  | [], f, i, hs, hl, hk => by
    rw [holL_nil]
    simp only [Nat.sub_self, Nat.le_refl, true_and, List.length_nil, Nat.add_zero, List.take_nil, List.append_nil, List.drop_nil]
    refine ⟨fun h => ?_, fun h => ⟨by simpa [Nat.pos_iff_ne_zero] using h, fun c t e => (by cases e), trivial⟩⟩
    have hz : f.hold = [] := List.eq_nil_of_length_eq_zero (by simpa using h)
    have hd : doneF f = false := by unfold doneF; rw [hs, hz]; simp
    rw [runF, hd]; rfl
  | c :: l, f, i, hs, hl, hk => by
    cases hc : letterB (c.toNat : Int) with
    | false =>
      rw [holL_end l hc]
      simp only [Nat.sub_self, Nat.le_refl, true_and, Nat.add_zero, List.take_zero, List.append_nil, List.drop_zero]
      refine ⟨Nat.zero_le _, fun h => ?_, fun h => ⟨by simpa [Nat.pos_iff_ne_zero] using h, fun c' t e => (by cases e; exact hc), trivial⟩⟩
      have hz : f.hold = [] := List.eq_nil_of_length_eq_zero (by simpa using h)
      refine run_no ?_ i l
      unfold stepF; rw [hs]
      simp only [hz, ne_eq, not_true_eq_false, and_false, if_false]
      rw [letter_F (by rfl), if_neg (by rw [hc]; simp)]; rfl
    | true =>
      have h32 : c ≠ 32 := fun e => by subst e; rw [letter_32] at hc; cases hc
      have hst : stepF f c = (letterF f.hold c).map fun h => { f with hold := h } := by unfold stepF; rw [hs]; simp only [h32, false_and, if_false]
      by_cases hk2 : f.hold.length = 32
      · rw [hk2, holL_long l hc]
        simp only [Nat.sub_self, Nat.le_refl, true_and, Nat.add_zero]
        refine ⟨Nat.zero_le _, fun _ => run_no (by rw [hst, letter_F hl, if_neg (by omega)]; rfl) i l, fun h => by cases h⟩
      · rw [holL_go l hc hk2]
        have hst2 : stepF f c = some { f with hold := f.hold ++ [c] } := by rw [hst, letter_F hl, if_pos ⟨hc, by omega⟩]; rfl
        have ih := run_hold l { f with hold := f.hold ++ [c] } (i + 1) hs (letters_snoc hl hc) (by simp; omega)
        rw [run_go hst2]
        simp only [List.length_append, List.length_singleton] at ih
        generalize holL (f.hold.length + 1) l = r at ih ⊢
        obtain ⟨i1, i2, i3, i4⟩ := ih
        have e3 : r.1 - f.hold.length = (r.1 - (f.hold.length + 1)) + 1 := by omega
        rw [e3]
        refine ⟨by omega, by simp; omega, fun h => by rw [i3 h]; congr 1; omega, fun h => ?_⟩
        obtain ⟨j1, j2, j3⟩ := i4 h
        refine ⟨j1, j2, ?_⟩
        rw [j3, List.drop_succ_cons, List.take_succ_cons, List.append_assoc, List.singleton_append]
        congr 1; omega
theorem run_dest : ∀ (l : Bs) (f : Fd) (i : Nat), f.state = 6 → letters f.dest = true → f.dest.length ≤ 32 →
    f.dest.length ≤ (holL f.dest.length l).1 ∧ (holL f.dest.length l).1 - f.dest.length ≤ l.length ∧
      runF f i l = (if (holL f.dest.length l).2 || decide ((holL f.dest.length l).1 - f.dest.length < l.length) then (none, i + ((holL f.dest.length l).1 - f.dest.length)) else (some (entF { f with dest := f.dest ++ l.take ((holL f.dest.length l).1 - f.dest.length) }), 0))
  | [], f, i, hs, hl, hk => by
    rw [holL_nil]
    simp only [Nat.sub_self, Nat.le_refl, true_and, List.length_nil, Nat.add_zero, List.take_nil, List.append_nil, Nat.lt_irrefl, decide_false, Bool.or_false]
    have hd : doneF f = (f.dest != []) := by unfold doneF; rw [hs]; rfl
    rw [runF, hd]
    cases h : f.dest with
    | nil => simp
    | cons a t =>
      have e : ({ f with dest := a :: t } : Fd) = f := by rw [← h]
      rw [e]; simp
  | c :: l, f, i, hs, hl, hk => by
    have hst : stepF f c = (letterF f.dest c).map fun h => { f with dest := h } := by unfold stepF; rw [hs]; rfl
    cases hc : letterB (c.toNat : Int) with
    | false =>
      rw [holL_end l hc]
      simp only [Nat.sub_self, Nat.le_refl, true_and, Nat.add_zero]
      refine ⟨Nat.zero_le _, ?_⟩
      rw [run_no (by rw [hst, letter_F hl, if_neg (by rw [hc]; simp)]; rfl)]
      simp
    | true =>
      by_cases hk2 : f.dest.length = 32
      · rw [hk2, holL_long l hc]
        simp only [Nat.sub_self, Nat.le_refl, true_and, Nat.add_zero]
        refine ⟨Nat.zero_le _, ?_⟩
        rw [run_no (by rw [hst, letter_F hl, if_neg (by omega)]; rfl)]
        simp
      · rw [holL_go l hc hk2]
        have hst2 : stepF f c = some { f with dest := f.dest ++ [c] } := by rw [hst, letter_F hl, if_pos ⟨hc, by omega⟩]; rfl
        have ih := run_dest l { f with dest := f.dest ++ [c] } (i + 1) hs (letters_snoc hl hc) (by simp; omega)
        rw [run_go hst2]
        simp only [List.length_append, List.length_singleton] at ih
        generalize holL (f.dest.length + 1) l = r at ih ⊢
        obtain ⟨i1, i2, i3⟩ := ih
        have e3 : r.1 - f.dest.length = (r.1 - (f.dest.length + 1)) + 1 := by omega
        rw [e3]
        refine ⟨by omega, by simp; omega, ?_⟩
        rw [i3, List.length_cons, List.take_succ_cons, List.append_assoc, List.singleton_append, show decide (r.1 - (f.dest.length + 1) + 1 < l.length + 1) = decide (r.1 - (f.dest.length + 1) < l.length) from by simp, show i + 1 + (r.1 - (f.dest.length + 1)) = i + (r.1 - (f.dest.length + 1) + 1) from by omega]
end Fe
end Go.Proofs.YtlgagbglldehjaaDoor
/- The reference's reader of lines and the program's are one: plain: put together; what JournalStops says. -/
namespace Go.Proofs.YtlgagbglldehjaaDoor
set_option linter.unusedVariables false
set_option linter.unusedSimpArgs false
open Pj Rf St Es Nm Rp
namespace Fe
theorem free1 (w : Bs) : Free [w] := fun u hu v hv _ => by rw [List.mem_singleton.1 hu, List.mem_singleton.1 hv]
theorem one_first {w : Bs} {c : UInt8} {t : Bs} (hw : w.head? ≠ some c) (hne : w ≠ []) : oneR [w] (c :: t) = (0, 0, true) :=
  one_miss (p := []) (L := [w]) ⟨w, by simp, List.nil_prefix⟩ (fun v hv h => by rw [List.mem_singleton.1 hv] at h; exact hne (List.prefix_nil.1 h)) (fun v hv h => by
    rw [List.mem_singleton.1 hv] at h
    obtain ⟨r, rfl⟩ := h
    exact hw rfl)
theorem one_nil {w : Bs} (hne : w ≠ []) : oneR [w] [] = (0, 0, true) :=
  one_end (p := []) (L := [w]) ⟨w, by simp, List.nil_prefix⟩ (fun v hv h => by rw [List.mem_singleton.1 hv] at h; exact hne (List.prefix_nil.1 h))
theorem drop_next {l t : Bs} {i : Nat} {c : UInt8} (h : l.drop i = c :: t) : l.drop (i + 1) = t ∧ i < l.length := by
  constructor
  · rw [← List.drop_drop, h]; rfl
  · rcases Nat.lt_or_ge i l.length with h1 | h1
    · exact h1
    · rw [List.drop_eq_nil_of_le h1] at h; cases h
theorem drop_add {l w r : Bs} {i : Nat} (h : l.drop i = w ++ r) : l.drop (i + w.length) = r := by rw [← List.drop_drop, h, List.drop_left]
theorem fixed_step (word : Bs) (f : Fd) (c : UInt8) (X Y : Fd) (p : Bs) :
    (if (p ++ [c]).isPrefixOf word then some (if p ++ [c] = word then X else Y) else none) = if (∃ w ∈ [word], (p ++ [c]) <+: w) then some (if p ++ [c] ∈ [word] then X else Y) else (none : Option Fd) := by
  simp only [List.mem_singleton, exists_eq_left, List.isPrefixOf_iff_prefix]
theorem done5 {f : Fd} (h : f.state = 5) : doneF f = false := by unfold doneF; rw [h]; rfl
theorem done3 {f : Fd} (h : f.state = 3) : doneF f = false := by unfold doneF; rw [h]; rfl
theorem done1 {f : Fd} (h : f.state = 1) : doneF f = false := by unfold doneF; rw [h]; rfl
theorem step5 {f : Fd} (h : f.state = 5) (p : Bs) (c : UInt8) : stepF { f with part := p } c = if (∃ w ∈ [toB], (p ++ [c]) <+: w) then some (if p ++ [c] ∈ [toB] then { f with part := p ++ [c], state := 6 } else { f with part := p ++ [c] }) else none := by
  rw [← fixed_step toB f c]
  unfold stepF
  simp only [h]
  by_cases h1 : (p ++ [c]).isPrefixOf toB
  · by_cases h2 : p ++ [c] = toB
    · simp [h1, h2, h]
    · simp [h1, h2, h]
  · simp [h1, h]
theorem step3 {f : Fd} (h : f.state = 3) (p : Bs) (c : UInt8) : stepF { f with part := p } c = if (∃ w ∈ [byB], (p ++ [c]) <+: w) then some (if p ++ [c] ∈ [byB] then { f with part := p ++ [c], state := 4 } else { f with part := p ++ [c] }) else none := by
  rw [← fixed_step byB f c]
  unfold stepF
  simp only [h]
  by_cases h1 : (p ++ [c]).isPrefixOf byB
  · by_cases h2 : p ++ [c] = byB
    · simp [h1, h2, h]
    · simp [h1, h2, h]
  · simp [h1, h]
theorem tail_to {f : Fd} (hs : f.state = 5) (hp : f.part = [32]) (hd : f.dest = []) (hk : f.kind = 3) (ht : f.ticks = 0) {l t : Bs} {i : Nat} (hl : l.drop i = 32 :: t) : runF f (i + 1) t = readTo f.clock f.name f.hold i l := by
  have hf : f = { f with part := [32] } := by rw [← hp]
  have h := run_words (free1 toB) (fun p => { f with part := p }) (fun w => { f with part := w, state := 6 }) (fun _ => True) (fun _ _ _ => trivial) (fun p _ => done5 hs) (fun p c _ => step5 hs p c) t [32] (i + 1) trivial ⟨toB, by simp, by decide⟩ (by decide) (by simp)
  try dsimp only at h
  rw [← hf, show ([32] ++ t : Bs) = 32 :: t from rfl] at h
  unfold readTo
  rw [hl]
  rcases h with ⟨h1, h2⟩ | ⟨w, r, h1, h2, h3, h4, h5, h6⟩
  · rw [h2]
    simp only [h1, holB, if_true, Bool.true_or]
    congr 1; simp only [List.length_cons, List.length_nil]; omega
  · have hw : w = toB := by have := List.mem_of_getElem? h2; simpa using this
    subst hw
    rw [h4] at hl
    have hdr := drop_add hl
    rw [h6]
    simp only [h1, h3, holB, Bool.false_eq_true, if_false]
    have e4 : i + 1 + toB.length - [(32 : UInt8)].length = i + toB.length := by simp only [List.length_cons, List.length_nil]; omega
    rw [e4, hdr]
    obtain ⟨d1, d2, d3⟩ := run_dest r { f with part := toB, state := 6 } (i + toB.length) rfl (by rw [hd]; rfl) (by rw [hd]; simp)
    rw [d3]
    try dsimp only
    rw [hd]
    simp only [List.length_nil, Nat.sub_zero, List.nil_append]
    have hlen : l.length = i + toB.length + r.length := by
      have h7 := congrArg List.length hdr
      rw [List.length_drop] at h7
      have h8 := congrArg List.length hl
      rw [List.length_drop, List.length_append] at h8
      simp only [List.length_cons, List.length_nil] at h7 h8 ⊢
      omega
    rw [hlen, show decide (i + toB.length + (holL 0 r).1 < i + toB.length + r.length) = decide ((holL 0 r).1 < r.length) from by simp]
    simp only [entF, hk, ht]
theorem hold_letters : ∀ (r : Bs) (k : Nat), k ≤ 32 → letters (r.take ((holL k r).1 - k)) = true
  | [], k, _ => by rw [holL_nil]; simp [letters]
  | c :: r, k, hk => by
    cases hc : letterB (c.toNat : Int) with
    | false => rw [holL_end r hc]; simp [letters]
    | true =>
      by_cases h32 : k = 32
      · subst h32; rw [holL_long r hc]; simp [letters]
      · rw [holL_go r hc h32]
        have ih := hold_letters r (k + 1) (by omega)
        rcases Nat.lt_or_ge k (holL (k + 1) r).1 with h | h
        · rw [show (holL (k + 1) r).1 - k = ((holL (k + 1) r).1 - (k + 1)) + 1 by omega, List.take_succ_cons]
          unfold letters at ih ⊢
          rw [List.all_cons, ih, hc]; rfl
        · rw [show (holL (k + 1) r).1 - k = 0 by omega]; simp [letters]
theorem tail_by {f : Fd} (hs : f.state = 3) (hp : f.part = [32]) (hh : f.hold = []) (hd : f.dest = []) (hk : f.kind = 1 ∨ f.kind = 2 ∨ f.kind = 3) (ht : f.ticks = 0) {l t : Bs} {i : Nat} (hl : l.drop i = 32 :: t) : runF f (i + 1) t = readBy f.clock f.kind f.name i l := by
  have hf : f = { f with part := [32] } := by rw [← hp]
  have h := run_words (free1 byB) (fun p => { f with part := p }) (fun w => { f with part := w, state := 4 }) (fun _ => True) (fun _ _ _ => trivial) (fun p _ => done3 hs) (fun p c _ => step3 hs p c) t [32] (i + 1) trivial ⟨byB, by simp, by decide⟩ (by decide) (by simp)
  try dsimp only at h
  rw [← hf, show ([32] ++ t : Bs) = 32 :: t from rfl] at h
  unfold readBy
  rw [hl]
  rcases h with ⟨h1, h2⟩ | ⟨w, r, h1, h2, h3, h4, h5, h6⟩
  · rw [h2]
    simp only [h1, holB, if_true]
    congr 1; simp only [List.length_cons, List.length_nil]; omega
  · have hw : w = byB := by have := List.mem_of_getElem? h2; simpa using this
    subst hw
    rw [h4] at hl
    have hdr := drop_add hl
    rw [h6]
    simp only [h1, h3, holB, Bool.false_eq_true, if_false]
    have e4 : i + 1 + byB.length - [(32 : UInt8)].length = i + byB.length := by simp only [List.length_cons, List.length_nil]; omega
    rw [e4, hdr]
    obtain ⟨d1, d2, d3, d4⟩ := run_hold r { f with part := byB, state := 4 } (i + byB.length) rfl (by rw [hh]; rfl) (by rw [hh]; simp)
    try dsimp only at d1 d2 d3 d4
    rw [hh] at d1 d2 d3 d4
    rw [hh]
    simp only [List.length_nil, Nat.sub_zero, List.nil_append] at d1 d2 d3 d4
    have hlen : l.length = i + byB.length + r.length := by
      have h7 := congrArg List.length hdr
      rw [List.length_drop] at h7
      have h8 := congrArg List.length hl
      rw [List.length_drop, List.length_append] at h8
      simp only [List.length_cons, List.length_nil] at h7 h8 ⊢
      omega
    cases hb : (holL 0 r).2 with
    | true => rw [d3 hb, if_pos rfl]
    | false =>
      obtain ⟨g1, g2, g3⟩ := d4 hb
      rw [if_neg (by simp), g3]
      have hdr2 : r.drop (holL 0 r).1 = l.drop (i + byB.length + (holL 0 r).1) := by rw [← hdr, List.drop_drop]
      generalize hD : i + byB.length + (holL 0 r).1 = D at *
      cases hrr : r.drop (holL 0 r).1 with
      | nil =>
        rw [hrr] at hdr2
        have hlD : l.length ≤ D := List.drop_eq_nil_iff.1 hdr2.symm
        by_cases h3k : f.kind = 3
        · rw [if_pos h3k]
          have hdn : doneF { clock := f.clock, kind := f.kind, hold := r.take (holL 0 r).1, dest := f.dest, ticks := f.ticks, state := 4, part := byB, name := f.name, rest := f.rest } = false := by
            unfold doneF; simp [h3k]
          rw [runF, hdn]
          unfold readTo
          rw [← hdr2, one_nil (by simp)]
          simp [holB]
        · rw [if_neg h3k, if_neg (show ¬ D < l.length by omega)]
          have hne : r.take (holL 0 r).1 ≠ [] := by
            intro e
            have := congrArg List.length e
            rw [List.length_take, Nat.min_eq_left d2] at this
            simp at this; omega
          have hdn : doneF { clock := f.clock, kind := f.kind, hold := r.take (holL 0 r).1, dest := f.dest, ticks := f.ticks, state := 4, part := byB, name := f.name, rest := f.rest } = true := by
            unfold doneF
            have : f.kind < 3 := by omega
            simp [this, hne]
          rw [runF, hdn]
          simp only [entF, if_true, hd, ht]
      | cons c t2 =>
        rw [hrr] at hdr2
        have hnl := g2 c t2 hrr
        obtain ⟨hdt, hDl⟩ := drop_next hdr2.symm
        have hne : r.take (holL 0 r).1 ≠ [] := by
          intro e
          have := congrArg List.length e
          rw [List.length_take, Nat.min_eq_left d2] at this
          simp at this; omega
        by_cases h3k : f.kind = 3
        · rw [if_pos h3k]
          by_cases hc : c = 32
          · subst hc
            have hst : stepF { clock := f.clock, kind := f.kind, hold := r.take (holL 0 r).1, dest := f.dest, ticks := f.ticks, state := 4, part := byB, name := f.name, rest := f.rest } 32 = some { clock := f.clock, kind := f.kind, hold := r.take (holL 0 r).1, dest := f.dest, ticks := f.ticks, state := 5, part := [32], name := f.name, rest := f.rest } := by
              unfold stepF; simp [h3k, hne]
            rw [run_go hst]
            exact tail_to (f := { clock := f.clock, kind := f.kind, hold := r.take (holL 0 r).1, dest := f.dest, ticks := f.ticks, state := 5, part := [32], name := f.name, rest := f.rest }) rfl rfl hd h3k ht hdr2.symm
          · have hll : letters (r.take (holL 0 r).1) = true := hold_letters r 0 (by omega)
            have hst : stepF { clock := f.clock, kind := f.kind, hold := r.take (holL 0 r).1, dest := f.dest, ticks := f.ticks, state := 4, part := byB, name := f.name, rest := f.rest } c = none := by
              unfold stepF
              simp only [hc, false_and, if_false]
              rw [letter_F hll, if_neg (by rw [hnl]; simp)]; rfl
            rw [run_no hst]
            unfold readTo
            rw [← hdr2, one_first (by simpa using Ne.symm hc) (by simp)]
            simp [holB]
        · rw [if_neg h3k, if_pos hDl]
          have hll : letters (r.take (holL 0 r).1) = true := hold_letters r 0 (by omega)
          have hst : stepF { clock := f.clock, kind := f.kind, hold := r.take (holL 0 r).1, dest := f.dest, ticks := f.ticks, state := 4, part := byB, name := f.name, rest := f.rest } c = none := by
            unfold stepF
            simp only [h3k, false_and, and_false, if_false]
            rw [letter_F hll, if_neg (by rw [hnl]; simp)]; rfl
          rw [run_no hst]
theorem tail_name {f : Fd} (hs : f.state = 2) (hr : f.rest = []) (hn : f.name = []) (hh : f.hold = []) (hd : f.dest = []) (hk1 : 1 ≤ f.kind) (hk5 : f.kind ≤ 5) (ht : f.ticks = 0) (l : Bs) (i : Nat) (hi : i ≤ l.length) : runF f i (l.drop i) = readN f.clock f.kind i l := by
  obtain ⟨a1, a2, a3⟩ := run_name (l.drop i).length (l.drop i) f i (Nat.le_refl _) hs hr
  unfold readN nameR
  try dsimp only
  generalize nameL (l.drop i).length (l.drop i) = m at a1 a2 a3
  rw [List.length_drop] at a1
  cases hb : m.2.2 with
  | true => rw [a2 hb]; rfl
  | false =>
    obtain ⟨b1, b2⟩ := a3 hb
    rw [b2, hn, List.nil_append, List.drop_drop, Bool.false_or]
    rw [List.drop_drop] at b1
    generalize hN : i + m.2.1 = N at *
    by_cases he : m.1 = []
    · rw [he]
      rw [if_pos (by simp)]
      cases hl : l.drop N with
      | nil =>
        have hdn : doneF { clock := f.clock, kind := f.kind, hold := f.hold, dest := f.dest, ticks := f.ticks, state := f.state, part := f.part, name := [], rest := [] } = false := by unfold doneF; simp [hs]
        rw [runF, hdn]; rfl
      | cons c t =>
        rw [hl] at b1
        have hc : c = 32 := by simpa using b1
        subst hc
        refine run_no ?_ _ _
        unfold stepF; simp [hs]
    · rw [if_neg (by simpa using he)]
      cases hl : l.drop N with
      | nil =>
        have hlN : l.length ≤ N := List.drop_eq_nil_iff.1 hl
        by_cases hk : f.kind = 1 ∨ f.kind = 2 ∨ f.kind = 3
        · rw [if_pos hk]
          have hdn : doneF { clock := f.clock, kind := f.kind, hold := f.hold, dest := f.dest, ticks := f.ticks, state := f.state, part := f.part, name := m.1, rest := [] } = false := by
            unfold doneF
            have : ¬ 4 ≤ f.kind := by omega
            simp [hs, this]
          rw [runF, hdn]
          unfold readBy
          rw [hl, one_nil (by simp)]
          simp [holB]
        · rw [if_neg hk, if_neg (show ¬ N < l.length by omega)]
          have hdn : doneF { clock := f.clock, kind := f.kind, hold := f.hold, dest := f.dest, ticks := f.ticks, state := f.state, part := f.part, name := m.1, rest := [] } = true := by
            unfold doneF
            have : 4 ≤ f.kind := by omega
            simp [hs, this, he]
          rw [runF, hdn]
          simp only [entF, if_true, hh, hd, ht]
      | cons c t =>
        rw [hl] at b1
        have hc : c = 32 := by simpa using b1
        subst hc
        obtain ⟨hdt, hNl⟩ := drop_next hl
        by_cases hk : f.kind = 1 ∨ f.kind = 2 ∨ f.kind = 3
        · rw [if_pos hk]
          have hst : stepF { clock := f.clock, kind := f.kind, hold := f.hold, dest := f.dest, ticks := f.ticks, state := f.state, part := f.part, name := m.1, rest := [] } 32 = some { clock := f.clock, kind := f.kind, hold := f.hold, dest := f.dest, ticks := f.ticks, state := 3, part := [32], name := m.1, rest := [] } := by
            unfold stepF
            have : f.kind ≤ 3 := by omega
            simp [hs, this, he]
          rw [run_go hst]
          exact tail_by (f := { clock := f.clock, kind := f.kind, hold := f.hold, dest := f.dest, ticks := f.ticks, state := 3, part := [32], name := m.1, rest := [] }) rfl rfl hh hd hk ht hl
        · rw [if_neg hk, if_pos hNl]
          refine run_no ?_ _ _
          unfold stepF
          have : ¬ f.kind ≤ 3 := by omega
          simp [hs, this]
theorem kind_at : ∀ j, j < 6 → kindW.idxOf (kindW.getD j []) = j := by decide +kernel
theorem step1 {f : Fd} (h : f.state = 1) (hk : f.kind = 0) (p : Bs) (c : UInt8) : stepF { f with part := p } c = if (∃ w ∈ kindW, (p ++ [c]) <+: w) then some (if p ++ [c] ∈ kindW then { f with kind := ((kindW.idxOf (p ++ [c]) + 1 : Nat) : Int), part := [], state := if kindW.idxOf (p ++ [c]) + 1 = 6 then 7 else 2 } else { f with part := p ++ [c] }) else none := by
  have hst : stepF { f with part := p } c = (beginsF (p ++ [c])).map fun (k : Nat) => if 0 < k then { f with kind := (k : Int), part := [], state := if k = 6 then 7 else 2 } else { f with kind := 0, part := p ++ [c] } := by
    unfold stepF
    simp only [h]
  rw [hst]
  by_cases h1 : ∃ w ∈ kindW, (p ++ [c]) <+: w
  · obtain ⟨w, hw, hp⟩ := h1
    have hb : beginsF (p ++ [c]) = some (if p ++ [c] ∈ kindW then kindW.idxOf (p ++ [c]) + 1 else 0) := by
      unfold beginsF; rw [if_pos (List.any_eq_true.2 ⟨w, hw, List.isPrefixOf_iff_prefix.2 hp⟩)]
    rw [hb, if_pos (⟨w, hw, hp⟩ : ∃ w ∈ kindW, (p ++ [c]) <+: w)]
    by_cases h2 : p ++ [c] ∈ kindW
    · rw [if_pos h2, if_pos h2, Option.map_some, if_pos (by omega)]
    · rw [if_neg h2, if_neg h2, Option.map_some, if_neg (by omega), ← hk]
  · have hb : beginsF (p ++ [c]) = none := by
      unfold beginsF; rw [if_neg]
      intro e
      obtain ⟨w, hw, hp⟩ := List.any_eq_true.1 e
      exact h1 ⟨w, hw, List.isPrefixOf_iff_prefix.1 hp⟩
    rw [hb, if_neg h1]; rfl
theorem one_blank (r : Bs) : oneR [[32]] r = if r.head? = some 32 then (0, 1, false) else (0, 0, true) := by
  cases r with
  | nil => exact one_nil (by simp)
  | cons c t =>
    by_cases h : c = 32
    · subst h
      rw [if_pos (show (32 :: t : Bs).head? = some 32 from rfl)]
      exact one_hit (L := [[32]]) (w := [32]) (l := t) (j := 0) (free1 _) rfl (fun j' h => by omega)
    · rw [one_first (by simpa using Ne.symm h) (by simp), if_neg (by simpa using h)]
theorem read_eq (l : Bs) : readF l = readP l := by
  obtain ⟨h1, -⟩ := run_clock (zeroB l) l zeroF 0 0 rfl (had_start l)
  unfold readF
  rw [h1]
  unfold readP
  rw [show numL (zeroB l) 0 zeroF.clock l = numR l from rfl]
  generalize numR l = c
  try dsimp only
  simp only [Nat.zero_add, Nat.sub_zero]
  cases hb : c.2.2 with
  | true => simp [oneB]
  | false =>
    simp only [oneB, Bool.false_eq_true, if_false]
    rw [one_blank]
    by_cases hh : (l.drop c.2.1).head? = some 32
    · rw [if_pos hh, if_pos hh]
      try dsimp only
      simp only [Bool.false_eq_true, if_false]
      have hle : c.2.1 + 1 ≤ l.length := by
        rcases Nat.lt_or_ge c.2.1 l.length with h | h
        · exact h
        · rw [List.drop_eq_nil_of_le h] at hh; cases hh
      have hw := run_words (L := kindW) kindW_free (fun p => { zeroF with clock := c.1, part := p, state := 1 }) (fun w => { zeroF with clock := c.1, kind := ((kindW.idxOf w + 1 : Nat) : Int), part := [], state := if kindW.idxOf w + 1 = 6 then 7 else 2 }) (fun _ => True)
        (fun _ _ _ => trivial) (fun p _ => rfl) (fun p d _ => step1 (f := { zeroF with clock := c.1, state := 1 }) rfl rfl p d) (l.drop (c.2.1 + 1)) [] (c.2.1 + 1) trivial ⟨kindW.getD 0 [], by decide +kernel, List.nil_prefix⟩ (by decide +kernel) (by simp)
      try dsimp only at hw
      rw [List.nil_append, show kindW = kindL.map bs from rfl] at hw
      rcases hw with ⟨g1, g2⟩ | ⟨w, r, g1, g2, g3, g4, g5, g6⟩
      · rw [g2, g1, if_pos rfl]; rfl
      · have hj : (oneR (kindL.map bs) (l.drop (c.2.1 + 1))).1 < 6 := (List.getElem?_eq_some_iff.1 g2).1
        have hwj : kindW.getD (oneR (kindL.map bs) (l.drop (c.2.1 + 1))).1 [] = w := by rw [List.getD_eq_getElem?_getD, show kindW = kindL.map bs from rfl, g2]; rfl
        have hx := kind_at _ hj
        rw [hwj] at hx
        rw [g6, g1, g3, if_neg (show ¬ (false = true) by simp)]
        rw [show (kindL.map bs) = kindW from rfl] at *
        rw [hx]
        generalize (oneR kindW (l.drop (c.2.1 + 1))).1 = j at *
        have hr : r = l.drop (c.2.1 + 1 + w.length) := (drop_add g4).symm
        have hP : c.2.1 + 1 + w.length ≤ l.length := by
          have := congrArg List.length g4
          rw [List.length_drop, List.length_append] at this; omega
        rw [show c.2.1 + 1 + w.length - ([] : Bs).length = c.2.1 + 1 + w.length from rfl, hr]
        generalize c.2.1 + 1 + w.length = P at *
        by_cases h5 : j = 5
        · subst h5
          rw [if_pos (show 5 + 1 = 6 from rfl), if_pos (show (5 : Nat) = 5 from rfl)]
          obtain ⟨t1, -⟩ := run_ticks (zeroB (l.drop P)) (l.drop P) { zeroF with clock := c.1, kind := ((5 + 1 : Nat) : Int), part := [], state := 7 } P 0 rfl (had_start _)
          rw [t1]
          unfold readT
          rw [show numL (zeroB (l.drop P)) 0 zeroF.ticks (l.drop P) = numR (l.drop P) from rfl]
          generalize numR (l.drop P) = n
          try dsimp only
          rw [List.length_drop, Nat.sub_zero, show decide (n.2.1 < l.length - P) = decide (P + n.2.1 < l.length) from by rw [decide_eq_decide]; omega]
          rfl
        · rw [if_neg (show ¬ j + 1 = 6 by omega), if_neg h5]
          exact tail_name (f := { zeroF with clock := c.1, kind := ((j + 1 : Nat) : Int), part := [], state := 2 }) rfl rfl rfl rfl rfl (by dsimp only; omega) (by dsimp only; omega) rfl l P hP
    · rw [if_neg hh, if_neg hh]
      simp
/-! ### behind a first wrong byte nothing matters -/
theorem run_bd : ∀ (l : Bs) (f : Fd) (i p : Nat), runF f i l = (none, p) → i ≤ p ∧ p ≤ i + l.length
  | [], f, i, p, h => by
    rw [runF] at h
    split at h
    · cases h
    · cases h; simp
  | c :: l, f, i, p, h => by
    cases hs : stepF f c with
    | none => rw [run_no hs] at h; cases h; simp
    | some f' =>
      rw [run_go hs] at h
      have := run_bd l f' (i + 1) p h
      simp; omega
theorem run_some_zero : ∀ (l : Bs) (f : Fd) (i p : Nat) (e : Ent), runF f i l = (some e, p) → p = 0
  | [], f, i, p, e, h => by
    rw [runF] at h
    split at h
    · cases h; rfl
    · cases h
  | c :: l, f, i, p, e, h => by
    cases hs : stepF f c with
    | none => rw [run_no hs] at h; cases h
    | some f' => rw [run_go hs] at h; exact run_some_zero l f' (i + 1) p e h
theorem run_tail : ∀ (l : Bs) (f : Fd) (i p : Nat) (T : Bs), runF f i l = (none, p) → p < i + l.length → runF f i (l.take (p + 1 - i) ++ T) = (none, p)
  | [], f, i, p, T, h, hl => by have := run_bd [] f i p h; simp at hl; omega
  | c :: l, f, i, p, T, h, hl => by
    have hb := run_bd _ f i p h
    rw [show p + 1 - i = (p - i) + 1 by omega, List.take_succ_cons, List.cons_append]
    cases hs : stepF f c with
    | none => rw [run_no hs] at h ⊢; exact h
    | some f' =>
      rw [run_go hs] at h ⊢
      have hb2 := run_bd _ f' (i + 1) p h
      have := run_tail l f' (i + 1) p T h (by simp at hl; omega)
      rwa [show p + 1 - (i + 1) = p - i by omega] at this
theorem run_head : ∀ (l : Bs) (f : Fd) (i p : Nat), runF f i l = (none, p) → p < i + l.length → (∃ e, runF f i (l.take (p - i)) = (some e, 0)) ∨ runF f i (l.take (p - i)) = (none, p)
  | [], f, i, p, h, hl => by have := run_bd [] f i p h; simp at hl; omega
  | c :: l, f, i, p, h, hl => by
    have hb := run_bd _ f i p h
    have hnil : ∀ g : Fd, (∃ e, runF g i [] = (some e, 0)) ∨ runF g i [] = (none, i) := fun g => by
      rw [runF]; split
      · exact .inl ⟨_, rfl⟩
      · exact .inr rfl
    cases hs : stepF f c with
    | none =>
      rw [run_no hs] at h; cases h
      rw [Nat.sub_self]; exact hnil f
    | some f' =>
      rw [run_go hs] at h
      have hb2 := run_bd _ f' (i + 1) p h
      rw [show p - i = (p - (i + 1)) + 1 by omega, List.take_succ_cons, run_go hs]
      exact run_head l f' (i + 1) p h (by simp at hl; omega)
theorem stops_plain (l T : Bs) (p : Nat) (h : readP l = (none, p)) : p ≤ l.length ∧ (p < l.length → readP (l.take (p + 1) ++ T) = (none, p) ∧ ((∃ e, readP (l.take p) = (some e, 0)) ∨ readP (l.take p) = (none, p))) := by
  rw [← read_eq] at h
  have hb := run_bd l zeroF 0 p h
  refine ⟨by omega, fun hp => ?_⟩
  rw [← read_eq, ← read_eq]
  exact ⟨run_tail l zeroF 0 p T h (by omega), run_head l zeroF 0 p h (by omega)⟩
end Fe
end Go.Proofs.YtlgagbglldehjaaDoor
