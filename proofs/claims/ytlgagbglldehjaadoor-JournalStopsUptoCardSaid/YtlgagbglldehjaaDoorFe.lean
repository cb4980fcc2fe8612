/- The reference's line reader, fed byte by byte: plain; how its parts go beside the program's. -/
import Derived.Test.YtlgagbglldehjaaDoorPn
namespace Go.Proofs.YtlgagbglldehjaaDoor
set_option linter.unusedVariables false
set_option linter.unusedSimpArgs false
open Pj Rf St Es Nm Rp
namespace Fe

/-! ### one of some texts -/
theorem lcp_pre : ∀ {s r : Bs}, lcp s r = s.length ↔ s <+: r
  | [], r => by simp [lcp]
  | a :: s, [] => by simp [lcp]
  | a :: s, b :: r => by
    by_cases h : a = b
    · subst h; rw [lcp_cons, List.length_cons, List.cons_prefix_cons, ← lcp_pre (s := s) (r := r)]; simp
    · rw [lcp_ne h, List.length_cons, List.cons_prefix_cons]; constructor
      · intro e; omega
      · intro e; exact absurd e.1 h
theorem lcp_take : ∀ (s r : Bs) (m : Nat), m ≤ lcp s r → s.take m = r.take m
  | _, _, 0, _ => by simp
  | [], r, m + 1, h => by simp [lcp] at h
  | _ :: _, [], m + 1, h => by simp [lcp] at h
  | a :: s, b :: r, m + 1, h => by
    by_cases e : a = b
    · subst e; rw [lcp_cons] at h; rw [List.take_succ_cons, List.take_succ_cons, lcp_take s r m (by omega)]
    · rw [lcp_ne e] at h; omega
theorem lcp_ge : ∀ (p s r : Bs), p <+: s → p <+: r → p.length ≤ lcp s r
  | [], _, _, _, _ => by simp
  | a :: p, s, r, h1, h2 => by
    obtain ⟨s', rfl⟩ := h1
    obtain ⟨r', rfl⟩ := h2
    rw [List.cons_append, List.cons_append, lcp_cons, List.length_cons]
    have := lcp_ge p (p ++ s') (p ++ r') (List.prefix_append _ _) (List.prefix_append _ _)
    omega
theorem oneL_none {r : Bs} {m : Nat} : ∀ (L : List Bs) (b i : Nat), (∀ w ∈ L, lcp w r ≠ w.length) → (∀ w ∈ L, lcp w r ≤ m) → b ≤ m → (b = m ∨ ∃ w ∈ L, lcp w r = m) → oneL b i L r = (0, m, true)
  | [], b, i, _, _, _, h => by
    rcases h with rfl | ⟨w, hw, _⟩
    · rfl
    · cases hw
  | s :: L, b, i, h1, h2, h3, h4 => by
    rw [oneL_miss b i L (h1 s (by simp))]
    have h5 := h2 s (by simp)
    refine oneL_none L _ _ (fun w hw => h1 w (by simp [hw])) (fun w hw => h2 w (by simp [hw])) (by omega) ?_
    rcases h4 with h4 | ⟨w, hw, h4⟩
    · left; omega
    · rcases List.mem_cons.1 hw with rfl | hw
      · left; omega
      · right; exact ⟨w, hw, h4⟩
theorem oneL_some {r w : Bs} : ∀ (L : List Bs) (b i j : Nat), L[j]? = some w → w <+: r → (∀ u ∈ L, u <+: r → u = w) → (∀ j', j' < j → L[j']? ≠ some w) → oneL b i L r = (i + j, w.length, false)
  | [], b, i, j, h, _, _, _ => by simp at h
  | s :: L, b, i, 0, h, hp, hu, _ => by
    simp at h; subst h
    rw [oneL_hit b i L (lcp_pre.2 hp)]; rfl
  | s :: L, b, i, j + 1, h, hp, hu, hj => by
    have hs : s ≠ w := by have := hj 0 (by omega); simpa using this
    rw [oneL_miss b i L (fun e => hs (hu s (by simp) (lcp_pre.1 e)))]
    rw [oneL_some L _ _ j (by simpa using h) hp (fun u hm => hu u (by simp [hm])) (fun j' h' => by have := hj (j' + 1) (by omega); simpa using this)]
    congr 1; omega
/-- no text of the list begins with another -/
def Free (L : List Bs) : Prop := ∀ u ∈ L, ∀ w ∈ L, u <+: w → u = w
theorem pre_both {u w r : Bs} (h1 : u <+: r) (h2 : w <+: r) : u <+: w ∨ w <+: u := List.prefix_or_prefix_of_prefix h1 h2
/-- fed up to p, the bytes l left: it ends here -/
theorem one_end {L : List Bs} {p : Bs} (hp : ∃ w ∈ L, p <+: w) (hn : ∀ w ∈ L, ¬ w <+: p) : oneR L p = (0, p.length, true) := by
  refine oneL_none L 0 0 (fun w hw e => hn w hw (lcp_pre.1 e)) (fun w hw => lcp_le_right w p) (Nat.zero_le _) ?_
  obtain ⟨w, hw, hpw⟩ := hp
  exact .inr ⟨w, hw, Nat.le_antisymm (lcp_le_right w p) (lcp_ge p w p hpw (List.prefix_refl p))⟩
theorem one_miss {L : List Bs} {p l : Bs} {c : UInt8} (hp : ∃ w ∈ L, p <+: w) (hn : ∀ w ∈ L, ¬ w <+: p) (hc : ∀ w ∈ L, ¬ (p ++ [c]) <+: w) : oneR L (p ++ c :: l) = (0, p.length, true) := by
  have hk : ∀ w ∈ L, lcp w (p ++ c :: l) ≤ p.length := fun w hw => by
    rcases Nat.lt_or_ge p.length (lcp w (p ++ c :: l)) with h | h
    · exfalso
      have h1 := lcp_take w (p ++ c :: l) (p.length + 1) h
      rw [show (p ++ c :: l).take (p.length + 1) = p ++ [c] from by rw [List.take_append]; simp [List.take_of_length_le]] at h1
      exact hc w hw (h1 ▸ List.take_prefix _ w)
    · exact h
  refine oneL_none L 0 0 (fun w hw e => ?_) hk (Nat.zero_le _) ?_
  · have h1 := lcp_pre.1 e
    have h2 := hk w hw
    rw [e] at h2
    exact hn w hw (List.prefix_of_prefix_length_le h1 (List.prefix_append p _) h2)
  · obtain ⟨w, hw, hpw⟩ := hp
    exact .inr ⟨w, hw, Nat.le_antisymm (hk w hw) (lcp_ge p w _ hpw (List.prefix_append p _))⟩
theorem one_hit {L : List Bs} {w l : Bs} {j : Nat} (hF : Free L) (hj : L[j]? = some w) (hj' : ∀ j', j' < j → L[j']? ≠ some w) : oneR L (w ++ l) = (j, w.length, false) := by
  have hm := List.mem_of_getElem? hj
  have h := oneL_some L 0 0 j hj (List.prefix_append w l) (fun u hu h => by
    rcases pre_both h (List.prefix_append w l) with h1 | h1
    · exact hF u hu w hm h1
    · exact (hF w hm u hu h1).symm) hj'
  rw [Nat.zero_add] at h
  exact h

/-! ### the reference's reader -/
structure Fd where
  clock : Nat
  kind : Int
  hold : Bs
  dest : Bs
  ticks : Nat
  state : Nat
  part : Bs
  name : Bs
  rest : Bs
/-- one more digit -/
def digitF (part : Bs) (n : Nat) (c : UInt8) : Option Nat :=
  if c.toNat < 48 ∨ 57 < c.toNat ∨ part = [48] then none
  else if 1844674407370955161 < n ∨ (n = 1844674407370955161 ∧ 5 < c.toNat - 48) then none
  else some (10 * n + (c.toNat - 48))
def kindW : List Bs := kindL.map bs
/-- does a kind's word begin so, or which is it? -/
def beginsF (part : Bs) : Option Nat :=
  if kindW.any (fun w => part.isPrefixOf w) then some (if part ∈ kindW then kindW.idxOf part + 1 else 0) else none
/-- how many bytes the sequence at the head has; 0: none -/
def seqN (l : Bs) : Nat := if l = [] ∨ ((Lib.decodeL l).1 = 65533 ∧ (Lib.decodeL l).2 = 1) then 0 else (Lib.decodeL l).2
def couldT : List Bs := [[0x90, 0x80, 0x80], [0xa0, 0x80, 0x80], [0x90, 0x80, 0xbf], [0xa0, 0x80, 0x80], [0x90, 0xbf, 0x80], [0xa0, 0x80, 0x80], [0x90, 0xbf, 0xbf], [0xa0, 0x80, 0x80],
  [0x8f, 0x80, 0x80], [0x80, 0x80, 0x80], [0x8f, 0x80, 0xbf], [0x80, 0x80, 0x80], [0x8f, 0xbf, 0x80], [0x80, 0x80, 0x80], [0x8f, 0xbf, 0xbf], [0x80, 0x80, 0x80]]
def couldF (s : Bs) : Bool := couldT.any fun t => decide (s.length ≤ seqN (s ++ t))
/-- one more byte of a name -/
def runeF (name rest : Bs) (c : UInt8) : Option (Bs × Bs) :=
  let s := rest ++ [c]
  if s.getD 0 0 = 92 then
    match hids.find? (fun r => s.isPrefixOf (spell r)) with
    | none => none
    | some r => if s = spell r then some (name ++ [r.toUInt8], []) else some (name, s)
  else if couldF s = false ∨ (s.length = 1 ∧ hiddenB (c.toNat : Int) = true ∧ c.toNat < 128) then none
  else if seqN s = s.length then some (name ++ s, []) else some (name, s)
def letterF (h : Bs) (c : UInt8) : Option Bs := if holderB (h ++ [c]) then some (h ++ [c]) else none
def stepF (f : Fd) (c : UInt8) : Option Fd :=
  match f.state with
  | 0 => if c = 32 ∧ f.part ≠ [] then some { f with part := [], state := 1 } else (digitF f.part f.clock c).map fun n => { f with clock := n, part := f.part ++ [c] }
  | 1 => (beginsF (f.part ++ [c])).map fun (k : Nat) => if 0 < k then { f with kind := (k : Int), part := [], state := if k = 6 then 7 else 2 } else { f with kind := 0, part := f.part ++ [c] }
  | 7 => (digitF f.part f.ticks c).map fun n => { f with ticks := n, part := f.part ++ [c] }
  | 2 => if c = 32 ∧ f.rest = [] ∧ f.name ≠ [] ∧ f.kind ≤ 3 then some { f with part := [32], state := 3 } else if c = 32 then none else (runeF f.name f.rest c).map fun x => { f with name := x.1, rest := x.2 }
  | 3 => if (f.part ++ [c]).isPrefixOf byB then some { f with part := f.part ++ [c], state := if f.part ++ [c] = byB then 4 else 3 } else none
  | 4 => if c = 32 ∧ f.kind = 3 ∧ f.hold ≠ [] then some { f with part := [32], state := 5 } else (letterF f.hold c).map fun h => { f with hold := h }
  | 5 => if (f.part ++ [c]).isPrefixOf toB then some { f with part := f.part ++ [c], state := if f.part ++ [c] = toB then 6 else 5 } else none
  | 6 => (letterF f.dest c).map fun h => { f with dest := h }
  | _ => none
def doneF (f : Fd) : Bool :=
  match f.state with
  | 7 => f.part != []
  | 2 => f.rest == [] && f.name != [] && decide (4 ≤ f.kind)
  | 4 => decide (f.kind < 3) && f.hold != []
  | 6 => f.dest != []
  | _ => false
def entF (f : Fd) : Ent := ⟨f.clock, f.kind, f.name, f.hold, f.dest, f.ticks⟩
def runF : Fd → Nat → Bs → Option Ent × Nat
  | f, i, [] => if doneF f then (some (entF f), 0) else (none, i)
  | f, i, c :: l => match stepF f c with
    | none => (none, i)
    | some f' => runF f' (i + 1) l
def zeroF : Fd := ⟨0, 0, [], [], 0, 0, [], [], []⟩
def readF (l : Bs) : Option Ent × Nat := runF zeroF 0 l
theorem run_no {f : Fd} {c : UInt8} (h : stepF f c = none) (i : Nat) (l : Bs) : runF f i (c :: l) = (none, i) := by rw [runF, h]
theorem run_go {f f' : Fd} {c : UInt8} (h : stepF f c = some f') (i : Nat) (l : Bs) : runF f i (c :: l) = runF f' (i + 1) l := by rw [runF, h]

/-! ### numbers -/
theorem digit_no {part : Bs} {n : Nat} {c : UInt8} (h : c.toNat < 48 ∨ 57 < c.toNat) : digitF part n c = none := by
  unfold digitF; rw [if_pos (by rcases h with h | h; exact .inl h; exact .inr (.inl h))]
/-- what a number's reader has had: k bytes, the first of them a nought (z) -/
def Had (part : Bs) (z : Bool) (k : Nat) (l : Bs) : Prop := part.length = k ∧ (part = [48] ↔ (0 < k ∧ z = true)) ∧ (k = 0 → z = zeroB l)
theorem had_start (l : Bs) : Had [] (zeroB l) 0 l := ⟨rfl, by simp, fun _ => rfl⟩
theorem digit_bad {part l : Bs} {z : Bool} {k n : Nat} {c : UInt8} (hH : Had part z k (c :: l)) (h1 : 48 ≤ c.toNat) (h2 : c.toNat ≤ 57) (h : (0 < k ∧ z = true) ∨ (18446744073709551615 - (c.toNat - 48)) / 10 < n) : digitF part n c = none := by
  unfold digitF
  rcases h with h | h
  · rw [if_pos (.inr (.inr (hH.2.1.2 h)))]
  · split
    · rfl
    · rw [if_pos (by omega)]
theorem digit_go {part l : Bs} {z : Bool} {k n : Nat} {c : UInt8} (hH : Had part z k (c :: l)) (h1 : 48 ≤ c.toNat) (h2 : c.toNat ≤ 57) (h3 : ¬ (0 < k ∧ z = true)) (h : n ≤ (18446744073709551615 - (c.toNat - 48)) / 10) :
    digitF part n c = some (10 * n + (c.toNat - 48)) ∧ Had (part ++ [c]) z (k + 1) l := by
  constructor
  · unfold digitF
    rw [if_neg (by rintro (e | e | e); omega; omega; exact h3 (hH.2.1.1 e)), if_neg (by omega)]
  · refine ⟨by rw [List.length_append, hH.1]; rfl, ⟨fun e => ?_, fun e => ?_⟩, by omega⟩
    · have hl : part = [] := by
        cases part with
        | nil => rfl
        | cons a t => simp at e
      subst hl
      have hk : k = 0 := hH.1.symm
      rw [hH.2.2 hk]
      have : c = 48 := by simpa using e
      subst this; simp [zeroB]
    · have hk : k = 0 := by
        rcases Nat.eq_zero_or_pos k with h0 | h0
        · exact h0
        · exact absurd ⟨h0, e.2⟩ h3
      have hp : part = [] := List.eq_nil_of_length_eq_zero (hH.1.trans hk)
      have hz := hH.2.2 hk
      rw [e.2] at hz
      have : c = 48 := by simpa [zeroB] using hz.symm
      rw [hp, this]; rfl
theorem dig_parts (c : UInt8) : (c.toNat < 48 ∨ 57 < c.toNat) ∨ (48 ≤ c.toNat ∧ c.toNat ≤ 57) := by omega
theorem not_blank {c : UInt8} (h1 : 48 ≤ c.toNat) : c ≠ 32 := fun e => by subst e; simp at h1
/-- the clock's number and the blank behind it -/
theorem run_clock (z : Bool) : ∀ (l : Bs) (f : Fd) (i k : Nat), f.state = 0 → Had f.part z k l →
    runF f i l = (let r := numL z k f.clock l
      if r.2.2 then (none, i + (r.2.1 - k)) else if (l.drop (r.2.1 - k)).head? = some 32 then runF { f with clock := r.1, part := [], state := 1 } (i + (r.2.1 - k) + 1) (l.drop (r.2.1 - k + 1)) else (none, i + (r.2.1 - k))) ∧ k ≤ (numL z k f.clock l).2.1
  | [], f, i, k, hs, hH => by
    rw [numL_nil, runF]
    have hd : doneF f = false := by unfold doneF; rw [hs]; rfl
    rw [hd]; simp
  | c :: l, f, i, k, hs, hH => by
    rcases dig_parts c with hd | ⟨h1, h2⟩
    · rw [numL_end l (by omega)]
      simp only [Nat.sub_self, Nat.add_zero, List.drop_zero, List.head?_cons]
      by_cases hk : k = 0
      · subst hk
        have hp : f.part = [] := List.eq_nil_of_length_eq_zero hH.1
        have hst : stepF f c = none := by unfold stepF; rw [hs]; simp only [hp, ne_eq, not_true_eq_false, and_false, if_false, digit_no hd, Option.map_none]
        rw [run_no hst]; simp
      · have hp : f.part ≠ [] := fun e => hk (by rw [← hH.1, e]; rfl)
        have hkb : (k == 0) = false := by simpa using hk
        rw [hkb]
        by_cases hc : c = 32
        · subst hc
          have hst : stepF f 32 = some { f with part := [], state := 1 } := by unfold stepF; rw [hs]; simp only [hp, ne_eq, not_false_eq_true, and_self, if_true]
          rw [run_go hst]; simp
        · have hst : stepF f c = none := by unfold stepF; rw [hs]; simp only [hc, false_and, if_false, digit_no hd, Option.map_none]
          rw [run_no hst]
          have : some c ≠ some (32 : UInt8) := by simpa using hc
          simp [hc]
    · by_cases hb : (0 < k ∧ z = true) ∨ (18446744073709551615 - (c.toNat - 48)) / 10 < f.clock
      · rw [numL_bad l (by omega) (by omega) (by rcases hb with h | h; exact .inl h; right; omega)]
        have hst : stepF f c = none := by unfold stepF; rw [hs]; simp only [not_blank h1, false_and, if_false, digit_bad hH h1 h2 hb, Option.map_none]
        rw [run_no hst]; simp
      · have h3 : ¬ (0 < k ∧ z = true) := fun e => hb (.inl e)
        have h4 : f.clock ≤ (18446744073709551615 - (c.toNat - 48)) / 10 := by omega
        obtain ⟨e1, e2⟩ := digit_go hH h1 h2 h3 h4
        rw [numL_go l (by omega) (by omega) h3 (by omega)]
        have hst : stepF f c = some { f with clock := 10 * f.clock + (c.toNat - 48), part := f.part ++ [c] } := by unfold stepF; rw [hs]; simp only [not_blank h1, false_and, if_false, e1, Option.map_some]
        rw [run_go hst]
        obtain ⟨h5, h6⟩ := run_clock z l { f with clock := 10 * f.clock + (c.toNat - 48), part := f.part ++ [c] } (i + 1) (k + 1) hs e2
        rw [h5]
        dsimp only at h6 ⊢
        generalize numL z (k + 1) (10 * f.clock + (c.toNat - 48)) l = r at h6 ⊢
        have e3 : r.2.1 - k = (r.2.1 - (k + 1)) + 1 := by omega
        rw [e3, List.drop_succ_cons, List.drop_succ_cons, show i + 1 + (r.2.1 - (k + 1)) = i + (r.2.1 - (k + 1) + 1) by omega]
        exact ⟨rfl, by omega⟩
/-- the ticks' number, up to the end -/
theorem run_ticks (z : Bool) : ∀ (l : Bs) (f : Fd) (i k : Nat), f.state = 7 → Had f.part z k l →
    runF f i l = (let r := numL z k f.ticks l
      if r.2.2 || decide (r.2.1 - k < l.length) then (none, i + (r.2.1 - k)) else (some (entF { f with ticks := r.1 }), 0)) ∧ k ≤ (numL z k f.ticks l).2.1
  | [], f, i, k, hs, hH => by
    rw [numL_nil, runF]
    have hd : doneF f = (f.part != []) := by unfold doneF; rw [hs]; rfl
    rw [hd]
    by_cases hk : k = 0
    · have hp : f.part = [] := List.eq_nil_of_length_eq_zero (hH.1.trans hk)
      rw [hp, hk]; simp
    · have hp : f.part ≠ [] := fun e => hk (by rw [← hH.1, e]; rfl)
      have hkb : (k == 0) = false := by simpa using hk
      rw [hkb]; simp [hp]
  | c :: l, f, i, k, hs, hH => by
    rcases dig_parts c with hd | ⟨h1, h2⟩
    · rw [numL_end l (by omega)]
      have hst : stepF f c = none := by unfold stepF; rw [hs]; simp only [digit_no hd, Option.map_none]
      rw [run_no hst]; simp
    · by_cases hb : (0 < k ∧ z = true) ∨ (18446744073709551615 - (c.toNat - 48)) / 10 < f.ticks
      · rw [numL_bad l (by omega) (by omega) (by rcases hb with h | h; exact .inl h; right; omega)]
        have hst : stepF f c = none := by unfold stepF; rw [hs]; simp only [digit_bad hH h1 h2 hb, Option.map_none]
        rw [run_no hst]; simp
      · have h3 : ¬ (0 < k ∧ z = true) := fun e => hb (.inl e)
        have h4 : f.ticks ≤ (18446744073709551615 - (c.toNat - 48)) / 10 := by omega
        obtain ⟨e1, e2⟩ := digit_go hH h1 h2 h3 h4
        rw [numL_go l (by omega) (by omega) h3 (by omega)]
        have hst : stepF f c = some { f with ticks := 10 * f.ticks + (c.toNat - 48), part := f.part ++ [c] } := by unfold stepF; rw [hs]; simp only [e1, Option.map_some]
        rw [run_go hst]
        obtain ⟨h5, h6⟩ := run_ticks z l { f with ticks := 10 * f.ticks + (c.toNat - 48), part := f.part ++ [c] } (i + 1) (k + 1) hs e2
        rw [h5]
        dsimp only at h6 ⊢
        generalize numL z (k + 1) (10 * f.ticks + (c.toNat - 48)) l = r at h6 ⊢
        have e3 : r.2.1 - k = (r.2.1 - (k + 1)) + 1 := by omega
        rw [e3, show i + 1 + (r.2.1 - (k + 1)) = i + (r.2.1 - (k + 1) + 1) by omega, List.length_cons, show decide (r.2.1 - (k + 1) + 1 < l.length + 1) = decide (r.2.1 - (k + 1) < l.length) from by simp]
        exact ⟨rfl, by omega⟩

/-! ### the kind's word -/
theorem kindW_free : Free kindW := by
  have : ∀ u ∈ kindW, ∀ w ∈ kindW, u.isPrefixOf w = true → u = w := by decide +kernel
  intro u hu w hw h
  exact this u hu w hw (List.isPrefixOf_iff_prefix.2 h)
end Fe
end Go.Proofs.YtlgagbglldehjaaDoor
