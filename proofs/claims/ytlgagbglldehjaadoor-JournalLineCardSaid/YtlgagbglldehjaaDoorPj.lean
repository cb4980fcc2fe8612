/- The plain side of chapter 22: lines as lists of bytes. No program in sight. -/
namespace Go.Proofs.YtlgagbglldehjaaDoor.Pj
set_option linter.unusedVariables false
set_option linter.unusedSimpArgs false

abbrev Bs := List UInt8

/-- how many elements two lists have alike at their heads -/
def lcp : Bs → Bs → Nat
  | a :: x, b :: y => if a = b then lcp x y + 1 else 0
  | _, _ => 0
theorem lcp_cons (a : UInt8) (x y : Bs) : lcp (a :: x) (a :: y) = lcp x y + 1 := by simp [lcp]
theorem lcp_ne {a b : UInt8} (h : a ≠ b) (x y : Bs) : lcp (a :: x) (b :: y) = 0 := by simp [lcp, h]
theorem lcp_nil_left (y : Bs) : lcp [] y = 0 := by simp [lcp]
theorem lcp_nil_right (x : Bs) : lcp x [] = 0 := by cases x <;> simp [lcp]
theorem lcp_le_left : ∀ (x y : Bs), lcp x y ≤ x.length
  | [], _ => by simp [lcp]
  | _ :: _, [] => by simp [lcp]
  | a :: x, b :: y => by
    by_cases h : a = b
    · subst h; rw [lcp_cons]; have := lcp_le_left x y; simp; omega
    · rw [lcp_ne h]; omega
theorem lcp_le_right : ∀ (x y : Bs), lcp x y ≤ y.length
  | [], _ => by simp [lcp]
  | _ :: _, [] => by simp [lcp]
  | a :: x, b :: y => by
    by_cases h : a = b
    · subst h; rw [lcp_cons]; have := lcp_le_right x y; simp; omega
    · rw [lcp_ne h]; omega

/-- a rune that is written by its number -/
def hiddenB (r : Int) : Bool := decide (r ≤ 32) || r == 127 || r == 92
/-- a byte of a holder's word -/
def letterB (c : Int) : Bool := (decide (97 ≤ c) && decide (c ≤ 122)) || (decide (48 ≤ c) && decide (c ≤ 57)) || c == 45
/-- a kind's word -/
def wordS (k : Int) : Bs :=
  if k = 1 then [114, 101, 103, 105, 115, 116, 101, 114] else if k = 2 then [114, 101, 108, 101, 97, 115, 101] else if k = 3 then [116, 114, 97, 110, 115, 102, 101, 114]
  else if k = 4 then [114, 101, 115, 101, 114, 118, 101] else if k = 5 then [102, 114, 101, 101] else if k = 6 then [116, 105, 99, 107] else []
/-- all of a list's bytes may stand in a holder's word -/
def letters (l : Bs) : Bool := l.all fun c => letterB (c.toNat : Int)
def holderB (l : Bs) : Bool := letters l && decide (1 ≤ l.length) && decide (l.length ≤ 32)

def digB (c : UInt8) : Bool := decide (48 ≤ c.toNat) && decide (c.toNat ≤ 57)
/-- a number read on, k digits having been taken, the first of them a nought (z): the number, how many digits, whether it is wrong -/
def numL (z : Bool) : Nat → Nat → Bs → Nat × Nat × Bool
  | k, n, c :: l => if digB c then
      (if (decide (0 < k) && z) || decide ((18446744073709551615 - (c.toNat - 48)) / 10 < n) then (0, k, true) else numL z (k + 1) (10 * n + (c.toNat - 48)) l)
      else (n, k, k == 0)
  | k, n, [] => (n, k, k == 0)
def zeroB : Bs → Bool
  | c :: _ => c == 48
  | [] => false
def numR (l : Bs) : Nat × Nat × Bool := numL (zeroB l) 0 0 l

/-- a holder's word read on, k bytes having been taken: how many, whether it is wrong -/
def holL : Nat → Bs → Nat × Bool
  | k, c :: l => if letterB (c.toNat : Int) then (if k = 32 then (32, true) else holL (k + 1) l) else (k, k == 0)
  | k, [] => (k, k == 0)
/-- one of some texts, none of which begins with another: its number, how many bytes are alike, whether it is none -/
def oneL (best : Nat) (i : Nat) : List Bs → Bs → Nat × Nat × Bool
  | [], _ => (0, best, true)
  | s :: l, r => if lcp s r = s.length then (i, s.length, false) else oneL (max best (lcp s r)) (i + 1) l r
def oneR (l : List Bs) (r : Bs) : Nat × Nat × Bool := oneL 0 0 l r
theorem oneL_hit {s r : Bs} (b i : Nat) (l : List Bs) (h : lcp s r = s.length) : oneL b i (s :: l) r = (i, s.length, false) := by rw [oneL, if_pos h]
theorem oneL_miss {s r : Bs} (b i : Nat) (l : List Bs) (h : lcp s r ≠ s.length) : oneL b i (s :: l) r = oneL (max b (lcp s r)) (i + 1) l r := by rw [oneL, if_neg h]
theorem oneL_nil (b i : Nat) (r : Bs) : oneL b i [] r = (0, b, true) := rfl
theorem numL_bad {z : Bool} {k m : Nat} {c : UInt8} (l : Bs) (h1 : 48 ≤ (c.toNat : Int)) (h2 : (c.toNat : Int) ≤ 57) (h : (0 < k ∧ z = true) ∨ (18446744073709551615 - ((c.toNat : Int) - 48)) / 10 < (m : Int)) : numL z k m (c :: l) = (0, k, true) := by
  have hd : digB c = true := by simp [digB]; omega
  rw [numL, if_pos hd, if_pos]
  rcases h with h | h
  · simp [h.1, h.2]
  · have : (18446744073709551615 - (c.toNat - 48)) / 10 < m := by omega
    simp [this]
theorem numL_go {z : Bool} {k m : Nat} {c : UInt8} (l : Bs) (h1 : 48 ≤ (c.toNat : Int)) (h2 : (c.toNat : Int) ≤ 57) (h3 : ¬ (0 < k ∧ z = true)) (h : (m : Int) ≤ (18446744073709551615 - ((c.toNat : Int) - 48)) / 10) :
    numL z k m (c :: l) = numL z (k + 1) (10 * m + (c.toNat - 48)) l := by
  have hd : digB c = true := by simp [digB]; omega
  rw [numL, if_pos hd, if_neg]
  have h4 : ¬ (18446744073709551615 - (c.toNat - 48)) / 10 < m := by omega
  simp only [Bool.or_eq_true, Bool.and_eq_true, decide_eq_true_eq]
  rintro (h5 | h5)
  · exact h3 h5
  · exact h4 h5
theorem numL_end {z : Bool} {k m : Nat} {c : UInt8} (l : Bs) (h : (c.toNat : Int) < 48 ∨ 57 < (c.toNat : Int)) : numL z k m (c :: l) = (m, k, k == 0) := by
  have hd : digB c = false := by simp [digB]; omega
  rw [numL, if_neg (by rw [hd]; simp)]
theorem numL_nil (z : Bool) (k m : Nat) : numL z k m [] = (m, k, k == 0) := by rw [numL]
theorem holL_end {k : Nat} {c : UInt8} (l : Bs) (h : letterB (c.toNat : Int) = false) : holL k (c :: l) = (k, k == 0) := by rw [holL, if_neg (by rw [h]; simp)]
theorem holL_long {c : UInt8} (l : Bs) (h : letterB (c.toNat : Int) = true) : holL 32 (c :: l) = (32, true) := by rw [holL, if_pos h, if_pos rfl]
theorem holL_go {k : Nat} {c : UInt8} (l : Bs) (h : letterB (c.toNat : Int) = true) (hk : k ≠ 32) : holL k (c :: l) = holL (k + 1) l := by rw [holL, if_pos h, if_neg hk]
theorem holL_nil (k : Nat) : holL k [] = (k, k == 0) := by rw [holL]
end Go.Proofs.YtlgagbglldehjaaDoor.Pj
