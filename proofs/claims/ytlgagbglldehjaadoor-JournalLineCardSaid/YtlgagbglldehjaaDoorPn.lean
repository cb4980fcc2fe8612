/- The plain side of chapter 22, all its words: what the line writer writes, what the line reader reads. No program in sight. -/
import Derived.Test.YtlgagbglldehjaaDoorBase
import Derived.Test.YtlgagbglldehjaaDoorPj
import Derived.Lib.MapLaws
import Derived.Lib.TrimUEq
import Derived.Lib.ValidLaws
import Derived.Lib.ItoaLen
namespace Go.Proofs.YtlgagbglldehjaaDoor
set_option linter.unusedVariables false
set_option linter.unusedSimpArgs false
open Go Go.RowKit Pj
namespace Rf
/-- does a text begin with a whole sequence, or with what can be none? -/
def fullB (l : Bs) : Bool :=
  let x := Lib.firstT (l.getD 0 0).toNat
  if l = [] then false
  else if x % 8 ≤ l.length then true
  else if decide (1 < l.length) && (decide ((l.getD 1 0).toNat < Lib.accLo (x / 16)) || decide (Lib.accHi (x / 16) < (l.getD 1 0).toNat)) then true
  else decide (2 < l.length) && (decide ((l.getD 2 0).toNat < 128) || decide (191 < (l.getD 2 0).toNat))
def brkL (l : Bs) : Nat → Nat → Nat
  | 0, n => n
  | f + 1, n => if n < l.length ∧ n < 4 ∧ fullB (l.take n) = false then brkL l f (n + 1) else n
/-- how many bytes could begin a sequence -/
def brk (l : Bs) : Nat := if fullB (l.take (brkL l 4 1)) then brkL l 4 1 - 1 else brkL l 4 1
end Rf
open Rf
namespace St
def hexd (n : Nat) : UInt8 := if n < 10 then (48 + n).toUInt8 else (87 + n).toUInt8
def hexS (u : Nat) : List UInt8 := if u < 16 then [hexd u] else [hexd (u / 16), hexd (u % 16)]
def spell (u : Nat) : List UInt8 := 92 :: (hexS u ++ [59])
/-- a rune as a name's writer writes it -/
def quoteR (r : Nat) : List UInt8 := if hiddenB r then spell r else Lib.encodeRune r
def quoteFrom (s : ByteArray) : Nat → Nat → List UInt8
  | 0, _ => []
  | fuel + 1, pos => if pos < s.size then quoteR (Utf8.decode s pos).1 ++ quoteFrom s fuel (pos + (Utf8.decode s pos).2) else []
def quoteS (s : ByteArray) : List UInt8 := quoteFrom s s.size 0
/-- what a line of an entry is; none: there is none -/
def lineOf (clock : Nat) (kind : Int) (name hold dest : Bs) (ticks : Nat) (q : Bs) : Option Bs :=
  if kind = 6 then (if name = [] ∧ hold = [] ∧ dest = [] then some (Lib.decDigits clock ++ 32 :: wordS 6 ++ 32 :: Lib.decDigits ticks) else none)
  else if name = [] ∨ Lib.validD name = false then none
  else if kind = 4 ∨ kind = 5 then (if hold = [] ∧ dest = [] ∧ ticks = 0 then some (Lib.decDigits clock ++ 32 :: wordS kind ++ 32 :: q) else none)
  else if kind = 1 ∨ kind = 2 then (if holderB hold = true ∧ dest = [] ∧ ticks = 0 then some (Lib.decDigits clock ++ 32 :: wordS kind ++ 32 :: q ++ [32, 98, 121, 32] ++ hold) else none)
  else if kind = 3 then (if holderB hold = true ∧ holderB dest = true ∧ ticks = 0 then some (Lib.decDigits clock ++ 32 :: wordS kind ++ 32 :: q ++ [32, 98, 121, 32] ++ hold ++ [32, 116, 111, 32] ++ dest) else none)
  else none
end St
open St
namespace Es
/-- the runes below k that are written by their numbers -/
def hidsTo (k : Nat) : List Nat := (List.range k).filter fun c => hiddenB (c : Int)
abbrev hids : List Nat := hidsTo 128
def spells : List Bs := hids.map spell
end Es
open Es
namespace Nm
/-- one step of a name's reader: the bytes, how many were taken, whether it is wrong; none: the name ends -/
def nameStep (l : Bs) : Option (Bs × Nat × Bool) :=
  if l = [] ∨ l.getD 0 0 = 32 then none
  else if (Lib.decodeL l).1 = 92 then some (Lib.encodeRune ((hids.getD (oneR spells l).1 0 : Nat) : Int), (oneR spells l).2.1, (oneR spells l).2.2)
  else if (Lib.decodeL l).1 = 65533 ∧ (Lib.decodeL l).2 = 1 then some ([], brk l, true)
  else if hiddenB ((Lib.decodeL l).1 : Int) = true then some ([], 0, true)
  else some (Lib.encodeRune ((Lib.decodeL l).1 : Int), (Lib.decodeL l).2, false)
def nameL : Nat → Bs → Bs × Nat × Bool
  | 0, _ => ([], 0, false)
  | f + 1, l => match nameStep l with
    | none => ([], 0, false)
    | some (b, n, true) => (b, n, true)
    | some (b, n, false) => (b ++ (nameL f (l.drop n)).1, n + (nameL f (l.drop n)).2.1, (nameL f (l.drop n)).2.2)
end Nm
open Nm
namespace Rp
def oneB (b : Bool) (l : List Bs) (r : Bs) : Nat × Nat × Bool := if b then (0, 0, true) else oneR l r
def holB (b : Bool) (r : Bs) : Nat × Bool := if b then (0, true) else holL 0 r
/-- the kinds' words, a blank behind each -/
def kindB (k : Nat) : ByteArray := ⟨(wordS (k : Int) ++ [32]).toArray⟩
def kindL : List ByteArray := [1, 2, 3, 4, 5, 6].map kindB
def nameR (l : Bs) : Bs × Nat × Bool := ((Nm.nameL l.length l).1, (Nm.nameL l.length l).2.1, (Nm.nameL l.length l).2.2 || ((Nm.nameL l.length l).1 == []))
/-- an entry -/
structure Ent where
  clock : Nat
  kind : Int
  name : Bs
  hold : Bs
  dest : Bs
  ticks : Nat
abbrev byB : Bs := [32, 98, 121, 32]
abbrev toB : Bs := [32, 116, 111, 32]
/-- behind the kind's word: what is read, or the place of the first wrong byte -/
def readT (c : Nat) (p : Nat) (l : Bs) : Option Ent × Nat :=
  if (numR (l.drop p)).2.2 || decide (p + (numR (l.drop p)).2.1 < l.length) then (none, p + (numR (l.drop p)).2.1) else (some ⟨c, 6, [], [], [], (numR (l.drop p)).1⟩, 0)
def readTo (c : Nat) (n h : Bs) (p : Nat) (l : Bs) : Option Ent × Nat :=
  let o := oneR [toB] (l.drop p)
  let q := p + o.2.1
  let d := holB o.2.2 (l.drop q)
  if d.2 || decide (q + d.1 < l.length) then (none, q + d.1) else (some ⟨c, 3, n, h, (l.drop q).take d.1, 0⟩, 0)
def readBy (c : Nat) (k : Int) (n : Bs) (p : Nat) (l : Bs) : Option Ent × Nat :=
  let o := oneR [byB] (l.drop p)
  let q := p + o.2.1
  let d := holB o.2.2 (l.drop q)
  if d.2 then (none, q + d.1)
  else if k = 3 then readTo c n ((l.drop q).take d.1) (q + d.1) l
  else if q + d.1 < l.length then (none, q + d.1) else (some ⟨c, k, n, (l.drop q).take d.1, [], 0⟩, 0)
def readN (c : Nat) (k : Int) (p : Nat) (l : Bs) : Option Ent × Nat :=
  let m := nameR (l.drop p)
  if m.2.2 then (none, p + m.2.1)
  else if k = 1 ∨ k = 2 ∨ k = 3 then readBy c k m.1 (p + m.2.1) l
  else if p + m.2.1 < l.length then (none, p + m.2.1) else (some ⟨c, k, m.1, [], [], 0⟩, 0)
def readP (l : Bs) : Option Ent × Nat :=
  let c := numR l
  let o := oneB c.2.2 [[32]] (l.drop c.2.1)
  let p := c.2.1 + o.2.1
  let k := oneB o.2.2 (kindL.map bs) (l.drop p)
  let q := p + k.2.1
  if k.2.2 then (none, q)
  else if k.1 = 5 then readT c.1 q l
  else readN c.1 ((k.1 + 1 : Nat) : Int) q l
end Rp
open Rp
end Go.Proofs.YtlgagbglldehjaaDoor
