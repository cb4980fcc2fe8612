/- (*feed).rune. -/
import Derived.Test.YtlgagbglldehjaaDoorGd
import Derived.Test.YtlgagbglldehjaaDoorGc
import Derived.Test.YtlgagbglldehjaaDoorOw
import Derived.Maps.AppendAt
import Derived.Lib.AppendStr
import Derived.Lib.UnsafeStr
namespace Go.Proofs.YtlgagbglldehjaaDoor
set_option linter.unusedVariables false
set_option linter.unusedSimpArgs false
open Go Go.RowKit Pj Fe St Es Gh Gd Gs
namespace Gr
/-- the feed at g, its name's bytes a row of the call's own -/
structure FN (B : Nat) (w : World) (g clock : Nat) (kind : Int) (hold dest : ByteArray) (ticks state : Nat) (part : ByteArray) (name : Bs) (rest : ByteArray) (v : Value) : Prop where
  b : FB w g clock kind hold dest ticks state part v rest
  o : w.ownsRow B 5 1 v name.length (Lib.byteCells name)
  g : B ≤ g
theorem hid_iff (r : Nat) : r ∈ hids ↔ r < 128 ∧ hiddenB (r : Int) = true := by simp [hids, hidsTo]
/-- no rune below r is written so -/
def NoneTo (s : Bs) (r : Nat) : Prop := ∀ x, x < r → hiddenB (x : Int) = true → s.isPrefixOf (spell x) = false
theorem find_hit {s : Bs} {r : Nat} (hr : r < 128) (hh : hiddenB (r : Int) = true) (hp : s.isPrefixOf (spell r) = true) (hn : NoneTo s r) : hids.find? (fun r => s.isPrefixOf (spell r)) = some r := by
  have hm := (hid_iff r).2 ⟨hr, hh⟩
  cases hf : hids.find? (fun r => s.isPrefixOf (spell r)) with
  | none => have := List.find?_eq_none.1 hf r hm; exact absurd hp this
  | some x =>
    have hx := (hid_iff x).1 (List.mem_of_find?_eq_some hf)
    have hxp := List.find?_some (p := fun r => s.isPrefixOf (spell r)) hf
    rcases Nat.lt_trichotomy x r with h | h | h
    · have := hn x h hx.2; rw [this] at hxp; cases hxp
    · rw [h]
    · exfalso
      -- the first one found stands ahead: r lies ahead of x
      have key : ∀ l : List Nat, l.Pairwise (· < ·) → r ∈ l → l.find? (fun r => s.isPrefixOf (spell r)) = some x → x ≤ r := by
        intro l
        induction l with
        | nil => intro _ h; cases h
        | cons a l ih =>
          intro hpw hm hf
          rw [List.pairwise_cons] at hpw
          rw [List.find?_cons] at hf
          split at hf
          · simp only [Option.some.injEq] at hf
            subst hf
            rcases List.mem_cons.1 hm with e | e
            · omega
            · exact Nat.le_of_lt (hpw.1 r e)
          · rename_i hne
            rcases List.mem_cons.1 hm with e | e
            · subst e; rw [hp] at hne; cases hne
            · exact ih hpw.2 e hf
      have hpw : hids.Pairwise (· < ·) := by decide +kernel
      have := key hids hpw hm hf
      omega
theorem find_none {s : Bs} (hn : NoneTo s 128) : hids.find? (fun r => s.isPrefixOf (spell r)) = none := by
  rw [List.find?_eq_none]
  intro x hx
  obtain ⟨h1, h2⟩ := (hid_iff x).1 hx
  rw [hn x h1 h2]; simp
/-- what rune answers -/
def RunePost (B : Nat) (w : World) (g clock : Nat) (kind : Int) (hold dest : ByteArray) (ticks state : Nat) (part : ByteArray) (e : Ending) (w' : World) : Option (Bs × Bs) → Prop
  | none => e = .returned (.bool false) ∧ Below B w w'
  | some x => e = .returned (.bool true) ∧ Below B w w' ∧ ∃ rest v, bs rest = x.2 ∧ FN B w' g clock kind hold dest ticks state part x.1 rest v
theorem infoU8 : (Tryd.prog.info? 5).map (fun i => (i.zero, i.size, i.bytes)) = some (some (.int .u8 0), 1, 1) := by kernel_rfl
section
variable {B : Nat} {w w' : World} {g clock : Nat} {kind : Int} {hold dest : ByteArray} {ticks state : Nat} {part : ByteArray} {name : Bs} {rest : ByteArray} {v : Value}
theorem own_ne {u : Value} {n : Nat} {xs : List Value} (hb : FB w g clock kind hold dest ticks state part u rest) (ho : w.ownsRow B 5 1 v n xs) : v.ownBlock ≠ some g := fun e => by
  rcases ho.2 with ⟨rfl, _⟩ | ⟨k, cap, cur, rfl, _, hk, _⟩
  · cases e
  · have e2 : k = g := by simpa [Value.ownBlock] using e
    subst e2
    have e3 := hk.symm.trans hb
    simp only [Option.some.injEq, Obj.cells.injEq] at e3
    exact absurd e3.2.1 (by decide)
theorem FN.but (h : FN B w g clock kind hold dest ticks state part name rest v) (hb : But (· = g) w w') {clock' : Nat} {kind' : Int} {hold' dest' : ByteArray} {ticks' state' : Nat} {part' rest' : ByteArray} (hf : FB w' g clock' kind' hold' dest' ticks' state' part' v rest') : FN B w' g clock' kind' hold' dest' ticks' state' part' name rest' v :=
  ⟨hf, Ow.own_keep h.o hb (fun k hk e => own_ne h.b h.o (by have e1 : k = g := e; rw [← e1]; exact hk)), h.g⟩
theorem FN.ext (h : FN B w g clock kind hold dest ticks state part name rest v) (hx : Ext w w') : FN B w' g clock kind hold dest ticks state part name rest v :=
  ⟨h.b.ext hx, Ow.own_keep h.o hx (fun _ _ e => e), h.g⟩
theorem FN.set9 (h : FN B w g clock kind hold dest ticks state part name rest v) (x : ByteArray) : FN B (w.setCell ⟨g, 9, none⟩ (.string x)) g clock kind hold dest ticks state part name x v := h.but (FB.but_set (But.refl _ _) 9 _) (h.b.set9 x)
theorem below_but (hg : B ≤ g) (hB : B ≤ w.heap.size) (h : But (· = g) w w') : Below B w w' := h.below hB (fun k hk e => by have e1 : k = g := e; omega)
theorem below_ext (hB : B ≤ w.heap.size) (h : Ext w w') : Below B w w' := h.below hB (fun _ _ e => e)
theorem own_form {n : Nat} {xs : List Value} (ho : w.ownsRow B 5 1 v n xs) : ∃ ao m cap, v = .slice ao m cap := by
  rcases ho.2 with ⟨hv, _⟩ | ⟨g, cap, cur, hv, _⟩
  · exact ⟨_, _, _, hv⟩
  · exact ⟨_, _, _, hv⟩
theorem below_grown {n : Nat} {xs : List Value} (hB : B ≤ w.heap.size) (ho : w.ownsRow B 5 1 v n xs) (hg : w.grownBy w' v.ownBlock) : Below B w w' :=
  (Ow.but_grown hg).below hB fun k hk e => by
    have e1 : some k = v.ownBlock := e
    have := (Ow.own_lt ho e1.symm).1
    omega
end
theorem app_bs (s : ByteArray) (c : UInt8) : bs (s ++ ⟨#[c]⟩) = bs s ++ [c] := by simp [bs, ByteArray.toList_data_append]
set_option maxHeartbeats 4000000 in
set_option maxRecDepth 100000 in
theorem rune_other (B : Nat) (w : World) (g clock : Nat) (kind : Int) (hold dest : ByteArray) (ticks state : Nat) (part : ByteArray) (name : Bs) (rest : ByteArray) (v : Value) (h : FN B w g clock kind hold dest ticks state part name rest v) (hB : B ≤ w.heap.size)
    (hr : rest.size ≤ 1048576) (hn : name.length ≤ 1048576) (c : UInt8) (h92 : (bs rest ++ [c]).getD 0 0 ≠ 92) :
    Calls Tryd.prog 50 #[.pointer (some ⟨g, 0, none⟩), .int .u8 c.toNat] w fun e w' => RunePost B w g clock kind hold dest ticks state part e w' (runeF name (bs rest) c) := by
  have hc8 := UInt8.toNat_lt c
  obtain ⟨-, -, -, -, -, -, -, -, -, c9⟩ := h.b.cells
  have hgl := blk_lt h.b
  have hb1 : ¬ 9223372036854775807 < rest.size + 1 := by omega
  have k1 := Cv.kc1d c
  obtain ⟨S, hS⟩ : ∃ S, rest ++ ⟨#[c]⟩ = S := ⟨_, rfl⟩
  have hSb : bs S = bs rest ++ [c] := by rw [← hS]; exact app_bs _ _
  have hSl : S.size = rest.size + 1 := by rw [← hS, ByteArray.size_append]; rfl
  have hS0 : 0 < S.size := by omega
  have g0 : 0 < (S.size : Int) := by omega
  have g92 : ((S[0].toNat : Int) == 92) = false := by
    rw [← hSb, bs_getD0 S 0 hS0] at h92
    rw [beq_eq_false_iff_ne]; intro e
    exact h92 (UInt8.toNat_inj.1 (by show S[0].toNat = 92; omega))
  have hrune : Hid (runeF name (bs rest) c = if couldF (bs S) = false ∨ ((bs S).length = 1 ∧ hiddenB (c.toNat : Int) = true ∧ c.toNat < 128) then none else if seqN (bs S) = (bs S).length then some (name ++ bs S, []) else some (name, bs S)) := by
    unfold Hid runeF
    rw [← hSb]
    dsimp only
    rw [if_neg (by rw [hSb]; exact h92)]
  obtain ⟨R, hR⟩ : ∃ R, runeF name (bs rest) c = R := ⟨_, rfl⟩
  rw [hR]
  have HR : Hid (R = if couldF (bs S) = false ∨ ((bs S).length = 1 ∧ hiddenB (c.toNat : Int) = true ∧ c.toNat < 128) then none else if seqN (bs S) = (bs S).length then some (name ++ bs S, []) else some (name, bs S)) := hR.symm.trans hrune.out
  clear hrune hR
  have HC := Lib.hid (fun W => Gc.could_c S W (by omega))
  have HSB := Lib.hid hSb
  have HSL := Lib.hid hSl
  clear hSb hSl h92
  go_enter Tryd.func50, Tryd.ntmps50
  go_wp2
  go_region
  have hX1 : Ext w (w.alloc (.cells #[.int .u8 c.toNat] 5)).drew := ((But.refl _ _).alloc _).drew
  generalize (w.alloc (.cells #[.int .u8 c.toNat] 5)).drew = w1 at hX1 ⊢
  clear c9 k1 hS
  go_wp2_with fail
  go_at_call 64
  refine (HC.out _).mono ?_
  rintro e1 w2 ⟨rfl, hx2⟩
  have hX2 := hX1.trans hx2
  clear hX1 hx2 HC
  cases hcb : couldF (bs S) with
  | false =>
    have HR2 : Hid (R = none) := HR.out.trans (if_pos (.inl hcb))
    clear HR hcb
    go_wp2
    go_ret
    rw [HR2.out]
    exact ⟨rfl, below_ext hB hX2⟩
  | true =>
    by_cases hhid : S.size = 1 ∧ hiddenB (c.toNat : Int) = true
    · obtain ⟨h1, h2⟩ := hhid
      have hc128 : c.toNat < 128 := by have := hid_hidden h2; omega
      have HR2 : Hid (R = none) := HR.out.trans (if_pos (.inr ⟨by rw [bs_len]; exact h1, h2, hc128⟩))
      have gs : ((S.size : Int) == 1) = true := by rw [h1]; rfl
      have gc : (c.toNat : Int) < 128 := by omega
      have HH := Lib.hid (fun W => hidden_c (c.toNat : Int) W)
      rw [h2] at HH
      clear HR hcb h1 h2
      go_wp2_with (go_at_call 39; refine (HH.out _).mono ?_; rintro e2 w3 ⟨rfl, rfl⟩)
      go_ret
      rw [HR2.out]
      exact ⟨rfl, below_ext hB hX2⟩
    · have HR3 : Hid (R = if seqN (bs S) = (bs S).length then some (name ++ bs S, []) else some (name, bs S)) := HR.out.trans (if_neg (by
        rintro (e | ⟨e1, e2, -⟩)
        · rw [hcb] at e; cases e
        · exact hhid ⟨by rw [← bs_len]; exact e1, e2⟩))
      have HQ := Lib.hid (fun W => Sequence_c S W (by have := HSL.out; omega))
      have N2 : FN B w2 g clock kind hold dest ticks state part name rest v := h.ext hX2
      have hB2 : B ≤ w2.heap.size := Nat.le_trans hB hX2.size
      have hlow := below_ext hB hX2
      have N3 := N2.set9 S
      have hlow3 : Below B w (w2.setCell ⟨g, 9, none⟩ (.string S)) := hlow.setCell h.g _
      have f9 := N2.b.fz 9
      obtain ⟨-, -, -, -, -, -, -, -, -, c9⟩ := N2.b.cells
      have hB3 : B ≤ (w2.setCell ⟨g, 9, none⟩ (.string S)).heap.size := by simpa [World.setCell] using hB2
      clear HR hcb hX2
      obtain ⟨i0, hi, hz0, hz1, hz2⟩ := info_parts infoU8
      by_cases h1 : S.size = 1
      · have h2 : hiddenB (c.toNat : Int) = false := by
          cases e : hiddenB (c.toNat : Int) with
          | false => rfl
          | true => exact absurd ⟨h1, e⟩ hhid
        have gs : ((S.size : Int) == 1) = true := by rw [h1]; rfl
        have HH := Lib.hid (fun W => hidden_c (c.toNat : Int) W)
        rw [h2] at HH
        clear h1 h2 hhid
        go_wp2_with (go_at_call 39; refine (HH.out _).mono ?_; rintro e2 w3 ⟨rfl, rfl⟩)
        generalize w2.setCell { block := g, off := 9 } (.string S) = w3 at N3 hlow3 hB3 ⊢
        clear c9 f9 N2 hlow hB2
        go_at_call 60
        refine (HQ.out _).mono ?_
        rintro e3 w4 ⟨r3, rfl, rfl⟩
        clear HQ
        by_cases hq : seqN (bs S) = (bs S).length
        · have HR4 : Hid (R = some (name ++ bs S, [])) := HR3.out.trans (if_pos hq)
          have gq : ((seqN (bs S) : Int) == (S.size : Int)) = true := beq_iff_eq.2 (by rw [hq, bs_len])
          clear HR3 hq
          obtain ⟨-, -, -, -, -, -, -, -, c8, -⟩ := N3.b.cells
          go_wp2_with (at_builtin; refine Lib.wpList_append_own_string _ rfl _ _ 61 9 rfl B 5 i0 Tryd.underlying61 Tryd.underlying9 hi hz0 hz1 hz2 _ _ _ rfl N3.o S rfl ?c3 ?c4 ?c5 ?_)
          case c3 => have := HSL.out; unfold maxLen; omega
          case c4 => have := HSL.out; omega
          case c5 => exact hB3
          intro v' w5 hown' hgrow _
          have hlt := blk_lt N3.b
          have F5 : FB w5 g clock kind hold dest ticks state part v S := (hgrow.block g hlt (fun e => own_ne N3.b N3.o e.symm)).trans N3.b
          have hlow5 : Below B w w5 := hlow3.trans (below_grown hB3 N3.o hgrow)
          obtain ⟨ao, m', cap, rfl⟩ := own_form hown'
          have d8 := (F5.cells).2.2.2.2.2.2.2.2.1
          have d9 := (F5.cells).2.2.2.2.2.2.2.2.2
          have e8 := F5.fz 8
          have e9 := F5.fz 9
          have F6 := (F5.set8 (.slice ao m' cap)).set9 ⟨#[]⟩
          have hown6 : ((w5.setCell ⟨g, 8, none⟩ (.slice ao m' cap)).setCell ⟨g, 9, none⟩ (.string ⟨#[]⟩)).ownsRow B 5 1 (.slice ao m' cap) (name ++ bs S).length (Lib.byteCells (name ++ bs S)) := by
            rw [List.length_append, bs_len, Lib.byteCells_append]
            exact Ow.own_keep hown' (FB.but_set (FB.but_set (But.refl _ _) 8 _) 9 _) (fun k hk e => own_ne F5 hown' (by have e1 : k = g := e; rw [← e1]; exact hk))
          have hlow6 : Below B w ((w5.setCell ⟨g, 8, none⟩ (.slice ao m' cap)).setCell ⟨g, 9, none⟩ (.string ⟨#[]⟩)) := (hlow5.setCell h.g _).setCell h.g _
          have hg := h.g
          clear hown' c8 N3 hlow3 hlow5
          go_wp2
          go_ret
          rw [HR4.out]
          exact ⟨rfl, hlow6, _, _, rfl, ⟨F6, hown6, hg⟩⟩
        · have HR4 : Hid (R = some (name, bs S)) := HR3.out.trans (if_neg hq)
          have gq : ((seqN (bs S) : Int) == (S.size : Int)) = false := beq_eq_false_iff_ne.2 (fun e => hq (by rw [bs_len]; omega))
          clear HR3 hq
          go_wp2
          go_ret
          rw [HR4.out]
          exact ⟨rfl, hlow3, _, _, rfl, N3⟩
      · have gs : ((S.size : Int) == 1) = false := beq_eq_false_iff_ne.2 (by omega)
        clear h1 hhid
        go_wp2_with fail
        generalize w2.setCell { block := g, off := 9 } (.string S) = w3 at N3 hlow3 hB3 ⊢
        clear c9 f9 N2 hlow hB2
        go_at_call 60
        refine (HQ.out _).mono ?_
        rintro e3 w4 ⟨r3, rfl, rfl⟩
        clear HQ
        by_cases hq : seqN (bs S) = (bs S).length
        · have HR4 : Hid (R = some (name ++ bs S, [])) := HR3.out.trans (if_pos hq)
          have gq : ((seqN (bs S) : Int) == (S.size : Int)) = true := beq_iff_eq.2 (by rw [hq, bs_len])
          clear HR3 hq
          obtain ⟨-, -, -, -, -, -, -, -, c8, -⟩ := N3.b.cells
          go_wp2_with (at_builtin; refine Lib.wpList_append_own_string _ rfl _ _ 61 9 rfl B 5 i0 Tryd.underlying61 Tryd.underlying9 hi hz0 hz1 hz2 _ _ _ rfl N3.o S rfl ?c3 ?c4 ?c5 ?_)
          case c3 => have := HSL.out; unfold maxLen; omega
          case c4 => have := HSL.out; omega
          case c5 => exact hB3
          intro v' w5 hown' hgrow _
          have hlt := blk_lt N3.b
          have F5 : FB w5 g clock kind hold dest ticks state part v S := (hgrow.block g hlt (fun e => own_ne N3.b N3.o e.symm)).trans N3.b
          have hlow5 : Below B w w5 := hlow3.trans (below_grown hB3 N3.o hgrow)
          obtain ⟨ao, m', cap, rfl⟩ := own_form hown'
          have d8 := (F5.cells).2.2.2.2.2.2.2.2.1
          have d9 := (F5.cells).2.2.2.2.2.2.2.2.2
          have e8 := F5.fz 8
          have e9 := F5.fz 9
          have F6 := (F5.set8 (.slice ao m' cap)).set9 ⟨#[]⟩
          have hown6 : ((w5.setCell ⟨g, 8, none⟩ (.slice ao m' cap)).setCell ⟨g, 9, none⟩ (.string ⟨#[]⟩)).ownsRow B 5 1 (.slice ao m' cap) (name ++ bs S).length (Lib.byteCells (name ++ bs S)) := by
            rw [List.length_append, bs_len, Lib.byteCells_append]
            exact Ow.own_keep hown' (FB.but_set (FB.but_set (But.refl _ _) 8 _) 9 _) (fun k hk e => own_ne F5 hown' (by have e1 : k = g := e; rw [← e1]; exact hk))
          have hlow6 : Below B w ((w5.setCell ⟨g, 8, none⟩ (.slice ao m' cap)).setCell ⟨g, 9, none⟩ (.string ⟨#[]⟩)) := (hlow5.setCell h.g _).setCell h.g _
          have hg := h.g
          clear hown' c8 N3 hlow3 hlow5
          go_wp2
          go_ret
          rw [HR4.out]
          exact ⟨rfl, hlow6, _, _, rfl, ⟨F6, hown6, hg⟩⟩
        · have HR4 : Hid (R = some (name, bs S)) := HR3.out.trans (if_neg hq)
          have gq : ((seqN (bs S) : Int) == (S.size : Int)) = false := beq_eq_false_iff_ne.2 (fun e => hq (by rw [bs_len]; omega))
          clear HR3 hq
          go_wp2
          go_ret
          rw [HR4.out]
          exact ⟨rfl, hlow3, _, _, rfl, N3⟩
end Gr
end Go.Proofs.YtlgagbglldehjaaDoor
