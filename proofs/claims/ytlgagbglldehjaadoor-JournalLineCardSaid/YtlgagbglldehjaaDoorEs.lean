/- (*journal.reader).escape. -/
import Derived.Test.YtlgagbglldehjaaDoorOw
import Derived.Test.YtlgagbglldehjaaDoorPn
import Derived.Test.YtlgagbglldehjaaDoorJ1
import Derived.Test.YtlgagbglldehjaaDoorSy
namespace Go.Proofs.YtlgagbglldehjaaDoor
set_option linter.unusedVariables false
set_option linter.unusedSimpArgs false
open Go Go.RowKit Pj J1 St
namespace Es
theorem hidsTo_hit {k : Nat} (h : hiddenB (k : Int) = true) : hidsTo (k + 1) = hidsTo k ++ [k] := by
  simp [hidsTo, List.range_succ, h]
theorem hidsTo_miss {k : Nat} (h : hiddenB (k : Int) = false) : hidsTo (k + 1) = hidsTo k := by
  simp [hidsTo, List.range_succ, h]
theorem hidsTo_le (k : Nat) : (hidsTo k).length ≤ k := Nat.le_trans (List.length_filter_le _ _) (by simp)
abbrev spellV (c : Nat) : Value := .string ⟨(spell c).toArray⟩
abbrev spellB (c : Nat) : ByteArray := ⟨(spell c).toArray⟩
abbrev runeV (c : Nat) : Value := .int .i32 (c : Int)
theorem infoS : (Tryd.prog.info? 9).map (fun i => (i.zero, i.size, i.bytes)) = some (some (.string ⟨#[]⟩), 1, 16) := by kernel_rfl
theorem infoR : (Tryd.prog.info? 21).map (fun i => (i.zero, i.size, i.bytes)) = some (some (.int .i32 0), 1, 4) := by kernel_rfl
theorem oneL_lt (r : Bs) : ∀ (l : List Bs) (b i : Nat), (oneL b i l r).1 < max 1 (i + l.length)
  | [], b, i => by show 0 < max 1 _; omega
  | x :: l, b, i => by
    rw [oneL]; split
    · rw [List.length_cons]; show i < _; omega
    · have := oneL_lt r l (max b (lcp x r)) (i + 1); rw [List.length_cons]; omega
theorem hids_len : hids.length = 35 := by decide +kernel

set_option maxHeartbeats 1000000 in
set_option maxRecDepth 100000 in
theorem escape_c (w : World) (g p : Nat) (s : ByteArray) (h : Rd w g s p false) (hp : p ≤ s.size) (hm : s.size < 9223372036854775807) (hT : Tabs w) :
    Calls Tryd.prog 45 #[.pointer (some ⟨g, 0, none⟩)] w fun e w' => e = .returned (.int .i32 (hids.getD (oneR spells ((bs s).drop p)).1 0 : Nat)) ∧
      Rd w' g s (p + (oneR spells ((bs s).drop p)).2.1) (oneR spells ((bs s).drop p)).2.2 ∧ But (· = g) w w' := by
  obtain ⟨iS, hiS, hz0, hz1, hz2⟩ := info_parts infoS
  obtain ⟨iR, hiR, hy0, hy1, hy2⟩ := info_parts infoR
  go_enter Tryd.func45, Tryd.ntmps45
  go_wp2
  go_loopw [3, 4, 5] (fun vl vr c wr => ∃ k : Nat, k ≤ 128 ∧ c = .int .i32 k ∧ Ow.Two 9 21 wr w.heap.size vl ((hidsTo k).map spellV) vr ((hidsTo k).map runeV) ∧ Ext w wr) (fun _ _ c _ => 128 - (intOf c).toNat)
  case atStart => exact ⟨0, by omega, rfl, ⟨World.ownsRow_nil _ _ _ _, World.ownsRow_nil _ _ _ _, fun _ h => by cases h⟩, But.refl _ _⟩
  case round =>
    obtain ⟨k, hk, rfl, hW, hx⟩ := hrel
    have hle := hidsTo_le k
    by_cases hlt : k < 128
    · cases hh : hiddenB (k : Int)
      · go_wp2_with (go_at_call 32; refine (hidden_c _ _).mono ?_; rintro e w1 ⟨rfl, rfl⟩)
        refine ⟨⟨k + 1, by omega, rfl, ?_, hx⟩, ?_⟩
        · rw [hidsTo_miss hh]; exact hW
        · simp only [intOf]; omega
      · go_wp2_with (first
          | (go_at_call 32; refine (hidden_c _ _).mono ?_; rintro e w1 ⟨rfl, rfl⟩)
          | (go_at_call 34; refine (spelled_c k (by omega) _ (hT.ext hx)).mono ?_; rintro e w1 ⟨rfl, hx1⟩; have hxA : Ext wr (w1.alloc (.cells #[spellV k] 9)) := hx1.alloc _; have hWA := hW.ext hxA)
          | (at_builtin; refine wpList_append_own_at _ rfl _ _ 58 rfl w.heap.size 9 iS (.string ⟨#[]⟩) 1 16 Tryd.underlying58 hiS hz0 hz1 hz2 rfl (by decide) _ _ _ rfl hWA.a ⟨w1.heap.size, 0, none⟩ 1 1 [spellV k] rfl rfl ?c1 ?c2 ?c3 ?c4 ?c5 ?_))
        case c1 =>
          intro j u hj
          match j, hj with
          | 0, hj => simp at hj; subst hj; simp [Addr.add]
        case c2 => intro u hu; simp at hu; subst hu; rfl
        case c3 => simp only [List.length_map]; unfold maxLen; omega
        case c4 => simp only [List.length_map]; omega
        case c5 => have := (hx.trans hxA).size; exact this
        intro v' w2 hown hgrow _ hvb
        have hx2 : Ext w w2 := Ow.ext_grown (hx.trans hxA) hgrow hWA.a (Nat.le_refl _)
        have hWB : Ow.Two 9 21 w2 w.heap.size v' ((hidsTo (k + 1)).map spellV) u4 ((hidsTo k).map runeV) := by
          refine hWA.growL hgrow ?_ (hvb.imp id fun e => e.trans (by simp))
          rw [hidsTo_hit hh]; simpa using hown
        have hWC := hWB.ext ((But.refl _ w2).alloc (.cells #[runeV k] 21))
        go_wp2_with (at_builtin; refine wpList_append_own_at _ rfl _ _ 110 rfl w.heap.size 21 iR (.int .i32 0) 1 4 Tryd.underlying110 hiR hy0 hy1 hy2 rfl (by decide) _ _ _ rfl hWC.b ⟨w2.heap.size, 0, none⟩ 1 1 [runeV k] rfl rfl ?c1 ?c2 ?c3 ?c4 ?c5 ?_)
        case c1 =>
          intro j u hj
          match j, hj with
          | 0, hj => simp at hj; subst hj; simp [Addr.add]
        case c2 => intro u hu; simp at hu; subst hu; rfl
        case c3 => simp only [List.length_map]; unfold maxLen; omega
        case c4 => simp only [List.length_map]; omega
        case c5 => have := (hx2.alloc (.cells #[runeV k] 21)).size; exact this
        intro v2 w3 hown2 hgrow2 _ hvb2
        have hx3 : Ext w w3 := Ow.ext_grown (hx2.alloc _) hgrow2 hWC.b (Nat.le_refl _)
        have hWD : Ow.Two 9 21 w3 w.heap.size v' ((hidsTo (k + 1)).map spellV) v2 ((hidsTo (k + 1)).map runeV) := by
          refine hWC.growR hgrow2 ?_ (hvb2.imp id fun e => e.trans (by simp))
          rw [hidsTo_hit hh]; simpa using hown2
        go_wp2
        go_roundw
        case rel => exact ⟨k + 1, by omega, rfl, hWD, hx3⟩
        case measure => simp only [intOf]; omega
    · obtain rfl : k = 128 := by omega
      obtain ⟨gs, cs, hvs, hgs, hgs2, -, hcs⟩ := Ow.own_cells hW.a (by rw [List.length_map, hids_len]; decide)
      obtain ⟨gr, cr, hvr, hgr, hgr2, hcr0, hcr⟩ := Ow.own_cells hW.b (by rw [List.length_map, hids_len]; decide)
      have hlen : (List.map spellV (hidsTo 128)).length = (hids.map spellB).length := by simp
      rw [hlen] at hvs
      rw [List.length_map, hids_len] at hvr hcr0
      subst hvs hvr
      have hgl := blk_lt h
      have hR : Rd wr g s p false := But.heap hx h id
      have hRow : RowS wr gs (hids.map spellB) := fun i hi => by
        rw [hcs i (by simpa using hi)]; simp
      have hmap : (hids.map spellB).map bs = spells := by simp [spells, bs, spellB, List.map_map, Function.comp_def]
      have hone := one_c wr g p s hR hp hm gs (hids.map spellB) cs hRow (by omega) (by rw [List.length_map, hids_len]; decide) (fun t ht => by
        obtain ⟨c, -, rfl⟩ := List.mem_map.1 ht
        have := spell_len c
        show (spell c).length ≤ _
        omega)
      rw [hmap] at hone
      have HO := Lib.hid hone
      have hi35 := oneL_lt ((bs s).drop p) spells 0 0
      have hsl : spells.length = 35 := by rw [spells, List.length_map, hids_len]
      rw [hsl] at hi35
      change (oneR spells ((bs s).drop p)).1 < _ at hi35
      obtain ⟨idx, hidx⟩ : ∃ idx, (oneR spells ((bs s).drop p)).1 = idx := ⟨_, rfl⟩
      rw [hidx] at hi35
      have hgetr := hcr idx (by rw [List.length_map, hids_len]; omega)
      have hval : (List.map runeV (hidsTo 128))[idx]'(by rw [List.length_map, hids_len]; omega) = .int .i32 (hids.getD idx 0 : Nat) := by
        rw [List.getElem_map, List.getD_eq_getElem?_getD, List.getElem?_eq_getElem (by rw [hids_len]; omega)]; rfl
      rw [hval] at hgetr
      have HG := Lib.hid hgetr
      clear hone hcs hcr hW hRow hmap hlen hval hgetr hle
      have hi2 : idx < 35 := by omega
      go_wp2_with (go_at_call 25; refine HO.out.mono ?_; rintro e w1 ⟨rfl, hR1, hB1⟩; rw [hidx]; have hc1 := hB1.cell HG.out (by show gr ≠ g; omega))
      go_ret
      rw [hidx]
      refine ⟨rfl, hR1, ?_⟩
      exact (hx.mono (T := (· = g)) fun _ _ h => h.elim).trans hB1
end Es
end Go.Proofs.YtlgagbglldehjaaDoor
