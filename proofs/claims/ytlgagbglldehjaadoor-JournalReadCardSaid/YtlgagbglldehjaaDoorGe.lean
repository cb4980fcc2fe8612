/- (*feed).rune behind a backslash. -/
import Derived.Test.YtlgagbglldehjaaDoorGr
namespace Go.Proofs.YtlgagbglldehjaaDoor
set_option linter.unusedVariables false
set_option linter.unusedSimpArgs false
open Go Go.RowKit Pj Fe St Es Gh Gd Gs
namespace Gr
theorem none_next {s : Bs} {r : Nat} (h : NoneTo s r) (hn : hiddenB (r : Int) = true → s.isPrefixOf (spell r) = false) : NoneTo s (r + 1) := fun x hx hh => by
  rcases Nat.lt_or_ge x r with h1 | h1
  · exact h x h1 hh
  · obtain rfl : x = r := by omega
    exact hn hh
theorem conv92 (w : World) (g : Nat) (hg : g = w.heap.size) : (convert 61 9 (.slice (some ⟨g, 0, none⟩) 1 1)).run Tryd.prog (w.alloc (.cells #[.int .u8 92] 5)) = .ok (.string ⟨#[92]⟩) (w.alloc (.cells #[.int .u8 92] 5)) := Cv.kc1 92 w g hg
theorem conv92d (w : World) (g : Nat) (hg : g = w.heap.size) : (convert 61 9 (.slice (some ⟨g, 0, none⟩) 1 1)).run Tryd.prog (w.alloc (.cells #[.int .u8 92] 5)).drew = .ok (.string ⟨#[92]⟩) (w.alloc (.cells #[.int .u8 92] 5)).drew := Cv.kc1d 92 w g hg
theorem conv92n (w : World) (g n : Nat) (hg : g = w.heap.size) : (convert 61 9 (.slice (some ⟨g, 0, none⟩) 1 1)).run Tryd.prog ((w.alloc (.cells #[.int .u8 92] 5)).drewN n) = .ok (.string ⟨#[92]⟩) ((w.alloc (.cells #[.int .u8 92] 5)).drewN n) := by
  subst hg; exact Cv.conv1 _ _ 92 (by simp)
theorem conv92m (w : World) (n : Nat) : (convert 61 9 (.slice (some ⟨w.heap.size, 0, none⟩) 1 1)).run Tryd.prog ((w.drewN n).alloc (.cells #[.int .u8 92] 5)) = .ok (.string ⟨#[92]⟩) ((w.drewN n).alloc (.cells #[.int .u8 92] 5)) := Cv.kc1 92 (w.drewN n) w.heap.size rfl
theorem byte1 {r : Nat} (h : r < 128) : Lib.byteCells [r.toUInt8] = [.int .u8 (r : Int)] := by
  have : r.toUInt8.toNat = r := by simp; omega
  simp [Lib.byteCells, this]
theorem spell_bs (r : Nat) : bs (⟨#[92]⟩ ++ ⟨(hexS r).toArray⟩ ++ ⟨#[59]⟩) = spell r := by simp [bs, spell, ByteArray.toList_data_append]
set_option maxHeartbeats 4000000 in
set_option maxRecDepth 100000 in
theorem rune_esc (B : Nat) (w : World) (g clock : Nat) (kind : Int) (hold dest : ByteArray) (ticks state : Nat) (part : ByteArray) (name : Bs) (rest : ByteArray) (v : Value) (h : FN B w g clock kind hold dest ticks state part name rest v) (hB : B ≤ w.heap.size)
    (hr : rest.size ≤ 1048576) (hn : name.length ≤ 1048576) (c : UInt8) (h92 : (bs rest ++ [c]).getD 0 0 = 92) :
    Calls Tryd.prog 50 #[.pointer (some ⟨g, 0, none⟩), .int .u8 c.toNat] w fun e w' => RunePost B w g clock kind hold dest ticks state part e w' (runeF name (bs rest) c) := by
  have hc8 := UInt8.toNat_lt c
  obtain ⟨-, -, -, -, -, -, -, -, -, c9⟩ := h.b.cells
  have hgl := blk_lt h.b
  have hb1 : ¬ 9223372036854775807 < rest.size + 1 := by omega
  have k1 := Cv.kc1d c
  obtain ⟨S, hS⟩ : ∃ S, rest ++ ⟨#[c]⟩ = S := ⟨_, rfl⟩
  have hSb : bs S = bs rest ++ [c] := by rw [← hS]; exact app_bs _ _
  have hSl : S.size = rest.size + 1 := by rw [← hS, ByteArray.size_append]; rfl
  have hS0 : 0 < S.size := by omega
  have g0 : 0 < (S.size : Int) := by omega
  have g92 : ((S[0].toNat : Int) == 92) = true := by
    rw [← hSb, bs_getD0 S 0 hS0] at h92
    rw [h92]; rfl
  have hrune : Hid (runeF name (bs rest) c = match hids.find? (fun r => (bs S).isPrefixOf (spell r)) with
      | none => none
      | some r => if bs S = spell r then some (name ++ [r.toUInt8], []) else some (name, bs S)) := by
    unfold Hid runeF
    rw [← hSb]
    dsimp only
    rw [if_pos (by rw [hSb]; exact h92)]
    rfl
  obtain ⟨R, hR⟩ : ∃ R, runeF name (bs rest) c = R := ⟨_, rfl⟩
  rw [hR]
  have HR : Hid (R = match hids.find? (fun r => (bs S).isPrefixOf (spell r)) with
      | none => none
      | some r => if bs S = spell r then some (name ++ [r.toUInt8], []) else some (name, bs S)) := hR.symm.trans hrune.out
  clear hrune hR
  have HSB := Lib.hid hSb
  have HSL := Lib.hid hSl
  obtain ⟨i0, hi, hz0, hz1, hz2⟩ := info_parts infoU8
  clear hSb hSl h92
  go_enter Tryd.func50, Tryd.ntmps50
  go_wp2
  go_region
  have hX1 : Ext w (w.alloc (.cells #[.int .u8 c.toNat] 5)).drew := ((But.refl _ _).alloc _).drew
  generalize (w.alloc (.cells #[.int .u8 c.toNat] 5)).drew = w1 at hX1 ⊢
  clear c9 k1 hS
  go_wp2
  go_loopw [6] (fun i wr => ∃ r : Nat, r ≤ 128 ∧ i = .int .i32 r ∧ Hid (NoneTo (bs S) r) ∧ Ext w wr) (fun i _ => 128 - (intOf i).toNat)
  case atStart => exact ⟨0, by omega, rfl, fun x hx => by omega, hX1⟩
  case round =>
    clear hX1
    obtain ⟨r, hr128, rfl, HN, hX⟩ := hrel
    by_cases hlt : r < 128
    · have gr : (r : Int) < 128 := by omega
      have HX := hex_c r hlt
      have HH := Lib.hid (fun W => hidden_c (r : Int) W)
      have hxl : (hexS r).length ≤ 2 := by unfold hexS; split <;> simp
      have hb2 : ¬ 9223372036854775807 < 1 + (hexS r).length := by omega
      have hb3 : ¬ 9223372036854775807 < 1 + (hexS r).length + 1 := by omega
      have q1 := conv92
      have q2 := conv92d
      have q3 := conv92n
      have q4 := conv92m wr
      obtain ⟨W, hW⟩ : ∃ W : ByteArray, (⟨#[92]⟩ ++ ⟨(hexS r).toArray⟩ : ByteArray) ++ ⟨#[59]⟩ = W := ⟨_, rfl⟩
      have HWB : Hid (bs W = spell r) := by rw [← hW]; exact spell_bs r
      cases hh : hiddenB (r : Int) with
      | false =>
        have HN2 : Hid (NoneTo (bs S) (r + 1)) := none_next HN.out (fun e => by rw [hh] at e; cases e)
        rw [hh] at HH
        clear hh
        go_wp2_with fail
        go_region_with (go_at_call 40; refine (HX _).mono ?_; rintro e2 w2 ⟨rfl, n2, rfl⟩)
        all_goals
          clear q1 q2 q3 q4 hW
          go_wp2_with (go_at_call 39; refine (HH.out _).mono ?_; rintro e3 w3 ⟨rfl, rfl⟩)
          go_roundw
          case rel =>
            refine ⟨r + 1, by omega, by go_num, HN2, ?_⟩
            repeat (first | exact hX | with_reducible refine But.drew ?_ | with_reducible refine But.drewN ?_ _ | with_reducible refine But.alloc ?_ _)
          case measure => simp [intOf]; omega
      | true =>
        rw [hh] at HH
        cases hpre : (bs S).isPrefixOf (spell r) with
        | false =>
          have HN2 : Hid (NoneTo (bs S) (r + 1)) := none_next HN.out (fun _ => hpre)
          rw [← HWB.out] at hpre
          clear hh
          by_cases hle : S.size ≤ W.size
          · have t1 : ((W.extract 0 S.size).toList == S.toList) = false := by rw [pre_test hle]; exact hpre
            clear hpre
            go_wp2_with fail
            go_region_with (go_at_call 40; refine (HX _).mono ?_; rintro e2 w2 ⟨rfl, n2, rfl⟩)
            all_goals
              clear q1 q2 q3 q4 hW
              go_wp2_with (go_at_call 39; refine (HH.out _).mono ?_; rintro e3 w3 ⟨rfl, rfl⟩)
              go_roundw
              case rel =>
                refine ⟨r + 1, by omega, by go_num, HN2, ?_⟩
                repeat (first | exact hX | with_reducible refine But.drew ?_ | with_reducible refine But.drewN ?_ _ | with_reducible refine But.alloc ?_ _)
              case measure => simp [intOf]; omega
          · clear hpre
            go_wp2_with fail
            go_region_with (go_at_call 40; refine (HX _).mono ?_; rintro e2 w2 ⟨rfl, n2, rfl⟩)
            all_goals
              clear q1 q2 q3 q4 hW
              go_wp2_with (go_at_call 39; refine (HH.out _).mono ?_; rintro e3 w3 ⟨rfl, rfl⟩)
              go_roundw
              case rel =>
                refine ⟨r + 1, by omega, by go_num, HN2, ?_⟩
                repeat (first | exact hX | with_reducible refine But.drew ?_ | with_reducible refine But.drewN ?_ _ | with_reducible refine But.alloc ?_ _)
              case measure => simp [intOf]; omega
        | true =>
          have hf := find_hit hlt hh hpre HN.out
          rw [← HWB.out] at hpre
          have hle : S.size ≤ W.size := by have := (List.isPrefixOf_iff_prefix.1 hpre).length_le; rwa [bs_len, bs_len] at this
          have t1 : ((W.extract 0 S.size).toList == S.toList) = true := by rw [pre_test hle]; exact hpre
          by_cases heq : bs S = spell r
          · have HR2 : Hid (R = some (name ++ [r.toUInt8], [])) := by rw [HR.out, hf]; exact if_pos heq
            have t2 : (S.toList == W.toList) = true := by rw [tl, tl, HWB.out, heq]; exact beq_self_eq_true _
            clear HR hf heq hpre hh
            go_wp2_with fail
            go_region_with (go_at_call 40; refine (HX _).mono ?_; rintro e2 w2 ⟨rfl, n2, rfl⟩)
            all_goals
              clear q1 q2 q3 q4 hW
              try rw [show (wr.drewN (1 + n2)).alloc (.cells #[.int .u8 92] 5) = (wr.alloc (.cells #[.int .u8 92] 5)).drewN (1 + n2) from rfl]
              have hX2 : Ext w ((wr.alloc (.cells #[.int .u8 92] 5)).drewN (1 + n2)) := (hX.alloc _).drewN _
              generalize (wr.alloc (.cells #[.int .u8 92] 5)).drewN (1 + n2) = X at hX2 ⊢
              have N2 : FN B X g clock kind hold dest ticks state part name rest v := h.ext hX2
              have hB2 : B ≤ X.heap.size := Nat.le_trans hB hX2.size
              have hlow := below_ext hB hX2
              have N3 := N2.set9 S
              have hlow3 : Below B w (X.setCell ⟨g, 9, none⟩ (.string S)) := hlow.setCell h.g _
              have f9 := N2.b.fz 9
              obtain ⟨-, -, -, -, -, -, -, -, c8, c9⟩ := N2.b.cells
              have hB3 : B ≤ (X.setCell ⟨g, 9, none⟩ (.string S)).heap.size := by simpa [World.setCell] using hB2
              have hXs : (X.setCell ⟨g, 9, none⟩ (.string S)).heap.size = X.heap.size := by simp [World.setCell]
              have hgX := blk_lt N2.b
              clear hX2 hlow
              go_wp2_with (first
                | (go_at_call 39; refine (HH.out _).mono ?_; rintro e3 w3 ⟨rfl, rfl⟩)
                | (at_builtin; refine wpList_append_own_at _ rfl _ _ 61 rfl B 5 i0 (.int .u8 0) 1 1 Tryd.underlying61 hi hz0 hz1 hz2 rfl (by decide) _ _ _ rfl ((N3.ext ((But.refl _ _).alloc _)).o) ⟨X.heap.size, 0, none⟩ 1 1 [.int .u8 (r : Int)] rfl rfl ?c1 ?c2 ?c3 ?c4 ?c5 ?_))
              case c1 =>
                intro j u hj
                match j, hj with
                | 0, hj =>
                  simp at hj; subst hj
                  show World.cell? _ ⟨X.heap.size, 0, none⟩ = _
                  rw [← hXs, World.cell?_alloc_new]; rfl
              case c2 => intro u hu; simp at hu; subst hu; rfl
              case c3 => unfold maxLen; omega
              case c4 => omega
              case c5 => simp [World.setCell]; omega
              intro v' w5 hown' hgrow _ _
              have N4 := N3.ext ((But.refl (fun _ => False) _).alloc (.cells #[.int .u8 (r : Int)] 5))
              have hB4 : B ≤ ((X.setCell ⟨g, 9, none⟩ (.string S)).alloc (.cells #[.int .u8 (r : Int)] 5)).heap.size := by simp; omega
              have hlow4 : Below B w ((X.setCell ⟨g, 9, none⟩ (.string S)).alloc (.cells #[.int .u8 (r : Int)] 5)) := hlow3.alloc hB3 _
              have hlt5 := blk_lt N4.b
              have F5 : FB w5 g clock kind hold dest ticks state part v S := (hgrow.block g hlt5 (fun e => own_ne N4.b N4.o e.symm)).trans N4.b
              have hlow5 : Below B w w5 := hlow4.trans (below_grown hB4 N4.o hgrow)
              obtain ⟨ao, m', cap, rfl⟩ := own_form hown'
              have d8 := (F5.cells).2.2.2.2.2.2.2.2.1
              have d9 := (F5.cells).2.2.2.2.2.2.2.2.2
              have e8 := F5.fz 8
              have e9 := F5.fz 9
              have F6 := (F5.set8 (.slice ao m' cap)).set9 ⟨#[]⟩
              have hown6 : ((w5.setCell ⟨g, 8, none⟩ (.slice ao m' cap)).setCell ⟨g, 9, none⟩ (.string ⟨#[]⟩)).ownsRow B 5 1 (.slice ao m' cap) (name ++ [r.toUInt8]).length (Lib.byteCells (name ++ [r.toUInt8])) := by
                rw [List.length_append, Lib.byteCells_append, show Lib.byteCells [r.toUInt8] = [.int .u8 (r : Int)] from byte1 hlt]
                exact Ow.own_keep hown' (FB.but_set (FB.but_set (But.refl _ _) 8 _) 9 _) (fun k hk e => own_ne F5 hown' (by have e1 : k = g := e; rw [← e1]; exact hk))
              have hlow6 : Below B w ((w5.setCell ⟨g, 8, none⟩ (.slice ao m' cap)).setCell ⟨g, 9, none⟩ (.string ⟨#[]⟩)) := (hlow5.setCell h.g _).setCell h.g _
              have hg := h.g
              clear hown' c8 c9 f9 N2 N3 N4 hlow3 hlow4 hlow5
              go_wp2
              go_ret
              rw [HR2.out]
              exact ⟨rfl, hlow6, _, _, rfl, ⟨F6, hown6, hg⟩⟩
          · have HR2 : Hid (R = some (name, bs S)) := by rw [HR.out, hf]; exact if_neg heq
            have t2 : (S.toList == W.toList) = false := by rw [tl, tl, HWB.out]; exact beq_eq_false_iff_ne.2 heq
            clear HR hf heq hpre hh
            go_wp2_with fail
            go_region_with (go_at_call 40; refine (HX _).mono ?_; rintro e2 w2 ⟨rfl, n2, rfl⟩)
            all_goals
              clear q1 q2 q3 q4 hW
              try rw [show (wr.drewN (1 + n2)).alloc (.cells #[.int .u8 92] 5) = (wr.alloc (.cells #[.int .u8 92] 5)).drewN (1 + n2) from rfl]
              have hX2 : Ext w ((wr.alloc (.cells #[.int .u8 92] 5)).drewN (1 + n2)) := (hX.alloc _).drewN _
              generalize (wr.alloc (.cells #[.int .u8 92] 5)).drewN (1 + n2) = X at hX2 ⊢
              have N2 : FN B X g clock kind hold dest ticks state part name rest v := h.ext hX2
              have hB2 : B ≤ X.heap.size := Nat.le_trans hB hX2.size
              have hlow := below_ext hB hX2
              have N3 := N2.set9 S
              have hlow3 : Below B w (X.setCell ⟨g, 9, none⟩ (.string S)) := hlow.setCell h.g _
              have f9 := N2.b.fz 9
              obtain ⟨-, -, -, -, -, -, -, -, c8, c9⟩ := N2.b.cells
              have hB3 : B ≤ (X.setCell ⟨g, 9, none⟩ (.string S)).heap.size := by simpa [World.setCell] using hB2
              clear c8
              go_wp2_with (go_at_call 39; refine (HH.out _).mono ?_; rintro e3 w3 ⟨rfl, rfl⟩)
              go_ret
              rw [HR2.out]
              exact ⟨rfl, hlow3, _, _, rfl, N3⟩
    · obtain rfl : r = 128 := by omega
      have HR2 : Hid (R = none) := by rw [HR.out, find_none HN.out]; rfl
      clear HR
      go_wp2
      go_ret
      rw [HR2.out]
      exact ⟨rfl, below_ext hB hX⟩
theorem rune_c (B : Nat) (w : World) (g clock : Nat) (kind : Int) (hold dest : ByteArray) (ticks state : Nat) (part : ByteArray) (name : Bs) (rest : ByteArray) (v : Value) (h : FN B w g clock kind hold dest ticks state part name rest v) (hB : B ≤ w.heap.size)
    (hr : rest.size ≤ 1048576) (hn : name.length ≤ 1048576) (c : UInt8) :
    Calls Tryd.prog 50 #[.pointer (some ⟨g, 0, none⟩), .int .u8 c.toNat] w fun e w' => RunePost B w g clock kind hold dest ticks state part e w' (runeF name (bs rest) c) := by
  by_cases h92 : (bs rest ++ [c]).getD 0 0 = 92
  · exact rune_esc B w g clock kind hold dest ticks state part name rest v h hB hr hn c h92
  · exact rune_other B w g clock kind hold dest ticks state part name rest v h hB hr hn c h92
end Gr
end Go.Proofs.YtlgagbglldehjaaDoor
