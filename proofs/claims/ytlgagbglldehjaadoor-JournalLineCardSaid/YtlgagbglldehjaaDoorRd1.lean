/- journal.Read: its walk at kind 2. -/
import Derived.Test.YtlgagbglldehjaaDoorRi
namespace Go.Proofs.YtlgagbglldehjaaDoor
set_option linter.unusedVariables false
set_option linter.unusedSimpArgs false
open Go Go.RowKit Pj J1 St Es Rf Rp
namespace Rr
set_option maxHeartbeats 4000000 in
set_option maxRecDepth 100000 in
theorem Read1 (s : ByteArray) (w : World) (hm : s.size + 4 ≤ 140737488355328) (hT : Tabs w) (HK : Hid ((kOf (bs s)).2.2 = false ∧ (kOf (bs s)).1 = 1)) :
    Calls Tryd.prog 12 #[.string s] w fun e w' => e = .returned (outV (readP (bs s))) ∧ Ext w w' := by
  obtain ⟨iS, hiS, hz0, hz1, hz2⟩ := info_parts infoS
  have hng := hT.ng
  obtain ⟨RES, hRES⟩ : ∃ R, readP (bs s) = R := ⟨_, rfl⟩
  rw [hRES]
  have HRES := Lib.hid hRES
  clear hRES
  go_enter Tryd.func12, Tryd.ntmps12
  go_wp2_with fail
  generalize hw0 : (w.alloc _).alloc _ = w0
  have hR0 : Rd w0 (w.heap.size + 1) s 0 false := by subst hw0; exact blk_new2 w _ _
  have hZ0 : zeroE w0 w.heap.size := by subst hw0; exact blk_alloc (blk_new w _) _
  have hX0 : Ext w w0 := by subst hw0; exact ((But.refl _ w).alloc _).alloc _
  have hs0 : w.heap.size + 1 < w0.heap.size := blk_lt hR0
  clear hw0
  go_at_call 24
  refine (number_c w0 (w.heap.size + 1) 0 s hR0 (by omega) (by omega)).mono ?_
  rintro e w1 ⟨rfl, hR1, hB1⟩
  have hZ1 : zeroE w1 w.heap.size := But.heap hB1 hZ0 (by show ¬ w.heap.size = w.heap.size + 1; omega)
  have hX1 : Ext w w1 := but_ext hX0 hB1 (by omega)
  have hs1 := Nat.lt_of_lt_of_le hs0 hB1.size
  rw [List.drop_zero, Nat.zero_add] at hR1
  rw [List.drop_zero]
  obtain ⟨c, hc⟩ : ∃ c, numR (bs s) = c := ⟨_, rfl⟩
  rw [hc] at hR1 ⊢
  clear hR0 hZ0 hX0 hs0 hB1
  go_wp2_with fail
  generalize hW1 : (w1.alloc _).alloc _ = W1
  have I1 : Inv w W1 (w.heap.size + 1) w.heap.size w1.heap.size c.2.1 s c.2.2 (.int .u64 c.1) (.int .i64 0) (.string ⟨#[]⟩) (.string ⟨#[]⟩) (.string ⟨#[]⟩) (.int .u64 0) := by
    subst hW1
    exact ⟨blk_alloc (blk_alloc hR1 _) _, blk_alloc (blk_alloc hZ1 _) _, blk_alloc (blk_new w1 _) _, (hX1.alloc _).alloc _, by omega, by omega, by omega, by omega, by omega⟩
  have hRw1 : RowS W1 (w1.heap.size + 1) [⟨#[32]⟩] := by
    subst hW1
    intro i hi
    simp only [List.length_cons, List.length_nil] at hi
    obtain rfl : i = 0 := by omega
    simp
  have hs2 : w1.heap.size + 1 < W1.heap.size := by subst hW1; simp
  clear hW1 hR1 hZ1 hX1
  have hone := one_any W1 (w.heap.size + 1) c.2.1 s c.2.2 I1.rd (by have := numR_le (bs s); rw [hc, bs_len] at this; exact this) (by omega) (w1.heap.size + 1) [⟨#[32]⟩] 1 hRw1 (by omega) (by simp) (by intro t ht; simp only [List.mem_singleton] at ht; subst ht; decide)
  rw [show ([⟨#[32]⟩] : List ByteArray).map bs = [[32]] from rfl] at hone
  obtain ⟨o, ho⟩ : ∃ o, oneB c.2.2 [[32]] ((bs s).drop c.2.1) = o := ⟨_, rfl⟩
  rw [ho] at hone
  go_at_call 25
  refine hone.mono ?_
  rintro e w2 ⟨rfl, hR2, hB2⟩
  have I2 := I1.but hB2 hR2
  have hs3 := Nat.lt_of_lt_of_le hs2 hB2.size
  clear hone hR2 hB2 I1 hRw1 hs2
  go_wp2
  have I3 := I2.ext ((But.refl _ w2).alloc (.cells #[.int .i64 1, .int .i64 2, .int .i64 3, .int .i64 4, .int .i64 5, .int .i64 6] 3))
  have K3 : Kinds (w2.alloc (.cells #[.int .i64 1, .int .i64 2, .int .i64 3, .int .i64 4, .int .i64 5, .int .i64 6] 3)) w2.heap.size := by
    intro i hi
    rw [World.cell?_alloc_new]
    match i, hi with
    | 0, _ => rfl
    | 1, _ => rfl
    | 2, _ => rfl
    | 3, _ => rfl
    | 4, _ => rfl
    | 5, _ => rfl
  go_loopw [8, 23] (fun v i wr => ∃ k : Nat, k ≤ 6 ∧ i = .int .i64 k ∧ wr.ownsRow (w2.heap.size + 1) 9 1 v k ((kindL.take k).map Value.string) ∧ Ext (w2.alloc (.cells #[.int .i64 1, .int .i64 2, .int .i64 3, .int .i64 4, .int .i64 5, .int .i64 6] 3)) wr) (fun _ i _ => 6 - (intOf i).toNat)
  case atStart => exact ⟨0, by omega, rfl, World.ownsRow_nil _ _ _ _, But.refl _ _⟩
  case round =>
    obtain ⟨k, hk, rfl, hown, hx⟩ := hrel
    by_cases hlt : k < 6
    · have hcx := (K3.but hx id) k hlt
      have hwl := wordS_len ((k : Int) + 1)
      have hb1 : ¬ 9223372036854775807 < (wordS ((k : Int) + 1)).length + 1 := by omega
      go_wp2_with (first
        | (go_at_call 16; refine (word_c _ _).mono ?_; rintro e w3 ⟨rfl, rfl⟩)
        | (at_builtin; refine wpList_append_own_at _ rfl _ _ 58 rfl (w2.heap.size + 1) 9 iS (.string ⟨#[]⟩) 1 16 Tryd.underlying58 hiS hz0 hz1 hz2 rfl (by decide) _ _ _ rfl (Ow.own_keep hown ((But.refl (fun _ => False) wr).alloc _) (fun _ _ h => h)) ⟨wr.heap.size, 0, none⟩ 1 1 [.string (⟨(wordS ((k : Int) + 1)).toArray⟩ ++ ⟨#[32]⟩)] rfl rfl ?c1 ?c2 ?c3 ?c4 ?c5 ?_))
      case c1 =>
        intro j u hj
        match j, hj with
        | 0, hj => simp at hj; subst hj; simp [Addr.add]
      case c2 => intro u hu; simp at hu; subst hu; rfl
      case c3 => unfold maxLen; omega
      case c4 => omega
      case c5 => have := (hx.alloc (.cells #[.string (⟨(wordS ((k : Int) + 1)).toArray⟩ ++ ⟨#[32]⟩)] 9)).size; simpa using this
      intro v' w3 hown3 hgrow _ _
      have hx3 := Ow.ext_grown (hx.alloc (.cells #[.string (⟨(wordS ((k : Int) + 1)).toArray⟩ ++ ⟨#[32]⟩)] 9)) hgrow (Ow.own_keep hown ((But.refl (fun _ => False) wr).alloc _) (fun _ _ h => h)) (by simp)
      go_wp2
      go_roundw
      case rel =>
        refine ⟨k + 1, by omega, rfl, ?_, hx3⟩
        rw [kindL_take hlt, ← kindB_eq, List.map_take]
        exact hown3
      case measure => simp only [intOf]; omega
    · obtain rfl : k = 6 := by omega
      obtain ⟨gw, cw, hvw, hgw, hgw2, -, hcw⟩ := Ow.own_cells hown (by decide)
      subst hvw
      have hRow : RowS wr gw kindL := fun i hi => by
        have := hcw i (by rw [List.length_map]; exact hi)
        rw [this, List.getElem_map]; rfl
      have I4 := I3.ext hx
      have K4 := K3.but hx id
      have hlc := numR_le (bs s)
      rw [hc, bs_len] at hlc
      have hlo := oneB_le c.2.2 [[32]] ((bs s).drop c.2.1)
      rw [ho, List.length_drop, bs_len] at hlo
      have hone := one_any wr (w.heap.size + 1) (c.2.1 + o.2.1) s o.2.2 I4.rd (by omega) (by omega) gw kindL cw hRow (by omega) (by decide) (by
        intro t ht
        obtain ⟨x, -, rfl⟩ := List.mem_map.1 ht
        have := wordS_len (x : Int)
        show (wordS (x : Int) ++ [32]).length ≤ _
        rw [List.length_append]; show _ + 1 ≤ _; omega)
      have hq6 := oneB_lt o.2.2 (kindL.map bs) ((bs s).drop (c.2.1 + o.2.1))
      have hlq := oneB_le o.2.2 (kindL.map bs) ((bs s).drop (c.2.1 + o.2.1))
      have hqb := oneB_bad0 (b := o.2.2) (l := kindL.map bs) (r := (bs s).drop (c.2.1 + o.2.1))
      obtain ⟨q, hq⟩ : ∃ q, oneB o.2.2 (kindL.map bs) ((bs s).drop (c.2.1 + o.2.1)) = q := ⟨_, rfl⟩
      rw [hq] at hone hq6 hlq hqb
      rw [List.length_drop, bs_len] at hlq
      have hq6' : q.1 < 6 := hq6
      have hK := HK.out
      unfold kOf at hK
      rw [hc, ho, hq] at hK
      obtain ⟨P, hP⟩ : ∃ P, c.2.1 + o.2.1 + q.2.1 = P := ⟨_, rfl⟩
      rw [hP] at hone
      have hPl : P ≤ s.size := by omega
      clear hown hcw hRow hq6 I2 I3 K3 hiS hz0 hz1 hz2 hx HK
      have hkr : w.heap.size + 1 ≠ w1.heap.size := by omega
      have hkz : w.heap.size ≠ w1.heap.size := by omega
      obtain ⟨hqq, hqk⟩ := hK
      rw [hqq, hqk] at hone
      have HO := Lib.hid hone
      clear hone
      have hread : readP (bs s) = readN c.1 2 P (bs s) := by
        unfold readP
        simp only [hc, ho, hq, hqq, hqk, hP, Bool.false_eq_true, if_false]
        first | rfl | (rw [if_pos rfl]) | (rw [if_neg (by decide)]; rfl)
      have HRD := Lib.hid hread
      clear hread hc ho hq hqq hqk hP hlc hlo hlq hqb hq6'
      go_wp2_with fail
      go_at_call 25
      refine HO.out.mono ?_
      rintro e w4 ⟨rfl, hR4, hB4⟩
      have I5 := I4.but hB4 hR4
      have hcq := (K4.but hB4 (by show ¬ w2.heap.size = w.heap.size + 1; omega)) 1 (by decide)
      have r0 := I5.rd.c0
      have r1 := I5.rd.c1
      have r2 := I5.rd.c2
      obtain ⟨e0, e1, e2, e3, e4, e5⟩ := six_c I5.e
      obtain ⟨x0, x1, x2, x3, x4, x5⟩ := six_fz I5.e
      obtain ⟨y0, y1, y2, y3, y4, y5⟩ := six_c I5.z
      obtain ⟨z0, z1, z2, z3, z4, z5⟩ := six_fz I5.z
      go_wp2_with fail
      have I6 := I5.put 1 (.int .i64 2) rfl
      generalize w4.setCell { block := w1.heap.size, off := 1 } (.int .i64 2) = w5 at I6 ⊢
      clear r0 r1 r2 e0 e1 e2 e3 e4 e5 x0 x1 x2 x3 x4 x5 y0 y1 y2 y3 y4 y5 z0 z1 z2 z3 z4 z5 hcq I5 hB4 hR4 I4 K4 HO
      obtain ⟨m, hmm⟩ : ∃ m, nameR ((bs s).drop P) = m := ⟨_, rfl⟩
      obtain ⟨N, hN⟩ : ∃ N, P + m.2.1 = N := ⟨_, rfl⟩
      have hnam := name_any w5 (w.heap.size + 1) P s I6.rd hPl hm (I6.tabs hT) (by omega)
      have hnl := nameR_le ((bs s).drop P)
      rw [hmm] at hnam hnl
      rw [List.length_drop, bs_len] at hnl
      rw [hN] at hnam
      have hNl : N ≤ s.size := by omega
      have HRV : Hid (readP (bs s) = if m.2.2 then (none, N) else (readBy c.1 2 m.1 N (bs s))) := by
        have h := HRD.out
        unfold readN at h
        simp only [hmm, hN] at h
        rw [h]
        first | rfl | (rw [if_neg (by decide)]) | (rw [if_pos (by decide)])
      clear hN hnl hmm HRD
      go_at_call 26
      refine hnam.mono ?_
      rintro e w6 ⟨⟨nr, rfl, hnr⟩, hR6, hB6⟩
      have I7 := I6.but hB6 hR6
      clear hnam hR6 hB6 I6
      have r0 := I7.rd.c0
      have r1 := I7.rd.c1
      have r2 := I7.rd.c2
      obtain ⟨e0, e1, e2, e3, e4, e5⟩ := six_c I7.e
      obtain ⟨x0, x1, x2, x3, x4, x5⟩ := six_fz I7.e
      obtain ⟨y0, y1, y2, y3, y4, y5⟩ := six_c I7.z
      obtain ⟨z0, z1, z2, z3, z4, z5⟩ := six_fz I7.z
      cases hdd : m.2.2
      · have hnr2 := hnr hdd
        have HNR := Lib.hid hnr2
        rw [hdd] at r2
        have HRV2 : Hid (readP (bs s) = (readBy c.1 2 m.1 N (bs s))) := by
          have h := HRV.out
          rw [hdd] at h
          exact h
        have hR7 := I7.rd
        rw [hdd] at hR7
        clear HRV hdd hnr hnr2
        go_wp2_with fail
        have J := (I7.put 2 (.string nr) rfl).ext ((But.refl _ _).alloc (.cells #[.string ⟨#[32, 98, 121, 32]⟩] 9))
        have hJ : Rd ((w6.setCell { block := w1.heap.size, off := 2 } (.string nr)).alloc (.cells #[.string ⟨#[32, 98, 121, 32]⟩] 9)) (w.heap.size + 1) s N false := But.heap ((But.refl (fun _ => False) _).alloc _) (blk_other hR7 (fun e => hkr e) _) id
        have hRw : RowS ((w6.setCell { block := w1.heap.size, off := 2 } (.string nr)).alloc (.cells #[.string ⟨#[32, 98, 121, 32]⟩] 9)) w6.heap.size [⟨#[32, 98, 121, 32]⟩] := row_one _ _ _ (by simp [World.setCell])
        have hgl : w.heap.size + 1 < w6.heap.size := blk_lt hR7
        generalize (w6.setCell { block := w1.heap.size, off := 2 } (.string nr)).alloc (.cells #[.string ⟨#[32, 98, 121, 32]⟩] 9) = w7 at J hJ hRw ⊢
        clear r0 r1 r2 e0 e1 e2 e3 e4 e5 x0 x1 x2 x3 x4 x5 y0 y1 y2 y3 y4 y5 z0 z1 z2 z3 z4 z5 I7
        have hone2 := one_any w7 (w.heap.size + 1) N s false hJ hNl (by omega) w6.heap.size [⟨#[32, 98, 121, 32]⟩] 1 hRw (by omega) (by simp) (by intro t ht; simp only [List.mem_singleton] at ht; subst ht; decide)
        rw [show ([⟨#[32, 98, 121, 32]⟩] : List ByteArray).map bs = [byB] from rfl, show oneB false [byB] ((bs s).drop N) = oneR [byB] ((bs s).drop N) from rfl] at hone2
        obtain ⟨o1, ho2⟩ : ∃ x, oneR [byB] ((bs s).drop N) = x := ⟨_, rfl⟩
        obtain ⟨Q1, hQ2⟩ : ∃ x, N + o1.2.1 = x := ⟨_, rfl⟩
        have hol := oneR_le [byB] ((bs s).drop N)
        rw [ho2, List.length_drop, bs_len] at hol
        rw [ho2, hQ2] at hone2
        have hQl : Q1 ≤ s.size := by omega
        obtain ⟨d1, hd2⟩ : ∃ x, holB o1.2.2 ((bs s).drop Q1) = x := ⟨_, rfl⟩
        obtain ⟨D1, hD2⟩ : ∃ x, Q1 + d1.1 = x := ⟨_, rfl⟩
        have hdl := holB_le o1.2.2 ((bs s).drop Q1)
        rw [hd2, List.length_drop, bs_len] at hdl
        have hDl : D1 ≤ s.size := by omega
        have HB1 : Hid (readP (bs s) = if d1.2 then (none, D1) else (if D1 < (bs s).length then (none, D1) else (some ⟨c.1, 2, m.1, ((bs s).drop Q1).take d1.1, [], 0⟩, 0))) := by
          have h := HRV2.out
          unfold readBy at h
          simp only [ho2, hQ2, hd2, hD2] at h
          rw [h]
          first | rfl | (rw [if_neg (by decide : ¬ (2 : Int) = 3)]) | (rw [if_pos (by decide : (2 : Int) = 3)])
        have HO2 := Lib.hid hone2
        have HD2 := Lib.hid hd2
        have HD3 := Lib.hid hD2
        clear hone2 ho2 hQ2 hd2 hD2 hol hdl
        go_at_call 25
        refine HO2.out.mono ?_
        rintro e w7a ⟨rfl, hR8, hB8⟩
        have J2 := J.but hB8 hR8
        clear hR8 J hJ hRw
        go_wp2_with fail
        go_at_call 27
        have hhol := holder_any w7a (w.heap.size + 1) Q1 s o1.2.2 J2.rd hQl (by omega)
        rw [HD2.out, HD3.out] at hhol
        refine hhol.mono ?_
        rintro e w7b ⟨⟨hr1, rfl, hhr⟩, hR9, hB9⟩
        have I8 := J2.but hB9 hR9
        clear hhol hB8 hB9 J2 HO2 HD2 HD3 hR9
        clear HRV2
        have r0 := I8.rd.c0
        have r1 := I8.rd.c1
        have r2 := I8.rd.c2
        obtain ⟨e0, e1, e2, e3, e4, e5⟩ := six_c I8.e
        obtain ⟨x0, x1, x2, x3, x4, x5⟩ := six_fz I8.e
        obtain ⟨y0, y1, y2, y3, y4, y5⟩ := six_c I8.z
        obtain ⟨z0, z1, z2, z3, z4, z5⟩ := six_fz I8.z
        cases hdd1 : d1.2
        · have hhr2 := hhr hdd1
          have HHR := Lib.hid hhr2
          rw [hdd1] at r2
          have HRV4 : Hid (readP (bs s) = (if D1 < (bs s).length then (none, D1) else (some ⟨c.1, 2, m.1, ((bs s).drop Q1).take d1.1, [], 0⟩, 0))) := by
            have h := HB1.out
            rw [hdd1] at h
            exact h
          have hR9 := I8.rd
          rw [hdd1] at hR9
          clear HB1 hdd1 hhr hhr2
          by_cases hlt2 : D1 < s.size
          · have HRV3 : Hid (readP (bs s) = (none, D1)) := HRV4.out.trans (if_pos (by rw [bs_len]; exact hlt2))
            clear HRV4
            go_wp2_with fail
            have IE := I8.put 3 (.string hr1) rfl
            generalize w7b.setCell { block := w1.heap.size, off := 3 } (.string hr1) = WE at IE ⊢
            clear r0 r1 r2 e0 e1 e2 e3 e4 e5 x0 x1 x2 x3 x4 x5 y0 y1 y2 y3 y4 y5 z0 z1 z2 z3 z4 z5 I8
            have r1 := IE.rd.c1
            obtain ⟨y0, y1, y2, y3, y4, y5⟩ := six_c IE.z
            obtain ⟨z0, z1, z2, z3, z4, z5⟩ := six_fz IE.z
            have HEND : Hid (∀ W, W = (put6 WE w.heap.size (.int .u64 0) (.int .i64 0) (.string ⟨#[]⟩) (.string ⟨#[]⟩) (.string ⟨#[]⟩) (.int .u64 0)).drew → zeroE W w.heap.size ∧ Ext w W) := by
              rintro W rfl
              exact end_world IE.x IE.z (Nat.le_refl _)
            clear IE
            go_region
            go_wp2
            obtain ⟨hz6, hx6⟩ := HEND.out _ rfl
            refine Re.end_read rfl rfl rfl rfl hz6 rfl ?_
            rw [HRES.out.symm.trans HRV3.out]
            exact ⟨rfl, hx6⟩
          · have HRV3 : Hid (readP (bs s) = (some ⟨c.1, 2, m.1, ((bs s).drop Q1).take d1.1, [], 0⟩, 0)) := HRV4.out.trans (if_neg (by rw [bs_len]; exact hlt2))
            clear HRV4
            go_wp2_with fail
            have IE := I8.put 3 (.string hr1) rfl
            generalize w7b.setCell { block := w1.heap.size, off := 3 } (.string hr1) = WE at IE ⊢
            refine Re.end_read rfl rfl rfl rfl (put6_six IE.z _ _ _ _ _ _) rfl ?_
            rw [HRES.out.symm.trans HRV3.out]
            exact ⟨by rw [← HNR.out, ← HHR.out]; rfl, put6_ext IE.x (Nat.le_refl _) _ _ _ _ _ _⟩
        · rw [hdd1] at r2
          have HRV5 : Hid (readP (bs s) = (none, D1)) := by
            have h := HB1.out
            rw [hdd1, if_pos rfl] at h; exact h
          clear HB1 hdd1 hhr
          go_wp2_with fail
          have IE := I8.put 3 (.string hr1) rfl
          generalize w7b.setCell { block := w1.heap.size, off := 3 } (.string hr1) = WE at IE ⊢
          clear r0 r1 r2 e0 e1 e2 e3 e4 e5 x0 x1 x2 x3 x4 x5 y0 y1 y2 y3 y4 y5 z0 z1 z2 z3 z4 z5 I8
          have r1 := IE.rd.c1
          obtain ⟨y0, y1, y2, y3, y4, y5⟩ := six_c IE.z
          obtain ⟨z0, z1, z2, z3, z4, z5⟩ := six_fz IE.z
          have HEND : Hid (∀ W, W = (put6 WE w.heap.size (.int .u64 0) (.int .i64 0) (.string ⟨#[]⟩) (.string ⟨#[]⟩) (.string ⟨#[]⟩) (.int .u64 0)).drew → zeroE W w.heap.size ∧ Ext w W) := by
            rintro W rfl
            exact end_world IE.x IE.z (Nat.le_refl _)
          clear IE
          go_region
          go_wp2
          obtain ⟨hz6, hx6⟩ := HEND.out _ rfl
          refine Re.end_read rfl rfl rfl rfl hz6 rfl ?_
          rw [HRES.out.symm.trans HRV5.out]
          exact ⟨rfl, hx6⟩
      · rw [hdd] at r2
        have HRV3 : Hid (readP (bs s) = (none, N)) := by
          have h := HRV.out
          rw [hdd, if_pos rfl] at h; exact h
        clear HRV hdd hnr
        go_wp2_with fail
        have IE := I7.put 2 (.string nr) rfl
        generalize w6.setCell { block := w1.heap.size, off := 2 } (.string nr) = WE at IE ⊢
        clear r0 r1 r2 e0 e1 e2 e3 e4 e5 x0 x1 x2 x3 x4 x5 y0 y1 y2 y3 y4 y5 z0 z1 z2 z3 z4 z5 I7
        have r1 := IE.rd.c1
        obtain ⟨y0, y1, y2, y3, y4, y5⟩ := six_c IE.z
        obtain ⟨z0, z1, z2, z3, z4, z5⟩ := six_fz IE.z
        have HEND : Hid (∀ W, W = (put6 WE w.heap.size (.int .u64 0) (.int .i64 0) (.string ⟨#[]⟩) (.string ⟨#[]⟩) (.string ⟨#[]⟩) (.int .u64 0)).drew → zeroE W w.heap.size ∧ Ext w W) := by
          rintro W rfl
          exact end_world IE.x IE.z (Nat.le_refl _)
        clear IE
        go_region
        go_wp2
        obtain ⟨hz6, hx6⟩ := HEND.out _ rfl
        refine Re.end_read rfl rfl rfl rfl hz6 rfl ?_
        rw [HRES.out.symm.trans HRV3.out]
        exact ⟨rfl, hx6⟩
end Rr
end Go.Proofs.YtlgagbglldehjaaDoor
