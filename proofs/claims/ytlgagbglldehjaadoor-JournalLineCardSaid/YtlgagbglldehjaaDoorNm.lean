/- (*journal.reader).name. -/
import Derived.Test.YtlgagbglldehjaaDoorNp
namespace Go.Proofs.YtlgagbglldehjaaDoor
set_option linter.unusedVariables false
set_option linter.unusedSimpArgs false
open Go Go.RowKit Pj J1 St Es Rf
namespace Nm
set_option maxHeartbeats 8000000 in
set_option maxRecDepth 100000 in
theorem name_c (w : World) (g p : Nat) (s : ByteArray) (h : Rd w g s p false) (hp : p ≤ s.size) (hm : s.size + 4 ≤ 140737488355328) (hT : Tabs w) (hg : Tryd.prog.globals.size ≤ g) :
    Calls Tryd.prog 26 #[.pointer (some ⟨g, 0, none⟩)] w fun e w' => (∃ r, e = .returned (.string r) ∧ ((nameL s.size ((bs s).drop p)).2.2 = false → bs r = (nameL s.size ((bs s).drop p)).1)) ∧
      Rd w' g s (p + (nameL s.size ((bs s).drop p)).2.1) ((nameL s.size ((bs s).drop p)).2.2 || ((nameL s.size ((bs s).drop p)).1 == [])) ∧ But (· = g) w w' := by
  obtain ⟨RES, hRES⟩ : ∃ R, nameL s.size ((bs s).drop p) = R := ⟨_, rfl⟩
  rw [hRES]
  have hgl := blk_lt h
  have hng := hT.ng
  go_enter Tryd.func26, Tryd.ntmps26
  go_wp2
  go_loopw [] (Rel w g p s RES) (meas s g)
  case atStart =>
    refine ⟨0, false, [], s.size, hp, ?_, Lib.fresh_isBuilder _ _ _, (But.refl _ _).alloc _, by simp, fun _ => by omega, ?_⟩
    · exact blk_alloc h _
    · rw [← hRES]; simp [Hid]
  case round =>
    obtain ⟨k, b, acc, f, hk, hR, hI, hB, hal2, hf0, HE⟩ := hrel
    have c0 := hR.c0
    have c1 := hR.c1
    have c2 := hR.c2
    have f1 := hR.fz 1
    have f2 := hR.fz 2
    cases b
    · have HE1 : RES = (acc ++ (nameL f ((bs s).drop (p + k))).1, k + (nameL f ((bs s).drop (p + k))).2.1, (nameL f ((bs s).drop (p + k))).2.2) := by simpa [Hid] using HE
      have HX := Lib.hid HE1
      clear HE HE1
      by_cases hlt : p + k < s.size
      · have g1 : (p : Int) + k < s.size := by omega
        have g0 : 0 ≤ (p : Int) + k := by omega
        have g4 : decide ((p : Int) + k < s.size) = true := decide_eq_true g1
        have hne : (bs s).drop (p + k) ≠ [] := by intro e; have := congrArg List.length e; rw [List.length_drop, bs_len] at this; simp at this; omega
        have hdl : ((bs s).drop (p + k)).length = s.size - (p + k) := by rw [List.length_drop, bs_len]
        have hex : (s.extract (p + k) s.size).size = s.size - (p + k) := by rw [← bs_len, bs_rest, hdl]
        have hb0 : ((bs s).drop (p + k)).getD 0 0 = s[p + k] := by
          rw [bs_drop s (p + k) hlt]; rfl
        obtain ⟨x, n, hd⟩ : ∃ x n, Lib.decodeL ((bs s).drop (p + k)) = (x, n) := ⟨_, _, rfl⟩
        have hxr : x ≤ 1114111 := by have := Lib.decodeL_rune ((bs s).drop (p + k)); rw [hd] at this; exact this
        have hnw : 1 ≤ n := by have := Lib.decodeL_width ((bs s).drop (p + k)); rw [hd] at this; exact this
        have hnl : n ≤ s.size - (p + k) := by have := Lib.decodeL_le ((bs s).drop (p + k)) hne; rw [hd, hdl] at this; exact this
        have hde : Lib.decodeL (bs (s.extract (p + k) s.size)) = (x, n) := by rw [bs_rest]; exact hd
        have HD := Lib.hid hd
        have HDE := Lib.hid hde
        have HN := Lib.hid hne
        have HB0 := Lib.hid hb0
        have HL := Lib.hid hdl
        have HXE := Lib.hid hex
        have hal3 : acc.length ≤ k := hal2 rfl
        have hf : s.size ≤ p + k + f := hf0 rfl
        have hgb : ∀ i, i = g → i < w.heap.size := by intro i e; omega
        clear hd hde hne hb0 hdl hex hal2 hf0
        by_cases h32 : s[p + k] = 32
        · have h32b : ((s[p + k].toNat : Int) != 32) = false := by rw [h32]; rfl
          have hst : nameStep ((bs s).drop (p + k)) = none := by unfold nameStep; rw [if_pos (.inr (by rw [HB0.out, h32]))]
          have HXX := Lib.hid (HX.out.trans (by rw [nameL_end hst]; simp : _ = (acc, k, false)))
          clear hst
          go_wp2_with fail
          go_quiet (fail)
          have HW : ∀ c, Lib.IsBuilder 73 5 w.heap.size w.heap.size (Lib.byteCells acc) ((wr.drewN nq).setCell ⟨g, 2, none⟩ (.bool c)) := fun c => isB_low (S := (· = g)) hI (((But.refl _ wr).drewN nq).setCell (S := (· = g)) (p := ⟨g, 2, none⟩) (fun _ => (rfl : g = g)) _) (by intro i e; have e1 : i = g := e; omega)
          have HWs : ∀ c, But (· = g) w ((wr.drewN nq).setCell ⟨g, 2, none⟩ (.bool c)) := fun c => (hB.drewN nq).setCell (S := (· = g)) (p := ⟨g, 2, none⟩) (fun _ => (rfl : g = g)) _
          go_wp2_with (first
            | (go_at_call 47
               refine (Tryd.Builder_Len w.heap.size w.heap.size (Lib.byteCells acc) _ (isB_ext hI ((But.refl _ _).drewN _))).mono ?_
               rintro e w2 ⟨rfl, rfl⟩)
            | (go_at_call 36
               refine (Tryd.Builder_String_any w.heap.size w.heap.size acc _ (HW _) (HWs _).size).mono ?_
               rintro e w2 ⟨rfl, hb2⟩))
          first | go_ret | refine ⟨_, results_tmp rfl _ _ _, ?_⟩
          rw [HXX.out]
          refine ⟨⟨_, rfl, fun _ => rfl⟩, ?_, But.then_new (HWs _) (but_below hb2) (fun i hi hS => absurd hS (Nat.not_le.2 hi))⟩
          rw [show (false || (acc == [])) = (((Lib.byteCells acc).length : Int) == 0) from by rw [Lib.byteCells_length]; cases acc <;> simp <;> omega]
          exact (hb2.block g hgl).trans (Rd.set2 (w := wr.drewN nq) hR _)
        · have h32b : ((s[p + k].toNat : Int) != 32) = true := by simp; intro e; exact h32 (UInt8.toNat_inj.1 (by simpa using (by omega : s[p + k].toNat = 32)))
          have hstep : nameStep ((bs s).drop (p + k)) = if x = 92 then some (Lib.encodeRune ((hids.getD (oneR spells ((bs s).drop (p + k))).1 0 : Nat) : Int), (oneR spells ((bs s).drop (p + k))).2.1, (oneR spells ((bs s).drop (p + k))).2.2) else if x = 65533 ∧ n = 1 then some ([], brk ((bs s).drop (p + k)), true) else if hiddenB (x : Int) = true then some ([], 0, true) else some (Lib.encodeRune (x : Int), n, false) := by
            unfold nameStep
            rw [if_neg (by rintro (h1 | h1); exact HN.out h1; exact h32 (HB0.out ▸ h1)), HD.out]
          have HST := Lib.hid hstep
          clear hstep
          go_wp2_with fail
          go_quiet (fail)
          go_wp2_with fail
          go_at_call 43
          refine (rest_c (wr.drewN nq) g (p + k) s false hR hk).mono ?_
          rintro e w2 ⟨rfl, n2, rfl⟩
          go_wp2_with fail
          go_at_call 44
          refine (decode_c (s.extract (p + k) s.size) _ (by rw [HXE.out]; omega) (hT.but (hB.drewN (nq + n2)) (by intro i hi e; omega)) x n HDE.out).mono ?_
          rintro e w3 ⟨rfl, hx3⟩
          have hB3 : But (· = g) w w3 := (hB.drewN _).trans (hx3.mono fun _ _ h => h.elim)
          have hI3 := isB_ext (isB_ext hI ((But.refl _ _).drewN _)) hx3
          have hR3 : Rd w3 g s (p + k) false := But.heap hx3 hR id
          have hT3 := hT.but hB3 (by intro i hi e; omega)
          clear c0 c1 c2 f1 f2
          have c0 := hR3.c0
          have c1 := hR3.c1
          have c2 := hR3.c2
          have f1 := hR3.fz 1
          have f2 := hR3.fz 2
          by_cases h92 : x = 92
          · subst h92
            have hidx := hids_lt (oneR spells ((bs s).drop (p + k))).1
            have hle := oneL_le ((bs s).drop (p + k)) spells 0 0
            have h3 := oneL_three ((bs s).drop (p + k)) (fun y hy => by obtain ⟨c, -, rfl⟩ := List.mem_map.1 hy; exact spell_three c) spells 0 0 (fun y hy => by obtain ⟨c, -, rfl⟩ := List.mem_map.1 hy; exact spell_three c)
            change (oneR spells ((bs s).drop (p + k))).2.1 ≤ _ at hle
            change (oneR spells ((bs s).drop (p + k))).2.2 = false → 3 ≤ (oneR spells ((bs s).drop (p + k))).2.1 at h3
            rw [HL.out] at hle
            have hesc := escape_c w3 g (p + k) s hR3 hk (by omega) hT3
            have hst := HST.out
            rw [if_pos rfl] at hst
            generalize (oneR spells ((bs s).drop (p + k))) = E at hidx hle h3 hesc hst
            generalize hids.getD E.1 0 = r at hidx hesc hst
            have hel := enc_one hidx
            have HES := Lib.hid hesc
            have HS2 := Lib.hid hst
            clear hesc hst HST
            go_wp2_with (first
              | (go_at_call 45; refine HES.out.mono ?_; rintro e w4 ⟨rfl, hR4, hB4⟩; have hI4 := isB_low hI3 hB4 hgb; have hs4 := Nat.le_trans hB3.size hB4.size)
              | (go_at_call 35; refine (Bu.WriteRune_c w.heap.size w.heap.size (Lib.byteCells acc) (r : Int) (by omega) (by omega) w4 hI4 (by rw [Lib.byteCells_length]; omega) hs4).mono ?_; rintro e w5 ⟨⟨vr, rfl⟩, h5, b5⟩))
            refine round_end hlt hf hal3 hR HX.out HS2.out (by omega) (fun h => by have := h3 h; omega) (But.heap b5 hR4 (fun hS => by have := hS.1; omega)) ?_ ((hB3.trans hB4).then_new b5 fun i hi hS => absurd hS.1 (Nat.not_le.2 hi))
            rw [Lib.byteCells_append, Lib.byteCells_encodeRune]; exact h5
          · have n92 : ((x : Int) == 92) = false := by simp; omega
            by_cases hbad : x = 65533 ∧ n = 1
            · obtain ⟨rfl, rfl⟩ := hbad
              have hst2 := HST.out
              rw [if_neg h92, if_pos ⟨rfl, rfl⟩] at hst2
              have HS2 := Lib.hid hst2
              clear hst2 HST
              have hbl := brk_le _ HN.out
              rw [HL.out] at hbl
              have hbk := broken_c (s.extract (p + k) s.size)
              rw [bs_rest] at hbk
              generalize brk ((bs s).drop (p + k)) = bk at HS2 hbl hbk
              have HK := Lib.hid hbk
              clear hbk
              have HWR : Hid (IntKind.i64.wrap ((p : Int) + k + bk) = (p : Int) + k + bk) := i64wrap_small _ (by omega) (by omega)
              go_wp2_with fail
              go_region_with (first
                | (go_at_call 43
                   refine (rest_c w3.drew g (p + k) s false hR3 hk).mono ?_
                   rintro e w4 ⟨rfl, n4, rfl⟩)
                | (go_at_call 46
                   refine (HK.out (w3.drewN (1 + n4)) (by rw [HXE.out]; omega) (by rw [HXE.out]; omega) (hT3.ext ((But.refl _ w3).drewN (1 + n4)))).mono ?_
                   rintro e w5 ⟨rfl, hx5⟩
                   have hR5 : Rd w5 g s (p + k) false := But.heap hx5 hR3 id
                   have d1 := hR5.c1
                   have e1 := hR5.fz 1
                   have e2 := hR5.fz 2))
              all_goals (have hB5 : But (· = g) w w5 := (hB3.drewN (1 + n4)).trans (hx5.mono fun _ _ h => h.elim)
                         have hI5 := isB_ext (isB_ext hI3 ((But.refl _ w3).drewN (1 + n4))) hx5)
              all_goals rw [HWR.out]
              all_goals (have hEND : Rel w g p s RES ((w5.setCell ⟨g, 1, none⟩ (.int .i64 ((p : Int) + k + bk))).setCell ⟨g, 2, none⟩ (.bool true)) ∧ meas s g ((w5.setCell ⟨g, 1, none⟩ (.int .i64 ((p : Int) + k + bk))).setCell ⟨g, 2, none⟩ (.bool true)) < meas s g wr := by
                           refine round_end hlt hf hal3 hR HX.out HS2.out hbl (fun h => by cases h) (Rd.set2 (Rd.set1 hR5 (p + k + bk)) true) ?_ ((hB5.setCell (S := (· = g)) (p := ⟨g, 1, none⟩) (fun _ => (rfl : g = g)) _).setCell (S := (· = g)) (p := ⟨g, 2, none⟩) (fun _ => (rfl : g = g)) _)
                           rw [List.append_nil]; exact isB_low (S := (· = g)) hI5 (((But.refl _ _).setCell (S := (· = g)) (p := ⟨g, 1, none⟩) (fun _ => (rfl : g = g)) _).setCell (S := (· = g)) (p := ⟨g, 2, none⟩) (fun _ => (rfl : g = g)) _) hgb
                         have HEND := Lib.hid hEND
                         have d2 := hR5.c2
                         try clear hEND; try clear HS2; try clear HK; try clear HD; try clear HDE; try clear HN; try clear HB0; try clear HL; try clear HXE; try clear HX; try clear hI; try clear hI3; try clear hI5; try clear hT; try clear hT3; try clear hR3; try clear hB3; try clear hB5; try clear hx3; try clear hx5; try clear hR5; try clear hB; try clear hal3; try clear hgb; try clear hf; try clear hRES; try clear h; try clear c0; try clear c1; try clear c2; try clear f1; try clear f2; try clear hm; try clear hR; try clear HWR; try clear hbl; try clear hlt; try clear hk; try clear hp; try clear hnw; try clear hnl; try clear hxr; try clear h92; try clear n92; try clear g0; try clear g1; try clear g4; try clear h32; try clear h32b)
              all_goals go_wp2
              all_goals exact HEND.out
            · have hst2 := HST.out
              rw [if_neg h92, if_neg hbad] at hst2
              have HS2 := Lib.hid hst2
              clear hst2 HST
              have hlen4 := (Lib.runeCells_le (x : Int)).2
              rw [Lib.runeCells_length] at hlen4
              have henc : Lib.encodeRune (x : Int) = ((bs s).drop (p + k)).take n := by
                have := Lib.encode_decode _ HN.out (by rw [HD.out]; exact hbad)
                rwa [HD.out] at this
              have hel : (Lib.encodeRune (x : Int)).length ≤ n := by rw [henc, List.length_take]; omega
              clear henc
              by_cases h65 : x = 65533
              · subst h65
                have n1 : ((n : Int) == 1) = false := by
                  have : n ≠ 1 := fun h => hbad ⟨rfl, h⟩
                  simp; omega
                have hst3 := HS2.out
                rw [if_neg (by decide)] at hst3
                have HS3 := Lib.hid hst3
                clear hst3 HS2
                have HH : hiddenB 65533 = false := by decide
                go_wp2_with (first
                  | (go_at_call 32; refine (hidden_c _ _).mono ?_; rintro e w4 ⟨rfl, rfl⟩)
                  | (go_at_call 35; refine (Bu.WriteRune_c w.heap.size w.heap.size (Lib.byteCells acc) 65533 (by omega) (by omega) w3 hI3 (by rw [Lib.byteCells_length]; omega) hB3.size).mono ?_; rintro e w5 ⟨⟨vr, rfl⟩, h5, b5⟩; have hR5 : Rd w5 g s (p + k) false := But.heap b5 hR3 (fun hS => by have := hS.1; omega); have d0 := hR5.c0; have d1 := hR5.c1; have d2 := hR5.c2; have e1 := hR5.fz 1; have e2 := hR5.fz 2))
                refine round_end hlt hf hal3 hR HX.out HS3.out (by omega) (fun _ => ⟨hel, hnw⟩) (Rd.set1 hR5 (p + k + n)) ?_ (((hB3.then_new b5 fun i hi hS => absurd hS.1 (Nat.not_le.2 hi)) : But (· = g) w w5).setCell (S := (· = g)) (p := ⟨g, 1, none⟩) (fun _ => (rfl : g = g)) _)
                rw [Lib.byteCells_append, Lib.byteCells_encodeRune]; exact isB_low (S := (· = g)) h5 ((But.refl _ _).setCell (S := (· = g)) (p := ⟨g, 1, none⟩) (fun _ => (rfl : g = g)) _) hgb
              · have n65 : ¬ (x : Int) = 65533 := by omega
                cases hh : hiddenB (x : Int)
                · have hst3 := HS2.out
                  rw [if_neg (by rw [hh]; simp)] at hst3
                  have HS3 := Lib.hid hst3
                  clear hst3 HS2
                  go_wp2_with (first
                    | (go_at_call 32; refine (hidden_c _ _).mono ?_; rintro e w4 ⟨rfl, rfl⟩)
                    | (go_at_call 35; refine (Bu.WriteRune_c w.heap.size w.heap.size (Lib.byteCells acc) (x : Int) (by omega) (by omega) w3 hI3 (by rw [Lib.byteCells_length]; omega) hB3.size).mono ?_; rintro e w5 ⟨⟨vr, rfl⟩, h5, b5⟩; have hR5 : Rd w5 g s (p + k) false := But.heap b5 hR3 (fun hS => by have := hS.1; omega); have d0 := hR5.c0; have d1 := hR5.c1; have d2 := hR5.c2; have e1 := hR5.fz 1; have e2 := hR5.fz 2))
                  refine round_end hlt hf hal3 hR HX.out HS3.out (by omega) (fun _ => ⟨hel, hnw⟩) (Rd.set1 hR5 (p + k + n)) ?_ (((hB3.then_new b5 fun i hi hS => absurd hS.1 (Nat.not_le.2 hi)) : But (· = g) w w5).setCell (S := (· = g)) (p := ⟨g, 1, none⟩) (fun _ => (rfl : g = g)) _)
                  rw [Lib.byteCells_append, Lib.byteCells_encodeRune]; exact isB_low (S := (· = g)) h5 ((But.refl _ _).setCell (S := (· = g)) (p := ⟨g, 1, none⟩) (fun _ => (rfl : g = g)) _) hgb
                · have hst3 := HS2.out
                  rw [if_pos hh] at hst3
                  have HS3 := Lib.hid hst3
                  clear hst3 HS2
                  go_wp2_with (go_at_call 32; refine (hidden_c _ _).mono ?_; rintro e w4 ⟨rfl, rfl⟩)
                  refine round_end hlt hf hal3 hR HX.out HS3.out (by omega) (fun h => by cases h) (Rd.set2 hR3 true) ?_ (hB3.setCell (S := (· = g)) (p := ⟨g, 2, none⟩) (fun _ => (rfl : g = g)) _)
                  rw [List.append_nil]; exact isB_low (S := (· = g)) hI3 ((But.refl _ _).setCell (S := (· = g)) (p := ⟨g, 2, none⟩) (fun _ => (rfl : g = g)) _) hgb
      · have g4 : decide ((p : Int) + k < s.size) = false := decide_eq_false (by omega)
        have hst : nameStep ((bs s).drop (p + k)) = none := by unfold nameStep; rw [if_pos (.inl (bs_drop_nil s (p + k) (by omega)))]
        have HXX := Lib.hid (HX.out.trans (by rw [nameL_end hst]; simp : _ = (acc, k, false)))
        clear hst
        have hgb : ∀ i, i = g → i < w.heap.size := by intro i e; omega
        go_wp2_with fail
        go_quiet (fail)
        have HW : ∀ c, Lib.IsBuilder 73 5 w.heap.size w.heap.size (Lib.byteCells acc) ((wr.drewN nq).setCell ⟨g, 2, none⟩ (.bool c)) := fun c => isB_low (S := (· = g)) hI (((But.refl _ wr).drewN nq).setCell (S := (· = g)) (p := ⟨g, 2, none⟩) (fun _ => (rfl : g = g)) _) (by intro i e; have e1 : i = g := e; omega)
        have HWs : ∀ c, But (· = g) w ((wr.drewN nq).setCell ⟨g, 2, none⟩ (.bool c)) := fun c => (hB.drewN nq).setCell (S := (· = g)) (p := ⟨g, 2, none⟩) (fun _ => (rfl : g = g)) _
        go_wp2_with (first
          | (go_at_call 47
             refine (Tryd.Builder_Len w.heap.size w.heap.size (Lib.byteCells acc) _ (isB_ext hI ((But.refl _ _).drewN _))).mono ?_
             rintro e w2 ⟨rfl, rfl⟩)
          | (go_at_call 36
             refine (Tryd.Builder_String_any w.heap.size w.heap.size acc _ (HW _) (HWs _).size).mono ?_
             rintro e w2 ⟨rfl, hb2⟩))
        first | go_ret | refine ⟨_, results_tmp rfl _ _ _, ?_⟩
        rw [HXX.out]
        refine ⟨⟨_, rfl, fun _ => rfl⟩, ?_, But.then_new (HWs _) (but_below hb2) (fun i hi hS => absurd hS (Nat.not_le.2 hi))⟩
        rw [show (false || (acc == [])) = (((Lib.byteCells acc).length : Int) == 0) from by rw [Lib.byteCells_length]; cases acc <;> simp <;> omega]
        exact (hb2.block g hgl).trans (Rd.set2 (w := wr.drewN nq) hR _)
    · have HE1 : RES = (acc, k, true) := by simpa [Hid] using HE
      have HX := Lib.hid HE1
      clear HE HE1
      go_wp2_with fail
      go_quiet (fail)
      have HW : ∀ c, Lib.IsBuilder 73 5 w.heap.size w.heap.size (Lib.byteCells acc) ((wr.drewN nq).setCell ⟨g, 2, none⟩ (.bool c)) := fun c => isB_low (S := (· = g)) hI (((But.refl _ wr).drewN nq).setCell (S := (· = g)) (p := ⟨g, 2, none⟩) (fun _ => (rfl : g = g)) _) (by intro i e; have e1 : i = g := e; omega)
      have HWs : ∀ c, But (· = g) w ((wr.drewN nq).setCell ⟨g, 2, none⟩ (.bool c)) := fun c => (hB.drewN nq).setCell (S := (· = g)) (p := ⟨g, 2, none⟩) (fun _ => (rfl : g = g)) _
      go_wp2_with (first | (go_at_call 36; refine (Tryd.Builder_String_any w.heap.size w.heap.size acc _ (HW _) (HWs _).size).mono ?_; rintro e w2 ⟨rfl, hb2⟩))
      first | go_ret | refine ⟨_, results_tmp rfl _ _ _, ?_⟩
      rw [HX.out]
      refine ⟨⟨_, rfl, fun h => by cases h⟩, ?_, But.then_new (HWs _) (but_below hb2) (fun i hi hS => absurd hS (Nat.not_le.2 hi))⟩
      exact (hb2.block g hgl).trans (Rd.set2 (w := wr.drewN nq) hR _)
end Nm
end Go.Proofs.YtlgagbglldehjaaDoor
