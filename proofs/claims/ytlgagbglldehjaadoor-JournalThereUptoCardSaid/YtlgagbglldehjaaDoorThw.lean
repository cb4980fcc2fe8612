/- guiselaw22.JournalThere: its walk. -/
import Derived.Test.YtlgagbglldehjaaDoorTh
namespace Go.Proofs.YtlgagbglldehjaaDoor
set_option linter.unusedVariables false
set_option linter.unusedSimpArgs false
open Go Go.RowKit Pj J1 St Es Rf Rp Rr Kn
namespace Hw
set_option maxHeartbeats 2000000 in
set_option maxRecDepth 100000 in
theorem There_c (clock ticks : Nat) (kind : Int) (name hold dest line : ByteArray) (w : World) (hc : clock < 18446744073709551616) (ht : ticks < 18446744073709551616) (hn : name.size ≤ 1048576) (hh : hold.size ≤ 1048576) (hd : dest.size ≤ 1048576) (hl : line.size ≤ 1048576) (hT : Tabs w) :
    Calls Tryd.prog 5 #[.int .u64 clock, .agg #[.int .i64 kind, .string name, .string hold, .string dest, .int .u64 ticks], .string line] w fun e w' => e = .returned (.bool true) ∧ Ext w w' := by
  have HB : Hid (Back line) := back_all line hl
  have hline1 := fun W hW => Line_c clock ticks kind name hold dest hc ht (Nat.le_trans hn (by decide)) (Nat.le_trans hh (by decide)) (Nat.le_trans hd (by decide)) W hW
  have hq := quoteS_len name
  have hthere := fun s h => Th.there (s := s) (G := name.size) (kind := kind) (name := bs name) (hold := bs hold) (dest := bs dest) hc ht (by rw [bs_len]; exact Nat.le_refl _) h
  have hno10 := fun s h => Th.line_no10 (s := s) (clock := clock) (ticks := ticks) (G := name.size) (kind := kind) (name := bs name) (hold := bs hold) (dest := bs dest) h
  rw [← Th.quoteS_D] at hthere hno10
  cases ho : lineOf clock kind (bs name) (bs hold) (bs dest) ticks (quoteS name) with
  | none =>
    rw [ho] at hline1
    have HL1 := Lib.hid hline1
    clear hline1 hthere hno10 ho hq
    go_enter Tryd.func5, Tryd.ntmps5
    go_wp2_with fail
    go_at_call 8
    refine (HL1.out _ (hT.ext (((But.refl _ w).alloc _).alloc _))).mono ?_
    rintro e0 w1 ⟨rfl, hx1⟩
    have hy1 := (((But.refl _ w).alloc _).alloc _).trans hx1
    rw [show lineV none = .tuple #[.string ⟨#[]⟩, .int .i64 5] from rfl]
    clear HL1 hx1
    rcases HB.out with ⟨p, hp, hr⟩ | ⟨e, hr, c1, c2, c3, c4, c5, c6⟩
    · have hread := fun W hW => Read_c line W (by omega) hW
      rw [hr, outV_none] at hread
      have HR := Lib.hid hread
      clear hread hr HB
      go_wp2_with fail
      go_at_call 12
      refine (HR.out _ (hT.ext hy1)).mono ?_
      rintro e1 wa ⟨rfl, hxa⟩
      have hya := hy1.trans hxa
      clear HR hxa
      go_wp2_with fail
      go_at_call 11
      refine (known_c _ (hT.ext (hya.alloc _))).mono ?_
      rintro e2 wb ⟨rfl, hxb⟩
      have hyb := (hya.alloc _).trans hxb
      clear hya hxb
      go_wp2
      go_ret
      exact ⟨rfl, hyb⟩
    · have hread := fun W hW => Read_c line W (by omega) hW
      rw [hr, outV_some] at hread
      have HR := Lib.hid hread
      have hline := fun W hW => Line_c e.clock e.ticks e.kind ⟨e.name.toArray⟩ ⟨e.hold.toArray⟩ ⟨e.dest.toArray⟩ c1 c2 (Nat.le_trans c3 (by decide)) (Nat.le_trans c4 (by decide)) (Nat.le_trans c5 (by decide)) W hW
      rw [show bs (⟨e.name.toArray⟩ : ByteArray) = e.name from rfl, show bs (⟨e.hold.toArray⟩ : ByteArray) = e.hold from rfl, show bs (⟨e.dest.toArray⟩ : ByteArray) = e.dest from rfl, c6, ← lineV_some rfl] at hline
      have HL := Lib.hid hline
      clear hread hline hr HB c6
      go_wp2_with fail
      go_at_call 12
      refine (HR.out _ (hT.ext hy1)).mono ?_
      rintro e1 wa ⟨rfl, hxa⟩
      have hya := hy1.trans hxa
      clear HR hxa
      go_wp2_with fail
      go_at_call 8
      refine (HL.out _ (hT.ext (hya.alloc _))).mono ?_
      rintro e2 wc ⟨rfl, hxc⟩
      have hyc := (hya.alloc _).trans hxc
      clear HL hya hxc
      go_wp2_with fail
      go_at_call 11
      refine (known_c _ (hT.ext hyc)).mono ?_
      rintro e3 wb ⟨rfl, hxb⟩
      have hyb := hyc.trans hxb
      clear hyc hxb
      go_wp2
      go_ret
      exact ⟨rfl, hyb⟩
  | some s =>
    have hsl := line_len hc ht ho
    have hrd := hthere s ho
    have h10 := hno10 s ho
    rw [ho, show lineV (some s) = .tuple #[.string ⟨s.toArray⟩, .int .i64 0] from rfl] at hline1
    obtain ⟨S, hS⟩ : ∃ S : ByteArray, (⟨s.toArray⟩ : ByteArray) = S := ⟨_, rfl⟩
    have hbS : bs S = s := by rw [← hS]
    have hSl : S.size ≤ 4194504 := by rw [← bs_len, hbS]; omega
    have hread1 := fun W hW => Read_c S W (by omega) hW
    rw [hbS, hrd, outV_some] at hread1
    dsimp only at hread1
    rw [of_bs, of_bs, of_bs] at hread1
    rw [hS] at hline1
    have HL1 := Lib.hid hline1
    have HR1 := Lib.hid hread1
    have HN : Hid (∀ k (h : k < S.size), ((S[k].toNat : Int) == 10) = false) := by
      intro k h
      simp only [beq_eq_false_iff_ne, ne_eq]
      intro e
      apply h10
      rw [← hbS]
      have e2 : S[k] = 10 := UInt8.toNat_inj.1 (by show S[k].toNat = 10; omega)
      rw [← e2]
      exact List.getElem_mem _
    clear hline1 hread1 hthere hno10 ho hq hrd h10 hS hbS hsl
    go_enter Tryd.func5, Tryd.ntmps5
    go_wp2_with fail
    go_at_call 8
    refine (HL1.out _ (hT.ext (((But.refl _ w).alloc _).alloc _))).mono ?_
    rintro e0 w1 ⟨rfl, hx1⟩
    have E1 : Six w1 (w.heap.size + 1) 27 (.int .u64 clock) (.int .i64 kind) (.string name) (.string hold) (.string dest) (.int .u64 ticks) := But.heap hx1 (blk_new2 w _ _) id
    have hy1 := (((But.refl _ w).alloc _).alloc _).trans hx1
    clear HL1 hx1
    go_wp2_with fail
    go_at_call 12
    refine (HR1.out _ (hT.ext hy1)).mono ?_
    rintro e1 w2 ⟨rfl, hx2⟩
    have E2 := E1.ext hx2
    have hy2 := hy1.trans hx2
    clear HR1 hx2 E1 hy1
    obtain ⟨e0, e1, e2, e3, e4, e5⟩ := six_c E2
    have hlt := blk_lt E2
    go_wp2_with fail
    have hy3 := hy2.alloc (.cells #[.int .u64 clock, .int .i64 kind, .string name, .string hold, .string dest, .int .u64 ticks] 27)
    clear e0 e1 e2 e3 e4 e5 hlt E2 hy2
    generalize w2.alloc (.cells #[.int .u64 clock, .int .i64 kind, .string name, .string hold, .string dest, .int .u64 ticks] 27) = w3 at hy3 ⊢
    go_loop [13] (fun i => ∃ k : Nat, k ≤ S.size ∧ i = .int .i64 k) (fun i => S.size - (intOf i).toNat)
    case atStart => exact ⟨0, by omega, rfl⟩
    case round =>
      obtain ⟨k, hk, rfl⟩ := hrel
      by_cases hlt : k < S.size
      · have h10 := HN.out k hlt
        go_wp2
        go_round
        case rel => exact ⟨k + 1, by omega, by go_num⟩
        case measure => simp [intOf]; omega
      · clear HN
        rcases HB.out with ⟨p, hp, hr⟩ | ⟨e, hr, c1, c2, c3, c4, c5, c6⟩
        · have hread := fun W hW => Read_c line W (by omega) hW
          rw [hr, outV_none] at hread
          have HR := Lib.hid hread
          clear hread hr HB
          go_wp2_with fail
          go_at_call 12
          refine (HR.out _ (hT.ext hy3)).mono ?_
          rintro e1 wa ⟨rfl, hxa⟩
          have hya := hy3.trans hxa
          clear HR hxa
          go_wp2_with fail
          go_at_call 11
          refine (known_c _ (hT.ext (hya.alloc _))).mono ?_
          rintro e2 wb ⟨rfl, hxb⟩
          have hyb := (hya.alloc _).trans hxb
          clear hya hxb
          go_wp2
          go_ret
          exact ⟨rfl, hyb⟩
        · have hread := fun W hW => Read_c line W (by omega) hW
          rw [hr, outV_some] at hread
          have HR := Lib.hid hread
          have hline := fun W hW => Line_c e.clock e.ticks e.kind ⟨e.name.toArray⟩ ⟨e.hold.toArray⟩ ⟨e.dest.toArray⟩ c1 c2 (Nat.le_trans c3 (by decide)) (Nat.le_trans c4 (by decide)) (Nat.le_trans c5 (by decide)) W hW
          rw [show bs (⟨e.name.toArray⟩ : ByteArray) = e.name from rfl, show bs (⟨e.hold.toArray⟩ : ByteArray) = e.hold from rfl, show bs (⟨e.dest.toArray⟩ : ByteArray) = e.dest from rfl, c6, ← lineV_some rfl] at hline
          have HL := Lib.hid hline
          clear hread hline hr HB c6
          go_wp2_with fail
          go_at_call 12
          refine (HR.out _ (hT.ext hy3)).mono ?_
          rintro e1 wa ⟨rfl, hxa⟩
          have hya := hy3.trans hxa
          clear HR hxa
          go_wp2_with fail
          go_at_call 8
          refine (HL.out _ (hT.ext (hya.alloc _))).mono ?_
          rintro e2 wc ⟨rfl, hxc⟩
          have hyc := (hya.alloc _).trans hxc
          clear HL hya hxc
          go_wp2_with fail
          go_at_call 11
          refine (known_c _ (hT.ext hyc)).mono ?_
          rintro e3 wb ⟨rfl, hxb⟩
          have hyb := hyc.trans hxb
          clear hyc hxb
          go_wp2
          go_ret
          exact ⟨rfl, hyb⟩
end Hw
end Go.Proofs.YtlgagbglldehjaaDoor
