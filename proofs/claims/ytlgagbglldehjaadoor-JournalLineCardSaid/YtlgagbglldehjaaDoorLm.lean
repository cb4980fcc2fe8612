/- guiseref22.number, guiseref1.Width, guiseref1.Bytes. -/
import Derived.Test.YtlgagbglldehjaaDoorGh
import Derived.Test.YtlgagbglldehjaaDoorCv
import Derived.Test.YtlgagbglldehjaaDoorTl
import Derived.Lib.ItoaLen
import Derived.Test.YtlgagbglldehjaaDoorGq
import Derived.Test.YtlgagbglldehjaaDoorOw
import Derived.Test.YtlgagbglldehjaaDoorSl
import Derived.Lib.QuoteLoop
import Derived.Lib.BufferRead
import Derived.Lib.SlBytesRow
import Derived.Deep.AppendLies
import Derived.Deep.RegionHeld3
import Derived.Lib.AppendStr
import Derived.BigQuiet
import Derived.Lib.QuietBelow
namespace Go.Proofs.YtlgagbglldehjaaDoor
set_option linter.unusedVariables false
set_option linter.unusedSimpArgs false
open Go Go.RowKit Pj Fe St Gh Cv
namespace Ln
/-- 1 while nothing is written -/
def emp : Value → Nat | .string s => if s.size = 0 then 1 else 0 | _ => 0
theorem kcx (x : Int) (c : UInt8) (hx : x = c.toNat) (w : World) : (convert 61 9 (.slice (some ⟨w.heap.size, 0, none⟩) 1 1)).run Tryd.prog (w.alloc (.cells #[.int .u8 x] 5)) = .ok (.string ⟨#[c]⟩) (w.alloc (.cells #[.int .u8 x] 5)) := by
  subst hx; exact kc1 c w _ rfl
/-- what number holds ahead of a round -/
def NumR (n m : Nat) (acc : ByteArray) : Prop := (bs acc = [] ∧ m = n) ∨ (bs acc ≠ [] ∧ (m = 0 → bs acc = Lib.decDigits n) ∧ (0 < m → Lib.decDigits n = Lib.decDigits m ++ bs acc))
theorem toList_bs (s : ByteArray) : s.toList = bs s := ByteArray.toList_eq s
theorem bs_app (a b : ByteArray) : bs (a ++ b) = bs a ++ bs b := by
  simp [bs, ByteArray.toList_data_append]
theorem numR_len {n m : Nat} {acc : ByteArray} (hn : n < 18446744073709551616) (h : NumR n m acc) : (bs acc).length ≤ 20 := by
  have h20 : (Lib.decDigits n).length ≤ 20 := by rw [Lib.decDigits_length]; exact Lib.nDigits_le20 n hn
  rcases h with ⟨h1, rfl⟩ | ⟨h1, h2, h3⟩
  · rw [h1]; simp
  · by_cases hm : 0 < m
    · rw [h3 hm, List.length_append] at h20; omega
    · rw [h2 (by omega)]; exact h20
theorem numR_step {n m : Nat} {acc : ByteArray} {c : UInt8} (h : NumR n m acc) (hm : 0 < m ∨ bs acc = []) (hc : c = UInt8.ofNat (48 + m % 10)) : NumR n (m / 10) (⟨#[c]⟩ ++ acc) := by
  have e : bs (⟨#[c]⟩ ++ acc) = c :: bs acc := by rw [bs_app]; rfl
  refine .inr ⟨by rw [e]; simp, fun h0 => ?_, fun h0 => ?_⟩
  · have hlt : m < 10 := by omega
    rw [e, hc, Nat.mod_eq_of_lt hlt]
    rcases h with ⟨h1, rfl⟩ | ⟨h1, h2, h3⟩
    · rw [h1, Th.dec_small hlt]
    · rcases hm with hm | hm
      · rw [h3 hm, Th.dec_small hlt]; rfl
      · exact absurd hm h1
  · have hge : ¬ m < 10 := by omega
    rw [e, hc]
    rcases h with ⟨h1, rfl⟩ | ⟨h1, h2, h3⟩
    · rw [h1, Th.dec_big hge]
    · rcases hm with hm | hm
      · rw [h3 hm, Th.dec_big hge]; simp
      · exact absurd hm h1
set_option maxHeartbeats 1000000 in
set_option maxRecDepth 100000 in
theorem number_c (n : Nat) (hn : n < 18446744073709551616) (w : World) :
    Calls Tryd.prog 20 #[.int .u64 n] w fun e w' => e = .returned (.string ⟨(Lib.decDigits n).toArray⟩) ∧ Ext w w' := by
  go_enter Tryd.func20, Tryd.ntmps20
  go_wp2
  go_loopw [0, 3] (fun i r wr => ∃ (m : Nat) (acc : ByteArray), m < 18446744073709551616 ∧ i = .int .u64 m ∧ r = .string acc ∧ NumR n m acc ∧ Ext w wr) (fun i r _ => (intOf i).toNat + emp r)
  case atStart => exact ⟨n, ⟨#[]⟩, hn, rfl, rfl, .inl ⟨rfl, rfl⟩, But.refl _ _⟩
  case round =>
    obtain ⟨m, acc, hm, rfl, rfl, hR, hx⟩ := hrel
    obtain ⟨c, hc⟩ : ∃ c, c = UInt8.ofNat (48 + m % 10) := ⟨_, rfl⟩
    have hcv := kcx (48 + (m : Int) % 10) c (by rw [hc]; simp; omega) wr
    have HS : 0 < m ∨ bs acc = [] → Hid (NumR n (m / 10) (⟨#[c]⟩ ++ acc)) := fun h => numR_step hR h hc
    have ha : emp (.string (⟨#[c]⟩ ++ acc)) = 0 := by
      have h : (⟨#[c]⟩ ++ acc : ByteArray).size = 1 + acc.size := by rw [ByteArray.size_append]; rfl
      rw [emp, if_neg (by omega)]
    have hlen : ¬ 9223372036854775807 < 1 + acc.size := by
      have := numR_len hn hR
      rw [bs_len] at this; omega
    have HW : Hid (IntKind.u64.wrap ((m : Int) / 10) = ((m / 10 : Nat) : Int)) := Lib.hid (by rw [IntKind.wrap_u64]; omega)
    have HM : Hid (m / 10 < 18446744073709551616) := Lib.hid (by omega)
    by_cases h0 : 0 < m
    · have k0 : 0 < (m : Int) := by omega
      have HN := HS (.inl h0)
      obtain ⟨P, hP⟩ : ∃ P, (⟨#[c]⟩ : ByteArray) ++ acc = P := ⟨_, rfl⟩
      rw [hP] at HN ha
      clear HS hc hR hn hm
      go_wp2
      go_roundw
      case rel => exact ⟨m / 10, P, HM.out, by rw [HW.out], rfl, HN.out, hx.alloc _⟩
      case measure => rw [HW.out, ha]; simp only [intOf]; omega
    · have k0 : ¬ 0 < (m : Int) := by omega
      obtain rfl : m = 0 := by omega
      by_cases he : bs acc = []
      · have HN := HS (.inr he)
        have hcv : (convert 61 9 (.slice (some ⟨wr.heap.size, 0, none⟩) 1 1)).run Tryd.prog (wr.alloc (.cells #[.int .u8 48] 5)) = .ok (.string ⟨#[c]⟩) (wr.alloc (.cells #[.int .u8 48] 5)) := kcx 48 c (by rw [hc]; rfl) wr
        have hz : acc = ⟨#[]⟩ := bs_ext he
        subst hz
        clear HS hc hR hn hm
        obtain ⟨P, hP⟩ : ∃ P, (⟨#[c]⟩ : ByteArray) ++ ⟨#[]⟩ = P := ⟨_, rfl⟩
        rw [hP] at HN ha
        go_wp2
        go_roundw
        case rel => exact ⟨0 / 10, P, HM.out, by go_num, rfl, HN.out, hx.alloc _⟩
        case measure => rw [ha]; simp [intOf, emp, show (⟨#[]⟩ : ByteArray) = ByteArray.empty from rfl]
      · have ht : acc.toList.isEmpty = false := by rw [toList_bs]; cases h : bs acc with
          | nil => exact absurd h he
          | cons a b => rfl
        have hq : Hid (acc = ⟨(Lib.decDigits n).toArray⟩) := by
          rcases hR with ⟨h1, h2⟩ | ⟨h1, h2, h3⟩
          · exact absurd h1 he
          · rw [← h2 rfl]; cases acc; rfl
        clear HS hc hR hn hm
        go_wp2
        go_ret
        exact ⟨by rw [hq.out]; rfl, hx⟩
end Ln
end Go.Proofs.YtlgagbglldehjaaDoor
/- guiseref1.Spots. -/
namespace Go.Proofs.YtlgagbglldehjaaDoor
set_option linter.unusedVariables false
set_option linter.unusedSimpArgs false
open Go Go.RowKit Pj Fe Gs Gq
namespace Ls
structure Sp where
  r : Nat
  pos : Nat
  n : Nat
  bad : Bool
def spotOf (l : Bs) (p : Nat) : Sp := if seqN l = 0 then ⟨65533, p, 1, true⟩ else ⟨(Lib.decodeL l).1, p, seqN l, false⟩
/-- the spots of what stands at a place -/
def SpL : Bs → Nat → List Sp → Prop
  | l, _, [] => l = []
  | l, p, x :: xs => l ≠ [] ∧ x = spotOf l p ∧ SpL (l.drop x.n) (p + x.n) xs
def spC (x : Sp) : List Value := [.int .i32 x.r, .int .i64 x.pos, .int .i64 x.n, .bool x.bad]
def spCells (xs : List Sp) : List Value := xs.flatMap spC
theorem spCells_len (xs : List Sp) : (spCells xs).length = xs.length * 4 := by
  induction xs with
  | nil => rfl
  | cons x xs ih => rw [spCells, List.flatMap_cons, List.length_append, ← spCells, ih]; simp [spC]; omega
theorem spCells_snoc (xs : List Sp) (x : Sp) : spCells (xs ++ [x]) = spCells xs ++ spC x := by simp [spCells]
def SpotsR (s : ByteArray) (w : World) (e : Ending) (w' : World) : Prop := ∃ v xs, e = .returned v ∧ w'.ownsRow w.heap.size 84 4 v xs.length (spCells xs) ∧ SpL (bs s) 0 xs ∧ xs.length ≤ s.size ∧ Ext w w'
theorem infoSp : (Tryd.prog.info? 84).map (fun i => (i.zero, i.size, i.bytes)) = some (some (.agg #[.int .i32 0, .int .i64 0, .int .i64 0, .bool false]), 4, 32) := by kernel_rfl
theorem seqN_le (l : Bs) : seqN l ≤ l.length := by
  unfold seqN
  split
  · omega
  · next h => exact Lib.decodeL_le l fun e => h (.inl e)
/-- what holds between two rounds -/
def RelS (s : ByteArray) (w wr : World) (v : Value) (k : Nat) : Prop := ∃ xs, wr.ownsRow w.heap.size 84 4 v xs.length (spCells xs) ∧ (∀ ys, SpL ((bs s).drop k) k ys → SpL (bs s) 0 (xs ++ ys)) ∧ xs.length ≤ k ∧ Ext w wr
theorem relS_next {s : ByteArray} {k n : Nat} {xs : List Sp} {x : Sp} (hk : k < s.size) (h : ∀ ys, SpL ((bs s).drop k) k ys → SpL (bs s) 0 (xs ++ ys)) (hx : x = spotOf ((bs s).drop k) k) (hn : x.n = n) : ∀ ys, SpL ((bs s).drop (k + n)) (k + n) ys → SpL (bs s) 0 ((xs ++ [x]) ++ ys) := fun ys hy => by
  rw [List.append_assoc]
  refine h ([x] ++ ys) ⟨?_, hx, ?_⟩
  · intro e
    have := congrArg List.length e
    rw [List.length_drop, bs_len] at this; simp at this; omega
  · rw [hn, List.drop_drop]; exact hy
theorem news_cell (W : World) (g : Nat) (x : Sp) (hg : g = W.heap.size) : ∀ j u, (spC x)[j]? = some u → (W.alloc (.cells (spC x).toArray 84)).cell? ((⟨g, 0, none⟩ : Addr).add j) = some u := by
  subst hg
  intro j u hj
  have e : (⟨W.heap.size, 0, none⟩ : Addr).add j = ⟨W.heap.size, j, none⟩ := by simp [Addr.add]; exact fun h => h.symm
  rw [e, blk_cell (blk_new _ _)]
  simpa using hj
set_option maxHeartbeats 4000000 in
set_option maxRecDepth 100000 in
theorem Spots_c (s : ByteArray) (w : World) (hs : s.size ≤ 1000000) :
    Calls Tryd.prog 38 #[.string s] w (SpotsR s w) := by
  obtain ⟨i0, hi, hz0, hz1, hz2⟩ := info_parts infoSp
  go_enter Tryd.func38, Tryd.ntmps38
  go_wp2
  go_loopw [3, 4] (fun v i wr => ∃ k : Nat, k ≤ s.size ∧ i = .int .i64 k ∧ Hid (RelS s w wr v k)) (fun _ i _ => s.size - (intOf i).toNat)
  case atStart => exact ⟨0, by omega, rfl, [], World.ownsRow_nil _ _ _ _, fun ys h => h, Nat.le_refl _, But.refl _ _⟩
  case round =>
    obtain ⟨k, hk, rfl, HR⟩ := hrel
    by_cases hlt : k < s.size
    · have hsq := fun W => Sequence2_c (s.extract k s.size) W (by simp; omega)
      have hle := seqN_le ((bs s).drop k)
      rw [List.length_drop, bs_len] at hle
      unfold SeqR at hsq
      rw [bs_rest] at hsq
      obtain ⟨n, hn⟩ : ∃ n, seqN ((bs s).drop k) = n := ⟨_, rfl⟩
      obtain ⟨d, hd⟩ : ∃ d, (Lib.decodeL ((bs s).drop k)).1 = d := ⟨_, rfl⟩
      rw [hn, hd] at hsq
      rw [hn] at hle
      have HN := Lib.hid hn
      have HD := Lib.hid hd
      have HQ := Lib.hid hsq
      obtain ⟨xs, ho, hj, hlen, hx⟩ := HR.out
      clear hn hd hsq HR
      by_cases h0 : n = 0
      · subst h0
        have hxA : Ext wr ((wr.alloc (.cells (spC ⟨65533, k, 1, true⟩).toArray 84)).alloc (.cells (spC ⟨65533, k, 1, true⟩).toArray 84)) := ((But.refl _ _).alloc _).alloc _
        have hoA := Ow.own_keep ho hxA (fun _ _ h => h)
        go_wp2_with (first
          | (go_at_call 60; refine (HQ.out _).mono ?_; rintro e w1 ⟨r, rfl, rfl, hr⟩)
          | (at_builtin; refine wpList_append_own_at _ rfl _ _ 81 rfl w.heap.size 84 i0 _ 4 32 Tryd.underlying81 hi hz0 hz1 hz2 rfl (by decide) _ _ _ rfl hoA ⟨_, 0, none⟩ 1 1 (spC ⟨65533, k, 1, true⟩) rfl rfl (news_cell _ _ _ (by simp)) ?c2 ?c3 ?c4 ?c5 ?_))
        case c2 => intro u hu; simp [spC] at hu; rcases hu with rfl | rfl | rfl | rfl <;> rfl
        case c3 => unfold maxLen; omega
        case c4 => omega
        case c5 =>
          have h1 := hx.size
          simp; omega
        intro v' w2 hown hgrow _ hvb
        have hx2 : Ext w w2 := Ow.ext_grown (hx.trans hxA) hgrow hoA (Nat.le_refl _)
        have hB : w2.heap[wr.heap.size]? = some (.cells (spC ⟨65533, k, 1, true⟩).toArray 84) := But.heap (Ow.but_grown hgrow) (blk_alloc (blk_new wr _) _) (fun e => by have := (Ow.own_lt ho e.symm).2; omega)
        have hcell : w2.cell? ⟨wr.heap.size, 2, none⟩ = some (.int .i64 1) := (blk_cell hB).trans rfl
        have HF : Hid (RelS s w w2 v' (k + 1)) := Lib.hid ⟨xs ++ [⟨65533, k, 1, true⟩], by rw [spCells_snoc, List.length_append]; exact hown, relS_next hlt hj (by unfold spotOf; rw [if_pos HN.out]) rfl, by rw [List.length_append]; simp; omega, hx2⟩
        clear hown hgrow hB hoA hxA
        go_wp2
        go_roundw
        case rel => exact ⟨k + 1, by omega, by go_num, HF⟩
        case measure => simp [intOf]; omega
      · have g : ((n : Int) == 0) = false := beq_eq_false_iff_ne.2 (by omega)
        have hxA : Ext wr ((wr.alloc (.cells (spC ⟨d, k, n, false⟩).toArray 84)).alloc (.cells (spC ⟨d, k, n, false⟩).toArray 84)) := ((But.refl _ _).alloc _).alloc _
        have hoA := Ow.own_keep ho hxA (fun _ _ h => h)
        go_wp2_with (first
          | (go_at_call 60; refine (HQ.out _).mono ?_; rintro e w1 ⟨r, rfl, rfl, hr⟩; obtain rfl := hr h0)
          | (at_builtin; refine wpList_append_own_at _ rfl _ _ 81 rfl w.heap.size 84 i0 _ 4 32 Tryd.underlying81 hi hz0 hz1 hz2 rfl (by decide) _ _ _ rfl hoA ⟨_, 0, none⟩ 1 1 (spC ⟨d, k, n, false⟩) rfl rfl (news_cell _ _ _ (by simp)) ?c2 ?c3 ?c4 ?c5 ?_))
        case c2 => intro u hu; simp [spC] at hu; rcases hu with rfl | rfl | rfl | rfl <;> rfl
        case c3 => unfold maxLen; omega
        case c4 => omega
        case c5 =>
          have h1 := hx.size
          simp; omega
        intro v' w2 hown hgrow _ hvb
        have hx2 : Ext w w2 := Ow.ext_grown (hx.trans hxA) hgrow hoA (Nat.le_refl _)
        have hB : w2.heap[wr.heap.size]? = some (.cells (spC ⟨d, k, n, false⟩).toArray 84) := But.heap (Ow.but_grown hgrow) (blk_alloc (blk_new wr _) _) (fun e => by have := (Ow.own_lt ho e.symm).2; omega)
        have hcell : w2.cell? ⟨wr.heap.size, 2, none⟩ = some (.int .i64 n) := (blk_cell hB).trans rfl
        have HF : Hid (RelS s w w2 v' (k + n)) := Lib.hid ⟨xs ++ [⟨d, k, n, false⟩], by rw [spCells_snoc, List.length_append]; exact hown, relS_next hlt hj (by unfold spotOf; rw [if_neg (by rw [HN.out]; exact h0), HN.out, HD.out]) rfl, by rw [List.length_append]; simp; omega, hx2⟩
        clear hown hgrow hB hoA hxA
        go_wp2
        go_roundw
        case rel => exact ⟨k + n, by omega, by go_num, HF⟩
        case measure => simp [intOf]; omega
    · obtain rfl : k = s.size := by omega
      obtain ⟨xs, ho, hj, hlen, hx⟩ := HR.out
      have HF : Hid (SpL (bs s) 0 xs) := Lib.hid (by have := hj [] (by rw [List.drop_eq_nil_of_le (by rw [bs_len]; exact Nat.le_refl _)]; rfl); rwa [List.append_nil] at this)
      clear hj HR
      go_wp2
      go_ret
      exact ⟨_, xs, rfl, ho, HF.out, hlen, hx⟩
end Ls
end Go.Proofs.YtlgagbglldehjaaDoor
/- guiseref1.Width, guiseref1.Bytes. -/
namespace Go.Proofs.YtlgagbglldehjaaDoor
set_option linter.unusedVariables false
set_option linter.unusedSimpArgs false
open Go Go.RowKit Pj Fe Gs Gq
namespace Lb
/-- no surrogate, no number beyond the last rune -/
def RuneN (r : Nat) : Prop := r < 55296 ∨ (57343 < r ∧ r ≤ 1114111)
def widN (r : Nat) : Nat := if r < 128 then 1 else if r < 2048 then 2 else if r < 65536 then 3 else 4
def widZ (z : Int) : Int := if z < 128 then 1 else if z < 2048 then 2 else if z < 65536 then 3 else 4
theorem widZ_N (r : Nat) : widZ r = widN r := by
  unfold widZ widN
  by_cases h1 : r < 128
  · rw [if_pos (by omega), if_pos h1]; rfl
  · rw [if_neg (by omega), if_neg h1]
    by_cases h2 : r < 2048
    · rw [if_pos (by omega), if_pos h2]; rfl
    · rw [if_neg (by omega), if_neg h2]
      by_cases h3 : r < 65536
      · rw [if_pos (by omega), if_pos h3]; rfl
      · rw [if_neg (by omega), if_neg h3]; rfl
theorem ret_wid {r n : Int} (h : widZ r = n) : Ending.returned (.int .i64 n) = Ending.returned (.int .i64 (widZ r)) := by rw [h]
set_option maxHeartbeats 1000000 in
set_option maxRecDepth 100000 in
theorem Width_z (r : Int) (k0 : ¬ r < 0) (k1 : ¬ 1114111 < r) (hs : r < 55296 ∨ ¬ r ≤ 57343) (w : World) :
    Calls Tryd.prog 61 #[.int .i32 r] w fun e w' => e = .returned (.int .i64 (widZ r)) ∧ w = w' := by
  by_cases k2 : r < 55296
  · by_cases k3 : r < 128
    · have hq : Hid (widZ r = 1) := Lib.hid (by unfold widZ; rw [if_pos k3])
      clear hs
      go_enter Tryd.func61, Tryd.ntmps61
      go_wp2
      go_ret
      exact ⟨ret_wid hq.out, rfl⟩
    · by_cases k4 : r < 2048
      · have hq : Hid (widZ r = 2) := Lib.hid (by unfold widZ; rw [if_neg k3, if_pos k4])
        clear hs
        go_enter Tryd.func61, Tryd.ntmps61
        go_wp2
        go_ret
        exact ⟨ret_wid hq.out, rfl⟩
      · have k5 : r < 65536 := by omega
        have hq : Hid (widZ r = 3) := Lib.hid (by unfold widZ; rw [if_neg k3, if_neg k4, if_pos k5])
        clear hs
        go_enter Tryd.func61, Tryd.ntmps61
        go_wp2
        go_ret
        exact ⟨ret_wid hq.out, rfl⟩
  · have k6 : ¬ r ≤ 57343 := by omega
    have k3 : ¬ r < 128 := by omega
    have k4 : ¬ r < 2048 := by omega
    by_cases k5 : r < 65536
    · have hq : Hid (widZ r = 3) := Lib.hid (by unfold widZ; rw [if_neg k3, if_neg k4, if_pos k5])
      clear hs
      go_enter Tryd.func61, Tryd.ntmps61
      go_wp2
      go_ret
      exact ⟨ret_wid hq.out, rfl⟩
    · have hq : Hid (widZ r = 4) := Lib.hid (by unfold widZ; rw [if_neg k3, if_neg k4, if_neg k5])
      clear hs
      go_enter Tryd.func61, Tryd.ntmps61
      go_wp2
      go_ret
      exact ⟨ret_wid hq.out, rfl⟩
theorem Width_c (r : Nat) (hr : RuneN r) (w : World) :
    Calls Tryd.prog 61 #[.int .i32 r] w fun e w' => e = .returned (.int .i64 (widN r)) ∧ w = w' := by
  rw [← widZ_N]
  unfold RuneN at hr
  exact Width_z r (by omega) (by omega) (by omega) w
/-- a fresh row that holds a rune's bytes -/
def BytesR (r : Nat) (w : World) (e : Ending) (w' : World) : Prop := e = .returned (.slice (some ⟨w.heap.size, 0, none⟩) (widN r) (widN r)) ∧ w' = w.alloc (.cells (Lib.runeCells r).toArray 5)
theorem or_i32 {a b : Nat} {i : Nat} (hi : i ≤ 31) (ha : a % 2 ^ i = 0) (ha1 : a < 2 ^ 31) (hb : b < 2 ^ i) : bits BinOp.or IntKind.i32 (a : Int) (b : Int) = ((a + b : Nat) : Int) := by
  have h2 : (2 : Nat) ^ i ≤ 2 ^ 31 := Nat.pow_le_pow_right (by decide) hi
  have hb' : b < 2 ^ 31 := by omega
  rw [bits_join .i32 31 (by decide) i32_small i (a : Int) (b : Int) (by omega) (by exact_mod_cast ha) (by exact_mod_cast ha1) (by omega) (by exact_mod_cast hb) (by exact_mod_cast hb')]
  push_cast; rfl
theorem and_i32 {a : Nat} (ha : a < 2 ^ 31) : bits BinOp.and IntKind.i32 (a : Int) 63 = ((a % 64 : Nat) : Int) := by
  have h := bits_mask .i32 31 (by decide) i32_small 6 (by decide) (a : Int) (by omega) (by exact_mod_cast ha)
  rw [show ((2 : Int) ^ 6 - 1) = 63 from rfl] at h
  rw [h]; push_cast; rfl
theorem cells1 {r : Nat} (h : r < 128) : (Lib.runeCells r).toArray = #[.int .u8 (r : Int)] := by
  unfold Lib.runeCells; rw [Lib.encodeRuneZ_one (by omega) (by omega)]; rfl
theorem lo8 {a : Nat} (h : a < 64) : (((128 + a : Nat) : Int) % 256) = 128 + (a : Int) := by omega
theorem cells2 {r : Nat} (h1 : 128 ≤ r) (h2 : r < 2048) : (Lib.runeCells r).toArray = #[.int .u8 (192 + (r : Int) / 64), .int .u8 (bits BinOp.or IntKind.i32 128 (bits BinOp.and IntKind.i32 (r : Int) 63) % 256)] := by
  unfold Lib.runeCells
  rw [Lib.encodeRuneZ_two (by omega) (by omega), and_i32 (by omega)]
  rw [show bits BinOp.or IntKind.i32 128 ((r % 64 : Nat) : Int) = ((128 + r % 64 : Nat) : Int) from or_i32 (a := 128) (i := 6) (by decide) (by decide) (by decide) (by omega)]
  rw [show (((128 + r % 64 : Nat) : Int) % 256) = 128 + (r : Int) % 64 by omega]
  rfl
theorem cells3 {r : Nat} (h1 : 2048 ≤ r) (h2 : r < 65536) (hr : RuneN r) : (Lib.runeCells r).toArray = #[.int .u8 (bits BinOp.or IntKind.i32 224 ((r : Int) / 4096) % 256), .int .u8 (bits BinOp.or IntKind.i32 128 (bits BinOp.and IntKind.i32 ((r : Int) / 64) 63) % 256), .int .u8 (bits BinOp.or IntKind.i32 128 (bits BinOp.and IntKind.i32 (r : Int) 63) % 256)] := by
  unfold RuneN at hr
  unfold Lib.runeCells
  rw [Lib.encodeRuneZ_three (by omega), and_i32 (by omega), show ((r : Int) / 64) = ((r / 64 : Nat) : Int) by omega, and_i32 (by omega), show ((r : Int) / 4096) = ((r / 4096 : Nat) : Int) by omega]
  rw [show bits BinOp.or IntKind.i32 224 ((r / 4096 : Nat) : Int) = ((224 + r / 4096 : Nat) : Int) from or_i32 (a := 224) (i := 5) (by decide) (by decide) (by decide) (by omega)]
  rw [show bits BinOp.or IntKind.i32 128 ((r % 64 : Nat) : Int) = ((128 + r % 64 : Nat) : Int) from or_i32 (a := 128) (i := 6) (by decide) (by decide) (by decide) (by omega)]
  rw [show bits BinOp.or IntKind.i32 128 ((r / 64 % 64 : Nat) : Int) = ((128 + r / 64 % 64 : Nat) : Int) from or_i32 (a := 128) (i := 6) (by decide) (by decide) (by decide) (by omega)]
  rw [show (((224 + r / 4096 : Nat) : Int) % 256) = 224 + ((r / 4096 : Nat) : Int) by omega, show (((128 + r % 64 : Nat) : Int) % 256) = 128 + (r : Int) % 64 by omega, show (((128 + r / 64 % 64 : Nat) : Int) % 256) = 128 + ((r / 64 : Nat) : Int) % 64 by omega]
  rfl
theorem cells4 {r : Nat} (h1 : 65536 ≤ r) (hr : RuneN r) : (Lib.runeCells r).toArray = #[.int .u8 (bits BinOp.or IntKind.i32 240 ((r : Int) / 262144) % 256), .int .u8 (bits BinOp.or IntKind.i32 128 (bits BinOp.and IntKind.i32 ((r : Int) / 4096) 63) % 256), .int .u8 (bits BinOp.or IntKind.i32 128 (bits BinOp.and IntKind.i32 ((r : Int) / 64) 63) % 256), .int .u8 (bits BinOp.or IntKind.i32 128 (bits BinOp.and IntKind.i32 (r : Int) 63) % 256)] := by
  unfold RuneN at hr
  unfold Lib.runeCells
  rw [Lib.encodeRuneZ_four (by omega) (by omega), and_i32 (by omega), show ((r : Int) / 64) = ((r / 64 : Nat) : Int) by omega, and_i32 (by omega), show ((r : Int) / 4096) = ((r / 4096 : Nat) : Int) by omega, and_i32 (by omega), show ((r : Int) / 262144) = ((r / 262144 : Nat) : Int) by omega]
  rw [show bits BinOp.or IntKind.i32 240 ((r / 262144 : Nat) : Int) = ((240 + r / 262144 : Nat) : Int) from or_i32 (a := 240) (i := 4) (by decide) (by decide) (by decide) (by omega)]
  rw [show bits BinOp.or IntKind.i32 128 ((r % 64 : Nat) : Int) = ((128 + r % 64 : Nat) : Int) from or_i32 (a := 128) (i := 6) (by decide) (by decide) (by decide) (by omega)]
  rw [show bits BinOp.or IntKind.i32 128 ((r / 64 % 64 : Nat) : Int) = ((128 + r / 64 % 64 : Nat) : Int) from or_i32 (a := 128) (i := 6) (by decide) (by decide) (by decide) (by omega)]
  rw [show bits BinOp.or IntKind.i32 128 ((r / 4096 % 64 : Nat) : Int) = ((128 + r / 4096 % 64 : Nat) : Int) from or_i32 (a := 128) (i := 6) (by decide) (by decide) (by decide) (by omega)]
  rw [show (((240 + r / 262144 : Nat) : Int) % 256) = 240 + ((r / 262144 : Nat) : Int) by omega, show (((128 + r % 64 : Nat) : Int) % 256) = 128 + (r : Int) % 64 by omega, show (((128 + r / 64 % 64 : Nat) : Int) % 256) = 128 + ((r / 64 : Nat) : Int) % 64 by omega, show (((128 + r / 4096 % 64 : Nat) : Int) % 256) = 128 + ((r / 4096 : Nat) : Int) % 64 by omega]
  rfl
set_option maxHeartbeats 2000000 in
set_option maxRecDepth 100000 in
theorem Bytes_c (r : Nat) (hr : RuneN r) (w : World) : Calls Tryd.prog 41 #[.int .i32 r] w (BytesR r w) := by
  have HW := Lib.hid (Width_c r hr)
  rcases (by omega : r < 128 ∨ (128 ≤ r ∧ r < 2048) ∨ (2048 ≤ r ∧ r < 65536) ∨ 65536 ≤ r) with h | h | h | h
  · have hq : Hid (widN r = 1) := Lib.hid (by unfold widN; rw [if_pos h])
    have hc := cells1 h
    clear hr
    have HC := Lib.hid hc
    clear hc
    go_enter Tryd.func41, Tryd.ntmps41
    go_wp2_with (go_at_call 61; refine (HW.out w).mono ?_; rintro e w1 ⟨rfl, rfl⟩; rw [hq.out])
    go_ret
    exact ⟨by rw [hq.out]; rfl, by rw [HC.out]⟩
  · have hq : Hid (widN r = 2) := Lib.hid (by unfold widN; rw [if_neg (by omega), if_pos h.2])
    have hc := cells2 h.1 h.2
    clear hr
    have HC := Lib.hid hc
    clear hc
    go_enter Tryd.func41, Tryd.ntmps41
    go_wp2_with (go_at_call 61; refine (HW.out w).mono ?_; rintro e w1 ⟨rfl, rfl⟩; rw [hq.out])
    go_ret
    exact ⟨by rw [hq.out]; rfl, by rw [HC.out]⟩
  · have hq : Hid (widN r = 3) := Lib.hid (by unfold widN; rw [if_neg (by omega), if_neg (by omega), if_pos h.2])
    have hc := cells3 h.1 h.2 hr
    clear hr
    have HC := Lib.hid hc
    clear hc
    go_enter Tryd.func41, Tryd.ntmps41
    go_wp2_with (go_at_call 61; refine (HW.out w).mono ?_; rintro e w1 ⟨rfl, rfl⟩; rw [hq.out])
    go_ret
    exact ⟨by rw [hq.out]; rfl, by rw [HC.out]⟩
  · have hq : Hid (widN r = 4) := Lib.hid (by unfold widN; rw [if_neg (by omega), if_neg (by omega), if_neg (by omega)])
    have hc := cells4 h hr
    clear hr
    have HC := Lib.hid hc
    clear hc
    go_enter Tryd.func41, Tryd.ntmps41
    go_wp2_with (go_at_call 61; refine (HW.out w).mono ?_; rintro e w1 ⟨rfl, rfl⟩; rw [hq.out])
    go_ret
    exact ⟨by rw [hq.out]; rfl, by rw [HC.out]⟩
end Lb
end Go.Proofs.YtlgagbglldehjaaDoor
/- guiseref22.named. -/
namespace Go.Proofs.YtlgagbglldehjaaDoor
set_option linter.unusedVariables false
set_option linter.unusedSimpArgs false
open Go Go.RowKit Pj Fe St Es Gs Gq Gh Ls Lb Th
namespace Lm
theorem runeN_dec (l : Bs) : RuneN (Lib.decodeL l).1 := by
  unfold RuneN; rw [Lib.decodeL_N]; exact Lib.decodeN_valid _ _ _ _ _ (UInt8.toNat_lt _)
/-- what is known behind i spots, out being written -/
def RelN (s : ByteArray) (xs : List Sp) (i : Nat) (out : Bs) : Prop :=
  ∃ p f, SpL ((bs s).drop p) p (xs.drop i) ∧ Lib.validD (bs s) = Lib.validD ((bs s).drop p) ∧ ((bs s).drop p).length ≤ f ∧ quoteD s.size (bs s) = out ++ quoteD f ((bs s).drop p)
theorem relN_start {s : ByteArray} {xs : List Sp} (h : SpL (bs s) 0 xs) : RelN s xs 0 [] :=
  ⟨0, s.size, h, by rw [List.drop_zero], by rw [List.drop_zero, bs_len]; exact Nat.le_refl _, by rw [List.drop_zero]; rfl⟩
theorem relN_end {s : ByteArray} {xs : List Sp} {out : Bs} (h : RelN s xs xs.length out) : Lib.validD (bs s) = true ∧ quoteS s = out := by
  obtain ⟨p, f, h1, h2, h3, h4⟩ := h
  rw [List.drop_length] at h1
  have h1 : (bs s).drop p = [] := h1
  rw [h1] at h2 h4
  rw [quoteD_nil, List.append_nil] at h4
  exact ⟨h2.trans (by decide), by rw [quoteS_D]; exact h4⟩
theorem seq_ne {l : Bs} (h : seqN l ≠ 0) : l ≠ [] ∧ ¬ ((Lib.decodeL l).1 = 65533 ∧ (Lib.decodeL l).2 = 1) ∧ seqN l = (Lib.decodeL l).2 := by
  unfold seqN at h ⊢
  by_cases hc : l = [] ∨ ((Lib.decodeL l).1 = 65533 ∧ (Lib.decodeL l).2 = 1)
  · rw [if_pos hc] at h; exact absurd rfl h
  · rw [if_neg hc]; exact ⟨fun e => hc (.inl e), fun e => hc (.inr e), rfl⟩
theorem relN_bad {s : ByteArray} {xs : List Sp} {i : Nat} {out : Bs} (h : RelN s xs i out) (hi : i < xs.length) (hb : xs[i].bad = true) : Lib.validD (bs s) = false := by
  obtain ⟨p, f, h1, h2, h3, h4⟩ := h
  rw [List.drop_eq_getElem_cons hi] at h1
  obtain ⟨hne, hx, -⟩ := h1
  rw [hx] at hb
  unfold spotOf at hb
  by_cases h0 : seqN ((bs s).drop p) = 0
  · rw [h2, Lib.validD_step _ hne]
    unfold seqN at h0
    by_cases hc : (bs s).drop p = [] ∨ ((Lib.decodeL ((bs s).drop p)).1 = 65533 ∧ (Lib.decodeL ((bs s).drop p)).2 = 1)
    · rw [if_pos (hc.resolve_left hne)]
    · rw [if_neg hc] at h0
      have := Lib.decodeL_width ((bs s).drop p); omega
  · rw [if_neg h0] at hb; exact absurd hb (by simp)
theorem relN_next {s : ByteArray} {xs : List Sp} {i : Nat} {out : Bs} (h : RelN s xs i out) (hi : i < xs.length) (hb : xs[i].bad = false) : RuneN xs[i].r ∧ RelN s xs (i + 1) (out ++ quoteR xs[i].r) := by
  obtain ⟨p, f, h1, h2, h3, h4⟩ := h
  rw [List.drop_eq_getElem_cons hi] at h1
  obtain ⟨hne, hx, h5⟩ := h1
  rw [hx] at hb
  unfold spotOf at hb hx
  by_cases h0 : seqN ((bs s).drop p) = 0
  · rw [if_pos h0] at hb; exact absurd hb (by simp)
  · rw [if_neg h0] at hx
    obtain ⟨-, hv, hn⟩ := seq_ne h0
    have hxn : xs[i].n = (Lib.decodeL ((bs s).drop p)).2 := by rw [hx]; exact hn
    have hxr : xs[i].r = (Lib.decodeL ((bs s).drop p)).1 := by rw [hx]
    rw [hxn, List.drop_drop] at h5
    have hw := Lib.decodeL_width ((bs s).drop p)
    refine ⟨by rw [hxr]; exact runeN_dec _, p + (Lib.decodeL ((bs s).drop p)).2, f - 1, h5, ?_, ?_, ?_⟩
    · rw [h2, Lib.validD_step _ hne, if_neg hv, List.drop_drop]
    · rw [← List.drop_drop, List.length_drop]; omega
    · rw [h4, List.append_assoc, hxr]
      have hf : f = (f - 1) + 1 := by
        have : ((bs s).drop p).length ≠ 0 := fun e => hne (List.eq_nil_of_length_eq_zero e)
        omega
      rw [hf, quoteD, if_neg hne, List.drop_drop]
      simp
theorem relN_len {s : ByteArray} {xs : List Sp} {i : Nat} {out : Bs} (h : RelN s xs i out) : out.length ≤ 4 * s.size := by
  obtain ⟨p, f, h1, h2, h3, h4⟩ := h
  have := quoteS_len s
  rw [quoteS_D, h4, List.length_append] at this; omega
theorem spCells_get {xs : List Sp} {i j : Nat} (hi : i < xs.length) (hj : j < 4) : (spCells xs)[i * 4 + j]? = (spC xs[i])[j]? := by
  induction xs generalizing i with
  | nil => simp at hi
  | cons x xs ih =>
    rw [spCells, List.flatMap_cons]
    cases i with
    | zero => rw [List.getElem?_append_left (by simp [spC]; omega)]; simp
    | succ i =>
      rw [List.getElem?_append_right (by simp [spC]; omega)]
      have := ih (i := i) (by simpa using hi)
      rw [spCells] at this
      rw [show (i + 1) * 4 + j - (spC x).length = i * 4 + j by simp [spC]; omega, this]
      simp
theorem own_form {w : World} {B : Nat} {e : TypeId} {v : Value} {n k : Nat} {xs : List Value} (h : w.ownsRow B e k v n xs) :
    ∃ base cap, v = .slice base n cap ∧ (0 < n → ∃ g, base = some ⟨g, 0, none⟩ ∧ B ≤ g ∧ g < w.heap.size ∧ n ≤ cap ∧ ∀ (i : Nat) u, xs[i]? = some u → w.cell? ⟨g, i, none⟩ = some u) := by
  obtain ⟨hl, h⟩ := h
  rcases h with ⟨hv, h0⟩ | ⟨g, cap, cur, hv, hbg, hg, hnc, hcm, hcur, htake⟩
  · exact ⟨none, 0, by rw [hv, h0], fun h => by omega⟩
  · refine ⟨some ⟨g, 0, none⟩, cap, hv, fun _ => ⟨g, rfl, hbg, blk_lt hg, hnc, fun i u hu => ?_⟩⟩
    rw [blk_cell hg, ← Array.getElem?_toList]
    subst htake
    have hi : i < (List.take (n * k) cur.toList).length := (List.getElem?_eq_some_iff.1 hu).1
    rw [List.length_take] at hi
    rwa [List.getElem?_take_of_lt (by omega)] at hu
theorem infoU8 : (Tryd.prog.info? 5).map (fun i => (i.zero, i.size, i.bytes)) = some (some (.int .u8 0), 1, 1) := by kernel_rfl
theorem conv_own {B : Nat} {W : World} {v : Value} {name : Bs} (h : W.ownsRow B 5 1 v name.length (Lib.byteCells name)) : (convert 61 9 v).run Tryd.prog W = .ok (.string ⟨name.toArray⟩) W := by
  obtain ⟨hl, h⟩ := h
  rcases h with ⟨hv, h0⟩ | ⟨g, cap, cur, hv, hbg, hg, hnc, hcm, hcur, htake⟩
  · have : name = [] := List.eq_nil_of_length_eq_zero h0
    subst this hv
    exact Lib.run_convert_nil_bytes (P := Tryd.prog) W 61 9 5 0 Tryd.underlying61 Tryd.underlying5 Tryd.underlying9
  · subst hv
    have hsz : (⟨name.toArray⟩ : ByteArray).size = name.length := by show name.toArray.size = _; simp
    rw [← hsz]
    refine Lib.run_convert_whole (P := Tryd.prog) W 61 5 9 Tryd.underlying61 Tryd.underlying5 Tryd.underlying9 g 0 ⟨name.toArray⟩ (fun i hi => ?_) cap
    rw [hsz] at hi
    rw [Nat.zero_add, blk_cell hg]
    have e1 : (Lib.byteCells name)[i]? = some (.int .u8 (name[i].toNat : Int)) := by simp [Lib.byteCells, hi]
    rw [← htake] at e1
    rw [List.getElem?_take_of_lt (by simpa using hi)] at e1
    rw [← Array.getElem?_toList, e1]
    rfl
theorem news_row (W : World) (g : Nat) (l : List Value) (hg : g = W.heap.size) : ∀ j u, l[j]? = some u → (W.alloc (.cells l.toArray 5)).cell? ((⟨g, 0, none⟩ : Addr).add j) = some u := by
  subst hg
  intro j u hj
  have e : (⟨W.heap.size, 0, none⟩ : Addr).add j = ⟨W.heap.size, j, none⟩ := by simp [Addr.add]; exact fun h => h.symm
  rw [e, blk_cell (blk_new _ _)]
  simpa using hj
theorem wid_len {r : Nat} (hr : RuneN r) : (Lib.runeCells r).length = widN r * 1 := by
  unfold RuneN at hr
  rcases (by omega : r < 128 ∨ (128 ≤ r ∧ r < 2048) ∨ (2048 ≤ r ∧ r < 65536) ∨ 65536 ≤ r) with h | h | h | h
  · unfold Lib.runeCells widN; rw [Lib.encodeRuneZ_one (by omega) (by omega), if_pos h]; rfl
  · unfold Lib.runeCells widN; rw [Lib.encodeRuneZ_two (by omega) (by omega), if_neg (by omega), if_pos h.2]; rfl
  · unfold Lib.runeCells widN; rw [Lib.encodeRuneZ_three (by omega), if_neg (by omega), if_neg (by omega), if_pos h.2]; rfl
  · unfold Lib.runeCells widN; rw [Lib.encodeRuneZ_four (by omega) (by omega), if_neg (by omega), if_neg (by omega), if_neg (by omega)]; rfl
theorem wid_le (r : Nat) : widN r ≤ 4 := by unfold widN; split; · omega
                                            split; · omega
                                            split <;> omega
theorem ne_hat {h n : Nat} {v v' : Value} (hat : v'.ownBlock = v.ownBlock ∨ v'.ownBlock = some n) (h1 : some h ≠ v.ownBlock) (h2 : h < n) : some h ≠ v'.ownBlock := by
  rcases hat with e | e
  · rw [e]; exact h1
  · rw [e]; intro h; have := Option.some.inj h; omega
theorem cellA {W X : World} {g : Nat} {z : Int} {c : UInt8} (hX : X.heap = (W.alloc (.cells #[.int .u8 z] 5)).heap) (hg : g = W.heap.size) (hz : z = c.toNat) : X.cell? ⟨g, 0, none⟩ = some (.int .u8 c.toNat) := by
  subst hg hz
  exact (blk_cell (by rw [hX]; exact blk_new _ _)).trans rfl
theorem cellB {W X : World} {o : Obj} {g : Nat} {z : Int} {c : UInt8} (hX : X.heap = ((W.alloc (.cells #[.int .u8 z] 5)).alloc o).heap) (hg : g = W.heap.size) (hz : z = c.toNat) : X.cell? ⟨g, 0, none⟩ = some (.int .u8 c.toNat) := by
  subst hg hz
  exact (blk_cell (by rw [hX]; exact blk_alloc (blk_new _ _) _)).trans rfl
/-- append of one byte, at a step of a region that draws its order -/
theorem stepA {ops : Array Oper} {o : Oper} {a : Act} {w : World} {K : Act → World → Prop} {Q : Exit → Act → World → Prop} {E : Prop} (hgd : o.guard = none) (s x : Operand)
    (ho : o.op = .call { callee := .builtin .append, args := #[s, x], argTypes := #[61, 61] }) (w1 : World) (v : Value) (l : Bs) (c : UInt8) (h : Nat)
    (hs : a.eval s = v) (hx : a.eval x = .slice (some ⟨h, 0, none⟩) 1 1) (hown : w.ownsRow w1.heap.size 5 1 v l.length (Lib.byteCells l)) (hE : Ext w1 w) (hc : w.cell? ⟨h, 0, none⟩ = some (.int .u8 c.toNat)) (hl : l.length ≤ 5000000)
    (k : ∀ v' w', w'.ownsRow w1.heap.size 5 1 v' (l ++ [c]).length (Lib.byteCells (l ++ [c])) → Ext w1 w' → (∀ ad u, w.cell? ad = some u → some ad.block ≠ v.ownBlock → w'.cell? ad = some u) → (v'.ownBlock = v.ownBlock ∨ v'.ownBlock = some w.heap.size) → K (a.put o.dst v') w') :
    if Region.wanted o (yielded ops a.tmps) = true then Oper.wp Tryd.prog o a w K Q else E := by
  obtain ⟨i0, hi, hz0, hz1, hz2⟩ := info_parts infoU8
  refine step_append_lies w hgd s x 61 ho w1.heap.size 5 i0 (.int .u8 0) 1 1 Tryd.underlying61 hi hz0 hz1 hz2 rfl (by decide) v l.length (Lib.byteCells l) hs hown ⟨h, 0, none⟩ 1 1 [.int .u8 (c.toNat : Int)] hx rfl ?_ ?_ (by decide) (by unfold maxLen; omega) (by omega) hE.size w.heap.size rfl ?_
  · intro j u hj
    match j, hj with
    | 0, hj => simp at hj; subst hj; exact hc
  · intro u hu; simp at hu; subst hu; rfl
  · intro g cap w' hown' hgr hat hlt
    refine k _ w' ?_ (Ow.ext_grown hE hgr hown (Nat.le_refl _)) (fun ad u h1 h2 => ?_) (hat.imp (fun e => by rw [e]; rfl) (fun e => by rw [e]; rfl))
    · rw [Lib.byteCells_append, List.length_append]; exact hown'
    · rw [hgr.cell_far ad (block_lt_of_cell h1) h2]; exact h1
/-- append of a text -/
theorem stepS {ops : Array Oper} {o : Oper} {a : Act} {w : World} {K : Act → World → Prop} {Q : Exit → Act → World → Prop} {E : Prop} (hgd : o.guard = none) (s x : Operand)
    (ho : o.op = .call { callee := .builtin .append, args := #[s, x], argTypes := #[61, 9] }) (w1 : World) (v : Value) (l t : Bs)
    (hs : a.eval s = v) (hx : a.eval x = .string ⟨t.toArray⟩) (hown : w.ownsRow w1.heap.size 5 1 v l.length (Lib.byteCells l)) (hE : Ext w1 w) (hl : l.length + t.length ≤ 5000000)
    (k : ∀ v' w', w'.ownsRow w1.heap.size 5 1 v' (l ++ t).length (Lib.byteCells (l ++ t)) → Ext w1 w' → (∀ ad u, w.cell? ad = some u → some ad.block ≠ v.ownBlock → w'.cell? ad = some u) → K (a.put o.dst v') w') :
    if Region.wanted o (yielded ops a.tmps) = true then Oper.wp Tryd.prog o a w K Q else E := by
  obtain ⟨i0, hi, hz0, hz1, hz2⟩ := info_parts infoU8
  have hw : Region.wanted o (yielded ops a.tmps) = true := by simp [Region.wanted, hgd]
  rw [if_pos hw]
  have hsz : (⟨t.toArray⟩ : ByteArray).size = t.length := by show t.toArray.size = _; simp
  obtain ⟨v', w', hr, h2, h3, -⟩ := Lib.run_append_own_string (P := Tryd.prog) w w1.heap.size 61 9 o.type 5 i0 Tryd.underlying61 Tryd.underlying9 hi hz0 hz1 hz2 v l.length (Lib.byteCells l) hown ⟨t.toArray⟩ (by unfold maxLen; omega) (by omega) hE.size
  unfold Oper.wp execOp
  simp only [ho, resolve, invoke, builtin, Sem.run_bind, Sem.run_pure, Result.andThen_ok, List.map_toArray, List.map_cons, List.map_nil, hs, hx, hr]
  refine k v' w' ?_ (Ow.ext_grown hE h3 hown (Nat.le_refl _)) (fun ad u h1 h2 => ?_)
  · rw [Lib.byteCells_append, List.length_append, ← hsz]; exact h2
  · rw [h3.cell_far ad (block_lt_of_cell h1) h2]; exact h1
/-- what named answers -/
def namedB (s : ByteArray) : Bool := Lib.validD (bs s) && !(bs s).isEmpty
def namedV (s : ByteArray) : Value := .tuple #[.string ⟨(if namedB s then quoteS s else []).toArray⟩, .bool (namedB s)]
set_option maxHeartbeats 4000000 in
set_option maxRecDepth 100000 in
theorem named_c (s : ByteArray) (w : World) (hs : s.size ≤ 1000000) :
    Calls Tryd.prog 22 #[.string s] w fun e w' => e = .returned (namedV s) ∧ Ext w w' := by
  have HSP := Lib.hid (Spots_c s w hs)
  go_enter Tryd.func22, Tryd.ntmps22
  go_wp2_with fail
  go_at_call 38
  refine HSP.out.mono ?_
  rintro e w1 ⟨v, xs, rfl, ho, hsp, hlen, hx1⟩
  obtain ⟨base, cap, rfl, hrow⟩ := own_form ho
  clear HSP
  go_wp2
  go_loopw [5, 6] (fun b i wr => ∃ (k : Nat) (out : Bs), k ≤ xs.length ∧ i = .int .i64 k ∧ wr.ownsRow w1.heap.size 5 1 b out.length (Lib.byteCells out) ∧ Hid (RelN s xs k out) ∧ Ext w1 wr) (fun _ i _ => xs.length - (intOf i).toNat)
  case atStart => exact ⟨0, [], by omega, rfl, World.ownsRow_nil _ _ _ _, Lib.hid (relN_start hsp), But.refl _ _⟩
  case round =>
    obtain ⟨k, out, hk, rfl, hb, HR, hx⟩ := hrel
    by_cases hlt : k < xs.length
    · obtain ⟨g, rfl, hBg, hgl, hcap, hcells⟩ := hrow (by omega)
      have hcw : w1.cell? ⟨g, k * 4, none⟩ = some (.int .i32 xs[k].r) := hcells (k * 4 + 0) _ (spCells_get hlt (by decide))
      have hc0 : wr.cell? ⟨g, k * 4, none⟩ = some (.int .i32 xs[k].r) := hx.cell (hcells (k * 4 + 0) _ (spCells_get hlt (by decide))) (fun h => h)
      have hc3 := (hx.cell (hcells (k * 4 + 3) _ (spCells_get hlt (by decide))) (fun h => h))
      obtain ⟨x, hxk⟩ : ∃ x, xs[k] = x := ⟨_, rfl⟩
      have HR2 := fun h => relN_next HR.out hlt h
      have HR1 := fun h => relN_bad HR.out hlt h
      have hol := relN_len HR.out
      rw [hxk] at hcw hc0 hc3 HR1 HR2
      have HRR2 := Lib.hid HR2
      have HRR1 := Lib.hid HR1
      obtain ⟨r, pos, n, bad⟩ := x
      clear HR1 HR2 hcells
      cases bad with
      | true =>
        have hnb : Hid (namedB s = false) := Lib.hid (by unfold namedB; rw [HRR1.out rfl]; rfl)
        clear HRR1 HRR2
        go_wp2
        go_ret2
        exact ⟨by unfold namedV; rw [hnb.out]; rfl, hx1.trans hx⟩
      | false =>
        obtain ⟨hrn, hnext⟩ := HRR2.out rfl
        have HNX := Lib.hid hnext
        clear HRR1 HRR2 hnext
        obtain ⟨i0, hi, hz0, hz1, hz2⟩ := info_parts infoU8
        cases hh : hiddenB (r : Int) with
        | false =>
          have hwl := wid_le r
          have hlen1 := wid_len hrn
          have hq : Hid (quoteR r = Lib.encodeRune r) := Lib.hid (by unfold quoteR; rw [hh]; rfl)
          have HB := Lib.hid (Bytes_c r hrn)
          have HH := Lib.hid (hidden_c (r : Int))
          rw [hh] at HH
          have hxA : Ext wr (wr.alloc (.cells (Lib.runeCells r).toArray 5)) := (But.refl _ _).alloc _
          have hbA := Ow.own_keep hb hxA (fun _ _ h => h)
          obtain ⟨Wd, hWd⟩ : ∃ Wd, widN r = Wd := ⟨_, rfl⟩
          unfold BytesR at HB
          rw [hWd] at HB hwl hlen1
          clear hh hrn hWd
          go_wp2_with (first
            | (go_at_call 39; refine (HH.out _).mono ?_; rintro e3 w3 ⟨rfl, rfl⟩)
            | (go_at_call 41; refine (HB.out _).mono ?_; rintro e4 w4 ⟨rfl, rfl⟩)
            | (at_builtin; refine wpList_append_own_at _ rfl _ _ 61 rfl w1.heap.size 5 i0 (.int .u8 0) 1 1 Tryd.underlying61 hi hz0 hz1 hz2 rfl (by decide) _ _ _ rfl hbA ⟨wr.heap.size, 0, none⟩ Wd Wd (Lib.runeCells r) rfl hlen1 (news_row _ _ _ rfl) ?c2 ?c3 ?c4 ?c5 ?_))
          case c2 => intro u hu; unfold Lib.runeCells at hu; obtain ⟨z, -, rfl⟩ := List.mem_map.1 hu; rfl
          case c3 => unfold maxLen; omega
          case c4 => omega
          case c5 =>
            have h1 := hx.size
            simp; omega
          intro v' w2 hown hgrow _ hvb
          have hx2 : Ext w1 w2 := Ow.ext_grown (hx.trans hxA) hgrow hbA (Nat.le_refl _)
          have hown2 : w2.ownsRow w1.heap.size 5 1 v' (out ++ quoteR r).length (Lib.byteCells (out ++ quoteR r)) := by
            rw [hq.out, Lib.byteCells_append, Lib.byteCells_encodeRune, List.length_append, ← Lib.runeCells_length, hlen1, Nat.mul_one]
            exact hown
          clear hown hgrow hbA hxA
          go_wp2
          go_roundw
          case rel => exact ⟨k + 1, out ++ quoteR r, by omega, by go_num, hown2, HNX, hx2⟩
          case measure => simp [intOf]; omega
        | true =>
          have hr8 : r < 128 := by unfold hiddenB at hh; simp at hh; omega
          have hq : Hid (quoteR r = spell r) := Lib.hid (by unfold quoteR; rw [hh]; rfl)
          have HX := Lib.hid (hex_c r hr8)
          have HH := Lib.hid (hidden_c (r : Int))
          rw [hh] at HH
          clear hh hrn
          go_wp2_with (go_at_call 39; refine (HH.out _).mono ?_; rintro e3 w3 ⟨rfl, rfl⟩)
          have HE : Hid (out ++ quoteR r = out ++ [92] ++ hexS r ++ [59]) := Lib.hid (by rw [hq.out]; simp [spell])
          have hl1 : (hexS r).length ≤ 2 := by unfold hexS; split <;> simp
          have hl2 : out.length ≤ 4999990 := by omega
          have hol1 : ∀ {X : World}, Ext wr X → X.ownsRow w1.heap.size 5 1 u5 out.length (Lib.byteCells out) := fun hX => Ow.own_keep hb hX (fun _ _ h => h)
          clear hol
          go_region_held3 (fun w' => w'.cell? ⟨g, k * 4, none⟩ = some (.int .i32 r)) (first | go_keep | exact hE1.cell hcw (fun h => h) | exact hE2.cell hcw (fun h => h) | exact hE3.cell hcw (fun h => h))
            (first
              | (go_at_call 40; refine (HX.out _).mono ?_; rintro e5 w5 ⟨rfl, nh, rfl⟩)
              | ((refine stepA (by rfl) (.tmp 26) (.tmp 27) (by rfl) w1 u5 out 92 _ (by rfl) (by rfl) (hol1 (by repeat (first | exact But.refl _ _ | refine But.alloc ?_ _ | refine But.drew ?_))) (hx.trans (by repeat (first | exact But.refl _ _ | refine But.alloc ?_ _ | refine But.drew ?_))) (by first | exact cellA rfl (by simp) rfl | exact cellB rfl (by simp) rfl) (by omega) ?_; intro v1 w2 hown1 hE1 hfar1 hat1))
              | ((refine stepS (by rfl) (.tmp 28) (.tmp 34) (by rfl) w1 _ _ (hexS r) (by rfl) (by rfl) (Ow.own_keep hown1 (by repeat (first | exact But.refl _ _ | refine But.alloc ?_ _ | refine But.drew ?_ | refine But.drewN ?_ _)) (fun _ _ h => h)) (hE1.trans (by repeat (first | exact But.refl _ _ | refine But.alloc ?_ _ | refine But.drew ?_ | refine But.drewN ?_ _))) (by simp; omega) ?_; intro v2 w3 hown2 hE2 hfar2))
              | ((refine stepA (by rfl) (.tmp 35) (.tmp 36) (by rfl) w1 _ _ 59 _ (by rfl) (by rfl) (Ow.own_keep hown2 (by repeat (first | exact But.refl _ _ | refine But.alloc ?_ _ | refine But.drew ?_)) (fun _ _ h => h)) (hE2.trans (by repeat (first | exact But.refl _ _ | refine But.alloc ?_ _ | refine But.drew ?_))) (by first | exact cellA rfl (by simp) rfl | exact hfar2 _ _ (cellA rfl (by simp) rfl) (fun e => by have := (Ow.own_lt hown1 e.symm).2; simp at this; try omega) | exact hfar2 _ _ (hfar1 _ _ (cellA rfl (by simp) rfl) (fun e => by have := (Ow.own_lt hb e.symm).2; simp at this; try omega)) (ne_hat hat1 (fun e => by have := (Ow.own_lt hb e.symm).2; simp at this; try omega) (by simp <;> omega)) | exact hfar2 _ _ (hfar1 _ _ (cellB rfl (by simp) rfl) (fun e => by have := (Ow.own_lt hb e.symm).2; simp at this; try omega)) (ne_hat hat1 (fun e => by have := (Ow.own_lt hb e.symm).2; simp at this; try omega) (by simp <;> omega))) (by simp; omega) ?_; intro v3 w4 hown3 hE3 hfar3 hat3)))
          all_goals
            have hown4 : w4.ownsRow w1.heap.size 5 1 v3 (out ++ quoteR r).length (Lib.byteCells (out ++ quoteR r)) := by rw [HE.out]; exact hown3
            clear hown1 hown2 hown3 hfar1 hfar2 hfar3 hat1 hat3 hE1 hE2 HX HH hol1 hc0 hc3 hcw
            go_wp2
            go_roundw
            case rel => exact ⟨k + 1, out ++ quoteR r, by omega, by go_num, hown4, HNX, hE3⟩
            case measure => simp [intOf]; omega
    · obtain rfl : k = xs.length := by omega
      have HF := Lib.hid (relN_end HR.out)
      have hconv := conv_own hb
      by_cases hz : xs.length = 0
      · have hnb : Hid (namedB s = false) := Lib.hid (by
          have : bs s = [] := by
            have e : xs = [] := List.eq_nil_of_length_eq_zero hz
            rw [e] at hsp; exact hsp
          unfold namedB; rw [this]; simp)
        have ho2 : Hid (out = []) := Lib.hid (by
          have e : bs s = [] := by
            have e : xs = [] := List.eq_nil_of_length_eq_zero hz
            rw [e] at hsp; exact hsp
          have h0 : s.size = 0 := by rw [← bs_len, e]; rfl
          rw [← HF.out.2, quoteS_D, e, quoteD_nil])
        clear HF HR hrow
        go_wp2
        go_ret2
        exact ⟨by unfold namedV; rw [hnb.out, ho2.out]; rfl, hx1.trans hx⟩
      · have hz2 : 0 < (xs.length : Int) := by omega
        have hz3 : 0 < xs.length := by omega
        have hnb : Hid (namedB s = true) := Lib.hid (by
          have : bs s ≠ [] := by
            cases hxs : xs with
            | nil => rw [hxs] at hz; exact absurd rfl hz
            | cons x t => rw [hxs] at hsp; exact hsp.1
          unfold namedB; rw [HF.out.1]; cases hb : bs s with
          | nil => exact absurd hb this
          | cons a b => rfl)
        have ho2 : Hid (quoteS s = out) := Lib.hid HF.out.2
        clear HF HR hrow
        go_wp2
        go_ret2
        exact ⟨by unfold namedV; rw [hnb.out, ho2.out]; rfl, hx1.trans hx⟩
end Lm
end Go.Proofs.YtlgagbglldehjaaDoor
/- what the walks of guiseref22.Line lean on. -/
namespace Go.Proofs.YtlgagbglldehjaaDoor
set_option linter.unusedVariables false
set_option linter.unusedSimpArgs false
open Go Go.RowKit Pj Fe St Gh Ln Lm
namespace Lq
theorem named_t {s : ByteArray} (h : namedB s = true) : bs s ≠ [] ∧ Lib.validD (bs s) = true := by
  unfold namedB at h
  simp only [Bool.and_eq_true, Bool.not_eq_true', List.isEmpty_eq_false_iff] at h
  exact ⟨h.2, h.1⟩
theorem named_f {s : ByteArray} (h : namedB s = false) : bs s = [] ∨ Lib.validD (bs s) = false := by
  unfold namedB at h
  cases hv : Lib.validD (bs s) with
  | false => exact .inr rfl
  | true =>
    rw [hv] at h
    refine .inl ?_
    cases hb : bs s with
    | nil => rfl
    | cons a b => rw [hb] at h; cases h
theorem namedV_t {s : ByteArray} (h : namedB s = true) : namedV s = .tuple #[.string ⟨(quoteS s).toArray⟩, .bool true] := by
  unfold namedV; rw [h]; rfl
theorem namedV_f {s : ByteArray} (h : namedB s = false) : namedV s = .tuple #[.string ⟨#[]⟩, .bool false] := by
  unfold namedV; rw [h]; rfl
end Lq
end Go.Proofs.YtlgagbglldehjaaDoor
