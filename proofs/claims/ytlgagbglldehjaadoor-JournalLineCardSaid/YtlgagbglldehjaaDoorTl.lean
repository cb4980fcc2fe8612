/- Numbers and names, there and back: plain. -/
import Derived.Test.YtlgagbglldehjaaDoorFe
namespace Go.Proofs.YtlgagbglldehjaaDoor
set_option linter.unusedVariables false
set_option linter.unusedSimpArgs false
open Pj Rf St Es Nm Rp Fe
namespace Th
/-! ### numbers -/
def isDig (c : UInt8) : Prop := 48 ≤ c.toNat ∧ c.toNat ≤ 57
/-- the number that digits write, behind one -/
def valD (m : Nat) (l : Bs) : Nat := l.foldl (fun a c => 10 * a + (c.toNat - 48)) m
theorem valD_nil (m : Nat) : valD m [] = m := rfl
theorem valD_cons (m : Nat) (c : UInt8) (l : Bs) : valD m (c :: l) = valD (10 * m + (c.toNat - 48)) l := by unfold valD; rw [List.foldl_cons]
theorem valD_ge (l : Bs) : ∀ m : Nat, m ≤ valD m l := by
  induction l with
  | nil => intro m; rw [valD_nil]; exact Nat.le_refl m
  | cons c l ih => intro m; rw [valD_cons]; exact Nat.le_trans (by omega) (ih _)
theorem valD_snoc (l : Bs) (m : Nat) (c : UInt8) : valD m (l ++ [c]) = 10 * valD m l + (c.toNat - 48) := by
  unfold valD; rw [List.foldl_append, List.foldl_cons, List.foldl_nil]
theorem num_go {t : Bs} (ht : ∀ c u, t = c :: u → ¬ isDig c) : ∀ (ds : Bs) (k m : Nat), (∀ c ∈ ds, isDig c) → valD m ds < 18446744073709551616 → numL false k m (ds ++ t) = (valD m ds, k + ds.length, k + ds.length == 0)
  | [], k, m, _, _ => by
    rw [List.nil_append]
    cases t with
    | nil => rw [numL_nil]; simp [valD_nil]
    | cons c u =>
      have := ht c u rfl
      unfold isDig at this
      rw [numL_end u (by omega)]; simp [valD_nil]
  | c :: ds, k, m, hd, hv => by
    have hc := hd c (by simp)
    rw [valD_cons] at hv
    have hge := valD_ge ds (10 * m + (c.toNat - 48))
    unfold isDig at hc
    rw [List.cons_append, numL_go (ds ++ t) (by omega) (by omega) (by rintro ⟨_, h2⟩; cases h2) (by omega), num_go ht ds (k + 1) _ (fun d h => hd d (by simp [h])) hv, valD_cons, List.length_cons, show k + 1 + ds.length = k + (ds.length + 1) by omega]
theorem dec_small {n : Nat} (h : n < 10) : Lib.decDigits n = [UInt8.ofNat (48 + n)] := by rw [Lib.decDigits, dif_pos h]
theorem dec_big {n : Nat} (h : ¬ n < 10) : Lib.decDigits n = Lib.decDigits (n / 10) ++ [UInt8.ofNat (48 + n % 10)] := by rw [Lib.decDigits, dif_neg h]
theorem dig_of {n : Nat} (h : n < 10) : (UInt8.ofNat (48 + n)).toNat = 48 + n := by simp; omega
theorem dec_spec : ∀ (f n : Nat), n ≤ f → (∀ c ∈ Lib.decDigits n, isDig c) ∧ valD 0 (Lib.decDigits n) = n ∧ Lib.decDigits n ≠ [] ∧ (0 < n → (Lib.decDigits n).head? ≠ some 48)
  | 0, n, h => by
    obtain rfl : n = 0 := by omega
    rw [dec_small (by omega)]
    exact ⟨fun c hc => by rw [List.mem_singleton.1 hc]; unfold isDig; rw [dig_of (by omega)]; omega, rfl, by simp, by omega⟩
  | f + 1, n, h => by
    by_cases h10 : n < 10
    · rw [dec_small h10]
      refine ⟨fun c hc => by rw [List.mem_singleton.1 hc]; unfold isDig; rw [dig_of h10]; omega, by rw [valD_cons, valD_nil, dig_of h10]; omega, by simp, fun h0 e => ?_⟩
      simp only [List.head?_cons, Option.some.injEq] at e
      have := dig_of h10
      rw [e] at this
      simp at this; omega
    · obtain ⟨h1, h2, h3, h4⟩ := dec_spec f (n / 10) (by omega)
      rw [dec_big h10]
      refine ⟨fun c hc => ?_, by rw [valD_snoc, h2, dig_of (by omega)]; omega, by simp, fun _ => ?_⟩
      · rcases List.mem_append.1 hc with hc | hc
        · exact h1 c hc
        · rw [List.mem_singleton.1 hc]; unfold isDig; rw [dig_of (by omega)]; omega
      · have := h4 (by omega)
        cases hd : Lib.decDigits (n / 10) with
        | nil => exact absurd hd h3
        | cons a t => rw [hd] at this; simpa using this
theorem num_dec {n : Nat} (hn : n < 18446744073709551616) {t : Bs} (ht : ∀ c u, t = c :: u → ¬ isDig c) : numR (Lib.decDigits n ++ t) = (n, (Lib.decDigits n).length, false) := by
  obtain ⟨h1, h2, h3, h4⟩ := dec_spec n n (Nat.le_refl _)
  rcases Nat.eq_zero_or_pos n with h0 | h0
  · subst h0
    rw [dec_small (by omega)]
    show numL true 0 0 (48 :: t) = (0, 1, false)
    rw [numL_go t (by decide) (by decide) (by simp) (by decide)]
    cases t with
    | nil => rfl
    | cons c u =>
      have := ht c u rfl
      unfold isDig at this
      rw [numL_end u (by omega)]; rfl
  · have hz : zeroB (Lib.decDigits n ++ t) = false := by
      have := h4 h0
      cases hd : Lib.decDigits n with
      | nil => exact absurd hd h3
      | cons a u => rw [hd] at this; simpa [zeroB] using this
    unfold numR
    rw [hz, num_go ht _ 0 0 h1 (by rw [h2]; exact hn), h2]
    have : (Lib.decDigits n).length ≠ 0 := fun e => h3 (List.eq_nil_of_length_eq_zero e)
    simp [this]
theorem num_inv (z : Bool) : ∀ (l : Bs) (k m n' k' : Nat), numL z k m l = (n', k', false) → k ≤ k' ∧ k' - k ≤ l.length ∧ (∀ c ∈ l.take (k' - k), isDig c) ∧ valD m (l.take (k' - k)) = n' ∧ (m < 18446744073709551616 → n' < 18446744073709551616) ∧ (z = true → k' ≤ max 1 k) ∧ 0 < k'
  | [], k, m, n', k', h => by
    rw [numL_nil] at h
    simp only [Prod.mk.injEq, beq_eq_false_iff_ne] at h
    obtain ⟨rfl, rfl, h0⟩ := h
    exact ⟨Nat.le_refl _, by omega, by simp, by simp [valD_nil], id, fun _ => by omega, by omega⟩
  | c :: l, k, m, n', k', h => by
    rcases dig_parts c with hd | ⟨h1, h2⟩
    · rw [numL_end l (by omega)] at h
      simp only [Prod.mk.injEq, beq_eq_false_iff_ne] at h
      obtain ⟨rfl, rfl, h0⟩ := h
      exact ⟨Nat.le_refl _, by omega, by simp, by simp [valD_nil], id, fun _ => by omega, by omega⟩
    · by_cases hb : (0 < k ∧ z = true) ∨ (18446744073709551615 - (c.toNat - 48)) / 10 < m
      · rw [numL_bad l (by omega) (by omega) (by rcases hb with h | h; exact .inl h; right; omega)] at h
        cases h
      · rw [numL_go l (by omega) (by omega) (fun e => hb (.inl e)) (by have : ¬ (18446744073709551615 - (c.toNat - 48)) / 10 < m := fun e => hb (.inr e); omega)] at h
        obtain ⟨i1, i2, i3, i4, i5, i6, i7⟩ := num_inv z l _ _ n' k' h
        have e3 : k' - k = (k' - (k + 1)) + 1 := by omega
        rw [e3, List.take_succ_cons]
        refine ⟨by omega, by simp; omega, fun d hd => ?_, by rw [valD_cons]; exact i4, fun hm => i5 ?_, fun hz => ?_, i7⟩
        · rcases List.mem_cons.1 hd with rfl | hd
          · exact ⟨h1, h2⟩
          · exact i3 d hd
        · have : ¬ (18446744073709551615 - (c.toNat - 48)) / 10 < m := fun e => hb (.inr e)
          omega
        · have := i6 hz
          have h0 : ¬ 0 < k := fun e => hb (.inl ⟨e, hz⟩)
          omega
theorem dec_canon : ∀ (f : Nat) (ds : Bs), ds.length ≤ f → ds ≠ [] → (∀ c ∈ ds, isDig c) → (ds.head? = some 48 → ds.length = 1) → Lib.decDigits (valD 0 ds) = ds
  | 0, ds, hl, hne, _, _ => absurd (List.eq_nil_of_length_eq_zero (by omega)) hne
  | f + 1, ds, hl, hne, hd, hh => by
    rcases List.eq_nil_or_concat ds with e | ⟨es, d, e⟩
    · exact absurd e hne
    · rw [List.concat_eq_append] at e
      subst e
      have hdd := hd d (by simp)
      unfold isDig at hdd
      have e8 : ∀ x : Nat, x = d.toNat - 48 → UInt8.ofNat (48 + x) = d := fun x hx => by
        apply UInt8.toNat_inj.1
        rw [dig_of (by omega)]; omega
      rw [valD_snoc]
      cases hes : es with
      | nil =>
        rw [List.nil_append, valD_nil, Nat.mul_zero, Nat.zero_add, dec_small (by omega), e8 _ rfl]
      | cons a t =>
        rw [← hes]
        have hne2 : es ≠ [] := by rw [hes]; simp
        have hh2 : es.head? ≠ some 48 := fun e => by
          have := hh (by rw [hes] at e ⊢; simpa using e)
          rw [hes] at this; simp at this
        have ih := dec_canon f es (by simp at hl; omega) hne2 (fun c hc => hd c (by simp [hc])) (fun e => absurd e hh2)
        have hv : 0 < valD 0 es := by
          rcases Nat.eq_zero_or_pos (valD 0 es) with h0 | h0
          · exfalso; apply hh2; rw [← ih, h0, dec_small (by omega)]; rfl
          · exact h0
        rw [dec_big (by omega), show (10 * valD 0 es + (d.toNat - 48)) / 10 = valD 0 es by omega, ih, e8 _ (by omega)]
theorem num_back {l : Bs} {n k : Nat} (h : numR l = (n, k, false)) : k ≤ l.length ∧ l.take k = Lib.decDigits n ∧ n < 18446744073709551616 := by
  obtain ⟨i1, i2, i3, i4, i5, i6, i7⟩ := num_inv _ l 0 0 n k h
  rw [Nat.sub_zero] at i2 i3 i4
  refine ⟨i2, ?_, i5 (by omega)⟩
  rw [← i4, dec_canon _ _ (Nat.le_refl _) ?_ i3 ?_]
  · intro e
    have := congrArg List.length e
    rw [List.length_take, List.length_nil] at this
    omega
  · intro e
    have hz : zeroB l = true := by
      cases l with
      | nil => simp at i2; omega
      | cons a t =>
        obtain ⟨k, rfl⟩ : ∃ j, k = j + 1 := ⟨k - 1, by omega⟩
        simpa [zeroB] using e
    have := i6 hz
    rw [List.length_take]; omega

/-! ### names -/
/-- what a name is written as -/
def quoteD : Nat → Bs → Bs
  | 0, _ => []
  | f + 1, l => if l = [] then [] else quoteR (Lib.decodeL l).1 ++ quoteD f (l.drop (Lib.decodeL l).2)
theorem quoteFrom_D (s : ByteArray) : ∀ (f pos : Nat), quoteFrom s f pos = quoteD f ((bs s).drop pos)
  | 0, _ => rfl
  | f + 1, pos => by
    rw [quoteFrom, quoteD]
    by_cases h : pos < s.size
    · rw [if_pos h, if_neg]
      · rw [quoteFrom_D s f, show Lib.decodeL ((bs s).drop pos) = Utf8.decode s pos from Lib.decodeL_drop s pos, List.drop_drop]
      · intro e
        have := congrArg List.length e
        rw [List.length_drop, bs_len] at this
        simp at this; omega
    · rw [if_neg h, if_pos (bs_drop_nil s pos (by omega))]
theorem quoteS_D (s : ByteArray) : quoteS s = quoteD s.size (bs s) := by rw [quoteS, quoteFrom_D, List.drop_zero]
theorem hid_mem {c : Nat} (h : hiddenB (c : Int) = true) : c ∈ hids := by
  have := hid_hidden h
  simp [hids, hidsTo, h]; omega
theorem take_good {c : UInt8} {u t : Bs} (hg : goodB c (c :: u)) (h2 : 2 ≤ szB c) (h4 : szB c ≤ 4) : ∃ v, (c :: u).take (szB c) = c :: v ∧ goodB c (c :: (v ++ t)) ∧ (c :: v).length = szB c := by
  obtain ⟨g1, g2, g3, g4⟩ := hg
  refine ⟨u.take (szB c - 1), ?_, ?_, ?_⟩
  · obtain ⟨k, hk⟩ : ∃ k, szB c = k + 1 := ⟨szB c - 1, by omega⟩
    rw [hk, List.take_succ_cons]; rfl
  · have hl : szB c - 1 ≤ u.length := by simp at g1; omega
    have key : ∀ j, j + 1 < szB c → (c :: (u.take (szB c - 1) ++ t)).getD (j + 1) 0 = (c :: u).getD (j + 1) 0 := fun j hj => by
      rw [List.getD_eq_getElem?_getD, List.getD_eq_getElem?_getD, List.getElem?_cons_succ, List.getElem?_cons_succ, List.getElem?_append_left (by rw [List.length_take]; omega), List.getElem?_take_of_lt (by omega)]
    refine ⟨by simp; omega, by rw [key 0 (by omega)]; exact g2, fun h => by rw [key 1 (by omega)]; exact g3 h, fun h => by rw [key 2 (by omega)]; exact g4 h⟩
  · rw [List.length_cons, List.length_take]; simp at g1; omega
/-- a rune of a name, written -/
theorem step_quote {u t : Bs} (hne : u ≠ []) (hv : ¬ ((Lib.decodeL u).1 = 65533 ∧ (Lib.decodeL u).2 = 1)) : nameStep (quoteR (Lib.decodeL u).1 ++ t) = some (u.take (Lib.decodeL u).2, (quoteR (Lib.decodeL u).1).length, false) := by
  cases u with
  | nil => exact absurd rfl hne
  | cons c u =>
    rcases (by omega : c.toNat < 128 ∨ 128 ≤ c.toNat) with hc | hc
    · have hd := Lib.decodeL_ascii c u hc
      rw [hd]
      dsimp only
      by_cases hh : hiddenB (c.toNat : Int) = true
      · have hm := hid_mem hh
        have hw : spell c.toNat ∈ spells := List.mem_map.2 ⟨_, hm, rfl⟩
        obtain ⟨j, h1, h2⟩ := idx_first spells _ hw
        have hj : j < spells.length := (List.getElem?_eq_some_iff.1 h1).1
        have hu := unspell_at j hj
        rw [List.getD_eq_getElem?_getD, h1, Option.getD_some, unspell_spell _ hm] at hu
        have hone := one_hit (l := t) spells_free h1 h2
        rw [show quoteR c.toNat = spell c.toNat from by unfold quoteR; rw [if_pos hh]]
        obtain ⟨r, hr⟩ : ∃ r, spell c.toNat ++ t = 92 :: r := ⟨hexS c.toNat ++ [59] ++ t, by simp [spell]⟩
        unfold nameStep
        rw [hone, hr, if_neg (by rintro (e | e); cases e; simp at e), Lib.decodeL_ascii 92 r (by decide), if_pos (by rfl)]
        dsimp only
        rw [← hu, enc_small hc]
        simp
      · have h32 : c ≠ 32 := fun e => hh (by subst e; decide)
        have h92 : c.toNat ≠ 92 := fun e => hh (by rw [e]; decide)
        rw [show quoteR c.toNat = [c] from by unfold quoteR; rw [if_neg hh, enc_small hc]; simp]
        unfold nameStep
        rw [List.singleton_append, if_neg (by rintro (e | e); cases e; exact h32 e), Lib.decodeL_ascii c t hc]
        dsimp only
        rw [if_neg h92, if_neg (by rintro ⟨e, -⟩; omega), if_neg hh, enc_small hc]
        simp
    · by_cases hl : leadB c
      · by_cases hg : goodB c (c :: u)
        · obtain ⟨d1, d2⟩ := dec_good hl hg
          have hb := sz_bd hl
          have hge := lead_ge hl
          have hq : quoteR (Lib.decodeL (c :: u)).1 = (c :: u).take (szB c) := by
            unfold quoteR
            rw [if_neg (by rw [not_hidden d2]; simp), Lib.encode_decode _ (by simp) hv, d1]
          obtain ⟨v, hv1, hv2, hv3⟩ := take_good (t := t) hg hb.1 hb.2
          obtain ⟨k1, k2⟩ := dec_good hl hv2
          rw [hq, d1, hv1, List.cons_append]
          have hnv : ¬ ((Lib.decodeL (c :: (v ++ t))).1 = 65533 ∧ (Lib.decodeL (c :: (v ++ t))).2 = 1) := by rintro ⟨-, e⟩; omega
          unfold nameStep
          rw [if_neg (by rintro (e | e); cases e; exact ge_ne32 hc e), if_neg (by omega), if_neg hnv, if_neg (by rw [not_hidden k2]; simp), Lib.encode_decode _ (by simp) hnv, k1, ← hv3]
          rw [show (c :: (v ++ t)).take (c :: v).length = c :: v from by rw [← List.cons_append, List.take_left]]
        · exact absurd (by rw [dec_bad hl hg]; exact ⟨rfl, rfl⟩) hv
      · exact absurd (by rw [dec_none u hc hl]; exact ⟨rfl, rfl⟩) hv
theorem quoteD_nil : ∀ f, quoteD f [] = []
  | 0 => rfl
  | f + 1 => by simp [quoteD]
theorem quoteR_pos (u : Bs) (hne : u ≠ []) (hv : ¬ ((Lib.decodeL u).1 = 65533 ∧ (Lib.decodeL u).2 = 1)) : quoteR (Lib.decodeL u).1 ≠ [] := fun e => by
  have := step_quote (t := [32]) hne hv
  rw [e] at this
  simp [nameStep] at this
/-- a name that is written is read -/
theorem name_there {t : Bs} (ht : t = [] ∨ t.head? = some 32) : ∀ (G : Nat) (u : Bs) (F : Nat), u.length ≤ G → Lib.validD u = true → (quoteD G u ++ t).length ≤ F → nameL F (quoteD G u ++ t) = (u, (quoteD G u).length, false) := by
  have hend : nameStep t = none := by
    rcases ht with rfl | h
    · simp [nameStep]
    · cases t with
      | nil => cases h
      | cons c t => have : c = 32 := by simpa using h
                    subst this; simp [nameStep]
  have hz : ∀ F, nameL F t = ([], 0, false) := fun F => by
    cases F with
    | zero => rfl
    | succ F => simp only [nameL, hend]
  intro G
  induction G with
  | zero =>
    intro u F hl hv hF
    have : u = [] := List.eq_nil_of_length_eq_zero (by omega)
    subst this
    exact hz F
  | succ G ih =>
    intro u F hl hv hF
    by_cases hne : u = []
    · subst hne; rw [quoteD_nil] at hF ⊢; exact hz F
    · rw [Lib.validD_step u hne] at hv
      have hv1 : ¬ ((Lib.decodeL u).1 = 65533 ∧ (Lib.decodeL u).2 = 1) := fun e => by rw [if_pos e] at hv; cases hv
      rw [if_neg hv1] at hv
      have hw := Lib.decodeL_width u
      have hwl := Lib.decodeL_le u hne
      have hq : quoteD (G + 1) u = quoteR (Lib.decodeL u).1 ++ quoteD G (u.drop (Lib.decodeL u).2) := by rw [quoteD, if_neg hne]
      have hqp := List.length_pos_iff.2 (quoteR_pos u hne hv1)
      rw [hq, List.append_assoc] at hF ⊢
      have hst := step_quote (t := quoteD G (u.drop (Lib.decodeL u).2) ++ t) hne hv1
      rw [List.length_append] at hF
      obtain ⟨F, rfl⟩ : ∃ E, F = E + 1 := ⟨F - 1, by omega⟩
      have ih2 := ih (u.drop (Lib.decodeL u).2) F (by rw [List.length_drop]; omega) hv (by omega)
      rw [show nameL (F + 1) (quoteR (Lib.decodeL u).1 ++ (quoteD G (u.drop (Lib.decodeL u).2) ++ t)) = (u.take (Lib.decodeL u).2 ++ (nameL F ((quoteR (Lib.decodeL u).1 ++ (quoteD G (u.drop (Lib.decodeL u).2) ++ t)).drop (quoteR (Lib.decodeL u).1).length)).1,
          (quoteR (Lib.decodeL u).1).length + (nameL F ((quoteR (Lib.decodeL u).1 ++ (quoteD G (u.drop (Lib.decodeL u).2) ++ t)).drop (quoteR (Lib.decodeL u).1).length)).2.1,
          (nameL F ((quoteR (Lib.decodeL u).1 ++ (quoteD G (u.drop (Lib.decodeL u).2) ++ t)).drop (quoteR (Lib.decodeL u).1).length)).2.2) from by simp only [nameL, hst], List.drop_left, ih2, List.take_append_drop, List.length_append]
theorem oneL_inv {r : Bs} : ∀ (L : List Bs) (b i j n : Nat), oneL b i L r = (j, n, false) → ∃ w, L[j - i]? = some w ∧ i ≤ j ∧ n = w.length ∧ w <+: r
  | [], b, i, j, n, h => by cases h
  | s :: L, b, i, j, n, h => by
    by_cases hp : lcp s r = s.length
    · rw [oneL_hit b i L hp] at h
      simp only [Prod.mk.injEq, and_true] at h
      obtain ⟨rfl, rfl⟩ := h
      exact ⟨s, by simp, Nat.le_refl _, rfl, lcp_pre.1 hp⟩
    · rw [oneL_miss b i L hp] at h
      obtain ⟨w, h1, h2, h3, h4⟩ := oneL_inv L _ _ j n h
      refine ⟨w, ?_, by omega, h3, h4⟩
      rw [show j - i = (j - (i + 1)) + 1 by omega]; simpa using h1
theorem oneR_inv {L : List Bs} {r : Bs} {j n : Nat} (h : oneR L r = (j, n, false)) : ∃ w, L[j]? = some w ∧ n = w.length ∧ ∃ t, r = w ++ t := by
  obtain ⟨w, h1, -, h3, ⟨t, h4⟩⟩ := oneL_inv L 0 0 j n h
  exact ⟨w, by simpa using h1, h3, t, h4.symm⟩
theorem slow_good {c : UInt8} {w : Bs} (hl : leadB c) (hg : goodB c (c :: w)) : (Lib.decodeL (c :: w)).1 = if szB c ≤ 2 then c.toNat % 32 * 64 + ((c :: w).getD 1 0).toNat % 64 else if szB c ≤ 3 then c.toNat % 16 * 4096 + ((c :: w).getD 1 0).toNat % 64 * 64 + ((c :: w).getD 2 0).toNat % 64
    else c.toNat % 8 * 262144 + ((c :: w).getD 1 0).toNat % 64 * 4096 + ((c :: w).getD 2 0).toNat % 64 * 64 + ((c :: w).getD 3 0).toNat % 64 := by
  have hb := sz_bd hl
  obtain ⟨g1, g2, g3, g4⟩ := hg
  unfold okB at g2
  unfold contB at g3 g4
  rw [dec_lead _ hl]
  unfold Lib.slowN
  rw [if_neg (by omega), if_neg (by omega)]
  by_cases h2 : szB c ≤ 2
  · rw [if_pos h2, if_pos h2]
  · rw [if_neg h2, if_neg h2, if_neg (by have := g3 (by omega); omega)]
    by_cases h3 : szB c ≤ 3
    · rw [if_pos h3, if_pos h3]
    · rw [if_neg h3, if_neg h3, if_neg (by have := g4 (by omega); omega)]
/-- the rune hangs on the sequence's bytes alone -/
theorem dec_same {c : UInt8} {u v t : Bs} (hl : leadB c) (hg : goodB c (c :: u)) (hv2 : goodB c (c :: (v ++ t))) (hv1 : (c :: u).take (szB c) = c :: v) : (Lib.decodeL (c :: (v ++ t))).1 = (Lib.decodeL (c :: u)).1 := by
  have hb := sz_bd hl
  have hvl : v.length + 1 = szB c := by
    have := congrArg List.length hv1
    rw [List.length_take] at this
    have := hg.1
    simp at *; omega
  have key : ∀ j, j + 1 < szB c → (c :: (v ++ t)).getD (j + 1) 0 = (c :: u).getD (j + 1) 0 := fun j hj => by
    have h1 : ((c :: u).take (szB c))[j + 1]? = (c :: v)[j + 1]? := by rw [hv1]
    rw [List.getElem?_take_of_lt hj] at h1
    rw [List.getD_eq_getElem?_getD, List.getD_eq_getElem?_getD, h1, List.getElem?_cons_succ, List.getElem?_cons_succ, List.getElem?_append_left (by omega)]
  rw [slow_good hl hg, slow_good hl hv2, key 0 (by omega)]
  by_cases h2 : szB c ≤ 2
  · rw [if_pos h2, if_pos h2]
  · rw [if_neg h2, if_neg h2, key 1 (by omega)]
    by_cases h3 : szB c ≤ 3
    · rw [if_pos h3, if_pos h3]
    · rw [if_neg h3, if_neg h3, key 2 (by omega)]
/-- a step that is read is what is written for a rune -/
theorem step_back {l b : Bs} {n : Nat} (h : nameStep l = some (b, n, false)) : n ≤ l.length ∧ b.length ≤ n ∧ b ≠ [] ∧ ∃ r, (∀ t, Lib.decodeL (b ++ t) = (r, b.length)) ∧ ¬ (r = 65533 ∧ b.length = 1) ∧ quoteR r = l.take n := by
  cases l with
  | nil => simp [nameStep] at h
  | cons c u =>
    unfold nameStep at h
    split at h
    · cases h
    · split at h
      · simp only [Option.some.injEq, Prod.mk.injEq] at h
        obtain ⟨h1, h2, h3⟩ := h
        obtain ⟨w, g1, g2, t, g3⟩ := oneR_inv (L := spells) (r := c :: u) (j := (oneR spells (c :: u)).1) (n := (oneR spells (c :: u)).2.1) (by rw [← h3])
        have hj := (List.getElem?_eq_some_iff.1 g1).1
        have hu := unspell_at _ hj
        rw [List.getD_eq_getElem?_getD, g1, Option.getD_some] at hu
        obtain ⟨r, hr, rfl⟩ := List.mem_map.1 (List.mem_of_getElem? g1)
        rw [unspell_spell r hr] at hu
        rw [← hu] at h1
        have hr8 : r < 128 := by rw [hu]; exact hids_small _
        have hrh : hiddenB (r : Int) = true := by
          simp [hids, hidsTo] at hr
          exact hr.2
        rw [enc_small hr8] at h1
        subst h1
        have hrt : r.toUInt8.toNat = r := by simp; omega
        have hsl := (spells_head _ (List.mem_of_getElem? g1)).2.2
        rw [h2] at g2
        refine ⟨by rw [g2, g3]; simp, by simp; omega, by simp, r, fun t => by rw [List.singleton_append, Lib.decodeL_ascii _ t (by omega), hrt]; rfl, by omega, ?_⟩
        unfold quoteR
        rw [if_pos hrh, g2, g3, List.take_left]
      · split at h
        · cases h
        · split at h
          · cases h
          · rename_i hne h92 hbad hhid
            simp only [Option.some.injEq, Prod.mk.injEq, and_true] at h
            obtain ⟨h1, h2⟩ := h
            rw [Lib.encode_decode _ (by simp) hbad] at h1
            have hle := Lib.decodeL_le (c :: u) (by simp)
            have hw := Lib.decodeL_width (c :: u)
            rw [h2] at h1 hle hw
            have hbl : b.length = n := by rw [← h1, List.length_take]; omega
            refine ⟨hle, by omega, fun e => by rw [e] at hbl; simp at hbl; omega, (Lib.decodeL (c :: u)).1, fun t => ?_, by rw [hbl, ← h2]; exact hbad, ?_⟩
            · rcases (by omega : c.toNat < 128 ∨ 128 ≤ c.toNat) with hc | hc
              · have hd := Lib.decodeL_ascii c u hc
                rw [hd] at h2 ⊢
                have hn1 : n = 1 := h2.symm
                subst hn1
                rw [← h1]
                exact Lib.decodeL_ascii c t hc
              · by_cases hl : leadB c
                · by_cases hg : goodB c (c :: u)
                  · obtain ⟨d1, d2⟩ := dec_good hl hg
                    have hb := sz_bd hl
                    obtain ⟨v, hv1, hv2, hv3⟩ := take_good (t := t) hg hb.1 hb.2
                    have hbv : b = c :: v := by rw [← h1, ← h2, d1, hv1]
                    obtain ⟨k1, k2⟩ := dec_good hl hv2
                    rw [hbv, List.cons_append]
                    refine Prod.ext ?_ (by rw [k1, hv3])
                    -- the rune hangs on the sequence's bytes alone
                    have e1 := Lib.encode_decode (c :: u) (by simp) hbad
                    have hnv : ¬ ((Lib.decodeL (c :: (v ++ t))).1 = 65533 ∧ (Lib.decodeL (c :: (v ++ t))).2 = 1) := by rintro ⟨-, e⟩; omega
                    exact dec_same hl hg hv2 hv1
                  · exact absurd (by rw [dec_bad hl hg]; exact ⟨rfl, rfl⟩) hbad
                · exact absurd (by rw [dec_none u hc hl]; exact ⟨rfl, rfl⟩) hbad
            · unfold quoteR
              rw [if_neg hhid, Lib.encode_decode _ (by simp) hbad, h2]
/-- a name that is read is written so -/
theorem name_back : ∀ (F : Nat) (l b : Bs) (n : Nat), nameL F l = (b, n, false) → n ≤ l.length ∧ b.length ≤ n ∧ Lib.validD b = true ∧ ∀ G, b.length ≤ G → quoteD G b = l.take n
  | 0, l, b, n, h => by
    simp only [nameL, Prod.mk.injEq, and_true] at h
    obtain ⟨rfl, rfl⟩ := h
    exact ⟨Nat.zero_le _, Nat.le_refl _, rfl, fun G _ => by rw [quoteD_nil]; simp⟩
  | F + 1, l, b, n, h => by
    simp only [nameL] at h
    split at h
    · simp only [Prod.mk.injEq, and_true] at h
      obtain ⟨rfl, rfl⟩ := h
      exact ⟨Nat.zero_le _, Nat.le_refl _, rfl, fun G _ => by rw [quoteD_nil]; simp⟩
    · cases h
    · rename_i b1 n1 hst
      simp only [Prod.mk.injEq] at h
      obtain ⟨h1, h2, h3⟩ := h
      obtain ⟨s1, s2, s3, r, s4, s5, s6⟩ := step_back hst
      cases hr : nameL F (l.drop n1) with
      | mk b2 r2 =>
      obtain ⟨n2, x2⟩ := r2
      rw [hr] at h1 h2 h3
      simp only at h1 h2 h3
      subst h3
      obtain ⟨i1, i2, i3, i4⟩ := name_back F (l.drop n1) b2 n2 hr
      rw [List.length_drop] at i1
      subst h1 h2
      have hd := s4 b2
      have hne : b1 ++ b2 ≠ [] := by simp [s3]
      refine ⟨by omega, by rw [List.length_append]; omega, ?_, fun G hG => ?_⟩
      · rw [Lib.validD_step _ hne, hd, if_neg s5, List.drop_left]; exact i3
      · have hb1 := List.length_pos_iff.2 s3
        rw [List.length_append] at hG
        obtain ⟨G, rfl⟩ : ∃ g, G = g + 1 := ⟨G - 1, by omega⟩
        rw [quoteD, if_neg hne, hd, List.drop_left, s6, i4 G (by omega), List.take_add]
end Th
end Go.Proofs.YtlgagbglldehjaaDoor
/- Lines there and back: plain. -/
namespace Go.Proofs.YtlgagbglldehjaaDoor
set_option linter.unusedVariables false
set_option linter.unusedSimpArgs false
open Pj Rf St Es Nm Rp Fe
namespace Th
theorem hold_go {t : Bs} (ht : ∀ c u, t = c :: u → letterB (c.toNat : Int) = false) : ∀ (h : Bs) (k : Nat), letters h = true → k + h.length ≤ 32 → holL k (h ++ t) = (k + h.length, k + h.length == 0)
  | [], k, _, _ => by
    rw [List.nil_append]
    cases t with
    | nil => rw [holL_nil]; simp
    | cons c u => rw [holL_end u (ht c u rfl)]; simp
  | c :: h, k, hl, hk => by
    unfold letters at hl
    rw [List.all_cons, Bool.and_eq_true] at hl
    rw [List.length_cons] at hk
    rw [List.cons_append, holL_go (h ++ t) hl.1 (by omega), hold_go ht h (k + 1) hl.2 (by omega), List.length_cons, show k + 1 + h.length = k + (h.length + 1) by omega]
theorem hold_inv : ∀ (l : Bs) (k k' : Nat), k ≤ 32 → holL k l = (k', false) → k ≤ k' ∧ k' ≤ 32 ∧ k' - k ≤ l.length ∧ 0 < k'
  | [], k, k', hk, h => by
    rw [holL_nil] at h
    simp only [Prod.mk.injEq, beq_eq_false_iff_ne] at h
    omega
  | c :: l, k, k', hk, h => by
    cases hc : letterB (c.toNat : Int) with
    | false =>
      rw [holL_end l hc] at h
      simp only [Prod.mk.injEq, beq_eq_false_iff_ne] at h
      omega
    | true =>
      by_cases h32 : k = 32
      · subst h32; rw [holL_long l hc] at h; cases h
      · rw [holL_go l hc h32] at h
        have := hold_inv l (k + 1) k' (by omega) h
        simp; omega
theorem hold_there {h t : Bs} (hh : holderB h = true) (ht : ∀ c u, t = c :: u → letterB (c.toNat : Int) = false) : holB false (h ++ t) = (h.length, false) := by
  simp only [holderB, Bool.and_eq_true, decide_eq_true_eq] at hh
  unfold holB
  rw [if_neg (by simp), hold_go ht h 0 hh.1.1 (by omega), Nat.zero_add]
  have : h.length ≠ 0 := by omega
  simp [this]
theorem hold_back {l : Bs} {k : Nat} {b : Bool} (h : holB b l = (k, false)) : holderB (l.take k) = true ∧ k ≤ l.length ∧ b = false := by
  unfold holB at h
  cases b with
  | true => cases h
  | false =>
    rw [if_neg (by simp)] at h
    obtain ⟨h1, h2, h3, h4⟩ := hold_inv l 0 k (by omega) h
    have hl := hold_letters l 0 (by omega)
    rw [h] at hl
    rw [Nat.sub_zero] at hl h3
    refine ⟨?_, h3, rfl⟩
    unfold holderB
    rw [hl, List.length_take, Nat.min_eq_left h3]
    simp; omega
def headL (clock : Nat) (kind : Int) : Bs := Lib.decDigits clock ++ 32 :: (wordS kind ++ [32])
theorem kindW_get (j : Nat) (h : j < 6) : kindW[j]? = some (wordS ((j + 1 : Nat) : Int) ++ [32]) := by
  match j, h with
  | 0, _ => rfl
  | 1, _ => rfl
  | 2, _ => rfl
  | 3, _ => rfl
  | 4, _ => rfl
  | 5, _ => rfl
theorem kindW_first : ∀ j, j < 6 → ∀ j', j' < j → kindW[j']? ≠ kindW[j]? := by decide +kernel
theorem not_dig32 : ¬ isDig 32 := by unfold isDig; decide
theorem drop_app {A B : Bs} {n : Nat} (h : n = A.length) : (A ++ B).drop n = B := by subst h; exact List.drop_left
theorem read_head (clock : Nat) (hc : clock < 18446744073709551616) (j : Nat) (hj : j < 6) (B : Bs) :
    readP (headL clock ((j + 1 : Nat) : Int) ++ B) = if j = 5 then readT clock (headL clock ((j + 1 : Nat) : Int)).length (headL clock ((j + 1 : Nat) : Int) ++ B) else readN clock ((j + 1 : Nat) : Int) (headL clock ((j + 1 : Nat) : Int)).length (headL clock ((j + 1 : Nat) : Int) ++ B) := by
  have hs : headL clock ((j + 1 : Nat) : Int) ++ B = Lib.decDigits clock ++ 32 :: ((wordS ((j + 1 : Nat) : Int) ++ [32]) ++ B) := by simp [headL]
  have hlen : (headL clock ((j + 1 : Nat) : Int)).length = (Lib.decDigits clock).length + 1 + (wordS ((j + 1 : Nat) : Int) ++ [32]).length := by
    unfold headL; rw [List.length_append, List.length_cons]; omega
  have h1 : numR (headL clock ((j + 1 : Nat) : Int) ++ B) = (clock, (Lib.decDigits clock).length, false) := by
    rw [hs]; exact num_dec hc (fun c u e => by cases e; exact not_dig32)
  have hd1 : (headL clock ((j + 1 : Nat) : Int) ++ B).drop (Lib.decDigits clock).length = 32 :: ((wordS ((j + 1 : Nat) : Int) ++ [32]) ++ B) := by rw [hs, List.drop_left]
  have hd2 : (headL clock ((j + 1 : Nat) : Int) ++ B).drop ((Lib.decDigits clock).length + 1) = (wordS ((j + 1 : Nat) : Int) ++ [32]) ++ B := by rw [← List.drop_drop, hd1]; rfl
  have hw := kindW_get j hj
  have h3 : oneR (kindL.map bs) ((wordS ((j + 1 : Nat) : Int) ++ [32]) ++ B) = (j, (wordS ((j + 1 : Nat) : Int) ++ [32]).length, false) :=
    one_hit (L := kindW) kindW_free hw (fun j' h => by rw [← hw]; exact kindW_first j hj j' h)
  unfold readP
  rw [h1]
  dsimp only [oneB]
  rw [hd1, show (if false = true then ((0, 0, true) : Nat × Nat × Bool) else oneR [[32]] (32 :: ((wordS ((j + 1 : Nat) : Int) ++ [32]) ++ B))) = (0, 1, false) from by rw [if_neg (by simp), one_blank]; rfl]
  dsimp only
  rw [hd2, show (if false = true then ((0, 0, true) : Nat × Nat × Bool) else oneR (kindL.map bs) ((wordS ((j + 1 : Nat) : Int) ++ [32]) ++ B)) = (j, (wordS ((j + 1 : Nat) : Int) ++ [32]).length, false) from by rw [if_neg (by simp), h3]]
  dsimp only
  rw [if_neg (show ¬ (false = true) by simp), ← hlen]
theorem nameR_there {u t : Bs} (ht : t = [] ∨ t.head? = some 32) (hne : u ≠ []) (hv : Lib.validD u = true) (G : Nat) (hG : u.length ≤ G) : nameR (quoteD G u ++ t) = (u, (quoteD G u).length, false) := by
  unfold nameR
  rw [name_there ht G u _ hG hv (Nat.le_refl _)]
  cases u with
  | nil => exact absurd rfl hne
  | cons a v => rfl
theorem one_hit1 (w B : Bs) : oneR [w] (w ++ B) = (0, w.length, false) := one_hit (L := [w]) (j := 0) (free1 w) rfl (fun j' h => by omega)
theorem letter32 {t u : Bs} {c : UInt8} (ht : t = toB ++ u) : ∀ c v, t = c :: v → letterB (c.toNat : Int) = false := fun c v e => by
  rw [e] at ht
  have : c = 32 := by simpa using congrArg List.head? ht
  subst this; exact letter_32
/-- an entry that has a line is read of it -/
theorem there {clock ticks G : Nat} {kind : Int} {name hold dest s : Bs} (hc : clock < 18446744073709551616) (htk : ticks < 18446744073709551616) (hG : name.length ≤ G) (h : lineOf clock kind name hold dest ticks (quoteD G name) = some s) :
    readP s = (some ⟨clock, kind, name, hold, dest, ticks⟩, 0) := by
  unfold lineOf at h
  by_cases h6 : kind = 6
  · subst h6
    rw [if_pos rfl] at h
    split at h
    · rename_i he
      obtain ⟨rfl, rfl, rfl⟩ := he
      cases h
      rw [show Lib.decDigits clock ++ 32 :: wordS 6 ++ 32 :: Lib.decDigits ticks = headL clock ((5 + 1 : Nat) : Int) ++ Lib.decDigits ticks from by simp [headL], read_head clock hc 5 (by omega), if_pos rfl]
      have hn := num_dec (n := ticks) htk (t := []) (fun c u e => by cases e)
      rw [List.append_nil] at hn
      unfold readT
      rw [List.drop_left, hn]
      dsimp only
      rw [if_neg (by rw [List.length_append]; simp)]
    · cases h
  · rw [if_neg h6] at h
    by_cases hn : name = [] ∨ Lib.validD name = false
    · rw [if_pos hn] at h; cases h
    · rw [if_neg hn] at h
      have hne : name ≠ [] := fun e => hn (.inl e)
      have hv : Lib.validD name = true := by
        cases hx : Lib.validD name with
        | true => rfl
        | false => exact absurd (.inr hx) hn
      by_cases h45 : kind = 4 ∨ kind = 5
      · rw [if_pos h45] at h
        split at h
        · rename_i he
          obtain ⟨rfl, rfl, rfl⟩ := he
          cases h
          obtain ⟨j, hj, hj5, hk⟩ : ∃ j : Nat, j < 6 ∧ j ≠ 5 ∧ kind = ((j + 1 : Nat) : Int) := by
            rcases h45 with e | e
            · exact ⟨3, by omega, by omega, e⟩
            · exact ⟨4, by omega, by omega, e⟩
          have hnr := nameR_there (t := []) (.inl rfl) hne hv G hG
          rw [List.append_nil] at hnr
          rw [hk] at h45 ⊢
          rw [show Lib.decDigits clock ++ 32 :: wordS ((j + 1 : Nat) : Int) ++ 32 :: quoteD G name = headL clock ((j + 1 : Nat) : Int) ++ quoteD G name from by simp [headL], read_head clock hc j hj, if_neg hj5]
          unfold readN
          rw [List.drop_left, hnr]
          dsimp only
          rw [if_neg (show ¬ (false = true) by simp), if_neg (show ¬ (((j + 1 : Nat) : Int) = 1 ∨ ((j + 1 : Nat) : Int) = 2 ∨ ((j + 1 : Nat) : Int) = 3) by omega), if_neg (by rw [List.length_append]; omega)]
        · cases h
      · rw [if_neg h45] at h
        by_cases h12 : kind = 1 ∨ kind = 2
        · rw [if_pos h12] at h
          split at h
          · rename_i he
            obtain ⟨hh, rfl, rfl⟩ := he
            cases h
            obtain ⟨j, hj, hj5, hk⟩ : ∃ j : Nat, j < 6 ∧ j < 2 ∧ kind = ((j + 1 : Nat) : Int) := by
              rcases h12 with e | e
              · exact ⟨0, by omega, by omega, e⟩
              · exact ⟨1, by omega, by omega, e⟩
            rw [hk] at h12 ⊢
            rw [show Lib.decDigits clock ++ 32 :: wordS ((j + 1 : Nat) : Int) ++ 32 :: quoteD G name ++ [32, 98, 121, 32] ++ hold = headL clock ((j + 1 : Nat) : Int) ++ (quoteD G name ++ (byB ++ hold)) from by simp [headL], read_head clock hc j hj, if_neg (by omega)]
            have hnr := nameR_there (t := byB ++ hold) (.inr rfl) hne hv G hG
            have hho := hold_there (t := []) hh (fun c u e => by cases e)
            rw [List.append_nil] at hho
            unfold readN
            rw [List.drop_left, hnr]
            dsimp only
            rw [if_neg (show ¬ (false = true) by simp), if_pos (show (((j + 1 : Nat) : Int) = 1 ∨ ((j + 1 : Nat) : Int) = 2 ∨ ((j + 1 : Nat) : Int) = 3) by omega)]
            unfold readBy
            rw [← List.append_assoc, ← List.length_append, List.drop_left, one_hit1]
            dsimp only
            rw [show (headL clock ((j + 1 : Nat) : Int) ++ quoteD G name ++ (byB ++ hold)).drop ((headL clock ((j + 1 : Nat) : Int) ++ quoteD G name).length + byB.length) = hold from by rw [← List.append_assoc, ← List.length_append, List.drop_left], hho]
            dsimp only
            rw [if_neg (show ¬ (false = true) by simp), if_neg (show ¬ ((j + 1 : Nat) : Int) = 3 by omega), if_neg (by simp only [List.length_append]; omega), List.take_of_length_le (Nat.le_refl _)]
          · cases h
        · rw [if_neg h12] at h
          by_cases h3 : kind = 3
          · subst h3
            rw [if_pos rfl] at h
            split at h
            · rename_i he
              obtain ⟨hh, hd, rfl⟩ := he
              cases h
              rw [show Lib.decDigits clock ++ 32 :: wordS 3 ++ 32 :: quoteD G name ++ [32, 98, 121, 32] ++ hold ++ [32, 116, 111, 32] ++ dest = headL clock ((2 + 1 : Nat) : Int) ++ (quoteD G name ++ (byB ++ (hold ++ (toB ++ dest)))) from by simp [headL], read_head clock hc 2 (by omega), if_neg (by omega)]
              have hnr := nameR_there (t := byB ++ (hold ++ (toB ++ dest))) (.inr rfl) hne hv G hG
              have hho := hold_there (t := toB ++ dest) hh (letter32 (c := 0) rfl)
              have hhd := hold_there (t := []) hd (fun c u e => by cases e)
              rw [List.append_nil] at hhd
              unfold readN
              rw [List.drop_left, hnr]
              dsimp only
              rw [if_neg (show ¬ (false = true) by simp), if_pos (by right; right; rfl)]
              unfold readBy
              rw [← List.append_assoc, ← List.length_append, List.drop_left, one_hit1]
              dsimp only
              have e1 : (headL clock ((2 + 1 : Nat) : Int) ++ quoteD G name ++ (byB ++ (hold ++ (toB ++ dest)))).drop ((headL clock ((2 + 1 : Nat) : Int) ++ quoteD G name).length + byB.length) = hold ++ (toB ++ dest) := by rw [← List.append_assoc, ← List.length_append, List.drop_left]
              rw [e1, hho]
              dsimp only
              rw [if_neg (show ¬ (false = true) by simp), if_pos (by rfl), List.take_left]
              unfold readTo
              have e2 : (headL clock ((2 + 1 : Nat) : Int) ++ quoteD G name ++ (byB ++ (hold ++ (toB ++ dest)))).drop ((headL clock ((2 + 1 : Nat) : Int) ++ quoteD G name).length + byB.length + hold.length) = toB ++ dest := by rw [← List.drop_drop, e1, List.drop_left]
              have e3 : (headL clock ((2 + 1 : Nat) : Int) ++ quoteD G name ++ (byB ++ (hold ++ (toB ++ dest)))).drop ((headL clock ((2 + 1 : Nat) : Int) ++ quoteD G name).length + byB.length + hold.length + toB.length) = dest := by rw [← List.drop_drop, e2, List.drop_left]
              rw [e2, one_hit1]
              dsimp only
              rw [e3, hhd]
              dsimp only
              rw [if_neg (by simp only [List.length_append]; simp; omega), List.take_of_length_le (Nat.le_refl _)]
            · cases h
          · rw [if_neg h3] at h; cases h
/-! ### no line holds a byte 10 -/
theorem quoteR_no10 {u : Bs} (hne : u ≠ []) (hv : ¬ ((Lib.decodeL u).1 = 65533 ∧ (Lib.decodeL u).2 = 1)) : (10 : UInt8) ∉ quoteR (Lib.decodeL u).1 := by
  cases u with
  | nil => exact absurd rfl hne
  | cons c u =>
    rcases (by omega : c.toNat < 128 ∨ 128 ≤ c.toNat) with hc | hc
    · have hd := Lib.decodeL_ascii c u hc
      rw [hd]
      dsimp only
      by_cases hh : hiddenB (c.toNat : Int) = true
      · have h10 : ∀ w ∈ spells, (10 : UInt8) ∉ w := by decide +kernel
        rw [show quoteR c.toNat = spell c.toNat from by unfold quoteR; rw [if_pos hh]]
        exact h10 _ (List.mem_map.2 ⟨_, hid_mem hh, rfl⟩)
      · rw [show quoteR c.toNat = [c] from by unfold quoteR; rw [if_neg hh, enc_small hc]; simp]
        intro e
        have : c = 10 := (List.mem_singleton.1 e).symm
        subst this
        exact hh (by decide)
    · by_cases hl : leadB c
      · by_cases hg : goodB c (c :: u)
        · obtain ⟨d1, d2⟩ := dec_good hl hg
          have hb := sz_bd hl
          have hq : quoteR (Lib.decodeL (c :: u)).1 = (c :: u).take (szB c) := by
            unfold quoteR
            rw [if_neg (by rw [not_hidden d2]; simp), Lib.encode_decode _ (by simp) hv, d1]
          rw [hq]
          intro hm
          obtain ⟨j, hj, he⟩ := List.mem_iff_getElem.1 hm
          rw [List.length_take] at hj
          have hg1 := hg.1
          have hj2 : (c :: u).getD j 0 = 10 := by
            rw [List.getElem_take] at he
            rw [List.getD_eq_getElem?_getD, List.getElem?_eq_getElem (by omega), he]; rfl
          have h10 : (10 : UInt8).toNat = 10 := rfl
          rcases (by omega : j = 0 ∨ j = 1 ∨ j = 2 ∨ j = 3) with rfl | rfl | rfl | rfl
          · have : c = 10 := hj2
            rw [this] at hc; omega
          · have := ok_ge hl hg.2.1
            rw [hj2] at this; omega
          · have := (hg.2.2.1 (by omega)).1
            rw [hj2] at this; omega
          · have := (hg.2.2.2 (by omega)).1
            rw [hj2] at this; omega
        · exact absurd (by rw [dec_bad hl hg]; exact ⟨rfl, rfl⟩) hv
      · exact absurd (by rw [dec_none u hc hl]; exact ⟨rfl, rfl⟩) hv
theorem quoteD_no10 : ∀ (G : Nat) (u : Bs), Lib.validD u = true → (10 : UInt8) ∉ quoteD G u
  | 0, u, _ => by simp [quoteD]
  | G + 1, u, h => by
    rw [quoteD]
    by_cases hne : u = []
    · rw [if_pos hne]; simp
    · rw [if_neg hne]
      rw [Lib.validD_step u hne] at h
      have hv1 : ¬ ((Lib.decodeL u).1 = 65533 ∧ (Lib.decodeL u).2 = 1) := fun e => by rw [if_pos e] at h; cases h
      rw [if_neg hv1] at h
      rw [List.mem_append]
      rintro (e | e)
      · exact quoteR_no10 hne hv1 e
      · exact quoteD_no10 G _ h e
theorem dec_no10 (n : Nat) : (10 : UInt8) ∉ Lib.decDigits n := fun e => by have := ((dec_spec n n (Nat.le_refl _)).1 _ e).1; revert this; decide
theorem word_no10 (k : Int) : (10 : UInt8) ∉ wordS k := by
  unfold wordS
  repeat (split; · decide)
  decide
theorem hold_no10 {h : Bs} (hh : holderB h = true) : (10 : UInt8) ∉ h := fun e => by
  simp only [holderB, Bool.and_eq_true] at hh
  have := List.all_eq_true.1 hh.1.1 _ e
  revert this; decide
theorem line_no10 {clock ticks G : Nat} {kind : Int} {name hold dest s : Bs} (h : lineOf clock kind name hold dest ticks (quoteD G name) = some s) : (10 : UInt8) ∉ s := by
  have h1 := dec_no10 clock
  have h2 := dec_no10 ticks
  have h3 := word_no10 kind
  unfold lineOf at h
  split at h
  · split at h
    · cases h
      simp only [List.mem_append, List.mem_cons]
      rintro ((e | e | e) | e | e)
      · exact h1 e
      · revert e; decide
      · exact word_no10 6 e
      · revert e; decide
      · exact h2 e
    · cases h
  · split at h
    · cases h
    · rename_i hn
      have hv : Lib.validD name = true := by
        cases hx : Lib.validD name with
        | true => rfl
        | false => exact absurd (.inr hx) hn
      have h4 := quoteD_no10 G name hv
      have hA : (10 : UInt8) ∉ Lib.decDigits clock ++ 32 :: wordS kind ++ 32 :: quoteD G name := by
        simp only [List.mem_append, List.mem_cons]
        rintro ((e | e | e) | e | e)
        · exact h1 e
        · revert e; decide
        · exact h3 e
        · revert e; decide
        · exact h4 e
      split at h
      · split at h
        · cases h; exact hA
        · cases h
      · split at h
        · split at h
          · rename_i hc
            cases h
            rw [List.mem_append, List.mem_append]
            rintro ((e | e) | e)
            · exact hA e
            · revert e; decide
            · exact hold_no10 hc.1 e
          · cases h
        · split at h
          · split at h
            · rename_i hc
              cases h
              rw [List.mem_append, List.mem_append, List.mem_append, List.mem_append]
              rintro ((((e | e) | e) | e) | e)
              · exact hA e
              · revert e; decide
              · exact hold_no10 hc.1 e
              · revert e; decide
              · exact hold_no10 hc.2.1 e
            · cases h
          · cases h
/-! ### back -/
theorem one_bad_hol {b : Bool} {l : Bs} {d : Nat × Bool} (h : holB b l = d) (hd : d.2 = false) : b = false := by
  cases b with
  | false => rfl
  | true => rw [← h] at hd; cases hd
theorem blank_inv {r : Bs} (h : (oneR [[32]] r).2.2 = false) : ∃ t, r = 32 :: t ∧ (oneR [[32]] r).2.1 = 1 := by
  rw [one_blank] at h ⊢
  by_cases hh : r.head? = some 32
  · rw [if_pos hh]
    cases r with
    | nil => cases hh
    | cons c t => have : c = 32 := by simpa using hh
                  subst this; exact ⟨t, rfl, rfl⟩
  · rw [if_neg hh] at h; cases h
theorem one1_inv {w r : Bs} (h : (oneR [w] r).2.2 = false) : ∃ t, r = w ++ t ∧ (oneR [w] r).2.1 = w.length := by
  obtain ⟨v, h1, h2, t, h3⟩ := oneR_inv (L := [w]) (r := r) (j := (oneR [w] r).1) (n := (oneR [w] r).2.1) (by rw [← h])
  have : v = w := by have := List.mem_of_getElem? h1; simpa using this
  subst this
  exact ⟨t, h3, h2⟩
theorem to_back {c : Nat} {n h A t : Bs} {e : Ent} {p : Nat} (hr : readTo c n h A.length (A ++ t) = (some e, p)) : ∃ d, holderB d = true ∧ t = toB ++ d ∧ e = ⟨c, 3, n, h, d, 0⟩ := by
  unfold readTo at hr
  rw [List.drop_left] at hr
  dsimp only at hr
  split at hr
  · cases hr
  · rename_i hx
    simp only [Bool.or_eq_true, decide_eq_true_eq, not_or, Bool.not_eq_true] at hx
    cases hr
    have ho := one_bad_hol rfl hx.1
    obtain ⟨u, hu, hl⟩ := one1_inv ho
    subst hu
    rw [hl, ← List.append_assoc, ← List.length_append, List.drop_left, ho] at hx ⊢
    obtain ⟨b1, b2, -⟩ := hold_back (l := u) (b := false) (k := (holB false u).1) (Prod.ext rfl hx.1)
    have hk : (holB false u).1 = u.length := by have := hx.2; rw [List.length_append (bs := u)] at this; omega
    rw [hk, List.take_of_length_le (Nat.le_refl _)] at b1 ⊢
    exact ⟨u, b1, rfl, rfl⟩
theorem by_back {c : Nat} {k : Int} {n A t : Bs} {e : Ent} {p : Nat} (hr : readBy c k n A.length (A ++ t) = (some e, p)) :
    (k ≠ 3 ∧ ∃ h, holderB h = true ∧ t = byB ++ h ∧ e = ⟨c, k, n, h, [], 0⟩) ∨ (k = 3 ∧ ∃ h d, holderB h = true ∧ holderB d = true ∧ t = byB ++ (h ++ (toB ++ d)) ∧ e = ⟨c, 3, n, h, d, 0⟩) := by
  unfold readBy at hr
  rw [List.drop_left] at hr
  dsimp only at hr
  split at hr
  · cases hr
  · rename_i hx
    simp only [Bool.not_eq_true] at hx
    have ho := one_bad_hol rfl hx
    obtain ⟨u, hu, hl⟩ := one1_inv ho
    subst hu
    rw [hl, ← List.append_assoc, ← List.length_append, List.drop_left, ho] at hx hr
    obtain ⟨b1, b2, -⟩ := hold_back (l := u) (b := false) (k := (holB false u).1) (Prod.ext rfl hx)
    split at hr
    · rename_i h3
      subst h3
      right
      refine ⟨rfl, ?_⟩
      have e1 : A ++ byB ++ u = (A ++ byB ++ u.take (holB false u).1) ++ u.drop (holB false u).1 := by rw [List.append_assoc (A ++ byB), List.take_append_drop]
      have e2 : (A ++ byB).length + (holB false u).1 = (A ++ byB ++ u.take (holB false u).1).length := by rw [List.length_append (bs := u.take _), List.length_take, Nat.min_eq_left b2]
      rw [e1, e2] at hr
      obtain ⟨d, d1, d2, d3⟩ := to_back hr
      refine ⟨_, d, b1, d1, ?_, d3⟩
      rw [← d2, List.take_append_drop]
    · rename_i h3
      left
      refine ⟨h3, ?_⟩
      split at hr
      · cases hr
      · rename_i hlen
        cases hr
        have hk : (holB false u).1 = u.length := by rw [List.length_append (bs := u)] at hlen; omega
        rw [hk, List.take_of_length_le (Nat.le_refl _)] at b1 ⊢
        exact ⟨u, b1, rfl, rfl⟩
theorem nameR_inv {t : Bs} (h : (nameR t).2.2 = false) : (nameR t).1 ≠ [] ∧ (nameR t).2.1 ≤ t.length ∧ (nameR t).1.length ≤ (nameR t).2.1 ∧ Lib.validD (nameR t).1 = true ∧ ∀ G, (nameR t).1.length ≤ G → quoteD G (nameR t).1 = t.take (nameR t).2.1 := by
  unfold nameR at h ⊢
  simp only [Bool.or_eq_false_iff] at h ⊢
  obtain ⟨h1, h2⟩ := h
  obtain ⟨i1, i2, i3, i4⟩ := name_back t.length t _ _ (Prod.ext rfl (Prod.ext rfl h1))
  exact ⟨fun e => (by rw [e] at h2; cases h2), i1, i2, i3, i4⟩
/-- a line that is read is what its entry is written as -/
theorem back {l : Bs} {e : Ent} {p : Nat} (h : readP l = (some e, p)) : e.clock < 18446744073709551616 ∧ e.ticks < 18446744073709551616 ∧ e.name.length ≤ l.length ∧ e.hold.length ≤ 32 ∧ e.dest.length ≤ 32 ∧ ∀ G, e.name.length ≤ G → lineOf e.clock e.kind e.name e.hold e.dest e.ticks (quoteD G e.name) = some l := by
  unfold readP at h
  dsimp only at h
  cases hc : (numR l).2.2 with
  | true => rw [hc] at h; simp [oneB] at h
  | false =>
    rw [hc] at h
    simp only [oneB, Bool.false_eq_true, if_false] at h
    cases ho : (oneR [[32]] (l.drop (numR l).2.1)).2.2 with
    | true => rw [ho] at h; simp at h
    | false =>
      rw [ho] at h
      simp only [Bool.false_eq_true, if_false] at h
      obtain ⟨n1, n2, n3⟩ := num_back (l := l) (n := (numR l).1) (k := (numR l).2.1) (by rw [← hc])
      obtain ⟨t, ht, ht1⟩ := blank_inv ho
      rw [ht1] at h
      obtain ⟨hdt, -⟩ := drop_next ht
      rw [hdt] at h
      cases hk : (oneR (kindL.map bs) t).2.2 with
      | true => rw [hk] at h; simp at h
      | false =>
        rw [hk, if_neg (show ¬ (false = true) by simp)] at h
        obtain ⟨w, g1, g2, B, g3⟩ := oneR_inv (L := kindL.map bs) (r := t) (j := (oneR (kindL.map bs) t).1) (n := (oneR (kindL.map bs) t).2.1) (by rw [← hk])
        have hj : (oneR (kindL.map bs) t).1 < 6 := (List.getElem?_eq_some_iff.1 g1).1
        generalize (oneR (kindL.map bs) t).1 = j at *
        rw [show kindL.map bs = kindW from rfl, kindW_get j hj, Option.some.injEq] at g1
        subst g1
        have hl : l = headL (numR l).1 ((j + 1 : Nat) : Int) ++ B := by
          have e1 := (List.take_append_drop (numR l).2.1 l).symm
          rw [n2, ht, g3] at e1
          refine e1.trans ?_
          simp [headL]
        have hP : (numR l).2.1 + 1 + (oneR (kindL.map bs) t).2.1 = (headL (numR l).1 ((j + 1 : Nat) : Int)).length := by
          have h8 := congrArg List.length n2
          rw [List.length_take, Nat.min_eq_left n1] at h8
          rw [g2, h8]; unfold headL; simp only [List.length_append, List.length_cons, List.length_nil]; omega
        rw [hP] at h
        generalize (numR l).1 = c at *
        clear hP g2 g3 hdt ht ht1 hk ho hc n1 n2
        by_cases h5 : j = 5
        · subst h5
          rw [if_pos rfl, hl] at h
          unfold readT at h
          rw [List.drop_left] at h
          split at h
          · cases h
          · rename_i hx
            simp only [Bool.or_eq_true, decide_eq_true_eq, not_or, Bool.not_eq_true] at hx
            cases h
            obtain ⟨m1, m2, m3⟩ := num_back (l := B) (n := (numR B).1) (k := (numR B).2.1) (by rw [← hx.1])
            have hk : (numR B).2.1 = B.length := by have := hx.2; rw [List.length_append] at this; omega
            rw [hk, List.take_of_length_le (Nat.le_refl _)] at m2
            refine ⟨n3, m3, by simp, by simp, by simp, fun G _ => ?_⟩
            unfold lineOf
            rw [if_pos rfl, if_pos ⟨rfl, rfl, rfl⟩, hl, ← m2]
            simp [headL]
        · rw [if_neg h5, hl] at h
          unfold readN at h
          rw [List.drop_left] at h
          dsimp only at h
          split at h
          · cases h
          · rename_i hx
            simp only [Bool.not_eq_true] at hx
            obtain ⟨q1, q2, q3, q4, q5⟩ := nameR_inv hx
            have hBl : B.length ≤ l.length := by rw [hl, List.length_append]; omega
            have hB := List.take_append_drop (nameR B).2.1 B
            have hnv : ¬ ((nameR B).1 = [] ∨ Lib.validD (nameR B).1 = false) := by
              rintro (e | e)
              · exact q1 e
              · rw [q4] at e; cases e
            split at h
            · rename_i h123
              rw [show headL c ((j + 1 : Nat) : Int) ++ B = (headL c ((j + 1 : Nat) : Int) ++ B.take (nameR B).2.1) ++ B.drop (nameR B).2.1 from by rw [List.append_assoc, hB], show (headL c ((j + 1 : Nat) : Int)).length + (nameR B).2.1 = (headL c ((j + 1 : Nat) : Int) ++ B.take (nameR B).2.1).length from by rw [List.length_append, List.length_take, Nat.min_eq_left q2]] at h
              rcases by_back h with ⟨k3, hd, h1, h2, rfl⟩ | ⟨k3, hd, d, h1, h1d, h2, rfl⟩
              · have hk12 : ((j + 1 : Nat) : Int) = 1 ∨ ((j + 1 : Nat) : Int) = 2 := by omega
                have hh32 : hd.length ≤ 32 := by simp only [holderB, Bool.and_eq_true, decide_eq_true_eq] at h1; exact h1.2
                refine ⟨n3, Nat.zero_lt_succ _, by dsimp only; omega, hh32, by simp, fun G hG => ?_⟩
                dsimp only at hG ⊢
                unfold lineOf
                rw [if_neg (by omega), if_neg hnv, if_neg (by omega), if_pos hk12, if_pos ⟨h1, rfl, rfl⟩, q5 G hG, hl]
                conv => rhs; rw [← hB, h2]
                simp [headL]
              · have hj2 : j = 2 := by omega
                subst hj2
                have hh32 : hd.length ≤ 32 := by simp only [holderB, Bool.and_eq_true, decide_eq_true_eq] at h1; exact h1.2
                have hd32 : d.length ≤ 32 := by simp only [holderB, Bool.and_eq_true, decide_eq_true_eq] at h1d; exact h1d.2
                refine ⟨n3, Nat.zero_lt_succ _, by dsimp only; omega, hh32, hd32, fun G hG => ?_⟩
                dsimp only at hG ⊢
                unfold lineOf
                rw [if_neg (by decide), if_neg hnv, if_neg (by decide), if_neg (by decide), if_pos rfl, if_pos ⟨h1, h1d, rfl⟩, q5 G hG, hl]
                conv => rhs; rw [← hB, h2]
                simp [headL]
            · rename_i h123
              split at h
              · cases h
              · rename_i hlen
                cases h
                have hk : (nameR B).2.1 = B.length := by rw [List.length_append] at hlen; omega
                have hk45 : ((j + 1 : Nat) : Int) = 4 ∨ ((j + 1 : Nat) : Int) = 5 := by omega
                refine ⟨n3, Nat.zero_lt_succ _, by dsimp only; omega, by simp, by simp, fun G hG => ?_⟩
                dsimp only at hG ⊢
                unfold lineOf
                rw [if_neg (by omega), if_neg hnv, if_pos hk45, if_pos ⟨rfl, rfl, rfl⟩, q5 G hG, hk, List.take_of_length_le (Nat.le_refl _), hl]
                simp [headL]
end Th
end Go.Proofs.YtlgagbglldehjaaDoor
