/- A name, fed byte by byte: its sequences: plain. -/
import Derived.Test.YtlgagbglldehjaaDoorFe
namespace Go.Proofs.YtlgagbglldehjaaDoor
set_option linter.unusedVariables false
set_option linter.unusedSimpArgs false
open Pj Rf St Es Nm Rp
namespace Fe
def szB (c : UInt8) : Nat := Lib.firstT c.toNat % 8
def okB (c d : UInt8) : Prop := Lib.accLo (Lib.firstT c.toNat / 16) ≤ d.toNat ∧ d.toNat ≤ Lib.accHi (Lib.firstT c.toNat / 16)
def contB (d : UInt8) : Prop := 128 ≤ d.toNat ∧ d.toNat ≤ 191
def leadB (c : UInt8) : Prop := Lib.firstT c.toNat < 240
instance (c d : UInt8) : Decidable (okB c d) := by unfold okB; infer_instance
instance (d : UInt8) : Decidable (contB d) := by unfold contB; infer_instance
instance (c : UInt8) : Decidable (leadB c) := by unfold leadB; infer_instance
theorem lead_parts {c : UInt8} (h : leadB c) : (194 ≤ c.toNat ∧ c.toNat < 224 ∧ szB c = 2 ∧ ∀ d, okB c d ↔ 128 ≤ d.toNat ∧ d.toNat ≤ 191) ∨ (c.toNat = 224 ∧ szB c = 3 ∧ ∀ d, okB c d ↔ 160 ≤ d.toNat ∧ d.toNat ≤ 191) ∨
    (225 ≤ c.toNat ∧ c.toNat < 240 ∧ szB c = 3 ∧ ∀ d, okB c d ↔ 128 ≤ d.toNat ∧ d.toNat ≤ 191) ∨ (c.toNat = 237 ∧ szB c = 3 ∧ ∀ d, okB c d ↔ 128 ≤ d.toNat ∧ d.toNat ≤ 159) ∨
    (c.toNat = 240 ∧ szB c = 4 ∧ ∀ d, okB c d ↔ 144 ≤ d.toNat ∧ d.toNat ≤ 191) ∨ (241 ≤ c.toNat ∧ c.toNat < 244 ∧ szB c = 4 ∧ ∀ d, okB c d ↔ 128 ≤ d.toNat ∧ d.toNat ≤ 191) ∨ (c.toNat = 244 ∧ szB c = 4 ∧ ∀ d, okB c d ↔ 128 ≤ d.toNat ∧ d.toNat ≤ 143) := by
  rcases Lib.firstT_low h with e | e | e | e | e | e | e
  · left; refine ⟨e.1, e.2, by simp [szB, Lib.firstT_C2 e], fun d => by simp [okB, Lib.firstT_C2 e, Lib.accLo, Lib.accHi]⟩
  · right; left; refine ⟨e, by simp [szB, Lib.firstT_E0 e], fun d => by simp [okB, Lib.firstT_E0 e, Lib.accLo, Lib.accHi]⟩
  · right; right; left; refine ⟨by omega, by omega, by simp [szB, Lib.firstT_E1 e], fun d => by simp [okB, Lib.firstT_E1 e, Lib.accLo, Lib.accHi]⟩
  · right; right; right; left; refine ⟨e, by simp [szB, Lib.firstT_ED e], fun d => by simp [okB, Lib.firstT_ED e, Lib.accLo, Lib.accHi]⟩
  · right; right; right; right; left; refine ⟨e, by simp [szB, Lib.firstT_F0 e], fun d => by simp [okB, Lib.firstT_F0 e, Lib.accLo, Lib.accHi]⟩
  · right; right; right; right; right; left; refine ⟨e.1, e.2, by simp [szB, Lib.firstT_F1 e], fun d => by simp [okB, Lib.firstT_F1 e, Lib.accLo, Lib.accHi]⟩
  · right; right; right; right; right; right; refine ⟨e, by simp [szB, Lib.firstT_F4 e], fun d => by simp [okB, Lib.firstT_F4 e, Lib.accLo, Lib.accHi]⟩
theorem sz_bd {c : UInt8} (h : leadB c) : 2 ≤ szB c ∧ szB c ≤ 4 := by
  rcases lead_parts h with e | e | e | e | e | e | e <;> omega
theorem lead_ge {c : UInt8} (h : leadB c) : 194 ≤ c.toNat := by
  rcases lead_parts h with e | e | e | e | e | e | e <;> omega
theorem ok_ge {c d : UInt8} (h : leadB c) (hd : okB c d) : 128 ≤ d.toNat := by
  rcases lead_parts h with ⟨_, _, _, e⟩ | ⟨_, _, e⟩ | ⟨_, _, _, e⟩ | ⟨_, _, e⟩ | ⟨_, _, e⟩ | ⟨_, _, _, e⟩ | ⟨_, _, e⟩ <;> (have := (e d).1 hd; omega)
/-- the bytes at the head are a whole sequence of the lead byte c -/
def goodB (c : UInt8) (l : Bs) : Prop := szB c ≤ l.length ∧ okB c (l.getD 1 0) ∧ (3 ≤ szB c → contB (l.getD 2 0)) ∧ (4 ≤ szB c → contB (l.getD 3 0))
theorem dec_lead {c : UInt8} (t : Bs) (h : leadB c) : Lib.decodeL (c :: t) = Lib.slowN (c :: t).length c.toNat ((c :: t).getD 1 0).toNat ((c :: t).getD 2 0).toNat ((c :: t).getD 3 0).toNat (szB c) (Lib.accLo (Lib.firstT c.toNat / 16)) (Lib.accHi (Lib.firstT c.toNat / 16)) := by
  rw [Lib.decodeL_N]
  exact (Lib.slow_eq _ _ _ _ _ (by simp) (UInt8.toNat_lt _) (UInt8.toNat_lt _) (UInt8.toNat_lt _) h).symm
theorem dec_bad {c : UInt8} {t : Bs} (h : leadB c) (hg : ¬ goodB c (c :: t)) : Lib.decodeL (c :: t) = (65533, 1) := by
  rw [dec_lead t h]
  unfold goodB okB contB at hg
  unfold Lib.slowN
  have hs := sz_bd h
  repeat' split
  all_goals first | rfl | (exfalso; apply hg; refine ⟨by omega, ⟨by omega, by omega⟩, fun _ => ⟨by omega, by omega⟩, fun _ => ⟨by omega, by omega⟩⟩)
theorem dec_good {c : UInt8} {t : Bs} (h : leadB c) (hg : goodB c (c :: t)) : (Lib.decodeL (c :: t)).2 = szB c ∧ 128 ≤ (Lib.decodeL (c :: t)).1 := by
  rw [dec_lead t h]
  obtain ⟨h1, h2, h3, h4⟩ := hg
  have hs := sz_bd h
  have h2' := h2
  unfold okB at h2
  unfold contB at h3 h4
  unfold Lib.slowN
  rw [if_neg (by omega), if_neg (by omega)]
  have k1 := UInt8.toNat_lt ((c :: t).getD 1 0)
  rcases lead_parts h with ⟨_, _, e, o⟩ | ⟨_, e, o⟩ | ⟨_, _, e, o⟩ | ⟨_, e, o⟩ | ⟨_, e, o⟩ | ⟨_, _, e, o⟩ | ⟨_, e, o⟩
  all_goals have o1 := (o _).1 h2'
  all_goals (try have h3' := h3 (by omega))
  all_goals (try have h4' := h4 (by omega))
  all_goals repeat' split
  all_goals first | (exfalso; omega) | (refine ⟨by simp only; omega, by simp only; omega⟩)
theorem dec_none {c : UInt8} (t : Bs) (h1 : 128 ≤ c.toNat) (h : ¬ leadB c) : Lib.decodeL (c :: t) = (65533, 1) := by
  rw [Lib.decodeL_N]
  refine Lib.bad_eq _ _ _ _ _ (UInt8.toNat_lt _) ?_
  show Lib.firstT c.toNat = 241
  unfold leadB at h
  unfold Lib.firstT at h ⊢
  repeat' split at h
  all_goals first | (exfalso; omega) | (exfalso; apply h; decide) | skip
  all_goals (repeat' split)
  all_goals first | rfl | (exfalso; omega)
theorem seq_ascii {c : UInt8} (t : Bs) (h : c.toNat < 128) : seqN (c :: t) = 1 := by
  unfold seqN; rw [Lib.decodeL_ascii c t h, if_neg]
  rintro (e | ⟨e, -⟩)
  · cases e
  · simp only at e; omega
theorem seq_good {c : UInt8} {t : Bs} (h : leadB c) (hg : goodB c (c :: t)) : seqN (c :: t) = szB c := by
  obtain ⟨h1, h2⟩ := dec_good h hg
  have hs := sz_bd h
  unfold seqN; rw [if_neg, h1]
  rintro (e | ⟨-, e⟩)
  · cases e
  · omega
theorem seq_bad {c : UInt8} {t : Bs} (h : leadB c) (hg : ¬ goodB c (c :: t)) : seqN (c :: t) = 0 := by
  unfold seqN; rw [dec_bad h hg, if_pos (.inr ⟨rfl, rfl⟩)]
theorem seq_none {c : UInt8} (t : Bs) (h1 : 128 ≤ c.toNat) (h : ¬ leadB c) : seqN (c :: t) = 0 := by
  unfold seqN; rw [dec_none t h1 h, if_pos (.inr ⟨rfl, rfl⟩)]
/-! ### could these be the beginning -/
theorem could_yes {s : Bs} (t : Bs) (ht : t ∈ couldT) (h : s.length ≤ seqN (s ++ t)) : couldF s = true := List.any_eq_true.2 ⟨t, ht, decide_eq_true h⟩
theorem could_no {s : Bs} (h : ∀ t ∈ couldT, seqN (s ++ t) < s.length) : couldF s = false := by
  rw [couldF, List.any_eq_false]
  intro t ht
  have := h t ht
  simp only [decide_eq_true_eq]; omega
theorem could1 {c : UInt8} (h : leadB c) : couldF [c] = true := by
  have hs := sz_bd h
  have key : ∀ a b d : UInt8, okB c a → contB b → contB d → goodB c (c :: [a, b, d]) := fun a b d h1 h2 h3 => ⟨by simp; omega, h1, fun _ => h2, fun _ => h3⟩
  have fin : ∀ a b d : UInt8, [a, b, d] ∈ couldT → okB c a → contB b → contB d → couldF [c] = true := fun a b d hm h1 h2 h3 =>
    could_yes [a, b, d] hm (by rw [show ([c] ++ [a, b, d] : Bs) = c :: [a, b, d] from rfl, seq_good h (key a b d h1 h2 h3)]; simp; omega)
  rcases lead_parts h with ⟨_, _, e, o⟩ | ⟨_, e, o⟩ | ⟨_, _, e, o⟩ | ⟨_, e, o⟩ | ⟨_, e, o⟩ | ⟨_, _, e, o⟩ | ⟨_, e, o⟩
  · exact fin 0x90 0x80 0x80 (by decide) ((o _).2 (by decide)) (by decide) (by decide)
  · exact fin 0xa0 0x80 0x80 (by decide) ((o _).2 (by decide)) (by decide) (by decide)
  · exact fin 0x90 0x80 0x80 (by decide) ((o _).2 (by decide)) (by decide) (by decide)
  · exact fin 0x90 0x80 0x80 (by decide) ((o _).2 (by decide)) (by decide) (by decide)
  · exact fin 0x90 0x80 0x80 (by decide) ((o _).2 (by decide)) (by decide) (by decide)
  · exact fin 0x90 0x80 0x80 (by decide) ((o _).2 (by decide)) (by decide) (by decide)
  · exact fin 0x80 0x80 0x80 (by decide) ((o _).2 (by decide)) (by decide) (by decide)
theorem could1_ascii {c : UInt8} (h : c.toNat < 128) : couldF [c] = true := could_yes [0x90, 0x80, 0x80] (by decide) (by rw [List.singleton_append, seq_ascii _ h]; simp)
theorem could1_none {c : UInt8} (h1 : 128 ≤ c.toNat) (h : ¬ leadB c) : couldF [c] = false := could_no fun t _ => by rw [List.singleton_append, seq_none _ h1 h]; simp
theorem could2 {c d : UInt8} (h : leadB c) : couldF [c, d] = decide (okB c d) := by
  have hs := sz_bd h
  by_cases hd : okB c d
  · rw [decide_eq_true hd]
    refine could_yes [0x90, 0x80, 0x80] (by decide) ?_
    rw [show ([c, d] ++ [0x90, 0x80, 0x80] : Bs) = c :: d :: [0x90, 0x80, 0x80] from rfl, seq_good (t := d :: [0x90, 0x80, 0x80]) h ⟨by simp; omega, hd, fun _ => (by decide : contB 0x90), fun _ => (by decide : contB 0x80)⟩]
    simp; omega
  · rw [decide_eq_false hd]
    refine could_no fun t _ => ?_
    rw [show ([c, d] ++ t : Bs) = c :: d :: t from rfl, seq_bad (t := d :: t) h (fun hg => hd hg.2.1)]
    simp
theorem could3 {c d e : UInt8} (h : leadB c) (h3 : 3 ≤ szB c) (hd : okB c d) : couldF [c, d, e] = decide (contB e) := by
  have hs := sz_bd h
  by_cases he : contB e
  · rw [decide_eq_true he]
    refine could_yes [0x90, 0x80, 0x80] (by decide) ?_
    rw [show ([c, d, e] ++ [0x90, 0x80, 0x80] : Bs) = c :: d :: e :: [0x90, 0x80, 0x80] from rfl, seq_good (t := d :: e :: [0x90, 0x80, 0x80]) h ⟨by simp; omega, hd, fun _ => he, fun _ => (by decide : contB 0x90)⟩]
    simp; omega
  · rw [decide_eq_false he]
    refine could_no fun t _ => ?_
    rw [show ([c, d, e] ++ t : Bs) = c :: d :: e :: t from rfl, seq_bad (t := d :: e :: t) h (fun hg => he (hg.2.2.1 h3))]
    simp
theorem could4 {c d e g : UInt8} (h : leadB c) (h4 : szB c = 4) (hd : okB c d) (he : contB e) : couldF [c, d, e, g] = decide (contB g) := by
  by_cases hg : contB g
  · rw [decide_eq_true hg]
    refine could_yes [0x90, 0x80, 0x80] (by decide) ?_
    rw [show ([c, d, e, g] ++ [0x90, 0x80, 0x80] : Bs) = c :: d :: e :: g :: [0x90, 0x80, 0x80] from rfl, seq_good (t := d :: e :: g :: [0x90, 0x80, 0x80]) h ⟨by simp; omega, hd, fun _ => he, fun _ => hg⟩]
    simp; omega
  · rw [decide_eq_false hg]
    refine could_no fun t _ => ?_
    rw [show ([c, d, e, g] ++ t : Bs) = c :: d :: e :: g :: t from rfl, seq_bad (t := d :: e :: g :: t) h (fun hG => hg (hG.2.2.2 (by omega)))]
    simp
/-! ### how many bytes could begin a sequence -/
theorem full1 {c : UInt8} (h : leadB c) : fullB [c] = false := by
  have hs := sz_bd h
  simp only [fullB, List.getD_cons_zero, show (Lib.firstT c.toNat % 8) = szB c from rfl]
  rw [if_neg (by simp), if_neg (by simp; omega)]
  simp
theorem full2 {c d : UInt8} (h : leadB c) : fullB [c, d] = (decide (szB c = 2) || !decide (okB c d)) := by
  have hs := sz_bd h
  simp only [fullB, List.getD_cons_zero, List.getD_cons_succ, show (Lib.firstT c.toNat % 8) = szB c from rfl]
  rw [if_neg (by simp)]
  by_cases h2 : szB c = 2
  · rw [if_pos (by simp; omega), h2]; simp
  · rw [if_neg (by simp; omega), decide_eq_false h2, Bool.false_or]
    by_cases hd : okB c d
    · rw [if_neg, decide_eq_true hd]
      · simp
      · unfold okB at hd; simp; omega
    · rw [if_pos, decide_eq_false hd]
      · rfl
      · unfold okB at hd; simp; omega
theorem full3 {c d e : UInt8} (h : leadB c) (hd : okB c d) (h3 : 3 ≤ szB c) : fullB [c, d, e] = (decide (szB c = 3) || !decide (contB e)) := by
  have hs := sz_bd h
  simp only [fullB, List.getD_cons_zero, List.getD_cons_succ, show (Lib.firstT c.toNat % 8) = szB c from rfl]
  rw [if_neg (by simp)]
  by_cases h2 : szB c = 3
  · rw [if_pos (by simp; omega), h2]; simp
  · rw [if_neg (by simp; omega), decide_eq_false h2, Bool.false_or]
    rw [if_neg (by unfold okB at hd; simp; omega)]
    unfold contB
    by_cases he : 128 ≤ e.toNat ∧ e.toNat ≤ 191
    · rw [decide_eq_true he]; simp; omega
    · rw [decide_eq_false he]; simp; omega
theorem full4 {c d e g : UInt8} (h : leadB c) : fullB [c, d, e, g] = true := by
  have hs := sz_bd h
  simp only [fullB, List.getD_cons_zero, List.getD_cons_succ, show (Lib.firstT c.toNat % 8) = szB c from rfl]
  rw [if_neg (by simp), if_pos (by simp; omega)]
theorem brk_none {c : UInt8} (t : Bs) (h1 : 128 ≤ c.toNat) (h : ¬ leadB c) : brk (c :: t) = 0 := by
  have hf : Lib.firstT c.toNat = 241 := by
    unfold leadB at h
    unfold Lib.firstT at h ⊢
    repeat' split at h
    all_goals first | (exfalso; omega) | (exfalso; apply h; decide) | skip
    all_goals (repeat' split)
    all_goals first | rfl | (exfalso; omega)
  have hb : fullB [c] = true := by simp [fullB, hf]
  have : brkL (c :: t) 4 1 = 1 := by simp [brkL, hb]
  unfold brk; rw [this]; simp [hb]
theorem brk_one {c : UInt8} (h : leadB c) : brk [c] = 1 := by
  have hb := full1 h
  have : brkL [c] 4 1 = 1 := by simp [brkL]
  unfold brk; rw [this]; simp [hb]
theorem brk_two {c d : UInt8} (t : Bs) (h : leadB c) (hd : ¬ okB c d) : brk (c :: d :: t) = 1 := by
  have hb := full1 h
  have hb2 := full2 (d := d) h
  rw [decide_eq_false hd, Bool.not_false, Bool.or_true] at hb2
  have : brkL (c :: d :: t) 4 1 = 2 := by simp [brkL, hb, hb2]
  unfold brk; rw [this]; simp [hb2]
theorem brk_two_end {c d : UInt8} (h : leadB c) (hd : okB c d) (h3 : 3 ≤ szB c) : brk [c, d] = 2 := by
  have hb := full1 h
  have hb2 := full2 (d := d) h
  rw [decide_eq_true hd, decide_eq_false (by omega)] at hb2
  have : brkL [c, d] 4 1 = 2 := by simp [brkL, hb, hb2]
  unfold brk; rw [this]; simp [hb2]
theorem brk_three {c d e : UInt8} (t : Bs) (h : leadB c) (hd : okB c d) (h3 : 3 ≤ szB c) (he : ¬ contB e) : brk (c :: d :: e :: t) = 2 := by
  have hb := full1 h
  have hb2 := full2 (d := d) h
  have hb3 := full3 (e := e) h hd h3
  rw [decide_eq_true hd, decide_eq_false (by omega)] at hb2
  rw [decide_eq_false he, Bool.not_false, Bool.or_true] at hb3
  have : brkL (c :: d :: e :: t) 4 1 = 3 := by simp [brkL, hb, hb2, hb3]
  unfold brk; rw [this]; simp [hb3]
theorem brk_three_end {c d e : UInt8} (h : leadB c) (hd : okB c d) (h4 : szB c = 4) (he : contB e) : brk [c, d, e] = 3 := by
  have hb := full1 h
  have hb2 := full2 (d := d) h
  have hb3 := full3 (e := e) h hd (by omega)
  rw [decide_eq_true hd, decide_eq_false (by omega)] at hb2
  rw [decide_eq_true he, decide_eq_false (by omega)] at hb3
  have : brkL [c, d, e] 4 1 = 3 := by simp [brkL, hb, hb2, hb3]
  unfold brk; rw [this]; simp [hb3]
theorem brk_four {c d e g : UInt8} (t : Bs) (h : leadB c) (hd : okB c d) (h4 : szB c = 4) (he : contB e) : brk (c :: d :: e :: g :: t) = 3 := by
  have hb := full1 h
  have hb2 := full2 (d := d) h
  have hb3 := full3 (e := e) h hd (by omega)
  have hb4 := full4 (d := d) (e := e) (g := g) h
  rw [decide_eq_true hd, decide_eq_false (by omega)] at hb2
  rw [decide_eq_true he, decide_eq_false (by omega)] at hb3
  have : brkL (c :: d :: e :: g :: t) 4 1 = 4 := by simp [brkL, hb, hb2, hb3]
  unfold brk; rw [this]; simp [hb4]
end Fe
end Go.Proofs.YtlgagbglldehjaaDoor
