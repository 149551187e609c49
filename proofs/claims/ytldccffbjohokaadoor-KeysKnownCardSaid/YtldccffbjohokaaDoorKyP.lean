
/-
  Plain laws of keys: the least string above all that begin with one, the next key, common beginnings.
-/
import Derived.Test.YtldccffbjohokaaDoorKeysD
namespace Go.Proofs.YtldccffbjohokaaDoor
open Go.RowKit
set_option linter.unusedSimpArgs false
set_option linter.unusedVariables false
set_option maxRecDepth 100000

/-- The least string above all that begin with one; empty: there is none. -/
def rsd : List UInt8 → List UInt8
  | [] => []
  | a :: l => if rsd l = [] then (if a = 255 then [] else [a + 1]) else a :: rsd l
theorem rsd_255 : ∀ l : List UInt8, rsd (l ++ [255]) = rsd l
  | [] => by simp [rsd]
  | a :: l => by simp [rsd, rsd_255 l]
theorem rsd_snoc {c : UInt8} (h : c ≠ 255) : ∀ l : List UInt8, rsd (l ++ [c]) = l ++ [c + 1]
  | [] => by simp [rsd, h]
  | a :: l => by simp [rsd, rsd_snoc h l]
theorem rsd_len : ∀ l : List UInt8, (rsd l).length ≤ l.length
  | [] => by simp [rsd]
  | a :: l => by
    have := rsd_len l
    unfold rsd
    split
    · split <;> simp
    · simp only [List.length_cons]; omega
/-- One begins with the other. -/
def begs (S Y : List UInt8) : Bool := decide (S.length ≤ Y.length) && (Y.take S.length == S)
theorem begs_nil (Y : List UInt8) : begs [] Y = true := by simp [begs]
theorem begs_cons_nil (a : UInt8) (S : List UInt8) : begs (a :: S) [] = false := by simp [begs]
theorem begs_cons (a b : UInt8) (S Y : List UInt8) : begs (a :: S) (b :: Y) = ((b == a) && begs S Y) := by
  unfold begs
  simp only [List.length_cons, Nat.add_le_add_iff_right, List.take_succ_cons]
  by_cases h : b = a
  · subst h; simp
  · have : (b == a) = false := by simpa using h
    simp [h, this]
theorem u8_le {a b : UInt8} : ¬ b < a ↔ a ≤ b := by rw [UInt8.not_lt]
theorem u8_255 (b : UInt8) : ¬ b < 255 ↔ b = 255 := by
  rw [UInt8.not_lt]
  constructor
  · intro h
    apply UInt8.le_antisymm _ h
    rw [UInt8.le_iff_toNat_le]; have := b.toNat_lt; simp; omega
  · rintro rfl; exact UInt8.le_refl _
theorem u8_succ {a b : UInt8} (h : a ≠ 255) : b < a + 1 ↔ b ≤ a := by
  have h1 : a.toNat ≠ 255 := fun k => h (UInt8.toNat.inj k)
  have h2 := a.toNat_lt
  rw [UInt8.lt_iff_toNat_lt, UInt8.le_iff_toNat_le, UInt8.toNat_add]
  simp; omega
theorem rsd_none : ∀ S Y : List UInt8, rsd S = [] → Op.bytesLess Y S = !begs S Y
  | [], Y, _ => by cases Y <;> simp [Op.bytesLess, begs_nil]
  | a :: l, [], _ => by simp [Op.bytesLess, begs_cons_nil]
  | a :: l, b :: q, h => by
    unfold rsd at h
    by_cases hl : rsd l = []
    · rw [if_pos hl] at h
      have ha : a = 255 := by
        by_cases ha : a = 255
        · exact ha
        · rw [if_neg ha] at h; cases h
      subst ha
      have ih := rsd_none l q hl
      rw [begs_cons]
      simp only [Op.bytesLess, ih]
      by_cases hb : b = 255
      · subst hb; simp
      · have : b < 255 := by
          by_cases k : b < 255
          · exact k
          · exact absurd ((u8_255 b).1 k) hb
        simp [hb, this]
    · rw [if_neg hl] at h; cases h
theorem rsd_some : ∀ S Y : List UInt8, rsd S ≠ [] → (!Op.bytesLess Y S && Op.bytesLess Y (rsd S)) = begs S Y
  | [], Y, h => absurd rfl h
  | a :: l, [], h => by simp [Op.bytesLess, begs_cons_nil]
  | a :: l, b :: q, h => by
    rw [begs_cons]
    unfold rsd at h ⊢
    by_cases hl : rsd l = []
    · rw [if_pos hl] at h ⊢
      have ha : a ≠ 255 := by rintro rfl; simp at h
      rw [if_neg ha]
      have ih := rsd_none l q hl
      simp only [Op.bytesLess, ih]
      by_cases hb : b = a
      · subst hb
        have : b < b + 1 := (u8_succ ha).2 (UInt8.le_refl _)
        simp [this]
      · by_cases hlt : b < a
        · simp [hb, hlt]
        · have h1 : ¬ b < a + 1 := by
            rw [u8_succ ha]; intro h2; exact hb (UInt8.le_antisymm h2 (UInt8.not_lt.1 hlt))
          have h2 : (b == a) = false := by simpa using hb
          simp [h2, h1, Op.bytesLess]
    · rw [if_neg hl] at h ⊢
      have ih := rsd_some l q hl
      simp only [Op.bytesLess]
      by_cases hb : b = a
      · subst hb; simp; simpa using ih
      · by_cases hlt : b < a
        · simp [hb, hlt]
        · have h2 : (b == a) = false := by simpa using hb
          simp [h2, hlt]
/-- Nothing is between a string and the string with a zero behind it. -/
theorem bl_zero : ∀ S Y : List UInt8, Op.bytesLess Y (S ++ [0]) = !Op.bytesLess S Y
  | [], [] => by simp [Op.bytesLess]
  | [], b :: q => by
    have : ¬ b < 0 := by rw [UInt8.lt_iff_toNat_lt]; simp
    cases q <;> simp [Op.bytesLess, this]
  | a :: l, [] => by simp [Op.bytesLess]
  | a :: l, b :: q => by
    simp only [List.cons_append, Op.bytesLess, bl_zero l q]
    by_cases h : a = b
    · subst h; simp
    · rcases UInt8.lt_or_lt_of_ne h with k | k
      · simp [h, Ne.symm h, k, UInt8.lt_asymm k]
      · simp [h, Ne.symm h, k, UInt8.lt_asymm k]
/-- Of three in order the first and the last one have as many bytes in common as the pairs. -/
theorem cmn_three : ∀ A B C : List UInt8, Op.bytesLess B A = false → Op.bytesLess C B = false → cmn A C = min (cmn A B) (cmn B C)
  | [], B, C, _, _ => by simp [cmn_nil1]
  | _ :: _, [], C, h, _ => by simp [Op.bytesLess] at h
  | _ :: _, _ :: _, [], _, h => by simp [Op.bytesLess] at h
  | a :: A, b :: B, c :: C, h1, h2 => by
    simp only [Op.bytesLess, Bool.or_eq_false_iff, Bool.and_eq_false_iff, decide_eq_false_iff_not, beq_eq_false_iff_ne] at h1 h2
    by_cases hab : a = b
    · subst hab
      by_cases hbc : a = c
      · subst hbc
        have ih := cmn_three A B C (h1.2.resolve_left (by simp)) (h2.2.resolve_left (by simp))
        simp only [cmn, if_true, ih]; omega
      · simp [cmn, hbc]
    · have hac : a ≠ c := by
        rintro rfl
        exact hab (UInt8.le_antisymm (UInt8.not_lt.1 h1.1) (UInt8.not_lt.1 h2.1))
      simp [cmn, hab, hac]
theorem bl_begs_len {S Y : List UInt8} (h : begs S Y = true) (hl : Y.length ≤ S.length) : Y = S := by
  unfold begs at h
  simp only [Bool.and_eq_true, decide_eq_true_eq, beq_iff_eq] at h
  rw [List.take_of_length_le hl] at h
  exact h.2
end Go.Proofs.YtldccffbjohokaaDoor
