
/-
  Plain facts of the shortest string between two.
-/
import Derived.Test.YtldccffbjohokaaDoorKeysD
namespace Go.Proofs.YtldccffbjohokaaDoor
open Go.RowKit
set_option linter.unusedSimpArgs false
set_option linter.unusedVariables false
set_option maxRecDepth 100000

theorem bet_pre : ∀ S T Y : List UInt8, Op.bytesLess S T = true → Op.bytesLess S Y = true → Op.bytesLess T Y = false → Y.take (cmn S T) = T.take (cmn S T) ∧ cmn S T < Y.length
  | [], T, [], _, h2, _ => by simp [Op.bytesLess] at h2
  | [], T, _ :: _, _, _, _ => by simp [cmn_nil1]
  | _ :: _, [], _, h1, _, _ => by simp [Op.bytesLess] at h1
  | _ :: _, _ :: _, [], _, h2, _ => by simp [Op.bytesLess] at h2
  | a :: l, b :: r, c :: q, h1, h2, h3 => by
    by_cases hab : a = b
    · subst hab
      simp only [Op.bytesLess, Bool.or_eq_true, Bool.and_eq_true, decide_eq_true_eq, beq_iff_eq, Bool.or_eq_false_iff, Bool.and_eq_false_iff, decide_eq_false_iff_not, beq_eq_false_iff_ne] at h1 h2 h3
      have h1' : Op.bytesLess l r = true := h1.elim (fun h => absurd h (UInt8.lt_irrefl a)) (fun h => h.2)
      obtain ⟨hac, h2'⟩ := h2.resolve_left h3.1
      subst hac
      have h3' := h3.2.resolve_left (by simp)
      obtain ⟨i1, i2⟩ := bet_pre l r q h1' h2' h3'
      simp only [cmn, if_true, List.take_succ_cons, List.length_cons, i1]
      exact ⟨trivial, by omega⟩
    · simp [cmn, hab]
theorem betS_in {s t : ByteArray} (h : slt s t = true) : slt s (betS s t) = true ∧ slt t (betS s t) = false := by
  rw [betS_t s t _ rfl]; exact (bet_try s t h _ _ rfl).2 rfl
theorem cmn_lt {s t : ByteArray} (h : slt s t = true) : cmn s.data.toList t.data.toList < t.size := by
  unfold slt at h
  rw [toL, toL, bl_cmn] at h
  have := of_decide_eq_true h
  simpa using this.1
theorem betS_len {s t : ByteArray} (h : slt s t = true) : (betS s t).size = cmn s.data.toList t.data.toList + 1 := by
  have := cmn_lt h
  rw [betS_t s t _ rfl, ByteArray.size_append, ByteArray.size_extract, show (⟨#[endB s (cmn s.data.toList t.data.toList)]⟩ : ByteArray).size = 1 from rfl]; omega
theorem betS_least {s t y : ByteArray} (h1 : slt s t = true) (h2 : slt s y = true) (h3 : slt t y = false) : (betS s t).size ≤ y.size ∧ (y.size = (betS s t).size → slt y (betS s t) = false) := by
  have hp := bet_pre s.data.toList t.data.toList y.data.toList (by rw [← toL, ← toL]; exact h1) (by rw [← toL, ← toL]; exact h2) (by rw [← toL, ← toL]; exact h3)
  have hb := betS_t s t _ rfl
  have ht := bet_try s t h1
  rw [betS_len h1]
  generalize cmn s.data.toList t.data.toList = n at *
  obtain ⟨p1, p2⟩ := hp
  have p2' : n < y.size := by simpa using p2
  refine ⟨p2', fun he => ?_⟩
  have hy : y = t.extract 0 n ++ ⟨#[y.data.toList[n]]⟩ := by
    apply str_ext
    rw [cat_list, toL, ← p1]
    conv => lhs; rw [← List.take_append_drop n y.data.toList]
    rw [List.drop_eq_getElem_cons p2, List.drop_of_length_le (by simp; omega)]
  have hc : ¬ y.data.toList[n] < endB s n := by
    intro hlt
    have := (ht _ n rfl).1 hlt
    rw [← hy, h2] at this; cases this
  rw [hb, hy]
  unfold slt
  rw [cat_list, cat_list, bl_app]
  have : ¬ y.data.toList[n] < endB s n := hc
  simp [Op.bytesLess] at this ⊢
  exact this
end Go.Proofs.YtldccffbjohokaaDoor
