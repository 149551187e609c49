
/-
  Contract of keys.Meet.
-/
import Derived.Test.YtndcjgkgkpkklaaKyE
import Derived.Lib.MinMaxS
namespace Go.Proofs.Ytndcjgkgkpkklaa
open Go.RowKit
set_option linter.unusedSimpArgs false
set_option linter.unusedVariables false
set_option maxRecDepth 100000

theorem maxS_eq (x y : ByteArray) : Lib.maxS x y = if slt x y = true then y else x := by
  unfold Lib.maxS slt
  rw [Proofs.bytesLess_eq, toL, toL]
  simp
theorem minS_eq (x y : ByteArray) : Lib.minS x y = if slt y x = true then y else x := by
  unfold Lib.minS
  have e1 : (x.data.toList < y.data.toList) ↔ slt x y = true := by unfold slt; rw [Proofs.bytesLess_eq, toL, toL]; simp
  have e2 : x.data.toList = y.data.toList ↔ x = y := by rw [← toL, ← toL]; exact ⟨str_ext, fun h => by rw [h]⟩
  simp only [e1, e2]
  cases h : slt y x
  · cases k : slt x y
    · have := slt_tri h k; subst this; simp
    · simp
  · have k := slt_asymm h
    have hne : x ≠ y := by rintro rfl; rw [slt_irrefl] at h; cases h
    simp [k, hne]


end Go.Proofs.Ytndcjgkgkpkklaa
