
/-
  Contracts of the reference's blocks, below, Block, Span.
-/
import Derived.Test.YtndcjgkgkpkklaaFnE
namespace Go.Proofs.Ytndcjgkgkpkklaa
open Go.RowKit
set_option linter.unusedSimpArgs false
set_option linter.unusedVariables false
set_option maxRecDepth 100000

theorem ceil_facts (n s : Nat) (hs : 1 ≤ s) : n ≤ (n + s - 1) / s * s ∧ (∀ m, m < (n + s - 1) / s → m * s < n) ∧ (n + s - 1) / s ≤ n := by
  have h1 := Nat.div_add_mod (n + s - 1) s
  have h2 := Nat.mod_lt (n + s - 1) (show 0 < s by omega)
  generalize hq : (n + s - 1) / s = q at *
  have h3 : s * q = q * s := Nat.mul_comm _ _
  refine ⟨by omega, fun m hm => ?_, ?_⟩
  · have h4 : (m + 1) * s ≤ q * s := Nat.mul_le_mul_right s (by omega)
    rw [Nat.add_mul] at h4; omega
  · rcases Nat.lt_or_ge n q with h | h
    · have h4 : (n + 1) * s ≤ q * s := Nat.mul_le_mul_right s (by omega)
      have h5 : n * 1 ≤ n * s := Nat.mul_le_mul_left n hs
      rw [Nat.add_mul] at h4; omega
    · exact h

/-- As the reference counts them. -/
theorem cntLt_take {l : List ByteArray} {j : Nat} {x : ByteArray} (h : l[j]? = some x) (k : ByteArray) : cntLt (l.take (j + 1)) k = cntLt (l.take j) k + if slt x k = true then 1 else 0 := by
  obtain ⟨hk, rfl⟩ := List.getElem?_eq_some_iff.1 h
  rw [List.take_succ_eq_append_getElem hk]; unfold cntLt; rw [List.filter_append, List.length_append]
  cases h : slt l[j] k <;> simp [h]
theorem cntLe_take {l : List ByteArray} {j : Nat} {x : ByteArray} (h : l[j]? = some x) (k : ByteArray) : cntLe (l.take (j + 1)) k = cntLe (l.take j) k + if slt k x = true then 0 else 1 := by
  obtain ⟨hk, rfl⟩ := List.getElem?_eq_some_iff.1 h
  rw [List.take_succ_eq_append_getElem hk]; unfold cntLe; rw [List.filter_append, List.length_append]
  cases h : slt k l[j] <;> simp [h]

end Go.Proofs.Ytndcjgkgkpkklaa
