
/-
  Contracts of words: bare fields.
-/
import Derived.Test.YtkbfjficmdgjpaaGreatDoorWoB
namespace Go.Proofs.YtkbfjficmdgjpaaGreatDoor
open Go.RowKit
set_option linter.unusedSimpArgs false
set_option linter.unusedVariables false
set_option maxRecDepth 100000

theorem bare_stop {l : List UInt8} {k : Nat} {c : UInt8} (h : l[k]? = some c) (hc : plainB c = false ∨ c = 32) : bareW l = false := by
  have hm := List.mem_of_getElem? h
  unfold bareW
  rw [Bool.and_eq_false_iff]
  right
  rw [List.all_eq_false]
  refine ⟨c, hm, ?_⟩
  rcases hc with e | rfl
  · simp [e]
  · simp
theorem bare_all {l : List UInt8} (h : ∀ (j : Nat) c, l[j]? = some c → plainB c = true ∧ c ≠ 32) : bareW l = !l.isEmpty := by
  unfold bareW
  have : l.all (fun c => plainB c && c != 32) = true := by
    rw [List.all_eq_true]
    intro c hc
    obtain ⟨j, hj, rfl⟩ := List.getElem_of_mem hc
    have := h j _ (List.getElem?_eq_getElem hj)
    simp [this.1, this.2]
  rw [this, Bool.and_true]
theorem str_get {s : ByteArray} {k : Nat} (h : k < s.size) : s.data.toList[k]? = some (s[k]'h) := by
  rw [List.getElem?_eq_getElem (by simpa using h)]; simp [ByteArray.getElem_eq_getElem_data]
end Go.Proofs.YtkbfjficmdgjpaaGreatDoor
