
/-
  Contracts of fence.fits, Fits and of the reference's fits, Fits.
-/
import Derived.Test.YtndcjgkgkpkklaaFnH
namespace Go.Proofs.Ytndcjgkgkpkklaa
open Go.RowKit
set_option linter.unusedSimpArgs false
set_option linter.unusedVariables false
set_option maxRecDepth 100000

def fitAt (s : Nat) (m : List ByteArray) (l : List Ent) (i : Nat) : Bool :=
  match m[i]?, l[(i + 1) * s - 1]?, l[(i + 1) * s]? with
  | some m, some x, some y => slt x.key m && !slt y.key m
  | _, _, _ => false
def fitB (s : Nat) (m : List ByteArray) (l : List Ent) : Bool := decide (m.length = cnt l.length s) && (List.range m.length).all (fitAt s m l)
theorem fitB_len {s : Nat} {m : List ByteArray} {l : List Ent} (h : m.length ≠ cnt l.length s) : fitB s m l = false := by simp [fitB, h]
theorem fitB_no {s : Nat} {m : List ByteArray} {l : List Ent} {k : Nat} (hk : k < m.length) (h : fitAt s m l k = false) : fitB s m l = false := by
  unfold fitB
  rw [Bool.and_eq_false_iff]; right
  rw [List.all_eq_false]
  exact ⟨k, by simp [hk], by simp [h]⟩
theorem fitB_yes {s : Nat} {m : List ByteArray} {l : List Ent} (h0 : m.length = cnt l.length s) (h : ∀ k, k < m.length → fitAt s m l k = true) : fitB s m l = true := by
  unfold fitB
  rw [Bool.and_eq_true]
  exact ⟨by simp [h0], by rw [List.all_eq_true]; intro x hx; exact h x (by simpa using hx)⟩
theorem cnt_at {n s k : Nat} (hs : 1 ≤ s) (h : k < cnt n s) : (k + 1) * s < n := by
  unfold cnt at h
  exact (ceil_facts n s hs).2.1 _ (by omega)

end Go.Proofs.Ytndcjgkgkpkklaa
