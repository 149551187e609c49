
/-
  Contracts of words: the reference's quoted forms.
-/
import Derived.Test.YtfjdcfmoodlnaaaGreatDoorWoI
import Derived.Test.YtfjdcfmoodlnaaaGreatDoorWoE
namespace Go.Proofs.YtfjdcfmoodlnaaaGreatDoor
open Go.RowKit
set_option linter.unusedSimpArgs false
set_option linter.unusedVariables false
set_option maxRecDepth 100000

theorem pre_dec {t : List UInt8} {c : UInt8} (h : escW c <+: t) : dec1 t = some (c, (escW c).length) := by
  obtain ⟨r, rfl⟩ := h; exact esc_dec c r
theorem no_dec {t : List UInt8} (h : ∀ x : UInt8, x.toNat < 256 → ¬ escW x <+: t) : dec1 t = none := by
  cases hd : dec1 t with
  | none => rfl
  | some p =>
    obtain ⟨c, n⟩ := p
    obtain ⟨r, h1, _⟩ := dec_esc hd
    exact absurd ⟨r, h1.symm⟩ (h c c.toNat_lt)
theorem ext_mid (s : ByteArray) (a b : Nat) : (s.extract a b).data.toList = (s.data.toList.drop a).take (b - a) := by
  rw [ByteArray.data_extract]; simp [List.take_drop]
theorem pre_take {t q : List UInt8} (h : q.length ≤ t.length) : t.take q.length = q ↔ q <+: t := by
  rw [List.prefix_iff_eq_take]; exact eq_comm
/-- What the inner loop knows. -/
def Inn (w wr : World) (l : List UInt8) (k : Nat) (acc : List UInt8) (v i f c : Value) (g : Nat) : Prop :=
  (∃ j : Nat, j ≤ 256 ∧ c = .int .i64 j ∧ f = .bool false ∧ i = .int .i64 k ∧ wr.ownsRow w.heap.size 5 1 v acc.length (Lib.byteCells acc) ∧ Bl w wr ∧ (∀ x : UInt8, x.toNat < j → ¬ escW x <+: l.drop k) ∧ g = 256 - j) ∨
  (∃ (j : Nat) (x : UInt8) (n : Nat), c = .int .i64 j ∧ j ≤ 256 ∧ f = .bool true ∧ i = .int .i64 ((k + n : Nat) : Int) ∧ wr.ownsRow w.heap.size 5 1 v (acc ++ [x]).length (Lib.byteCells (acc ++ [x])) ∧ Bl w wr ∧ dec1 (l.drop k) = some (x, n))
end Go.Proofs.YtfjdcfmoodlnaaaGreatDoor
