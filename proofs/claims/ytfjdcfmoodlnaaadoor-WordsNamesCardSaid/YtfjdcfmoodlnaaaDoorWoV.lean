
/-
  Arguments of words' laws, opened: an int64, numbers, fields.
-/
import Derived.Test.YtfjdcfmoodlnaaaDoorOpen
import Derived.Test.YtfjdcfmoodlnaaaDoorWoK
namespace Go.Proofs.YtfjdcfmoodlnaaaDoor
set_option maxRecDepth 100000
open Go.RowKit Go.ChangeShapes Go.WideShapes Go.ChangeAt
set_option linter.unusedVariables false
section
variable {H : Type} {enc : TypeId × Value → H} {w : World}
theorem arg_int64 {base : Nat} {v : Value} {d : DataW H} {p : List MemPlace} (hv : Value.okWide Tryd.prog w .any base 2 v) (h : DataW.Trod enc Tryd.prog w 0 (fun _ => true) true 2 v d p) :
    ∃ s, v = .int .i64 s ∧ -9223372036854775808 ≤ s ∧ s ≤ 9223372036854775807 := by
  obtain ⟨s, e, _, _, b⟩ := open_int Tryd.underlying2 hv h
  simp [Lit.wf, IntKind.min, IntKind.max, IntKind.signed, IntKind.bits] at b
  exact ⟨s, e, by omega, by omega⟩
end
end Go.Proofs.YtfjdcfmoodlnaaaDoor
