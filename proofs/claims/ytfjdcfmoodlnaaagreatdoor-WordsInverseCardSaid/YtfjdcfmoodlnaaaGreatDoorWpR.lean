
/-
  An argument of the law WordsInverse, opened: numbers, and a number.
-/
import Derived.Test.YtfjdcfmoodlnaaaGreatDoorWpO
namespace Go.Proofs.YtfjdcfmoodlnaaaGreatDoor
open Go.RowKit Go.ChangeShapes Go.WideShapes Go.Deep Go.Joins
set_option linter.unusedSimpArgs false
set_option linter.unusedVariables false
set_option maxRecDepth 100000
section
variable {H : Type} {enc : TypeId × Value → H} {w : World}
theorem arg_numbers {base : Nat} {v : Value} {d : DataW H} {p : List MemPlace} (hv : Value.okWide Tryz.prog w .any base 39 v) (h : DataW.Trod enc Tryz.prog w 0 (fun _ => true) true 39 v d p) :
    ∃ a c l z, v = .agg #[.slice a l.length c, .int .i64 z] ∧ Nums w a l ∧ l.length ≤ c ∧ c ≤ maxLen ∧ (∀ (j : Nat) x, l[j]? = some x → -9223372036854775808 ≤ x ∧ x ≤ 9223372036854775807) ∧ -9223372036854775808 ≤ z ∧ z ≤ 9223372036854775807 := by
  have ff : ∃ f0 f1 : Field, Tryz.prog.underlying 39 = some (.struct #[f0, f1]) ∧ oneCellFields Tryz.prog #[f0, f1] = true ∧ f0.type = 22 ∧ f1.type = 2 := ⟨_, _, Tryz.underlying39, by kernel_rfl, rfl, rfl⟩
  obtain ⟨F0, F1, hund, hone, t0, t1⟩ := ff
  obtain ⟨v0, v1, y0, y1, n, rfl, _, _, h0, h1⟩ := open_agg2 hund hone (by kernel_rfl) hv h
  rw [t0] at h0; rw [t1] at h1
  obtain ⟨a, c, l, e0, g0, g1, g2, g3⟩ := open_nums h0
  obtain ⟨s, e1, _, b⟩ := DataW.trod_int Tryz.underlying2 h1
  simp at e0 e1
  subst e0 e1
  simp [Lit.wf, IntKind.min, IntKind.max, IntKind.signed, IntKind.bits] at b
  exact ⟨a, c, l, s, rfl, g0, g1, g2, g3, by omega, by omega⟩
end
end Go.Proofs.YtfjdcfmoodlnaaaGreatDoor
