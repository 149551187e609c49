
/-
  Arguments opened: a small number; a list of small numbers.
-/
import Derived.Test.YtidclkojekodpaaDoorHnZ
namespace Go.Proofs.YtidclkojekodpaaDoor
open Go.RowKit Go.ChangeShapes Go.WideShapes Go.Deep Go.Joins
set_option linter.unusedSimpArgs false
set_option linter.unusedVariables false
set_option maxRecDepth 100000

section
variable {H : Type} {enc : TypeId × Value → H} {w : World}
theorem arg_u8 {base : Nat} {v : Value} {d : DataW H} {p : List MemPlace} (hv : Value.okWide Tryd.prog w .any base 5 v) (h : DataW.Trod enc Tryd.prog w 0 (fun _ => true) true 5 v d p) :
    ∃ n : Nat, v = .int .u8 n ∧ n < 256 := by
  obtain ⟨s, e, _, _, b⟩ := open_int Tryd.underlying5 hv h
  simp [Lit.wf, IntKind.min, IntKind.max, IntKind.signed, IntKind.bits] at b
  obtain ⟨n, rfl⟩ : ∃ n : Nat, s = n := ⟨s.toNat, by omega⟩
  exact ⟨n, e, by omega⟩
/-- Small numbers in memory. -/
structure U8s (w : World) (a : Option Addr) (l : List Nat) : Prop where
  lt : ∀ x, x ∈ l → x < 256
  at_ : l ≠ [] → ∃ b off, a = some ⟨b, off, none⟩ ∧ ∀ (i : Nat) x, l[i]? = some x → w.cell? ⟨b, off + i, none⟩ = some (.int .u8 (x : Nat))
theorem U8s.bl {w w' : World} {a : Option Addr} {l : List Nat} (h : U8s w a l) (k : Bl w w') : U8s w' a l :=
  ⟨h.lt, fun hn => let ⟨b, off, e, f⟩ := h.at_ hn; ⟨b, off, e, fun i x hx => k.cell (f i x hx)⟩⟩
theorem U8s.get {w : World} {a : Option Addr} {l : List Nat} (h : U8s w a l) {k : Nat} (hk : k < l.length) :
    ∃ b off, a = some ⟨b, off, none⟩ ∧ ∀ (i : Nat) x, l[i]? = some x → w.cell? ⟨b, off + i, none⟩ = some (.int .u8 (x : Nat)) := h.at_ (by rintro rfl; simp at hk)
end
end Go.Proofs.YtidclkojekodpaaDoor
