
/-
  Arguments of words' laws, opened: an int64, numbers, fields.
-/
import Derived.Test.YtfjdcfmoodlnaaaGreatDoorOpen
import Derived.Test.YtfjdcfmoodlnaaaGreatDoorWoK
import Derived.ProofKit
import Derived.OpenShut
import Derived.Deep.Slices
import Derived.Deep.Fields
namespace Go.Proofs.YtfjdcfmoodlnaaaGreatDoor
set_option maxRecDepth 100000
open Go.RowKit Go.ChangeShapes Go.WideShapes Go.Deep Go.Joins
set_option linter.unusedSimpArgs false
set_option linter.unusedVariables false
section
variable {H : Type} {enc : TypeId × Value → H} {w : World}
theorem arg_int64 {base : Nat} {v : Value} {d : DataW H} {p : List MemPlace} (hv : Value.okWide Tryz.prog w .any base 2 v) (h : DataW.Trod enc Tryz.prog w 0 (fun _ => true) true 2 v d p) :
    ∃ s, v = .int .i64 s ∧ -9223372036854775808 ≤ s ∧ s ≤ 9223372036854775807 := by
  obtain ⟨s, e, _, _, b⟩ := open_int Tryz.underlying2 hv h
  simp [Lit.wf, IntKind.min, IntKind.max, IntKind.signed, IntKind.bits] at b
  exact ⟨s, e, by omega, by omega⟩
theorem open_flds {fuel : Nat} {cs : List Value} {x : DataW H × List MemPlace} (h : DataW.trod enc Tryz.prog w 0 (fun _ => true) true fuel 34 cs = some x) :
    ∃ a c l, cs = [.slice a l.length c] ∧ Flds w a l ∧ l.length ≤ c ∧ c ≤ maxLen := by
  rcases open_slice Tryz.underlying34 h with ⟨rfl, _⟩ | ⟨a, len, cap, m, n, D, Pl, rfl, _, hl, hm, hmm, _, hi⟩
  · exact ⟨none, 0, [], rfl, ⟨fun h => absurd rfl h⟩, Nat.le_refl _, by unfold maxLen; omega⟩
  · have hm' : m = cap := by simpa using hmm
    rw [show Tryz.prog.cellsOf 47 = 2 by kernel_rfl] at hi
    have each : ∀ i, i < len → ∃ y : Fld, w.cell? (a.add (i * 2)) = some (.string ⟨y.s.toArray⟩) ∧ w.cell? (a.add (i * 2 + 1)) = some (.bool y.q) := by
      intro i hlt
      obtain ⟨cs', hc, ht⟩ := hi i (by omega)
      obtain ⟨_, hcl, hat⟩ := World.cells?_some hc
      have ff : ∃ f0 f1 : Field, Tryz.prog.underlying 47 = some (.struct #[f0, f1]) ∧ oneCellFields Tryz.prog #[f0, f1] = true ∧ f0.type = 9 ∧ f1.type = 4 := ⟨_, _, Tryz.underlying47, by kernel_rfl, rfl, rfl⟩
      obtain ⟨F0, F1, hund, hone, t0, t1⟩ := ff
      obtain ⟨ys, n', _, _, _, hyl, hf⟩ := DataW.trod_struct hund ht
      match cs', hcl with
      | [v0, v1], _ =>
        match ys, hyl with
        | [y0, y1], _ =>
          have f0 := hf 0 F0 rfl
          have f1 := hf 1 F1 rfl
          have hone := hone_of hone
          obtain ⟨o0, k0⟩ := hone 0 F0 rfl
          obtain ⟨o1, k1⟩ := hone 1 F1 rfl
          rw [o0, k0, t0] at f0
          rw [o1, k1, t1] at f1
          obtain ⟨s0, e0, _, h0⟩ := DataW.trod_string Tryz.underlying9 f0
          obtain ⟨s1, e1, _⟩ := DataW.trod_bool Tryz.underlying4 f1
          simp at e0 e1
          subst e0 e1
          have g0 := hat 0 (by omega)
          have g1 := hat 1 (by omega)
          rw [Go.Deep.add_add] at g0 g1
          exact ⟨⟨s0.data.toList, s1⟩, g0, g1⟩
    rcases Nat.eq_zero_or_pos len with hz | hpos
    · subst hz
      exact ⟨some a, cap, [], rfl, ⟨fun h => absurd rfl h⟩, by simp, hm⟩
    have hs : a.spot = none := by
      obtain ⟨y, g, _⟩ := each 0 hpos
      have := World.cell?_spot g
      simpa [Addr.add] using this
    obtain ⟨b, o, s⟩ := a
    simp only at hs; subst hs
    simp only [addr_add] at each
    obtain ⟨l, hll, hlq⟩ := list_of _ len each
    refine ⟨some ⟨b, o, none⟩, cap, l, by rw [hll], ⟨fun hn => ?_⟩, by omega, hm⟩
    · refine ⟨b, o, rfl, fun i y hy => ?_⟩
      obtain ⟨g0, g1⟩ := hlq i y hy
      exact ⟨g0, by rw [Nat.add_assoc]; exact g1⟩
/-- Fields that came in. -/
theorem arg_flds {base : Nat} {v : Value} {d : DataW H} {p : List MemPlace} (hv : Value.okWide Tryz.prog w .any base 34 v) (h : DataW.Trod enc Tryz.prog w 0 (fun _ => true) true 34 v d p) :
    ∃ a c l, v = .slice a l.length c ∧ Flds w a l ∧ l.length ≤ c ∧ c ≤ maxLen := by
  obtain ⟨a, n, c, rfl⟩ := okWide_slice Tryz.underlying34 hv
  obtain ⟨fuel, hf⟩ := h
  obtain ⟨a', c', l, h1, h2, h3, h4⟩ := open_flds hf
  simp [Value.cells] at h1
  obtain ⟨rfl, rfl, rfl⟩ := h1
  exact ⟨_, _, l, rfl, h2, h3, h4⟩
end
end Go.Proofs.YtfjdcfmoodlnaaaGreatDoor
