
/-
  Arguments opened: a table of handles, a handle, small numbers.
-/
import Derived.Test.YtidclkojekodpaaGreatDoorOpen
import Derived.Test.YtidclkojekodpaaGreatDoorHnP
namespace Go.Proofs.YtidclkojekodpaaGreatDoor
open Go.RowKit Go.ChangeShapes Go.WideShapes Go.Deep Go.Joins
set_option linter.unusedSimpArgs false
set_option linter.unusedVariables false
set_option maxRecDepth 100000

section
variable {H : Type} {enc : TypeId × Value → H} {w : World}
theorem open_slots {fuel : Nat} {cs : List Value} {x : DataW H × List MemPlace} (h : DataW.trod enc Tryz.prog w 0 (fun _ => true) true fuel 22 cs = some x) :
    ∃ a c l, cs = [.slice a l.length c] ∧ Slots w a l ∧ l.length ≤ c ∧ c ≤ maxLen := by
  rcases open_slice Tryz.underlying22 h with ⟨rfl, _⟩ | ⟨a, len, cap, m, n, D, Pl, rfl, _, hl, hm, hmm, _, hi⟩
  · exact ⟨none, 0, [], rfl, ⟨by simp, fun h => absurd rfl h⟩, Nat.le_refl _, by unfold maxLen; omega⟩
  · have hm' : m = cap := by simpa using hmm
    rw [show Tryz.prog.cellsOf 35 = 2 by kernel_rfl] at hi
    have each : ∀ i, i < len → ∃ y : Slot, y.ok ∧ w.cell? (a.add (i * 2)) = some (.int .i64 y.gen) ∧ w.cell? (a.add (i * 2 + 1)) = some (.bool y.used) := by
      intro i hlt
      obtain ⟨cs', hc, ht⟩ := hi i (by omega)
      obtain ⟨_, hcl, hat⟩ := World.cells?_some hc
      have ff : ∃ f0 f1 : Field, Tryz.prog.underlying 35 = some (.struct #[f0, f1]) ∧ oneCellFields Tryz.prog #[f0, f1] = true ∧ f0.type = 3 ∧ f1.type = 4 := ⟨_, _, Tryz.underlying35, by kernel_rfl, rfl, rfl⟩
      obtain ⟨F0, F1, hund, hone, t0, t1⟩ := ff
      obtain ⟨ys, n', _, _, _, hyl, hf⟩ := DataW.trod_struct hund ht
      match cs', hcl with
      | [v0, v1], _ =>
        match ys, hyl with
        | [y0, y1], _ =>
          have f0 := hf 0 F0 rfl
          have f1 := hf 1 F1 rfl
          have hone := hone_of hone
          obtain ⟨o0, k0⟩ := hone 0 F0 rfl
          obtain ⟨o1, k1⟩ := hone 1 F1 rfl
          rw [o0, k0, t0] at f0
          rw [o1, k1, t1] at f1
          obtain ⟨s0, e0, _, h0⟩ := DataW.trod_int Tryz.underlying3 f0
          obtain ⟨s1, e1, _⟩ := DataW.trod_bool Tryz.underlying4 f1
          simp at e0 e1
          subst e0 e1
          simp [Lit.wf, IntKind.min, IntKind.max, IntKind.signed, IntKind.bits] at h0
          have g0 := hat 0 (by omega)
          have g1 := hat 1 (by omega)
          rw [Go.Deep.add_add] at g0 g1
          exact ⟨⟨s0, s1⟩, ⟨(show -9223372036854775808 ≤ s0 by omega), (show s0 ≤ 9223372036854775807 by omega)⟩, g0, g1⟩
    rcases Nat.eq_zero_or_pos len with hz | hpos
    · subst hz
      exact ⟨some a, cap, [], rfl, ⟨by simp, fun h => absurd rfl h⟩, by simp, hm⟩
    have hs : a.spot = none := by
      obtain ⟨y, _, g, _⟩ := each 0 hpos
      have := World.cell?_spot g
      simpa [Addr.add] using this
    obtain ⟨b, o, s⟩ := a
    simp only at hs; subst hs
    simp only [addr_add] at each
    obtain ⟨l, hll, hlq⟩ := list_of _ len each
    refine ⟨some ⟨b, o, none⟩, cap, l, by rw [hll], ⟨fun y hy => ?_, fun hn => ?_⟩, by omega, hm⟩
    · obtain ⟨i, hi, rfl⟩ := List.getElem_of_mem hy
      exact (hlq i _ (List.getElem?_eq_getElem hi)).1
    · refine ⟨b, o, rfl, fun i y hy => ?_⟩
      obtain ⟨_, g0, g1⟩ := hlq i y hy
      exact ⟨g0, by rw [Nat.add_assoc]; exact g1⟩
/-- A table. -/
theorem arg_table {base : Nat} {v : Value} {d : DataW H} {p : List MemPlace} (hv : Value.okWide Tryz.prog w .any base 24 v) (h : DataW.Trod enc Tryz.prog w 0 (fun _ => true) true 24 v d p) :
    ∃ a c t, v = Tb.v t a c ∧ TOk w a c t := by
  have ff : ∃ f0 f1 : Field, Tryz.prog.underlying 24 = some (.struct #[f0, f1]) ∧ oneCellFields Tryz.prog #[f0, f1] = true ∧ f0.type = 3 ∧ f1.type = 22 := ⟨_, _, Tryz.underlying24, by kernel_rfl, rfl, rfl⟩
  obtain ⟨F0, F1, hund, hone, t0, t1⟩ := ff
  obtain ⟨v0, v1, y0, y1, n, rfl, _, _, h0, h1⟩ := open_agg2 hund hone (by kernel_rfl) hv h
  rw [t0] at h0; rw [t1] at h1
  obtain ⟨s, e0, _, b⟩ := DataW.trod_int Tryz.underlying3 h0
  simp at e0; subst e0
  obtain ⟨a, c, l, e1, g1, g2, g3⟩ := open_slots h1
  simp at e1; subst e1
  simp [Lit.wf, IntKind.min, IntKind.max, IntKind.signed, IntKind.bits] at b
  exact ⟨a, c, ⟨s, l⟩, rfl, ⟨g1, g2, g3, (show -9223372036854775808 ≤ s by omega), (show s ≤ 9223372036854775807 by omega)⟩⟩
/-- A handle. -/
theorem arg_handle {base : Nat} {v : Value} {d : DataW H} {p : List MemPlace} (hv : Value.okWide Tryz.prog w .any base 37 v) (h : DataW.Trod enc Tryz.prog w 0 (fun _ => true) true 37 v d p) :
    ∃ i g, v = .agg #[.int .i64 i, .int .i64 g] ∧ (-9223372036854775808 ≤ i ∧ i ≤ 9223372036854775807) ∧ (-9223372036854775808 ≤ g ∧ g ≤ 9223372036854775807) := by
  have ff : ∃ f0 f1 : Field, Tryz.prog.underlying 37 = some (.struct #[f0, f1]) ∧ oneCellFields Tryz.prog #[f0, f1] = true ∧ f0.type = 3 ∧ f1.type = 3 := ⟨_, _, Tryz.underlying37, by kernel_rfl, rfl, rfl⟩
  obtain ⟨F0, F1, hund, hone, t0, t1⟩ := ff
  obtain ⟨v0, v1, y0, y1, n, rfl, _, _, h0, h1⟩ := open_agg2 hund hone (by kernel_rfl) hv h
  rw [t0] at h0; rw [t1] at h1
  obtain ⟨s, e0, _, b0⟩ := DataW.trod_int Tryz.underlying3 h0
  obtain ⟨g, e1, _, b1⟩ := DataW.trod_int Tryz.underlying3 h1
  simp at e0 e1; subst e0 e1
  simp [Lit.wf, IntKind.min, IntKind.max, IntKind.signed, IntKind.bits] at b0 b1
  exact ⟨s, g, rfl, ⟨by omega, by omega⟩, ⟨by omega, by omega⟩⟩
end
end Go.Proofs.YtidclkojekodpaaGreatDoor
