
/-
  Arguments opened: a list of entries, a list of strings, a fence, a range.
-/
import Derived.Test.YtbdiiopmjaeaaaaDoorLib
import Derived.ProofKit
import Derived.OpenShut
import Derived.ShutString
import Derived.ChangeOld
import Derived.Deep.Slices
import Derived.Deep.Fields
import Derived.Lib.SmallJoins
import Derived.SliceStrings
namespace Go.Proofs.YtbdiiopmjaeaaaaDoor
open Go.RowKit Go.ChangeShapes Go.WideShapes Go.Deep Go.Joins
set_option linter.unusedSimpArgs false
set_option linter.unusedVariables false
set_option maxRecDepth 100000

theorem list_of {α : Type} (Q : Nat → α → Prop) : ∀ (n : Nat), (∀ i, i < n → ∃ x, Q i x) → ∃ l : List α, l.length = n ∧ ∀ i x, l[i]? = some x → Q i x
  | 0, _ => ⟨[], rfl, by simp⟩
  | n + 1, h => by
    obtain ⟨l, hl, hq⟩ := list_of Q n (fun i hi => h i (by omega))
    obtain ⟨x, hx⟩ := h n (by omega)
    refine ⟨l ++ [x], by simp [hl], fun i y hy => ?_⟩
    rcases Nat.lt_or_ge i n with hi | hi
    · rw [List.getElem?_append_left (by omega)] at hy; exact hq i y hy
    · have : i = n := by
        have := (List.getElem?_eq_some_iff.1 hy).1; simp at this; omega
      subst this
      rw [List.getElem?_append_right (by omega)] at hy
      simp [hl] at hy; subst hy; exact hx
theorem addr_add (b off i : Nat) : ({ block := b, off := off, spot := none } : Addr).add i = ⟨b, off + i, none⟩ := by
  unfold Addr.add; split <;> simp_all

section
variable {H : Type} {enc : TypeId × Value → H} {w : World}
theorem ent_fields : ∃ f0 f1 f2 f3 : Field, Tryd.prog.underlying 23 = some (.struct #[f0, f1, f2, f3]) ∧ oneCellFields Tryd.prog #[f0, f1, f2, f3] = true ∧ f0.type = 9 ∧ f1.type = 9 ∧ f2.type = 4 ∧ f3.type = 2 :=
  ⟨_, _, _, _, Tryd.underlying23, by kernel_rfl, rfl, rfl, rfl, rfl⟩
/-- A list of entries that came in. -/
theorem open_ents {fuel : Nat} {cs : List Value} {x : DataW H × List MemPlace} (h : DataW.trod enc Tryd.prog w 0 (fun _ => true) true fuel 33 cs = some x) :
    ∃ a c l, cs = [.slice a l.length c] ∧ Ents w a l ∧ l.length ≤ c ∧ c ≤ maxLen := by
  rcases open_slice Tryd.underlying33 h with ⟨rfl, _⟩ | ⟨a, len, cap, m, n, D, Pl, rfl, _, hl, hm, hmm, _, hi⟩
  · exact ⟨none, 0, [], rfl, ⟨by simp, fun h => absurd rfl h⟩, Nat.le_refl _, by unfold maxLen; omega⟩
  · have hm' : m = cap := by simpa using hmm
    rw [show Tryd.prog.cellsOf 23 = 4 by kernel_rfl] at hi
    have each : ∀ i, i < len → ∃ y : Ent, y.ok ∧ w.cell? (a.add (i * 4)) = some (.string y.key) ∧ w.cell? (a.add (i * 4 + 1)) = some (.string y.val) ∧ w.cell? (a.add (i * 4 + 2)) = some (.bool y.dead) ∧ w.cell? (a.add (i * 4 + 3)) = some (.int .i64 y.seq) := by
      intro i hlt
      obtain ⟨cs', hc, ht⟩ := hi i (by omega)
      obtain ⟨_, hcl, hat⟩ := World.cells?_some hc
      obtain ⟨F0, F1, F2, F3, hund, hone, t0, t1, t2, t3⟩ := ent_fields
      obtain ⟨ys, n', _, _, _, hyl, hf⟩ := DataW.trod_struct hund ht
      match cs', hcl with
      | [v0, v1, v2, v3], _ =>
        match ys, hyl with
        | [y0, y1, y2, y3], _ =>
          have f0 := hf 0 F0 rfl
          have f1 := hf 1 F1 rfl
          have f2 := hf 2 F2 rfl
          have f3 := hf 3 F3 rfl
          have hone := hone_of hone
          obtain ⟨o0, k0⟩ := hone 0 F0 rfl
          obtain ⟨o1, k1⟩ := hone 1 F1 rfl
          obtain ⟨o2, k2⟩ := hone 2 F2 rfl
          obtain ⟨o3, k3⟩ := hone 3 F3 rfl
          rw [o0, k0, t0] at f0
          rw [o1, k1, t1] at f1
          rw [o2, k2, t2] at f2
          rw [o3, k3, t3] at f3
          obtain ⟨s0, e0, _, h0⟩ := DataW.trod_string Tryd.underlying9 f0
          obtain ⟨s1, e1, _, h1⟩ := DataW.trod_string Tryd.underlying9 f1
          obtain ⟨s2, e2, _⟩ := DataW.trod_bool Tryd.underlying4 f2
          obtain ⟨s3, e3, _, h3⟩ := DataW.trod_int Tryd.underlying2 f3
          simp at e0 e1 e2 e3
          subst e0 e1 e2 e3
          simp [Lit.wf, IntKind.min, IntKind.max, IntKind.signed, IntKind.bits] at h3
          have g0 := hat 0 (by omega)
          have g1 := hat 1 (by omega)
          have g2 := hat 2 (by omega)
          have g3 := hat 3 (by omega)
          rw [Go.Deep.add_add] at g0 g1 g2 g3
          exact ⟨⟨s0, s1, s2, s3⟩, ⟨h0, h1, (show -9223372036854775808 ≤ s3 by omega), (show s3 ≤ 9223372036854775807 by omega)⟩, g0, g1, g2, g3⟩
    rcases Nat.eq_zero_or_pos len with hz | hpos
    · subst hz
      exact ⟨some a, cap, [], rfl, ⟨by simp, fun h => absurd rfl h⟩, by simp, hm⟩
    have hs : a.spot = none := by
      obtain ⟨y, _, g, _⟩ := each 0 hpos
      have := World.cell?_spot g
      simpa [Addr.add] using this
    obtain ⟨b, o, s⟩ := a
    simp only at hs; subst hs
    simp only [addr_add] at each
    obtain ⟨l, hll, hlq⟩ := list_of _ len each
    refine ⟨some ⟨b, o, none⟩, cap, l, by rw [hll], ⟨fun y hy => ?_, fun hn => ?_⟩, by omega, hm⟩
    · obtain ⟨i, hi, rfl⟩ := List.getElem_of_mem hy
      exact (hlq i _ (List.getElem?_eq_getElem hi)).1
    · refine ⟨b, o, rfl, fun i y hy => ?_⟩
      obtain ⟨_, g0, g1, g2, g3⟩ := hlq i y hy
      exact ⟨g0, by rw [Nat.add_assoc]; exact g1, by rw [Nat.add_assoc]; exact g2, by rw [Nat.add_assoc]; exact g3⟩

/-- What a list of entries is behind its opening, as the row gives it. -/
theorem arg_ents {base : Nat} {v : Value} {d : DataW H} {p : List MemPlace} (hv : Value.okWide Tryd.prog w .any base 33 v) (h : DataW.Trod enc Tryd.prog w 0 (fun _ => true) true 33 v d p) :
    ∃ a c l, v = .slice a l.length c ∧ Ents w a l ∧ l.length ≤ c ∧ c ≤ maxLen := by
  obtain ⟨a, n, c, rfl⟩ := okWide_slice Tryd.underlying33 hv
  obtain ⟨fuel, hf⟩ := h
  obtain ⟨a', c', l, h1, h2, h3, h4⟩ := open_ents hf
  simp [Value.cells] at h1
  obtain ⟨rfl, rfl, rfl⟩ := h1
  exact ⟨_, _, l, rfl, h2, h3, h4⟩
/-- A string. -/
theorem arg_string {base : Nat} {v : Value} {d : DataW H} {p : List MemPlace} (hv : Value.okWide Tryd.prog w .any base 9 v) (h : DataW.Trod enc Tryd.prog w 0 (fun _ => true) true 9 v d p) :
    ∃ s, v = .string s ∧ s.size ≤ maxLen := by
  obtain ⟨s, e, _, _, b⟩ := Go.ChangeMaps.open_string Tryd.underlying9 hv h
  exact ⟨s, e, b⟩
/-- An int. -/
theorem arg_int {base : Nat} {v : Value} {d : DataW H} {p : List MemPlace} (hv : Value.okWide Tryd.prog w .any base 3 v) (h : DataW.Trod enc Tryd.prog w 0 (fun _ => true) true 3 v d p) :
    ∃ s, v = .int .i64 s ∧ -9223372036854775808 ≤ s ∧ s ≤ 9223372036854775807 := by
  obtain ⟨s, e, _, _, b⟩ := open_int Tryd.underlying3 hv h
  simp [Lit.wf, IntKind.min, IntKind.max, IntKind.signed, IntKind.bits] at b
  exact ⟨s, e, by omega, by omega⟩
/-- A bool. -/
theorem arg_bool {base : Nat} {v : Value} {d : DataW H} {p : List MemPlace} (hv : Value.okWide Tryd.prog w .any base 4 v) (h : DataW.Trod enc Tryd.prog w 0 (fun _ => true) true 4 v d p) :
    ∃ b, v = .bool b := by
  obtain ⟨b, e, _⟩ := open_bool Tryd.underlying4 hv h
  exact ⟨b, e⟩
theorem lt_of_trod {d : DataW H} {t : TypeId} {v : Value} {p : List MemPlace} (h : DataW.Trod enc Tryd.prog w 0 (fun _ => true) true t v d p) : ∀ x ∈ p, x.block < w.heap.size := by
  obtain ⟨m, hm⟩ := h; exact DataW.trod_lt m _ _ _ hm
theorem own : ownKnob Tryd.prog.godebug = none := by kernel_rfl
theorem laidOut : laidOutB Tryd.prog = true := by kernel_rfl
end
end Go.Proofs.YtbdiiopmjaeaaaaDoor
