
/-
  Arguments opened: a small number; a list of small numbers.
-/
import Derived.Test.YtidclkojekodpaaDoorHnZ
namespace Go.Proofs.YtidclkojekodpaaDoor
open Go.RowKit Go.ChangeShapes Go.WideShapes Go.Deep Go.Joins
set_option linter.unusedSimpArgs false
set_option linter.unusedVariables false
set_option maxRecDepth 100000

section
variable {H : Type} {enc : TypeId × Value → H} {w : World}
theorem arg_u8 {base : Nat} {v : Value} {d : DataW H} {p : List MemPlace} (hv : Value.okWide Tryd.prog w .any base 5 v) (h : DataW.Trod enc Tryd.prog w 0 (fun _ => true) true 5 v d p) :
    ∃ n : Nat, v = .int .u8 n ∧ n < 256 := by
  obtain ⟨s, e, _, _, b⟩ := open_int Tryd.underlying5 hv h
  simp [Lit.wf, IntKind.min, IntKind.max, IntKind.signed, IntKind.bits] at b
  obtain ⟨n, rfl⟩ : ∃ n : Nat, s = n := ⟨s.toNat, by omega⟩
  exact ⟨n, e, by omega⟩
/-- Small numbers in memory. -/
structure U8s (w : World) (a : Option Addr) (l : List Nat) : Prop where
  lt : ∀ x, x ∈ l → x < 256
  at_ : l ≠ [] → ∃ b off, a = some ⟨b, off, none⟩ ∧ ∀ (i : Nat) x, l[i]? = some x → w.cell? ⟨b, off + i, none⟩ = some (.int .u8 (x : Nat))
theorem U8s.bl {w w' : World} {a : Option Addr} {l : List Nat} (h : U8s w a l) (k : Bl w w') : U8s w' a l :=
  ⟨h.lt, fun hn => let ⟨b, off, e, f⟩ := h.at_ hn; ⟨b, off, e, fun i x hx => k.cell (f i x hx)⟩⟩
theorem U8s.get {w : World} {a : Option Addr} {l : List Nat} (h : U8s w a l) {k : Nat} (hk : k < l.length) :
    ∃ b off, a = some ⟨b, off, none⟩ ∧ ∀ (i : Nat) x, l[i]? = some x → w.cell? ⟨b, off + i, none⟩ = some (.int .u8 (x : Nat)) := h.at_ (by rintro rfl; simp at hk)
theorem open_u8s {fuel : Nat} {cs : List Value} {x : DataW H × List MemPlace} (h : DataW.trod enc Tryd.prog w 0 (fun _ => true) true fuel 48 cs = some x) :
    ∃ a c l, cs = [.slice a l.length c] ∧ U8s w a l ∧ l.length ≤ c ∧ c ≤ maxLen := by
  rcases open_slice Tryd.underlying48 h with ⟨rfl, _⟩ | ⟨a, len, cap, m, n, D, Pl, rfl, _, hl, hm, hmm, _, hi⟩
  · exact ⟨none, 0, [], rfl, ⟨by simp, fun h => absurd rfl h⟩, Nat.le_refl _, by unfold maxLen; omega⟩
  · have hm' : m = cap := by simpa using hmm
    rw [show Tryd.prog.cellsOf 5 = 1 by kernel_rfl] at hi
    have each : ∀ i, i < len → ∃ y : Nat, y < 256 ∧ w.cell? (a.add i) = some (.int .u8 (y : Nat)) := by
      intro i hlt
      obtain ⟨cs', hc, ht⟩ := hi i (by omega)
      obtain ⟨_, hcl, hat⟩ := World.cells?_some hc
      match cs', hcl with
      | [v0], _ =>
        obtain ⟨s0, e0, _, h0⟩ := DataW.trod_int Tryd.underlying5 ht
        simp at e0
        subst e0
        simp [Lit.wf, IntKind.min, IntKind.max, IntKind.signed, IntKind.bits] at h0
        obtain ⟨n, rfl⟩ : ∃ n : Nat, s0 = n := ⟨s0.toNat, by omega⟩
        have g0 := hat 0 (by omega)
        rw [Go.Deep.add_add] at g0
        simp only [Nat.mul_one, Nat.add_zero] at g0
        exact ⟨n, by omega, g0⟩
    rcases Nat.eq_zero_or_pos len with hz | hpos
    · subst hz
      exact ⟨some a, cap, [], rfl, ⟨by simp, fun h => absurd rfl h⟩, by simp, hm⟩
    have hs : a.spot = none := by
      obtain ⟨y, _, g⟩ := each 0 hpos
      have := World.cell?_spot g
      simpa [Addr.add] using this
    obtain ⟨b, o, s⟩ := a
    simp only at hs; subst hs
    simp only [addr_add] at each
    obtain ⟨l, hll, hlq⟩ := list_of _ len each
    refine ⟨some ⟨b, o, none⟩, cap, l, by rw [hll], ⟨fun y hy => ?_, fun hn => ?_⟩, by omega, hm⟩
    · obtain ⟨i, hi, rfl⟩ := List.getElem_of_mem hy
      exact (hlq i _ (List.getElem?_eq_getElem hi)).1
    · exact ⟨b, o, rfl, fun i y hy => (hlq i y hy).2⟩
theorem arg_u8s {base : Nat} {v : Value} {d : DataW H} {p : List MemPlace} (hv : Value.okWide Tryd.prog w .any base 48 v) (h : DataW.Trod enc Tryd.prog w 0 (fun _ => true) true 48 v d p) :
    ∃ a c l, v = .slice a l.length c ∧ U8s w a l ∧ l.length ≤ c ∧ c ≤ maxLen := by
  obtain ⟨a, n, c, rfl⟩ := okWide_slice Tryd.underlying48 hv
  obtain ⟨fuel, hf⟩ := h
  obtain ⟨a', c', l, h1, h2, h3, h4⟩ := open_u8s hf
  simp [Value.cells] at h1
  obtain ⟨rfl, rfl, rfl⟩ := h1
  exact ⟨_, _, l, rfl, h2, h3, h4⟩
end
end Go.Proofs.YtidclkojekodpaaDoor
