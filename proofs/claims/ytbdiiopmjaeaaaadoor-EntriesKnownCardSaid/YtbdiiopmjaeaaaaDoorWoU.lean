
/-
  What words asks of the world, from what the card lays.
-/
import Derived.Test.YtbdiiopmjaeaaaaDoorWoL
import Derived.Test.YtbdiiopmjaeaaaaDoorRows
import Derived.Lib.LaidU8
import Derived.Lay
namespace Go.Proofs.YtbdiiopmjaeaaaaDoor
open Go.RowKit
set_option linter.unusedSimpArgs false
set_option linter.unusedVariables false
set_option maxRecDepth 100000

theorem pow_eq : (Rows.laid_internal_strconv_uint64pow10 : DataW Unit) = Lib.tabData .u64 Lib.pow10Tab := by kernel_rfl
theorem tab_of_reads {P : Program} {W : World} {name : String} {k : IntKind} {zs : List Int} {g : Nat} {t e : TypeId} {n : Nat}
    (hg : P.globalNamed name = some g) (hty : (P.globals[g]?).map (·.type) = some t) (ht : P.underlying t = some (.array n e)) (he : P.underlying e = some (.int k)) (hce : P.cellsOf e = 1) (hct : P.cellsOf t = n)
    (h : Lib.VarReads P W name (Lib.tabData k zs)) : Lib.TabIs P W name k zs := by
  obtain ⟨g', t', cs, fuel, p, hg', ht', hvar, hd⟩ := h
  obtain rfl := Option.some.inj (hg.symm.trans hg')
  obtain rfl := Option.some.inj (hty.symm.trans ht')
  unfold Lib.TabIs
  rw [hvar, ← Lib.cells_of_tab ht he hce hct hd]
theorem pow_of_reads {W : World} (h : Lib.VarReads Tryd.prog W "internal/strconv.uint64pow10" Rows.laid_internal_strconv_uint64pow10) : Lib.TabIs Tryd.prog W "internal/strconv.uint64pow10" .u64 Lib.pow10Tab :=
  tab_of_reads (g := 2) (t := 105) (e := 98) (n := 20) (by kernel_rfl) (by kernel_rfl) Tryd.underlying105 Tryd.underlying98 (by kernel_rfl) (by kernel_rfl) (pow_eq ▸ h)
theorem esc_of_reads {W : World} (h : Lib.VarReads Tryd.prog W "bookend/words.escapes" Rows.laid_bookend_words_escapes) : EscTab W := by
  obtain ⟨g, t, cs, fuel, p, hg, hty, hvar, hd⟩ := h
  obtain rfl := Option.some.inj ((show Tryd.prog.globalNamed "bookend/words.escapes" = some 1 by kernel_rfl).symm.trans hg)
  obtain rfl := Option.some.inj ((show (Tryd.prog.globals[1]?).map (·.type) = some 95 by kernel_rfl).symm.trans hty)
  have hc2 : Tryd.prog.cellsOf 94 = 2 := by kernel_rfl
  have hc1 : Tryd.prog.cellsOf 5 = 1 := by kernel_rfl
  have key : ∀ i, i < 5 → W.cell? ⟨1, 2 * i, none⟩ = some (.int .u8 ((escL.getD (2 * i) 0 : Nat) : Int)) ∧ W.cell? ⟨1, 2 * i + 1, none⟩ = some (.int .u8 ((escL.getD (2 * i + 1) 0 : Nat) : Int)) := by
    intro i hi
    obtain ⟨fuel', d, q, hdi, he⟩ := Lib.array_elem Tryd.underlying95 hd i hi
    have hd2 : d = .agg ([((escL.getD (2 * i) 0 : Nat) : Int), ((escL.getD (2 * i + 1) 0 : Nat) : Int)].map fun z => .lit (.int .u8 z)) := by
      match i, hi, hdi with
      | 0, _, hdi => exact (Option.some.inj hdi).symm
      | 1, _, hdi => exact (Option.some.inj hdi).symm
      | 2, _, hdi => exact (Option.some.inj hdi).symm
      | 3, _, hdi => exact (Option.some.inj hdi).symm
      | 4, _, hdi => exact (Option.some.inj hdi).symm
    subst hd2
    rw [hc2] at he
    have hcs := Lib.ints_of_struct Tryd.underlying94 (fun j f hj => by
      match j, hj with
      | 0, hj => simp at hj; subst hj; exact ⟨Tryd.underlying5, rfl, hc1⟩
      | 1, hj => simp at hj; subst hj; exact ⟨Tryd.underlying5, rfl, hc1⟩
      | j + 2, hj => simp at hj) (by rw [hc2]; rfl) he
    have e0 := congrArg (·[0]?) hcs
    have e1 := congrArg (·[1]?) hcs
    simp only [List.getElem?_take, List.getElem?_drop] at e0 e1
    constructor
    · rw [World.var?_cell hg hvar (2 * i), ← Array.getElem?_toList]
      simpa [Nat.mul_comm] using e0
    · rw [World.var?_cell hg hvar (2 * i + 1), ← Array.getElem?_toList]
      simpa [Nat.mul_comm] using e1
  refine ⟨fun i hi => ?_⟩
  obtain ⟨h1, h2⟩ := key (i / 2) (by omega)
  rcases (by omega : i = 2 * (i / 2) ∨ i = 2 * (i / 2) + 1) with e | e
  · rw [e]; exact h1
  · rw [e]; exact h2
end Go.Proofs.YtbdiiopmjaeaaaaDoor
