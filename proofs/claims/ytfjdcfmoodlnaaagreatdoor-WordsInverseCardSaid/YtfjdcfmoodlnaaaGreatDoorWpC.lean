
/-
  Contracts of words (over 01.ZD): the reference's less.
-/
import Derived.Test.YtfjdcfmoodlnaaaGreatDoorWpB
namespace Go.Proofs.YtfjdcfmoodlnaaaGreatDoor
open Go.RowKit
set_option linter.unusedSimpArgs false
set_option linter.unusedVariables false
set_option maxRecDepth 100000

theorem refLess (a b : ByteArray) (ha : a.size ≤ 100000000) (hb : b.size ≤ 100000000) (w : World) : Calls Tryz.prog 35 #[.string a, .string b] w (RD w (.bool (if a.size = b.size then Op.bytesLess a.toList b.toList else decide (a.size < b.size)))) := by
  by_cases h : a.size = b.size
  · have i1 : (a.size : Int) = (b.size : Int) := by omega
    rw [if_pos h]
    clear h
    go_enter Tryz.func35, Tryz.ntmps35
    go_wp2_with fail
    go_ret
    exact RD.mk rfl (Dr.refl _)
  · have i1 : ¬ (a.size : Int) = (b.size : Int) := by omega
    rw [if_neg h]
    clear h
    go_enter Tryz.func35, Tryz.ntmps35
    go_wp2_with fail
    go_ret
    exact RD.mk rfl (Dr.refl _)
end Go.Proofs.YtfjdcfmoodlnaaaGreatDoor
