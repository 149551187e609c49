
/-
  Contracts of words (over 01.ZD): compare; the reference's less.
-/
import Derived.Test.YtfjdcfmoodlnaaaGreatDoorWpA
namespace Go.Proofs.YtfjdcfmoodlnaaaGreatDoor
open Go.RowKit
set_option linter.unusedSimpArgs false
set_option linter.unusedVariables false
set_option maxRecDepth 100000

/-- Two decimal forms compared: the longer one is greater; of the same length as strings. -/
def cmpD (a b : ByteArray) : Int := if a.size = b.size then Lib.compareBytes a.data.toList b.data.toList else (a.size : Int) - (b.size : Int)
theorem woCompare (a b : ByteArray) (ha : a.size ≤ 100000000) (hb : b.size ≤ 100000000) (w : World) : Calls Tryz.prog 30 #[.string a, .string b] w (RD w (.int .i64 (cmpD a b))) := by
  have hC := fun w => Tryz.strings_Compare a b w
  by_cases h : a.size = b.size
  · have i1 : (a.size : Int) = (b.size : Int) := by omega
    have e : cmpD a b = Lib.compareBytes a.data.toList b.data.toList := by unfold cmpD; rw [if_pos h]
    rw [e]
    clear e h
    go_enter Tryz.func30, Tryz.ntmps30
    go_wp2_with fail
    refine (hC _).mono ?_; rintro e w1 ⟨rfl, hw1⟩; rw [hw1]
    go_wp2_with fail
    go_ret
    exact RD.mk rfl (Dr.refl _)
  · have i1 : ¬ (a.size : Int) = (b.size : Int) := by omega
    have e : cmpD a b = (a.size : Int) - (b.size : Int) := by unfold cmpD; rw [if_neg h]
    rw [e]
    clear e h hC
    go_enter Tryz.func30, Tryz.ntmps30
    go_wp2_with fail
    go_ret
    exact RD.mk rfl (Dr.refl _)
end Go.Proofs.YtfjdcfmoodlnaaaGreatDoor
