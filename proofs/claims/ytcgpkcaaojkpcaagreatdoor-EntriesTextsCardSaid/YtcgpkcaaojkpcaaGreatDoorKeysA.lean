
/-
  Contracts of keys.Check, keys.all, keys.common and of the reference's Check, two, common, Order.
-/
import Derived.Test.YtcgpkcaaojkpcaaGreatDoorLib
import Derived.Deep.LoopGhost
namespace Go.Proofs.YtcgpkcaaojkpcaaGreatDoor
open Go.RowKit
set_option linter.unusedSimpArgs false
set_option linter.unusedVariables false
set_option maxRecDepth 100000

def kchk (s : ByteArray) : Int := if 32 < s.size then 3 else 0

theorem keysCheck (s : ByteArray) (w : World) (hs : s.size ≤ maxLen) : Calls Tryz.prog 58 #[.string s] w (RD w (.int .i64 (kchk s))) := by
  unfold maxLen at hs
  unfold kchk
  by_cases h : 32 < s.size
  · rw [if_pos h]
    go_enter Tryz.func58, Tryz.ntmps58
    go_wp2
    go_ret
    exact RD.mk rfl (Dr.refl _)
  · rw [if_neg h]
    go_enter Tryz.func58, Tryz.ntmps58
    go_wp2
    go_ret
    exact RD.mk rfl (Dr.refl _)

/-- The first error of two keys. -/
def ktwo (s t : ByteArray) : Int := if 32 < s.size ∨ 32 < t.size then 3 else 0

end Go.Proofs.YtcgpkcaaojkpcaaGreatDoor
