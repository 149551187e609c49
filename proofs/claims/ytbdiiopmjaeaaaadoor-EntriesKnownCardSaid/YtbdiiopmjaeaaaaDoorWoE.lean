
/-
  Contracts of words: the reference's Quote.
-/
import Derived.Test.YtbdiiopmjaeaaaaDoorWoD
import Derived.Lib.AppendStr
namespace Go.Proofs.YtbdiiopmjaeaaaaDoor
open Go.RowKit
set_option linter.unusedSimpArgs false
set_option linter.unusedVariables false
set_option maxRecDepth 100000

theorem inf_by : (Tryd.prog.info? 5).map (fun i => (i.zero, i.size, i.bytes)) = some (some (.int .u8 0), 1, 1) := by kernel_rfl
theorem escW_len (c : UInt8) : (escW c).length ≤ 4 := by unfold escW; split <;> (try split) <;> simp
theorem escs_len : ∀ l : List UInt8, (l.flatMap escW).length ≤ 4 * l.length
  | [] => by simp
  | c :: l => by have := escs_len l; have := escW_len c; simp [List.flatMap_cons] at *; omega
theorem quote_step {l : List UInt8} {k : Nat} {c : UInt8} (h : l[k]? = some c) : 34 :: (l.take (k + 1)).flatMap escW = 34 :: (l.take k).flatMap escW ++ escW c := by
  obtain ⟨hk, hz⟩ := List.getElem?_eq_some_iff.1 h
  rw [List.take_succ_eq_append_getElem hk, hz]
  simp
theorem own_lit (w : World) (c : UInt8) : (w.alloc (.cells #[.int .u8 (c.toNat : Nat)] 5)).ownsRow w.heap.size 5 1 (.slice (some ⟨w.heap.size, 0, none⟩) 1 1) 1 [.int .u8 (c.toNat : Nat)] :=
  World.ownsRow_lit w #[.int .u8 (c.toNat : Nat)] 1 (Nat.le_refl _) (by unfold maxLen; omega) (by simp)
end Go.Proofs.YtbdiiopmjaeaaaaDoor
