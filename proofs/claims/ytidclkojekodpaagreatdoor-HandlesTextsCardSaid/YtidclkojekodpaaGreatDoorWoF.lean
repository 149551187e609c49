
/-
  Contracts of words: Quote.
-/
import Derived.Test.YtidclkojekodpaaGreatDoorWoE
import Derived.Deep.DeepCutAuto
import Derived.Deep.AppendLies
import Derived.Deep.RegionHeld3
namespace Go.Proofs.YtidclkojekodpaaGreatDoor
open Go.RowKit
set_option linter.unusedSimpArgs false
set_option linter.unusedVariables false
set_option maxRecDepth 100000

theorem and15 : ∀ c : UInt8, bits BinOp.and IntKind.u8 (c.toNat : Int) 15 = ((c.toNat % 16 : Nat) : Int) := byte_all (by decide +kernel)
abbrev hxB : ByteArray := ⟨#[48, 49, 50, 51, 52, 53, 54, 55, 56, 57, 97, 98, 99, 100, 101, 102]⟩
end Go.Proofs.YtidclkojekodpaaGreatDoor
