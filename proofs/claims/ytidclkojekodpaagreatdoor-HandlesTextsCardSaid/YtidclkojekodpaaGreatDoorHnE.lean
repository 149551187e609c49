
/-
  Contracts of handles: the reference's table with another slot.
-/
import Derived.Test.YtidclkojekodpaaGreatDoorHnD
namespace Go.Proofs.YtidclkojekodpaaGreatDoor
open Go.RowKit
set_option linter.unusedSimpArgs false
set_option linter.unusedVariables false
set_option maxRecDepth 100000

/-- Own cells below a row's base stay as the row grows. -/
theorem Mem.grown {w w' : World} {base : Nat} {e : TypeId} {size : Nat} {v : Value} {n : Nat} {xs : List Value} (h : w.ownsRow base e size v n xs) (hg : w.grownBy w' v.ownBlock) : ∀ {l : List (Addr × Value)}, Mem w l → (∀ q, q ∈ l → q.1.block < base) → Mem w' l
  | [], _, _ => trivial
  | (p, u) :: l, ⟨h1, h2, h3⟩, hn => ⟨grown_cell h hg h1 (hn (p, u) (by simp)), grown_frozen h hg h1 h2 (hn (p, u) (by simp)), Mem.grown h hg h3 (fun q hq => hn q (by simp [hq]))⟩
theorem slotCells_set : ∀ (l : List Slot) (i : Nat) (s : Slot), slotCells (l.set i s) = ((slotCells l).set (i * 2) (.int .i64 s.gen)).set (i * 2 + 1) (.bool s.used)
  | [], i, s => by simp [slotCells]
  | y :: l, 0, s => by simp [slotCells]
  | y :: l, i + 1, s => by
    have ih := slotCells_set l i s
    have e : ∀ (z : Slot) (m : List Slot), slotCells (z :: m) = .int .i64 z.gen :: .bool z.used :: slotCells m := fun z m => by simp [slotCells]
    rw [List.set_cons_succ, e, e, ih, show (i + 1) * 2 = i * 2 + 1 + 1 by omega]
    simp
/-- A slot is stored into a row of the call's own. -/
theorem own_store {w : World} {base g cap n : Nat} {l : List Slot} (h : w.ownsRow base 35 2 (.slice (some ⟨g, 0, none⟩) n cap) n (slotCells l)) (i : Nat) (s : Slot) :
    ((w.setCell ⟨g, i * 2, none⟩ (.int .i64 s.gen)).setCell ⟨g, i * 2 + 1, none⟩ (.bool s.used)).ownsRow base 35 2 (.slice (some ⟨g, 0, none⟩) n cap) n (slotCells (l.set i s)) := by
  rw [slotCells_set]
  exact ((h.stored (i * 2) _).1.stored (i * 2 + 1) _).1
end Go.Proofs.YtidclkojekodpaaGreatDoor
