
/-
  Facts of cells held together: a list of own cells with what they hold.
-/
import Derived.Test.YtkbfjficmdgjpaaGreatDoorOwn
namespace Go.Proofs.YtkbfjficmdgjpaaGreatDoor
open Go.RowKit
set_option linter.unusedSimpArgs false
set_option linter.unusedVariables false
set_option maxRecDepth 100000

/-- Cells that hold what the list says, none of them shut. -/
def Mem (w : World) : List (Addr × Value) → Prop
  | [] => True
  | (p, v) :: l => w.cell? p = some v ∧ w.frozen? p = false ∧ Mem w l
theorem Mem.bl {w w' : World} : ∀ {l : List (Addr × Value)}, Mem w l → Bl w w' → Mem w' l
  | [], _, _ => trivial
  | (_, _) :: _, ⟨h1, h2, h3⟩, k => ⟨k.cell h1, k.frozen h1 h2, h3.bl k⟩
theorem Mem.alloc {w : World} {l : List (Addr × Value)} (h : Mem w l) (o : Obj) : Mem (w.alloc o) l := h.bl ((Bl.refl w).alloc o)
theorem Mem.app {w : World} : ∀ {l k : List (Addr × Value)}, Mem w l → Mem w k → Mem w (l ++ k)
  | [], _, _, h => h
  | (_, _) :: _, _, ⟨h1, h2, h3⟩, h => ⟨h1, h2, h3.app h⟩
theorem Mem.left {w : World} : ∀ {l k : List (Addr × Value)}, Mem w (l ++ k) → Mem w l
  | [], _, _ => trivial
  | (_, _) :: _, _, ⟨h1, h2, h3⟩ => ⟨h1, h2, Mem.left h3⟩
theorem Mem.right {w : World} : ∀ {l k : List (Addr × Value)}, Mem w (l ++ k) → Mem w k
  | [], _, h => h
  | (_, _) :: _, _, ⟨_, _, h3⟩ => Mem.right h3
/-- A store to a block that the list does not name. -/
theorem Mem.off {w : World} (g i : Nat) (u : Value) : ∀ {l : List (Addr × Value)}, Mem w l → (∀ q, q ∈ l → q.1.block ≠ g) → Mem (w.setCell ⟨g, i, none⟩ u) l
  | [], _, _ => trivial
  | (p, v) :: l, ⟨h1, h2, h3⟩, hn => ⟨(World.cell?_setCell_other w ⟨g, i, none⟩ p u (by intro e; exact hn (p, v) (by simp) (by rw [← e]))).trans h1, (frozen_set _ _ _ _).trans h2, Mem.off g i u h3 (fun q hq => hn q (by simp [hq]))⟩
/-- A variable of four cells, an entry. -/
def VE (g : Nat) (x : Ent) : List (Addr × Value) := [(⟨g, 0, none⟩, .string x.key), (⟨g, 1, none⟩, .string x.val), (⟨g, 2, none⟩, .bool x.dead), (⟨g, 3, none⟩, .int .i64 x.seq)]
theorem Mem.new4 (w : World) (x : Ent) (e : TypeId) : Mem (w.alloc (.cells #[.string x.key, .string x.val, .bool x.dead, .int .i64 x.seq] e)) (VE w.heap.size x) := by
  simp [Mem, VE, go_sem]
def set4 (w : World) (g : Nat) (x : Ent) : World := (((w.setCell ⟨g, 0, none⟩ (.string x.key)).setCell ⟨g, 1, none⟩ (.string x.val)).setCell ⟨g, 2, none⟩ (.bool x.dead)).setCell ⟨g, 3, none⟩ (.int .i64 x.seq)
theorem oth (W : World) (g i j : Nat) (v : Value) (h : i ≠ j) : (W.setCell ⟨g, i, none⟩ v).cell? ⟨g, j, none⟩ = W.cell? ⟨g, j, none⟩ :=
  World.cell?_setCell_other W ⟨g, i, none⟩ ⟨g, j, none⟩ v (by intro e; injection e with _ e; exact h e)
theorem smc (W : World) (g i : Nat) (v u : Value) (h : W.cell? ⟨g, i, none⟩ = some u) : (W.setCell ⟨g, i, none⟩ v).cell? ⟨g, i, none⟩ = some v :=
  World.cell?_setCell_same' W _ _ (by rw [h]; rfl)
theorem Mem.set4 {w : World} {g : Nat} {x : Ent} (h : Mem w (VE g x)) (y : Ent) : Mem (set4 w g y) (VE g y) := by
  obtain ⟨a0, f0, a1, f1, a2, f2, a3, f3, -⟩ := h
  unfold Go.Proofs.YtkbfjficmdgjpaaGreatDoor.set4 VE
  refine ⟨?_, ?_, ?_, ?_, ?_, ?_, ?_, ?_, trivial⟩
  · rw [oth _ _ 3 0 _ (by omega), oth _ _ 2 0 _ (by omega), oth _ _ 1 0 _ (by omega)]; exact smc _ _ _ _ _ a0
  · simp only [frozen_set]; exact f0
  · rw [oth _ _ 3 1 _ (by omega), oth _ _ 2 1 _ (by omega)]; exact smc _ _ _ _ _ (by rw [oth _ _ 0 1 _ (by omega)]; exact a1)
  · simp only [frozen_set]; exact f1
  · rw [oth _ _ 3 2 _ (by omega)]; exact smc _ _ _ _ _ (by rw [oth _ _ 1 2 _ (by omega), oth _ _ 0 2 _ (by omega)]; exact a2)
  · simp only [frozen_set]; exact f2
  · exact smc _ _ _ _ _ (by rw [oth _ _ 2 3 _ (by omega), oth _ _ 1 3 _ (by omega), oth _ _ 0 3 _ (by omega)]; exact a3)
  · simp only [frozen_set]; exact f3
theorem Mem.off4 {w : World} {l : List (Addr × Value)} (h : Mem w l) (g : Nat) (y : Ent) (hn : ∀ q, q ∈ l → q.1.block ≠ g) : Mem (Go.Proofs.YtkbfjficmdgjpaaGreatDoor.set4 w g y) l :=
  (((h.off g 0 _ hn).off g 1 _ hn).off g 2 _ hn).off g 3 _ hn
theorem Bl.set4 {w0 w : World} (h : Bl w0 w) (g : Nat) (y : Ent) (hg : w0.heap.size ≤ g) : Bl w0 (Go.Proofs.YtkbfjficmdgjpaaGreatDoor.set4 w g y) :=
  (((h.setCell _ hg _).setCell _ hg _).setCell _ hg _).setCell _ hg _
/-- A bool of which nothing is known. -/
def SomeB (w : World) (e : Ending) (w' : World) : Prop := ∃ b, e = .returned (.bool b) ∧ Bl w w'
theorem SomeB.mk {w w' : World} {b : Bool} (hb : Bl w w') : SomeB w (.returned (.bool b)) w' := ⟨b, rfl, hb⟩
end Go.Proofs.YtkbfjficmdgjpaaGreatDoor
