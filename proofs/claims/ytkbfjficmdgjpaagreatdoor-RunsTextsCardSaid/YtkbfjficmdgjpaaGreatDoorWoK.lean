
/-
  Contracts of words: Split.
-/
import Derived.Test.YtkbfjficmdgjpaaGreatDoorWoJ
import Derived.Test.YtkbfjficmdgjpaaGreatDoorRng
import Derived.Test.YtkbfjficmdgjpaaGreatDoorOwn
import Derived.Maps.AppendAt
namespace Go.Proofs.YtkbfjficmdgjpaaGreatDoor
open Go.RowKit Go.Shelf
set_option linter.unusedSimpArgs false
set_option linter.unusedVariables false
set_option maxRecDepth 100000
attribute [local go_sem] Oper.semAt_some

def tooL (fs : List Fld) : Bool := fs.any (fun f => decide (2000 < f.s.length))
def wsplit (l : List UInt8) : List Fld × Int := if 8192 < l.length then ([], 3) else if l = [] then ([], 0) else match splitW l with
  | none => ([], 6)
  | some fs => if tooL fs = true ∨ 64 < fs.length then ([], 3) else (fs, 0)
theorem tooL_snoc (fs : List Fld) (x : Fld) : tooL (fs ++ [x]) = (tooL fs || decide (2000 < x.s.length)) := by simp [tooL]
/-- The cells of fields. -/
def fldCells (l : List Fld) : List Value := l.flatMap fun x => [.string ⟨x.s.toArray⟩, .bool x.q]
theorem fldCells_snoc (l : List Fld) (x : Fld) : fldCells (l ++ [x]) = fldCells l ++ [.string ⟨x.s.toArray⟩, .bool x.q] := by simp [fldCells]
theorem fldCells_get : ∀ (l : List Fld) (i : Nat) (x : Fld), l[i]? = some x → (fldCells l)[i * 2]? = some (.string ⟨x.s.toArray⟩) ∧ (fldCells l)[i * 2 + 1]? = some (.bool x.q)
  | [], i, x, h => by simp at h
  | y :: l, 0, x, h => by simp at h; subst h; simp [fldCells]
  | y :: l, i + 1, x, h => by
    have ih := fldCells_get l i x (by simpa using h)
    have e : fldCells (y :: l) = [.string ⟨y.s.toArray⟩, .bool y.q] ++ fldCells l := by simp [fldCells]
    rw [e, show (i + 1) * 2 = i * 2 + 2 by omega]
    simpa using ih
/-- Fields in memory. -/
structure Flds (w : World) (a : Option Addr) (l : List Fld) : Prop where
  at_ : l ≠ [] → ∃ b off, a = some ⟨b, off, none⟩ ∧ ∀ i x, l[i]? = some x → w.cell? ⟨b, off + i * 2, none⟩ = some (.string ⟨x.s.toArray⟩) ∧ w.cell? ⟨b, off + i * 2 + 1, none⟩ = some (.bool x.q)
theorem Flds.bl {w w' : World} {a : Option Addr} {l : List Fld} (h : Flds w a l) (k : Bl w w') : Flds w' a l :=
  ⟨fun hn => let ⟨b, off, e, f⟩ := h.at_ hn; ⟨b, off, e, fun i x hx => ⟨k.cell (f i x hx).1, k.cell (f i x hx).2⟩⟩⟩
theorem Flds.get {w : World} {a : Option Addr} {l : List Fld} (h : Flds w a l) {k : Nat} (hk : k < l.length) :
    ∃ b off, a = some ⟨b, off, none⟩ ∧ ∀ i x, l[i]? = some x → w.cell? ⟨b, off + i * 2, none⟩ = some (.string ⟨x.s.toArray⟩) ∧ w.cell? ⟨b, off + i * 2 + 1, none⟩ = some (.bool x.q) := h.at_ (by rintro rfl; simp at hk)
/-- Fields as a result. -/
def FldsIs (l : List Fld) (w : World) (v : Value) : Prop := ∃ a c, v = .slice a l.length c ∧ Flds w a l ∧ l.length ≤ c ∧ c ≤ maxLen
theorem fldsIs_nil (w : World) : FldsIs [] w (.slice none 0 0) := ⟨none, 0, rfl, ⟨fun h => absurd rfl h⟩, Nat.le_refl _, by unfold maxLen; omega⟩
theorem FldsIs.bl {l : List Fld} {w w' : World} {v : Value} (h : FldsIs l w v) (k : Bl w w') : FldsIs l w' v := by
  obtain ⟨a, c, rfl, h1, h2, h3⟩ := h
  exact ⟨a, c, rfl, h1.bl k, h2, h3⟩
def SplV (r : List Fld × Int) (w : World) (v : Value) : Prop := ∃ vl, v = .tuple #[vl, .int .i64 r.2] ∧ FldsIs r.1 w vl
theorem bxN {W : World} {t : TypeId} {v : Value} {B : Nat} (h : W.heap.size = B) : Boxed (W.alloc (.cells #[v] t)) B t v := h ▸ Boxed.new W t v
theorem bxK {W W' : World} {B : Nat} {t : TypeId} {v : Value} {row : Option Nat} (h : Boxed W B t v) (hg : W.grownBy W' row) (hr : row ≠ some B) : Boxed W' B t v := (hg.block B h.lt (fun e => hr e.symm)).trans h
theorem bxB {W W' : World} {B : Nat} {t : TypeId} {v : Value} (h : Boxed W B t v) (k : Bl W W') : Boxed W' B t v := (k.block B h.lt).trans h
theorem bx_not {A : World} {B Bf B0 : Nat} {t : TypeId} {v : Value} (h : Boxed A B t v) (hne : B ≠ Bf) {row : Option Nat} (hr : ∀ r, row = some r → r = Bf ∨ B0 ≤ r ∧ ∃ o : Obj, A.heap[r]? = some o ∧ o.isCells = false) : row ≠ some B := by
  intro e
  rcases hr B e with e | ⟨_, o, ho, hc⟩
  · exact hne e
  · rw [show A.heap[B]? = _ from h] at ho; cases ho; cases hc
theorem below_grown {n B0 Bf : Nat} {w A B : World} {row : Option Nat} (h : Below n w A) (hg : A.grownBy B row) (hn : n ≤ A.heap.size) (hr : ∀ r, row = some r → n ≤ r) : Below n w B := h.grown hg hn hr
theorem Kept.new {K : Nat → Prop} {n₀ : Nat} {A B : World} (h : Kept K A B) (hK : ∀ k, K k → k < n₀) (hB : n₀ ≤ B.heap.size) (o : Obj) : Kept K A (B.alloc o) :=
  h.trans ⟨by simp, fun k hk => Below.heap_alloc _ _ _ (Nat.lt_of_lt_of_le (hK k hk) hB)⟩
/-- From one world to the next of a round: whatever is no cells, what K names, and what lay below n₀, lie as they lay. -/
structure Step (K : Nat → Prop) (n₀ : Nat) (A B : World) : Prop where
  keeps : KeepsOthers A B
  kept : Kept K A B
  below : Below n₀ A B
theorem Step.refl (K : Nat → Prop) (n₀ : Nat) (A : World) : Step K n₀ A A := ⟨KeepsOthers.refl _, Kept.refl _ _, Below.refl _ _⟩
theorem Step.set {K : Nat → Prop} {n₀ : Nat} {A B : World} (h : Step K n₀ A B) {p : Addr} (hp : ¬ K p.block) (hn : n₀ ≤ p.block) (u : Value) : Step K n₀ A (B.setCell p u) :=
  ⟨h.keeps.trans (KeepsOthers.setCell _ _ _), h.kept.setCell hp u, h.below.setCell hn u⟩
theorem Step.new {K : Nat → Prop} {n₀ m : Nat} {A B : World} (h : Step K n₀ A B) (hK : ∀ k, K k → k < m) (hm : m ≤ A.heap.size) (hn : n₀ ≤ A.heap.size) (o : Obj) : Step K n₀ A (B.alloc o) :=
  ⟨h.keeps.trans (KeepsOthers.alloc _ _), h.kept.new hK (Nat.le_trans hm h.kept.1) o, h.below.alloc (Nat.le_trans hn h.below.size) o⟩
theorem Step.app {K : Nat → Prop} {n₀ m : Nat} {A B C : World} (h : Step K n₀ A B) (hK : ∀ k, K k → k < m) (hm : m ≤ A.heap.size) (hn : n₀ ≤ m) {e : TypeId} {size : Nat} {v : Value} {k : Nat} {xs : List Value} (hr : B.ownsRow m e size v k xs) (hg : B.grownBy C v.ownBlock) : Step K n₀ A C := by
  have hm' := Nat.le_trans hm h.kept.1
  refine ⟨h.keeps.trans (KeepsOthers.of_grownBy hg fun j o ej hj => ?_), h.kept.trans ⟨hg.size, fun q hq => hg.block q (by have := hK q hq; omega) (fun e' => ?_)⟩, h.below.grown hg (by omega) fun q eq => Nat.le_trans hn (own_block hr q eq)⟩
  · rcases hr.2 with ⟨rfl, _⟩ | ⟨g, cap, cur, rfl, _, hgb, _⟩
    · simp [Value.ownBlock] at ej
    · obtain rfl : g = j := by simpa [Value.ownBlock] using ej
      rw [hgb] at hj; cases hj; rfl
  · have h1 := own_block hr q e'.symm
    have h2 := hK q hq
    omega
theorem bxR {A C : World} {B base : Nat} {t e : TypeId} {size k : Nat} {u v : Value} {xs : List Value} (h : Boxed A B t u) (hr : A.ownsRow base e size v k xs) (hlt : B < base) (hg : A.grownBy C v.ownBlock) : Boxed C B t u :=
  bxK h hg (fun eq => by have := own_block hr B eq; omega)
end Go.Proofs.YtkbfjficmdgjpaaGreatDoor
