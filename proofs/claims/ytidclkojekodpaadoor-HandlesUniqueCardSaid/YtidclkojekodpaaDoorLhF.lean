
/-
  The walk of HandlesUnique: what lies between two acts.
-/
import Derived.Test.YtidclkojekodpaaDoorHnN
import Derived.Test.YtidclkojekodpaaDoorHnJ
import Derived.Test.YtidclkojekodpaaDoorHnV
import Derived.Test.YtidclkojekodpaaDoorHnC
import Derived.Test.YtidclkojekodpaaDoorHnR
import Derived.Test.YtidclkojekodpaaDoorHnY
import Derived.Deep.RegionHeld3
namespace Go.Proofs.YtidclkojekodpaaDoor
open Go.RowKit
set_option linter.unusedSimpArgs false
set_option linter.unusedVariables false
set_option maxRecDepth 100000

theorem cutIs {P Q : Prop} (h : P) (k : P → Q) : Q := k h
def boolCells (g : List Bool) : List Value := g.map (.bool ·)
theorem inf_bool : (Tryd.prog.info? 4).map (fun i => (i.zero, i.size, i.bytes)) = some (some (.bool false), 1, 1) := by kernel_rfl
theorem rows_ne {w : World} {b1 b2 : Nat} {e1 e2 : TypeId} {s1 s2 n1 n2 : Nat} {v1 v2 : Value} {x1 x2 : List Value} (h1 : w.ownsRow b1 e1 s1 v1 n1 x1) (h2 : w.ownsRow b2 e2 s2 v2 n2 x2) (he : e1 ≠ e2) : v1.ownBlock = none ∨ v1.ownBlock ≠ v2.ownBlock := by
  rcases h1.2 with ⟨rfl, _⟩ | ⟨g, cap, cur, rfl, _, hg, _⟩
  · exact .inl rfl
  · refine .inr fun e => ?_
    rcases h2.2 with ⟨rfl, _⟩ | ⟨g', cap', cur', rfl, _, hg', _⟩
    · simp [Value.ownBlock] at e
    · simp [Value.ownBlock] at e
      subst e
      rw [hg] at hg'
      injection hg' with hg'
      injection hg' with _ ht _
      exact he ht
theorem grownBy_cell (W : World) (b i : Nat) (v : Value) : W.grownBy (W.setCell ⟨b, i, none⟩ v) (some b) :=
  ⟨rfl, rfl, rfl, by simp, fun k _ hk => Below.heap_setCell _ _ _ k (fun e => hk (by rw [e]))⟩
/-- What lies between two acts. -/
structure USt (w : World) (A B0 : Nat) (t : Tb) (all : List (Int × Int)) (gone : List Bool) (a : Option Addr) (c : Nat) (v7 v8 : Value) (wr : World) : Prop where
  tb : Mem wr [(⟨A, 0, none⟩, .int .i64 t.most), (⟨A, 1, none⟩, .slice a t.slots.length c)]
  row : wr.ownsRow B0 52 2 (.slice a t.slots.length c) t.slots.length (slotCells t.slots)
  all : wr.ownsRow B0 26 2 v7 all.length (hndCells all)
  gone : wr.ownsRow B0 4 1 v8 gone.length (boolCells gone)
  bl : Bl w wr
  size : B0 ≤ wr.heap.size
section
variable {w wr : World} {A B0 : Nat} {t : Tb} {all : List (Int × Int)} {gone : List Bool} {a : Option Addr} {c : Nat} {v7 v8 : Value}
theorem USt.next (h : USt w A B0 t all gone a c v7 v8 wr) {w' : World} (k : Bl wr w') : USt w A B0 t all gone a c v7 v8 w' :=
  ⟨h.tb.bl k, own_bl h.row k, own_bl h.all k, own_bl h.gone k, h.bl.trans k, Nat.le_trans h.size k.size⟩
theorem USt.tok (h : USt w A B0 t all gone a c v7 v8 wr) (hg : Good t) : TOk wr a c t := by
  obtain ⟨a', c', e, hS, hl, hc⟩ := own_slots h.row (fun s hs => by have := hg.gens s hs; unfold Slot.ok; omega)
  injection e with e1 _ e2
  subst e1 e2
  have h1 := hg.most1; have h2 := hg.most2
  exact ⟨hS, hl, hc, by omega, by omega⟩
theorem USt.table (h : USt w A B0 t all gone a c v7 v8 wr) (hA : A < B0) (hwA : w.heap.size ≤ A) {u : Tb} {a' : Option Addr} {c' : Nat} (hr : wr.ownsRow B0 52 2 (.slice a' u.slots.length c') u.slots.length (slotCells u.slots)) :
    USt w A B0 u all gone a' c' v7 v8 ((wr.setCell ⟨A, 0, none⟩ (.int .i64 u.most)).setCell ⟨A, 1, none⟩ (.slice a' u.slots.length c')) := by
  have hm := h.tb
  simp only [Mem, and_true] at hm
  refine ⟨by simp [Mem, go_sem, hm], own_set (own_set hr _ hA _) _ hA _, own_set (own_set h.all _ hA _) _ hA _, own_set (own_set h.gone _ hA _) _ hA _, (h.bl.setCell _ hwA _).setCell _ hwA _, by simpa using h.size⟩
theorem USt.allA (h : USt w A B0 t all gone a c v7 v8 wr) (hA : A < B0) (hwB : w.heap.size ≤ B0) {w' : World} {v' : Value} {x : Int × Int} (ho : w'.ownsRow B0 26 2 v' (all.length + 1) (hndCells all ++ [.int .i64 x.1, .int .i64 x.2])) (hg : wr.grownBy w' v7.ownBlock) :
    USt w A B0 t (all ++ [x]) gone a c v' v8 w' :=
  ⟨Mem.grown h.all hg h.tb (by intro q hq; simp at hq; rcases hq with rfl | rfl <;> exact hA), h.row.kept hg (rows_ne h.row h.all (by decide)), by rw [hndCells_snoc, List.length_append]; exact ho, h.gone.kept hg (rows_ne h.gone h.all (by decide)), grown_bl h.bl h.all hg hwB, Nat.le_trans h.size hg.size⟩
theorem USt.goneA (h : USt w A B0 t all gone a c v7 v8 wr) (hA : A < B0) (hwB : w.heap.size ≤ B0) {w' : World} {v' : Value} (ho : w'.ownsRow B0 4 1 v' (gone.length + 1) (boolCells gone ++ [.bool false])) (hg : wr.grownBy w' v8.ownBlock) :
    USt w A B0 t all (gone ++ [false]) a c v7 v' w' :=
  ⟨Mem.grown h.gone hg h.tb (by intro q hq; simp at hq; rcases hq with rfl | rfl <;> exact hA), h.row.kept hg (rows_ne h.row h.gone (by decide)), h.all.kept hg (rows_ne h.all h.gone (by decide)), by rw [List.length_append]; simpa [boolCells] using ho, grown_bl h.bl h.gone hg hwB, Nat.le_trans h.size hg.size⟩
theorem USt.goneS {g n cap : Nat} (h : USt w A B0 t all gone a c v7 (.slice (some ⟨g, 0, none⟩) n cap) wr) (hn : n = gone.length) (hA : A < B0) (hwB : w.heap.size ≤ B0) (hg : B0 ≤ g) (k : Nat) :
    USt w A B0 t all (gone.set k true) a c v7 (.slice (some ⟨g, 0, none⟩) n cap) (wr.setCell ⟨g, k, none⟩ (.bool true)) := by
  subst hn
  have hgb := grownBy_cell wr g k (.bool true)
  have e : (Value.slice (some ⟨g, 0, none⟩) gone.length cap).ownBlock = some g := rfl
  refine ⟨h.tb.off g k _ (by intro q hq; simp at hq; rcases hq with rfl | rfl <;> simp <;> omega), h.row.kept hgb (e ▸ rows_ne h.row h.gone (by decide)), h.all.kept hgb (e ▸ rows_ne h.all h.gone (by decide)), ?_, h.bl.setCell _ (by simp only; omega) _, by simpa using h.size⟩
  have := (h.gone.stored k (.bool true)).1
  have e2 : boolCells (gone.set k true) = (boolCells gone).set k (.bool true) := by simp [boolCells, List.map_set]
  rw [List.length_set, e2]
  exact this
end
end Go.Proofs.YtidclkojekodpaaDoor
