
/-
  Contracts of words: List.
-/
import Derived.Test.YtidclkojekodpaaGreatDoorWdR
import Derived.Test.YtidclkojekodpaaGreatDoorWoL
import Derived.Test.YtidclkojekodpaaGreatDoorBld
import Derived.Deep.LoopGhost
namespace Go.Proofs.YtidclkojekodpaaGreatDoor
open Go.RowKit
set_option linter.unusedSimpArgs false
set_option linter.unusedVariables false
set_option maxRecDepth 100000

/-- Numbers in memory. -/
structure Nums (w : World) (a : Option Addr) (l : List Int) : Prop where
  at_ : l ≠ [] → ∃ b off, a = some ⟨b, off, none⟩ ∧ ∀ i x, l[i]? = some x → w.cell? ⟨b, off + i, none⟩ = some (.int .i64 x)
theorem Nums.bl {w w' : World} {a : Option Addr} {l : List Int} (h : Nums w a l) (k : Bl w w') : Nums w' a l :=
  ⟨fun hn => let ⟨b, off, e, f⟩ := h.at_ hn; ⟨b, off, e, fun i x hx => k.cell (f i x hx)⟩⟩
theorem Nums.get {w : World} {a : Option Addr} {l : List Int} (h : Nums w a l) {k : Nat} (hk : k < l.length) :
    ∃ b off, a = some ⟨b, off, none⟩ ∧ ∀ i x, l[i]? = some x → w.cell? ⟨b, off + i, none⟩ = some (.int .i64 x) := h.at_ (by rintro rfl; simp at hk)
theorem woItoa (n : Int) (h0 : -9223372036854775808 ≤ n) (h1 : n ≤ 9223372036854775807) (w : World) (hE : WEnv w) : Calls Tryz.prog 15 #[.int .i64 n] w (RB w (.string ⟨(Lib.itoa n).toArray⟩)) := by
  refine (Tryz.strconv_Itoa n h0 h1 w hE.pow).mono ?_
  rintro e w' ⟨rfl, k, os, rfl⟩
  exact ⟨rfl, ((Bl.refl w).drewN k).trans (bl_grow _ _)⟩
theorem all_bad {l : List Int} {k : Nat} {x : Int} (h : l[k]? = some x) (hx : numB x = false) : l.all numB = false := by
  rw [List.all_eq_false]; exact ⟨x, List.mem_of_getElem? h, by simp [hx]⟩
theorem all_good {l : List Int} (h : ∀ (j : Nat) x, l[j]? = some x → numB x = true) : l.all numB = true := by
  rw [List.all_eq_true]
  intro c hc
  obtain ⟨j, hj, rfl⟩ := List.getElem_of_mem hc
  exact h j _ (List.getElem?_eq_getElem hj)
theorem numB_iff {x : Int} (h : numB x = true) : 0 ≤ x ∧ x ≤ 1000000000 := by
  unfold numB at h
  simpa only [Bool.and_eq_true, decide_eq_true_eq] using h
def fmV (b : Bool) : Int := if b then 0 else 6
theorem itoa_ne (n : Int) : (Lib.itoa n).isEmpty = false := by
  have := (itoa_facts n).1
  cases h : Lib.itoa n with
  | nil => rw [h] at this; cases this
  | cons _ _ => rfl
theorem txt_step {l : List Int} {acc : List UInt8} {k m : Nat} {x z : Int} (hT : txtG false (runsL l) = acc ++ txtG (!acc.isEmpty) (runsL (l.drop k))) (hr : runsL (l.drop k) = runsF x z (l.drop (m + 1))) (he : runsF x z (l.drop (m + 1)) = (x, z) :: runsL (l.drop (m + 1))) (acc' : List UInt8) (ha : acc' = acc ++ (if acc.isEmpty then [] else [44]) ++ runT (x, z)) :
    txtG false (runsL l) = acc' ++ txtG (!acc'.isEmpty) (runsL (l.drop (m + 1))) := by
  have hne : acc'.isEmpty = false := by
    rw [ha]; unfold runT
    have := itoa_ne x
    cases h : Lib.itoa x with
    | nil => rw [h] at this; cases this
    | cons _ _ => simp
  rw [hne, hT, hr, he, ha]
  simp only [txtG, Bool.not_false, List.append_assoc]
  congr 1
  cases acc.isEmpty <;> simp
end Go.Proofs.YtidclkojekodpaaGreatDoor
