
/-
  Contracts of words: the reference's Join; the law's far.
-/
import Derived.Test.YtfjdcfmoodlnaaaGreatDoorWoW
import Derived.Test.YtfjdcfmoodlnaaaGreatDoorWoE
import Derived.Test.YtfjdcfmoodlnaaaGreatDoorWoN
namespace Go.Proofs.YtfjdcfmoodlnaaaGreatDoor
open Go.RowKit
set_option linter.unusedSimpArgs false
set_option linter.unusedVariables false
set_option maxRecDepth 100000

theorem join_step {l : List Fld} {k : Nat} {x : Fld} (h : l[k]? = some x) : joinW (l.take (k + 1)) = if k = 0 then x.txt else joinW (l.take k) ++ 32 :: x.txt := by
  obtain ⟨hk, hz⟩ := List.getElem?_eq_some_iff.1 h
  rw [List.take_succ_eq_append_getElem hk, hz]
  by_cases e : k = 0
  · subst e; simp [joinW]
  · rw [if_neg e, join_app _ _ (by intro h; have h2 : (l.take k).length = k := by { rw [List.length_take]; omega }; rw [h] at h2; simp at h2; omega) (by simp)]; rfl
theorem val_at {l : List Fld} {k : Nat} {x : Fld} (h : l[k]? = some x) (hx : x.val = false) : l.all Fld.val = false := by
  rw [List.all_eq_false]; exact ⟨x, List.mem_of_getElem? h, by simp [hx]⟩
theorem val_all {l : List Fld} (h : ∀ (j : Nat) x, l[j]? = some x → x.val = true) : l.all Fld.val = true := by
  rw [List.all_eq_true]
  intro x hx
  obtain ⟨j, hj, rfl⟩ := List.getElem_of_mem hx
  exact h j _ (List.getElem?_eq_getElem hj)
end Go.Proofs.YtfjdcfmoodlnaaaGreatDoor
