
/-
  Contracts of words: Join.
-/
import Derived.Test.YtidclkojekodpaaGreatDoorWoR
import Derived.Test.YtidclkojekodpaaGreatDoorWoK
import Derived.Test.YtidclkojekodpaaGreatDoorWoF
import Derived.Lib.Join
namespace Go.Proofs.YtidclkojekodpaaGreatDoor
open Go.RowKit
set_option linter.unusedSimpArgs false
set_option linter.unusedVariables false
set_option maxRecDepth 100000

def wjoin (l : List Fld) : List UInt8 × Int := if 64 < l.length then ([], 3) else if tooL l = true then ([], 3) else if l.all Fld.val = false then ([], 6) else if 8192 < (joinW l).length then ([], 3) else (joinW l, 0)
theorem join_is : ∀ l : List Fld, Lib.join (l.map Fld.txt) [32] = joinW l
  | [] => rfl
  | [f] => by simp [Lib.join_one, joinW]
  | f :: g :: l => by
    have ih := join_is (g :: l)
    rw [List.map_cons, Lib.join_cons] at ih ⊢
    rw [List.map_cons, Lib.joinTail, List.map_cons, List.flatten_cons]
    rw [Lib.joinTail] at ih
    simp only [joinW]
    rw [← ih]; simp
theorem quote_len (l : List UInt8) : (quoteW l).length ≤ 4 * l.length + 2 := by
  have := escs_len l
  unfold quoteW
  simp only [List.length_cons, List.length_append, List.length_nil]; omega
theorem txt_len {f : Fld} (h : f.s.length ≤ 2000) : f.txt.length ≤ 8002 := by
  unfold Fld.txt
  split
  · have := quote_len f.s; omega
  · omega
theorem join_len : ∀ l : List Fld, (∀ f ∈ l, f.s.length ≤ 2000) → (joinW l).length ≤ 8003 * l.length
  | [], _ => by simp [joinW]
  | [f], h => by have := txt_len (h f (by simp)); simp [joinW]; omega
  | f :: g :: l, h => by
    have h1 := txt_len (h f (by simp))
    have h2 := join_len (g :: l) (fun x hx => h x (by simp [hx]))
    simp only [joinW, List.length_append, List.length_cons] at h2 ⊢
    omega
theorem tooL_at {l : List Fld} {k : Nat} {x : Fld} (h : l[k]? = some x) (hx : 2000 < x.s.length) : tooL l = true := by
  unfold tooL; rw [List.any_eq_true]; exact ⟨x, List.mem_of_getElem? h, by simpa using hx⟩
theorem tooL_no {l : List Fld} (h : ∀ (j : Nat) x, l[j]? = some x → x.s.length ≤ 2000) : tooL l = false := by
  unfold tooL; rw [List.any_eq_false]
  intro x hx
  obtain ⟨j, hj, rfl⟩ := List.getElem_of_mem hx
  have := h j _ (List.getElem?_eq_getElem hj)
  simp; omega
def txtV (f : Fld) : Value := .string ⟨f.txt.toArray⟩
theorem take_map_step {l : List Fld} {k : Nat} {x : Fld} (h : l[k]? = some x) : (l.map txtV).take (k + 1) = (l.map txtV).take k ++ [txtV x] := by
  obtain ⟨hk, hz⟩ := List.getElem?_eq_some_iff.1 h
  rw [← List.map_take, ← List.map_take, List.take_succ_eq_append_getElem hk, hz]; simp
theorem take_all_step {l : List Fld} {k : Nat} {x : Fld} (h : l[k]? = some x) : (l.take (k + 1)).all Fld.val = ((l.take k).all Fld.val && x.val) := by
  obtain ⟨hk, hz⟩ := List.getElem?_eq_some_iff.1 h
  rw [List.take_succ_eq_append_getElem hk, hz]; simp
end Go.Proofs.YtidclkojekodpaaGreatDoor
