
/-
  Plain facts of the neighbours of a key.
-/
import Derived.Test.YtndcjgkgkpkklaaRnR
namespace Go.Proofs.Ytndcjgkgkpkklaa
open Go.RowKit
set_option linter.unusedSimpArgs false
set_option linter.unusedVariables false
set_option maxRecDepth 100000

theorem echk_four (x : Ent) : echk x ≠ 4 := by
  unfold echk
  split
  · omega
  · split
    · omega
    · split <;> omega
theorem clGo_four : ∀ (l : List Ent) (i : Nat) (p : Option ByteArray), (clGo i p l).2 ≠ 4
  | [], i, p => by simp [clGo]
  | x :: l, i, p => by
    rw [clGo]
    split
    · exact echk_four x
    · split
      · simp
      · exact clGo_four l _ _
theorem rask_four (r : Rn) (k : ByteArray) : rask r k ≠ 4 := by
  unfold rask
  split
  · unfold rck
    split
    · simp
    · unfold clchk
      split
      · simp
      · exact clGo_four _ _ _
  · unfold kchk; split <;> simp
theorem atE_two {l : List Ent} {n : Nat} (h : n ≤ l.length) : (n < l.length ∧ ∃ x, l[n]? = some x ∧ atE l (n : Int) = (x, 0)) ∨ (n = l.length ∧ atE l (n : Int) = (ent0, 4)) := by
  rcases Nat.lt_or_ge n l.length with c | c
  · exact .inl ⟨c, _, List.getElem?_eq_getElem c, atE_some (List.getElem?_eq_getElem c)⟩
  · exact .inr ⟨by omega, atE_none (.inr (by omega))⟩
theorem atE_prev {l : List Ent} {n : Nat} (h : n ≤ l.length) : (∃ m, n = m + 1 ∧ m < l.length ∧ ∃ x, l[m]? = some x ∧ atE l ((n : Int) - 1) = (x, 0)) ∨ (n = 0 ∧ atE l ((n : Int) - 1) = (ent0, 4)) := by
  rcases Nat.eq_zero_or_pos n with c | c
  · exact .inr ⟨c, atE_none (.inl (by omega))⟩
  · obtain ⟨m, rfl⟩ : ∃ m, n = m + 1 := ⟨n - 1, by omega⟩
    refine .inl ⟨m, rfl, by omega, _, List.getElem?_eq_getElem (by omega), ?_⟩
    rw [show (((m + 1 : Nat) : Int) - 1) = (m : Int) by omega]
    exact atE_some (List.getElem?_eq_getElem (by omega))
/-- What is around a key. -/
theorem neigh {r : Rn} {k : ByteArray} (h : rask r k = 0) : ∃ q n : Nat, q ≤ r.es.length ∧ n ≤ r.es.length ∧ (∀ j x, r.es[j]? = some x → slt x.key k = decide (j < q)) ∧
    ((n = q + 1 ∧ ∃ x, r.es[q]? = some x ∧ x.key = k ∧ rget r k = (x, 0) ∧ rflo r k false = (x, 0) ∧ rcei r k false = (x, 0)) ∨ (n = q ∧ rget r k = (ent0, 4) ∧ rflo r k false = rflo r k true ∧ rcei r k false = rcei r k true)) ∧
    ((∃ m, q = m + 1 ∧ m < r.es.length ∧ ∃ x, r.es[m]? = some x ∧ rflo r k true = (x, 0)) ∨ (q = 0 ∧ rflo r k true = (ent0, 4))) ∧
    ((n < r.es.length ∧ ∃ x, r.es[n]? = some x ∧ rcei r k true = (x, 0)) ∨ (n = r.es.length ∧ rcei r k true = (ent0, 4))) := by
  obtain ⟨o1, o2⟩ := rask_ok h
  obtain ⟨-, -, -, -, -, o5⟩ := rck_ok o1
  refine ⟨cntLtE r.es k, ceN r.es k true, cntLtE_le _ _, ceN_le _ _ _, fun j x hx => key_lt o5 hx, ?_, ?_, ?_⟩
  · cases hh : hasK r.es k
    · right
      refine ⟨by simp [ceN, hh], ?_, ?_, ?_⟩
      · unfold rget; rw [if_neg (by simp [h]), if_neg (by simp [hh])]
      · rw [rflo_at, rflo_at]; simp [flN, hh]
      · rw [rcei_at, rcei_at]; simp [ceN, hh]
    · left
      obtain ⟨x, hx, hxk⟩ := (hasK_iff _ _).1 hh
      refine ⟨by simp [ceN, hh], x, hx, hxk, ?_, ?_, ?_⟩
      · unfold rget; rw [if_neg (by simp [h]), if_pos hh, atE_some hx]
      · rw [rflo_at, if_neg (by simp [h]), show flN r.es k false = cntLtE r.es k + 1 by simp [flN, hh], show (((cntLtE r.es k + 1 : Nat) : Int) - 1) = (cntLtE r.es k : Int) by omega, atE_some hx]
      · rw [rcei_at, if_neg (by simp [h]), show ceN r.es k false = cntLtE r.es k by simp [ceN], atE_some hx]
  · rw [rflo_at, if_neg (by simp [h]), flN_strict]
    exact atE_prev (cntLtE_le _ _)
  · rw [rcei_at, if_neg (by simp [h])]
    exact atE_two (ceN_le _ _ _)
theorem neigh_err {r : Rn} {k : ByteArray} (h : rask r k ≠ 0) : rget r k = (ent0, rask r k) ∧ (∀ s, rflo r k s = (ent0, rask r k)) ∧ ∀ s, rcei r k s = (ent0, rask r k) := by
  refine ⟨by unfold rget; rw [if_pos h], fun s => by unfold rflo; rw [if_pos h], fun s => by unfold rcei; rw [if_pos h]⟩
end Go.Proofs.Ytndcjgkgkpkklaa
