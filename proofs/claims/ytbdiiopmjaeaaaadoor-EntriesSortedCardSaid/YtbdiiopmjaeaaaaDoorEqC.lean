
/-
  Plain facts of the law EntriesSorted: what is not used yet; where no two are twins.
-/
import Derived.Test.YtbdiiopmjaeaaaaDoorEsS
namespace Go.Proofs.YtbdiiopmjaeaaaaDoor
set_option linter.unusedSimpArgs false
set_option linter.unusedVariables false

/-! ### What is not used yet -/
def unu : List Ent → List Bool → List Ent
  | x :: s, b :: u => if b = true then unu s u else x :: unu s u
  | _, _ => []
theorem unu_start : ∀ s : List Ent, unu s (List.replicate s.length false) = s
  | [] => rfl
  | x :: s => by
    rw [List.length_cons, List.replicate_succ, unu, if_neg (by simp), unu_start s]
theorem unu_mem : ∀ (s : List Ent) (u : List Bool) (x : Ent), x ∈ unu s u → ∃ k : Nat, s[k]? = some x ∧ u[k]? = some false
  | [], _, _, h => by simp [unu] at h
  | _ :: _, [], _, h => by simp [unu] at h
  | y :: s, b :: u, x, h => by
    unfold unu at h
    cases b with
    | true =>
      rw [if_pos rfl] at h
      obtain ⟨k, h1, h2⟩ := unu_mem s u x h
      exact ⟨k + 1, by simpa using h1, by simpa using h2⟩
    | false =>
      rw [if_neg (by simp)] at h
      rcases List.mem_cons.1 h with rfl | h
      · exact ⟨0, by simp, by simp⟩
      · obtain ⟨k, h1, h2⟩ := unu_mem s u x h
        exact ⟨k + 1, by simpa using h1, by simpa using h2⟩
theorem unu_set : ∀ (s : List Ent) (u : List Bool) (k : Nat) (x : Ent), s[k]? = some x → u[k]? = some false → (unu s u).Perm (x :: unu s (u.set k true))
  | [], _, _, _, h, _ => by simp at h
  | _ :: _, [], _, _, _, h => by simp at h
  | y :: s, b :: u, 0, x, h1, h2 => by
    simp at h1 h2
    subst h1 h2
    rw [List.set_cons_zero]
    unfold unu
    rw [if_neg (by simp), if_pos rfl]
  | y :: s, b :: u, k + 1, x, h1, h2 => by
    have ih := unu_set s u k x (by simpa using h1) (by simpa using h2)
    rw [List.set_cons_succ]
    unfold unu
    cases b with
    | true => rw [if_pos rfl, if_pos rfl]; exact ih
    | false =>
      rw [if_neg (by simp), if_neg (by simp)]
      exact (ih.cons y).trans (List.Perm.swap x y _)
/-! ### No two twins -/
/-- Neighbours among the first k are of one key and one number. -/
def twins (s : List Ent) (k : Nat) : Prop := ∃ (i : Nat) (x y : Ent), i + 1 < k ∧ s[i]? = some x ∧ s[i + 1]? = some y ∧ ocmp x y = 0
theorem twins_step {s : List Ent} {k : Nat} {x y : Ent} (hx : s[k]? = some x) (hy : s[k + 1]? = some y) : twins s (k + 2) ↔ twins s (k + 1) ∨ ocmp x y = 0 := by
  constructor
  · rintro ⟨i, u, v, h1, h2, h3, h4⟩
    rcases Nat.lt_or_ge (i + 1) (k + 1) with h | h
    · exact .inl ⟨i, u, v, h, h2, h3, h4⟩
    · obtain rfl : i = k := by omega
      rw [hx] at h2; rw [hy] at h3
      injection h2 with h2; injection h3 with h3
      subst h2 h3
      exact .inr h4
  · rintro (⟨i, u, v, h1, h2, h3, h4⟩ | h)
    · exact ⟨i, u, v, by omega, h2, h3, h4⟩
    · exact ⟨k, x, y, by omega, hx, hy, h⟩
theorem strictE : ∀ (s : List Ent), s.Pairwise (fun x y => ocmp x y ≤ 0) → ¬ twins s s.length → s.Pairwise (fun x y => ocmp x y < 0)
  | [], _, _ => .nil
  | x :: s, hp, hn => by
    have hp' := List.pairwise_cons.1 hp
    have ih := strictE s hp'.2 (fun ⟨i, u, v, h1, h2, h3, h4⟩ => hn ⟨i + 1, u, v, by simp; omega, by simpa using h2, by simpa using h3, h4⟩)
    refine List.pairwise_cons.2 ⟨fun y hy => ?_, ih⟩
    have hle := hp'.1 y hy
    by_cases h0 : ocmp x y = 0
    · exfalso
      match s, hy with
      | z :: s, hy =>
        have hz : ocmp x z ≠ 0 := fun e => hn ⟨0, x, z, by simp, rfl, rfl, e⟩
        have hxz := hp'.1 z (by simp)
        have hzy : ocmp z y ≤ 0 := by
          rcases List.mem_cons.1 hy with rfl | hy
          · have := ocmp_pre.neg y y; omega
          · exact (List.pairwise_cons.1 hp'.2).1 y hy
        exact hz ((ocmp_pre.tr x z y hxz hzy).2 h0).1
    · omega
theorem uniq_of {s : List Ent} (h : s.Pairwise (fun x y => ocmp x y < 0)) : ∀ x ∈ s, ∀ y ∈ s, ocmp x y = 0 → x = y := by
  intro x hx y hy e
  obtain ⟨i, hi, rfl⟩ := List.getElem_of_mem hx
  obtain ⟨j, hj, rfl⟩ := List.getElem_of_mem hy
  rcases Nat.lt_trichotomy i j with h' | h' | h'
  · have := List.pairwise_iff_getElem.1 h i j hi hj h'; omega
  · subst h'; rfl
  · have := List.pairwise_iff_getElem.1 h j i hj hi h'
    have := ocmp_pre.neg s[i] s[j]; omega
theorem newest_turned {l : List Ent} (h : ¬ twins (isort ocmp l) (isort ocmp l).length) : newest l = newest l.reverse := by
  have hs := uniq_of (strictE _ (isort_le l) h)
  refine newest_uniq (fun x => by simp) (fun x hx y hy hk hq => ?_)
  exact hs x ((isort_perm l).mem_iff.2 hx) y ((isort_perm l).mem_iff.2 hy) (ocmp_zero.2 ⟨hk, hq⟩)
end Go.Proofs.YtbdiiopmjaeaaaaDoor
