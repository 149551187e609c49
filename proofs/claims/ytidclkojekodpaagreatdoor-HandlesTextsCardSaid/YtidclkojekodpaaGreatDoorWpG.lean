
/-
  Plain facts of words: Split and Join, Quote and Unquote, Int and Digits are inverse to each other.
-/
import Derived.Test.YtidclkojekodpaaGreatDoorWoK
import Derived.Test.YtidclkojekodpaaGreatDoorWoL
import Derived.Test.YtidclkojekodpaaGreatDoorWoW
namespace Go.Proofs.YtidclkojekodpaaGreatDoor
set_option linter.unusedSimpArgs false
set_option linter.unusedVariables false

theorem unq_quoteW (s : List UInt8) : unqR (quoteW s) = (s, 0) := by
  have h := unq1_quote s []
  rw [List.append_nil] at h
  unfold unqR
  rw [h]
  simp
theorem quote_unqR {s v : List UInt8} (h : unqR s = (v, 0)) : quoteW v = s := by
  unfold unqR at h
  cases hu : unq1 s with
  | none => rw [hu] at h; injection h with _ h; cases h
  | some p =>
    obtain ⟨t, n⟩ := p
    rw [hu] at h
    simp only at h
    split at h
    · rename_i hn
      injection h with h _
      subst h
      obtain ⟨h1, h2⟩ := unq1_inv hu
      rw [hn, List.drop_length, List.append_nil] at h1
      exact h1.symm
    · injection h with _ h; cases h
theorem wsplit_ok {s : List UInt8} {f : List Fld} (h : wsplit s = (f, 0)) : s.length ≤ 8192 ∧ (s = [] ∧ f = [] ∨ s ≠ [] ∧ splitW s = some f ∧ tooL f = false ∧ f.length ≤ 64) := by
  unfold wsplit at h
  split at h
  · injection h with _ h; cases h
  · rename_i hl
    refine ⟨by omega, ?_⟩
    split at h
    · rename_i hz
      injection h with h _
      exact .inl ⟨hz, h.symm⟩
    · rename_i hz
      split at h
      · injection h with _ h; cases h
      · rename_i fs hf
        split at h
        · injection h with _ h; cases h
        · rename_i hx
          injection h with h _
          subst h
          refine .inr ⟨hz, hf, ?_, ?_⟩
          · cases q : tooL fs
            · rfl
            · exact absurd (.inl q) hx
          · exact Nat.le_of_not_lt (fun q => hx (.inr q))
theorem join_mk {l : List Fld} (h1 : l.length ≤ 64) (h2 : tooL l = false) (h3 : l.all Fld.val = true) (h4 : (joinW l).length ≤ 8192) : wjoin l = (joinW l, 0) := by
  unfold wjoin
  rw [if_neg (by omega), if_neg (by simp [h2]), if_neg (by simp [h3]), if_neg (by omega)]
theorem split_joinR {s : List UInt8} {f : List Fld} (h : wsplit s = (f, 0)) : wjoin f = (s, 0) := by
  obtain ⟨h1, ⟨rfl, rfl⟩ | ⟨h2, h3, h4, h5⟩⟩ := wsplit_ok h
  · rfl
  · obtain ⟨k1, k2, k3⟩ := join_split _ _ _ h3
    rw [join_mk h5 h4 (List.all_eq_true.2 k3) (by rw [← k1]; exact h1), ← k1]
theorem join_splitR {l : List Fld} {t : List UInt8} (h : wjoin l = (t, 0)) : wsplit t = (l, 0) := by
  unfold wjoin at h
  split at h
  · injection h with _ h; cases h
  · rename_i h1
    split at h
    · injection h with _ h; cases h
    · rename_i h2
      split at h
      · injection h with _ h; cases h
      · rename_i h3
        split at h
        · injection h with _ h; cases h
        · rename_i h4
          injection h with h _
          subst h
          by_cases hl : l = []
          · subst hl; rfl
          · have hv : ∀ x ∈ l, x.val = true := List.all_eq_true.1 (by simpa using h3)
            have hs := split_join l ((joinW l).length + 1) hl hv (by omega)
            have hne : joinW l ≠ [] := by
              intro e
              rw [e] at hs
              simp [splitG, head1, unq1, bare1, wordOf, bareW] at hs
            unfold wsplit
            rw [if_neg h4, if_neg hne, show splitW (joinW l) = some l from hs]
            simp only
            rw [if_neg]
            rintro (q | q)
            · rw [q] at h2; exact h2 rfl
            · exact h1 q
theorem int_digits (n : Int) (h0 : -9223372036854775808 ≤ n) (h1 : n ≤ 9223372036854775807) : wint (Lib.itoa n) n n = (n, 0) := by
  obtain ⟨i1, i2⟩ := itoa_facts n
  unfold wint inI64
  rw [if_pos i1, i2, decide_eq_true h0, decide_eq_true h1, decide_eq_true (Int.le_refl n)]
  rfl
theorem digits_int {s : List UInt8} {lo hi k : Int} (h : wint s lo hi = (k, 0)) : Lib.itoa k = s ∧ -9223372036854775808 ≤ k ∧ k ≤ 9223372036854775807 := by
  unfold wint at h
  split at h
  · rename_i hd
    split at h
    · rename_i hb
      injection h with h _
      subst h
      simp only [inI64, Bool.and_eq_true, decide_eq_true_eq] at hb
      exact ⟨itoa_intV hd, hb.1.1⟩
    · injection h with _ h; cases h
  · injection h with _ h; cases h
end Go.Proofs.YtidclkojekodpaaGreatDoor
