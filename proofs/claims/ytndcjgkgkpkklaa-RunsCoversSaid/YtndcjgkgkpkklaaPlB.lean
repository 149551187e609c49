
/-
  Plain laws of the blocks of a range.
-/
import Derived.Test.YtndcjgkgkpkklaaPlA
namespace Go.Proofs.Ytndcjgkgkpkklaa
open Go.RowKit
set_option linter.unusedSimpArgs false
set_option linter.unusedVariables false
set_option maxRecDepth 100000

theorem filter_le {α : Type} (p q : α → Bool) (h : ∀ a, p a = true → q a = true) : ∀ l : List α, (l.filter p).length ≤ (l.filter q).length
  | [] => by simp
  | a :: l => by
    have ih := filter_le p q h l
    cases hp : p a
    · rw [List.filter_cons_of_neg (by simp [hp])]
      cases hq : q a
      · rw [List.filter_cons_of_neg (by simp [hq])]; exact ih
      · rw [List.filter_cons_of_pos hq]; simp; omega
    · rw [List.filter_cons_of_pos hp, List.filter_cons_of_pos (h a hp)]; simp; omega
theorem le_trans' {a b c : ByteArray} (h : slt b a = false) (k : slt c b = false) : slt c a = false := by
  cases e : slt c a
  · rfl
  · cases e2 : slt a b
    · have := slt_tri e2 h; subst this; rw [e] at k; cases k
    · have := slt_trans e e2; rw [this] at k; cases k
theorem le_lt_trans {a b c : ByteArray} (h : slt b a = false) (k : slt b c = true) : slt a c = true := by
  cases e : slt a b
  · have := slt_tri e h; subst this; exact k
  · exact slt_trans e k
theorem cntLe_mono (m : List ByteArray) {a b : ByteArray} (h : slt b a = false) : cntLe m a ≤ cntLe m b :=
  filter_le _ _ (fun x hx => by simp only [Bool.not_eq_true'] at hx ⊢; exact le_trans' hx h) m
theorem cntLe_cntLt (m : List ByteArray) {a b : ByteArray} (h : slt a b = true) : cntLe m a ≤ cntLt m b :=
  filter_le _ _ (fun x hx => by
    simp only [Bool.not_eq_true', Bool.not_not] at hx ⊢
    exact le_lt_trans hx h) m
theorem remp_ok {r : Rng} (h : (remp r).2 = 0) : (remp r).1 = (r.bd && !slt r.lo r.hi) := by
  unfold remp at h ⊢
  by_cases k : rchk r = 0
  · simp [k]
  · simp [k] at h
theorem ranges_facts {f : Fnc} {l : List Ent} {r : Rng} (h : Fits f l) (hb : (blks f r).2.2 = 0) :
    ∃ A B : Nat, blks f r = ((A : Int), (B : Int), 0) ∧ (remp r).2 = 0 ∧ (remp r).1 = decide ((A : Int) = (B : Int)) ∧ A ≤ B ∧ B ≤ f.marks.length + 1 ∧
      ∀ i x, l[i]? = some x → rhas r x.key = true → A ≤ i / f.step.toNat ∧ i / f.step.toNat < B := by
  have hs1 := h.s1
  have e1 := h.e1
  have e2 : (remp r).2 = 0 := by
    by_cases k : (remp r).2 = 0
    · exact k
    · unfold blks at hb; simp [e1, k] at hb
  have e3 := remp_ok e2
  by_cases k : (remp r).1 = true
  · refine ⟨0, 0, by unfold blks; simp [e1, e2, k], e2, by simp [k], Nat.le_refl _, by omega, fun i x hx hr => ?_⟩
    rw [e3] at k
    unfold rhas at hr
    simp only [Bool.and_eq_true, Bool.not_eq_true', Bool.or_eq_true] at k hr
    obtain ⟨k1, k2⟩ := k
    obtain ⟨r1, r2⟩ := hr
    rw [k1] at r2
    have := le_lt_trans r1 (by simpa using r2)
    rw [this] at k2; cases k2
  · have k' : (remp r).1 = false := by simpa using k
    have hab : cntLe f.marks r.lo < (if r.bd = true then cntLt f.marks r.hi else f.marks.length) + 1 := by
      have := cntLe_le f.marks r.lo
      split
      · rename_i hbd
        rw [e3, hbd] at k'
        have := cntLe_cntLt f.marks (a := r.lo) (b := r.hi) (by simpa using k')
        omega
      · omega
    refine ⟨cntLe f.marks r.lo, (if r.bd = true then cntLt f.marks r.hi else f.marks.length) + 1, ?_, e2, ?_, by omega, ?_, fun i x hx hr => ?_⟩
    · unfold blks
      rw [if_neg (by simp [e1]), if_neg (by simp [e2]), if_neg k]
      split <;> simp
    · rw [k']; symm; simp; omega
    · have := cntLt_le f.marks r.hi
      split <;> omega
    · have hin := in_block (show 1 ≤ f.step.toNat by omega) h.asc h.ascE h.fit hx
      have hq : i / f.step.toNat = cntLe f.marks x.key := by
        apply Nat.div_eq_of_lt_le
        · exact hin.1
        · rw [Nat.add_mul]; omega
      rw [hq]
      unfold rhas at hr
      simp only [Bool.and_eq_true, Bool.not_eq_true', Bool.or_eq_true] at hr
      obtain ⟨r1, r2⟩ := hr
      refine ⟨cntLe_mono _ r1, ?_⟩
      split
      · rename_i hbd
        rw [hbd] at r2
        have := cntLe_cntLt f.marks (a := x.key) (b := r.hi) (by simpa using r2)
        omega
      · have := cntLe_le f.marks x.key; omega
end Go.Proofs.Ytndcjgkgkpkklaa
