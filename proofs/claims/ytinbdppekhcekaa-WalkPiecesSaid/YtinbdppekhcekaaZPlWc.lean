/-
  Own texts laid together: PlWc.
-/
import Derived.Test.YtinbdppekhcekaaZPlWa
import Derived.Test.YtinbdppekhcekaaZu
/-
  Plain facts of walks: what lies behind a key that was sought.
-/
namespace Go.Proofs.Ytinbdppekhcekaa
set_option linter.unusedSimpArgs false
set_option linter.unusedVariables false

/-- What the law WalkSought asks: L behind the key, P behind what equals it, F before it. -/
structure SoughtLaw (key : ByteArray) (l L P F : List Ent) : Prop where
  len : L.length + F.length = l.length
  le : P.length ≤ L.length
  le1 : L.length ≤ P.length + 1
  ge : ∀ (i : Nat) x, L[i]? = some x → slt x.key key = false
  lt : ∀ (i : Nat) x, F[i]? = some x → slt x.key key = true
  gt : ∀ (i : Nat) x, P[i]? = some x → slt key x.key = true
  eq : L.length = P.length ∨ ∃ x, L[0]? = some x ∧ x.key = key
theorem wtake_at {r : Rn} {p : Nat} {m : Int} (h : wchk r p = 0) (h1 : -5000 ≤ m) (h2 : m ≤ 5000) {i : Nat} {x : Ent} (hx : (wtake r p m).1[i]? = some x) : i < wq r p m ∧ r.es[wix p (decide (m < 0)) i]? = some x := by
  have hi := (List.getElem?_eq_some_iff.1 hx).1
  rw [wtake_len h h1 h2] at hi
  rw [wtake_get h h1 h2 i hi] at hx
  exact ⟨hi, hx⟩
theorem sought_cases (r : Rn) (k : ByteArray) : (∃ e, e ≠ 0 ∧ wseek r k false = (0, e) ∧ wseek r k true = (0, e)) ∨
    (∃ A B : Nat, wseek r k false = ((A : Int), 0) ∧ wseek r k true = ((B : Int), 0) ∧ (wtake r A 5000).2.2 = 0 ∧ (wtake r B 5000).2.2 = 0 ∧ (wtake r A (-5000)).2.2 = 0 ∧
      SoughtLaw k r.es (wtake r A 5000).1 (wtake r B 5000).1 (wtake r A (-5000)).1) := by
  by_cases e : (rck r).2 = 0
  · by_cases ek : kchk k = 0
    · right
      have ha := (rck_ok e).2.2.2.2.2
      have hl := (rck_ok e).2.2.2.1
      have s1 := ceN_le r.es k false
      have s2 := ceN_le r.es k true
      have w1 : ∀ p, wseek r k p = ((ceN r.es k p : Int), 0) := by intro p; unfold wseek; rw [if_neg (by simp [e]), if_neg (by simp [ek])]
      have c1 : wchk r (ceN r.es k false) = 0 := by unfold wchk; rw [if_neg (by simp [e]), if_neg (by omega)]
      have c2 : wchk r (ceN r.es k true) = 0 := by unfold wchk; rw [if_neg (by simp [e]), if_neg (by omega)]
      have p1 : ceN r.es k false = cntLtE r.es k := ceN_lax _ _
      have p2 : ceN r.es k true = if hasK r.es k = true then cntLtE r.es k + 1 else cntLtE r.es k := by unfold ceN; rw [Bool.and_true]
      have q1 : wq r (ceN r.es k false) 5000 = r.es.length - ceN r.es k false := by unfold wq wN; simp; omega
      have q2 : wq r (ceN r.es k true) 5000 = r.es.length - ceN r.es k true := by unfold wq wN; simp; omega
      have q3 : wq r (ceN r.es k false) (-5000) = ceN r.es k false := by unfold wq wN; simp; omega
      refine ⟨_, _, w1 false, w1 true, wtake_err c1 (by omega) (by omega), wtake_err c2 (by omega) (by omega), wtake_err c1 (by omega) (by omega), ?_, ?_, ?_, ?_, ?_, ?_, ?_⟩
      · rw [wtake_len c1 (by omega) (by omega), wtake_len c1 (by omega) (by omega), q1, q3]; omega
      · rw [wtake_len c1 (by omega) (by omega), wtake_len c2 (by omega) (by omega), q1, q2, p1, p2]; split <;> omega
      · rw [wtake_len c1 (by omega) (by omega), wtake_len c2 (by omega) (by omega), q1, q2, p1, p2]; split <;> omega
      · intro i x hx
        obtain ⟨hi, hx⟩ := wtake_at c1 (by omega) (by omega) hx
        exact cntLtE_ge ha hx (by rw [← p1]; simp [wix])
      · intro i x hx
        obtain ⟨hi, hx⟩ := wtake_at c1 (by omega) (by omega) hx
        rw [q3] at hi
        exact cntLtE_lt ha hx (by rw [← p1]; simp [wix]; omega)
      · intro i x hx
        obtain ⟨hi, hx⟩ := wtake_at c2 (by omega) (by omega) hx
        rw [key_gt ha hx, ← p2]
        simp [wix]
      · by_cases hk : hasK r.es k = true
        · right
          obtain ⟨x, hx, hxk⟩ := (hasK_iff r.es k).1 hk
          have := hasK_lt hk
          refine ⟨x, ?_, hxk⟩
          rw [wtake_get c1 (by omega) (by omega) 0 (by rw [q1, p1]; omega)]
          simp only [wix, p1]
          simpa using hx
        · left
          rw [wtake_len c1 (by omega) (by omega), wtake_len c2 (by omega) (by omega), q1, q2, p1, p2, if_neg hk]
    · left
      exact ⟨kchk k, ek, by unfold wseek; rw [if_neg (by simp [e]), if_pos ek], by unfold wseek; rw [if_neg (by simp [e]), if_pos ek]⟩
  · left
    exact ⟨(rck r).2, e, by unfold wseek; rw [if_pos e], by unfold wseek; rw [if_pos e]⟩
end Go.Proofs.Ytinbdppekhcekaa
