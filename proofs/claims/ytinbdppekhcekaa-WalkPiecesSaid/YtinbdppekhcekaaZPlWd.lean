/-
  Own texts laid together: PlWd.
-/
import Derived.Test.YtinbdppekhcekaaZPlWc
/-
  Plain facts of walks: pieces of what Take hands back.
-/
namespace Go.Proofs.Ytinbdppekhcekaa
set_option linter.unusedSimpArgs false
set_option linter.unusedVariables false

/-- What the law WalkPieces asks: L is Take of n, K then Take of m, A Take of both, B Take of -n behind L. -/
structure PiecesLaw (n m wc : Int) (L K A B : List Ent) (vb vc vd : Int) : Prop where
  join : 0 ≤ n * m → A = L ++ K ∧ vb = vc
  le : L.length ≤ n.natAbs
  back : L.length = n.natAbs → vd = wc ∧ B.length = L.length ∧ ∀ i, i < L.length → B[L.length - 1 - i]? = L[i]?
  small : L.length ≤ 80 ∧ K.length ≤ 80 ∧ A.length ≤ 80 ∧ B.length ≤ 80
theorem wtake_none {r : Rn} {p : Nat} {m : Int} (h : wchk r p = 0) (h1 : -5000 ≤ m) (h2 : m ≤ 5000) {i : Nat} (hi : wq r p m ≤ i) : (wtake r p m).1[i]? = none :=
  List.getElem?_eq_none (by rw [wtake_len h h1 h2]; exact hi)
theorem wq_fwd (r : Rn) (p : Nat) {m : Int} (h : 0 ≤ m) : wq r p m = min m.natAbs (r.es.length - p) := by
  unfold wq wN; rw [show decide (m < 0) = false by simp; omega]; rfl
theorem wq_bwd (r : Rn) (p : Nat) {m : Int} (h : m < 0) : wq r p m = min m.natAbs p := by
  unfold wq wN; rw [show decide (m < 0) = true by simp; omega]; rfl
/-- One after the other, the same way. -/
theorem pieces_join {r : Rn} {p pa : Nat} {n m : Int} (hp : wchk r p = 0) (hpa : wchk r pa = 0) (hn : -99 ≤ n ∧ n ≤ 99) (hm : -99 ≤ m ∧ m ≤ 99) (hs : 0 ≤ n * m) (ha : (pa : Int) = if n < 0 then (p : Int) - wq r p n else (p : Int) + wq r p n) :
    (wtake r p (n + m)).1 = (wtake r p n).1 ++ (wtake r pa m).1 ∧ (wtake r pa m).2.1 = (wtake r p (n + m)).2.1 := by
  obtain ⟨-, -, l1⟩ := wchk_ok hp
  obtain ⟨-, -, l2⟩ := wchk_ok hpa
  have hsg : (0 ≤ n ∧ 0 ≤ m) ∨ (n ≤ 0 ∧ m ≤ 0) := by
    rcases Int.lt_trichotomy n 0 with h | h | h
    · right; refine ⟨by omega, ?_⟩
      rcases Int.lt_or_le 0 m with k | k
      · have := Int.mul_neg_of_neg_of_pos h k; omega
      · exact k
    · subst h; omega
    · left; refine ⟨by omega, ?_⟩
      rcases Int.lt_or_le m 0 with k | k
      · have := Int.mul_neg_of_pos_of_neg h k; omega
      · exact k
  have hlen := wtake_len hp (m := n) (by omega) (by omega)
  rcases hsg with ⟨h1, h2⟩ | ⟨h1, h2⟩
  · rw [if_neg (by omega)] at ha
    have e1 := wq_fwd r p h1
    have e2 := wq_fwd r pa h2
    have e3 := wq_fwd r p (show 0 ≤ n + m by omega)
    have es : wq r p (n + m) = wq r p n + wq r pa m := by omega
    constructor
    · refine List.ext_getElem? fun i => ?_
      rcases Nat.lt_or_ge i (wq r p n) with h | h
      · rw [List.getElem?_append_left (by omega), wtake_get hp (by omega) (by omega) i (by omega), wtake_get hp (by omega) (by omega) i h]
        rw [show decide (n + m < 0) = false by simp; omega, show decide (n < 0) = false by simp; omega]
      · rw [List.getElem?_append_right (by omega), hlen]
        rcases Nat.lt_or_ge i (wq r p (n + m)) with k | k
        · rw [wtake_get hp (by omega) (by omega) i k, wtake_get hpa (by omega) (by omega) _ (by omega)]
          rw [show decide (n + m < 0) = false by simp; omega, show decide (m < 0) = false by simp; omega]
          unfold wix
          simp only [Bool.false_eq_true, if_false]
          congr 1; omega
        · rw [wtake_none hp (by omega) (by omega) k, wtake_none hpa (by omega) (by omega) (by omega)]
    · rw [wtake_cur hp (by omega) (by omega), wtake_cur hpa (by omega) (by omega), if_neg (by omega), if_neg (by omega)]; omega
  · rcases Int.lt_or_le n 0 with h3 | h3
    · rw [if_pos h3] at ha
      have e1 := wq_bwd r p h3
      have e3 := wq_bwd r p (show n + m < 0 by omega)
      have e2 : wq r pa m = min m.natAbs pa := by
        rcases Int.lt_or_le m 0 with h4 | h4
        · exact wq_bwd r pa h4
        · rw [wq_fwd r pa h4]; omega
      have es : wq r p (n + m) = wq r p n + wq r pa m := by omega
      constructor
      · refine List.ext_getElem? fun i => ?_
        rcases Nat.lt_or_ge i (wq r p n) with h | h
        · rw [List.getElem?_append_left (by omega), wtake_get hp (by omega) (by omega) i (by omega), wtake_get hp (by omega) (by omega) i h]
          rw [show decide (n + m < 0) = true by simp; omega, show decide (n < 0) = true by simp; omega]
        · rw [List.getElem?_append_right (by omega), hlen]
          rcases Nat.lt_or_ge i (wq r p (n + m)) with k | k
          · rw [wtake_get hp (by omega) (by omega) i k, wtake_get hpa (by omega) (by omega) _ (by omega)]
            rw [show decide (n + m < 0) = true by simp; omega, show decide (m < 0) = true by simp; omega]
            unfold wix
            simp only [if_true]
            congr 1; omega
          · rw [wtake_none hp (by omega) (by omega) k, wtake_none hpa (by omega) (by omega) (by omega)]
      · rw [wtake_cur hp (by omega) (by omega), wtake_cur hpa (by omega) (by omega), if_pos (show n + m < 0 by omega)]
        split <;> omega
    · obtain rfl : n = 0 := by omega
      have e1 : wq r p 0 = 0 := by rw [wq_fwd r p (by omega)]; simp
      rw [e1, if_neg (by omega)] at ha
      obtain rfl : pa = p := by omega
      have : (wtake r pa 0).1 = [] := List.length_eq_zero_iff.1 (by rw [hlen, e1])
      rw [this, Int.zero_add]
      simp
/-- And back. -/
theorem pieces_back {r : Rn} {p pa : Nat} {n : Int} (hp : wchk r p = 0) (hpa : wchk r pa = 0) (hn : -99 ≤ n ∧ n ≤ 99) (ha : (pa : Int) = if n < 0 then (p : Int) - wq r p n else (p : Int) + wq r p n) (hq : (wtake r p n).1.length = n.natAbs) :
    (wtake r pa (-n)).2.1 = p ∧ (wtake r pa (-n)).1.length = (wtake r p n).1.length ∧ ∀ i, i < (wtake r p n).1.length → (wtake r pa (-n)).1[(wtake r p n).1.length - 1 - i]? = (wtake r p n).1[i]? := by
  obtain ⟨-, -, l1⟩ := wchk_ok hp
  obtain ⟨-, -, l2⟩ := wchk_ok hpa
  rw [wtake_len hp (by omega) (by omega)] at hq ⊢
  rcases Int.lt_trichotomy n 0 with h | h | h
  · rw [if_pos h] at ha
    have e1 := wq_bwd r p h
    have e2 := wq_fwd r pa (show 0 ≤ -n by omega)
    refine ⟨?_, ?_, fun i hi => ?_⟩
    · rw [wtake_cur hpa (by omega) (by omega), if_neg (by omega)]; omega
    · rw [wtake_len hpa (by omega) (by omega)]; omega
    · rw [wtake_get hpa (by omega) (by omega) _ (by omega), wtake_get hp (by omega) (by omega) i hi]
      rw [show decide (-n < 0) = false by simp; omega, show decide (n < 0) = true by simp; omega]
      unfold wix
      simp only [Bool.false_eq_true, if_false, if_true]
      congr 1; omega
  · subst h
    have e1 : wq r p 0 = 0 := by rw [wq_fwd r p (by omega)]; simp
    have e2 : wq r pa 0 = 0 := by rw [wq_fwd r pa (by omega)]; simp
    rw [e1, if_neg (by omega)] at ha
    refine ⟨?_, ?_, fun i hi => absurd hi (by omega)⟩
    · rw [show (-0 : Int) = 0 from rfl, wtake_cur hpa (by omega) (by omega), if_neg (by omega)]; omega
    · rw [show (-0 : Int) = 0 from rfl, wtake_len hpa (by omega) (by omega)]; omega
  · rw [if_neg (by omega)] at ha
    have e1 := wq_fwd r p (show 0 ≤ n by omega)
    have e2 := wq_bwd r pa (show -n < 0 by omega)
    refine ⟨?_, ?_, fun i hi => ?_⟩
    · rw [wtake_cur hpa (by omega) (by omega), if_pos (by omega)]; omega
    · rw [wtake_len hpa (by omega) (by omega)]; omega
    · rw [wtake_get hpa (by omega) (by omega) _ (by omega), wtake_get hp (by omega) (by omega) i hi]
      rw [show decide (-n < 0) = true by simp; omega, show decide (n < 0) = false by simp; omega]
      unfold wix
      simp only [Bool.false_eq_true, if_false, if_true]
      congr 1; omega
theorem wq_le (r : Rn) (p : Nat) (m : Int) (h : wchk r p = 0) : wq r p m ≤ r.es.length ∧ wq r p m ≤ m.natAbs ∧ (if m < 0 then wq r p m ≤ p else p + wq r p m ≤ r.es.length) := by
  obtain ⟨-, -, l1⟩ := wchk_ok h
  rcases Int.lt_or_le m 0 with k | k
  · rw [wq_bwd r p k, if_pos k]; omega
  · rw [wq_fwd r p k, if_neg (by omega)]; omega
theorem pieces_cases (r : Rn) (wc n m : Int) (hl : r.es.length ≤ 80) (hn : -99 ≤ n ∧ n ≤ 99) (hm : -99 ≤ m ∧ m ≤ 99) :
    (∃ e, e ≠ 0 ∧ wtake r wc n = ([], 0, e)) ∨
    (∃ va : Int, (wtake r wc n).2.1 = va ∧ (wtake r wc n).2.2 = 0 ∧ (wtake r va m).2.2 = 0 ∧ (wtake r wc (n + m)).2.2 = 0 ∧ (wtake r va (-n)).2.2 = 0 ∧
      PiecesLaw n m wc (wtake r wc n).1 (wtake r va m).1 (wtake r wc (n + m)).1 (wtake r va (-n)).1 (wtake r va m).2.1 (wtake r wc (n + m)).2.1 (wtake r va (-n)).2.1) := by
  by_cases e : wchk r wc = 0
  · right
    obtain ⟨e1, e2, e3⟩ := wchk_ok e
    obtain ⟨p, rfl⟩ := Int.eq_ofNat_of_zero_le e2
    obtain ⟨q1, q2, q3⟩ := wq_le r p n e
    have hc := wtake_cur e (m := n) (by omega) (by omega)
    obtain ⟨pa, hpa, hpl⟩ : ∃ pa : Nat, (pa : Int) = (if n < 0 then (p : Int) - wq r p n else (p : Int) + wq r p n) ∧ pa ≤ r.es.length := by
      by_cases h : n < 0
      · rw [if_pos h] at q3; exact ⟨p - wq r p n, by rw [if_pos h]; omega, by omega⟩
      · rw [if_neg h] at q3; exact ⟨p + wq r p n, by rw [if_neg h]; omega, by omega⟩
    have ca : wchk r pa = 0 := by unfold wchk; rw [if_neg (by simp [e1]), if_neg (by omega)]
    refine ⟨pa, by rw [hc, hpa], wtake_err e (by omega) (by omega), wtake_err ca (by omega) (by omega), wtake_err e (by omega) (by omega), wtake_err ca (by omega) (by omega), ?_, ?_, ?_, ?_⟩
    · intro hs
      exact pieces_join e ca hn hm hs hpa
    · rw [wtake_len e (by omega) (by omega)]; exact q2
    · intro hq
      exact pieces_back e ca hn hpa hq
    · have b1 := (wq_le r p n e).1
      have b2 := (wq_le r pa m ca).1
      have b3 := (wq_le r p (n + m) e).1
      have b4 := (wq_le r pa (-n) ca).1
      rw [wtake_len e (by omega) (by omega), wtake_len ca (by omega) (by omega), wtake_len e (by omega) (by omega), wtake_len ca (by omega) (by omega)]
      omega
  · left
    exact ⟨wchk r wc, e, wtake_bad e⟩
end Go.Proofs.Ytinbdppekhcekaa
