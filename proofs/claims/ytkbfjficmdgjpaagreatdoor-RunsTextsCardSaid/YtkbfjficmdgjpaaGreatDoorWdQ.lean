
/-
  Plain facts of words: decimal forms.
-/
import Derived.Test.YtkbfjficmdgjpaaGreatDoorLib
import Derived.Lib.ParseIntB
import Derived.Lib.ItoaNum
namespace Go.Proofs.YtkbfjficmdgjpaaGreatDoor
set_option linter.unusedSimpArgs false
set_option linter.unusedVariables false
/-! ### Decimal forms -/
open Go.Lib
def digB (c : UInt8) : Bool := decide (48 ≤ c.toNat) && decide (c.toNat ≤ 57)
def isNat (l : List UInt8) : Bool := !l.isEmpty && l.all digB && (l.head? != some 48 || l == [48])
def isDec : List UInt8 → Bool
  | [] => false
  | c :: r => if c = 45 then isNat r && r != [48] else isNat (c :: r)
def natS (a : Nat) (c : UInt8) : Nat := a * 10 + (c.toNat - 48)
def natV (a : Nat) (l : List UInt8) : Nat := l.foldl natS a
def intV : List UInt8 → Int
  | [] => 0
  | c :: r => if c = 45 then -(natV 0 r : Int) else (natV 0 (c :: r) : Int)
theorem digB_iff {c : UInt8} : digB c = true ↔ 48 ≤ c.toNat ∧ c.toNat ≤ 57 := by simp [digB]
theorem natV_nil (a : Nat) : natV a [] = a := rfl
theorem natV_cons (a : Nat) (c : UInt8) (r : List UInt8) : natV a (c :: r) = natV (natS a c) r := List.foldl_cons ..
theorem natV_ge (l : List UInt8) : ∀ (a : Nat), a ≤ natV a l := by
  induction l with
  | nil => intro a; exact Nat.le_refl _
  | cons c r ih => intro a; rw [natV_cons]; exact Nat.le_trans (show a ≤ natS a c by unfold natS; omega) (ih _)
theorem natV_app (l r : List UInt8) : ∀ (a : Nat), natV a (l ++ r) = natV (natV a l) r := by
  induction l with
  | nil => intro a; rw [List.nil_append, natV_nil]
  | cons c l ih => intro a; rw [List.cons_append, natV_cons, natV_cons, ih]
theorem parseM {l : List UInt8} (hd : ∀ c ∈ l, digB c = true) : ∀ {a : Nat}, a ≤ 18446744073709551615 → parseUintM 18446744073709551615 a l = if natV a l ≤ 18446744073709551615 then .ok (natV a l) else .range := by
  induction l with
  | nil => intro a ha; simp [parseUintM, natV, ha]
  | cons c r ih =>
    intro a ha
    have h1 := digB_iff.1 (hd c (by simp))
    rw [natV_cons]
    simp only [parseUintM]
    rw [if_pos h1]
    have hge := natV_ge r (natS a c)
    have ih2 := fun h => ih (fun d hd' => hd d (by simp [hd'])) (a := natS a c) h
    generalize natV (natS a c) r = V at *
    unfold natS at hge ih2
    by_cases h2 : 1844674407370955162 ≤ a
    · rw [if_pos h2, if_neg (by omega)]
    · rw [if_neg h2]
      by_cases h3 : 18446744073709551615 < a * 10 + (c.toNat - 48)
      · rw [if_pos h3, if_neg (by omega)]
      · rw [if_neg h3]
        exact ih2 (by omega)
theorem isNat_iff {l : List UInt8} : isNat l = true ↔ l ≠ [] ∧ (∀ c ∈ l, digB c = true) ∧ (l.head? ≠ some 48 ∨ l = [48]) := by
  unfold isNat
  simp [and_assoc]
theorem parse_dec {l : List UInt8} (h : isDec l = true) : parseIntB 64 l = if -9223372036854775808 ≤ intV l ∧ intV l ≤ 9223372036854775807 then .ok (intV l) else .range := by
  match l with
  | [] => cases h
  | c :: r =>
    simp only [isDec] at h
    have e64 : 2 ^ 64 - 1 = 18446744073709551615 := by decide
    have e63 : 2 ^ (64 - 1) = 9223372036854775808 := by decide
    by_cases hc : c = 45
    · rw [if_pos hc] at h
      subst hc
      simp only [Bool.and_eq_true] at h
      obtain ⟨h1, h2, h3⟩ := isNat_iff.1 h.1
      have h45 : (45 : UInt8).toNat = 45 := rfl
      simp only [parseIntB, intV, parseUintB, h45]
      rw [if_pos (Or.inr trivial), if_pos trivial, if_neg h1, e64, parseM h2 (by omega), e63]
      generalize natV 0 r = V at *
      by_cases hr : V ≤ 18446744073709551615
      · rw [if_pos hr]
        simp only
        by_cases hn : 9223372036854775808 < V
        · rw [if_neg (by simp), if_pos ⟨trivial, hn⟩, if_neg (by omega)]
        · rw [if_neg (by simp), if_neg (fun q => hn q.2), if_pos trivial, if_pos (by omega)]
      · rw [if_neg hr, if_neg (by omega)]
    · rw [if_neg hc] at h
      obtain ⟨h1, h2, h3⟩ := isNat_iff.1 h
      have hd := digB_iff.1 (h2 c (by simp))
      have hn45 : ¬ c.toNat = 45 := by omega
      have hn43 : ¬ (c.toNat = 43 ∨ c.toNat = 45) := by omega
      simp only [parseIntB, intV, parseUintB, if_neg hn43, if_neg hc, if_neg h1]
      rw [e64, parseM h2 (by omega), e63]
      generalize natV 0 (c :: r) = V at *
      by_cases hr : V ≤ 18446744073709551615
      · rw [if_pos hr]
        simp only
        by_cases hn : 9223372036854775808 ≤ V
        · rw [if_pos ⟨hn45, hn⟩, if_neg (by omega)]
        · rw [if_neg (fun q => hn q.2), if_neg (fun q => hn45 q.1), if_neg hn45, if_pos ⟨by omega, by omega⟩]
      · rw [if_neg hr, if_neg (by omega)]
/-! ### The decimal form of a number -/
theorem dd_step (u : Nat) (h : ¬ u < 10) : decDigits u = decDigits (u / 10) ++ [UInt8.ofNat (48 + u % 10)] := by rw [decDigits, dif_neg h]
theorem digs : ∀ n : Nat, n < 10 → digB (UInt8.ofNat (48 + n)) = true ∧ (UInt8.ofNat (48 + n)).toNat - 48 = n := by
  intro n h
  have : (UInt8.ofNat (48 + n)).toNat = 48 + n := by simp; omega
  rw [digB_iff, this]; omega
theorem dd_facts (u : Nat) : isNat (decDigits u) = true ∧ natV 0 (decDigits u) = u ∧ (decDigits u = [48] → u = 0) := by
  induction u using Nat.strongRecOn with
  | _ u ih =>
    by_cases h : u < 10
    · rw [decDigits_one h]
      obtain ⟨d1, d2⟩ := digs u h
      refine ⟨isNat_iff.2 ⟨by simp, by simpa using d1, ?_⟩, by simp only [natV_cons, natV_nil, natS]; omega, ?_⟩
      · rcases Nat.eq_zero_or_pos u with rfl | h0
        · right; rfl
        · left
          simp only [List.head?_cons, ne_eq, Option.some.injEq]
          intro e
          rw [e] at d2
          have : (48 : UInt8).toNat = 48 := rfl
          omega
      · intro e
        injection e with e
        rw [e] at d2
        have : (48 : UInt8).toNat = 48 := rfl
        omega
    · rw [dd_step u h]
      obtain ⟨h1, h2, h3⟩ := ih (u / 10) (by omega)
      obtain ⟨i1, i2, i3⟩ := isNat_iff.1 h1
      obtain ⟨d1, d2⟩ := digs (u % 10) (by omega)
      refine ⟨isNat_iff.2 ⟨by simp, ?_, ?_⟩, ?_, ?_⟩
      · intro c hc
        rcases List.mem_append.1 hc with hc | hc
        · exact i2 c hc
        · rw [List.mem_singleton.1 hc]; exact d1
      · left
        match hd : decDigits (u / 10), i1 with
        | c :: r, _ =>
          rw [hd] at i3 h3
          simp only [List.cons_append, List.head?_cons, ne_eq, Option.some.injEq]
          intro e
          subst e
          rcases i3 with i3 | i3
          · simp at i3
          · have := h3 i3; omega
      · rw [natV_app, h2]
        simp only [natV_cons, natV_nil, natS]
        rw [d2]; omega
      · intro e
        have : (decDigits (u / 10) ++ [UInt8.ofNat (48 + u % 10)]).length = 1 := by rw [e]; rfl
        rw [List.length_append] at this
        have h0 : (decDigits (u / 10)).length = 0 := by simpa using this
        exact absurd (List.length_eq_zero_iff.1 h0) i1
theorem dd_natV : ∀ (l : List UInt8), isNat l = true → decDigits (natV 0 l) = l := by
  intro l
  generalize hk : l.length = k
  induction k generalizing l with
  | zero => intro h; have := (isNat_iff.1 h).1; exact absurd (List.length_eq_zero_iff.1 hk) this
  | succ k ih =>
    intro h
    obtain ⟨h1, h2, h3⟩ := isNat_iff.1 h
    obtain ⟨m, c, rfl⟩ : ∃ m c, l = m ++ [c] := ⟨l.dropLast, l.getLast h1, (List.dropLast_concat_getLast h1).symm⟩
    have hc := digB_iff.1 (h2 c (by simp))
    have hlast : UInt8.ofNat (48 + (c.toNat - 48)) = c := by rw [show 48 + (c.toNat - 48) = c.toNat by omega]; simp
    by_cases hm : m = []
    · subst hm
      rw [List.nil_append, natV_cons, natV_nil, show natS 0 c = c.toNat - 48 by unfold natS; omega, decDigits_one (by omega), hlast]
    · have hmn : isNat m = true := by
        refine isNat_iff.2 ⟨hm, fun d hd => h2 d (by simp [hd]), ?_⟩
        match m, hm with
        | d :: m, _ =>
          rcases h3 with h3 | h3
          · left; simpa using h3
          · have := congrArg List.length h3; simp at this
      have hi := ih m (by simp at hk; omega) hmn
      have hpos : 1 ≤ natV 0 m := by
        rcases Nat.eq_zero_or_pos (natV 0 m) with z | z
        · rw [z, decDigits_one (by omega)] at hi
          exfalso
          rw [← hi] at h3
          rcases h3 with h3 | h3
          · exact h3 rfl
          · simp at h3
        · exact z
      rw [natV_app]
      simp only [natV_cons, natV_nil, natS]
      rw [dd_step _ (by omega), show (natV 0 m * 10 + (c.toNat - 48)) / 10 = natV 0 m by omega, show (natV 0 m * 10 + (c.toNat - 48)) % 10 = c.toNat - 48 by omega, hi, hlast]
theorem itoa_facts (n : Int) : isDec (itoa n) = true ∧ intV (itoa n) = n := by
  unfold itoa
  by_cases h : n < 0
  · rw [if_pos h]
    obtain ⟨h1, h2, h3⟩ := dd_facts n.natAbs
    simp only [isDec, intV, if_true]
    refine ⟨?_, by rw [h2]; omega⟩
    rw [h1]
    simp only [Bool.true_and, bne_iff_ne, ne_eq]
    intro e
    have := h3 e; omega
  · rw [if_neg h]
    obtain ⟨h1, h2, h3⟩ := dd_facts n.toNat
    obtain ⟨i1, i2, i3⟩ := isNat_iff.1 h1
    match hd : decDigits n.toNat, i1 with
    | c :: r, _ =>
      rw [hd] at h1 h2 i2
      have hc := digB_iff.1 (i2 c (by simp))
      have h45 : ¬ c = 45 := by rintro rfl; simp at hc
      simp only [isDec, intV, if_neg h45]
      exact ⟨h1, by rw [h2]; omega⟩
theorem itoa_intV {l : List UInt8} (h : isDec l = true) : itoa (intV l) = l := by
  match l with
  | [] => cases h
  | c :: r =>
    simp only [isDec] at h
    by_cases hc : c = 45
    · rw [if_pos hc] at h
      subst hc
      simp only [Bool.and_eq_true, bne_iff_ne, ne_eq] at h
      have hr := dd_natV r h.1
      have hpos : 1 ≤ natV 0 r := by
        rcases Nat.eq_zero_or_pos (natV 0 r) with z | z
        · rw [z, decDigits_one (by omega)] at hr
          exact absurd hr.symm h.2
        · exact z
      simp only [intV, if_true]
      unfold itoa
      rw [if_pos (by omega), show (-(natV 0 r : Int)).natAbs = natV 0 r by omega, hr]
    · rw [if_neg hc] at h
      simp only [intV, if_neg hc]
      unfold itoa
      rw [if_neg (by omega), Int.toNat_natCast]
      exact dd_natV _ h
end Go.Proofs.YtkbfjficmdgjpaaGreatDoor
