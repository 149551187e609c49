
/-
  Plain facts of Next and Past.
-/
import Derived.Test.YtldccffbjohokaaDoorKyA
import Derived.Test.YtldccffbjohokaaDoorBet
namespace Go.Proofs.YtldccffbjohokaaDoor
open Go.RowKit
set_option linter.unusedSimpArgs false
set_option linter.unusedVariables false
set_option maxRecDepth 100000

def begS (a t : ByteArray) : Bool := begs a.data.toList t.data.toList
theorem begs_self (l : List UInt8) : begs l l = true := by simp [begs]
theorem begS_long {a t : ByteArray} (h : t.size < a.size) : begS a t = false := by
  unfold begS begs
  rw [Bool.and_eq_false_iff]; left
  simp; omega
theorem begS_take {a t : ByteArray} (h : a.size ≤ t.size) : ((t.extract 0 a.size).toList == a.toList) = begS a t := by
  unfold begS begs
  rw [toL, toL, ByteArray.data_extract]
  have h1 : decide (a.data.toList.length ≤ t.data.toList.length) = true := by simpa using h
  have h2 : a.data.toList.length = a.size := by simp
  rw [h1, h2]
  simp
theorem begS_eq {a t : ByteArray} (h : begS a t = true) (hl : t.size ≤ a.size) : t = a := by
  have := bl_begs_len h (by simpa using hl)
  apply str_ext; rw [toL, toL, this]
theorem slt_rsdS (t a : ByteArray) : slt t (rsdS a) = Op.bytesLess t.data.toList (rsd a.data.toList) := by
  unfold slt; rw [toL, toL]; rfl
theorem past_facts (a t : ByteArray) (ha : a.size ≤ 32) :
    ((past a).2 = 0 ∧ (past a).1.size ≤ 32 ∧ begS a t = (!slt t a && slt t (past a).1)) ∨ ((past a).2 = 4 ∧ begS a t = !slt t a) := by
  unfold past
  rw [if_neg (by omega)]
  by_cases h : (rsd a.data.toList).isEmpty = true
  · rw [if_pos h]
    refine .inr ⟨rfl, ?_⟩
    have := rsd_none a.data.toList t.data.toList (by simpa using h)
    unfold slt begS
    rw [toL, toL, this]; simp
  · rw [if_neg h]
    refine .inl ⟨rfl, by have := rsdS_size a; simp only; omega, ?_⟩
    have := rsd_some a.data.toList t.data.toList (by simpa using h)
    simp only
    rw [slt_rsdS]
    unfold slt begS
    rw [toL, toL, this]
theorem next_facts (a t : ByteArray) (ha : a.size ≤ 32) (ht : t.size ≤ 32) :
    ((nxt a).2 = 0 ∧ (nxt a).1.size ≤ 32 ∧ slt a (nxt a).1 = true ∧ (slt a t = true → slt t (nxt a).1 = false)) ∨ ((nxt a).2 = 9 ∧ slt a t = false) := by
  unfold nxt
  rw [if_neg (by omega)]
  by_cases h1 : a.size < 32
  · rw [if_pos h1]
    have hz : ∀ y : ByteArray, slt y (a ++ ⟨#[0]⟩) = !slt a y := fun y => by
      unfold slt
      rw [toL, toL, toL, ByteArray.data_append, Array.toList_append]
      exact bl_zero a.data.toList y.data.toList
    refine .inl ⟨rfl, ?_, ?_, fun h => ?_⟩
    · simp only; rw [ByteArray.size_append]; show a.size + 1 ≤ 32; omega
    · simp only; rw [hz, slt_irrefl]; rfl
    · simp only; rw [hz, h]; rfl
  · rw [if_neg h1]
    by_cases h : (rsd a.data.toList).isEmpty = true
    · rw [if_pos h]
      refine .inr ⟨rfl, ?_⟩
      have hn := rsd_none a.data.toList t.data.toList (by simpa using h)
      cases k : slt a t
      · rfl
      · have k2 := slt_asymm k
        have : begS a t = true := by
          have k3 : Op.bytesLess t.data.toList a.data.toList = false := by rw [← toL, ← toL]; exact k2
          rw [k3] at hn
          simpa [begS] using hn.symm
        have := begS_eq this (by omega)
        subst this
        rw [slt_irrefl] at k; cases k
    · rw [if_neg h]
      have hs := fun y : ByteArray => rsd_some a.data.toList y.data.toList (by simpa using h)
      have hs' : ∀ y, (!slt y a && slt y (rsdS a)) = begS a y := fun y => by
        rw [slt_rsdS]; unfold slt begS; rw [toL, toL]; exact hs y
      refine .inl ⟨rfl, by have := rsdS_size a; simp only; omega, ?_, fun k => ?_⟩
      · have := hs' a
        rw [show begS a a = true from begs_self _, slt_irrefl] at this
        simpa using this
      · have k2 := hs' t
        rw [slt_asymm k] at k2
        simp only
        cases q : slt t (rsdS a)
        · rfl
        · rw [q] at k2
          have := begS_eq k2.symm (by omega)
          subst this
          rw [slt_irrefl] at k; cases k
theorem le_trans3 {a b c : ByteArray} (h : slt b a = false) (k : slt c b = false) : slt c a = false := by
  cases e : slt c a
  · rfl
  · cases e2 : slt a b
    · have := slt_tri e2 h; subst this; rw [e] at k; cases k
    · have := slt_trans e e2; rw [this] at k; cases k
end Go.Proofs.YtldccffbjohokaaDoor
