/-
  Plain laws of keys: what KeysLeast and KeysSorted ask.
-/
import Derived.Test.YtldccffbjohokaaDoorKyD
namespace Go.Proofs.YtldccffbjohokaaDoor
open Go.RowKit
set_option linter.unusedSimpArgs false
set_option linter.unusedVariables false

theorem bet_pre : ∀ S T Y : List UInt8, Op.bytesLess S T = true → Op.bytesLess S Y = true → Op.bytesLess T Y = false → Y.take (cmn S T) = T.take (cmn S T) ∧ cmn S T < Y.length
  | [], T, [], _, h2, _ => by simp [Op.bytesLess] at h2
  | [], T, _ :: _, _, _, _ => by simp [cmn_nil1]
  | _ :: _, [], _, h1, _, _ => by simp [Op.bytesLess] at h1
  | _ :: _, _ :: _, [], _, h2, _ => by simp [Op.bytesLess] at h2
  | a :: l, b :: r, c :: q, h1, h2, h3 => by
    by_cases hab : a = b
    · subst hab
      simp only [Op.bytesLess, Bool.or_eq_true, Bool.and_eq_true, decide_eq_true_eq, beq_iff_eq, Bool.or_eq_false_iff, Bool.and_eq_false_iff, decide_eq_false_iff_not, beq_eq_false_iff_ne] at h1 h2 h3
      have h1' : Op.bytesLess l r = true := h1.elim (fun h => absurd h (UInt8.lt_irrefl a)) (fun h => h.2)
      obtain ⟨hac, h2'⟩ := h2.resolve_left h3.1
      subst hac
      have h3' := h3.2.resolve_left (by simp)
      obtain ⟨i1, i2⟩ := bet_pre l r q h1' h2' h3'
      simp only [cmn, if_true, List.take_succ_cons, List.length_cons, i1]
      exact ⟨trivial, by omega⟩
    · simp [cmn, hab]
theorem betS_in {s t : ByteArray} (h : slt s t = true) : slt s (betS s t) = true ∧ slt t (betS s t) = false := by
  rw [betS_t s t _ rfl]; exact (bet_try s t h _ _ rfl).2 rfl
theorem cmn_lt {s t : ByteArray} (h : slt s t = true) : cmn s.data.toList t.data.toList < t.size := by
  unfold slt at h
  rw [toL, toL, bl_cmn] at h
  have := of_decide_eq_true h
  simpa using this.1
theorem betS_len {s t : ByteArray} (h : slt s t = true) : (betS s t).size = cmn s.data.toList t.data.toList + 1 := by
  have := cmn_lt h
  rw [betS_t s t _ rfl, ByteArray.size_append, ByteArray.size_extract, show (⟨#[endB s (cmn s.data.toList t.data.toList)]⟩ : ByteArray).size = 1 from rfl]; omega
theorem betS_least {s t y : ByteArray} (h1 : slt s t = true) (h2 : slt s y = true) (h3 : slt t y = false) : (betS s t).size ≤ y.size ∧ (y.size = (betS s t).size → slt y (betS s t) = false) := by
  have hp := bet_pre s.data.toList t.data.toList y.data.toList (by rw [← toL, ← toL]; exact h1) (by rw [← toL, ← toL]; exact h2) (by rw [← toL, ← toL]; exact h3)
  have hb := betS_t s t _ rfl
  have ht := bet_try s t h1
  rw [betS_len h1]
  generalize cmn s.data.toList t.data.toList = n at *
  obtain ⟨p1, p2⟩ := hp
  have p2' : n < y.size := by simpa using p2
  refine ⟨p2', fun he => ?_⟩
  have hy : y = t.extract 0 n ++ ⟨#[y.data.toList[n]]⟩ := by
    apply str_ext
    rw [cat_list, toL, ← p1]
    conv => lhs; rw [← List.take_append_drop n y.data.toList]
    rw [List.drop_eq_getElem_cons p2, List.drop_of_length_le (by simp; omega)]
  have hc : ¬ y.data.toList[n] < endB s n := by
    intro hlt
    have := (ht _ n rfl).1 hlt
    rw [← hy, h2] at this; cases this
  rw [hb, hy]
  unfold slt
  rw [cat_list, cat_list, bl_app]
  have : ¬ y.data.toList[n] < endB s n := hc
  simp [Op.bytesLess] at this ⊢
  exact this
theorem lessB_ok {x y : ByteArray} (hx : x.size ≤ 32) (hy : y.size ≤ 32) : lessB x y = slt x y := by
  unfold lessB kcmp
  rw [ktwo_ok (by omega), if_neg (by simp)]
  simp only [decide_true, Bool.true_and]
  exact cmpS_lss x y
def begS (a t : ByteArray) : Bool := begs a.data.toList t.data.toList
theorem begs_self (l : List UInt8) : begs l l = true := by simp [begs]
theorem begS_long {a t : ByteArray} (h : t.size < a.size) : begS a t = false := by
  unfold begS begs
  rw [Bool.and_eq_false_iff]; left
  simp; omega
theorem begS_take {a t : ByteArray} (h : a.size ≤ t.size) : ((t.extract 0 a.size).toList == a.toList) = begS a t := by
  unfold begS begs
  rw [toL, toL, ByteArray.data_extract]
  have h1 : decide (a.data.toList.length ≤ t.data.toList.length) = true := by simpa using h
  have h2 : a.data.toList.length = a.size := by simp
  rw [h1, h2]
  simp
theorem begS_eq {a t : ByteArray} (h : begS a t = true) (hl : t.size ≤ a.size) : t = a := by
  have := bl_begs_len h (by simpa using hl)
  apply str_ext; rw [toL, toL, this]
theorem slt_rsdS (t a : ByteArray) : slt t (rsdS a) = Op.bytesLess t.data.toList (rsd a.data.toList) := by
  unfold slt; rw [toL, toL]; rfl
theorem past_facts (a t : ByteArray) (ha : a.size ≤ 32) :
    ((past a).2 = 0 ∧ (past a).1.size ≤ 32 ∧ begS a t = (!slt t a && slt t (past a).1)) ∨ ((past a).2 = 4 ∧ begS a t = !slt t a) := by
  unfold past
  rw [if_neg (by omega)]
  by_cases h : (rsd a.data.toList).isEmpty = true
  · rw [if_pos h]
    refine .inr ⟨rfl, ?_⟩
    have := rsd_none a.data.toList t.data.toList (by simpa using h)
    unfold slt begS
    rw [toL, toL, this]; simp
  · rw [if_neg h]
    refine .inl ⟨rfl, by have := rsdS_size a; simp only; omega, ?_⟩
    have := rsd_some a.data.toList t.data.toList (by simpa using h)
    simp only
    rw [slt_rsdS]
    unfold slt begS
    rw [toL, toL, this]
theorem next_facts (a t : ByteArray) (ha : a.size ≤ 32) (ht : t.size ≤ 32) :
    ((nxt a).2 = 0 ∧ (nxt a).1.size ≤ 32 ∧ slt a (nxt a).1 = true ∧ (slt a t = true → slt t (nxt a).1 = false)) ∨ ((nxt a).2 = 9 ∧ slt a t = false) := by
  unfold nxt
  rw [if_neg (by omega)]
  by_cases h1 : a.size < 32
  · rw [if_pos h1]
    have hz : ∀ y : ByteArray, slt y (a ++ ⟨#[0]⟩) = !slt a y := fun y => by
      unfold slt
      rw [toL, toL, toL, ByteArray.data_append, Array.toList_append]
      exact bl_zero a.data.toList y.data.toList
    refine .inl ⟨rfl, ?_, ?_, fun h => ?_⟩
    · simp only; rw [ByteArray.size_append]; show a.size + 1 ≤ 32; omega
    · simp only; rw [hz, slt_irrefl]; rfl
    · simp only; rw [hz, h]; rfl
  · rw [if_neg h1]
    by_cases h : (rsd a.data.toList).isEmpty = true
    · rw [if_pos h]
      refine .inr ⟨rfl, ?_⟩
      have hn := rsd_none a.data.toList t.data.toList (by simpa using h)
      cases k : slt a t
      · rfl
      · have k2 := slt_asymm k
        have : begS a t = true := by
          have k3 : Op.bytesLess t.data.toList a.data.toList = false := by rw [← toL, ← toL]; exact k2
          rw [k3] at hn
          simpa [begS] using hn.symm
        have := begS_eq this (by omega)
        subst this
        rw [slt_irrefl] at k; cases k
    · rw [if_neg h]
      have hs := fun y : ByteArray => rsd_some a.data.toList y.data.toList (by simpa using h)
      have hs' : ∀ y, (!slt y a && slt y (rsdS a)) = begS a y := fun y => by
        rw [slt_rsdS]; unfold slt begS; rw [toL, toL]; exact hs y
      refine .inl ⟨rfl, by have := rsdS_size a; simp only; omega, ?_, fun k => ?_⟩
      · have := hs' a
        rw [show begS a a = true from begs_self _, slt_irrefl] at this
        simpa using this
      · have k2 := hs' t
        rw [slt_asymm k] at k2
        simp only
        cases q : slt t (rsdS a)
        · rfl
        · rw [q] at k2
          have := begS_eq k2.symm (by omega)
          subst this
          rw [slt_irrefl] at k; cases k
theorem bet_facts {a b : ByteArray} (t : ByteArray) (ha : a.size ≤ 32) (hb : b.size ≤ 32) (h : slt a b = true) :
    ∃ (s : ByteArray) (c : Nat), betw a b = (s, 0) ∧ kcmn a b = ((c : Int), 0) ∧ s.size = c + 1 ∧ s.size ≤ 32 ∧ c ≤ b.size ∧ slt a s = true ∧ slt b s = false ∧ ((s.extract 0 c).toList == (b.extract 0 c).toList) = true ∧
      (slt a t = true → slt b t = false → t.size ≤ s.size → slt t s = false) := by
  have hl := betS_len h
  have hlt := cmn_lt h
  refine ⟨betS a b, cmn a.data.toList b.data.toList, ?_, ?_, hl, by omega, by omega, (betS_in h).1, (betS_in h).2, ?_, fun h1 h2 h3 => ?_⟩
  · unfold betw; rw [ktwo_ok (by omega), if_neg (by simp), if_pos h]
  · unfold kcmn; rw [ktwo_ok (by omega), if_neg (by simp)]
  · rw [betS_t a b _ rfl, beq_iff_eq, toL, toL]
    generalize cmn a.data.toList b.data.toList = n at *
    simp [ByteArray.data_append, ByteArray.data_extract, List.take_append, List.take_take]
    omega
  · obtain ⟨g1, g2⟩ := betS_least h h1 h2
    exact g2 (by omega)
theorem bet_no {a b : ByteArray} (ha : a.size ≤ 32) (hb : b.size ≤ 32) (h : slt a b = false) : betw a b = (mt, 6) := by
  unfold betw; rw [ktwo_ok (by omega), if_neg (by simp), if_neg (by simp [h])]
theorem cmp_anti (a b : ByteArray) : cmpS a b = -cmpS b a := by
  unfold cmpS
  cases h : slt a b <;> cases k : slt b a
  · have := slt_tri h k; subst this; simp
  · have : a.toList ≠ b.toList := by intro e; have := str_ext e; subst this; rw [slt_irrefl] at k; cases k
    simp [this]
  · have : b.toList ≠ a.toList := by intro e; have := str_ext e; subst this; rw [slt_irrefl] at h; cases h
    simp [this]
  · have := slt_trans h k; rw [slt_irrefl] at this; cases this
theorem cmp_self (a : ByteArray) : cmpS a a = 0 := by unfold cmpS; simp [slt_irrefl]
theorem cmp_zero (a b : ByteArray) : (cmpS a b == 0) = (a.toList == b.toList) := by
  unfold cmpS
  by_cases h : slt a b = true
  · have : (a.toList == b.toList) = false := by
      rw [beq_eq_false_iff_ne]; intro e; have := str_ext e; subst this; rw [slt_irrefl] at h; cases h
    simp [h, this]
  · rw [if_neg h]
    by_cases k : a.toList = b.toList
    · simp [k]
    · simp [k]
theorem cmn_sorted {a b c : ByteArray} (h1 : slt b a = false) (h2 : slt c b = false) : cmn a.data.toList c.data.toList = min (cmn a.data.toList b.data.toList) (cmn b.data.toList c.data.toList) := by
  unfold slt at h1 h2
  rw [toL, toL] at h1 h2
  exact cmn_three _ _ _ h1 h2
theorem le_trans3 {a b c : ByteArray} (h : slt b a = false) (k : slt c b = false) : slt c a = false := by
  cases e : slt c a
  · rfl
  · cases e2 : slt a b
    · have := slt_tri e2 h; subst this; rw [e] at k; cases k
    · have := slt_trans e e2; rw [this] at k; cases k
end Go.Proofs.YtldccffbjohokaaDoor
