
/-
  Plain facts of ranges for the law KeysMeets.
-/
import Derived.Test.YtldccffbjohokaaDoorKyF
import Derived.Test.YtldccffbjohokaaDoorKyN
namespace Go.Proofs.YtldccffbjohokaaDoor
open Go.RowKit
set_option linter.unusedSimpArgs false
set_option linter.unusedVariables false
set_option maxRecDepth 100000

theorem slt_max (k x y : ByteArray) : slt k (if slt x y = true then y else x) = (slt k x || slt k y) := by
  cases h : slt x y
  · simp only [Bool.false_eq_true, if_false]
    cases hx : slt k x
    · simp [le_trans3 h hx]
    · simp
  · simp only [if_true]
    cases hy : slt k y
    · simp [le_trans3 (slt_asymm h) hy]
    · simp
theorem slt_min (k x y : ByteArray) : slt k (if slt y x = true then y else x) = (slt k x && slt k y) := by
  cases h : slt y x
  · simp only [Bool.false_eq_true, if_false]
    cases hy : slt k y
    · simp [le_trans3 h hy]
    · simp
  · simp only [if_true]
    cases hx : slt k x
    · simp [le_trans3 (slt_asymm h) hx]
    · simp
theorem meet_err {r s : Rng} (h : (meet r s).2 ≠ 0) : (meet r s).1 = rng0 := by
  unfold meet at *
  split
  · rfl
  · split
    · rfl
    · rename_i h1 h2
      rw [if_neg h1, if_neg h2] at h
      exact absurd rfl h
theorem rchk_zero {r : Rng} : rchk r = 0 ↔ r.lo.size ≤ 32 ∧ r.hi.size ≤ 32 ∧ (r.bd = false → r.hi.size = 0) := by
  unfold rchk ktwo
  by_cases h : 32 < r.lo.size ∨ 32 < r.hi.size
  · rw [if_pos h, if_pos (by omega)]
    constructor
    · intro h; omega
    · rintro ⟨a, b, c⟩; omega
  · rw [if_neg h, if_neg (by omega)]
    by_cases h2 : r.bd = false ∧ r.hi.size ≠ 0
    · rw [if_pos h2]
      constructor
      · intro h; omega
      · rintro ⟨a, b, c⟩; exact absurd (c h2.1) h2.2
    · rw [if_neg h2]
      exact ⟨fun _ => ⟨by omega, by omega, fun hb => by
        by_cases hz : r.hi.size = 0
        · exact hz
        · exact absurd ⟨hb, hz⟩ h2⟩, fun _ => rfl⟩
theorem sz_max {x y : ByteArray} (hx : x.size ≤ 32) (hy : y.size ≤ 32) : (if slt x y = true then y else x).size ≤ 32 := by split <;> assumption
theorem sz_min {x y : ByteArray} (hx : x.size ≤ 32) (hy : y.size ≤ 32) : (if slt y x = true then y else x).size ≤ 32 := by split <;> assumption

theorem meet_ok {r s : Rng} (h : (meet r s).2 = 0) : rchk r = 0 ∧ rchk s = 0 ∧ (meet r s).1 = meetR r s := by
  unfold meet at *
  by_cases h1 : rchk r = 0
  · by_cases h2 : rchk s = 0
    · rw [if_neg (by simpa using h1), if_neg (by simpa using h2)]
      exact ⟨h1, h2, rfl⟩
    · rw [if_neg (by simpa using h1), if_pos (by simpa using h2)] at h
      exact absurd h h2
  · rw [if_pos (by simpa using h1)] at h
    exact absurd h h1
theorem meetR_ok {r s : Rng} (h1 : rchk r = 0) (h2 : rchk s = 0) : rchk (meetR r s) = 0 := by
  rw [rchk_zero] at *
  obtain ⟨a1, a2, a3⟩ := h1
  obtain ⟨b1, b2, b3⟩ := h2
  unfold meetR
  by_cases hb : r.bd = false
  · rw [if_pos hb]
    exact ⟨sz_max a1 b1, b2, b3⟩
  · rw [if_neg hb]
    by_cases hs : s.bd = true
    · rw [if_pos hs]
      exact ⟨sz_max a1 b1, sz_min a2 b2, fun h => by simp at h⟩
    · rw [if_neg hs]
      exact ⟨sz_max a1 b1, a2, fun h => by simp at h⟩
theorem meetR_has (r s : Rng) (k : ByteArray) : rhas (meetR r s) k = (rhas r k && rhas s k) := by
  obtain ⟨rl, rh, rb⟩ := r
  obtain ⟨sl, sh, sb⟩ := s
  unfold rhas meetR
  cases rb <;> cases sb <;> simp only [Bool.false_eq_true, Bool.true_eq_false, if_true, if_false, slt_max, slt_min] <;>
    cases slt k rl <;> cases slt k sl <;> cases slt k rh <;> cases slt k sh <;> rfl
theorem rin_ok {r : Rng} (k : ByteArray) (h : rchk r = 0) : rin r k = (decide (k.size ≤ 32) && rhas r k, kchk k) := by
  unfold rin
  rw [if_neg (by simpa using h)]
  unfold kchk
  by_cases hk : 32 < k.size
  · rw [if_pos hk, if_pos (by omega)]
    rw [decide_eq_false (by omega)]; rfl
  · rw [if_neg hk, if_neg (by omega), decide_eq_true (by omega)]; simp
theorem ofR_ok {p : ByteArray} (h : p.size ≤ 32) : (ofR p).2 = 0 ∧ rchk (ofR p).1 = 0 ∧ ∀ k, rhas (ofR p).1 k = begS p k := by
  unfold ofR
  rw [if_neg (by omega)]
  refine ⟨rfl, ?_, fun k => ?_⟩
  · rw [rchk_zero]
    refine ⟨h, by have := rsdS_size p; simp only; omega, fun hb => ?_⟩
    simp only
    rw [rsdS_mt (by simpa using hb)]; rfl
  · unfold rhas
    simp only
    by_cases hr : (rsd p.data.toList).isEmpty = true
    · have := rsd_none p.data.toList k.data.toList (by simpa using hr)
      rw [hr]
      unfold slt begS
      rw [toL, toL, this]; simp
    · have := rsd_some p.data.toList k.data.toList (by simpa using hr)
      rw [slt_rsdS]
      unfold slt begS
      rw [toL, toL, show (rsd p.data.toList).isEmpty = false by simpa using hr]
      simpa using this

/-- What KeysMeets asks of the ranges where Meet answers. -/
theorem meets_facts {r s : Rng} (k : ByteArray) (h : (meet r s).2 = 0) :
    (rin s k).2 = kchk k ∧ (rin r k).2 = kchk k ∧ (rin (meet r s).1 k).2 = kchk k ∧ (rin (meet r s).1 k).1 = ((rin r k).1 && (rin s k).1) ∧
    rchk (meet r s).1 = 0 ∧ (remp r).2 = 0 ∧ (rin r r.lo).2 = 0 ∧ (rin r r.lo).1 = !(remp r).1 ∧ ((remp r).1 && (rin r k).1) = false ∧
    (ofR r.lo).2 = 0 ∧ (rin (ofR r.lo).1 k).2 = kchk k ∧ (k.size ≤ 32 → (rin (ofR r.lo).1 k).1 = begS r.lo k) := by
  obtain ⟨h1, h2, h3⟩ := meet_ok h
  have hm := meetR_ok h1 h2
  rw [h3]
  have hz := rchk_zero.1 h1
  obtain ⟨o1, o2, o3⟩ := ofR_ok hz.1
  have e1 : remp r = (r.bd && !slt r.lo r.hi, 0) := by unfold remp; rw [if_neg (by simpa using h1)]
  have k1 : kchk r.lo = 0 := by unfold kchk; rw [if_neg (by omega)]
  rw [rin_ok k h1, rin_ok k h2, rin_ok k hm, rin_ok r.lo h1, rin_ok k o2, meetR_has, e1, o1]
  refine ⟨rfl, rfl, rfl, ?_, hm, rfl, k1, ?_, ?_, rfl, rfl, fun hk => ?_⟩
  · simp only
    cases decide (k.size ≤ 32) <;> cases rhas r k <;> cases rhas s k <;> rfl
  · simp only
    rw [decide_eq_true hz.1]
    unfold rhas
    rw [slt_irrefl]
    cases r.bd <;> cases slt r.lo r.hi <;> rfl
  · simp only
    unfold rhas
    cases hb : r.bd
    · simp
    · cases hl : slt r.lo r.hi
      · cases hk : slt k r.lo
        · have := le_trans3 hl hk
          rw [this]; simp
        · simp
      · simp
  · simp only
    rw [decide_eq_true hk, o3]; simp
end Go.Proofs.YtldccffbjohokaaDoor
