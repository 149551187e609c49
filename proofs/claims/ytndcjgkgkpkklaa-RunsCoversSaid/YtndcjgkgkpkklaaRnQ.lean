
/-
  Plain facts of runs: where a key is.
-/
import Derived.Test.YtndcjgkgkpkklaaRnP
namespace Go.Proofs.Ytndcjgkgkpkklaa
open Go.RowKit
set_option linter.unusedSimpArgs false
set_option linter.unusedVariables false
set_option maxRecDepth 100000

theorem key_lt {l : List Ent} (h : AscE l) {k : ByteArray} {j : Nat} {x : Ent} (hx : l[j]? = some x) : slt x.key k = decide (j < cntLtE l k) := by
  rcases Nat.lt_or_ge j (cntLtE l k) with c | c
  · rw [cntLtE_lt h hx c]; simp [c]
  · rw [cntLtE_ge h hx c]; simp; omega
theorem hasK_iff (l : List Ent) (k : ByteArray) : hasK l k = true ↔ ∃ x, l[cntLtE l k]? = some x ∧ x.key = k := by
  unfold hasK
  constructor
  · intro h
    cases e : l[cntLtE l k]? with
    | none => rw [e] at h; cases h
    | some x => rw [e] at h; exact ⟨x, rfl, str_ext (by simpa using h)⟩
  · rintro ⟨x, e, rfl⟩
    rw [e]; simp
theorem key_eq {l : List Ent} (h : AscE l) {k : ByteArray} {j : Nat} {x : Ent} (hx : l[j]? = some x) : (x.key.toList == k.toList) = (decide (j = cntLtE l k) && hasK l k) := by
  rw [Bool.eq_iff_iff]
  simp only [beq_iff_eq, Bool.and_eq_true, decide_eq_true_eq]
  constructor
  · intro he
    have he := str_ext he
    have : cntLtE l k = j := cntLtE_eq h (by have := (List.getElem?_eq_some_iff.1 hx).1; omega)
      (fun i y hi hy => by rw [← he]; exact ascE_lt h hy hx hi) (fun y hy => by rw [hx] at hy; injection hy with hy; rw [← hy, he]; exact slt_irrefl _)
    refine ⟨this.symm, (hasK_iff l k).2 ⟨x, by rw [this]; exact hx, he⟩⟩
  · rintro ⟨rfl, hk⟩
    obtain ⟨y, hy, rfl⟩ := (hasK_iff l k).1 hk
    rw [hx] at hy; injection hy with hy; rw [hy]
theorem key_gt {l : List Ent} (h : AscE l) {k : ByteArray} {j : Nat} {x : Ent} (hx : l[j]? = some x) : slt k x.key = decide ((if hasK l k = true then cntLtE l k + 1 else cntLtE l k) ≤ j) := by
  have h1 := key_lt h (k := k) hx
  have h2 := key_eq h (k := k) hx
  cases e : slt k x.key
  · cases e2 : slt x.key k
    · have := slt_tri e2 e
      rw [this] at h2
      simp at h2
      rw [h2.2, h2.1]; simp
    · rw [e2] at h1; simp at h1; symm; simp; split <;> omega
  · have e2 := slt_asymm e
    rw [e2] at h1; simp at h1
    have h3 : (x.key.toList == k.toList) = false := by
      rw [beq_eq_false_iff_ne]; intro hh; have := str_ext hh; rw [this, slt_irrefl] at e; cases e
    rw [h3] at h2
    symm; simp
    split
    · rename_i hk
      rw [hk] at h2; simp at h2; omega
    · exact h1
/-- Behind the floor. -/
def flN (l : List Ent) (k : ByteArray) (s : Bool) : Nat := if (hasK l k && !s) = true then cntLtE l k + 1 else cntLtE l k
/-- The ceiling. -/
def ceN (l : List Ent) (k : ByteArray) (s : Bool) : Nat := if (hasK l k && s) = true then cntLtE l k + 1 else cntLtE l k
theorem hasK_lt {l : List Ent} {k : ByteArray} (h : hasK l k = true) : cntLtE l k < l.length := by
  obtain ⟨x, hx, _⟩ := (hasK_iff l k).1 h
  exact (List.getElem?_eq_some_iff.1 hx).1
theorem flN_le (l : List Ent) (k : ByteArray) (s : Bool) : flN l k s ≤ l.length := by
  unfold flN
  split
  · rename_i h; simp at h; have := hasK_lt h.1; omega
  · exact cntLtE_le l k
theorem ceN_le (l : List Ent) (k : ByteArray) (s : Bool) : ceN l k s ≤ l.length := by
  unfold ceN
  split
  · rename_i h; simp at h; have := hasK_lt h.1; omega
  · exact cntLtE_le l k
theorem rflo_at (r : Rn) (k : ByteArray) (s : Bool) : rflo r k s = if rask r k ≠ 0 then (ent0, rask r k) else atE r.es ((flN r.es k s : Int) - 1) := by
  unfold rflo flN
  split
  · rfl
  · split
    · congr 1; omega
    · rfl
theorem rcei_at (r : Rn) (k : ByteArray) (s : Bool) : rcei r k s = if rask r k ≠ 0 then (ent0, rask r k) else atE r.es (ceN r.es k s : Int) := by
  unfold rcei ceN
  split
  · rfl
  · split <;> simp
theorem fl_cond {l : List Ent} (h : AscE l) {k : ByteArray} (s : Bool) {j : Nat} {x : Ent} (hx : l[j]? = some x) : (slt x.key k || ((x.key.toList == k.toList) && !s)) = decide (j < flN l k s) := by
  rw [key_lt h hx, key_eq h hx]
  unfold flN
  cases hasK l k <;> cases s <;> simp
  rw [Bool.eq_iff_iff]; simp; omega
theorem ce_cond {l : List Ent} (h : AscE l) {k : ByteArray} (s : Bool) {j : Nat} {x : Ent} (hx : l[j]? = some x) : (slt k x.key || ((x.key.toList == k.toList) && !s)) = decide (ceN l k s ≤ j) := by
  rw [key_gt h hx, key_eq h hx]
  unfold ceN
  cases hasK l k <;> cases s <;> simp
  rw [Bool.eq_iff_iff]; simp; omega
theorem atE_some {l : List Ent} {i : Nat} {x : Ent} (h : l[i]? = some x) : atE l (i : Int) = (x, 0) := by
  have := (List.getElem?_eq_some_iff.1 h).1
  unfold atE
  rw [if_neg (by omega), Int.toNat_natCast]
  simp [List.getD_eq_getElem?_getD, h]
theorem atE_none {l : List Ent} {i : Int} (h : i < 0 ∨ (l.length : Int) ≤ i) : atE l i = (ent0, 4) := by
  unfold atE; rw [if_pos h]

/-! ### Parts -/
def pTo (l : List Ent) (x : Rng) : Nat := if x.bd = true then max (cntLtE l x.hi) (cntLtE l x.lo) else l.length
def rpart (r : Rn) (x : Rng) : Int × Int × Int := if (rck r).2 ≠ 0 then (0, 0, (rck r).2) else if rchk x ≠ 0 then (0, 0, rchk x) else ((cntLtE r.es x.lo : Int), (pTo r.es x : Int), 0)
def cutE (l : List Ent) (fr to : Nat) : List Ent := (l.drop fr).take (to - fr)
def nDead (l : List Ent) : Nat := (l.filter fun (x : Ent) => x.dead).length
def nLive (l : List Ent) : Nat := (l.filter fun (x : Ent) => !x.dead).length
def rcount (r : Rn) (x : Rng) : Int × Int × Int := if (rck r).2 ≠ 0 then (0, 0, (rck r).2) else if rchk x ≠ 0 then (0, 0, rchk x) else ((nLive (cutE r.es (cntLtE r.es x.lo) (pTo r.es x)) : Int), (nDead (cutE r.es (cntLtE r.es x.lo) (pTo r.es x)) : Int), 0)
theorem pTo_le (l : List Ent) (x : Rng) : pTo l x ≤ l.length := by
  unfold pTo
  split
  · have := cntLtE_le l x.hi; have := cntLtE_le l x.lo; omega
  · omega
theorem pTo_ge (l : List Ent) (x : Rng) : cntLtE l x.lo ≤ pTo l x := by
  unfold pTo
  split
  · omega
  · exact cntLtE_le l x.lo
theorem live_dead : ∀ l : List Ent, nLive l + nDead l = l.length
  | [] => rfl
  | x :: l => by
    have ih := live_dead l
    unfold nLive nDead at *
    cases h : x.dead
    · rw [List.filter_cons_of_pos (by simp [h]), List.filter_cons_of_neg (by simp [h])]; simp; omega
    · rw [List.filter_cons_of_neg (by simp [h]), List.filter_cons_of_pos (by simp [h])]; simp; omega
theorem nDead_snoc (l : List Ent) (x : Ent) : nDead (l ++ [x]) = nDead l + (if x.dead = true then 1 else 0) := by
  unfold nDead; rw [List.filter_append, List.length_append]; cases h : x.dead <;> simp [h]
theorem nLive_snoc (l : List Ent) (x : Ent) : nLive (l ++ [x]) = nLive l + (if x.dead = true then 0 else 1) := by
  unfold nLive; rw [List.filter_append, List.length_append]; cases h : x.dead <;> simp [h]
theorem cutE_succ {l : List Ent} {fr i : Nat} {x : Ent} (h : l[i]? = some x) (hi : fr ≤ i) : cutE l fr (i + 1) = cutE l fr i ++ [x] := by
  obtain ⟨h1, h2⟩ := List.getElem?_eq_some_iff.1 h
  unfold cutE
  rw [show i + 1 - fr = (i - fr) + 1 by omega, List.take_succ_eq_append_getElem (by simp; omega), List.getElem_drop]
  congr 2
  rw [← h2]; congr 1; omega
theorem cutE_nil (l : List Ent) (fr : Nat) : cutE l fr fr = [] := by simp [cutE]
theorem cutE_len {l : List Ent} {fr to : Nat} (h : to ≤ l.length) : (cutE l fr to).length = to - fr := by simp [cutE]; omega
theorem cutE_get {l : List Ent} {fr to i : Nat} (h : i < to - fr) : (cutE l fr to)[i]? = l[fr + i]? := by
  unfold cutE; rw [List.getElem?_take_of_lt h, List.getElem?_drop]
/-- Who is in a range. -/
theorem in_part {l : List Ent} (h : AscE l) (x : Rng) {j : Nat} {y : Ent} (hy : l[j]? = some y) : rhas x y.key = (decide (cntLtE l x.lo ≤ j) && decide (j < pTo l x)) := by
  have hj := (List.getElem?_eq_some_iff.1 hy).1
  unfold rhas
  rw [key_lt h hy, key_lt h hy]
  unfold pTo
  cases x.bd <;> simp
  · rw [Bool.eq_iff_iff]; simp; omega
  · rw [Bool.eq_iff_iff]; simp; omega
end Go.Proofs.Ytndcjgkgkpkklaa
