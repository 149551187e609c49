/-
  Own texts laid together: PlWb.
-/
import Derived.Test.YtinbdppekhcekaaZs
/-
  Plain facts of walks: Next and Prev from place to place.
-/
namespace Go.Proofs.Ytinbdppekhcekaa
set_option linter.unusedSimpArgs false
set_option linter.unusedVariables false

theorem wchk_at {r : Rn} (h : (rck r).2 = 0) {k : Nat} (hk : k ≤ r.es.length) : wchk r k = 0 := by
  unfold wchk
  rw [if_neg (by simp [h]), if_neg (by omega)]
theorem wnext_at {r : Rn} (h : (rck r).2 = 0) {k : Nat} {x : Ent} (hx : r.es[k]? = some x) : wnext r k = (x, (k : Int) + 1, 0) := by
  have hk := (List.getElem?_eq_some_iff.1 hx).1
  unfold wnext
  rw [if_neg (by simp [wchk_at h (Nat.le_of_lt hk)]), if_neg (by omega)]
  simp [List.getD_eq_getElem?_getD, hx]
theorem wprev_at {r : Rn} (h : (rck r).2 = 0) {k : Nat} {x : Ent} (hx : r.es[k]? = some x) : wprev r ((k : Int) + 1) = (x, (k : Int), 0) := by
  have hk := (List.getElem?_eq_some_iff.1 hx).1
  unfold wprev
  rw [if_neg (by have := wchk_at h (show k + 1 ≤ r.es.length by omega); rw [Int.natCast_add] at this; exact fun e => e this), if_neg (by omega)]
  simp [List.getD_eq_getElem?_getD, hx]
theorem wnext_end {r : Rn} (h : (rck r).2 = 0) : wnext r r.es.length = (ent0, (r.es.length : Int), 12) := by
  unfold wnext
  rw [if_neg (by simp [wchk_at h (Nat.le_refl _)]), if_pos rfl]
theorem wprev_end {r : Rn} (h : (rck r).2 = 0) : wprev r 0 = (ent0, 0, 12) := by
  unfold wprev
  rw [if_neg (by have := wchk_at h (Nat.zero_le r.es.length); simpa using this), if_pos rfl]
theorem wlast_at {r : Rn} (h : (rck r).2 = 0) : wlast r = ((r.es.length : Int), 0) := by
  unfold wlast
  rw [if_neg (by simp [h])]
end Go.Proofs.Ytinbdppekhcekaa
