
/-
  Contracts of words: the reference's Unquote, Split, Same.
-/
import Derived.Test.YtkbfjficmdgjpaaGreatDoorWoO
import Derived.Test.YtkbfjficmdgjpaaGreatDoorWoK
namespace Go.Proofs.YtkbfjficmdgjpaaGreatDoor
open Go.RowKit
set_option linter.unusedSimpArgs false
set_option linter.unusedVariables false
set_option maxRecDepth 100000

set_option maxHeartbeats 1000000 in
theorem refUnquote (s : ByteArray) (hs : s.size ≤ 100000) (w : World) : Calls Tryz.prog 109 #[.string s] w (RB w (.tuple #[.string ⟨(unqR s.data.toList).1.toArray⟩, .int .i64 (unqR s.data.toList).2])) := by
  have hU := fun w => refQuoted s hs w _ rfl
  have hsz : s.data.toList.length = s.size := by simp
  unfold uqR at hU
  unfold unqR
  cases hu : unq1 s.data.toList with
  | none =>
    rw [hu] at hU
    simp only at hU ⊢
    have HU := Lib.hid hU
    clear hU hu hsz
    go_enter Tryz.func109, Tryz.ntmps109
    go_wp2_with fail
    refine (HU.out _).mono ?_; rintro e w1 ⟨rfl, hb1⟩
    go_wp2_with fail
    go_ret2
    exact rb_tuple rfl rfl hb1
  | some p =>
    obtain ⟨t, n⟩ := p
    have hl := unq1_len hu
    rw [hu] at hU
    simp only at hU ⊢
    rw [hsz] at hl ⊢
    have HU := Lib.hid hU
    have hn0 : (((n : Nat) : Int) == 0) = false := by rw [beq_eq_false_iff_ne]; omega
    obtain ⟨n1, n2⟩ := hl
    clear hU hu hsz
    by_cases e : n = s.size
    · rw [if_pos e]
      have e1 : ((n : Int) != (s.size : Int)) = false := by rw [e]; simp
      clear e
      go_enter Tryz.func109, Tryz.ntmps109
      go_wp2_with fail
      refine (HU.out _).mono ?_; rintro e w1 ⟨rfl, hb1⟩
      go_wp2_with fail
      go_ret2
      exact rb_tuple rfl rfl hb1
    · rw [if_neg e]
      have e1 : ((n : Int) != (s.size : Int)) = true := by rw [bne_iff_ne]; omega
      clear e
      go_enter Tryz.func109, Tryz.ntmps109
      go_wp2_with fail
      refine (HU.out _).mono ?_; rintro e w1 ⟨rfl, hb1⟩
      go_wp2_with fail
      go_ret2
      exact rb_tuple rfl rfl hb1
end Go.Proofs.YtkbfjficmdgjpaaGreatDoor
