
/-
  Contracts of words: bytes that stand for themselves; small facts of the reference.
-/
import Derived.Test.YtkbfjficmdgjpaaGreatDoorLib
import Derived.Test.YtkbfjficmdgjpaaGreatDoorWdP
import Derived.IntWalk
import Derived.Deep.LoopGhost
namespace Go.Proofs.YtkbfjficmdgjpaaGreatDoor
open Go.RowKit
set_option linter.unusedSimpArgs false
set_option linter.unusedVariables false
set_option maxRecDepth 100000

theorem u8_ne {c d : UInt8} (h : c ≠ d) : ((c.toNat : Int) == (d.toNat : Int)) = false := by
  rw [beq_eq_false_iff_ne]
  intro e
  exact h (UInt8.toNat_inj.1 (by omega))
theorem u8_nn {c d : UInt8} (h : c ≠ d) : ¬ c.toNat = d.toNat := fun e => h (UInt8.toNat_inj.1 e)
theorem u8_bne {c d : UInt8} (h : c ≠ d) : ((c.toNat : Int) != (d.toNat : Int)) = true := by rw [bne, u8_ne h]; rfl
theorem plainB_a {c : UInt8} (h : ¬ 32 ≤ c.toNat) : plainB c = false := by simp [plainB]; intro h1; omega
theorem plainB_b {c : UInt8} (h : ¬ c.toNat ≤ 126) : plainB c = false := by simp [plainB]; intro _ h1; omega
theorem plainB_c {c : UInt8} (h : c = 34) : plainB c = false := by subst h; rfl
theorem plainB_d {c : UInt8} (h : c = 92) : plainB c = false := by subst h; rfl
theorem plainB_e {c : UInt8} (h1 : 32 ≤ c.toNat) (h2 : c.toNat ≤ 126) (h3 : ¬ c = 34) (h4 : ¬ c = 92) : plainB c = true := by simp [plainB, h1, h2, h3, h4]
set_option maxHeartbeats 2000000 in
theorem woPlain (c : UInt8) (w : World) : Calls Tryz.prog 59 #[.int .u8 (c.toNat : Nat)] w (RB w (.bool (plainB c))) := by
  by_cases h1 : 32 ≤ c.toNat
  · by_cases h2 : c.toNat ≤ 126
    · by_cases h3 : c = 34
      · rw [plainB_c h3]
        subst h3
        clear h1 h2
        go_enter Tryz.func59, Tryz.ntmps59
        go_wp2_with fail
        go_ret
        exact RB.mk rfl (by repeat (first | assumption | exact Bl.refl _ | apply Bl.drewN | apply Bl.drew | apply Bl.alloc | (refine Bl.dr ?_ (by assumption)) | (refine Bl.trans ?_ (by assumption))))
      · by_cases h4 : c = 92
        · rw [plainB_d h4]
          subst h4
          clear h1 h2 h3
          go_enter Tryz.func59, Tryz.ntmps59
          go_wp2_with fail
          go_ret
          exact RB.mk rfl (by repeat (first | assumption | exact Bl.refl _ | apply Bl.drewN | apply Bl.drew | apply Bl.alloc | (refine Bl.dr ?_ (by assumption)) | (refine Bl.trans ?_ (by assumption))))
        · rw [plainB_e h1 h2 h3 h4]
          have e3 : ((c.toNat : Int) != 34) = true := u8_bne (d := 34) h3
          have e4 : ((c.toNat : Int) != 92) = true := u8_bne (d := 92) h4
          have p1 : (32 : Int) ≤ (c.toNat : Int) := by omega
          have p2 : (c.toNat : Int) ≤ 126 := by omega
          clear h3 h4
          go_enter Tryz.func59, Tryz.ntmps59
          go_wp2_with fail
          go_ret
          exact RB.mk rfl (by repeat (first | assumption | exact Bl.refl _ | apply Bl.drewN | apply Bl.drew | apply Bl.alloc | (refine Bl.dr ?_ (by assumption)) | (refine Bl.trans ?_ (by assumption))))
    · rw [plainB_b h2]
      have p1 : (32 : Int) ≤ (c.toNat : Int) := by omega
      have p2 : ¬ (c.toNat : Int) ≤ 126 := by omega
      go_enter Tryz.func59, Tryz.ntmps59
      go_wp2_with fail
      go_ret
      exact RB.mk rfl (by repeat (first | assumption | exact Bl.refl _ | apply Bl.drewN | apply Bl.drew | apply Bl.alloc | (refine Bl.dr ?_ (by assumption)) | (refine Bl.trans ?_ (by assumption))))
  · rw [plainB_a h1]
    have p1 : ¬ (32 : Int) ≤ (c.toNat : Int) := by omega
    go_enter Tryz.func59, Tryz.ntmps59
    go_wp2_with fail
    go_ret
    exact RB.mk rfl (by repeat (first | assumption | exact Bl.refl _ | apply Bl.drewN | apply Bl.drew | apply Bl.alloc | (refine Bl.dr ?_ (by assumption)) | (refine Bl.trans ?_ (by assumption))))
set_option maxHeartbeats 2000000 in
theorem refPlain (c : UInt8) (w : World) : Calls Tryz.prog 117 #[.int .u8 (c.toNat : Nat)] w (RB w (.bool (plainB c))) := by
  by_cases h1 : 32 ≤ c.toNat
  · by_cases h2 : c.toNat ≤ 126
    · by_cases h3 : c = 34
      · rw [plainB_c h3]
        subst h3
        clear h1 h2
        go_enter Tryz.func117, Tryz.ntmps117
        go_wp2_with fail
        go_ret
        exact RB.mk rfl (by repeat (first | assumption | exact Bl.refl _ | apply Bl.drewN | apply Bl.drew | apply Bl.alloc | (refine Bl.dr ?_ (by assumption)) | (refine Bl.trans ?_ (by assumption))))
      · by_cases h4 : c = 92
        · rw [plainB_d h4]
          subst h4
          clear h1 h2 h3
          go_enter Tryz.func117, Tryz.ntmps117
          go_wp2_with fail
          go_ret
          exact RB.mk rfl (by repeat (first | assumption | exact Bl.refl _ | apply Bl.drewN | apply Bl.drew | apply Bl.alloc | (refine Bl.dr ?_ (by assumption)) | (refine Bl.trans ?_ (by assumption))))
        · rw [plainB_e h1 h2 h3 h4]
          have e3 : ((c.toNat : Int) != 34) = true := u8_bne (d := 34) h3
          have e4 : ((c.toNat : Int) != 92) = true := u8_bne (d := 92) h4
          have p1 : (32 : Int) ≤ (c.toNat : Int) := by omega
          have p2 : (c.toNat : Int) ≤ 126 := by omega
          clear h3 h4
          go_enter Tryz.func117, Tryz.ntmps117
          go_wp2_with fail
          go_ret
          exact RB.mk rfl (by repeat (first | assumption | exact Bl.refl _ | apply Bl.drewN | apply Bl.drew | apply Bl.alloc | (refine Bl.dr ?_ (by assumption)) | (refine Bl.trans ?_ (by assumption))))
    · rw [plainB_b h2]
      have p1 : (32 : Int) ≤ (c.toNat : Int) := by omega
      have p2 : ¬ (c.toNat : Int) ≤ 126 := by omega
      go_enter Tryz.func117, Tryz.ntmps117
      go_wp2_with fail
      go_ret
      exact RB.mk rfl (by repeat (first | assumption | exact Bl.refl _ | apply Bl.drewN | apply Bl.drew | apply Bl.alloc | (refine Bl.dr ?_ (by assumption)) | (refine Bl.trans ?_ (by assumption))))
  · rw [plainB_a h1]
    have p1 : ¬ (32 : Int) ≤ (c.toNat : Int) := by omega
    go_enter Tryz.func117, Tryz.ntmps117
    go_wp2_with fail
    go_ret
    exact RB.mk rfl (by repeat (first | assumption | exact Bl.refl _ | apply Bl.drewN | apply Bl.drew | apply Bl.alloc | (refine Bl.dr ?_ (by assumption)) | (refine Bl.trans ?_ (by assumption))))
end Go.Proofs.YtkbfjficmdgjpaaGreatDoor
