
/-
  Contracts of words: the letter of an escape.
-/
import Derived.Test.YtkbfjficmdgjpaaGreatDoorWoA
namespace Go.Proofs.YtkbfjficmdgjpaaGreatDoor
open Go.RowKit
set_option linter.unusedSimpArgs false
set_option linter.unusedVariables false
set_option maxRecDepth 100000

def escL : List Nat := [34, 34, 92, 92, 10, 110, 13, 114, 9, 116]
/-- The variable escapes lies as it was laid. -/
structure EscTab (w : World) : Prop where
  at_ : ∀ i, i < 10 → w.cell? ⟨0, i, none⟩ = some (.int .u8 ((escL.getD i 0 : Nat) : Int))
theorem EscTab.bl {w w' : World} (h : EscTab w) (k : Bl w w') : EscTab w' := ⟨fun i hi => k.cell (h.at_ i hi)⟩
abbrev escV : Value := .agg #[.int .u8 34, .int .u8 34, .int .u8 92, .int .u8 92, .int .u8 10, .int .u8 110, .int .u8 13, .int .u8 114, .int .u8 9, .int .u8 116]
theorem idx0 (w : World) : (Instr.index 125 escV (.int .i64 0)).run Tryz.prog w = .ok (.agg #[.int .u8 34, .int .u8 34]) w := by kernel_rfl
theorem idx1 (w : World) : (Instr.index 125 escV (.int .i64 1)).run Tryz.prog w = .ok (.agg #[.int .u8 92, .int .u8 92]) w := by kernel_rfl
theorem idx2 (w : World) : (Instr.index 125 escV (.int .i64 2)).run Tryz.prog w = .ok (.agg #[.int .u8 10, .int .u8 110]) w := by kernel_rfl
theorem idx3 (w : World) : (Instr.index 125 escV (.int .i64 3)).run Tryz.prog w = .ok (.agg #[.int .u8 13, .int .u8 114]) w := by kernel_rfl
theorem idx4 (w : World) : (Instr.index 125 escV (.int .i64 4)).run Tryz.prog w = .ok (.agg #[.int .u8 9, .int .u8 116]) w := by kernel_rfl
theorem letB_none {c : UInt8} (h : ∀ j, j < 5 → c.toNat ≠ escL.getD (2 * j) 0) : letB c = 0 := by
  have h0 := h 0 (by omega); have h1 := h 1 (by omega); have h2 := h 2 (by omega); have h3 := h 3 (by omega); have h4 := h 4 (by omega)
  simp [escL] at h0 h1 h2 h3 h4
  unfold letB
  rw [if_neg (by rintro rfl; exact h0 rfl), if_neg (by rintro rfl; exact h1 rfl), if_neg (by rintro rfl; exact h2 rfl), if_neg (by rintro rfl; exact h3 rfl), if_neg (by rintro rfl; exact h4 rfl)]
set_option maxHeartbeats 4000000 in
theorem woLetter (c : UInt8) (w : World) (h : EscTab w) : Calls Tryz.prog 58 #[.int .u8 (c.toNat : Nat)] w (RB w (.int .u8 ((letB c).toNat : Nat))) := by
  have d0 := h.at_ 0 (by omega); have d1 := h.at_ 1 (by omega); have d2 := h.at_ 2 (by omega); have d3 := h.at_ 3 (by omega); have d4 := h.at_ 4 (by omega)
  have d5 := h.at_ 5 (by omega); have d6 := h.at_ 6 (by omega); have d7 := h.at_ 7 (by omega); have d8 := h.at_ 8 (by omega); have d9 := h.at_ 9 (by omega)
  simp [escL] at d0 d1 d2 d3 d4 d5 d6 d7 d8 d9
  go_enter Tryz.func58, Tryz.ntmps58
  go_wp2_with fail
  clear d0 d1 d2 d3 d4 d5 d6 d7 d8 d9
  go_loopg [6] 5 (fun g i wr => ∃ k : Nat, k ≤ 5 ∧ i = .int .i64 k ∧ Bl w wr ∧ (∀ j, j < k → c.toNat ≠ escL.getD (2 * j) 0) ∧ g = 5 - k)
  case atStart => exact ⟨0, by omega, rfl, Bl.refl _, by intro j hj; omega, rfl⟩
  case round =>
    obtain ⟨k, hk, rfl, hbw, hno, hg⟩ := hrel
    have G := Lib.hid hg
    have HN := Lib.hid hno
    clear hg hno
    rcases (by omega : k = 0 ∨ k = 1 ∨ k = 2 ∨ k = 3 ∨ k = 4 ∨ k = 5) with rfl | rfl | rfl | rfl | rfl | rfl
    · have ix := idx0 wr
      by_cases hc : c.toNat = 34
      · have e : c = UInt8.ofNat 34 := UInt8.toNat_inj.1 (by rw [hc]; rfl)
        subst e
        clear hc
        go_wp2_with fail
        go_ret
        exact RB.mk rfl (by repeat (first | assumption | exact Bl.refl _ | apply Bl.drewN | apply Bl.drew | apply Bl.alloc | (refine Bl.dr ?_ (by assumption)) | (refine Bl.trans ?_ (by assumption))))
      · have e1 : ((34 : Int) == (c.toNat : Int)) = false := by rw [beq_eq_false_iff_ne]; omega
        go_wp2_with fail
        go_roundg (5 - (0 + 1))
        case rel =>
          refine ⟨0 + 1, by omega, by go_num, (by repeat (first | assumption | exact Bl.refl _ | apply Bl.drewN | apply Bl.drew | apply Bl.alloc | (refine Bl.dr ?_ (by assumption)) | (refine Bl.trans ?_ (by assumption)))), fun j hj => ?_, rfl⟩
          by_cases e : j = 0
          · subst e; simpa [escL] using hc
          · exact HN.out j (by omega)
        case measure => rw [G.out]; omega
    · have ix := idx1 wr
      by_cases hc : c.toNat = 92
      · have e : c = UInt8.ofNat 92 := UInt8.toNat_inj.1 (by rw [hc]; rfl)
        subst e
        clear hc
        go_wp2_with fail
        go_ret
        exact RB.mk rfl (by repeat (first | assumption | exact Bl.refl _ | apply Bl.drewN | apply Bl.drew | apply Bl.alloc | (refine Bl.dr ?_ (by assumption)) | (refine Bl.trans ?_ (by assumption))))
      · have e1 : ((92 : Int) == (c.toNat : Int)) = false := by rw [beq_eq_false_iff_ne]; omega
        go_wp2_with fail
        go_roundg (5 - (1 + 1))
        case rel =>
          refine ⟨1 + 1, by omega, by go_num, (by repeat (first | assumption | exact Bl.refl _ | apply Bl.drewN | apply Bl.drew | apply Bl.alloc | (refine Bl.dr ?_ (by assumption)) | (refine Bl.trans ?_ (by assumption)))), fun j hj => ?_, rfl⟩
          by_cases e : j = 1
          · subst e; simpa [escL] using hc
          · exact HN.out j (by omega)
        case measure => rw [G.out]; omega
    · have ix := idx2 wr
      by_cases hc : c.toNat = 10
      · have e : c = UInt8.ofNat 10 := UInt8.toNat_inj.1 (by rw [hc]; rfl)
        subst e
        clear hc
        go_wp2_with fail
        go_ret
        exact RB.mk rfl (by repeat (first | assumption | exact Bl.refl _ | apply Bl.drewN | apply Bl.drew | apply Bl.alloc | (refine Bl.dr ?_ (by assumption)) | (refine Bl.trans ?_ (by assumption))))
      · have e1 : ((10 : Int) == (c.toNat : Int)) = false := by rw [beq_eq_false_iff_ne]; omega
        go_wp2_with fail
        go_roundg (5 - (2 + 1))
        case rel =>
          refine ⟨2 + 1, by omega, by go_num, (by repeat (first | assumption | exact Bl.refl _ | apply Bl.drewN | apply Bl.drew | apply Bl.alloc | (refine Bl.dr ?_ (by assumption)) | (refine Bl.trans ?_ (by assumption)))), fun j hj => ?_, rfl⟩
          by_cases e : j = 2
          · subst e; simpa [escL] using hc
          · exact HN.out j (by omega)
        case measure => rw [G.out]; omega
    · have ix := idx3 wr
      by_cases hc : c.toNat = 13
      · have e : c = UInt8.ofNat 13 := UInt8.toNat_inj.1 (by rw [hc]; rfl)
        subst e
        clear hc
        go_wp2_with fail
        go_ret
        exact RB.mk rfl (by repeat (first | assumption | exact Bl.refl _ | apply Bl.drewN | apply Bl.drew | apply Bl.alloc | (refine Bl.dr ?_ (by assumption)) | (refine Bl.trans ?_ (by assumption))))
      · have e1 : ((13 : Int) == (c.toNat : Int)) = false := by rw [beq_eq_false_iff_ne]; omega
        go_wp2_with fail
        go_roundg (5 - (3 + 1))
        case rel =>
          refine ⟨3 + 1, by omega, by go_num, (by repeat (first | assumption | exact Bl.refl _ | apply Bl.drewN | apply Bl.drew | apply Bl.alloc | (refine Bl.dr ?_ (by assumption)) | (refine Bl.trans ?_ (by assumption)))), fun j hj => ?_, rfl⟩
          by_cases e : j = 3
          · subst e; simpa [escL] using hc
          · exact HN.out j (by omega)
        case measure => rw [G.out]; omega
    · have ix := idx4 wr
      by_cases hc : c.toNat = 9
      · have e : c = UInt8.ofNat 9 := UInt8.toNat_inj.1 (by rw [hc]; rfl)
        subst e
        clear hc
        go_wp2_with fail
        go_ret
        exact RB.mk rfl (by repeat (first | assumption | exact Bl.refl _ | apply Bl.drewN | apply Bl.drew | apply Bl.alloc | (refine Bl.dr ?_ (by assumption)) | (refine Bl.trans ?_ (by assumption))))
      · have e1 : ((9 : Int) == (c.toNat : Int)) = false := by rw [beq_eq_false_iff_ne]; omega
        go_wp2_with fail
        go_roundg (5 - (4 + 1))
        case rel =>
          refine ⟨4 + 1, by omega, by go_num, (by repeat (first | assumption | exact Bl.refl _ | apply Bl.drewN | apply Bl.drew | apply Bl.alloc | (refine Bl.dr ?_ (by assumption)) | (refine Bl.trans ?_ (by assumption)))), fun j hj => ?_, rfl⟩
          by_cases e : j = 4
          · subst e; simpa [escL] using hc
          · exact HN.out j (by omega)
        case measure => rw [G.out]; omega
    · have hn := letB_none HN.out
      have HL := Lib.hid hn
      clear hn
      go_wp2_with fail
      go_ret
      exact RB.mk (by rw [HL.out]; rfl) (by repeat (first | assumption | exact Bl.refl _ | apply Bl.drewN | apply Bl.drew | apply Bl.alloc | (refine Bl.dr ?_ (by assumption)) | (refine Bl.trans ?_ (by assumption))))
end Go.Proofs.YtkbfjficmdgjpaaGreatDoor
