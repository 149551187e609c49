
/-
  Contracts of words: the reference's Unquote, Split, Same.
-/
import Derived.Test.YtfjdcfmoodlnaaaGreatDoorWoO
import Derived.Test.YtfjdcfmoodlnaaaGreatDoorWoK
namespace Go.Proofs.YtfjdcfmoodlnaaaGreatDoor
open Go.RowKit
set_option linter.unusedSimpArgs false
set_option linter.unusedVariables false
set_option maxRecDepth 100000

/-! ### Same -/
set_option maxHeartbeats 4000000 in
theorem refSame (a b : Option Addr) (c d : Nat) (l : List Fld) (w : World) (ha : Flds w a l) (hb : Flds w b l) (hl : l.length ≤ 100000) : Calls Tryz.prog 18 #[.slice a l.length c, .slice b l.length d] w (RB w (.bool true)) := by
  have HA := Lib.hid ha
  have HB := Lib.hid hb
  clear ha hb
  go_enter Tryz.func18, Tryz.ntmps18
  go_wp2_with fail
  go_loopg [5] l.length (fun g i wr => ∃ k : Nat, k ≤ l.length ∧ i = .int .i64 k ∧ Bl w wr ∧ g = l.length - k)
  case atStart => exact ⟨0, by omega, rfl, Bl.refl _, rfl⟩
  case round =>
    obtain ⟨k, hk, rfl, hbw, hg⟩ := hrel
    have G := Lib.hid hg
    clear hg
    by_cases hkl : k < l.length
    · obtain ⟨b1, o1, rfl, h1⟩ := (HA.out.bl hbw).get hkl
      obtain ⟨b2, o2, rfl, h2⟩ := (HB.out.bl hbw).get hkl
      obtain ⟨x, hx⟩ : ∃ x, l[k]? = some x := ⟨_, List.getElem?_eq_getElem hkl⟩
      obtain ⟨p0, p1⟩ := h1 k x hx
      obtain ⟨q0, q1⟩ := h2 k x hx
      have i1 : (0 : Int) ≤ (k : Int) := by omega
      have i2 : (k : Int) < (l.length : Int) := by omega
      generalize (⟨x.s.toArray⟩ : ByteArray) = xs at *
      generalize x.q = xq at *
      clear h1 h2 hx
      go_wp2_with fail
      go_quiet (fail)
      go_wp2_with fail
      go_roundg (l.length - (k + 1))
      case rel => exact ⟨k + 1, by omega, by go_num, (by repeat (first | assumption | exact Bl.refl _ | apply Bl.drewN | apply Bl.drew | apply Bl.alloc | (refine Bl.dr ?_ (by assumption)) | (refine Bl.trans ?_ (by assumption)))), rfl⟩
      case measure => rw [G.out]; omega
    · obtain rfl : k = l.length := by omega
      go_wp2_with fail
      go_ret
      exact RB.mk rfl hbw
end Go.Proofs.YtfjdcfmoodlnaaaGreatDoor
