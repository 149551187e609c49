
/-
  Contracts of handles: the reference's Same and Handles, of equal ones.
-/
import Derived.Test.YtidclkojekodpaaGreatDoorHnA
namespace Go.Proofs.YtidclkojekodpaaGreatDoor
open Go.RowKit
set_option linter.unusedSimpArgs false
set_option linter.unusedVariables false
set_option maxRecDepth 100000

set_option maxHeartbeats 2000000 in
theorem refHnSame (a : Option Addr) (c : Nat) (a2 : Option Addr) (c2 : Nat) (t : Tb) (w : World) (h : TOk w a c t) (h' : TOk w a2 c2 t) :
    Calls Tryz.prog 10 #[t.v a c, t.v a2 c2] w (RB w (.bool true)) := by
  obtain ⟨mo, l⟩ := t
  have hs := h.slots
  have hs' := h'.slots
  have hc1 := h.len
  have hc2 := h.cap
  simp only at hs hs' hc1
  unfold maxLen at hc2
  unfold Tb.v
  simp only
  have HL := Lib.hid hs
  have HM := Lib.hid hs'
  clear h h' hs hs'
  go_enter Tryz.func10, Tryz.ntmps10
  go_wp2_with fail
  go_loopg [5] l.length (fun g i wr => ∃ k : Nat, k ≤ l.length ∧ i = .int .i64 k ∧ Dr ((w.alloc (Obj.cells #[Value.int IntKind.i64 mo, Value.slice a l.length c] 24)).alloc (Obj.cells #[Value.int IntKind.i64 mo, Value.slice a2 l.length c2] 24)) wr ∧ g = l.length - k)
  case atStart => exact ⟨0, by omega, rfl, Dr.refl _, rfl⟩
  case round =>
    obtain ⟨k, hk1, rfl, hd, hg'⟩ := hrel
    have G := Lib.hid hg'
    have hb : Bl w wr := (((Bl.refl w).alloc _).alloc _).dr hd
    have c0 : wr.cell? ⟨w.heap.size, 1, none⟩ = some (.slice a l.length c) := by rw [hd.cell]; simp [go_sem]
    have c1 : wr.cell? ⟨w.heap.size + 1, 1, none⟩ = some (.slice a2 l.length c2) := by rw [hd.cell]; simp [go_sem]
    clear hg'
    by_cases h2 : k < l.length
    · obtain ⟨b, off, rfl, hat⟩ := HL.out.get h2
      obtain ⟨b2, off2, rfl, hat2⟩ := HM.out.get h2
      obtain ⟨x, hx⟩ : ∃ x, l[k]? = some x := ⟨_, List.getElem?_eq_getElem h2⟩
      obtain ⟨d0, d1⟩ := (hat k x hx).bl hb
      obtain ⟨e0, e1⟩ := (hat2 k x hx).bl hb
      have hq1 : (0 : Int) ≤ (k : Int) := by omega
      have hq2 : (k : Int) < (l.length : Int) := by omega
      clear hat hat2 hx
      go_wp2_with fail
      go_quiet (fail)
      go_wp2_with fail
      go_roundg (l.length - (k + 1))
      case rel => exact ⟨k + 1, by omega, by go_num, (by repeat (first | assumption | exact Dr.refl _ | apply Dr.drewN | apply Dr.drew | (refine Dr.trans ?_ (by assumption)))), rfl⟩
      case measure => rw [G.out]; omega
    · go_wp2_with fail
      go_ret
      exact RB.mk rfl (by repeat (first | assumption | exact Bl.refl _ | apply Bl.drewN | apply Bl.drew | apply Bl.alloc | (refine Bl.dr ?_ (by assumption)) | (refine Bl.trans ?_ (by assumption))))
end Go.Proofs.YtidclkojekodpaaGreatDoor
