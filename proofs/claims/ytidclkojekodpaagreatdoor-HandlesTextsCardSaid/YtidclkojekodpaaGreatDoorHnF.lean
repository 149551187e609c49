
/-
  Contracts of handles: picture, free.
-/
import Derived.Test.YtidclkojekodpaaGreatDoorHnD
import Derived.Test.YtidclkojekodpaaGreatDoorBld
namespace Go.Proofs.YtidclkojekodpaaGreatDoor
open Go.RowKit
set_option linter.unusedSimpArgs false
set_option linter.unusedVariables false
set_option maxRecDepth 100000

/-- A letter for a slot. -/
def pb (s : Slot) : UInt8 := if s.used then 117 else 102
def picB (l : List Slot) : List UInt8 := l.map pb
theorem pic_step {l : List Slot} {k : Nat} {z : Slot} (h : l[k]? = some z) : Lib.byteCells (picB (l.take k)) ++ [.int .u8 (pb z).toNat] = Lib.byteCells (picB (l.take (k + 1))) := by
  obtain ⟨hk, hz⟩ := List.getElem?_eq_some_iff.1 h
  rw [List.take_succ_eq_append_getElem hk, hz]
  simp [picB, Lib.byteCells]
set_option maxHeartbeats 4000000 in
theorem hnPicture (a : Option Addr) (c : Nat) (t : Tb) (w : World) (h : TOk w a c t) (hl : t.slots.length ≤ 5000) : Calls Tryz.prog 34 #[t.v a c] w (RB w (.string ⟨(picB t.slots).toArray⟩)) := by
  obtain ⟨mo, l⟩ := t
  have hs := h.slots
  have hc1 := h.len
  have hc2 := h.cap
  simp only at hs hl hc1
  unfold maxLen at hc2
  unfold Tb.v
  simp only
  have HS := Lib.hid hs
  clear hs h
  go_enter Tryz.func34, Tryz.ntmps34
  go_wp2_with fail
  go_loopg [9] l.length (fun g i wr => ∃ k : Nat, k ≤ l.length ∧ i = .int .i64 k ∧ Lib.IsBuilderF tBl tU8 (w.heap.size + 1) (w.heap.size + 1) (Lib.byteCells (picB (l.take k))) wr ∧ Bl w wr ∧ w.heap.size + 1 < wr.heap.size ∧ g = l.length - k)
  case atStart =>
    refine ⟨0, by omega, rfl, ?_, (by repeat (first | assumption | exact Bl.refl _ | apply Bl.drewN | apply Bl.drew | apply Bl.alloc | (refine Bl.dr ?_ (by assumption)) | (refine Bl.trans ?_ (by assumption)))), by simp, rfl⟩
    have := Lib.IsBuilderF.of (Lib.fresh_isBuilder 46 5 (w.alloc (Obj.cells #[.int .i64 mo, .slice a l.length c] 24)))
    simpa [picB, Lib.byteCells] using this
  case round =>
    obtain ⟨k, hk, rfl, hI, hbw, hsz, hg⟩ := hrel
    have G := Lib.hid hg
    clear hg
    by_cases hkl : k < l.length
    · obtain ⟨b, off, rfl, hat⟩ := HS.out.get hkl
      obtain ⟨z, hz⟩ : ∃ z, l[k]? = some z := ⟨_, List.getElem?_eq_getElem hkl⟩
      obtain ⟨d0, d1⟩ := (hat k z hz).bl hbw
      have HZ := Lib.hid hz
      have hk0 : (0 : Int) ≤ (k : Int) := by omega
      have hkL : (k : Int) < (l.length : Int) := by omega
      clear hat hz
      have hI2 := hI.alloc (Obj.cells #[.int .i64 z.gen, .bool z.used] 35)
      have hb2 : Bl w (wr.alloc (Obj.cells #[.int .i64 z.gen, .bool z.used] 35)) := hbw.alloc _
      clear hI
      cases hzu : z.used
      · rw [hzu] at d1 hI2 hb2
        go_wp2_with fail
        refine (bldWriteByte (w.heap.size + 1) (w.heap.size + 1) _ 102 _ hI2 (by rw [Lib.byteCells_length]; unfold picB; rw [List.length_map, List.length_take]; omega) (by simp; omega)).mono ?_
        rintro e w4 ⟨rfl, hI4, hB4, -, -⟩
        have hI5 : Lib.IsBuilderF tBl tU8 (w.heap.size + 1) (w.heap.size + 1) (Lib.byteCells (picB (l.take (k + 1)))) w4 := by
          rw [← pic_step HZ.out]; unfold pb; rw [hzu]; exact hI4
        have hs4 := hB4.size
        simp at hs4
        have HI5 := Lib.hid hI5
        have hbw4 : Bl w w4 := Below.trans hb2 (Below.mono hB4 (by omega))
        clear hI4 hI5 hB4 hI2
        go_wp2_with fail
        go_roundg (l.length - (k + 1))
        case rel => exact ⟨k + 1, by omega, by go_num, HI5.out, hbw4, by omega, rfl⟩
        case measure => rw [G.out]; omega
      · rw [hzu] at d1 hI2 hb2
        go_wp2_with fail
        refine (bldWriteByte (w.heap.size + 1) (w.heap.size + 1) _ 117 _ hI2 (by rw [Lib.byteCells_length]; unfold picB; rw [List.length_map, List.length_take]; omega) (by simp; omega)).mono ?_
        rintro e w4 ⟨rfl, hI4, hB4, -, -⟩
        have hI5 : Lib.IsBuilderF tBl tU8 (w.heap.size + 1) (w.heap.size + 1) (Lib.byteCells (picB (l.take (k + 1)))) w4 := by
          rw [← pic_step HZ.out]; unfold pb; rw [hzu]; exact hI4
        have hs4 := hB4.size
        simp at hs4
        have HI5 := Lib.hid hI5
        have hbw4 : Bl w w4 := Below.trans hb2 (Below.mono hB4 (by omega))
        clear hI4 hI5 hB4 hI2
        go_wp2_with fail
        go_roundg (l.length - (k + 1))
        case rel => exact ⟨k + 1, by omega, by go_num, HI5.out, hbw4, by omega, rfl⟩
        case measure => rw [G.out]; omega
    · obtain rfl : k = l.length := by omega
      go_wp2_with fail
      refine (Tryz.Builder_String_any_k (w.heap.size + 1) (w.heap.size + 1) (picB (l.take l.length)) _ hI (by omega)).mono ?_
      rintro e W1 ⟨rfl, _, b1, _⟩
      go_wp2_with fail
      go_ret
      exact RB.mk (sval (by first | rfl | rw [List.take_length])) (Below.trans hbw (Below.mono b1 (by omega)))
end Go.Proofs.YtidclkojekodpaaGreatDoor
