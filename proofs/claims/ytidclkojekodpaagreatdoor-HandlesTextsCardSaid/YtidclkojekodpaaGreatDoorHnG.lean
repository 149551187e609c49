
/-
  Contracts of handles: free.
-/
import Derived.Test.YtidclkojekodpaaGreatDoorHnF
namespace Go.Proofs.YtidclkojekodpaaGreatDoor
open Go.RowKit
set_option linter.unusedSimpArgs false
set_option linter.unusedVariables false
set_option maxRecDepth 100000

set_option maxHeartbeats 4000000 in
theorem hnFree (a : Option Addr) (c : Nat) (t : Tb) (w : World) (h : TOk w a c t) (hl : t.slots.length ≤ 5000) : Calls Tryz.prog 23 #[t.v a c] w (RB w (.int .i64 (sfree t.slots))) := by
  have hP := fun w h => hnPicture a c t w h hl
  have HP := Lib.hid hP
  have HO := Lib.hid h
  obtain ⟨mo, l⟩ := t
  have hc1 := h.len
  have hc2 := h.cap
  simp only at hl hc1 HP
  unfold maxLen at hc2
  unfold Tb.v
  simp only
  clear h hP
  obtain ⟨s, hs⟩ : ∃ s : ByteArray, s = ⟨(picB l).toArray⟩ := ⟨_, rfl⟩
  have hsz : s.size = l.length := by rw [hs]; show (picB l).toArray.size = _; simp [picB]
  have hget : ∀ (j : Nat) (h : j < s.size), ∃ z, l[j]? = some z ∧ s[j] = pb z := by
    intro j h
    have hj : j < l.length := by omega
    refine ⟨l[j], List.getElem?_eq_getElem hj, ?_⟩
    subst hs
    show (picB l).toArray[j]'(by simpa [picB] using hj) = _
    simp [picB]
  rw [← hs] at HP
  have HGt := Lib.hid hget
  clear hget hs
  go_enter Tryz.func23, Tryz.ntmps23
  go_wp2_with fail
  refine (HP.out _ (HO.out.bl (by repeat (first | assumption | exact Bl.refl _ | apply Bl.drewN | apply Bl.drew | apply Bl.alloc | (refine Bl.dr ?_ (by assumption)) | (refine Bl.trans ?_ (by assumption)))))).mono ?_; rintro e w1 ⟨rfl, hb1⟩
  have hb : Bl w w1 := (by repeat (first | assumption | exact Bl.refl _ | apply Bl.drewN | apply Bl.drew | apply Bl.alloc | (refine Bl.dr ?_ (by assumption)) | (refine Bl.trans ?_ (by assumption))))
  clear hb1
  go_wp2_with fail
  go_loopg [] s.size (fun g wr => ∃ pos : Nat, pos ≤ s.size ∧ wr.heap[w1.heap.size]? = some (.stringIter s pos) ∧ Bl w wr ∧ (∀ (j : Nat) z, j < pos → l[j]? = some z → z.used = true) ∧ g = s.size - pos)
  case atStart =>
    refine ⟨0, by omega, ?_, (by repeat (first | assumption | exact Bl.refl _ | apply Bl.drewN | apply Bl.drew | apply Bl.alloc | (refine Bl.dr ?_ (by assumption)) | (refine Bl.trans ?_ (by assumption)))), by intro j z hj; omega, rfl⟩
    have := World.iter_heap w1 s 0
    simpa using this
  case round =>
    obtain ⟨pos, hps, hit, hbw, hus, hg⟩ := hrel
    have G := Lib.hid hg
    have HU := Lib.hid hus
    clear hg hus
    have hs1 := hb.size
    by_cases hp : pos < s.size
    · obtain ⟨z, hz, hsv⟩ := HGt.out pos hp
      have hnx : ∀ ty, (Instr.next (.pointer (some ⟨w1.heap.size, 0, none⟩)) true ty).run Tryz.prog wr = _ := fun ty => Lib.run_next_ascii_at wr w1.heap.size s pos ty hit hp (by rw [hsv]; unfold pb; split <;> decide)
      rw [hsv] at hnx
      have hit2 := Lib.iterAt_heap wr w1.heap.size s pos (pos + 1) hit
      have hbw2 := Lib.below_iterAt hbw (k := w1.heap.size) (by omega) s (pos + 1)
      obtain ⟨W0, hW0⟩ : ∃ W0, W0 = wr.iterAt w1.heap.size s (pos + 1) := ⟨_, rfl⟩
      rw [← hW0] at hit2 hbw2 hnx
      have HZ := Lib.hid hz
      clear hit hW0 hsv hz
      cases hzu : z.used
      · have hk : (pb z).toNat = 102 := by unfold pb; rw [hzu]; rfl
        rw [hk] at hnx
        have hf : sfree l = pos := sfree_eq l pos z HZ.out HU.out hzu
        have HF := Lib.hid hf
        clear hf hk
        go_wp2_with fail
        go_ret
        exact RB.mk (by rw [HF.out]; rfl) hbw2
      · have hk : (pb z).toNat = 117 := by unfold pb; rw [hzu]; rfl
        rw [hk] at hnx
        clear hk
        go_wp2_with fail
        go_roundg (s.size - (pos + 1))
        case rel =>
          refine ⟨pos + 1, by omega, hit2, hbw2, ?_, rfl⟩
          intro j y hj hy
          by_cases e : j = pos
          · subst e; rw [HZ.out] at hy; injection hy with hy; subst hy; exact hzu
          · exact HU.out j y (by omega) hy
        case measure => rw [G.out]; omega
    · have hnx : ∀ ty, (Instr.next (.pointer (some ⟨w1.heap.size, 0, none⟩)) true ty).run Tryz.prog wr = _ := fun ty => Lib.run_next_end_at wr w1.heap.size s pos ty hit hp
      have hf : sfree l = s.size := by
        rw [hsz]
        refine sfree_all l fun j z hz => HU.out j z ?_ hz
        have := (List.getElem?_eq_some_iff.1 hz).1
        omega
      have HF := Lib.hid hf
      clear hf
      go_wp2_with fail
      go_ret
      exact RB.mk (by rw [HF.out, hsz]; rfl) hbw
end Go.Proofs.YtidclkojekodpaaGreatDoor
