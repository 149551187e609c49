/-
  Contract of awake.
-/
import Derived.Test.YteafcbpogomioaaFnO
namespace Go.Proofs.Yteafcbpogomioaa
open Go.RowKit
set_option linter.unusedSimpArgs false
set_option linter.unusedVariables false

def exF : Fnc := ⟨2, [⟨#[98]⟩, ⟨#[98, 99, 101]⟩]⟩
theorem ev_make : fmake exL 2 = (exF, 0) := by kernel_rfl
theorem ev_size : fsz exF = (4, 0) := by kernel_rfl
theorem ev_block : fblk exF ⟨#[98, 99, 100]⟩ = (1, 0) := by kernel_rfl
theorem ev_span : spn exF 5 ⟨#[98]⟩ = (2, 4, 0) := by kernel_rfl
theorem small_str {n : Nat} (s : ByteArray) (h : s.size ≤ n) (hn : n ≤ 1000) : s.size ≤ maxLen := Nat.le_trans h (by unfold maxLen; omega)

set_option maxRecDepth 100000 in
set_option maxHeartbeats 2000000 in
theorem lawAwake (w : World) : Calls Try.prog 12 #[] w (RB w (.bool true)) := by
  have hM := fun a c w hl hn hc => fenceMake a c exL 2 w hl hn hc (by omega) (by omega)
  rw [ev_make] at hM
  have hS := fun a c w h => fenceSize a c exF w h
  rw [ev_size] at hS
  have hB := fun a c w h => fenceBlock a c exF ⟨#[98, 99, 100]⟩ w h (small_str (n := 3) _ (by decide) (by omega))
  rw [ev_block] at hB
  have hP := fun a c w h => fenceSpan a c exF 5 ⟨#[98]⟩ w h (small_str (n := 3) _ (by decide) (by omega)) (by omega) (by omega)
  rw [ev_span] at hP
  have hE := fun a c a2 c2 w h1 h2 => refSame a c a2 c2 exF w h1 h2 (by decide)
  unfold Fnc.v at hS hB hP hE
  have HX := Lib.hid (fun w => lawExample w)
  have HM := Lib.hid hM
  have HS := Lib.hid hS
  have HB := Lib.hid hB
  have HP := Lib.hid hP
  have HE := Lib.hid hE
  clear hM hS hB hP hE
  go_enter Try.func12, Try.ntmps12
  go_wp2_with fail
  refine (HX.out _).mono ?_; rintro e w1 ⟨v, rfl, ⟨a, c, rfl, hl, hc1, hc2⟩, hb1⟩
  go_wp2_with fail
  refine (HM.out a c _ hl hc1 hc2).mono ?_; rintro e w2 ⟨v, rfl, ⟨a2, c2, rfl, hs, hc3, hc4⟩, hb2⟩
  have hf : FOk w2 a2 exF := ⟨hs, by decide, by decide, by decide⟩
  have hb : Bl w w2 := (by repeat (first | assumption | exact Bl.refl _ | apply Bl.drewN | apply Bl.drew | apply Bl.alloc | (refine Bl.dr ?_ (by assumption)) | (refine Bl.trans ?_ (by assumption))))
  clear hb1 hb2 hl
  unfold Fnc.v
  go_wp2_with fail
  refine (HS.out _ _ _ (hf.bl (by repeat (first | assumption | exact Bl.refl _ | apply Bl.drewN | apply Bl.drew | apply Bl.alloc | (refine Bl.dr ?_ (by assumption)) | (refine Bl.trans ?_ (by assumption)))))).mono ?_; rintro e w3 ⟨rfl, hb3⟩
  have c0 : w3.cell? ⟨w2.heap.size, 0, none⟩ = some (.int .i64 exF.step) := hb3.cell (by simp [go_sem])
  have c1 : w3.cell? ⟨w2.heap.size, 1, none⟩ = some (.slice a2 exF.marks.length c2) := hb3.cell (by simp [go_sem])
  have hb23 : Bl w2 w3 := ((Bl.refl w2).alloc _).trans hb3
  clear hb3
  go_wp2_with fail
  refine (HB.out _ _ _ (hf.bl (by repeat (first | assumption | exact Bl.refl _ | apply Bl.drewN | apply Bl.drew | apply Bl.alloc | (refine Bl.dr ?_ (by assumption)) | (refine Bl.trans ?_ (by assumption)))))).mono ?_; rintro e w4 ⟨rfl, hb4⟩
  have c0 := hb4.cell c0
  have c1 := hb4.cell c1
  have hb24 : Bl w2 w4 := hb23.trans hb4
  clear hb4 hb23
  go_wp2_with fail
  refine (HP.out _ _ _ (hf.bl (by repeat (first | assumption | exact Bl.refl _ | apply Bl.drewN | apply Bl.drew | apply Bl.alloc | (refine Bl.dr ?_ (by assumption)) | (refine Bl.trans ?_ (by assumption)))))).mono ?_; rintro e w5 ⟨rfl, hb5⟩
  have c0 := hb5.cell c0
  have c1 := hb5.cell c1
  have hb25 : Bl w2 w5 := hb24.trans hb5
  clear hb5 hb24
  go_wp2_with fail
  refine (HE.out _ _ _ _ _ (hf.strs.bl (by repeat (first | assumption | exact Bl.refl _ | apply Bl.drewN | apply Bl.drew | apply Bl.alloc | (refine Bl.dr ?_ (by assumption)) | (refine Bl.trans ?_ (by assumption))))) (strs2 w5 ⟨#[98]⟩ ⟨#[98, 99, 101]⟩ (small_str (n := 3) _ (by decide) (by omega)) (small_str (n := 3) _ (by decide) (by omega)) 9 w5.heap.size rfl)).mono ?_; rintro e w6 ⟨rfl, hb6⟩
  go_wp2_with fail
  go_ret
  exact RB.mk rfl (by repeat (first | assumption | exact Bl.refl _ | apply Bl.drewN | apply Bl.drew | apply Bl.alloc | (refine Bl.dr ?_ (by assumption)) | (refine Bl.trans ?_ (by assumption))))
end Go.Proofs.Yteafcbpogomioaa
