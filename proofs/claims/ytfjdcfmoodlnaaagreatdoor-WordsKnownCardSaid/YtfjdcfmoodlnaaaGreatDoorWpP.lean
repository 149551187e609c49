
/-
  The law WordsKnown: the examples of the document.
-/
import Derived.Test.YtfjdcfmoodlnaaaGreatDoorWoS
import Derived.Test.YtfjdcfmoodlnaaaGreatDoorWpL
namespace Go.Proofs.YtfjdcfmoodlnaaaGreatDoor
open Go.RowKit
set_option linter.unusedSimpArgs false
set_option linter.unusedVariables false
set_option maxRecDepth 100000

theorem kn0 : wint [48, 48, 55] 0 10 = (0, 6) := by decide +kernel
theorem kn1 : wint [45, 48] 0 10 = (0, 6) := by decide +kernel
theorem kn2 : wint [49, 50] 0 10 = (0, 7) := by decide +kernel
theorem kn3 : unqR [34, 92, 120, 52, 49, 34] = ([], 6) := by kernel_rfl
theorem kn4 : unqR [34, 92, 120, 55, 70, 34] = ([], 6) := by kernel_rfl
theorem kn5 : unqR [34, 97] = ([], 6) := by kernel_rfl
theorem kn6 : wsplit [97, 32, 32, 98] = ([], 6) := by kernel_rfl
theorem kn7 : wsplit [] = ([], 0) := by kernel_rfl
theorem kn9 : wparse [49, 45, 51, 44, 52] = ([], 6) := by decide +kernel
theorem kn10 : wparse [51, 45, 51] = ([], 6) := by decide +kernel
theorem kn11 : wparse [50, 44, 49] = ([], 6) := by decide +kernel
theorem kn12 : wparse [48, 45, 54, 48, 48] = ([], 3) := by decide +kernel
theorem kn13 : nameB [87, 101, 98] = false := by kernel_rfl
theorem kn14 : nameB [97, 97, 97, 97, 97, 97, 97, 97, 97, 97, 97, 97, 97, 97, 97, 97, 97] = false := by kernel_rfl
set_option maxHeartbeats 8000000 in
theorem lawKnown (w : World) (hE : WEnv w) : Calls Tryz.prog 4 #[] w (RB w (.bool true)) := by
  have h := fun w h => woInt (⟨#[48, 48, 55]⟩ : ByteArray) 0 10 (by decide) w h
  rw [show (⟨#[48, 48, 55]⟩ : ByteArray).data.toList = [48, 48, 55] from rfl, kn0] at h
  have H0 := Lib.hid h
  clear h
  have h := fun w h => woInt (⟨#[45, 48]⟩ : ByteArray) 0 10 (by decide) w h
  rw [show (⟨#[45, 48]⟩ : ByteArray).data.toList = [45, 48] from rfl, kn1] at h
  have H1 := Lib.hid h
  clear h
  have h := fun w h => woInt (⟨#[49, 50]⟩ : ByteArray) 0 10 (by decide) w h
  rw [show (⟨#[49, 50]⟩ : ByteArray).data.toList = [49, 50] from rfl, kn2] at h
  have H2 := Lib.hid h
  clear h
  have h := fun w h => woUnquote (⟨#[34, 92, 120, 52, 49, 34]⟩ : ByteArray) (by decide) w h
  rw [show (⟨#[34, 92, 120, 52, 49, 34]⟩ : ByteArray).data.toList = [34, 92, 120, 52, 49, 34] from rfl, kn3] at h
  have H3 := Lib.hid h
  clear h
  have h := fun w h => woUnquote (⟨#[34, 92, 120, 55, 70, 34]⟩ : ByteArray) (by decide) w h
  rw [show (⟨#[34, 92, 120, 55, 70, 34]⟩ : ByteArray).data.toList = [34, 92, 120, 55, 70, 34] from rfl, kn4] at h
  have H4 := Lib.hid h
  clear h
  have h := fun w h => woUnquote (⟨#[34, 97]⟩ : ByteArray) (by decide) w h
  rw [show (⟨#[34, 97]⟩ : ByteArray).data.toList = [34, 97] from rfl, kn5] at h
  have H5 := Lib.hid h
  clear h
  have h := fun w h => woSplit (⟨#[97, 32, 32, 98]⟩ : ByteArray) (by decide) w h
  rw [show (⟨#[97, 32, 32, 98]⟩ : ByteArray).data.toList = [97, 32, 32, 98] from rfl, kn6] at h
  have H6 := Lib.hid h
  clear h
  have h := fun w h => woSplit (⟨#[]⟩ : ByteArray) (by decide) w h
  rw [show (⟨#[]⟩ : ByteArray).data.toList = [] from rfl, kn7] at h
  have H7 := Lib.hid h
  clear h
  have H8 := Lib.hid (show ∀ w, WEnv w → Calls Tryz.prog 7 #[.slice none 0 0] w (RB w (.tuple #[.string ⟨#[45]⟩, .int .i64 0])) from fun w h => woList none 0 [] w h ⟨fun h => absurd rfl h⟩ (by simp) (by simp))
  have h := fun w h => woParse (⟨#[49, 45, 51, 44, 52]⟩ : ByteArray) (by decide) w h
  rw [show (⟨#[49, 45, 51, 44, 52]⟩ : ByteArray).data.toList = [49, 45, 51, 44, 52] from rfl, kn9] at h
  have H9 := Lib.hid h
  clear h
  have h := fun w h => woParse (⟨#[51, 45, 51]⟩ : ByteArray) (by decide) w h
  rw [show (⟨#[51, 45, 51]⟩ : ByteArray).data.toList = [51, 45, 51] from rfl, kn10] at h
  have H10 := Lib.hid h
  clear h
  have h := fun w h => woParse (⟨#[50, 44, 49]⟩ : ByteArray) (by decide) w h
  rw [show (⟨#[50, 44, 49]⟩ : ByteArray).data.toList = [50, 44, 49] from rfl, kn11] at h
  have H11 := Lib.hid h
  clear h
  have h := fun w h => woParse (⟨#[48, 45, 54, 48, 48]⟩ : ByteArray) (by decide) w h
  rw [show (⟨#[48, 45, 54, 48, 48]⟩ : ByteArray).data.toList = [48, 45, 54, 48, 48] from rfl, kn12] at h
  have H12 := Lib.hid h
  clear h
  have h := fun w => woName (⟨#[87, 101, 98]⟩ : ByteArray) (by decide) w
  rw [show (⟨#[87, 101, 98]⟩ : ByteArray).data.toList = [87, 101, 98] from rfl, kn13] at h
  have H13 := Lib.hid h
  clear h
  have h := fun w => woName (⟨#[97, 97, 97, 97, 97, 97, 97, 97, 97, 97, 97, 97, 97, 97, 97, 97, 97]⟩ : ByteArray) (by decide) w
  rw [show (⟨#[97, 97, 97, 97, 97, 97, 97, 97, 97, 97, 97, 97, 97, 97, 97, 97, 97]⟩ : ByteArray).data.toList = [97, 97, 97, 97, 97, 97, 97, 97, 97, 97, 97, 97, 97, 97, 97, 97, 97] from rfl, kn14] at h
  have H14 := Lib.hid h
  clear h
  have HE := Lib.hid hE
  have hb := Bl.refl w
  clear hE
  go_enter Tryz.func4, Tryz.ntmps4
  go_wp2_with fail
  refine (H0.out _ (HE.out.bl hb)).mono ?_; rintro e w1 ⟨rfl, hb2⟩
  have hb := hb.trans hb2
  clear hb2
  go_wp2_with fail
  refine (H1.out _ (HE.out.bl hb)).mono ?_; rintro e w2 ⟨rfl, hb2⟩
  have hb := hb.trans hb2
  clear hb2
  go_wp2_with fail
  refine (H2.out _ (HE.out.bl hb)).mono ?_; rintro e w3 ⟨rfl, hb2⟩
  have hb := hb.trans hb2
  clear hb2
  go_wp2_with fail
  refine (H3.out _ (HE.out.bl hb).esc).mono ?_; rintro e w4 ⟨rfl, hb2⟩
  have hb := hb.trans hb2
  clear hb2
  go_wp2_with fail
  refine (H4.out _ (HE.out.bl hb).esc).mono ?_; rintro e w5 ⟨rfl, hb2⟩
  have hb := hb.trans hb2
  clear hb2
  go_wp2_with fail
  refine (H5.out _ (HE.out.bl hb).esc).mono ?_; rintro e w6 ⟨rfl, hb2⟩
  have hb := hb.trans hb2
  clear hb2
  go_wp2_with fail
  refine (H6.out _ (HE.out.bl hb).esc).mono ?_; rintro e w7 ⟨v, rfl, ⟨vl, rfl, a6, c6, rfl, -, -, -⟩, hb2⟩
  have hb := hb.trans hb2
  clear hb2
  go_wp2_with fail
  refine (H7.out _ (HE.out.bl hb).esc).mono ?_; rintro e w8 ⟨v, rfl, ⟨vl, rfl, a7, c7, rfl, -, -, -⟩, hb2⟩
  have hb := hb.trans hb2
  clear hb2
  go_wp2_with fail
  refine (H8.out _ (HE.out.bl hb)).mono ?_; rintro e w9 ⟨rfl, hb2⟩
  have hb := hb.trans hb2
  clear hb2
  go_wp2_with fail
  refine (H9.out _ (HE.out.bl hb)).mono ?_; rintro e w10 ⟨v, rfl, ⟨a9, c9, rfl, -⟩, hb2⟩
  have hb := hb.trans hb2
  clear hb2
  go_wp2_with fail
  refine (H10.out _ (HE.out.bl hb)).mono ?_; rintro e w11 ⟨v, rfl, ⟨a10, c10, rfl, -⟩, hb2⟩
  have hb := hb.trans hb2
  clear hb2
  go_wp2_with fail
  refine (H11.out _ (HE.out.bl hb)).mono ?_; rintro e w12 ⟨v, rfl, ⟨a11, c11, rfl, -⟩, hb2⟩
  have hb := hb.trans hb2
  clear hb2
  go_wp2_with fail
  refine (H12.out _ (HE.out.bl hb)).mono ?_; rintro e w13 ⟨v, rfl, ⟨a12, c12, rfl, -⟩, hb2⟩
  have hb := hb.trans hb2
  clear hb2
  go_wp2_with fail
  refine (H13.out _).mono ?_; rintro e w14 ⟨rfl, hb2⟩
  have hb := hb.trans hb2
  clear hb2
  go_wp2_with fail
  refine (H14.out _).mono ?_; rintro e w15 ⟨rfl, hb2⟩
  have hb := hb.trans hb2
  clear hb2
  go_wp2_with fail
  refine (lawShown _ (HE.out.bl hb)).mono ?_; rintro e w8 ⟨rfl, hb8⟩
  go_wp2_with fail
  go_ret
  exact RB.mk rfl (hb.trans hb8)
end Go.Proofs.YtfjdcfmoodlnaaaGreatDoor
