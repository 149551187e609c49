
/-
  The law's calls whose results are shown.
-/
import Derived.Test.YtfjdcfmoodlnaaaGreatDoorWoR
import Derived.Test.YtfjdcfmoodlnaaaGreatDoorWoQ
namespace Go.Proofs.YtfjdcfmoodlnaaaGreatDoor
open Go.RowKit
set_option linter.unusedSimpArgs false
set_option linter.unusedVariables false
set_option maxRecDepth 100000

abbrev shF : List Fld := [⟨[103, 101, 116], false⟩, ⟨[47], false⟩, ⟨[97, 32, 98], true⟩]
theorem shA : wsplit [103, 101, 116, 32, 47, 32, 34, 97, 32, 98, 34] = (shF, 0) := by kernel_rfl
theorem shB : wint [45, 49, 50] (-20) 20 = (-12, 0) := by decide +kernel
theorem shC : wlist [1, 2, 3, 5, 8, 9] = ([49, 45, 51, 44, 53, 44, 56, 45, 57], 0) := by
  have e : ∀ n : Nat, n < 10 → Lib.itoa (n : Int) = [UInt8.ofNat (48 + n)] := by
    intro n h
    unfold Lib.itoa
    rw [if_neg (by omega), Int.toNat_natCast, Lib.decDigits_one h]
  have i1 : Lib.itoa 1 = [49] := e 1 (by omega)
  have i3 : Lib.itoa 3 = [51] := e 3 (by omega)
  have i5 : Lib.itoa 5 = [53] := e 5 (by omega)
  have i8 : Lib.itoa 8 = [56] := e 8 (by omega)
  have i9 : Lib.itoa 9 = [57] := e 9 (by omega)
  unfold wlist
  rw [if_neg (by decide), if_neg (by decide), if_neg (by decide), if_neg (by decide)]
  rw [show runsL [1, 2, 3, 5, 8, 9] = [(1, 3), (5, 5), (8, 9)] from rfl]
  simp [txtG, runT, i1, i3, i5, i8, i9]
theorem shD : unqR [34, 97, 92, 110, 92, 120, 48, 48, 92, 34, 34] = ([97, 10, 0, 34], 0) := by kernel_rfl
theorem shE : nameB [119, 101, 98, 45, 49] = true := by kernel_rfl
theorem refSameN (n : Nat) (a b : Option Addr) (c d : Nat) (l : List Fld) (w : World) (ha : Flds w a l) (hb : Flds w b l) (hn : l.length = n) (hl : n ≤ 100000) : Calls Tryz.prog 18 #[.slice a n c, .slice b n d] w (RB w (.bool true)) := by
  subst hn; exact refSame a b c d l w ha hb hl
theorem flds_lit3 (w : World) : Flds (w.alloc (.cells #[.string ⟨#[103, 101, 116]⟩, .bool false, .string ⟨#[47]⟩, .bool false, .string ⟨#[97, 32, 98]⟩, .bool true] 47)) (some ⟨w.heap.size, 0, none⟩) shF := by
  refine ⟨fun _ => ⟨_, _, rfl, ?_⟩⟩
  intro i x hx
  match i, hx with
  | 0, hx => simp at hx; subst hx; simp [go_sem]
  | 1, hx => simp at hx; subst hx; simp [go_sem]
  | 2, hx => simp at hx; subst hx; simp [go_sem]
  | n + 3, hx => simp at hx
theorem nums_lit6 (w : World) : Nums (w.alloc (.cells #[.int .i64 1, .int .i64 2, .int .i64 3, .int .i64 5, .int .i64 8, .int .i64 9] 3)) (some ⟨w.heap.size, 0, none⟩) [1, 2, 3, 5, 8, 9] := by
  refine ⟨fun _ => ⟨_, _, rfl, ?_⟩⟩
  intro i x hx
  match i, hx with
  | 0, hx => simp at hx; subst hx; simp [go_sem]
  | 1, hx => simp at hx; subst hx; simp [go_sem]
  | 2, hx => simp at hx; subst hx; simp [go_sem]
  | 3, hx => simp at hx; subst hx; simp [go_sem]
  | 4, hx => simp at hx; subst hx; simp [go_sem]
  | 5, hx => simp at hx; subst hx; simp [go_sem]
  | n + 6, hx => simp at hx
set_option maxHeartbeats 4000000 in
theorem lawShown (w : World) (hE : WEnv w) : Calls Tryz.prog 6 #[] w (RB w (.bool true)) := by
  have h1 := fun w h => woSplit ⟨#[103, 101, 116, 32, 47, 32, 34, 97, 32, 98, 34]⟩ (by decide) w h
  rw [show (⟨#[103, 101, 116, 32, 47, 32, 34, 97, 32, 98, 34]⟩ : ByteArray).data.toList = [103, 101, 116, 32, 47, 32, 34, 97, 32, 98, 34] from rfl, shA] at h1
  have H1 := Lib.hid h1
  have h2 := fun w h => woInt ⟨#[45, 49, 50]⟩ (-20) 20 (by decide) w h
  rw [show (⟨#[45, 49, 50]⟩ : ByteArray).data.toList = [45, 49, 50] from rfl, shB] at h2
  have h3 := fun a c w h hn => woList a c [1, 2, 3, 5, 8, 9] w h hn (by intro j x hx; have := List.mem_of_getElem? hx; simp at this; omega) (by decide)
  rw [shC] at h3
  have h4 := fun w h => woUnquote ⟨#[34, 97, 92, 110, 92, 120, 48, 48, 92, 34, 34]⟩ (by decide) w h
  rw [show (⟨#[34, 97, 92, 110, 92, 120, 48, 48, 92, 34, 34]⟩ : ByteArray).data.toList = [34, 97, 92, 110, 92, 120, 48, 48, 92, 34, 34] from rfl, shD] at h4
  have h5 := fun w => woName ⟨#[119, 101, 98, 45, 49]⟩ (by decide) w
  rw [show (⟨#[119, 101, 98, 45, 49]⟩ : ByteArray).data.toList = [119, 101, 98, 45, 49] from rfl, shE] at h5
  have H2 := Lib.hid h2
  have H3 := Lib.hid h3
  have H4 := Lib.hid h4
  have H5 := Lib.hid h5
  have HE := Lib.hid hE
  clear h1 h2 h3 h4 h5 hE
  go_enter Tryz.func6, Tryz.ntmps6
  go_wp2_with fail
  refine (H1.out _ HE.out.esc).mono ?_; rintro e w1 ⟨v, rfl, hv, hb1⟩
  obtain ⟨vl, rfl, hv⟩ := hv
  obtain ⟨a, c, rfl, hF, -, -⟩ := hv
  have HF := Lib.hid hF
  clear hF
  go_wp2_with fail
  refine (H2.out _ (HE.out.bl hb1)).mono ?_; rintro e w2 ⟨rfl, hb2⟩
  have hbw2 : Bl w w2 := hb1.trans hb2
  have hF2 := HF.out.bl hb2
  have HF2 := Lib.hid hF2
  clear hF2
  go_wp2_with fail
  have hbw3 : Bl w (w2.alloc (.cells #[.int .i64 1, .int .i64 2, .int .i64 3, .int .i64 5, .int .i64 8, .int .i64 9] 3)) := (by repeat (first | assumption | exact Bl.refl _ | apply Bl.drewN | apply Bl.drew | apply Bl.alloc | (refine Bl.dr ?_ (by assumption)) | (refine Bl.trans ?_ (by assumption))))
  have hF3 := HF2.out.bl ((Bl.refl w2).alloc (.cells #[.int .i64 1, .int .i64 2, .int .i64 3, .int .i64 5, .int .i64 8, .int .i64 9] 3))
  refine (H3.out _ _ _ (HE.out.bl hbw3) (nums_lit6 w2)).mono ?_; rintro e w3 ⟨rfl, hb3⟩
  have hbw4 : Bl w w3 := hbw3.trans hb3
  have hF4 := hF3.bl hb3
  have HF4 := Lib.hid hF4
  clear hF3 hF4 hb3 hbw3
  go_wp2_with fail
  refine (H4.out _ (HE.out.bl hbw4).esc).mono ?_; rintro e w4 ⟨rfl, hb4⟩
  have hbw5 : Bl w w4 := hbw4.trans hb4
  have hF5 := HF4.out.bl hb4
  have HF5 := Lib.hid hF5
  clear hF5 hb4
  go_wp2_with fail
  have hF6 := HF5.out.bl ((Bl.refl w4).alloc (.cells #[.string ⟨#[103, 101, 116]⟩, .bool false, .string ⟨#[47]⟩, .bool false, .string ⟨#[97, 32, 98]⟩, .bool true] 47))
  refine (refSameN 3 _ _ _ _ shF _ hF6 (flds_lit3 w4) rfl (by omega)).mono ?_; rintro e w5 ⟨rfl, hb5⟩
  have hbw6 : Bl w w5 := (hbw5.alloc _).trans hb5
  clear hF6 hb5
  go_wp2_with fail
  refine (H5.out _).mono ?_; rintro e w6 ⟨rfl, hb6⟩
  go_wp2_with fail
  go_ret
  exact RB.mk rfl (hbw6.trans hb6)
end Go.Proofs.YtfjdcfmoodlnaaaGreatDoor
