/-
  The laws KeysNexts and KeysOrders, walked.
-/
import Derived.Test.YtldccffbjohokaaDoorKyD
namespace Go.Proofs.YtldccffbjohokaaDoor
open Go.RowKit
set_option linter.unusedSimpArgs false
set_option linter.unusedVariables false


set_option maxRecDepth 100000 in
set_option maxHeartbeats 4000000 in
theorem lawNexts (a b : ByteArray) (w : World) (ha : a.size ≤ maxLen) (hb : b.size ≤ maxLen) (hT : Tabs w) :
    Calls Tryd.prog 3 #[.string a, .string b] w (RB w (.bool true)) := by
  have HA := Lib.hid (fun w h => lawAwake w h)
  have HT := Lib.hid (fun W (h : Bl w W) => tabs_bl hT h)
  have h0 := fun w => lawFar a w ha
  have h0' := fun w => lawFar b w hb
  have h1 := fun w => keysNext a w ha
  have h2 := fun w => refNext a w ha
  have h3 := fun w => keysPast a w ha
  have h4 := fun w => refPast a w ha
  have h5 := fun w => keysBetween a b w ha hb
  have h6 := fun w => refBetween a b w ha hb
  generalize (nxt a).1 = v1 at *
  generalize (nxt a).2 = v2 at *
  generalize (past a).1 = v3 at *
  generalize (past a).2 = v4 at *
  generalize (betw a b).1 = v5 at *
  generalize (betw a b).2 = v6 at *
  have k1 : (v1.toList == v1.toList) = true := by simp
  have k2 : (v2 == v2) = true := by simp
  have k3 : (v3.toList == v3.toList) = true := by simp
  have k4 : (v4 == v4) = true := by simp
  have k5 : (v5.toList == v5.toList) = true := by simp
  have k6 : (v6 == v6) = true := by simp
  generalize decide (200 < a.size) = f1 at *
  generalize decide (200 < b.size) = f2 at *
  have H0 := Lib.hid h0
  have H0' := Lib.hid h0'
  have H1 := Lib.hid h1
  have H2 := Lib.hid h2
  have H3 := Lib.hid h3
  have H4 := Lib.hid h4
  have H5 := Lib.hid h5
  have H6 := Lib.hid h6
  clear h0 h0' h1 h2 h3 h4 h5 h6 hT
  go_enter Tryd.func3, Tryd.ntmps3
  go_wp2_with fail
  refine (H0.out _).mono ?_; rintro e w1 ⟨rfl, hdf⟩
  have hb : Bl w w1 := (by repeat (first | assumption | exact Bl.refl _ | apply Bl.drewN | apply Bl.drew | apply Bl.alloc | (refine Bl.dr ?_ (by assumption)) | (refine Bl.trans ?_ (by assumption))))
  clear hdf
  cases f1
  · go_wp2_with fail
    refine (H0'.out _).mono ?_; rintro e w2 ⟨rfl, hdf⟩
    have hb : Bl w w2 := (by repeat (first | assumption | exact Bl.refl _ | apply Bl.drewN | apply Bl.drew | apply Bl.alloc | (refine Bl.dr ?_ (by assumption)) | (refine Bl.trans ?_ (by assumption))))
    clear hdf
    cases f2
    · go_wp2_with fail
      refine (H1.out _).mono ?_; rintro e w3 ⟨rfl, hbf⟩
      have hb : Bl w w3 := Bl.trans hb hbf
      clear hbf
      go_wp2_with fail
      refine (H2.out _).mono ?_; rintro e w4 ⟨rfl, hbf⟩
      have hb : Bl w w4 := Bl.trans hb hbf
      clear hbf
      go_wp2_with fail
      refine (H3.out _).mono ?_; rintro e w5 ⟨rfl, hbf⟩
      have hb : Bl w w5 := Bl.trans hb hbf
      clear hbf
      go_wp2_with fail
      refine (H4.out _).mono ?_; rintro e w6 ⟨rfl, hbf⟩
      have hb : Bl w w6 := Bl.trans hb hbf
      clear hbf
      go_wp2_with fail
      refine (H5.out _).mono ?_; rintro e w7 ⟨rfl, hbf⟩
      have hb : Bl w w7 := Bl.trans hb hbf
      clear hbf
      go_wp2_with fail
      refine (H6.out _).mono ?_; rintro e w9 ⟨rfl, hbf⟩
      have hb : Bl w w9 := Bl.trans hb hbf
      clear hbf
      go_wp2_with fail
      refine (HA.out _ (HT.out _ (by repeat (first | assumption | exact Bl.refl _ | apply Bl.drewN | apply Bl.drew | apply Bl.alloc | (refine Bl.dr ?_ (by assumption)) | (refine Bl.trans ?_ (by assumption)))))).mono ?_; rintro e w8 ⟨rfl, hb8⟩
      go_wp2_with fail
      go_ret
      exact RB.mk rfl (by repeat (first | assumption | exact Bl.refl _ | apply Bl.drewN | apply Bl.drew | apply Bl.alloc | (refine Bl.dr ?_ (by assumption)) | (refine Bl.trans ?_ (by assumption))))
    · go_wp2_with fail
      refine (HA.out _ (HT.out _ (by repeat (first | assumption | exact Bl.refl _ | apply Bl.drewN | apply Bl.drew | apply Bl.alloc | (refine Bl.dr ?_ (by assumption)) | (refine Bl.trans ?_ (by assumption)))))).mono ?_; rintro e w8 ⟨rfl, hb8⟩
      go_wp2_with fail
      go_ret
      exact RB.mk rfl (by repeat (first | assumption | exact Bl.refl _ | apply Bl.drewN | apply Bl.drew | apply Bl.alloc | (refine Bl.dr ?_ (by assumption)) | (refine Bl.trans ?_ (by assumption))))
  · go_wp2_with fail
    refine (HA.out _ (HT.out _ (by repeat (first | assumption | exact Bl.refl _ | apply Bl.drewN | apply Bl.drew | apply Bl.alloc | (refine Bl.dr ?_ (by assumption)) | (refine Bl.trans ?_ (by assumption)))))).mono ?_; rintro e w8 ⟨rfl, hb8⟩
    go_wp2_with fail
    go_ret
    exact RB.mk rfl (by repeat (first | assumption | exact Bl.refl _ | apply Bl.drewN | apply Bl.drew | apply Bl.alloc | (refine Bl.dr ?_ (by assumption)) | (refine Bl.trans ?_ (by assumption))))

set_option maxRecDepth 100000 in
set_option maxHeartbeats 4000000 in
theorem lawOrders (a b : ByteArray) (w : World) (ha : a.size ≤ maxLen) (hb : b.size ≤ maxLen) (hT : Tabs w) :
    Calls Tryd.prog 4 #[.string a, .string b] w (RB w (.bool true)) := by
  have HA := Lib.hid (fun w h => lawAwake w h)
  have HT := Lib.hid (fun W (h : Bl w W) => tabs_bl hT h)
  have h0 := fun w => lawFar a w ha
  have h0' := fun w => lawFar b w hb
  have h1 := fun w => keysCompare a b w ha hb
  have h2 := fun w => refCompare a b w ha hb
  have h3 := fun w => keysCommonX a b w ha hb
  have h4 := fun w => refCommonX a b w ha hb
  have h5 := fun w => keysCheck a w ha
  have h6 := fun w => refCheck a w ha
  generalize (kcmp a b).1 = v1 at *
  generalize (kcmp a b).2 = v2 at *
  generalize (kcmn a b).1 = v3 at *
  generalize (kcmn a b).2 = v4 at *
  generalize kchk a = v5 at *
  have k1 : (v1 == v1) = true := by simp
  have k2 : (v2 == v2) = true := by simp
  have k3 : (v3 == v3) = true := by simp
  have k4 : (v4 == v4) = true := by simp
  have k5 : (v5 == v5) = true := by simp
  generalize decide (200 < a.size) = f1 at *
  generalize decide (200 < b.size) = f2 at *
  have H0 := Lib.hid h0
  have H0' := Lib.hid h0'
  have H1 := Lib.hid h1
  have H2 := Lib.hid h2
  have H3 := Lib.hid h3
  have H4 := Lib.hid h4
  have H5 := Lib.hid h5
  have H6 := Lib.hid h6
  clear h0 h0' h1 h2 h3 h4 h5 h6 hT
  go_enter Tryd.func4, Tryd.ntmps4
  go_wp2_with fail
  refine (H0.out _).mono ?_; rintro e w1 ⟨rfl, hdf⟩
  have hb : Bl w w1 := (by repeat (first | assumption | exact Bl.refl _ | apply Bl.drewN | apply Bl.drew | apply Bl.alloc | (refine Bl.dr ?_ (by assumption)) | (refine Bl.trans ?_ (by assumption))))
  clear hdf
  cases f1
  · go_wp2_with fail
    refine (H0'.out _).mono ?_; rintro e w2 ⟨rfl, hdf⟩
    have hb : Bl w w2 := (by repeat (first | assumption | exact Bl.refl _ | apply Bl.drewN | apply Bl.drew | apply Bl.alloc | (refine Bl.dr ?_ (by assumption)) | (refine Bl.trans ?_ (by assumption))))
    clear hdf
    cases f2
    · go_wp2_with fail
      refine (H1.out _).mono ?_; rintro e w3 ⟨rfl, hbf⟩
      have hb : Bl w w3 := Bl.trans hb hbf
      clear hbf
      go_wp2_with fail
      refine (H2.out _).mono ?_; rintro e w4 ⟨rfl, hbf⟩
      have hb : Bl w w4 := Bl.trans hb hbf
      clear hbf
      go_wp2_with fail
      refine (H3.out _).mono ?_; rintro e w5 ⟨rfl, hbf⟩
      have hb : Bl w w5 := Bl.trans hb hbf
      clear hbf
      go_wp2_with fail
      refine (H4.out _).mono ?_; rintro e w6 ⟨rfl, hbf⟩
      have hb : Bl w w6 := Bl.trans hb hbf
      clear hbf
      go_wp2_with fail
      refine (H5.out _).mono ?_; rintro e w7 ⟨rfl, hdf⟩
      have hb : Bl w w7 := (by repeat (first | assumption | exact Bl.refl _ | apply Bl.drewN | apply Bl.drew | apply Bl.alloc | (refine Bl.dr ?_ (by assumption)) | (refine Bl.trans ?_ (by assumption))))
      clear hdf
      go_wp2_with fail
      refine (H6.out _).mono ?_; rintro e w9 ⟨rfl, hdf⟩
      have hb : Bl w w9 := (by repeat (first | assumption | exact Bl.refl _ | apply Bl.drewN | apply Bl.drew | apply Bl.alloc | (refine Bl.dr ?_ (by assumption)) | (refine Bl.trans ?_ (by assumption))))
      clear hdf
      go_wp2_with fail
      refine (HA.out _ (HT.out _ (by repeat (first | assumption | exact Bl.refl _ | apply Bl.drewN | apply Bl.drew | apply Bl.alloc | (refine Bl.dr ?_ (by assumption)) | (refine Bl.trans ?_ (by assumption)))))).mono ?_; rintro e w8 ⟨rfl, hb8⟩
      go_wp2_with fail
      go_ret
      exact RB.mk rfl (by repeat (first | assumption | exact Bl.refl _ | apply Bl.drewN | apply Bl.drew | apply Bl.alloc | (refine Bl.dr ?_ (by assumption)) | (refine Bl.trans ?_ (by assumption))))
    · go_wp2_with fail
      refine (HA.out _ (HT.out _ (by repeat (first | assumption | exact Bl.refl _ | apply Bl.drewN | apply Bl.drew | apply Bl.alloc | (refine Bl.dr ?_ (by assumption)) | (refine Bl.trans ?_ (by assumption)))))).mono ?_; rintro e w8 ⟨rfl, hb8⟩
      go_wp2_with fail
      go_ret
      exact RB.mk rfl (by repeat (first | assumption | exact Bl.refl _ | apply Bl.drewN | apply Bl.drew | apply Bl.alloc | (refine Bl.dr ?_ (by assumption)) | (refine Bl.trans ?_ (by assumption))))
  · go_wp2_with fail
    refine (HA.out _ (HT.out _ (by repeat (first | assumption | exact Bl.refl _ | apply Bl.drewN | apply Bl.drew | apply Bl.alloc | (refine Bl.dr ?_ (by assumption)) | (refine Bl.trans ?_ (by assumption)))))).mono ?_; rintro e w8 ⟨rfl, hb8⟩
    go_wp2_with fail
    go_ret
    exact RB.mk rfl (by repeat (first | assumption | exact Bl.refl _ | apply Bl.drewN | apply Bl.drew | apply Bl.alloc | (refine Bl.dr ?_ (by assumption)) | (refine Bl.trans ?_ (by assumption))))
end Go.Proofs.YtldccffbjohokaaDoor
