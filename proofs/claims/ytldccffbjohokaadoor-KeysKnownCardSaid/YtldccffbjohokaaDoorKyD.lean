
/-
  Contracts of Show (both), far, less, awake.
-/
import Derived.Test.YtldccffbjohokaaDoorKyC
namespace Go.Proofs.YtldccffbjohokaaDoor
open Go.RowKit
set_option linter.unusedSimpArgs false
set_option linter.unusedVariables false
set_option maxRecDepth 100000

/-- The tables of unicode/utf8 lie as laid. -/
abbrev Tabs (w : World) : Prop := Lib.Utf8Tabs 1 2 w
theorem tabs_bl {w w' : World} (hT : Tabs w) (h : Bl w w') : Tabs w' := ⟨fun c hc => h.cell (hT.1 c hc), fun i hi => ⟨h.cell (hT.2 i hi).1, h.cell (hT.2 i hi).2⟩⟩
def showS (s : ByteArray) : ByteArray := ⟨(showL s).toArray⟩
def kshow (s : ByteArray) : ByteArray × Int := if 32 < s.size then (mt, 3) else (showS s, 0)


set_option maxHeartbeats 1000000 in
theorem keysShow (s : ByteArray) (w : World) (hs : s.size ≤ maxLen) (hT : Tabs w) :
    Calls Tryd.prog 26 #[.string s] w (RB w (.tuple #[.string (kshow s).1, .int .i64 (kshow s).2])) := by
  have hk := fun w => keysCheck s w hs
  unfold kchk at hk
  unfold kshow
  by_cases h1 : 32 < s.size
  · rw [if_pos h1] at hk ⊢
    have Hk := Lib.hid hk
    clear hk
    go_enter Tryd.func26, Tryd.ntmps26
    go_wp2_with fail
    refine (Hk.out _).mono ?_; rintro e w1 ⟨rfl, hd⟩
    go_wp2_with fail
    go_ret2
    exact rb_tuple rfl rfl (by repeat (first | assumption | exact Bl.refl _ | apply Bl.drewN | apply Bl.drew | apply Bl.alloc | (refine Bl.dr ?_ (by assumption)) | (refine Bl.trans ?_ (by assumption))))
  · rw [if_neg h1] at hk ⊢
    have Hk := Lib.hid hk
    have HS := Lib.hid (fun w => keysShowIn s w (by omega))
    clear hk
    go_enter Tryd.func26, Tryd.ntmps26
    go_wp2_with fail
    refine (Hk.out _).mono ?_; rintro e w1 ⟨rfl, hd⟩
    go_wp2_with fail
    refine (HS.out _ (tabs_bl hT (.of_dr hd))).mono ?_; rintro e w2 ⟨rfl, hb⟩
    go_wp2_with fail
    go_ret2
    exact rb_tuple rfl rfl (by repeat (first | assumption | exact Bl.refl _ | apply Bl.drewN | apply Bl.drew | apply Bl.alloc | (refine Bl.dr ?_ (by assumption)) | (refine Bl.trans ?_ (by assumption))))
set_option maxHeartbeats 1000000 in
theorem refShow (s : ByteArray) (w : World) (hs : s.size ≤ maxLen) :
    Calls Tryd.prog 27 #[.string s] w (RB w (.tuple #[.string (kshow s).1, .int .i64 (kshow s).2])) := by
  have hk := fun w => refCheck s w hs
  unfold kchk at hk
  unfold kshow
  by_cases h1 : 32 < s.size
  · rw [if_pos h1] at hk ⊢
    have Hk := Lib.hid hk
    clear hk
    go_enter Tryd.func27, Tryd.ntmps27
    go_wp2_with fail
    refine (Hk.out _).mono ?_; rintro e w1 ⟨rfl, hd⟩
    go_wp2_with fail
    go_ret2
    exact rb_tuple rfl rfl (by repeat (first | assumption | exact Bl.refl _ | apply Bl.drewN | apply Bl.drew | apply Bl.alloc | (refine Bl.dr ?_ (by assumption)) | (refine Bl.trans ?_ (by assumption))))
  · rw [if_neg h1] at hk ⊢
    have Hk := Lib.hid hk
    have HS := Lib.hid (fun w => refText s w (by omega))
    clear hk
    go_enter Tryd.func27, Tryd.ntmps27
    go_wp2_with fail
    refine (Hk.out _).mono ?_; rintro e w1 ⟨rfl, hd⟩
    go_wp2_with fail
    refine (HS.out _).mono ?_; rintro e w2 ⟨rfl, hb⟩
    go_wp2_with fail
    go_ret2
    exact rb_tuple rfl rfl (by repeat (first | assumption | exact Bl.refl _ | apply Bl.drewN | apply Bl.drew | apply Bl.alloc | (refine Bl.dr ?_ (by assumption)) | (refine Bl.trans ?_ (by assumption))))

theorem lawFar (s : ByteArray) (w : World) (hs : s.size ≤ maxLen) : Calls Tryd.prog 11 #[.string s] w (RD w (.bool (decide (200 < s.size)))) := by
  unfold maxLen at hs
  by_cases h : 200 < s.size
  · have k : (200 : Int) < (s.size : Int) := by omega
    have e : decide (200 < s.size) = true := by simpa using h
    rw [e]
    go_enter Tryd.func11, Tryd.ntmps11
    go_wp2_with fail
    go_ret
    exact RD.mk (bval (by simp)) (by repeat (first | assumption | exact Dr.refl _ | apply Dr.drewN | apply Dr.drew | (refine Dr.trans ?_ (by assumption))))
  · have k : ¬ (200 : Int) < (s.size : Int) := by omega
    have e : decide (200 < s.size) = false := by simpa using h
    rw [e]
    go_enter Tryd.func11, Tryd.ntmps11
    go_wp2_with fail
    go_ret
    exact RD.mk (bval (by simp)) (by repeat (first | assumption | exact Dr.refl _ | apply Dr.drewN | apply Dr.drew | (refine Dr.trans ?_ (by assumption))))
def lessB (a b : ByteArray) : Bool := decide ((kcmp a b).2 = 0) && decide ((kcmp a b).1 < 0)
set_option maxHeartbeats 1000000 in
theorem lawLess (a b : ByteArray) (w : World) (ha : a.size ≤ maxLen) (hb : b.size ≤ maxLen) : Calls Tryd.prog 25 #[.string a, .string b] w (RB w (.bool (lessB a b))) := by
  have hc := fun w => keysCompare a b w ha hb
  unfold lessB
  generalize (kcmp a b).1 = p at *
  generalize (kcmp a b).2 = q at *
  have HC := Lib.hid hc
  clear hc
  by_cases h : q = 0
  · have e : (q == 0) = true := by simp [h]
    have H := Lib.hid h
    clear h
    go_enter Tryd.func25, Tryd.ntmps25
    go_wp2_with fail
    refine (HC.out _).mono ?_; rintro e w1 ⟨rfl, hb⟩
    go_wp2_with fail
    go_ret
    exact RB.mk (bval (by rw [H.out]; simp)) (by repeat (first | assumption | exact Bl.refl _ | apply Bl.drewN | apply Bl.drew | apply Bl.alloc | (refine Bl.dr ?_ (by assumption)) | (refine Bl.trans ?_ (by assumption))))
  · have e : (q == 0) = false := by simp [h]
    have H := Lib.hid h
    clear h
    go_enter Tryd.func25, Tryd.ntmps25
    go_wp2_with fail
    refine (HC.out _).mono ?_; rintro e w1 ⟨rfl, hb⟩
    go_wp2_with fail
    go_ret
    exact RB.mk (bval (by simp [H.out])) (by repeat (first | assumption | exact Bl.refl _ | apply Bl.drewN | apply Bl.drew | apply Bl.alloc | (refine Bl.dr ?_ (by assumption)) | (refine Bl.trans ?_ (by assumption))))

theorem ev_cmp : kcmp ⟨#[97, 98]⟩ ⟨#[97, 98, 99]⟩ = (-1, 0) := by kernel_rfl
theorem ev_bet : betw ⟨#[97, 98, 99]⟩ ⟨#[97, 98, 120, 121, 122]⟩ = (⟨#[97, 98, 100]⟩, 0) := by kernel_rfl
theorem ev_past : past ⟨#[97, 255]⟩ = (⟨#[98]⟩, 0) := by kernel_rfl
theorem ev_show : kshow ⟨#[195, 169, 195, 92, 10]⟩ = (⟨#[195, 169, 92, 120, 99, 51, 92, 92, 92, 120, 48, 97]⟩, 0) := by kernel_rfl
theorem ev_next : nxt ⟨#[97, 98]⟩ = (⟨#[97, 98, 0]⟩, 0) := by kernel_rfl
theorem ksm {n : Nat} (s : ByteArray) (h : s.size ≤ n) (hn : n ≤ 1000) : s.size ≤ maxLen := Nat.le_trans h (by unfold maxLen; omega)

set_option maxRecDepth 100000 in
set_option maxHeartbeats 2000000 in
theorem lawAwake (w : World) (hT : Tabs w) : Calls Tryd.prog 12 #[] w (RB w (.bool true)) := by
  have h1 := fun w => keysCompare ⟨#[97, 98]⟩ ⟨#[97, 98, 99]⟩ w (ksm (n := 9) _ (by decide) (by omega)) (ksm (n := 9) _ (by decide) (by omega))
  have h2 := fun w => keysBetween ⟨#[97, 98, 99]⟩ ⟨#[97, 98, 120, 121, 122]⟩ w (ksm (n := 9) _ (by decide) (by omega)) (ksm (n := 9) _ (by decide) (by omega))
  have h3 := fun w => keysPast ⟨#[97, 255]⟩ w (ksm (n := 9) _ (by decide) (by omega))
  have h4 := fun w => keysShow ⟨#[195, 169, 195, 92, 10]⟩ w (ksm (n := 9) _ (by decide) (by omega))
  have h5 := fun w => keysNext ⟨#[97, 98]⟩ w (ksm (n := 9) _ (by decide) (by omega))
  rw [ev_cmp] at h1
  rw [ev_bet] at h2
  rw [ev_past] at h3
  rw [ev_show] at h4
  rw [ev_next] at h5
  have H1 := Lib.hid h1
  have H2 := Lib.hid h2
  have H3 := Lib.hid h3
  have H4 := Lib.hid h4
  have H5 := Lib.hid h5
  have HT := Lib.hid (fun W (h : Bl w W) => tabs_bl hT h)
  clear h1 h2 h3 h4 h5 hT
  go_enter Tryd.func12, Tryd.ntmps12
  go_wp2_with fail
  refine (H1.out _).mono ?_; rintro e w1 ⟨rfl, hb1⟩
  go_wp2_with fail
  refine (H2.out _).mono ?_; rintro e w2 ⟨rfl, hb2⟩
  go_wp2_with fail
  refine (H3.out _).mono ?_; rintro e w3 ⟨rfl, hb3⟩
  go_wp2_with fail
  refine (H4.out _ (HT.out _ (by repeat (first | assumption | exact Bl.refl _ | apply Bl.drewN | apply Bl.drew | apply Bl.alloc | (refine Bl.dr ?_ (by assumption)) | (refine Bl.trans ?_ (by assumption)))))).mono ?_; rintro e w4 ⟨rfl, hb4⟩
  go_wp2_with fail
  refine (H5.out _).mono ?_; rintro e w5 ⟨rfl, hb5⟩
  go_wp2_with fail
  go_ret
  exact RB.mk rfl (by repeat (first | assumption | exact Bl.refl _ | apply Bl.drewN | apply Bl.drew | apply Bl.alloc | (refine Bl.dr ?_ (by assumption)) | (refine Bl.trans ?_ (by assumption))))
end Go.Proofs.YtldccffbjohokaaDoor
