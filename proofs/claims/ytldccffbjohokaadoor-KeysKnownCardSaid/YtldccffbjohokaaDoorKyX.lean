
/-
  The law KeysKnown, walked.
-/
import Derived.Test.YtldccffbjohokaaDoorKyW
import Derived.Test.YtldccffbjohokaaDoorKyG
import Derived.Test.YtldccffbjohokaaDoorMem
namespace Go.Proofs.YtldccffbjohokaaDoor
open Go.RowKit
set_option linter.unusedSimpArgs false
set_option linter.unusedVariables false
set_option maxRecDepth 100000

theorem Mem3.new (w : World) (a b c : Value) (e : TypeId) : Mem (w.alloc (.cells #[a, b, c] e)) [(⟨w.heap.size, 0, none⟩, a), (⟨w.heap.size, 1, none⟩, b), (⟨w.heap.size, 2, none⟩, c)] := by simp [Mem, go_sem]
def rep : Nat → ByteArray → ByteArray
  | 0, _ => mt
  | n + 1, c => rep n c ++ c
theorem rep_size (c : ByteArray) : ∀ n, (rep n c).size = n * c.size
  | 0 => by rw [rep, Nat.zero_mul]; rfl
  | n + 1 => by rw [rep, ByteArray.size_append, rep_size c n, Nat.add_mul]; omega
set_option maxHeartbeats 1000000 in
theorem lawTimes (c : ByteArray) (n : Nat) (w : World) (hc : c.size ≤ 1) (hn : n ≤ 100) :
    Calls Tryd.prog 40 #[.string c, .int .i64 n] w (RB w (.string (rep n c))) := by
  go_enter Tryd.func40, Tryd.ntmps40
  go_wp2_with fail
  go_loop [5, 6] (fun o i => ∃ k : Nat, k ≤ n ∧ i = .int .i64 k ∧ o = .string (rep k c)) (fun _ i => n - (intOf i).toNat)
  case atStart => exact ⟨0, by omega, rfl, rfl⟩
  case round =>
    obtain ⟨k, hk, rfl, rfl⟩ := hrel
    have hs := rep_size c k
    have hm : k * c.size ≤ 100 := by
      have := Nat.mul_le_mul (show k ≤ 100 by omega) hc; omega
    have hr : rep (k + 1) c = rep k c ++ c := rfl
    have HR := Lib.hid hr
    have h2 : (rep k c).size ≤ 100 := by omega
    clear hs hm hr
    obtain ⟨R, hR⟩ : ∃ R, rep k c = R := ⟨_, rfl⟩
    rw [hR] at h2 ⊢
    have HRR := Lib.hid hR
    clear hR
    have h3 : ¬ 9223372036854775807 < R.size + c.size := by omega
    by_cases h1 : k < n
    · go_wp2_with fail
      go_round
      case rel => exact ⟨k + 1, by omega, by go_num, by rw [HR.out, HRR.out]⟩
      case measure => simp [intOf]; omega
    · obtain rfl : k = n := by omega
      go_wp2_with fail
      go_ret
      exact RB.mk (by rw [HRR.out]; rfl) (by repeat (first | assumption | exact Bl.refl _ | apply Bl.drewN | apply Bl.drew | apply Bl.alloc | (refine Bl.dr ?_ (by assumption)) | (refine Bl.trans ?_ (by assumption))))
theorem kn1 : kcmp ⟨#[98]⟩ ⟨#[97, 98, 99]⟩ = (1, 0) := by kernel_rfl
theorem kn2 : kcmn ⟨#[97, 98, 99]⟩ ⟨#[97, 98, 100]⟩ = (2, 0) := by kernel_rfl
theorem kn3 : nxt (rep 32 ⟨#[97]⟩) = (rep 31 ⟨#[97]⟩ ++ ⟨#[98]⟩, 0) := by kernel_rfl
theorem kn4 : nxt (rep 31 ⟨#[97]⟩ ++ ⟨#[255]⟩) = (rep 30 ⟨#[97]⟩ ++ ⟨#[98]⟩, 0) := by kernel_rfl
theorem kn5 : nxt (rep 32 ⟨#[255]⟩) = (mt, 9) := by kernel_rfl
theorem kn6 : past ⟨#[97, 98]⟩ = (⟨#[97, 99]⟩, 0) := by kernel_rfl
theorem kn7 : past ⟨#[255]⟩ = (mt, 4) := by kernel_rfl
theorem kn8 : past mt = (mt, 4) := by kernel_rfl
theorem kn9 : betw ⟨#[97, 98]⟩ ⟨#[97, 98, 120, 121, 122]⟩ = (⟨#[97, 98, 0]⟩, 0) := by kernel_rfl
theorem kn10 : betw ⟨#[97]⟩ ⟨#[98]⟩ = (⟨#[98]⟩, 0) := by kernel_rfl
theorem kn11 : betw ⟨#[98]⟩ ⟨#[97]⟩ = (mt, 6) := by kernel_rfl
theorem kn12 : ofR ⟨#[97, 98]⟩ = (⟨⟨#[97, 98]⟩, ⟨#[97, 99]⟩, true⟩, 0) := by kernel_rfl
theorem kn13 : meet ⟨⟨#[97, 98]⟩, ⟨#[97, 99]⟩, true⟩ ⟨⟨#[97, 98, 99]⟩, mt, false⟩ = (⟨⟨#[97, 98, 99]⟩, ⟨#[97, 99]⟩, true⟩, 0) := by kernel_rfl
theorem kn14 : rd ⟨#[92, 120, 54, 49]⟩ = (mt, 6) := by kernel_rfl
theorem kn15 : rd ⟨#[92, 120, 67, 51]⟩ = (mt, 6) := by kernel_rfl
theorem kn16 : rd ⟨#[92]⟩ = (mt, 6) := by kernel_rfl

theorem s9 (s : ByteArray) (h : s.size ≤ 9) : s.size ≤ maxLen := Nat.le_trans h (by unfold maxLen; omega)

set_option maxHeartbeats 8000000 in
theorem lawKnown (w : World) (hT : Tabs w) : Calls Tryd.prog 10 #[] w (RB w (.bool true)) := by
  have HA := Lib.hid (fun w h => lawAwake w h)
  have HT := Lib.hid (fun W (h : Bl w W) => tabs_bl hT h)
  have hl : ∀ n, n ≤ 32 → ∀ x : UInt8, (rep n ⟨#[x]⟩).size = n := fun n h x => by
    rw [rep_size, show (⟨#[x]⟩ : ByteArray).size = 1 from rfl, Nat.mul_one]
  have h1 := fun w => keysCompare ⟨#[98]⟩ ⟨#[97, 98, 99]⟩ w (s9 _ (by decide)) (s9 _ (by decide))
  rw [kn1] at h1
  have h2 := fun w => keysCommonX ⟨#[97, 98, 99]⟩ ⟨#[97, 98, 100]⟩ w (s9 _ (by decide)) (s9 _ (by decide))
  rw [kn2] at h2
  have t1 := fun w => lawTimes ⟨#[97]⟩ 32 w (by decide) (by omega)
  have t2 := fun w => lawTimes ⟨#[97]⟩ 31 w (by decide) (by omega)
  have t3 := fun w => lawTimes ⟨#[97]⟩ 30 w (by decide) (by omega)
  have t4 := fun w => lawTimes ⟨#[255]⟩ 32 w (by decide) (by omega)
  have h3 := fun w => keysNext (rep 32 ⟨#[97]⟩) w (by rw [hl 32 (by omega)]; unfold maxLen; omega)
  rw [kn3] at h3
  have h4 := fun w => keysNext (rep 31 ⟨#[97]⟩ ++ ⟨#[255]⟩) w (by rw [ByteArray.size_append, hl 31 (by omega)]; unfold maxLen; decide)
  rw [kn4] at h4
  have h5 := fun w => keysNext (rep 32 ⟨#[255]⟩) w (by rw [hl 32 (by omega)]; unfold maxLen; omega)
  rw [kn5] at h5
  have h6 := fun w => keysPast ⟨#[97, 98]⟩ w (s9 _ (by decide))
  rw [kn6] at h6
  have h7 := fun w => keysPast ⟨#[255]⟩ w (s9 _ (by decide))
  rw [kn7] at h7
  have h8 := fun w => keysPast mt w (s9 _ (by decide))
  rw [kn8] at h8
  have h9 := fun w => keysBetween ⟨#[97, 98]⟩ ⟨#[97, 98, 120, 121, 122]⟩ w (s9 _ (by decide)) (s9 _ (by decide))
  rw [kn9] at h9
  have h10 := fun w => keysBetween ⟨#[97]⟩ ⟨#[98]⟩ w (s9 _ (by decide)) (s9 _ (by decide))
  rw [kn10] at h10
  have h11 := fun w => keysBetween ⟨#[98]⟩ ⟨#[97]⟩ w (s9 _ (by decide)) (s9 _ (by decide))
  rw [kn11] at h11
  have h12 := fun w => keysOf ⟨#[97, 98]⟩ w (s9 _ (by decide))
  rw [kn12] at h12
  have h13 := fun w => keysMeet ⟨⟨#[97, 98]⟩, ⟨#[97, 99]⟩, true⟩ ⟨⟨#[97, 98, 99]⟩, mt, false⟩ w ⟨s9 _ (by decide), s9 _ (by decide)⟩ ⟨s9 _ (by decide), s9 _ (by decide)⟩
  rw [kn13] at h13
  have h14 := fun w h => keysRead ⟨#[92, 120, 54, 49]⟩ w (s9 _ (by decide)) h
  rw [kn14] at h14
  have h15 := fun w h => keysRead ⟨#[92, 120, 67, 51]⟩ w (s9 _ (by decide)) h
  rw [kn15] at h15
  have h16 := fun w h => keysRead ⟨#[92]⟩ w (s9 _ (by decide)) h
  rw [kn16] at h16
  simp only [Rng.v] at h12 h13
  have l1 : (rep 31 ⟨#[97]⟩).size ≤ 31 := by rw [hl 31 (by omega)]; omega
  have l2 : (rep 30 ⟨#[97]⟩).size ≤ 30 := by rw [hl 30 (by omega)]; omega
  generalize rep 32 ⟨#[97]⟩ = A32 at *
  generalize rep 31 ⟨#[97]⟩ = A31 at *
  generalize rep 30 ⟨#[97]⟩ = A30 at *
  generalize rep 32 ⟨#[255]⟩ = F32 at *
  have H1 := Lib.hid h1
  have H2 := Lib.hid h2
  have H3 := Lib.hid h3
  have H4 := Lib.hid h4
  have H5 := Lib.hid h5
  have H6 := Lib.hid h6
  have H7 := Lib.hid h7
  have H8 := Lib.hid h8
  have H9 := Lib.hid h9
  have H10 := Lib.hid h10
  have H11 := Lib.hid h11
  have H12 := Lib.hid h12
  have H13 := Lib.hid h13
  have H14 := Lib.hid h14
  have H15 := Lib.hid h15
  have H16 := Lib.hid h16
  have T1 := Lib.hid t1
  have T2 := Lib.hid t2
  have T3 := Lib.hid t3
  have T4 := Lib.hid t4
  have u1 : ∀ s : ByteArray, (s.toList == s.toList) = true := fun s => by simp
  have m1 : ¬ 9223372036854775807 < A31.size + 1 := by omega
  have m2 : ¬ 9223372036854775807 < A30.size + 1 := by omega
  clear h1 h2 h3 h4 h5 h6 h7 h8 h9 h10 h11 h12 h13 h14 h15 h16 t1 t2 t3 t4 hl hT
  have hb : Bl w w := Bl.refl w
  go_enter Tryd.func10, Tryd.ntmps10
  go_wp2_with fail
  refine (H1.out _).mono ?_; rintro e w1 ⟨rfl, hb1⟩
  have hbn := Bl.trans hb hb1
  clear hb hb1
  have hb := hbn
  clear hbn
  go_wp2_with fail
  refine (H2.out _).mono ?_; rintro e w2 ⟨rfl, hb1⟩
  have hbn := Bl.trans hb hb1
  clear hb hb1
  have hb := hbn
  clear hbn
  go_wp2_with fail
  refine (T1.out _).mono ?_; rintro e w3 ⟨rfl, hb1⟩
  have hbn := Bl.trans hb hb1
  clear hb hb1
  have hb := hbn
  clear hbn
  go_wp2_with fail
  refine (H3.out _).mono ?_; rintro e w4 ⟨rfl, hb1⟩
  have hbn := Bl.trans hb hb1
  clear hb hb1
  have hb := hbn
  clear hbn
  go_wp2_with fail
  refine (T2.out _).mono ?_; rintro e w5 ⟨rfl, hb1⟩
  have hbn := Bl.trans hb hb1
  clear hb hb1
  have hb := hbn
  clear hbn
  go_wp2_with fail
  refine (H4.out _).mono ?_; rintro e w6 ⟨rfl, hb1⟩
  have hbn := Bl.trans hb hb1
  clear hb hb1
  have hb := hbn
  clear hbn
  go_wp2_with fail
  refine (T4.out _).mono ?_; rintro e w7 ⟨rfl, hb1⟩
  have hbn := Bl.trans hb hb1
  clear hb hb1
  have hb := hbn
  clear hbn
  go_wp2_with fail
  refine (H5.out _).mono ?_; rintro e w8 ⟨rfl, hb1⟩
  have hbn := Bl.trans hb hb1
  clear hb hb1
  have hb := hbn
  clear hbn
  go_wp2_with fail
  refine (H6.out _).mono ?_; rintro e w9 ⟨rfl, hb1⟩
  have hbn := Bl.trans hb hb1
  clear hb hb1
  have hb := hbn
  clear hbn
  go_wp2_with fail
  refine (H7.out _).mono ?_; rintro e w10 ⟨rfl, hb1⟩
  have hbn := Bl.trans hb hb1
  clear hb hb1
  have hb := hbn
  clear hbn
  go_wp2_with fail
  refine (H8.out _).mono ?_; rintro e w11 ⟨rfl, hb1⟩
  have hbn := Bl.trans hb hb1
  clear hb hb1
  have hb := hbn
  clear hbn
  go_wp2_with fail
  refine (T2.out _).mono ?_; rintro e w12 ⟨rfl, hb1⟩
  have hbn := Bl.trans hb hb1
  clear hb hb1
  have hb := hbn
  clear hbn
  go_wp2_with fail
  refine (T3.out _).mono ?_; rintro e w13 ⟨rfl, hb1⟩
  have hbn := Bl.trans hb hb1
  clear hb hb1
  have hb := hbn
  clear hbn
  go_wp2_with fail
  refine (H9.out _).mono ?_; rintro e w14 ⟨rfl, hb1⟩
  have hbn := Bl.trans hb hb1
  clear hb hb1
  have hb := hbn
  clear hbn
  go_wp2_with fail
  refine (H10.out _).mono ?_; rintro e w15 ⟨rfl, hb1⟩
  have hbn := Bl.trans hb hb1
  clear hb hb1
  have hb := hbn
  clear hbn
  go_wp2_with fail
  refine (H11.out _).mono ?_; rintro e w16 ⟨rfl, hb1⟩
  have hbn := Bl.trans hb hb1
  clear hb hb1
  have hb := hbn
  clear hbn
  go_wp2_with fail
  refine (H12.out _).mono ?_; rintro e w17 ⟨rfl, hb1⟩
  have hbn := Bl.trans hb hb1
  clear hb hb1
  have hb := hbn
  clear hbn
  have hm := Mem3.new w17 (.string ⟨#[97, 98]⟩) (.string ⟨#[97, 99]⟩) (.bool true) 34
  go_wp2_with fail
  refine (H13.out _).mono ?_; rintro e w18 ⟨rfl, hb1⟩
  have hm := hm.bl hb1
  have hbn := (hb.alloc _).trans hb1
  clear hb hb1
  have hb := hbn
  clear hbn
  have hal := (Bl.refl w18).alloc (Obj.cells #[.string ⟨#[97, 98, 99]⟩, .string ⟨#[97, 99]⟩, .bool true] 34)
  have hm := (hm.bl hal).app (Mem3.new w18 (.string ⟨#[97, 98, 99]⟩) (.string ⟨#[97, 99]⟩) (.bool true) 34)
  have hbn := hb.trans hal
  clear hb
  have hb := hbn
  clear hbn hal
  have HM := Lib.hid hm
  clear hm
  go_wp2_with fail
  refine (H14.out _ (HT.out _ hb)).mono ?_; rintro e w19 ⟨rfl, hb1⟩
  have HM2 := Lib.hid (HM.out.bl hb1)
  have hbn := hb.trans hb1
  clear hb hb1 HM
  have hb := hbn
  clear hbn
  go_wp2_with fail
  refine (H15.out _ (HT.out _ hb)).mono ?_; rintro e w20 ⟨rfl, hb1⟩
  have HM3 := Lib.hid (HM2.out.bl hb1)
  have hbn := hb.trans hb1
  clear hb hb1 HM2
  have hb := hbn
  clear hbn
  go_wp2_with fail
  refine (H16.out _ (HT.out _ hb)).mono ?_; rintro e w21 ⟨rfl, hb1⟩
  have hm := HM3.out.bl hb1
  have hbn := hb.trans hb1
  clear hb hb1 HM3
  have hb := hbn
  clear hbn
  simp only [Mem, List.cons_append, List.nil_append, and_true] at hm
  go_wp2_with fail
  refine (HA.out _ (HT.out _ hb)).mono ?_; rintro e w22 ⟨rfl, hb1⟩
  have hb := hb.trans hb1
  go_wp2_with fail
  go_ret
  exact RB.mk rfl hb
end Go.Proofs.YtldccffbjohokaaDoor
