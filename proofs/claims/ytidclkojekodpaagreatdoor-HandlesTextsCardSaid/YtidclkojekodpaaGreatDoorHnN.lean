
/-
  The law's own shown: the calls that the document's examples make.
-/
import Derived.Test.YtidclkojekodpaaGreatDoorHnH
import Derived.Test.YtidclkojekodpaaGreatDoorHnB
import Derived.Test.YtidclkojekodpaaGreatDoorHnM
namespace Go.Proofs.YtidclkojekodpaaGreatDoor
open Go.RowKit
set_option linter.unusedSimpArgs false
set_option linter.unusedVariables false
set_option maxRecDepth 100000

def T0 : Tb := ⟨3, [⟨1, true⟩, ⟨1, false⟩, ⟨1, true⟩]⟩
def T1 : Tb := ⟨3, [⟨1, true⟩, ⟨2, true⟩, ⟨1, true⟩]⟩
theorem t0_give : tgive T0 = (T1, (2, 2), 0) := by rfl
theorem t1_give : tgive T1 = (tnil, (0, 0), 5) := by rfl
theorem t0_l1 : tlook T0 (2, 1) = (0, 11) := by rfl
theorem t0_l2 : tlook T0 (3, 1) = (2, 0) := by rfl
theorem t0_l3 : tlook T0 (3, 2) = (0, 4) := by rfl
theorem t0_print : printB T0 = [116, 97, 98, 108, 101, 32, 51, 10, 117, 115, 101, 100, 32, 49, 10, 102, 114, 101, 101, 32, 49, 10, 117, 115, 101, 100, 32, 49, 10] := by
  simp [printB, T0, headB, rowsB, rowB, wordB, Lib.itoa, Lib.decDigits]
theorem t0_ok (w : World) : TOk (w.alloc (Obj.cells #[.int .i64 1, .bool true, .int .i64 1, .bool false, .int .i64 1, .bool true] 35)) (some ⟨w.heap.size, 0, none⟩) 3 T0 := by
  refine ⟨⟨?_, fun _ => ⟨w.heap.size, 0, rfl, ?_⟩⟩, by decide, by unfold maxLen; omega, by decide, by decide⟩
  · intro s hs
    simp [T0] at hs
    rcases hs with rfl | rfl | rfl <;> (unfold Slot.ok; simp)
  · intro i s hs
    match i, hs with
    | 0, hs => simp [T0] at hs; subst hs; exact ⟨by simp [go_sem], by simp [go_sem]⟩
    | 1, hs => simp [T0] at hs; subst hs; exact ⟨by simp [go_sem], by simp [go_sem]⟩
    | 2, hs => simp [T0] at hs; subst hs; exact ⟨by simp [go_sem], by simp [go_sem]⟩
    | i + 3, hs => simp [T0] at hs
theorem itoa_small (w : World) (n : Nat) (h : n < 100) : ItoaAt w n := by
  intro w' _
  refine (Tryz.strconv_Itoa_small n h w').mono ?_
  rintro e w2 ⟨rfl, rfl⟩
  refine RB.mk ?_ (Bl.refl _)
  unfold Lib.itoa
  rw [if_neg (by omega)]; rfl
theorem t0_itoa (w : World) : ∀ n, n = T0.most ∨ (∃ s, s ∈ T0.slots ∧ n = s.gen) → ItoaAt w n := by
  rintro n (rfl | ⟨s, hs, rfl⟩)
  · exact itoa_small w 3 (by omega)
  · simp [T0] at hs
    rcases hs with rfl | rfl | rfl <;> exact itoa_small w 1 (by omega)
set_option maxHeartbeats 8000000 in
theorem lawHnShown (w : World) : Calls Tryz.prog 5 #[] w (RB w (.bool true)) := by
  have hG := fun a c t w h => hnGive a c t w h
  have hL := fun a c t i g w h hi => hnLook a c t i g w h hi
  have hP := fun a c w h => hnPrint a c T0 w h (by decide) (t0_itoa w)
  rw [t0_print] at hP
  have HG := Lib.hid hG
  have HL := Lib.hid hL
  have HP := Lib.hid hP
  clear hG hL hP
  have hT := t0_ok w
  have HT := Lib.hid hT
  clear hT
  go_enter Tryz.func5, Tryz.ntmps5
  go_wp2_with fail
  refine (HG.out (some ⟨w.heap.size, 0, none⟩) 3 T0 _ (HT.out.bl ((Bl.refl _).alloc _))).mono ?_; rintro e w1 ⟨v, rfl, ⟨vt, rfl, hV⟩, hb1⟩
  rw [t0_give] at hV ⊢
  obtain ⟨a1, c1, rfl, hV, -⟩ := hV
  have hb0 : Bl w ((w.alloc (Obj.cells #[.int .i64 1, .bool true, .int .i64 1, .bool false, .int .i64 1, .bool true] 35)).alloc (Obj.cells #[.int .i64 3, .slice (some ⟨w.heap.size, 0, none⟩) 3 3] 24)) := (by repeat (first | assumption | exact Bl.refl _ | apply Bl.drewN | apply Bl.drew | apply Bl.alloc | (refine Bl.dr ?_ (by assumption)) | (refine Bl.trans ?_ (by assumption))))
  have hb := hb0.trans hb1
  have hT1 := (HT.out.bl ((Bl.refl _).alloc (Obj.cells #[.int .i64 3, .slice (some ⟨w.heap.size, 0, none⟩) 3 3] 24))).bl hb1
  have hr : Mem w1 [(⟨w.heap.size + 1, 0, none⟩, .int .i64 3), (⟨w.heap.size + 1, 1, none⟩, .slice (some ⟨w.heap.size, 0, none⟩) 3 3)] := by
    refine Mem.bl ?_ hb1
    simp [Mem, go_sem]
  have HV := Lib.hid hV
  have HT1 := Lib.hid hT1
  clear hb0 hb1 HT hV hT1
  have hs1 := hb.size
  obtain ⟨A, hA⟩ : ∃ A, w.heap.size + 1 = A := ⟨_, rfl⟩
  have hr2 := (hr.alloc (Obj.cells #[.int .i64 3, .slice a1 3 c1] 24)).alloc (Obj.cells #[.int .i64 2, .int .i64 2] 37)
  have hr3 : Mem ((w1.alloc (Obj.cells #[.int .i64 3, .slice a1 3 c1] 24)).alloc (Obj.cells #[.int .i64 2, .int .i64 2] 37)) [(⟨w1.heap.size, 0, none⟩, .int .i64 3), (⟨w1.heap.size, 1, none⟩, .slice a1 3 c1), (⟨w1.heap.size + 1, 0, none⟩, .int .i64 2), (⟨w1.heap.size + 1, 1, none⟩, .int .i64 2)] := by simp [Mem, go_sem]
  have hb2 : Bl w1 ((w1.alloc (Obj.cells #[.int .i64 3, .slice a1 3 c1] 24)).alloc (Obj.cells #[.int .i64 2, .int .i64 2] 37)) := (by repeat (first | assumption | exact Bl.refl _ | apply Bl.drewN | apply Bl.drew | apply Bl.alloc | (refine Bl.dr ?_ (by assumption)) | (refine Bl.trans ?_ (by assumption))))
  have hr4 := hr2.app hr3
  have HR := Lib.hid hr4
  have hbX := hb.trans hb2
  have hV2 := HV.out.bl hb2
  have hT2 := HT1.out.bl hb2
  have HV2 := Lib.hid hV2
  have HT2 := Lib.hid hT2
  clear hr hr2 hr3 hV2 hT2 HV HT1
  unfold T1 Tb.v hv
  simp only [List.length_cons, List.length_nil, Nat.reduceAdd]
  
  have hm := hr4
  simp only [Mem, VE, List.cons_append, List.nil_append, and_true] at hm
  clear hr4 hA A
  go_wp2_with fail
  generalize (w1.alloc (Obj.cells #[.int .i64 3, .slice a1 3 c1] 24)).alloc (Obj.cells #[.int .i64 2, .int .i64 2] 37) = W2 at *
  clear hb2 hb
  have hb := hbX
  refine (HL.out _ 3 T0 2 1 _ HT2.out (by omega)).mono ?_; rintro e w5 ⟨rfl, hb1⟩
  rw [t0_l1]
  have hr := HR.out.bl hb1
  have hT2 := HT2.out.bl hb1
  have hV2 := HV2.out.bl hb1
  have hbn := hb.trans hb1
  clear hb hb1 hm
  have HR := Lib.hid hr
  have HT2 := Lib.hid hT2
  have HV2 := Lib.hid hV2
  have hb := hbn
  
  have hm := hr
  simp only [Mem, VE, List.cons_append, List.nil_append, and_true] at hm
  clear hr hT2 hV2 hbn
  go_wp2_with fail
  refine (HL.out _ 3 T0 3 1 _ HT2.out (by omega)).mono ?_; rintro e w5 ⟨rfl, hb1⟩
  rw [t0_l2]
  have hr := HR.out.bl hb1
  have hT2 := HT2.out.bl hb1
  have hV2 := HV2.out.bl hb1
  have hbn := hb.trans hb1
  clear hb hb1 hm
  have HR := Lib.hid hr
  have HT2 := Lib.hid hT2
  have HV2 := Lib.hid hV2
  have hb := hbn
  
  have hm := hr
  simp only [Mem, VE, List.cons_append, List.nil_append, and_true] at hm
  clear hr hT2 hV2 hbn
  go_wp2_with fail
  refine (HL.out _ 3 T0 3 2 _ HT2.out (by omega)).mono ?_; rintro e w5 ⟨rfl, hb1⟩
  rw [t0_l3]
  have hr := HR.out.bl hb1
  have hT2 := HT2.out.bl hb1
  have hV2 := HV2.out.bl hb1
  have hbn := hb.trans hb1
  clear hb hb1 hm
  have HR := Lib.hid hr
  have HT2 := Lib.hid hT2
  have HV2 := Lib.hid hV2
  have hb := hbn
  
  have hm := hr
  simp only [Mem, VE, List.cons_append, List.nil_append, and_true] at hm
  clear hr hT2 hV2 hbn
  go_wp2_with fail
  refine (HG.out _ _ T1 _ HV2.out).mono ?_; rintro e w1 ⟨v, rfl, ⟨vt, rfl, hV⟩, hb1⟩
  rw [t1_give] at hV ⊢
  obtain ⟨a3, c3, rfl, -, -⟩ := hV
  unfold tnil Tb.v hv
  simp only [List.length_nil]
  have hr := HR.out.bl hb1
  have hT2 := HT2.out.bl hb1
  have hbn := hb.trans hb1
  have hb2 : Bl w1 ((w1.alloc (Obj.cells #[.int .i64 0, .slice a3 0 c3] 24)).alloc (Obj.cells #[.int .i64 0, .int .i64 0] 37)) := (by repeat (first | assumption | exact Bl.refl _ | apply Bl.drewN | apply Bl.drew | apply Bl.alloc | (refine Bl.dr ?_ (by assumption)) | (refine Bl.trans ?_ (by assumption))))
  have hr2 := hr.bl hb2
  have hT3 := hT2.bl hb2
  have hbX := hbn.trans hb2
  have HR := Lib.hid hr2
  have HT2 := Lib.hid hT3
  clear hr hT2 hbn hb2 hT3 hb1 hb hm
  
  have hm := hr2
  simp only [Mem, VE, List.cons_append, List.nil_append, and_true] at hm
  clear hr2
  go_wp2_with fail
  generalize (w1.alloc (Obj.cells #[.int .i64 0, .slice a3 0 c3] 24)).alloc (Obj.cells #[.int .i64 0, .int .i64 0] 37) = W3 at *
  refine (HP.out _ 3 _ HT2.out).mono ?_; rintro e w4 ⟨rfl, hb1⟩
  have hr := HR.out.bl hb1
  have hb := hbX.trans hb1
  clear hm
  
  have hm := hr
  simp only [Mem, VE, List.cons_append, List.nil_append, and_true] at hm
  clear hr
  go_wp2_with fail
  go_ret
  exact RB.mk rfl hb
end Go.Proofs.YtidclkojekodpaaGreatDoor
