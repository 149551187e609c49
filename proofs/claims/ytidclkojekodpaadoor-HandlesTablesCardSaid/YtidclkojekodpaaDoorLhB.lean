
/-
  The walk of HandlesTables.
-/
import Derived.Test.YtidclkojekodpaaDoorHnN
import Derived.Test.YtidclkojekodpaaDoorHnI
import Derived.Test.YtidclkojekodpaaDoorHnK
import Derived.Test.YtidclkojekodpaaDoorHnW
import Derived.Test.YtidclkojekodpaaDoorHnC
namespace Go.Proofs.YtidclkojekodpaaDoor
open Go.RowKit
set_option linter.unusedSimpArgs false
set_option linter.unusedVariables false
set_option maxRecDepth 100000

theorem tnew_ok (m : Int) (w : World) : TOk w none 0 ⟨(tnew m).1.most, []⟩ := by
  refine ⟨slots_nil _, Nat.le_refl _, by unfold maxLen; omega, ?_, ?_⟩ <;> (unfold tnew; split <;> simp [tnil] <;> omega)
set_option maxHeartbeats 8000000 in
theorem lawHnTables (a : Option Addr) (c : Nat) (t : Tb) (m : Int) (w : World) (h : TOk w a c t) : Calls Tryd.prog 6 #[t.v a c, .int .i64 m] w (RB w (.bool true)) := by
  have hF := fun w h => lawHnFar a c t w h
  have hN1 := fun w => hnNew m w
  have hN2 := fun w => refNew m w
  have hC1 := fun w h => hnCheck a c t w h
  have hC2 := fun w h => refHnCheck a c t w h
  have hG1 := fun w h => hnGive a c t w h
  have hG2 := fun w h => refGive a c t w h
  have hL1 := fun w h => hnLive a c t w h
  have hL2 := fun w h => refLive a c t w h
  have hV1 := fun w h => hnGiven a c t w h
  have hV2 := fun w h => refGiven a c t w h
  have hNk := tnew_ok m
  obtain ⟨⟨⟨nm, nl⟩, ne⟩, e1⟩ : ∃ x, tnew m = x := ⟨_, rfl⟩
  obtain ⟨⟨ck, ce⟩, e2⟩ : ∃ x, tchk t = x := ⟨_, rfl⟩
  obtain ⟨⟨⟨gm, gl⟩, ⟨hx, hy⟩, ge⟩, e3⟩ : ∃ x, tgive t = x := ⟨_, rfl⟩
  obtain ⟨⟨L, le⟩, e4⟩ : ∃ x, tlive t = x := ⟨_, rfl⟩
  obtain ⟨⟨gn, gv⟩, e5⟩ : ∃ x, tgiven t = x := ⟨_, rfl⟩
  rw [e1] at hN1 hN2 hNk
  rw [e2] at hC1 hC2
  rw [e3] at hG1 hG2
  rw [e4] at hL1 hL2
  rw [e5] at hV1 hV2
  simp only at hN1 hN2 hNk hC1 hC2 hL1 hL2 hV1 hV2
  clear e1 e2 e3 e4 e5
  have HF := Lib.hid hF
  have HN1 := Lib.hid hN1
  have HN2 := Lib.hid hN2
  have HC1 := Lib.hid hC1
  have HC2 := Lib.hid hC2
  have HG1 := Lib.hid hG1
  have HG2 := Lib.hid hG2
  have HL1 := Lib.hid hL1
  have HL2 := Lib.hid hL2
  have HV1 := Lib.hid hV1
  have HV2 := Lib.hid hV2
  have HNk := Lib.hid hNk
  clear hF hN1 hN2 hC1 hC2 hG1 hG2 hL1 hL2 hV1 hV2 hNk
  by_cases hf : 40 < t.slots.length
  · have hf' : decide (40 < t.slots.length) = true := by simpa using hf
    rw [hf'] at HF
    clear hf hf'
    
    have HO := Lib.hid h
    obtain ⟨mo, l⟩ := t
    have hs := h.slots
    have hc1 := h.len
    have hc2 := h.cap
    simp only at hs hc1
    unfold maxLen at hc2
    unfold Tb.v
    simp only
    clear h
    clear hs
    go_enter Tryd.func6, Tryd.ntmps6
    go_wp2_with fail
    refine (HF.out _ (HO.out.bl (by repeat (first | assumption | exact Bl.refl _ | apply Bl.drewN | apply Bl.drew | apply Bl.alloc | (refine Bl.dr ?_ (by assumption)) | (refine Bl.trans ?_ (by assumption)))))).mono ?_; rintro e w1 ⟨rfl, hb1⟩
    have hb : Bl w w1 := (by repeat (first | assumption | exact Bl.refl _ | apply Bl.drewN | apply Bl.drew | apply Bl.alloc | (refine Bl.dr ?_ (by assumption)) | (refine Bl.trans ?_ (by assumption))))
    clear hb1
    go_wp2_with fail
    refine (lawHnShown _).mono ?_; rintro e w2 ⟨rfl, hb1⟩
    go_wp2_with fail
    go_ret
    exact RB.mk rfl (hb.trans hb1)
  · have hf' : decide (40 < t.slots.length) = false := by simpa using hf
    rw [hf'] at HF
    clear hf'
    
    have HO := Lib.hid h
    obtain ⟨mo, l⟩ := t
    have hs := h.slots
    have hc1 := h.len
    have hc2 := h.cap
    simp only at hs hc1
    unfold maxLen at hc2
    unfold Tb.v
    simp only
    clear h
    clear hs
    go_enter Tryd.func6, Tryd.ntmps6
    go_wp2_with fail
    refine (HF.out _ (HO.out.bl (by repeat (first | assumption | exact Bl.refl _ | apply Bl.drewN | apply Bl.drew | apply Bl.alloc | (refine Bl.dr ?_ (by assumption)) | (refine Bl.trans ?_ (by assumption)))))).mono ?_; rintro e w1 ⟨rfl, hb1⟩
    have hb : Bl w w1 := (by repeat (first | assumption | exact Bl.refl _ | apply Bl.drewN | apply Bl.drew | apply Bl.alloc | (refine Bl.dr ?_ (by assumption)) | (refine Bl.trans ?_ (by assumption))))
    have hr : Mem w1 [(⟨w.heap.size, 0, none⟩, .int .i64 mo), (⟨w.heap.size, 1, none⟩, .slice a l.length c)] := by
      refine Mem.bl ?_ hb1
      simp [Mem, go_sem]
    have dsw : w.heap.size < w1.heap.size := by have := hb1.size; simp at this; omega
    clear hb1
    have HA := Lib.hid hr
    have hm := trivial
    clear hr
    go_wp2_with fail
    refine (HN1.out _).mono ?_; rintro e wa ⟨rfl, hb1⟩
    have qA := HA.out.bl hb1
    have hbn := hb.trans hb1
    have d1_A : w.heap.size < wa.heap.size := Nat.lt_of_lt_of_le dsw hb1.size
    clear hb hm HA 
    have HA := Lib.hid qA
    have hb := hbn
    have hm := qA
    simp only [Mem, List.cons_append, List.nil_append, and_true] at hm
    clear hbn qA 
    clear hb1
    have qA := (HA.out.alloc (Obj.cells #[.int .i64 nm, .slice none 0 0] 24))
    have qV := (show Mem (wa.alloc (Obj.cells #[.int .i64 nm, .slice none 0 0] 24)) [(⟨wa.heap.size, 0, none⟩, .int .i64 nm), (⟨wa.heap.size, 1, none⟩, .slice none 0 0)] by simp [Mem, go_sem])
    have hbn := (hb.alloc (Obj.cells #[.int .i64 nm, .slice none 0 0] 24))
    have d2_A : w.heap.size < (wa.alloc (Obj.cells #[.int .i64 nm, .slice none 0 0] 24)).heap.size := by simp; omega
    have d2_V : wa.heap.size < (wa.alloc (Obj.cells #[.int .i64 nm, .slice none 0 0] 24)).heap.size := by simp
    clear hb HA  
    have HA := Lib.hid qA
    have HV := Lib.hid qV
    have yy := (qA).app qV
    simp only [Mem, List.cons_append, List.nil_append, and_true] at yy
    clear qA qV 
    go_wp2_with fail
    have hb := hbn
    clear hbn hm yy 
    generalize wa.alloc (Obj.cells #[.int .i64 nm, .slice none 0 0] 24) = W1 at *
    have hm := trivial
    refine (HN2.out _).mono ?_; rintro e wb ⟨rfl, hb1⟩
    have qA := HA.out.bl hb1
    have qV := HV.out.bl hb1
    have hbn := hb.trans hb1
    have d3_A : w.heap.size < wb.heap.size := Nat.lt_of_lt_of_le d2_A hb1.size
    have d3_V : wa.heap.size < wb.heap.size := Nat.lt_of_lt_of_le d2_V hb1.size
    clear hb hm HA HV 
    have HA := Lib.hid qA
    have HV := Lib.hid qV
    have hb := hbn
    have hm := (qA).app qV
    simp only [Mem, List.cons_append, List.nil_append, and_true] at hm
    clear hbn qA qV 
    clear hb1
    have qA := (HA.out.alloc (Obj.cells #[.int .i64 nm, .slice none 0 0] 24))
    have qV := (HV.out.alloc (Obj.cells #[.int .i64 nm, .slice none 0 0] 24))
    have qU := (show Mem (wb.alloc (Obj.cells #[.int .i64 nm, .slice none 0 0] 24)) [(⟨wb.heap.size, 0, none⟩, .int .i64 nm), (⟨wb.heap.size, 1, none⟩, .slice none 0 0)] by simp [Mem, go_sem])
    have hbn := (hb.alloc (Obj.cells #[.int .i64 nm, .slice none 0 0] 24))
    have d4_A : w.heap.size < (wb.alloc (Obj.cells #[.int .i64 nm, .slice none 0 0] 24)).heap.size := by simp; omega
    have d4_V : wa.heap.size < (wb.alloc (Obj.cells #[.int .i64 nm, .slice none 0 0] 24)).heap.size := by simp; omega
    have d4_U : wb.heap.size < (wb.alloc (Obj.cells #[.int .i64 nm, .slice none 0 0] 24)).heap.size := by simp
    clear hb HA HV  
    have HA := Lib.hid qA
    have HV := Lib.hid qV
    have HU := Lib.hid qU
    have yy := ((qA).app qV).app qU
    simp only [Mem, List.cons_append, List.nil_append, and_true] at yy
    clear qA qV qU 
    go_wp2_with fail
    have hb := hbn
    clear hbn hm yy 
    generalize wb.alloc (Obj.cells #[.int .i64 nm, .slice none 0 0] 24) = W2 at *
    have hm := trivial
    refine (HC1.out _ (HO.out.bl hb)).mono ?_; rintro e wc ⟨rfl, hb1⟩
    have qA := HA.out.bl hb1
    have qV := HV.out.bl hb1
    have qU := HU.out.bl hb1
    have hbn := hb.trans hb1
    have d5_A : w.heap.size < wc.heap.size := Nat.lt_of_lt_of_le d4_A hb1.size
    have d5_V : wa.heap.size < wc.heap.size := Nat.lt_of_lt_of_le d4_V hb1.size
    have d5_U : wb.heap.size < wc.heap.size := Nat.lt_of_lt_of_le d4_U hb1.size
    clear hb hm HA HV HU 
    have HA := Lib.hid qA
    have HV := Lib.hid qV
    have HU := Lib.hid qU
    have hb := hbn
    have hm := ((qA).app qV).app qU
    simp only [Mem, List.cons_append, List.nil_append, and_true] at hm
    clear hbn qA qV qU 
    clear hb1
    go_wp2_with fail
    refine (HC2.out _ (HO.out.bl hb)).mono ?_; rintro e wd ⟨rfl, hb1⟩
    have qA := HA.out.bl hb1
    have qV := HV.out.bl hb1
    have qU := HU.out.bl hb1
    have hbn := hb.trans hb1
    have d6_A : w.heap.size < wd.heap.size := Nat.lt_of_lt_of_le d5_A hb1.size
    have d6_V : wa.heap.size < wd.heap.size := Nat.lt_of_lt_of_le d5_V hb1.size
    have d6_U : wb.heap.size < wd.heap.size := Nat.lt_of_lt_of_le d5_U hb1.size
    clear hb hm HA HV HU 
    have HA := Lib.hid qA
    have HV := Lib.hid qV
    have HU := Lib.hid qU
    have hb := hbn
    have hm := ((qA).app qV).app qU
    simp only [Mem, List.cons_append, List.nil_append, and_true] at hm
    clear hbn qA qV qU 
    clear hb1
    go_wp2_with fail
    refine (refHnSame none 0 none 0 ⟨nm, []⟩ _ (HNk.out _) (HNk.out _)).mono ?_; rintro e we ⟨rfl, hb1⟩
    have qA := HA.out.bl hb1
    have qV := HV.out.bl hb1
    have qU := HU.out.bl hb1
    have hbn := hb.trans hb1
    have d7_A : w.heap.size < we.heap.size := Nat.lt_of_lt_of_le d6_A hb1.size
    have d7_V : wa.heap.size < we.heap.size := Nat.lt_of_lt_of_le d6_V hb1.size
    have d7_U : wb.heap.size < we.heap.size := Nat.lt_of_lt_of_le d6_U hb1.size
    clear hb hm HA HV HU 
    have HA := Lib.hid qA
    have HV := Lib.hid qV
    have HU := Lib.hid qU
    have hb := hbn
    have hm := ((qA).app qV).app qU
    simp only [Mem, List.cons_append, List.nil_append, and_true] at hm
    clear hbn qA qV qU 
    clear hb1
    go_wp2_with fail
    refine (HG1.out _ (HO.out.bl hb)).mono ?_; rintro e wf ⟨v, rfl, ⟨vt, rfl, hV⟩, hb1⟩
    obtain ⟨a1, c1, rfl, hV, hF1⟩ := hV
    unfold Tb.v hv
    simp only at hV hF1 ⊢
    have qA := HA.out.bl hb1
    have qV := HV.out.bl hb1
    have qU := HU.out.bl hb1
    have hbn := hb.trans hb1
    have d8_A : w.heap.size < wf.heap.size := Nat.lt_of_lt_of_le d7_A hb1.size
    have d8_V : wa.heap.size < wf.heap.size := Nat.lt_of_lt_of_le d7_V hb1.size
    have d8_U : wb.heap.size < wf.heap.size := Nat.lt_of_lt_of_le d7_U hb1.size
    clear hb hm HA HV HU 
    have HA := Lib.hid qA
    have HV := Lib.hid qV
    have HU := Lib.hid qU
    have hb := hbn
    have hm := ((qA).app qV).app qU
    simp only [Mem, List.cons_append, List.nil_append, and_true] at hm
    clear hbn qA qV qU 
    clear hb1
    have qA := (((HA.out.off wa.heap.size 0 (.int .i64 gm) (by intro q hq; simp at hq; rcases hq with rfl | rfl <;> simp <;> omega)).off wa.heap.size 1 (.slice a1 gl.length c1) (by intro q hq; simp at hq; rcases hq with rfl | rfl <;> simp <;> omega)).alloc (Obj.cells #[.int .i64 hx, .int .i64 hy] 26))
    have gV : Mem ((wf.setCell ⟨wa.heap.size, 0, none⟩ (.int .i64 gm)).setCell ⟨wa.heap.size, 1, none⟩ (.slice a1 gl.length c1)) [(⟨wa.heap.size, 0, none⟩, .int .i64 gm), (⟨wa.heap.size, 1, none⟩, .slice a1 gl.length c1)] := by simp [Mem, go_sem, hm]
    have qV := (gV.alloc (Obj.cells #[.int .i64 hx, .int .i64 hy] 26))
    have qU := (((HU.out.off wa.heap.size 0 (.int .i64 gm) (by intro q hq; simp at hq; rcases hq with rfl | rfl <;> simp <;> omega)).off wa.heap.size 1 (.slice a1 gl.length c1) (by intro q hq; simp at hq; rcases hq with rfl | rfl <;> simp <;> omega)).alloc (Obj.cells #[.int .i64 hx, .int .i64 hy] 26))
    have qX := (show Mem (((wf.setCell ⟨wa.heap.size, 0, none⟩ (.int .i64 gm)).setCell ⟨wa.heap.size, 1, none⟩ (.slice a1 gl.length c1)).alloc (Obj.cells #[.int .i64 hx, .int .i64 hy] 26)) [(⟨wf.heap.size, 0, none⟩, .int .i64 hx), (⟨wf.heap.size, 1, none⟩, .int .i64 hy)] by simp [Mem, go_sem])
    have qT1 := (((hV.set hF1 (p := ⟨wa.heap.size, 0, none⟩) (by simp only; omega) (.int .i64 gm)).set hF1 (p := ⟨wa.heap.size, 1, none⟩) (by simp only; omega) (.slice a1 gl.length c1)).bl ((Bl.refl _).alloc (Obj.cells #[.int .i64 hx, .int .i64 hy] 26)))
    have hbn := (((hb.setCell ⟨wa.heap.size, 0, none⟩ (by simp only; omega) (.int .i64 gm)).setCell ⟨wa.heap.size, 1, none⟩ (by simp only; omega) (.slice a1 gl.length c1)).alloc (Obj.cells #[.int .i64 hx, .int .i64 hy] 26))
    have d9_A : w.heap.size < (((wf.setCell ⟨wa.heap.size, 0, none⟩ (.int .i64 gm)).setCell ⟨wa.heap.size, 1, none⟩ (.slice a1 gl.length c1)).alloc (Obj.cells #[.int .i64 hx, .int .i64 hy] 26)).heap.size := by simp; omega
    have d9_V : wa.heap.size < (((wf.setCell ⟨wa.heap.size, 0, none⟩ (.int .i64 gm)).setCell ⟨wa.heap.size, 1, none⟩ (.slice a1 gl.length c1)).alloc (Obj.cells #[.int .i64 hx, .int .i64 hy] 26)).heap.size := by simp; omega
    have d9_U : wb.heap.size < (((wf.setCell ⟨wa.heap.size, 0, none⟩ (.int .i64 gm)).setCell ⟨wa.heap.size, 1, none⟩ (.slice a1 gl.length c1)).alloc (Obj.cells #[.int .i64 hx, .int .i64 hy] 26)).heap.size := by simp; omega
    have d9_X : wf.heap.size < (((wf.setCell ⟨wa.heap.size, 0, none⟩ (.int .i64 gm)).setCell ⟨wa.heap.size, 1, none⟩ (.slice a1 gl.length c1)).alloc (Obj.cells #[.int .i64 hx, .int .i64 hy] 26)).heap.size := by simp
    have z1 := (((HA.out).app HV.out).app HU.out).alloc (Obj.cells #[.int .i64 0, .int .i64 0] 26)
    simp only [Mem, List.cons_append, List.nil_append, and_true] at z1
    have z2 : Mem ((wf.setCell ⟨wa.heap.size, 0, none⟩ (.int .i64 gm)).alloc (Obj.cells #[.int .i64 0, .int .i64 0] 26)) [(⟨wa.heap.size, 1, none⟩, .slice none 0 0)] := Mem.alloc (by simp [Mem, go_sem, hm]) _
    simp only [Mem, List.cons_append, List.nil_append, and_true] at z2
    clear hb HA HV HU  gV
    have HA := Lib.hid qA
    have HV := Lib.hid qV
    have HU := Lib.hid qU
    have HX := Lib.hid qX
    have HT1 := Lib.hid qT1
    have yy := (((qA).app qV).app qU).app qX
    simp only [Mem, List.cons_append, List.nil_append, and_true] at yy
    clear qA qV qU qX qT1
    go_wp2_with fail
    have hb := hbn
    clear hbn hm yy z1 z2
    generalize ((wf.setCell ⟨wa.heap.size, 0, none⟩ (.int .i64 gm)).setCell ⟨wa.heap.size, 1, none⟩ (.slice a1 gl.length c1)).alloc (Obj.cells #[.int .i64 hx, .int .i64 hy] 26) = W3 at *
    have hm := trivial
    clear hV
    refine (HG2.out _ (HO.out.bl hb)).mono ?_; rintro e wg ⟨v, rfl, ⟨vt, rfl, hV⟩, hb1⟩
    obtain ⟨a2, c2, rfl, hV, hF2⟩ := hV
    unfold Tb.v hv
    simp only at hV hF2 ⊢
    have qA := HA.out.bl hb1
    have qV := HV.out.bl hb1
    have qU := HU.out.bl hb1
    have qX := HX.out.bl hb1
    have qT1 := HT1.out.bl hb1
    have hbn := hb.trans hb1
    have d10_A : w.heap.size < wg.heap.size := Nat.lt_of_lt_of_le d9_A hb1.size
    have d10_V : wa.heap.size < wg.heap.size := Nat.lt_of_lt_of_le d9_V hb1.size
    have d10_U : wb.heap.size < wg.heap.size := Nat.lt_of_lt_of_le d9_U hb1.size
    have d10_X : wf.heap.size < wg.heap.size := Nat.lt_of_lt_of_le d9_X hb1.size
    clear hb hm HA HV HU HX HT1
    have HA := Lib.hid qA
    have HV := Lib.hid qV
    have HU := Lib.hid qU
    have HX := Lib.hid qX
    have HT1 := Lib.hid qT1
    have hb := hbn
    have hm := (((qA).app qV).app qU).app qX
    simp only [Mem, List.cons_append, List.nil_append, and_true] at hm
    clear hbn qA qV qU qX qT1
    clear hb1
    have qA := (((HA.out.off wb.heap.size 0 (.int .i64 gm) (by intro q hq; simp at hq; rcases hq with rfl | rfl <;> simp <;> omega)).off wb.heap.size 1 (.slice a2 gl.length c2) (by intro q hq; simp at hq; rcases hq with rfl | rfl <;> simp <;> omega)).alloc (Obj.cells #[.int .i64 hx, .int .i64 hy] 26))
    have qV := (((HV.out.off wb.heap.size 0 (.int .i64 gm) (by intro q hq; simp at hq; rcases hq with rfl | rfl <;> simp <;> omega)).off wb.heap.size 1 (.slice a2 gl.length c2) (by intro q hq; simp at hq; rcases hq with rfl | rfl <;> simp <;> omega)).alloc (Obj.cells #[.int .i64 hx, .int .i64 hy] 26))
    have gU : Mem ((wg.setCell ⟨wb.heap.size, 0, none⟩ (.int .i64 gm)).setCell ⟨wb.heap.size, 1, none⟩ (.slice a2 gl.length c2)) [(⟨wb.heap.size, 0, none⟩, .int .i64 gm), (⟨wb.heap.size, 1, none⟩, .slice a2 gl.length c2)] := by simp [Mem, go_sem, hm]
    have qU := (gU.alloc (Obj.cells #[.int .i64 hx, .int .i64 hy] 26))
    have qX := (((HX.out.off wb.heap.size 0 (.int .i64 gm) (by intro q hq; simp at hq; rcases hq with rfl | rfl <;> simp <;> omega)).off wb.heap.size 1 (.slice a2 gl.length c2) (by intro q hq; simp at hq; rcases hq with rfl | rfl <;> simp <;> omega)).alloc (Obj.cells #[.int .i64 hx, .int .i64 hy] 26))
    have qY := (show Mem (((wg.setCell ⟨wb.heap.size, 0, none⟩ (.int .i64 gm)).setCell ⟨wb.heap.size, 1, none⟩ (.slice a2 gl.length c2)).alloc (Obj.cells #[.int .i64 hx, .int .i64 hy] 26)) [(⟨wg.heap.size, 0, none⟩, .int .i64 hx), (⟨wg.heap.size, 1, none⟩, .int .i64 hy)] by simp [Mem, go_sem])
    have qT1 := (((HT1.out.set hF1 (p := ⟨wb.heap.size, 0, none⟩) (by simp only; omega) (.int .i64 gm)).set hF1 (p := ⟨wb.heap.size, 1, none⟩) (by simp only; omega) (.slice a2 gl.length c2)).bl ((Bl.refl _).alloc (Obj.cells #[.int .i64 hx, .int .i64 hy] 26)))
    have qT2 := (((hV.set hF2 (p := ⟨wb.heap.size, 0, none⟩) (by simp only; omega) (.int .i64 gm)).set hF2 (p := ⟨wb.heap.size, 1, none⟩) (by simp only; omega) (.slice a2 gl.length c2)).bl ((Bl.refl _).alloc (Obj.cells #[.int .i64 hx, .int .i64 hy] 26)))
    have hbn := (((hb.setCell ⟨wb.heap.size, 0, none⟩ (by simp only; omega) (.int .i64 gm)).setCell ⟨wb.heap.size, 1, none⟩ (by simp only; omega) (.slice a2 gl.length c2)).alloc (Obj.cells #[.int .i64 hx, .int .i64 hy] 26))
    have d11_A : w.heap.size < (((wg.setCell ⟨wb.heap.size, 0, none⟩ (.int .i64 gm)).setCell ⟨wb.heap.size, 1, none⟩ (.slice a2 gl.length c2)).alloc (Obj.cells #[.int .i64 hx, .int .i64 hy] 26)).heap.size := by simp; omega
    have d11_V : wa.heap.size < (((wg.setCell ⟨wb.heap.size, 0, none⟩ (.int .i64 gm)).setCell ⟨wb.heap.size, 1, none⟩ (.slice a2 gl.length c2)).alloc (Obj.cells #[.int .i64 hx, .int .i64 hy] 26)).heap.size := by simp; omega
    have d11_U : wb.heap.size < (((wg.setCell ⟨wb.heap.size, 0, none⟩ (.int .i64 gm)).setCell ⟨wb.heap.size, 1, none⟩ (.slice a2 gl.length c2)).alloc (Obj.cells #[.int .i64 hx, .int .i64 hy] 26)).heap.size := by simp; omega
    have d11_X : wf.heap.size < (((wg.setCell ⟨wb.heap.size, 0, none⟩ (.int .i64 gm)).setCell ⟨wb.heap.size, 1, none⟩ (.slice a2 gl.length c2)).alloc (Obj.cells #[.int .i64 hx, .int .i64 hy] 26)).heap.size := by simp; omega
    have d11_Y : wg.heap.size < (((wg.setCell ⟨wb.heap.size, 0, none⟩ (.int .i64 gm)).setCell ⟨wb.heap.size, 1, none⟩ (.slice a2 gl.length c2)).alloc (Obj.cells #[.int .i64 hx, .int .i64 hy] 26)).heap.size := by simp
    have z1 := ((((HA.out).app HV.out).app HU.out).app HX.out).alloc (Obj.cells #[.int .i64 0, .int .i64 0] 26)
    simp only [Mem, List.cons_append, List.nil_append, and_true] at z1
    have z2 : Mem ((wg.setCell ⟨wb.heap.size, 0, none⟩ (.int .i64 gm)).alloc (Obj.cells #[.int .i64 0, .int .i64 0] 26)) [(⟨wb.heap.size, 1, none⟩, .slice none 0 0)] := Mem.alloc (by simp [Mem, go_sem, hm]) _
    simp only [Mem, List.cons_append, List.nil_append, and_true] at z2
    clear hb HA HV HU HX HT1 gU
    have HA := Lib.hid qA
    have HV := Lib.hid qV
    have HU := Lib.hid qU
    have HX := Lib.hid qX
    have HY := Lib.hid qY
    have HT1 := Lib.hid qT1
    have HT2 := Lib.hid qT2
    have yy := ((((qA).app qV).app qU).app qX).app qY
    simp only [Mem, List.cons_append, List.nil_append, and_true] at yy
    clear qA qV qU qX qY qT1 qT2
    go_wp2_with fail
    have hb := hbn
    clear hbn hm yy z1 z2
    generalize ((wg.setCell ⟨wb.heap.size, 0, none⟩ (.int .i64 gm)).setCell ⟨wb.heap.size, 1, none⟩ (.slice a2 gl.length c2)).alloc (Obj.cells #[.int .i64 hx, .int .i64 hy] 26) = W4 at *
    have hm := trivial
    clear hV
    refine (HL1.out _ (HO.out.bl hb)).mono ?_; rintro e wh ⟨v, rfl, ⟨vl, rfl, hH⟩, hb1⟩
    obtain ⟨al, cl, rfl, hH1, hcl1, hcl2⟩ := hH
    simp only at hH1 hcl1 ⊢
    have qA := HA.out.bl hb1
    have qV := HV.out.bl hb1
    have qU := HU.out.bl hb1
    have qX := HX.out.bl hb1
    have qY := HY.out.bl hb1
    have qT1 := HT1.out.bl hb1
    have qT2 := HT2.out.bl hb1
    have hbn := hb.trans hb1
    have d12_A : w.heap.size < wh.heap.size := Nat.lt_of_lt_of_le d11_A hb1.size
    have d12_V : wa.heap.size < wh.heap.size := Nat.lt_of_lt_of_le d11_V hb1.size
    have d12_U : wb.heap.size < wh.heap.size := Nat.lt_of_lt_of_le d11_U hb1.size
    have d12_X : wf.heap.size < wh.heap.size := Nat.lt_of_lt_of_le d11_X hb1.size
    have d12_Y : wg.heap.size < wh.heap.size := Nat.lt_of_lt_of_le d11_Y hb1.size
    clear hb hm HA HV HU HX HY HT1 HT2
    have HA := Lib.hid qA
    have HV := Lib.hid qV
    have HU := Lib.hid qU
    have HX := Lib.hid qX
    have HY := Lib.hid qY
    have HT1 := Lib.hid qT1
    have HT2 := Lib.hid qT2
    have hb := hbn
    have hm := ((((qA).app qV).app qU).app qX).app qY
    simp only [Mem, List.cons_append, List.nil_append, and_true] at hm
    clear hbn qA qV qU qX qY qT1 qT2
    clear hb1
    go_wp2_with fail
    have HH1 := Lib.hid hH1
    clear hH1
    refine (HL2.out _ (HO.out.bl hb)).mono ?_; rintro e wi ⟨v, rfl, ⟨vl, rfl, hH⟩, hb1⟩
    obtain ⟨ak, ck', rfl, hH2, -, -⟩ := hH
    simp only at hH2 ⊢
    have hH1 := HH1.out.bl hb1
    have HH1 := Lib.hid hH1
    have HH2 := Lib.hid hH2
    clear hH1 hH2
    have qA := HA.out.bl hb1
    have qV := HV.out.bl hb1
    have qU := HU.out.bl hb1
    have qX := HX.out.bl hb1
    have qY := HY.out.bl hb1
    have qT1 := HT1.out.bl hb1
    have qT2 := HT2.out.bl hb1
    have hbn := hb.trans hb1
    have d13_A : w.heap.size < wi.heap.size := Nat.lt_of_lt_of_le d12_A hb1.size
    have d13_V : wa.heap.size < wi.heap.size := Nat.lt_of_lt_of_le d12_V hb1.size
    have d13_U : wb.heap.size < wi.heap.size := Nat.lt_of_lt_of_le d12_U hb1.size
    have d13_X : wf.heap.size < wi.heap.size := Nat.lt_of_lt_of_le d12_X hb1.size
    have d13_Y : wg.heap.size < wi.heap.size := Nat.lt_of_lt_of_le d12_Y hb1.size
    clear hb hm HA HV HU HX HY HT1 HT2
    have HA := Lib.hid qA
    have HV := Lib.hid qV
    have HU := Lib.hid qU
    have HX := Lib.hid qX
    have HY := Lib.hid qY
    have HT1 := Lib.hid qT1
    have HT2 := Lib.hid qT2
    have hb := hbn
    have hm := ((((qA).app qV).app qU).app qX).app qY
    simp only [Mem, List.cons_append, List.nil_append, and_true] at hm
    clear hbn qA qV qU qX qY qT1 qT2
    clear hb1
    go_wp2_with fail
    refine (HV1.out _ (HO.out.bl hb)).mono ?_; rintro e wj ⟨rfl, hb1⟩
    have hH1 := HH1.out.bl hb1
    have hH2 := HH2.out.bl hb1
    have HH1 := Lib.hid hH1
    have HH2 := Lib.hid hH2
    clear hH1 hH2
    have qA := HA.out.bl hb1
    have qV := HV.out.bl hb1
    have qU := HU.out.bl hb1
    have qX := HX.out.bl hb1
    have qY := HY.out.bl hb1
    have qT1 := HT1.out.bl hb1
    have qT2 := HT2.out.bl hb1
    have hbn := hb.trans hb1
    have d14_A : w.heap.size < wj.heap.size := Nat.lt_of_lt_of_le d13_A hb1.size
    have d14_V : wa.heap.size < wj.heap.size := Nat.lt_of_lt_of_le d13_V hb1.size
    have d14_U : wb.heap.size < wj.heap.size := Nat.lt_of_lt_of_le d13_U hb1.size
    have d14_X : wf.heap.size < wj.heap.size := Nat.lt_of_lt_of_le d13_X hb1.size
    have d14_Y : wg.heap.size < wj.heap.size := Nat.lt_of_lt_of_le d13_Y hb1.size
    clear hb hm HA HV HU HX HY HT1 HT2
    have HA := Lib.hid qA
    have HV := Lib.hid qV
    have HU := Lib.hid qU
    have HX := Lib.hid qX
    have HY := Lib.hid qY
    have HT1 := Lib.hid qT1
    have HT2 := Lib.hid qT2
    have hb := hbn
    have hm := ((((qA).app qV).app qU).app qX).app qY
    simp only [Mem, List.cons_append, List.nil_append, and_true] at hm
    clear hbn qA qV qU qX qY qT1 qT2
    clear hb1
    go_wp2_with fail
    refine (HV2.out _ (HO.out.bl hb)).mono ?_; rintro e wk ⟨rfl, hb1⟩
    have hH1 := HH1.out.bl hb1
    have hH2 := HH2.out.bl hb1
    have HH1 := Lib.hid hH1
    have HH2 := Lib.hid hH2
    clear hH1 hH2
    have qA := HA.out.bl hb1
    have qV := HV.out.bl hb1
    have qU := HU.out.bl hb1
    have qX := HX.out.bl hb1
    have qY := HY.out.bl hb1
    have qT1 := HT1.out.bl hb1
    have qT2 := HT2.out.bl hb1
    have hbn := hb.trans hb1
    have d15_A : w.heap.size < wk.heap.size := Nat.lt_of_lt_of_le d14_A hb1.size
    have d15_V : wa.heap.size < wk.heap.size := Nat.lt_of_lt_of_le d14_V hb1.size
    have d15_U : wb.heap.size < wk.heap.size := Nat.lt_of_lt_of_le d14_U hb1.size
    have d15_X : wf.heap.size < wk.heap.size := Nat.lt_of_lt_of_le d14_X hb1.size
    have d15_Y : wg.heap.size < wk.heap.size := Nat.lt_of_lt_of_le d14_Y hb1.size
    clear hb hm HA HV HU HX HY HT1 HT2
    have HA := Lib.hid qA
    have HV := Lib.hid qV
    have HU := Lib.hid qU
    have HX := Lib.hid qX
    have HY := Lib.hid qY
    have HT1 := Lib.hid qT1
    have HT2 := Lib.hid qT2
    have hb := hbn
    have hm := ((((qA).app qV).app qU).app qX).app qY
    simp only [Mem, List.cons_append, List.nil_append, and_true] at hm
    clear hbn qA qV qU qX qY qT1 qT2
    clear hb1
    go_wp2_with fail
    refine (refHnSame a1 c1 a2 c2 ⟨gm, gl⟩ _ HT1.out HT2.out).mono ?_; rintro e wl ⟨rfl, hb1⟩
    have hH1 := HH1.out.bl hb1
    have hH2 := HH2.out.bl hb1
    have HH1 := Lib.hid hH1
    have HH2 := Lib.hid hH2
    clear hH1 hH2
    have qA := HA.out.bl hb1
    have qV := HV.out.bl hb1
    have qU := HU.out.bl hb1
    have qX := HX.out.bl hb1
    have qY := HY.out.bl hb1
    have qT1 := HT1.out.bl hb1
    have qT2 := HT2.out.bl hb1
    have hbn := hb.trans hb1
    have d16_A : w.heap.size < wl.heap.size := Nat.lt_of_lt_of_le d15_A hb1.size
    have d16_V : wa.heap.size < wl.heap.size := Nat.lt_of_lt_of_le d15_V hb1.size
    have d16_U : wb.heap.size < wl.heap.size := Nat.lt_of_lt_of_le d15_U hb1.size
    have d16_X : wf.heap.size < wl.heap.size := Nat.lt_of_lt_of_le d15_X hb1.size
    have d16_Y : wg.heap.size < wl.heap.size := Nat.lt_of_lt_of_le d15_Y hb1.size
    clear hb hm HA HV HU HX HY HT1 HT2
    have HA := Lib.hid qA
    have HV := Lib.hid qV
    have HU := Lib.hid qU
    have HX := Lib.hid qX
    have HY := Lib.hid qY
    have HT1 := Lib.hid qT1
    have HT2 := Lib.hid qT2
    have hb := hbn
    have hm := ((((qA).app qV).app qU).app qX).app qY
    simp only [Mem, List.cons_append, List.nil_append, and_true] at hm
    clear hbn qA qV qU qX qY qT1 qT2
    clear hb1
    go_wp2_with fail
    refine (refHnHandles al cl ak ck' L _ HH1.out HH2.out (by omega)).mono ?_; rintro e wm ⟨rfl, hb1⟩
    have hb2 := hb.trans hb1
    clear hm hb1
    go_wp2_with fail
    refine (lawHnShown _).mono ?_; rintro e wn ⟨rfl, hb1⟩
    have hb3 := hb2.trans hb1
    go_wp2_with fail
    go_ret
    exact RB.mk rfl hb3
end Go.Proofs.YtidclkojekodpaaDoor
