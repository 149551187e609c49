
/-
  The walk of HandlesLeast.
-/
import Derived.Test.YtidclkojekodpaaDoorHnN
import Derived.Test.YtidclkojekodpaaDoorHnJ
import Derived.Test.YtidclkojekodpaaDoorHnV
namespace Go.Proofs.YtidclkojekodpaaDoor
open Go.RowKit
set_option linter.unusedSimpArgs false
set_option linter.unusedVariables false
set_option maxRecDepth 100000

set_option maxHeartbeats 8000000 in
theorem leastFar (a : Option Addr) (c : Nat) (t : Tb) (w : World) (h : TOk w a c t) (hf : 40 < t.slots.length) : Calls Tryd.prog 4 #[t.v a c] w (RB w (.bool true)) := by
  have hF := fun w h => lawHnFar a c t w h
  have hf' : decide (40 < t.slots.length) = true := by simpa using hf
  rw [hf'] at hF
  have HF := Lib.hid hF
  clear hf hf' hF
  
  have HO := Lib.hid h
  obtain ⟨mo, l⟩ := t
  have hs := h.slots
  have hc1 := h.len
  have hc2 := h.cap
  simp only at hs hc1
  unfold maxLen at hc2
  unfold Tb.v
  simp only
  clear h
  clear hs
  go_enter Tryd.func4, Tryd.ntmps4
  go_wp2_with fail
  refine (HF.out _ (HO.out.bl (by repeat (first | assumption | exact Bl.refl _ | apply Bl.drewN | apply Bl.drew | apply Bl.alloc | (refine Bl.dr ?_ (by assumption)) | (refine Bl.trans ?_ (by assumption)))))).mono ?_; rintro e w1 ⟨rfl, hb1⟩
  have hb : Bl w w1 := (by repeat (first | assumption | exact Bl.refl _ | apply Bl.drewN | apply Bl.drew | apply Bl.alloc | (refine Bl.dr ?_ (by assumption)) | (refine Bl.trans ?_ (by assumption))))
  clear hb1
  go_wp2_with fail
  refine (lawHnShown _).mono ?_; rintro e w2 ⟨rfl, hb1⟩
  go_wp2_with fail
  go_ret
  exact RB.mk rfl (hb.trans hb1)
set_option maxHeartbeats 8000000 in
theorem leastNo1 (a : Option Addr) (c : Nat) (t : Tb) (w : World) (h : TOk w a c t) (hf : ¬ 40 < t.slots.length) (L : List (Int × Int)) (gm hx hy ge le : Int) (gl : List Slot) (e3 : tgive t = (⟨gm, gl⟩, (hx, hy), ge)) (e4 : tlive t = (L, le)) (q : (le != 0) = true) : Calls Tryd.prog 4 #[t.v a c] w (RB w (.bool true)) := by
  have hL := fun w h => hnLive a c t w h
  have hG := fun w h => hnGive a c t w h
  rw [e4] at hL
  rw [e3] at hG
  have HL := Lib.hid hL
  have HG := Lib.hid hG
  clear hL hG e3 e4
  have hF := fun w h => lawHnFar a c t w h
  have hf' : decide (40 < t.slots.length) = false := by simpa using hf
  rw [hf'] at hF
  have HF := Lib.hid hF
  clear hf' hF
  
  have HO := Lib.hid h
  obtain ⟨mo, l⟩ := t
  have hs := h.slots
  have hc1 := h.len
  have hc2 := h.cap
  simp only at hs hc1
  unfold maxLen at hc2
  unfold Tb.v
  simp only
  clear h
  clear hs
  go_enter Tryd.func4, Tryd.ntmps4
  go_wp2_with fail
  refine (HF.out _ (HO.out.bl (by repeat (first | assumption | exact Bl.refl _ | apply Bl.drewN | apply Bl.drew | apply Bl.alloc | (refine Bl.dr ?_ (by assumption)) | (refine Bl.trans ?_ (by assumption)))))).mono ?_; rintro e w1 ⟨rfl, hb1⟩
  have hb : Bl w w1 := (by repeat (first | assumption | exact Bl.refl _ | apply Bl.drewN | apply Bl.drew | apply Bl.alloc | (refine Bl.dr ?_ (by assumption)) | (refine Bl.trans ?_ (by assumption))))
  have hr : Mem w1 [(⟨w.heap.size, 0, none⟩, .int .i64 mo), (⟨w.heap.size, 1, none⟩, .slice a l.length c)] := by
    refine Mem.bl ?_ hb1
    simp [Mem, go_sem]
  have dsw : w.heap.size < w1.heap.size := by have := hb1.size; simp at this; omega
  clear hb1
  have HA := Lib.hid hr
  
  have hm := hr
  simp only [Mem, VE, List.cons_append, List.nil_append, and_true] at hm
  clear hr
  go_wp2_with fail
  refine (HL.out _ (HO.out.bl hb)).mono ?_; rintro e wa ⟨v, rfl, ⟨vl, rfl, hH⟩, hb1⟩
  obtain ⟨al, cl, rfl, hH1, hcl1, hcl2⟩ := hH
  simp only at hH1 hcl1 ⊢
  have qA := HA.out.bl hb1
  have hbn := hb.trans hb1
  have d1_A : w.heap.size < wa.heap.size := Nat.lt_of_lt_of_le dsw hb1.size
  clear hb hm HA 
  have HA := Lib.hid qA
  have hb := hbn
  have hm := qA
  simp only [Mem, List.cons_append, List.nil_append, and_true] at hm
  clear hbn qA 
  clear hb1
  go_wp2_with fail
  have HH1 := Lib.hid hH1
  clear hH1
  refine (HG.out _ (HO.out.bl hb)).mono ?_; rintro e wb ⟨v, rfl, ⟨vt, rfl, hV⟩, hb1⟩
  obtain ⟨a1, c1, rfl, hV, hF1⟩ := hV
  unfold Tb.v hv
  simp only at hV hF1 ⊢
  have qA := HA.out.bl hb1
  have qfH1 := HH1.out.bl hb1
  have hbn := hb.trans hb1
  have d2_A : w.heap.size < wb.heap.size := Nat.lt_of_lt_of_le d1_A hb1.size
  clear hb hm HA 
  have HA := Lib.hid qA
  clear HH1
  have HH1 := Lib.hid qfH1
  clear qfH1
  have hb := hbn
  have hm := qA
  simp only [Mem, List.cons_append, List.nil_append, and_true] at hm
  clear hbn qA 
  clear hb1
  have qA := ((HA.out.alloc (Obj.cells #[.int .i64 gm, .slice a1 gl.length c1] 24)).alloc (Obj.cells #[.int .i64 hx, .int .i64 hy] 26))
  have qU := ((show Mem (wb.alloc (Obj.cells #[.int .i64 gm, .slice a1 gl.length c1] 24)) [(⟨wb.heap.size, 0, none⟩, .int .i64 gm), (⟨wb.heap.size, 1, none⟩, .slice a1 gl.length c1)] by simp [Mem, go_sem]).alloc (Obj.cells #[.int .i64 hx, .int .i64 hy] 26))
  have qK := (show Mem ((wb.alloc (Obj.cells #[.int .i64 gm, .slice a1 gl.length c1] 24)).alloc (Obj.cells #[.int .i64 hx, .int .i64 hy] 26)) [(⟨wb.heap.size + 1, 0, none⟩, .int .i64 hx), (⟨wb.heap.size + 1, 1, none⟩, .int .i64 hy)] by simp [Mem, go_sem])
  have qT1 := ((hV.bl ((Bl.refl _).alloc (Obj.cells #[.int .i64 gm, .slice a1 gl.length c1] 24))).bl ((Bl.refl _).alloc (Obj.cells #[.int .i64 hx, .int .i64 hy] 26)))
  have qfH1 := ((HH1.out.bl ((Bl.refl _).alloc (Obj.cells #[.int .i64 gm, .slice a1 gl.length c1] 24))).bl ((Bl.refl _).alloc (Obj.cells #[.int .i64 hx, .int .i64 hy] 26)))
  clear HH1
  have HH1 := Lib.hid qfH1
  clear qfH1
  have hbn := ((hb.alloc (Obj.cells #[.int .i64 gm, .slice a1 gl.length c1] 24)).alloc (Obj.cells #[.int .i64 hx, .int .i64 hy] 26))
  have d3_A : w.heap.size < ((wb.alloc (Obj.cells #[.int .i64 gm, .slice a1 gl.length c1] 24)).alloc (Obj.cells #[.int .i64 hx, .int .i64 hy] 26)).heap.size := by simp; omega
  have d3_U : wb.heap.size < ((wb.alloc (Obj.cells #[.int .i64 gm, .slice a1 gl.length c1] 24)).alloc (Obj.cells #[.int .i64 hx, .int .i64 hy] 26)).heap.size := by first | (simp; done) | (simp; omega)
  have d3_K : wb.heap.size + 1 < ((wb.alloc (Obj.cells #[.int .i64 gm, .slice a1 gl.length c1] 24)).alloc (Obj.cells #[.int .i64 hx, .int .i64 hy] 26)).heap.size := by first | (simp; done) | (simp; omega)
  clear hb HA  
  have HA := Lib.hid qA
  have HU := Lib.hid qU
  have HK := Lib.hid qK
  have HT1 := Lib.hid qT1
  have yy := ((qA).app qU).app qK
  simp only [Mem, List.cons_append, List.nil_append, and_true] at yy
  clear qA qU qK qT1
  go_wp2_with fail
  have hb := hbn
  clear hbn hm yy 
  generalize (wb.alloc (Obj.cells #[.int .i64 gm, .slice a1 gl.length c1] 24)).alloc (Obj.cells #[.int .i64 hx, .int .i64 hy] 26) = W1 at *
  have hm := trivial
  refine (lawHnShown _).mono ?_; rintro e w2 ⟨rfl, hb1⟩
  have hb3 := hb.trans hb1
  go_wp2_with fail
  go_ret
  exact RB.mk rfl hb3
set_option maxHeartbeats 8000000 in
theorem leastNo2 (a : Option Addr) (c : Nat) (t : Tb) (w : World) (h : TOk w a c t) (hf : ¬ 40 < t.slots.length) (L : List (Int × Int)) (gm hx hy ge : Int) (gl : List Slot) (e3 : tgive t = (⟨gm, gl⟩, (hx, hy), ge)) (e4 : tlive t = (L, 0)) (q : (ge != 0) = true) : Calls Tryd.prog 4 #[t.v a c] w (RB w (.bool true)) := by
  have hL := fun w h => hnLive a c t w h
  have hG := fun w h => hnGive a c t w h
  rw [e4] at hL
  rw [e3] at hG
  have HL := Lib.hid hL
  have HG := Lib.hid hG
  clear hL hG e3 e4
  have hF := fun w h => lawHnFar a c t w h
  have hf' : decide (40 < t.slots.length) = false := by simpa using hf
  rw [hf'] at hF
  have HF := Lib.hid hF
  clear hf' hF
  
  have HO := Lib.hid h
  obtain ⟨mo, l⟩ := t
  have hs := h.slots
  have hc1 := h.len
  have hc2 := h.cap
  simp only at hs hc1
  unfold maxLen at hc2
  unfold Tb.v
  simp only
  clear h
  clear hs
  go_enter Tryd.func4, Tryd.ntmps4
  go_wp2_with fail
  refine (HF.out _ (HO.out.bl (by repeat (first | assumption | exact Bl.refl _ | apply Bl.drewN | apply Bl.drew | apply Bl.alloc | (refine Bl.dr ?_ (by assumption)) | (refine Bl.trans ?_ (by assumption)))))).mono ?_; rintro e w1 ⟨rfl, hb1⟩
  have hb : Bl w w1 := (by repeat (first | assumption | exact Bl.refl _ | apply Bl.drewN | apply Bl.drew | apply Bl.alloc | (refine Bl.dr ?_ (by assumption)) | (refine Bl.trans ?_ (by assumption))))
  have hr : Mem w1 [(⟨w.heap.size, 0, none⟩, .int .i64 mo), (⟨w.heap.size, 1, none⟩, .slice a l.length c)] := by
    refine Mem.bl ?_ hb1
    simp [Mem, go_sem]
  have dsw : w.heap.size < w1.heap.size := by have := hb1.size; simp at this; omega
  clear hb1
  have HA := Lib.hid hr
  
  have hm := hr
  simp only [Mem, VE, List.cons_append, List.nil_append, and_true] at hm
  clear hr
  go_wp2_with fail
  refine (HL.out _ (HO.out.bl hb)).mono ?_; rintro e wa ⟨v, rfl, ⟨vl, rfl, hH⟩, hb1⟩
  obtain ⟨al, cl, rfl, hH1, hcl1, hcl2⟩ := hH
  simp only at hH1 hcl1 ⊢
  have qA := HA.out.bl hb1
  have hbn := hb.trans hb1
  have d1_A : w.heap.size < wa.heap.size := Nat.lt_of_lt_of_le dsw hb1.size
  clear hb hm HA 
  have HA := Lib.hid qA
  have hb := hbn
  have hm := qA
  simp only [Mem, List.cons_append, List.nil_append, and_true] at hm
  clear hbn qA 
  clear hb1
  go_wp2_with fail
  have HH1 := Lib.hid hH1
  clear hH1
  refine (HG.out _ (HO.out.bl hb)).mono ?_; rintro e wb ⟨v, rfl, ⟨vt, rfl, hV⟩, hb1⟩
  obtain ⟨a1, c1, rfl, hV, hF1⟩ := hV
  unfold Tb.v hv
  simp only at hV hF1 ⊢
  have qA := HA.out.bl hb1
  have qfH1 := HH1.out.bl hb1
  have hbn := hb.trans hb1
  have d2_A : w.heap.size < wb.heap.size := Nat.lt_of_lt_of_le d1_A hb1.size
  clear hb hm HA 
  have HA := Lib.hid qA
  clear HH1
  have HH1 := Lib.hid qfH1
  clear qfH1
  have hb := hbn
  have hm := qA
  simp only [Mem, List.cons_append, List.nil_append, and_true] at hm
  clear hbn qA 
  clear hb1
  have qA := ((HA.out.alloc (Obj.cells #[.int .i64 gm, .slice a1 gl.length c1] 24)).alloc (Obj.cells #[.int .i64 hx, .int .i64 hy] 26))
  have qU := ((show Mem (wb.alloc (Obj.cells #[.int .i64 gm, .slice a1 gl.length c1] 24)) [(⟨wb.heap.size, 0, none⟩, .int .i64 gm), (⟨wb.heap.size, 1, none⟩, .slice a1 gl.length c1)] by simp [Mem, go_sem]).alloc (Obj.cells #[.int .i64 hx, .int .i64 hy] 26))
  have qK := (show Mem ((wb.alloc (Obj.cells #[.int .i64 gm, .slice a1 gl.length c1] 24)).alloc (Obj.cells #[.int .i64 hx, .int .i64 hy] 26)) [(⟨wb.heap.size + 1, 0, none⟩, .int .i64 hx), (⟨wb.heap.size + 1, 1, none⟩, .int .i64 hy)] by simp [Mem, go_sem])
  have qT1 := ((hV.bl ((Bl.refl _).alloc (Obj.cells #[.int .i64 gm, .slice a1 gl.length c1] 24))).bl ((Bl.refl _).alloc (Obj.cells #[.int .i64 hx, .int .i64 hy] 26)))
  have qfH1 := ((HH1.out.bl ((Bl.refl _).alloc (Obj.cells #[.int .i64 gm, .slice a1 gl.length c1] 24))).bl ((Bl.refl _).alloc (Obj.cells #[.int .i64 hx, .int .i64 hy] 26)))
  clear HH1
  have HH1 := Lib.hid qfH1
  clear qfH1
  have hbn := ((hb.alloc (Obj.cells #[.int .i64 gm, .slice a1 gl.length c1] 24)).alloc (Obj.cells #[.int .i64 hx, .int .i64 hy] 26))
  have d3_A : w.heap.size < ((wb.alloc (Obj.cells #[.int .i64 gm, .slice a1 gl.length c1] 24)).alloc (Obj.cells #[.int .i64 hx, .int .i64 hy] 26)).heap.size := by simp; omega
  have d3_U : wb.heap.size < ((wb.alloc (Obj.cells #[.int .i64 gm, .slice a1 gl.length c1] 24)).alloc (Obj.cells #[.int .i64 hx, .int .i64 hy] 26)).heap.size := by first | (simp; done) | (simp; omega)
  have d3_K : wb.heap.size + 1 < ((wb.alloc (Obj.cells #[.int .i64 gm, .slice a1 gl.length c1] 24)).alloc (Obj.cells #[.int .i64 hx, .int .i64 hy] 26)).heap.size := by first | (simp; done) | (simp; omega)
  clear hb HA  
  have HA := Lib.hid qA
  have HU := Lib.hid qU
  have HK := Lib.hid qK
  have HT1 := Lib.hid qT1
  have yy := ((qA).app qU).app qK
  simp only [Mem, List.cons_append, List.nil_append, and_true] at yy
  clear qA qU qK qT1
  go_wp2_with fail
  have hb := hbn
  clear hbn hm yy 
  generalize (wb.alloc (Obj.cells #[.int .i64 gm, .slice a1 gl.length c1] 24)).alloc (Obj.cells #[.int .i64 hx, .int .i64 hy] 26) = W1 at *
  have hm := trivial
  refine (lawHnShown _).mono ?_; rintro e w2 ⟨rfl, hb1⟩
  have hb3 := hb.trans hb1
  go_wp2_with fail
  go_ret
  exact RB.mk rfl hb3
theorem lst_le (L : List (Int × Int)) : ∀ k, 1 ≤ lst L k ∧ lst L k ≤ (k : Int) + 1
  | 0 => by simp [lst]
  | k + 1 => by have := lst_le L k; simp only [lst]; split <;> omega
set_option maxHeartbeats 8000000 in
theorem leastOk (a : Option Addr) (c : Nat) (t : Tb) (w : World) (h : TOk w a c t) (hf : ¬ 40 < t.slots.length) (i : Nat) (g : Int) (hgv : Gave t i g) (hla : LeastLaw t i g) : Calls Tryd.prog 4 #[t.v a c] w (RB w (.bool true)) := by
  have hL := fun w h => hnLive a c t w h
  have hG := fun w h => hnGive a c t w h
  have hlst := hla.least
  have hasc := hla.asc
  obtain ⟨⟨vm, vs⟩, e5, e6, e7⟩ := hla.drop
  have hLl := hl_len t.slots t.slots.length
  have hg1 := hgv.g0
  have hg2 := hgv.g1
  have hle := hgv.le
  rw [live_ok (by rw [good_tchk hgv.good])] at hL
  rw [hgv.out] at hG
  have hD := fun a c w h hi => hnDrop a c ⟨t.most, sset t.slots i ⟨g + 1, true⟩⟩ ((i : Int) + 1) (g + 1) w h hi
  rw [e5] at hD
  have hG2 := fun a c w h => hnGive a c ⟨vm, vs⟩ w h
  clear e5 hla hgv
  obtain ⟨L, hLd⟩ : ∃ L, L = hl t.slots t.slots.length := ⟨_, rfl⟩
  rw [← hLd] at hL hlst hasc hLl
  clear hLd
  obtain ⟨hx, hhx⟩ : ∃ x : Int, x = (i : Int) + 1 := ⟨_, rfl⟩
  obtain ⟨hy, hhy⟩ : ∃ x : Int, x = g + 1 := ⟨_, rfl⟩
  rw [← hhx] at hlst hD hG e7
  rw [← hhy] at hD hG e6 e7
  obtain ⟨gl, hgl⟩ : ∃ x, x = sset t.slots i ⟨hy, true⟩ := ⟨_, rfl⟩
  obtain ⟨gm, hgm⟩ : ∃ x, x = t.most := ⟨_, rfl⟩
  rw [← hgl, ← hgm] at hD hG
  rw [show g + 2 = hy + 1 by omega] at e7
  clear hgl hgm
  have HL := Lib.hid hL
  have HG := Lib.hid hG
  have HG2 := Lib.hid hG2
  have HD := Lib.hid hD
  have HLs := Lib.hid hlst
  have HAs := Lib.hid hasc
  have E6 := Lib.hid e6
  have E7 := Lib.hid e7
  have hi2 : -9223372036854775808 ≤ hx ∧ hx ≤ 9223372036854775807 := by omega
  have hyb : 1 ≤ hy ∧ hy ≤ 1000000000 := by omega
  clear hL hG hG2 hD hlst hasc e6 e7 hhx hhy
  have hF := fun w h => lawHnFar a c t w h
  have hf' : decide (40 < t.slots.length) = false := by simpa using hf
  rw [hf'] at hF
  have HF := Lib.hid hF
  clear hf' hF
  
  have HO := Lib.hid h
  obtain ⟨mo, l⟩ := t
  have hs := h.slots
  have hc1 := h.len
  have hc2 := h.cap
  simp only at hs hc1
  unfold maxLen at hc2
  unfold Tb.v
  simp only
  clear h
  clear hs
  go_enter Tryd.func4, Tryd.ntmps4
  go_wp2_with fail
  refine (HF.out _ (HO.out.bl (by repeat (first | assumption | exact Bl.refl _ | apply Bl.drewN | apply Bl.drew | apply Bl.alloc | (refine Bl.dr ?_ (by assumption)) | (refine Bl.trans ?_ (by assumption)))))).mono ?_; rintro e w1 ⟨rfl, hb1⟩
  have hb : Bl w w1 := (by repeat (first | assumption | exact Bl.refl _ | apply Bl.drewN | apply Bl.drew | apply Bl.alloc | (refine Bl.dr ?_ (by assumption)) | (refine Bl.trans ?_ (by assumption))))
  have hr : Mem w1 [(⟨w.heap.size, 0, none⟩, .int .i64 mo), (⟨w.heap.size, 1, none⟩, .slice a l.length c)] := by
    refine Mem.bl ?_ hb1
    simp [Mem, go_sem]
  have dsw : w.heap.size < w1.heap.size := by have := hb1.size; simp at this; omega
  clear hb1
  have HA := Lib.hid hr
  
  have hm := hr
  simp only [Mem, VE, List.cons_append, List.nil_append, and_true] at hm
  clear hr
  go_wp2_with fail
  try simp only at hLl hle
  refine (HL.out _ (HO.out.bl hb)).mono ?_; rintro e wa ⟨v, rfl, ⟨vl, rfl, hH⟩, hb1⟩
  obtain ⟨al, cl, rfl, hH1, hcl1, hcl2⟩ := hH
  simp only at hH1 hcl1 ⊢
  have qA := HA.out.bl hb1
  have hbn := hb.trans hb1
  have d1_A : w.heap.size < wa.heap.size := Nat.lt_of_lt_of_le dsw hb1.size
  clear hb hm HA 
  have HA := Lib.hid qA
  have hb := hbn
  have hm := qA
  simp only [Mem, List.cons_append, List.nil_append, and_true] at hm
  clear hbn qA 
  clear hb1
  go_wp2_with fail
  have HH1 := Lib.hid hH1
  clear hH1
  refine (HG.out _ (HO.out.bl hb)).mono ?_; rintro e wb ⟨v, rfl, ⟨vt, rfl, hV⟩, hb1⟩
  obtain ⟨a1, c1, rfl, hV, hF1⟩ := hV
  unfold Tb.v hv
  simp only at hV hF1 ⊢
  have qA := HA.out.bl hb1
  have qfH1 := HH1.out.bl hb1
  have hbn := hb.trans hb1
  have d2_A : w.heap.size < wb.heap.size := Nat.lt_of_lt_of_le d1_A hb1.size
  clear hb hm HA 
  have HA := Lib.hid qA
  clear HH1
  have HH1 := Lib.hid qfH1
  clear qfH1
  have hb := hbn
  have hm := qA
  simp only [Mem, List.cons_append, List.nil_append, and_true] at hm
  clear hbn qA 
  clear hb1
  have qA := ((HA.out.alloc (Obj.cells #[.int .i64 gm, .slice a1 gl.length c1] 24)).alloc (Obj.cells #[.int .i64 hx, .int .i64 hy] 26))
  have qU := ((show Mem (wb.alloc (Obj.cells #[.int .i64 gm, .slice a1 gl.length c1] 24)) [(⟨wb.heap.size, 0, none⟩, .int .i64 gm), (⟨wb.heap.size, 1, none⟩, .slice a1 gl.length c1)] by simp [Mem, go_sem]).alloc (Obj.cells #[.int .i64 hx, .int .i64 hy] 26))
  have qK := (show Mem ((wb.alloc (Obj.cells #[.int .i64 gm, .slice a1 gl.length c1] 24)).alloc (Obj.cells #[.int .i64 hx, .int .i64 hy] 26)) [(⟨wb.heap.size + 1, 0, none⟩, .int .i64 hx), (⟨wb.heap.size + 1, 1, none⟩, .int .i64 hy)] by simp [Mem, go_sem])
  have qT1 := ((hV.bl ((Bl.refl _).alloc (Obj.cells #[.int .i64 gm, .slice a1 gl.length c1] 24))).bl ((Bl.refl _).alloc (Obj.cells #[.int .i64 hx, .int .i64 hy] 26)))
  have qfH1 := ((HH1.out.bl ((Bl.refl _).alloc (Obj.cells #[.int .i64 gm, .slice a1 gl.length c1] 24))).bl ((Bl.refl _).alloc (Obj.cells #[.int .i64 hx, .int .i64 hy] 26)))
  clear HH1
  have HH1 := Lib.hid qfH1
  clear qfH1
  have hbn := ((hb.alloc (Obj.cells #[.int .i64 gm, .slice a1 gl.length c1] 24)).alloc (Obj.cells #[.int .i64 hx, .int .i64 hy] 26))
  have d3_A : w.heap.size < ((wb.alloc (Obj.cells #[.int .i64 gm, .slice a1 gl.length c1] 24)).alloc (Obj.cells #[.int .i64 hx, .int .i64 hy] 26)).heap.size := by simp; omega
  have d3_U : wb.heap.size < ((wb.alloc (Obj.cells #[.int .i64 gm, .slice a1 gl.length c1] 24)).alloc (Obj.cells #[.int .i64 hx, .int .i64 hy] 26)).heap.size := by first | (simp; done) | (simp; omega)
  have d3_K : wb.heap.size + 1 < ((wb.alloc (Obj.cells #[.int .i64 gm, .slice a1 gl.length c1] 24)).alloc (Obj.cells #[.int .i64 hx, .int .i64 hy] 26)).heap.size := by first | (simp; done) | (simp; omega)
  clear hb HA  
  have HA := Lib.hid qA
  have HU := Lib.hid qU
  have HK := Lib.hid qK
  have HT1 := Lib.hid qT1
  have yy := ((qA).app qU).app qK
  simp only [Mem, List.cons_append, List.nil_append, and_true] at yy
  clear qA qU qK qT1
  go_wp2_with fail
  have hb := hbn
  clear hbn hm yy 
  generalize (wb.alloc (Obj.cells #[.int .i64 gm, .slice a1 gl.length c1] 24)).alloc (Obj.cells #[.int .i64 hx, .int .i64 hy] 26) = W1 at *
  have hm := trivial
  go_loopg [8, 9] L.length (fun gg s i wr => ∃ k : Nat, k ≤ L.length ∧ s = .int .i64 (lst L k) ∧ i = .int .i64 k ∧ Bl W1 wr ∧ gg = L.length - k)
  case atStart => exact ⟨0, by omega, rfl, rfl, Bl.refl _, rfl⟩
  case round =>
    obtain ⟨k, hk, rfl, rfl, hbw, hg⟩ := hrel
    have G := Lib.hid hg
    clear hg
    by_cases hkl : k < L.length
    · skip
      obtain ⟨b, off, rfl, hat⟩ := HH1.out.get hkl
      obtain ⟨z, hz⟩ : ∃ z, L[k]? = some z := ⟨_, List.getElem?_eq_getElem hkl⟩
      have d0 := hbw.cell (hat k z hz).1
      have hk0 : (0 : Int) ≤ (k : Int) := by omega
      have hkL : (k : Int) < (L.length : Int) := by omega
      have hzd : L.getD k (0, 0) = z := by rw [List.getD_eq_getElem?_getD, hz]; rfl
      have hls : lst L (k + 1) = if z.1 = lst L k then lst L k + 1 else lst L k := by simp only [lst]; rw [hzd]
      have hlb := lst_le L k
      have q7 : IntKind.i64.wrap (lst L k + 1) = lst L k + 1 := IntWalk.i64_in _ (by omega)
      clear hm
      by_cases hk1 : k = 0
      · subst hk1
        clear hat hz
        have d1 : wr.cell? ⟨b, off, none⟩ = some (.int .i64 z.1) := by simpa using d0
        by_cases hz1 : z.1 = lst L 0
        · have hz2 : (z.1 == lst L 0) = true := by simpa using hz1
          rw [if_pos hz1] at hls
          have HLL := Lib.hid hls
          clear hz1 hls
          go_wp2_with fail
          go_quiet (fail)
          go_wp2_with fail
          go_roundg (L.length - 1)
          case rel => exact ⟨1, by omega, by rw [HLL.out], by go_num, (by repeat (first | assumption | exact Bl.refl _ | apply Bl.drewN | apply Bl.drew | apply Bl.alloc | (refine Bl.dr ?_ (by assumption)) | (refine Bl.trans ?_ (by assumption)))), rfl⟩
          case measure => rw [G.out]; omega
        · have hz2 : (z.1 == lst L 0) = false := by simpa using hz1
          rw [if_neg hz1] at hls
          have HLL := Lib.hid hls
          clear hz1 hls
          go_wp2_with fail
          go_quiet (fail)
          go_wp2_with fail
          go_roundg (L.length - 1)
          case rel => exact ⟨1, by omega, by rw [HLL.out], by go_num, (by repeat (first | assumption | exact Bl.refl _ | apply Bl.drewN | apply Bl.drew | apply Bl.alloc | (refine Bl.dr ?_ (by assumption)) | (refine Bl.trans ?_ (by assumption)))), rfl⟩
          case measure => rw [G.out]; omega
      · obtain ⟨y, hy1⟩ : ∃ y, L[k - 1]? = some y := ⟨_, List.getElem?_eq_getElem (by omega)⟩
        have p0 := hbw.cell (hat (k - 1) y hy1).1
        have hlt : y.1 < z.1 := HAs.out (k - 1) y z hy1 (by rw [show k - 1 + 1 = k by omega]; exact hz)
        have t1 : decide (0 < k) = true := by simp; omega
        have t2 : decide (z.1 ≤ y.1) = false := by simp; omega
        have t3 : (0 : Int) ≤ (k : Int) - 1 := by omega
        have t4 : (k : Int) - 1 < (L.length : Int) := by omega
        have t5 : ((k : Int) - 1).toNat = k - 1 := by omega
        clear hat hz hy1
        by_cases hz1 : z.1 = lst L k
        · have hz2 : (z.1 == lst L k) = true := by simpa using hz1
          rw [if_pos hz1] at hls
          have HLL := Lib.hid hls
          clear hz1 hls
          go_wp2_with fail
          go_quiet (fail)
          go_wp2_with fail
          go_roundg (L.length - (k + 1))
          case rel => exact ⟨k + 1, by omega, by rw [HLL.out], by go_num, (by repeat (first | assumption | exact Bl.refl _ | apply Bl.drewN | apply Bl.drew | apply Bl.alloc | (refine Bl.dr ?_ (by assumption)) | (refine Bl.trans ?_ (by assumption)))), rfl⟩
          case measure => rw [G.out]; omega
        · have hz2 : (z.1 == lst L k) = false := by simpa using hz1
          rw [if_neg hz1] at hls
          have HLL := Lib.hid hls
          clear hz1 hls
          go_wp2_with fail
          go_quiet (fail)
          go_wp2_with fail
          go_roundg (L.length - (k + 1))
          case rel => exact ⟨k + 1, by omega, by rw [HLL.out], by go_num, (by repeat (first | assumption | exact Bl.refl _ | apply Bl.drewN | apply Bl.drew | apply Bl.alloc | (refine Bl.dr ?_ (by assumption)) | (refine Bl.trans ?_ (by assumption)))), rfl⟩
          case measure => rw [G.out]; omega
    · obtain rfl : k = L.length := by omega
      rw [HLs.out]
      clear hm
      have hm := trivial
      have qA := HA.out.bl hbw
      have qU := HU.out.bl hbw
      have qK := HK.out.bl hbw
      have qT1 := HT1.out.bl hbw
      have hbn := hb.trans hbw
      have d4_A : w.heap.size < wr.heap.size := Nat.lt_of_lt_of_le d3_A hbw.size
      have d4_U : wb.heap.size < wr.heap.size := Nat.lt_of_lt_of_le d3_U hbw.size
      have d4_K : wb.heap.size + 1 < wr.heap.size := Nat.lt_of_lt_of_le d3_K hbw.size
      clear hb hm HA HU HK HT1
      have HA := Lib.hid qA
      have HU := Lib.hid qU
      have HK := Lib.hid qK
      have HT1 := Lib.hid qT1
      have hb := hbn
      have hm := ((qA).app qU).app qK
      simp only [Mem, List.cons_append, List.nil_append, and_true] at hm
      clear hbn qA qU qK qT1
      clear hbw
      go_wp2_with fail
      refine (HD.out a1 c1 _ HT1.out hi2).mono ?_; rintro e wc ⟨v, rfl, ⟨vt, rfl, hV⟩, hb1⟩
      obtain ⟨a2, c2, rfl, hV, hF2⟩ := hV
      unfold Tb.v
      simp only at hV hF2 ⊢
      have qA := HA.out.bl hb1
      have qU := HU.out.bl hb1
      have qK := HK.out.bl hb1
      have qT1 := HT1.out.bl hb1
      have hbn := hb.trans hb1
      have d5_A : w.heap.size < wc.heap.size := Nat.lt_of_lt_of_le d4_A hb1.size
      have d5_U : wb.heap.size < wc.heap.size := Nat.lt_of_lt_of_le d4_U hb1.size
      have d5_K : wb.heap.size + 1 < wc.heap.size := Nat.lt_of_lt_of_le d4_K hb1.size
      clear hb hm HA HU HK HT1
      have HA := Lib.hid qA
      have HU := Lib.hid qU
      have HK := Lib.hid qK
      have HT1 := Lib.hid qT1
      have hb := hbn
      have hm := ((qA).app qU).app qK
      simp only [Mem, List.cons_append, List.nil_append, and_true] at hm
      clear hbn qA qU qK qT1
      clear hb1
      have qA := (HA.out.alloc (Obj.cells #[.int .i64 vm, .slice a2 vs.length c2] 24))
      have qU := (HU.out.alloc (Obj.cells #[.int .i64 vm, .slice a2 vs.length c2] 24))
      have qK := (HK.out.alloc (Obj.cells #[.int .i64 vm, .slice a2 vs.length c2] 24))
      have qV := (show Mem (wc.alloc (Obj.cells #[.int .i64 vm, .slice a2 vs.length c2] 24)) [(⟨wc.heap.size, 0, none⟩, .int .i64 vm), (⟨wc.heap.size, 1, none⟩, .slice a2 vs.length c2)] by simp [Mem, go_sem])
      have qT1 := (HT1.out.bl ((Bl.refl _).alloc (Obj.cells #[.int .i64 vm, .slice a2 vs.length c2] 24)))
      have qT2 := (hV.bl ((Bl.refl _).alloc (Obj.cells #[.int .i64 vm, .slice a2 vs.length c2] 24)))
      have hbn := (hb.alloc (Obj.cells #[.int .i64 vm, .slice a2 vs.length c2] 24))
      have d6_A : w.heap.size < (wc.alloc (Obj.cells #[.int .i64 vm, .slice a2 vs.length c2] 24)).heap.size := by simp; omega
      have d6_U : wb.heap.size < (wc.alloc (Obj.cells #[.int .i64 vm, .slice a2 vs.length c2] 24)).heap.size := by simp; omega
      have d6_K : wb.heap.size + 1 < (wc.alloc (Obj.cells #[.int .i64 vm, .slice a2 vs.length c2] 24)).heap.size := by simp; omega
      have d6_V : wc.heap.size < (wc.alloc (Obj.cells #[.int .i64 vm, .slice a2 vs.length c2] 24)).heap.size := by first | (simp; done) | (simp; omega)
      clear hb HA HU HK HT1 
      have HA := Lib.hid qA
      have HU := Lib.hid qU
      have HK := Lib.hid qK
      have HV := Lib.hid qV
      have HT1 := Lib.hid qT1
      have HT2 := Lib.hid qT2
      have yy := (((qA).app qU).app qK).app qV
      simp only [Mem, List.cons_append, List.nil_append, and_true] at yy
      clear qA qU qK qV qT1 qT2
      go_wp2_with fail
      have hb := hbn
      clear hbn hm yy 
      generalize wc.alloc (Obj.cells #[.int .i64 vm, .slice a2 vs.length c2] 24) = W2 at *
      have hm := trivial
      by_cases h9 : hy = 1000000000
      · skip
        have h9' : (hy == 1000000000) = true := by simpa using h9
        have hG2 := fun a c w h => HG2.out a c w h
        rw [E6.out h9] at hG2
        have HG2 := Lib.hid hG2
        clear hG2
        refine (HG2.out a2 c2 _ HT2.out).mono ?_; rintro e wd ⟨v, rfl, ⟨vt, rfl, hV⟩, hb1⟩
        obtain ⟨a3, c3, rfl, hV, hF3⟩ := hV
        unfold tnil Tb.v hv
        simp only [List.length_nil] at hV hF3 ⊢
        have qA := HA.out.bl hb1
        have qU := HU.out.bl hb1
        have qK := HK.out.bl hb1
        have qV := HV.out.bl hb1
        have qT1 := HT1.out.bl hb1
        have qT2 := HT2.out.bl hb1
        have hbn := hb.trans hb1
        have d7_A : w.heap.size < wd.heap.size := Nat.lt_of_lt_of_le d6_A hb1.size
        have d7_U : wb.heap.size < wd.heap.size := Nat.lt_of_lt_of_le d6_U hb1.size
        have d7_K : wb.heap.size + 1 < wd.heap.size := Nat.lt_of_lt_of_le d6_K hb1.size
        have d7_V : wc.heap.size < wd.heap.size := Nat.lt_of_lt_of_le d6_V hb1.size
        clear hb hm HA HU HK HV HT1 HT2
        have HA := Lib.hid qA
        have HU := Lib.hid qU
        have HK := Lib.hid qK
        have HV := Lib.hid qV
        have HT1 := Lib.hid qT1
        have HT2 := Lib.hid qT2
        have hb := hbn
        have hm := (((qA).app qU).app qK).app qV
        simp only [Mem, List.cons_append, List.nil_append, and_true] at hm
        clear hbn qA qU qK qV qT1 qT2
        clear hb1
        have qA := ((HA.out.alloc (Obj.cells #[.int .i64 0, .slice a3 0 c3] 24)).alloc (Obj.cells #[.int .i64 0, .int .i64 0] 26))
        have qU := ((HU.out.alloc (Obj.cells #[.int .i64 0, .slice a3 0 c3] 24)).alloc (Obj.cells #[.int .i64 0, .int .i64 0] 26))
        have qK := ((HK.out.alloc (Obj.cells #[.int .i64 0, .slice a3 0 c3] 24)).alloc (Obj.cells #[.int .i64 0, .int .i64 0] 26))
        have qV := ((HV.out.alloc (Obj.cells #[.int .i64 0, .slice a3 0 c3] 24)).alloc (Obj.cells #[.int .i64 0, .int .i64 0] 26))
        have qS := ((show Mem (wd.alloc (Obj.cells #[.int .i64 0, .slice a3 0 c3] 24)) [(⟨wd.heap.size, 0, none⟩, .int .i64 0), (⟨wd.heap.size, 1, none⟩, .slice a3 0 c3)] by simp [Mem, go_sem]).alloc (Obj.cells #[.int .i64 0, .int .i64 0] 26))
        have qR := (show Mem ((wd.alloc (Obj.cells #[.int .i64 0, .slice a3 0 c3] 24)).alloc (Obj.cells #[.int .i64 0, .int .i64 0] 26)) [(⟨wd.heap.size + 1, 0, none⟩, .int .i64 0), (⟨wd.heap.size + 1, 1, none⟩, .int .i64 0)] by simp [Mem, go_sem])
        have qT1 := ((HT1.out.bl ((Bl.refl _).alloc (Obj.cells #[.int .i64 0, .slice a3 0 c3] 24))).bl ((Bl.refl _).alloc (Obj.cells #[.int .i64 0, .int .i64 0] 26)))
        have qT2 := ((HT2.out.bl ((Bl.refl _).alloc (Obj.cells #[.int .i64 0, .slice a3 0 c3] 24))).bl ((Bl.refl _).alloc (Obj.cells #[.int .i64 0, .int .i64 0] 26)))
        have hbn := ((hb.alloc (Obj.cells #[.int .i64 0, .slice a3 0 c3] 24)).alloc (Obj.cells #[.int .i64 0, .int .i64 0] 26))
        have d8_A : w.heap.size < ((wd.alloc (Obj.cells #[.int .i64 0, .slice a3 0 c3] 24)).alloc (Obj.cells #[.int .i64 0, .int .i64 0] 26)).heap.size := by simp; omega
        have d8_U : wb.heap.size < ((wd.alloc (Obj.cells #[.int .i64 0, .slice a3 0 c3] 24)).alloc (Obj.cells #[.int .i64 0, .int .i64 0] 26)).heap.size := by simp; omega
        have d8_K : wb.heap.size + 1 < ((wd.alloc (Obj.cells #[.int .i64 0, .slice a3 0 c3] 24)).alloc (Obj.cells #[.int .i64 0, .int .i64 0] 26)).heap.size := by simp; omega
        have d8_V : wc.heap.size < ((wd.alloc (Obj.cells #[.int .i64 0, .slice a3 0 c3] 24)).alloc (Obj.cells #[.int .i64 0, .int .i64 0] 26)).heap.size := by simp; omega
        have d8_S : wd.heap.size < ((wd.alloc (Obj.cells #[.int .i64 0, .slice a3 0 c3] 24)).alloc (Obj.cells #[.int .i64 0, .int .i64 0] 26)).heap.size := by first | (simp; done) | (simp; omega)
        have d8_R : wd.heap.size + 1 < ((wd.alloc (Obj.cells #[.int .i64 0, .slice a3 0 c3] 24)).alloc (Obj.cells #[.int .i64 0, .int .i64 0] 26)).heap.size := by first | (simp; done) | (simp; omega)
        clear hb HA HU HK HV HT1 HT2 
        have HA := Lib.hid qA
        have HU := Lib.hid qU
        have HK := Lib.hid qK
        have HV := Lib.hid qV
        have HS := Lib.hid qS
        have HR := Lib.hid qR
        have HT1 := Lib.hid qT1
        have HT2 := Lib.hid qT2
        have yy := (((((qA).app qU).app qK).app qV).app qS).app qR
        simp only [Mem, List.cons_append, List.nil_append, and_true] at yy
        clear qA qU qK qV qS qR qT1 qT2
        go_wp2_with fail
        have hb := hbn
        clear hbn hm yy 
        generalize (wd.alloc (Obj.cells #[.int .i64 0, .slice a3 0 c3] 24)).alloc (Obj.cells #[.int .i64 0, .int .i64 0] 26) = W3 at *
        have hm := trivial
        refine (lawHnShown _).mono ?_; rintro e wn ⟨rfl, hb1⟩
        have hb3 := hb.trans hb1
        go_wp2_with fail
        go_ret
        exact RB.mk rfl hb3
      · skip
        have h9' : (hy == 1000000000) = false := by simpa using h9
        obtain ⟨⟨xm, xs⟩, k1, k2⟩ := E7.out h9
        have hG2 := fun a c w h => HG2.out a c w h
        rw [k1] at hG2
        have hLk := fun a c w h => hnLook a c ⟨xm, xs⟩ hx hy w h hi2
        rw [k2] at hLk
        have HG2 := Lib.hid hG2
        have HLk := Lib.hid hLk
        clear hG2 hLk k1 k2
        refine (HG2.out a2 c2 _ HT2.out).mono ?_; rintro e wd ⟨v, rfl, ⟨vt, rfl, hV⟩, hb1⟩
        obtain ⟨a3, c3, rfl, hV, hF3⟩ := hV
        unfold Tb.v hv
        simp only at hV hF3 ⊢
        have qA := HA.out.bl hb1
        have qU := HU.out.bl hb1
        have qK := HK.out.bl hb1
        have qV := HV.out.bl hb1
        have qT1 := HT1.out.bl hb1
        have qT2 := HT2.out.bl hb1
        have hbn := hb.trans hb1
        have d7_A : w.heap.size < wd.heap.size := Nat.lt_of_lt_of_le d6_A hb1.size
        have d7_U : wb.heap.size < wd.heap.size := Nat.lt_of_lt_of_le d6_U hb1.size
        have d7_K : wb.heap.size + 1 < wd.heap.size := Nat.lt_of_lt_of_le d6_K hb1.size
        have d7_V : wc.heap.size < wd.heap.size := Nat.lt_of_lt_of_le d6_V hb1.size
        clear hb hm HA HU HK HV HT1 HT2
        have HA := Lib.hid qA
        have HU := Lib.hid qU
        have HK := Lib.hid qK
        have HV := Lib.hid qV
        have HT1 := Lib.hid qT1
        have HT2 := Lib.hid qT2
        have hb := hbn
        have hm := (((qA).app qU).app qK).app qV
        simp only [Mem, List.cons_append, List.nil_append, and_true] at hm
        clear hbn qA qU qK qV qT1 qT2
        clear hb1
        have q8 : IntKind.i64.wrap (hy + 1) = hy + 1 := IntWalk.i64_in _ (by omega)
        have qA := ((HA.out.alloc (Obj.cells #[.int .i64 xm, .slice a3 xs.length c3] 24)).alloc (Obj.cells #[.int .i64 hx, .int .i64 (hy + 1)] 26))
        have qU := ((HU.out.alloc (Obj.cells #[.int .i64 xm, .slice a3 xs.length c3] 24)).alloc (Obj.cells #[.int .i64 hx, .int .i64 (hy + 1)] 26))
        have qK := ((HK.out.alloc (Obj.cells #[.int .i64 xm, .slice a3 xs.length c3] 24)).alloc (Obj.cells #[.int .i64 hx, .int .i64 (hy + 1)] 26))
        have qV := ((HV.out.alloc (Obj.cells #[.int .i64 xm, .slice a3 xs.length c3] 24)).alloc (Obj.cells #[.int .i64 hx, .int .i64 (hy + 1)] 26))
        have qS := ((show Mem (wd.alloc (Obj.cells #[.int .i64 xm, .slice a3 xs.length c3] 24)) [(⟨wd.heap.size, 0, none⟩, .int .i64 xm), (⟨wd.heap.size, 1, none⟩, .slice a3 xs.length c3)] by simp [Mem, go_sem]).alloc (Obj.cells #[.int .i64 hx, .int .i64 (hy + 1)] 26))
        have qR := (show Mem ((wd.alloc (Obj.cells #[.int .i64 xm, .slice a3 xs.length c3] 24)).alloc (Obj.cells #[.int .i64 hx, .int .i64 (hy + 1)] 26)) [(⟨wd.heap.size + 1, 0, none⟩, .int .i64 hx), (⟨wd.heap.size + 1, 1, none⟩, .int .i64 (hy + 1))] by simp [Mem, go_sem])
        have qT1 := ((HT1.out.bl ((Bl.refl _).alloc (Obj.cells #[.int .i64 xm, .slice a3 xs.length c3] 24))).bl ((Bl.refl _).alloc (Obj.cells #[.int .i64 hx, .int .i64 (hy + 1)] 26)))
        have qT2 := ((HT2.out.bl ((Bl.refl _).alloc (Obj.cells #[.int .i64 xm, .slice a3 xs.length c3] 24))).bl ((Bl.refl _).alloc (Obj.cells #[.int .i64 hx, .int .i64 (hy + 1)] 26)))
        have qT3 := ((hV.bl ((Bl.refl _).alloc (Obj.cells #[.int .i64 xm, .slice a3 xs.length c3] 24))).bl ((Bl.refl _).alloc (Obj.cells #[.int .i64 hx, .int .i64 (hy + 1)] 26)))
        have hbn := ((hb.alloc (Obj.cells #[.int .i64 xm, .slice a3 xs.length c3] 24)).alloc (Obj.cells #[.int .i64 hx, .int .i64 (hy + 1)] 26))
        have d8_A : w.heap.size < ((wd.alloc (Obj.cells #[.int .i64 xm, .slice a3 xs.length c3] 24)).alloc (Obj.cells #[.int .i64 hx, .int .i64 (hy + 1)] 26)).heap.size := by simp; omega
        have d8_U : wb.heap.size < ((wd.alloc (Obj.cells #[.int .i64 xm, .slice a3 xs.length c3] 24)).alloc (Obj.cells #[.int .i64 hx, .int .i64 (hy + 1)] 26)).heap.size := by simp; omega
        have d8_K : wb.heap.size + 1 < ((wd.alloc (Obj.cells #[.int .i64 xm, .slice a3 xs.length c3] 24)).alloc (Obj.cells #[.int .i64 hx, .int .i64 (hy + 1)] 26)).heap.size := by simp; omega
        have d8_V : wc.heap.size < ((wd.alloc (Obj.cells #[.int .i64 xm, .slice a3 xs.length c3] 24)).alloc (Obj.cells #[.int .i64 hx, .int .i64 (hy + 1)] 26)).heap.size := by simp; omega
        have d8_S : wd.heap.size < ((wd.alloc (Obj.cells #[.int .i64 xm, .slice a3 xs.length c3] 24)).alloc (Obj.cells #[.int .i64 hx, .int .i64 (hy + 1)] 26)).heap.size := by first | (simp; done) | (simp; omega)
        have d8_R : wd.heap.size + 1 < ((wd.alloc (Obj.cells #[.int .i64 xm, .slice a3 xs.length c3] 24)).alloc (Obj.cells #[.int .i64 hx, .int .i64 (hy + 1)] 26)).heap.size := by first | (simp; done) | (simp; omega)
        clear hb HA HU HK HV HT1 HT2 
        have HA := Lib.hid qA
        have HU := Lib.hid qU
        have HK := Lib.hid qK
        have HV := Lib.hid qV
        have HS := Lib.hid qS
        have HR := Lib.hid qR
        have HT1 := Lib.hid qT1
        have HT2 := Lib.hid qT2
        have HT3 := Lib.hid qT3
        have yy := (((((qA).app qU).app qK).app qV).app qS).app qR
        simp only [Mem, List.cons_append, List.nil_append, and_true] at yy
        clear qA qU qK qV qS qR qT1 qT2 qT3
        go_wp2_with fail
        have hb := hbn
        clear hbn hm yy 
        generalize (wd.alloc (Obj.cells #[.int .i64 xm, .slice a3 xs.length c3] 24)).alloc (Obj.cells #[.int .i64 hx, .int .i64 (hy + 1)] 26) = W3 at *
        have hm := trivial
        refine (HLk.out a3 c3 _ HT3.out).mono ?_; rintro e we ⟨rfl, hb1⟩
        have qA := HA.out.bl hb1
        have qU := HU.out.bl hb1
        have qK := HK.out.bl hb1
        have qV := HV.out.bl hb1
        have qS := HS.out.bl hb1
        have qR := HR.out.bl hb1
        have qT1 := HT1.out.bl hb1
        have qT2 := HT2.out.bl hb1
        have qT3 := HT3.out.bl hb1
        have hbn := hb.trans hb1
        have d9_A : w.heap.size < we.heap.size := Nat.lt_of_lt_of_le d8_A hb1.size
        have d9_U : wb.heap.size < we.heap.size := Nat.lt_of_lt_of_le d8_U hb1.size
        have d9_K : wb.heap.size + 1 < we.heap.size := Nat.lt_of_lt_of_le d8_K hb1.size
        have d9_V : wc.heap.size < we.heap.size := Nat.lt_of_lt_of_le d8_V hb1.size
        have d9_S : wd.heap.size < we.heap.size := Nat.lt_of_lt_of_le d8_S hb1.size
        have d9_R : wd.heap.size + 1 < we.heap.size := Nat.lt_of_lt_of_le d8_R hb1.size
        clear hb hm HA HU HK HV HS HR HT1 HT2 HT3
        have HA := Lib.hid qA
        have HU := Lib.hid qU
        have HK := Lib.hid qK
        have HV := Lib.hid qV
        have HS := Lib.hid qS
        have HR := Lib.hid qR
        have HT1 := Lib.hid qT1
        have HT2 := Lib.hid qT2
        have HT3 := Lib.hid qT3
        have hb := hbn
        have hm := (((((qA).app qU).app qK).app qV).app qS).app qR
        simp only [Mem, List.cons_append, List.nil_append, and_true] at hm
        clear hbn qA qU qK qV qS qR qT1 qT2 qT3
        clear hb1
        go_wp2_with fail
        refine (lawHnShown _).mono ?_; rintro e wn ⟨rfl, hb1⟩
        have hb3 := hb.trans hb1
        go_wp2_with fail
        go_ret
        exact RB.mk rfl hb3
theorem lawHnLeast (a : Option Addr) (c : Nat) (t : Tb) (w : World) (h : TOk w a c t) : Calls Tryd.prog 4 #[t.v a c] w (RB w (.bool true)) := by
  by_cases hf : 40 < t.slots.length
  · exact leastFar a c t w h hf
  · obtain ⟨⟨L, le⟩, e4⟩ : ∃ x, tlive t = x := ⟨_, rfl⟩
    obtain ⟨⟨⟨gm, gl⟩, ⟨hx, hy⟩, ge⟩, e3⟩ : ∃ x, tgive t = x := ⟨_, rfl⟩
    by_cases q1 : le = 0
    · subst q1
      by_cases q2 : ge = 0
      · subst q2
        have hc : (tchk t).2 = 0 := by
          by_cases e : (tchk t).2 = 0
          · exact e
          · rw [live_bad e] at e4; exact absurd (congrArg Prod.snd e4) e
        rcases tgive_cases (tchk_good hc) with ⟨h5, -⟩ | ⟨h9, -⟩ | ⟨i, g, hgv⟩
        · have h5' : (0 : Int) = 5 := by rw [e3] at h5; exact h5
          exact absurd h5' (by decide)
        · have h9' : (0 : Int) = 9 := by rw [e3] at h9; exact h9
          exact absurd h9' (by decide)
        · exact leastOk a c t w h hf i g hgv (least_law hgv)
      · exact leastNo2 a c t w h hf L gm hx hy ge gl e3 e4 (by simpa using q2)
    · exact leastNo1 a c t w h hf L gm hx hy ge le gl e3 e4 (by simpa using q1)
end Go.Proofs.YtidclkojekodpaaDoor
