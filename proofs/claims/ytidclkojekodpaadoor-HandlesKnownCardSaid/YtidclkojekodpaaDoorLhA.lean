
/-
  The walk of HandlesKnown.
-/
import Derived.Test.YtidclkojekodpaaDoorHnN
import Derived.Test.YtidclkojekodpaaDoorHnI
import Derived.Test.YtidclkojekodpaaDoorHnJ
import Derived.Test.YtidclkojekodpaaDoorHnV
import Derived.Test.YtidclkojekodpaaDoorHnC
namespace Go.Proofs.YtidclkojekodpaaDoor
open Go.RowKit
set_option linter.unusedSimpArgs false
set_option linter.unusedVariables false
set_option maxRecDepth 100000

def K0 : Tb := ⟨3, []⟩
def K1 : Tb := ⟨3, [⟨1, true⟩]⟩
def K2 : Tb := ⟨3, [⟨1, true⟩, ⟨1, true⟩]⟩
def K3 : Tb := ⟨3, [⟨1, true⟩, ⟨1, true⟩, ⟨1, true⟩]⟩
theorem k0_give : tgive K0 = (K1, (1, 1), 0) := by rfl
theorem k1_give : tgive K1 = (K2, (2, 1), 0) := by rfl
theorem k2_give : tgive K2 = (K3, (3, 1), 0) := by rfl
theorem k3_drop : tdrop K3 (2, 1) = (T0, 0) := by rfl
theorem k4_look : tlook T0 (4, 1) = (0, 4) := by rfl
theorem k5_live : tlive T1 = ([(1, 1), (2, 2), (3, 1)], 0) := by rfl
theorem k5_given : tgiven T1 = (4, 0) := by rfl
theorem k_new : tnew 3 = (K0, 0) := by rfl
theorem hnds_lit (w : World) : Hnds (w.alloc (Obj.cells #[.int .i64 1, .int .i64 1, .int .i64 2, .int .i64 2, .int .i64 3, .int .i64 1] 26)) (some ⟨w.heap.size, 0, none⟩) [(1, 1), (2, 2), (3, 1)] := by
  refine ⟨fun _ => ⟨w.heap.size, 0, rfl, ?_⟩⟩
  intro i s hs
  match i, hs with
  | 0, hs => simp at hs; subst hs; exact ⟨by simp [go_sem], by simp [go_sem]⟩
  | 1, hs => simp at hs; subst hs; exact ⟨by simp [go_sem], by simp [go_sem]⟩
  | 2, hs => simp at hs; subst hs; exact ⟨by simp [go_sem], by simp [go_sem]⟩
  | i + 3, hs => simp at hs
set_option maxHeartbeats 8000000 in
theorem lawHnKnown (w : World) : Calls Tryd.prog 8 #[] w (RB w (.bool true)) := by
  have hN := fun w => hnNew 3 w
  have hG := fun a c t w h => hnGive a c t w h
  have hD := fun a c t i g w h hi => hnDrop a c t i g w h hi
  have hL := fun a c t i g w h hi => hnLook a c t i g w h hi
  rw [k_new] at hN
  have HN := Lib.hid hN
  have HG := Lib.hid hG
  have HD := Lib.hid hD
  have HL := Lib.hid hL
  clear hN hG hD hL
  go_enter Tryd.func8, Tryd.ntmps8
  go_wp2_with fail
  refine (HN.out _).mono ?_; rintro e w1 ⟨rfl, hb1⟩
  unfold K0
  simp only
  obtain ⟨A, hA⟩ : ∃ A, A = w1.heap.size := ⟨_, rfl⟩
  have hs0 := hb1.size
  have hr : Mem (w1.alloc (Obj.cells #[.int .i64 3, .slice none 0 0] 24)) [(⟨A, 0, none⟩, .int .i64 3), (⟨A, 1, none⟩, .slice none 0 0)] := by subst hA; simp [Mem, go_sem]
  have hh : Mem (w1.alloc (Obj.cells #[.int .i64 3, .slice none 0 0] 24)) [] := trivial
  have hT : TOk (w1.alloc (Obj.cells #[.int .i64 3, .slice none 0 0] 24)) none 0 K0 := ⟨slots_nil _, Nat.le_refl _, by unfold maxLen; omega, by decide, by decide⟩
  have hb := hb1.alloc (Obj.cells #[.int .i64 3, .slice none 0 0] 24)
  have hAs : A < (w1.alloc (Obj.cells #[.int .i64 3, .slice none 0 0] 24)).heap.size := by simp; omega
  have HR := Lib.hid hr
  have HH := Lib.hid hh
  have HT := Lib.hid hT
  clear hr hh hT hb1
  have hm := trivial
  go_wp2_with fail
  rw [← hA]
  have hwA : w.heap.size ≤ A := by omega
  clear hs0
  generalize w1.alloc (Obj.cells #[.int .i64 3, .slice none 0 0] 24) = W0 at *
  clear hA
  refine (HG.out none 0 K0 _ HT.out).mono ?_; rintro e wa ⟨v, rfl, ⟨vt, rfl, hV⟩, hb1⟩
  rw [k0_give] at hV ⊢
  obtain ⟨a1, c1, rfl, hV, hF⟩ := hV
  unfold K1 Tb.v hv
  simp only [List.length_cons, List.length_nil, Nat.reduceAdd]
  have hr := HR.out.bl hb1
  have hh := HH.out.bl hb1
  have hbn := hb.trans hb1
  have hs1 : A < (wa).heap.size := Nat.lt_of_lt_of_le hAs hb1.size
  clear hb HR HH hm HT
  
  have hm := hr
  simp only [Mem, VE, List.cons_append, List.nil_append, and_true] at hm
  have hr2 : Mem (((wa).setCell ⟨A, 0, none⟩ (.int .i64 3)).setCell ⟨A, 1, none⟩ (.slice a1 1 c1)) [(⟨A, 0, none⟩, .int .i64 3), (⟨A, 1, none⟩, .slice a1 1 c1)] := by simp [Mem, go_sem, hm]
  have hr3 := hr2.alloc (Obj.cells #[.int .i64 1, .int .i64 1] 26)
  have hh2 := ((hh.off A 0 (.int .i64 3) (by intro q hq; simp at hq; first | done | (rcases hq with rfl | rfl | rfl | rfl | rfl | rfl | rfl | rfl <;> simp <;> omega) | (rcases hq with rfl | rfl | rfl | rfl <;> simp <;> omega) | (rcases hq with rfl | rfl <;> simp <;> omega))).off A 1 (.slice a1 1 c1) (by intro q hq; simp at hq; first | done | (rcases hq with rfl | rfl | rfl | rfl | rfl | rfl | rfl | rfl <;> simp <;> omega) | (rcases hq with rfl | rfl | rfl | rfl <;> simp <;> omega) | (rcases hq with rfl | rfl <;> simp <;> omega))).alloc (Obj.cells #[.int .i64 1, .int .i64 1] 26)
  have hh3 : Mem ((((wa).setCell ⟨A, 0, none⟩ (.int .i64 3)).setCell ⟨A, 1, none⟩ (.slice a1 1 c1)).alloc (Obj.cells #[.int .i64 1, .int .i64 1] 26)) [(⟨(wa).heap.size, 0, none⟩, .int .i64 1), (⟨(wa).heap.size, 1, none⟩, .int .i64 1)] := by simp [Mem, go_sem]
  have hh4 := hh2.app hh3
  have hT2 := ((hV.set hF (p := ⟨A, 0, none⟩) hAs (.int .i64 3)).set hF (p := ⟨A, 1, none⟩) hAs (.slice a1 1 c1)).bl ((Bl.refl _).alloc (Obj.cells #[.int .i64 1, .int .i64 1] 26))
  have hb2 := ((hbn.setCell ⟨A, 0, none⟩ (by simp only; omega) (.int .i64 3)).setCell ⟨A, 1, none⟩ (by simp only; omega) (.slice a1 1 c1)).alloc (Obj.cells #[.int .i64 1, .int .i64 1] 26)
  have hs2 : A < ((((wa).setCell ⟨A, 0, none⟩ (.int .i64 3)).setCell ⟨A, 1, none⟩ (.slice a1 1 c1)).alloc (Obj.cells #[.int .i64 1, .int .i64 1] 26)).heap.size := by simp; omega
  have hz1 := hr.alloc (Obj.cells #[.int .i64 0, .int .i64 0] 26)
  have hz2 : Mem (((wa).setCell ⟨A, 0, none⟩ (.int .i64 3)).alloc (Obj.cells #[.int .i64 0, .int .i64 0] 26)) [(⟨A, 1, none⟩, .slice none 0 0)] := Mem.alloc (by simp [Mem, go_sem, hm]) _
  simp only [Mem, and_true] at hz1 hz2
  have HR := Lib.hid hr3
  have HH := Lib.hid hh4
  have HT := Lib.hid hT2
  clear hr hr2 hr3 hh hh2 hh3 hh4 hV hF hT2 hbn hb1 hAs
  have hyy := HH.out
  simp only [Mem, List.cons_append, List.nil_append, and_true] at hyy
  go_wp2_with fail
  clear hm hz1 hz2 hyy
  have hb := hb2
  have hAs := hs2
  clear hb2 hs2
  generalize (((wa).setCell ⟨A, 0, none⟩ (.int .i64 3)).setCell ⟨A, 1, none⟩ (.slice a1 1 c1)).alloc (Obj.cells #[.int .i64 1, .int .i64 1] 26) = W1 at *
  have hm := trivial
  refine (HG.out a1 c1 K1 _ HT.out).mono ?_; rintro e wb ⟨v, rfl, ⟨vt, rfl, hV⟩, hb1⟩
  rw [k1_give] at hV ⊢
  obtain ⟨a2, c2, rfl, hV, hF⟩ := hV
  unfold K2 Tb.v hv
  simp only [List.length_cons, List.length_nil, Nat.reduceAdd]
  have hr := HR.out.bl hb1
  have hh := HH.out.bl hb1
  have hbn := hb.trans hb1
  have hs1 : A < (wb).heap.size := Nat.lt_of_lt_of_le hAs hb1.size
  clear hb HR HH hm HT
  
  have hm := hr
  simp only [Mem, VE, List.cons_append, List.nil_append, and_true] at hm
  have hr2 : Mem (((wb).setCell ⟨A, 0, none⟩ (.int .i64 3)).setCell ⟨A, 1, none⟩ (.slice a2 2 c2)) [(⟨A, 0, none⟩, .int .i64 3), (⟨A, 1, none⟩, .slice a2 2 c2)] := by simp [Mem, go_sem, hm]
  have hr3 := hr2.alloc (Obj.cells #[.int .i64 2, .int .i64 1] 26)
  have hh2 := ((hh.off A 0 (.int .i64 3) (by intro q hq; simp at hq; first | done | (rcases hq with rfl | rfl | rfl | rfl | rfl | rfl | rfl | rfl <;> simp <;> omega) | (rcases hq with rfl | rfl | rfl | rfl <;> simp <;> omega) | (rcases hq with rfl | rfl <;> simp <;> omega))).off A 1 (.slice a2 2 c2) (by intro q hq; simp at hq; first | done | (rcases hq with rfl | rfl | rfl | rfl | rfl | rfl | rfl | rfl <;> simp <;> omega) | (rcases hq with rfl | rfl | rfl | rfl <;> simp <;> omega) | (rcases hq with rfl | rfl <;> simp <;> omega))).alloc (Obj.cells #[.int .i64 2, .int .i64 1] 26)
  have hh3 : Mem ((((wb).setCell ⟨A, 0, none⟩ (.int .i64 3)).setCell ⟨A, 1, none⟩ (.slice a2 2 c2)).alloc (Obj.cells #[.int .i64 2, .int .i64 1] 26)) [(⟨(wb).heap.size, 0, none⟩, .int .i64 2), (⟨(wb).heap.size, 1, none⟩, .int .i64 1)] := by simp [Mem, go_sem]
  have hh4 := hh2.app hh3
  have hT2 := ((hV.set hF (p := ⟨A, 0, none⟩) hAs (.int .i64 3)).set hF (p := ⟨A, 1, none⟩) hAs (.slice a2 2 c2)).bl ((Bl.refl _).alloc (Obj.cells #[.int .i64 2, .int .i64 1] 26))
  have hb2 := ((hbn.setCell ⟨A, 0, none⟩ (by simp only; omega) (.int .i64 3)).setCell ⟨A, 1, none⟩ (by simp only; omega) (.slice a2 2 c2)).alloc (Obj.cells #[.int .i64 2, .int .i64 1] 26)
  have hs2 : A < ((((wb).setCell ⟨A, 0, none⟩ (.int .i64 3)).setCell ⟨A, 1, none⟩ (.slice a2 2 c2)).alloc (Obj.cells #[.int .i64 2, .int .i64 1] 26)).heap.size := by simp; omega
  have hz1 := hr.alloc (Obj.cells #[.int .i64 0, .int .i64 0] 26)
  have hz2 : Mem (((wb).setCell ⟨A, 0, none⟩ (.int .i64 3)).alloc (Obj.cells #[.int .i64 0, .int .i64 0] 26)) [(⟨A, 1, none⟩, .slice a1 1 c1)] := Mem.alloc (by simp [Mem, go_sem, hm]) _
  simp only [Mem, and_true] at hz1 hz2
  have HR := Lib.hid hr3
  have HH := Lib.hid hh4
  have HT := Lib.hid hT2
  clear hr hr2 hr3 hh hh2 hh3 hh4 hV hF hT2 hbn hb1 hAs
  have hyy := HH.out
  simp only [Mem, List.cons_append, List.nil_append, and_true] at hyy
  go_wp2_with fail
  clear hm hz1 hz2 hyy
  have hb := hb2
  have hAs := hs2
  clear hb2 hs2
  generalize (((wb).setCell ⟨A, 0, none⟩ (.int .i64 3)).setCell ⟨A, 1, none⟩ (.slice a2 2 c2)).alloc (Obj.cells #[.int .i64 2, .int .i64 1] 26) = W2 at *
  have hm := trivial
  refine (HG.out a2 c2 K2 _ HT.out).mono ?_; rintro e wc ⟨v, rfl, ⟨vt, rfl, hV⟩, hb1⟩
  rw [k2_give] at hV ⊢
  obtain ⟨a3, c3, rfl, hV, hF⟩ := hV
  unfold K3 Tb.v hv
  simp only [List.length_cons, List.length_nil, Nat.reduceAdd]
  have hr := HR.out.bl hb1
  have hh := HH.out.bl hb1
  have hbn := hb.trans hb1
  have hs1 : A < (wc).heap.size := Nat.lt_of_lt_of_le hAs hb1.size
  clear hb HR HH hm HT
  
  have hm := hr
  simp only [Mem, VE, List.cons_append, List.nil_append, and_true] at hm
  have hr2 : Mem (((wc).setCell ⟨A, 0, none⟩ (.int .i64 3)).setCell ⟨A, 1, none⟩ (.slice a3 3 c3)) [(⟨A, 0, none⟩, .int .i64 3), (⟨A, 1, none⟩, .slice a3 3 c3)] := by simp [Mem, go_sem, hm]
  have hr3 := hr2.alloc (Obj.cells #[.int .i64 3, .int .i64 1] 26)
  have hh2 := ((hh.off A 0 (.int .i64 3) (by intro q hq; simp at hq; first | done | (rcases hq with rfl | rfl | rfl | rfl | rfl | rfl | rfl | rfl <;> simp <;> omega) | (rcases hq with rfl | rfl | rfl | rfl <;> simp <;> omega) | (rcases hq with rfl | rfl <;> simp <;> omega))).off A 1 (.slice a3 3 c3) (by intro q hq; simp at hq; first | done | (rcases hq with rfl | rfl | rfl | rfl | rfl | rfl | rfl | rfl <;> simp <;> omega) | (rcases hq with rfl | rfl | rfl | rfl <;> simp <;> omega) | (rcases hq with rfl | rfl <;> simp <;> omega))).alloc (Obj.cells #[.int .i64 3, .int .i64 1] 26)
  have hh3 : Mem ((((wc).setCell ⟨A, 0, none⟩ (.int .i64 3)).setCell ⟨A, 1, none⟩ (.slice a3 3 c3)).alloc (Obj.cells #[.int .i64 3, .int .i64 1] 26)) [(⟨(wc).heap.size, 0, none⟩, .int .i64 3), (⟨(wc).heap.size, 1, none⟩, .int .i64 1)] := by simp [Mem, go_sem]
  have hh4 := hh2.app hh3
  have hT2 := ((hV.set hF (p := ⟨A, 0, none⟩) hAs (.int .i64 3)).set hF (p := ⟨A, 1, none⟩) hAs (.slice a3 3 c3)).bl ((Bl.refl _).alloc (Obj.cells #[.int .i64 3, .int .i64 1] 26))
  have hb2 := ((hbn.setCell ⟨A, 0, none⟩ (by simp only; omega) (.int .i64 3)).setCell ⟨A, 1, none⟩ (by simp only; omega) (.slice a3 3 c3)).alloc (Obj.cells #[.int .i64 3, .int .i64 1] 26)
  have hs2 : A < ((((wc).setCell ⟨A, 0, none⟩ (.int .i64 3)).setCell ⟨A, 1, none⟩ (.slice a3 3 c3)).alloc (Obj.cells #[.int .i64 3, .int .i64 1] 26)).heap.size := by simp; omega
  have hz1 := hr.alloc (Obj.cells #[.int .i64 0, .int .i64 0] 26)
  have hz2 : Mem (((wc).setCell ⟨A, 0, none⟩ (.int .i64 3)).alloc (Obj.cells #[.int .i64 0, .int .i64 0] 26)) [(⟨A, 1, none⟩, .slice a2 2 c2)] := Mem.alloc (by simp [Mem, go_sem, hm]) _
  simp only [Mem, and_true] at hz1 hz2
  have HR := Lib.hid hr3
  have HH := Lib.hid hh4
  have HT := Lib.hid hT2
  clear hr hr2 hr3 hh hh2 hh3 hh4 hV hF hT2 hbn hb1 hAs
  have hyy := HH.out
  simp only [Mem, List.cons_append, List.nil_append, and_true] at hyy
  go_wp2_with fail
  clear hm hz1 hz2 hyy
  have hb := hb2
  have hAs := hs2
  clear hb2 hs2
  generalize (((wc).setCell ⟨A, 0, none⟩ (.int .i64 3)).setCell ⟨A, 1, none⟩ (.slice a3 3 c3)).alloc (Obj.cells #[.int .i64 3, .int .i64 1] 26) = W3 at *
  have hm := trivial
  refine (HD.out a3 c3 K3 2 1 _ HT.out (by omega)).mono ?_; rintro e wd ⟨v, rfl, ⟨vt, rfl, hV⟩, hb1⟩
  rw [k3_drop] at hV ⊢
  obtain ⟨a4, c4, rfl, hV, hF⟩ := hV
  unfold T0 Tb.v
  simp only [List.length_cons, List.length_nil, Nat.reduceAdd]
  have hr := HR.out.bl hb1
  have hh := HH.out.bl hb1
  have hbn := hb.trans hb1
  have hs1 : A < wd.heap.size := Nat.lt_of_lt_of_le hAs hb1.size
  clear hb HR HH hm HT
  
  have hm := hr
  simp only [Mem, VE, List.cons_append, List.nil_append, and_true] at hm
  have hr2 : Mem ((wd.setCell ⟨A, 0, none⟩ (.int .i64 3)).setCell ⟨A, 1, none⟩ (.slice a4 3 c4)) [(⟨A, 0, none⟩, .int .i64 3), (⟨A, 1, none⟩, .slice a4 3 c4)] := by simp [Mem, go_sem, hm]
  have hh2 := (hh.off A 0 (.int .i64 3) (by intro q hq; simp at hq; rcases hq with rfl | rfl | rfl | rfl | rfl | rfl <;> simp <;> omega)).off A 1 (.slice a4 3 c4) (by intro q hq; simp at hq; rcases hq with rfl | rfl | rfl | rfl | rfl | rfl <;> simp <;> omega)
  have hT2 := (hV.set hF (p := ⟨A, 0, none⟩) hAs (.int .i64 3)).set hF (p := ⟨A, 1, none⟩) hAs (.slice a4 3 c4)
  have hb2 := (hbn.setCell ⟨A, 0, none⟩ (by simp only; omega) (.int .i64 3)).setCell ⟨A, 1, none⟩ (by simp only; omega) (.slice a4 3 c4)
  have hs2 : A < ((wd.setCell ⟨A, 0, none⟩ (.int .i64 3)).setCell ⟨A, 1, none⟩ (.slice a4 3 c4)).heap.size := by simp; omega
  have HR := Lib.hid hr2
  have HH := Lib.hid hh2
  have HT := Lib.hid hT2
  clear hr hr2 hh hh2 hV hF hT2 hbn hb1 hAs
  go_wp2_with fail
  clear hm
  have hb := hb2
  have hAs := hs2
  clear hb2 hs2
  generalize (wd.setCell ⟨A, 0, none⟩ (.int .i64 3)).setCell ⟨A, 1, none⟩ (.slice a4 3 c4) = W4 at *
  refine (HL.out a4 c4 T0 4 1 _ HT.out (by omega)).mono ?_; rintro e W5 ⟨rfl, hb1⟩
  rw [k4_look]
  have hr := HR.out.bl hb1
  have hh := HH.out.bl hb1
  have hT2 := HT.out.bl hb1
  have hbn := hb.trans hb1
  have hs1 : A < W5.heap.size := Nat.lt_of_lt_of_le hAs hb1.size
  clear hb HR HH HT hAs hb1
  have HR := Lib.hid hr
  have HH := Lib.hid hh
  have HT := Lib.hid hT2
  have hb := hbn
  have hAs := hs1
  
  have hm := hr
  simp only [Mem, VE, List.cons_append, List.nil_append, and_true] at hm
  clear hr hh hT2 hbn
  go_wp2_with fail
  clear hm
  have hm := trivial
  refine (HG.out a4 c4 T0 _ HT.out).mono ?_; rintro e we ⟨v, rfl, ⟨vt, rfl, hV⟩, hb1⟩
  rw [t0_give] at hV ⊢
  obtain ⟨a5, c5, rfl, hV, hF⟩ := hV
  unfold T1 Tb.v hv
  simp only [List.length_cons, List.length_nil, Nat.reduceAdd]
  have hr := HR.out.bl hb1
  have hh := HH.out.bl hb1
  have hbn := hb.trans hb1
  have hs1 : A < (we).heap.size := Nat.lt_of_lt_of_le hAs hb1.size
  clear hb HR HH hm HT
  
  have hm := hr
  simp only [Mem, VE, List.cons_append, List.nil_append, and_true] at hm
  have hr2 : Mem (((we).setCell ⟨A, 0, none⟩ (.int .i64 3)).setCell ⟨A, 1, none⟩ (.slice a5 3 c5)) [(⟨A, 0, none⟩, .int .i64 3), (⟨A, 1, none⟩, .slice a5 3 c5)] := by simp [Mem, go_sem, hm]
  have hr3 := hr2.alloc (Obj.cells #[.int .i64 2, .int .i64 2] 26)
  have hh2 := ((hh.off A 0 (.int .i64 3) (by intro q hq; simp at hq; first | done | (rcases hq with rfl | rfl | rfl | rfl | rfl | rfl | rfl | rfl <;> simp <;> omega) | (rcases hq with rfl | rfl | rfl | rfl <;> simp <;> omega) | (rcases hq with rfl | rfl <;> simp <;> omega))).off A 1 (.slice a5 3 c5) (by intro q hq; simp at hq; first | done | (rcases hq with rfl | rfl | rfl | rfl | rfl | rfl | rfl | rfl <;> simp <;> omega) | (rcases hq with rfl | rfl | rfl | rfl <;> simp <;> omega) | (rcases hq with rfl | rfl <;> simp <;> omega))).alloc (Obj.cells #[.int .i64 2, .int .i64 2] 26)
  have hh3 : Mem ((((we).setCell ⟨A, 0, none⟩ (.int .i64 3)).setCell ⟨A, 1, none⟩ (.slice a5 3 c5)).alloc (Obj.cells #[.int .i64 2, .int .i64 2] 26)) [(⟨(we).heap.size, 0, none⟩, .int .i64 2), (⟨(we).heap.size, 1, none⟩, .int .i64 2)] := by simp [Mem, go_sem]
  have hh4 := hh2.app hh3
  have hT2 := ((hV.set hF (p := ⟨A, 0, none⟩) hAs (.int .i64 3)).set hF (p := ⟨A, 1, none⟩) hAs (.slice a5 3 c5)).bl ((Bl.refl _).alloc (Obj.cells #[.int .i64 2, .int .i64 2] 26))
  have hb2 := ((hbn.setCell ⟨A, 0, none⟩ (by simp only; omega) (.int .i64 3)).setCell ⟨A, 1, none⟩ (by simp only; omega) (.slice a5 3 c5)).alloc (Obj.cells #[.int .i64 2, .int .i64 2] 26)
  have hs2 : A < ((((we).setCell ⟨A, 0, none⟩ (.int .i64 3)).setCell ⟨A, 1, none⟩ (.slice a5 3 c5)).alloc (Obj.cells #[.int .i64 2, .int .i64 2] 26)).heap.size := by simp; omega
  have hz1 := hr.alloc (Obj.cells #[.int .i64 0, .int .i64 0] 26)
  have hz2 : Mem (((we).setCell ⟨A, 0, none⟩ (.int .i64 3)).alloc (Obj.cells #[.int .i64 0, .int .i64 0] 26)) [(⟨A, 1, none⟩, .slice a4 3 c4)] := Mem.alloc (by simp [Mem, go_sem, hm]) _
  simp only [Mem, and_true] at hz1 hz2
  have HR := Lib.hid hr3
  have HH := Lib.hid hh4
  have HT := Lib.hid hT2
  clear hr hr2 hr3 hh hh2 hh3 hh4 hV hF hT2 hbn hb1 hAs
  have hyy := HH.out
  simp only [Mem, List.cons_append, List.nil_append, and_true] at hyy
  go_wp2_with fail
  clear hm hz1 hz2 hyy
  have hb := hb2
  have hAs := hs2
  clear hb2 hs2
  generalize (((we).setCell ⟨A, 0, none⟩ (.int .i64 3)).setCell ⟨A, 1, none⟩ (.slice a5 3 c5)).alloc (Obj.cells #[.int .i64 2, .int .i64 2] 26) = W6 at *
  have hm := trivial
  refine (hnLive a5 c5 T1 _ HT.out).mono ?_; rintro e W7 ⟨v, rfl, ⟨vl, rfl, hH⟩, hb1⟩
  rw [k5_live] at *
  have hr := HR.out.bl hb1
  have hh := HH.out.bl hb1
  have hT2 := HT.out.bl hb1
  have hbn := hb.trans hb1
  have hs1 : A < (W7).heap.size := Nat.lt_of_lt_of_le hAs hb1.size
  have hbk := hb1
  clear hb HR HH HT hAs hb1 hm
  have HR := Lib.hid hr
  have HH := Lib.hid hh
  have HT := Lib.hid hT2
  have hb := hbn
  have hAs := hs1
  have hyy := HH.out
  simp only [Mem, List.cons_append, List.nil_append, and_true] at hyy
  
  have hm := hr
  simp only [Mem, VE, List.cons_append, List.nil_append, and_true] at hm
  clear hr hh hT2 hbn hs1
  obtain ⟨al, cl, rfl, hH, -, -⟩ := hH
  have HHd := Lib.hid hH
  simp only [List.length_cons, List.length_nil, Nat.reduceAdd]
  clear hH
  go_wp2_with fail
  clear hyy hbk
  refine (hnGiven a5 c5 T1 _ HT.out).mono ?_; rintro e W8 ⟨rfl, hb1⟩
  rw [k5_given] at *
  have hr := HR.out.bl hb1
  have hh := HH.out.bl hb1
  have hT2 := HT.out.bl hb1
  have hbn := hb.trans hb1
  have hs1 : A < (W8).heap.size := Nat.lt_of_lt_of_le hAs hb1.size
  have hbk := hb1
  clear hb HR HH HT hAs hb1 hm
  have HR := Lib.hid hr
  have HH := Lib.hid hh
  have HT := Lib.hid hT2
  have hb := hbn
  have hAs := hs1
  have hyy := HH.out
  simp only [Mem, List.cons_append, List.nil_append, and_true] at hyy
  
  have hm := hr
  simp only [Mem, VE, List.cons_append, List.nil_append, and_true] at hm
  clear hr hh hT2 hbn hs1
  have hH8 := HHd.out.bl hbk
  have HHd := Lib.hid hH8
  clear hH8
  go_wp2_with fail
  refine (refHnHandles al cl (some ⟨W8.heap.size, 0, none⟩) 3 [(1, 1), (2, 2), (3, 1)] _ (HHd.out.bl ((Bl.refl _).alloc _)) (hnds_lit _) (by decide)).mono ?_; rintro e W9 ⟨rfl, hb1⟩
  have hb2 := (hb.alloc _).trans hb1
  clear hm hyy hb1 hbk
  go_wp2_with fail
  refine (lawHnShown _).mono ?_; rintro e W10 ⟨rfl, hb1⟩
  have hb3 := hb2.trans hb1
  go_wp2_with fail
  go_ret
  exact RB.mk rfl hb3
end Go.Proofs.YtidclkojekodpaaDoor
