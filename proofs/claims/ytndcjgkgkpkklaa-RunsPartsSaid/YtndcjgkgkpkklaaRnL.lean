
/-
  The law RunsParts, walked.
-/
import Derived.Test.YtndcjgkgkpkklaaRnJ
import Derived.Test.YtndcjgkgkpkklaaRnH
namespace Go.Proofs.Ytndcjgkgkpkklaa
open Go.RowKit
set_option linter.unusedSimpArgs false
set_option linter.unusedVariables false
set_option maxRecDepth 100000

set_option maxHeartbeats 8000000 in
theorem lawParts (a : Option Addr) (c : Nat) (r : Rn) (a2 : Option Addr) (c2 : Nat) (s : Rn) (x : Rng) (w : World) (h : ROk w a c r) (k : ROk w a2 c2 s) (hx : x.ok) :
    Calls Try.prog 7 #[r.v a c, s.v a2 c2, x.v] w (RB w (.bool true)) := by
  have HA := Lib.hid (fun w => lawRunAwake w)
  have h0 := fun w h => lawRunFar a c r w h
  have h0' := fun w h => lawRunFar a2 c2 s w h
  have h1 := fun w h => runPart a c r x w h hx
  have h2 := fun w h => refRunPart a c r x w h hx
  have h3 := fun w h => runCount a c r x w h hx
  have h4 := fun w h => refRunCount a c r x w h hx
  have h5 := fun w h => runCover a c r w h
  have h6 := fun w h => refRunCover a c r w h
  have h7 := fun w h k => runOverlap a c r a2 c2 s w h k
  have h8 := fun w h k => refRunOverlap a c r a2 c2 s w h k
  generalize (rpart r x).1 = v1 at *
  generalize (rpart r x).2.1 = v2 at *
  generalize (rpart r x).2.2 = v3 at *
  generalize (rcount r x).1 = v4 at *
  generalize (rcount r x).2.1 = v5 at *
  generalize (rcount r x).2.2 = v6 at *
  generalize (rcov r).1 = P at *
  generalize (rcov r).2 = v7 at *
  generalize (rover r s).1 = v8 at *
  generalize (rover r s).2 = v9 at *
  obtain ⟨hx1, hx2⟩ := hx
  have HO := Lib.hid h
  have KO := Lib.hid k
  obtain ⟨id, l⟩ := r
  obtain ⟨id2, m⟩ := s
  obtain ⟨lo, hi, bd⟩ := x
  obtain ⟨plo, phi, pbd⟩ := P
  unfold Rn.v Rng.v at *
  simp only at h0 h0' h1 h2 h3 h4 h5 h6 h7 h8 hx1 hx2 ⊢
  have H0 := Lib.hid h0
  have H0' := Lib.hid h0'
  have H1 := Lib.hid h1
  have H2 := Lib.hid h2
  have H3 := Lib.hid h3
  have H4 := Lib.hid h4
  have H5 := Lib.hid h5
  have H6 := Lib.hid h6
  have H7 := Lib.hid h7
  have H8 := Lib.hid h8
  unfold maxLen at hx1 hx2
  clear h0 h0' h1 h2 h3 h4 h5 h6 h7 h8 h k
  go_enter Try.func7, Try.ntmps7
  go_wp2_with fail
  refine (H0.out _ (HO.out.bl (by repeat (first | assumption | exact Bl.refl _ | apply Bl.drewN | apply Bl.drew | apply Bl.alloc | (refine Bl.dr ?_ (by assumption)) | (refine Bl.trans ?_ (by assumption)))))).mono ?_; rintro e w1 ⟨fb, rfl, hb1⟩
  have hr : Mem w1 [(⟨w.heap.size, 0, none⟩, .int .i64 id), (⟨w.heap.size, 1, none⟩, .slice a l.length c), (⟨w.heap.size + 1, 0, none⟩, .int .i64 id2), (⟨w.heap.size + 1, 1, none⟩, .slice a2 m.length c2), (⟨w.heap.size + 2, 0, none⟩, .string lo), (⟨w.heap.size + 2, 1, none⟩, .string hi), (⟨w.heap.size + 2, 2, none⟩, .bool bd)] :=
    Mem.bl (w := ((w.alloc (Obj.cells #[.int .i64 id, .slice a l.length c] 24)).alloc (Obj.cells #[.int .i64 id2, .slice a2 m.length c2] 24)).alloc (Obj.cells #[.string lo, .string hi, .bool bd] 39)) (by simp [Mem, go_sem]) hb1
  have HR := Lib.hid hr
  
  have hm := hr
  simp only [Mem, VE, List.cons_append, List.nil_append, and_true] at hm
  have hb : Bl w w1 := (by repeat (first | assumption | exact Bl.refl _ | apply Bl.drewN | apply Bl.drew | apply Bl.alloc | (refine Bl.dr ?_ (by assumption)) | (refine Bl.trans ?_ (by assumption))))
  clear hr hb1
  cases fb
  case true =>
    
    go_wp2_with fail
    refine (HA.out _).mono ?_; rintro e w8 ⟨rfl, hb8⟩
    go_wp2_with fail
    go_ret
    exact RB.mk rfl (by repeat (first | assumption | exact Bl.refl _ | apply Bl.drewN | apply Bl.drew | apply Bl.alloc | (refine Bl.dr ?_ (by assumption)) | (refine Bl.trans ?_ (by assumption))))
  go_wp2_with fail
  refine (H0'.out _ (KO.out.bl hb)).mono ?_; rintro e w2 ⟨fb, rfl, hb1⟩
  have hr := HR.out.bl hb1
  have hb := Bl.trans hb hb1
  clear HR hm
  have HR := Lib.hid hr
  
  have hm := hr
  simp only [Mem, VE, List.cons_append, List.nil_append, and_true] at hm
  clear hr
  clear hb1
  cases fb
  case true =>
    
    go_wp2_with fail
    refine (HA.out _).mono ?_; rintro e w8 ⟨rfl, hb8⟩
    go_wp2_with fail
    go_ret
    exact RB.mk rfl (by repeat (first | assumption | exact Bl.refl _ | apply Bl.drewN | apply Bl.drew | apply Bl.alloc | (refine Bl.dr ?_ (by assumption)) | (refine Bl.trans ?_ (by assumption))))
  by_cases g1 : (100 : Int) < lo.size
  · 
    go_wp2_with fail
    refine (HA.out _).mono ?_; rintro e w8 ⟨rfl, hb8⟩
    go_wp2_with fail
    go_ret
    exact RB.mk rfl (by repeat (first | assumption | exact Bl.refl _ | apply Bl.drewN | apply Bl.drew | apply Bl.alloc | (refine Bl.dr ?_ (by assumption)) | (refine Bl.trans ?_ (by assumption))))
  by_cases g2 : (100 : Int) < hi.size
  · 
    go_wp2_with fail
    refine (HA.out _).mono ?_; rintro e w8 ⟨rfl, hb8⟩
    go_wp2_with fail
    go_ret
    exact RB.mk rfl (by repeat (first | assumption | exact Bl.refl _ | apply Bl.drewN | apply Bl.drew | apply Bl.alloc | (refine Bl.dr ?_ (by assumption)) | (refine Bl.trans ?_ (by assumption))))
  go_wp2_with fail
  refine (H1.out _ (HO.out.bl hb)).mono ?_; rintro e w3 ⟨rfl, hb1⟩
  have hr := HR.out.bl hb1
  have hb := Bl.trans hb hb1
  clear HR hm
  have HR := Lib.hid hr
  
  have hm := hr
  simp only [Mem, VE, List.cons_append, List.nil_append, and_true] at hm
  clear hr
  clear hb1
  have z1 : (v1 != v1) = false := by simp
  have z2 : (v2 != v2) = false := by simp
  have z3 : (v3 != v3) = false := by simp
  go_wp2_with fail
  refine (H2.out _ (HO.out.bl hb)).mono ?_; rintro e w4 ⟨rfl, hb1⟩
  have hr := HR.out.bl hb1
  have hb := Bl.trans hb hb1
  clear HR hm
  have HR := Lib.hid hr
  
  have hm := hr
  simp only [Mem, VE, List.cons_append, List.nil_append, and_true] at hm
  clear hr
  clear hb1
  go_wp2_with fail
  refine (H3.out _ (HO.out.bl hb)).mono ?_; rintro e w5 ⟨rfl, hb1⟩
  have hr := HR.out.bl hb1
  have hb := Bl.trans hb hb1
  clear HR hm
  have HR := Lib.hid hr
  
  have hm := hr
  simp only [Mem, VE, List.cons_append, List.nil_append, and_true] at hm
  clear hr
  clear hb1
  have z4 : (v4 != v4) = false := by simp
  have z5 : (v5 != v5) = false := by simp
  have z6 : (v6 != v6) = false := by simp
  go_wp2_with fail
  refine (H4.out _ (HO.out.bl hb)).mono ?_; rintro e w6 ⟨rfl, hb1⟩
  have hr := HR.out.bl hb1
  have hb := Bl.trans hb hb1
  clear HR hm
  have HR := Lib.hid hr
  
  have hm := hr
  simp only [Mem, VE, List.cons_append, List.nil_append, and_true] at hm
  clear hr
  clear hb1
  clear z1 z2 z3
  go_wp2_with fail
  refine (H5.out _ (HO.out.bl hb)).mono ?_; rintro e w7 ⟨rfl, hb1⟩
  have hr := HR.out.bl hb1
  have hb := Bl.trans hb hb1
  clear HR hm
  have HR := Lib.hid hr
  
  have hm := hr
  simp only [Mem, VE, List.cons_append, List.nil_append, and_true] at hm
  clear hr
  clear hb1
  clear z4 z5 z6
  have hal := (Bl.refl w7).alloc (Obj.cells #[.string plo, .string phi, .bool pbd] 39)
  have hp : Mem (w7.alloc (Obj.cells #[.string plo, .string phi, .bool pbd] 39)) [(⟨w7.heap.size, 0, none⟩, .string plo), (⟨w7.heap.size, 1, none⟩, .string phi), (⟨w7.heap.size, 2, none⟩, .bool pbd)] := by simp [Mem, go_sem]
  have hr := (HR.out.bl hal).app hp
  have hb := hb.trans hal
  clear HR hm
  have HR := Lib.hid hr
  
  have hm := hr
  simp only [Mem, VE, List.cons_append, List.nil_append, and_true] at hm
  clear hr hp hal
  go_wp2_with fail
  refine (H6.out _ (HO.out.bl hb)).mono ?_; rintro e w8 ⟨rfl, hb1⟩
  have hr := HR.out.bl hb1
  have hb := Bl.trans hb hb1
  clear HR hm
  have HR := Lib.hid hr
  
  have hm := hr
  simp only [Mem, VE, List.cons_append, List.nil_append, and_true] at hm
  clear hr
  clear hb1
  have hal := (Bl.refl w8).alloc (Obj.cells #[.string plo, .string phi, .bool pbd] 39)
  have hp : Mem (w8.alloc (Obj.cells #[.string plo, .string phi, .bool pbd] 39)) [(⟨w8.heap.size, 0, none⟩, .string plo), (⟨w8.heap.size, 1, none⟩, .string phi), (⟨w8.heap.size, 2, none⟩, .bool pbd)] := by simp [Mem, go_sem]
  have hr := (HR.out.bl hal).app hp
  have hb := hb.trans hal
  clear HR hm
  have HR := Lib.hid hr
  
  have hm := hr
  simp only [Mem, VE, List.cons_append, List.nil_append, and_true] at hm
  clear hr hp hal
  go_wp2_with fail
  refine (H7.out _ (HO.out.bl hb) (KO.out.bl hb)).mono ?_; rintro e w9 ⟨rfl, hb1⟩
  have hr := HR.out.bl hb1
  have hb := Bl.trans hb hb1
  clear HR hm
  have HR := Lib.hid hr
  
  have hm := hr
  simp only [Mem, VE, List.cons_append, List.nil_append, and_true] at hm
  clear hr
  clear hb1
  go_wp2_with fail
  refine (H8.out _ (HO.out.bl hb) (KO.out.bl hb)).mono ?_; rintro e w10 ⟨rfl, hb1⟩
  have hr := HR.out.bl hb1
  have hb := Bl.trans hb hb1
  clear HR hm
  have HR := Lib.hid hr
  
  have hm := hr
  simp only [Mem, VE, List.cons_append, List.nil_append, and_true] at hm
  clear hr
  clear hb1
  have y1 : (plo.toList == plo.toList) = true := by simp
  have y2 : (phi.toList == phi.toList) = true := by simp
  have y3 : (pbd == pbd) = true := by simp
  have z1 : (v7 == v7) = true := by simp
  have z2 : (v8 == v8) = true := by simp
  have z3 : (v9 == v9) = true := by simp
  go_wp2_with fail
  clear hm y1 y2 y3 z1 z2 z3
  refine (HA.out _).mono ?_; rintro e w11 ⟨rfl, hb1⟩
  have hb := hb.trans hb1
  clear hb1
  go_wp2_with fail
  go_ret
  exact RB.mk rfl hb
end Go.Proofs.Ytndcjgkgkpkklaa
