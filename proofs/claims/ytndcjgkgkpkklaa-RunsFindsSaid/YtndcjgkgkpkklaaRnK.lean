
/-
  The law RunsFinds, walked.
-/
import Derived.Test.YtndcjgkgkpkklaaRnJ
import Derived.Test.YtndcjgkgkpkklaaRnD
namespace Go.Proofs.Ytndcjgkgkpkklaa
open Go.RowKit
set_option linter.unusedSimpArgs false
set_option linter.unusedVariables false
set_option maxRecDepth 100000

set_option maxHeartbeats 8000000 in
theorem lawFinds (a : Option Addr) (c : Nat) (r : Rn) (k : ByteArray) (s : Bool) (w : World) (h : ROk w a c r) (hk : k.size ≤ maxLen) :
    Calls Try.prog 3 #[r.v a c, .string k, .bool s] w (RB w (.bool true)) := by
  have HA := Lib.hid (fun w => lawRunAwake w)
  have h0 := fun w h => lawRunFar a c r w h
  have h1 := fun w h => runCheck a c r w h
  have h2 := fun w h => refRunCheck a c r w h
  have h3 := fun w h => runGet a c r k w h hk
  have h4 := fun w h => refRunGet a c r k w h hk
  have h5 := fun w h => runFloor a c r k s w h hk
  have h6 := fun w h => refRunFloor a c r k s w h hk
  have h7 := fun w h => runCeiling a c r k s w h hk
  have h8 := fun w h => refRunCeiling a c r k s w h hk
  generalize (rck r).1 = v1 at *
  generalize (rck r).2 = v2 at *
  generalize (rget r k).1 = X1 at *
  generalize (rget r k).2 = v3 at *
  generalize (rflo r k s).1 = X2 at *
  generalize (rflo r k s).2 = v4 at *
  generalize (rcei r k s).1 = X3 at *
  generalize (rcei r k s).2 = v5 at *
  have HO := Lib.hid h
  obtain ⟨id, l⟩ := r
  unfold Rn.v Ent.v at *
  simp only at h0 h1 h2 h3 h4 h5 h6 h7 h8 ⊢
  have H0 := Lib.hid h0
  have H1 := Lib.hid h1
  have H2 := Lib.hid h2
  have H3 := Lib.hid h3
  have H4 := Lib.hid h4
  have H5 := Lib.hid h5
  have H6 := Lib.hid h6
  have H7 := Lib.hid h7
  have H8 := Lib.hid h8
  unfold maxLen at hk
  clear h0 h1 h2 h3 h4 h5 h6 h7 h8 h
  go_enter Try.func3, Try.ntmps3
  go_wp2_with fail
  refine (H0.out _ (HO.out.bl (by repeat (first | assumption | exact Bl.refl _ | apply Bl.drewN | apply Bl.drew | apply Bl.alloc | (refine Bl.dr ?_ (by assumption)) | (refine Bl.trans ?_ (by assumption)))))).mono ?_; rintro e w1 ⟨fb, rfl, hb1⟩
  have hr : Mem w1 [(⟨w.heap.size, 0, none⟩, .int .i64 id), (⟨w.heap.size, 1, none⟩, .slice a l.length c)] := Mem.bl (w := w.alloc (Obj.cells #[.int .i64 id, .slice a l.length c] 24)) (by simp [Mem, go_sem]) hb1
  have HR := Lib.hid hr
  
  have hm := hr
  simp only [Mem, VE, List.cons_append, List.nil_append, and_true] at hm
  have hb : Bl w w1 := (by repeat (first | assumption | exact Bl.refl _ | apply Bl.drewN | apply Bl.drew | apply Bl.alloc | (refine Bl.dr ?_ (by assumption)) | (refine Bl.trans ?_ (by assumption))))
  clear hr hb1
  cases fb
  case true =>
    
    go_wp2_with fail
    refine (HA.out _).mono ?_; rintro e w8 ⟨rfl, hb8⟩
    go_wp2_with fail
    go_ret
    exact RB.mk rfl (by repeat (first | assumption | exact Bl.refl _ | apply Bl.drewN | apply Bl.drew | apply Bl.alloc | (refine Bl.dr ?_ (by assumption)) | (refine Bl.trans ?_ (by assumption))))
  by_cases hkl : 100 < k.size
  · 
    go_wp2_with fail
    refine (HA.out _).mono ?_; rintro e w8 ⟨rfl, hb8⟩
    go_wp2_with fail
    go_ret
    exact RB.mk rfl (by repeat (first | assumption | exact Bl.refl _ | apply Bl.drewN | apply Bl.drew | apply Bl.alloc | (refine Bl.dr ?_ (by assumption)) | (refine Bl.trans ?_ (by assumption))))
  go_wp2_with fail
  refine (H1.out _ (HO.out.bl hb)).mono ?_; rintro e w2 ⟨rfl, hb1⟩
  have hr := HR.out.bl hb1
  have hb := Bl.trans hb hb1
  clear HR hm
  have HR := Lib.hid hr
  
  have hm := hr
  simp only [Mem, VE, List.cons_append, List.nil_append, and_true] at hm
  clear hr
  clear hb1
  go_wp2_with fail
  refine (H2.out _ (HO.out.bl hb)).mono ?_; rintro e w3 ⟨rfl, hb1⟩
  have hr := HR.out.bl hb1
  have hb := Bl.trans hb hb1
  clear HR hm
  have HR := Lib.hid hr
  
  have hm := hr
  simp only [Mem, VE, List.cons_append, List.nil_append, and_true] at hm
  clear hr
  clear hb1
  go_wp2_with fail
  refine (H3.out _ (HO.out.bl hb)).mono ?_; rintro e w4 ⟨rfl, hb1⟩
  have hr := HR.out.bl hb1
  have hb := Bl.trans hb hb1
  clear HR hm
  have HR := Lib.hid hr
  
  have hm := hr
  simp only [Mem, VE, List.cons_append, List.nil_append, and_true] at hm
  clear hr
  clear hb1
  have s1 := lt_of_cell hm.1
  simp only at s1
  have hal := (Bl.refl w4).alloc (Obj.cells #[.string X1.key, .string X1.val, .bool X1.dead, .int .i64 X1.seq] 31)
  have hr := HR.out.bl hal
  have hb := Bl.trans hb hal
  clear HR hm
  have HR := Lib.hid hr
  
  have hm := hr
  simp only [Mem, VE, List.cons_append, List.nil_append, and_true] at hm
  clear hr
  have HX := Lib.hid (Mem.new4 w4 X1 31)
  clear hal
  go_wp2_with fail
  refine (H4.out _ (HO.out.bl hb)).mono ?_; rintro e w5 ⟨rfl, hb1⟩
  
  have hr := HR.out.bl hb1
  have hx := HX.out.bl hb1
  have hb := Bl.trans hb hb1
  clear HR HX hm
  have HR := Lib.hid hr
  have HX := Lib.hid hx
  
  have hm := hr.app hx
  simp only [Mem, VE, List.cons_append, List.nil_append, and_true] at hm
  clear hr hx
  clear hb1
  have s2 := lt_of_cell hm.2.2.2.2.1
  simp only at s2
  have hal := (Bl.refl w5).alloc (Obj.cells #[.string X1.key, .string X1.val, .bool X1.dead, .int .i64 X1.seq] 31)
  
  have hr := HR.out.bl hal
  have hx := HX.out.bl hal
  have hb := Bl.trans hb hal
  clear HR HX hm
  have HR := Lib.hid hr
  have HX := Lib.hid hx
  
  have hm := hr.app hx
  simp only [Mem, VE, List.cons_append, List.nil_append, and_true] at hm
  clear hr hx
  have HY := Lib.hid (Mem.new4 w5 X1 31)
  
  have hm := (HR.out.app HX.out).app HY.out
  simp only [Mem, VE, List.cons_append, List.nil_append, and_true] at hm
  clear hal
  have y1 : (X1.key.toList == X1.key.toList) = true := by simp
  have y2 : (X1.val.toList == X1.val.toList) = true := by simp
  have z1 : (v1 != v1) = false := by simp
  have z2 : (v2 != v2) = false := by simp
  have z3 : (v3 != v3) = false := by simp
  have t1 : w.heap.size ≤ w4.heap.size := by omega
  have t2 : w.heap.size ≤ w5.heap.size := by omega
  have n1 : w4.heap.size ≠ w.heap.size := by omega
  have n2 : w5.heap.size ≠ w.heap.size := by omega
  have n3 : w4.heap.size ≠ w5.heap.size := by omega
  go_wp2_with fail
  clear y1 y2 z1 z2 z3
  refine (H5.out _ (HO.out.bl hb)).mono ?_; rintro e w6 ⟨rfl, hb1⟩
  
  have hr := HR.out.bl hb1
  have hx := HX.out.bl hb1
  have hy := HY.out.bl hb1
  have hb := Bl.trans hb hb1
  clear HR HX HY hm
  have HR := Lib.hid hr
  have HX := Lib.hid hx
  have HY := Lib.hid hy
  
  have hm := (hr.app hx).app hy
  simp only [Mem, VE, List.cons_append, List.nil_append, and_true] at hm
  clear hr hx hy
  clear hb1
  go_wp2_with fail
  
  have hz1 := (HR.out).off4 (w4.heap.size) (X2) (by simp [VE]; omega)
  have hz2 := (HX.out).set4 (X2)
  have hz3 := (HY.out).off4 (w4.heap.size) (X2) (by simp [VE]; omega)
  have hb := hb.set4 (w4.heap.size) (X2) t1
  unfold set4 at hz1 hz2 hz3 hb
  clear HR HX HY hm
  have HR := Lib.hid hz1
  have HX := Lib.hid hz2
  have HY := Lib.hid hz3
  clear hz1 hz2 hz3
  refine (H6.out _ (HO.out.bl hb)).mono ?_; rintro e w7 ⟨rfl, hb1⟩
  have hm : True := trivial
  
  have hr := HR.out.bl hb1
  have hx := HX.out.bl hb1
  have hy := HY.out.bl hb1
  have hb := Bl.trans hb hb1
  clear HR HX HY hm
  have HR := Lib.hid hr
  have HX := Lib.hid hx
  have HY := Lib.hid hy
  
  have hm := (hr.app hx).app hy
  simp only [Mem, VE, List.cons_append, List.nil_append, and_true] at hm
  clear hr hx hy
  clear hb1
  have y1 : (X2.key.toList == X2.key.toList) = true := by simp
  have y2 : (X2.val.toList == X2.val.toList) = true := by simp
  have z1 : (v4 != v4) = false := by simp
  
  have hz1 := (HR.out).off4 (w5.heap.size) (X2) (by simp [VE]; omega)
  have hz2 := (HY.out).set4 (X2)
  have hz3 := (HX.out).off4 (w5.heap.size) (X2) (by simp [VE]; omega)
  have hb := hb.set4 (w5.heap.size) (X2) t2
  unfold set4 at hz1 hz2 hz3 hb
  clear HR HX HY
  have HR := Lib.hid hz1
  have HX := Lib.hid hz3
  have HY := Lib.hid hz2
  have hm2 := (hz1.app hz3).app hz2
  simp only [Mem, VE, List.cons_append, List.nil_append, and_true] at hm2
  clear hz1 hz2 hz3
  go_wp2_with fail
  clear hm2 y1 y2 z1
  refine (H7.out _ (HO.out.bl hb)).mono ?_; rintro e w8 ⟨rfl, hb1⟩
  
  have hr := HR.out.bl hb1
  have hx := HX.out.bl hb1
  have hy := HY.out.bl hb1
  have hb := Bl.trans hb hb1
  clear HR HX HY hm
  have HR := Lib.hid hr
  have HX := Lib.hid hx
  have HY := Lib.hid hy
  
  have hm := (hr.app hx).app hy
  simp only [Mem, VE, List.cons_append, List.nil_append, and_true] at hm
  clear hr hx hy
  clear hb1
  go_wp2_with fail
  
  have hz1 := (HR.out).off4 (w4.heap.size) (X3) (by simp [VE]; omega)
  have hz2 := (HX.out).set4 (X3)
  have hz3 := (HY.out).off4 (w4.heap.size) (X3) (by simp [VE]; omega)
  have hb := hb.set4 (w4.heap.size) (X3) t1
  unfold set4 at hz1 hz2 hz3 hb
  clear HR HX HY hm
  have HR := Lib.hid hz1
  have HX := Lib.hid hz2
  have HY := Lib.hid hz3
  clear hz1 hz2 hz3
  refine (H8.out _ (HO.out.bl hb)).mono ?_; rintro e w9 ⟨rfl, hb1⟩
  have hm : True := trivial
  
  have hr := HR.out.bl hb1
  have hx := HX.out.bl hb1
  have hy := HY.out.bl hb1
  have hb := Bl.trans hb hb1
  clear HR HX HY hm
  have HR := Lib.hid hr
  have HX := Lib.hid hx
  have HY := Lib.hid hy
  
  have hm := (hr.app hx).app hy
  simp only [Mem, VE, List.cons_append, List.nil_append, and_true] at hm
  clear hr hx hy
  clear hb1
  have y1 : (X3.key.toList == X3.key.toList) = true := by simp
  have y2 : (X3.val.toList == X3.val.toList) = true := by simp
  have z1 : (v5 == v5) = true := by simp
  
  have hz1 := (HR.out).off4 (w5.heap.size) (X3) (by simp [VE]; omega)
  have hz2 := (HY.out).set4 (X3)
  have hz3 := (HX.out).off4 (w5.heap.size) (X3) (by simp [VE]; omega)
  have hb := hb.set4 (w5.heap.size) (X3) t2
  unfold set4 at hz1 hz2 hz3 hb
  clear HR HX HY
  have hm2 := (hz1.app hz3).app hz2
  simp only [Mem, VE, List.cons_append, List.nil_append, and_true] at hm2
  clear hz1 hz2 hz3
  go_wp2_with fail
  clear hm hm2 y1 y2 z1
  refine (HA.out _).mono ?_; rintro e w10 ⟨rfl, hb1⟩
  have hb := hb.trans hb1
  clear hb1
  go_wp2_with fail
  go_ret
  exact RB.mk rfl hb
end Go.Proofs.Ytndcjgkgkpkklaa
