/-
  Own texts laid together: WkP.
-/
import Derived.Test.YtinbdppekhcekaaZu
import Derived.Test.YtinbdppekhcekaaZp
/-
  The law WalkPlaces, walked.
-/
namespace Go.Proofs.Ytinbdppekhcekaa
open Go.RowKit
set_option linter.unusedSimpArgs false
set_option linter.unusedVariables false
set_option maxRecDepth 100000

set_option maxHeartbeats 8000000 in
theorem lawPlaces (a : Option Addr) (c : Nat) (r : Rn) (n : Int) (k : ByteArray) (p : Bool) (x : Rng) (w : World) (h : ROk w a c r) (hk : k.size ≤ maxLen) (hx : x.ok) :
    Calls Try.prog 8 #[r.v a c, cur n, .agg #[.string k, .bool p, .string x.lo, .string x.hi, .bool x.bd]] w (RB w (.bool true)) := by
  have HA := Lib.hid (fun w => lawWalkAwake w)
  have h0 := fun w h => lawRunFar a c r w h
  have h1 := fun w h => walkSeek a c r k p w h hk
  have h2 := fun w h => refWalkSeek a c r k p w h hk
  have h3 := fun w h => walkClip a c r n x w h hx
  have h4 := fun w h => refWalkClip a c r n x w h hx
  generalize (wseek r k p).1 = v1 at *
  generalize (wseek r k p).2 = v2 at *
  generalize (wclip r n x).1 = v3 at *
  generalize (wclip r n x).2 = v4 at *
  obtain ⟨hx1, hx2⟩ := hx
  have HO := Lib.hid h
  obtain ⟨id, l⟩ := r
  obtain ⟨lo, hi, bd⟩ := x
  unfold Rn.v Rng.v at *
  simp only at h0 h1 h2 h3 h4 hx1 hx2 ⊢
  have H0 := Lib.hid h0
  have H1 := Lib.hid h1
  have H2 := Lib.hid h2
  have H3 := Lib.hid h3
  have H4 := Lib.hid h4
  unfold maxLen at hk hx1 hx2
  clear h0 h1 h2 h3 h4 h
  go_enter Try.func8, Try.ntmps8
  go_wp2_with fail
  refine (H0.out _ (HO.out.bl (by repeat (first | assumption | exact Bl.refl _ | apply Bl.drewN | apply Bl.drew | apply Bl.alloc | (refine Bl.dr ?_ (by assumption)) | (refine Bl.trans ?_ (by assumption)))))).mono ?_; rintro e w1 ⟨fb, rfl, hb1⟩
  have hr : Mem w1 [(⟨w.heap.size, 0, none⟩, .int .i64 id), (⟨w.heap.size, 1, none⟩, .slice a l.length c), (⟨w.heap.size + 1, 0, none⟩, .int .i64 n), (⟨w.heap.size + 1 + 1, 0, none⟩, .string k), (⟨w.heap.size + 1 + 1, 1, none⟩, .bool p), (⟨w.heap.size + 1 + 1, 2, none⟩, .string lo), (⟨w.heap.size + 1 + 1, 3, none⟩, .string hi), (⟨w.heap.size + 1 + 1, 4, none⟩, .bool bd)] := by
    refine Mem.bl ?_ hb1
    simp [Mem, go_sem]
  have HR := Lib.hid hr
  
  have hm := hr
  simp only [Mem, VE, List.cons_append, List.nil_append, and_true] at hm
  have hb : Bl w w1 := (by repeat (first | assumption | exact Bl.refl _ | apply Bl.drewN | apply Bl.drew | apply Bl.alloc | (refine Bl.dr ?_ (by assumption)) | (refine Bl.trans ?_ (by assumption))))
  clear hr hb1
  cases fb
  case true =>
    
    go_wp2_with fail
    refine (HA.out _).mono ?_; rintro e w8 ⟨rfl, hb8⟩
    go_wp2_with fail
    go_ret
    exact RB.mk rfl (by repeat (first | assumption | exact Bl.refl _ | apply Bl.drewN | apply Bl.drew | apply Bl.alloc | (refine Bl.dr ?_ (by assumption)) | (refine Bl.trans ?_ (by assumption))))
  by_cases g0 : (100 : Int) < k.size
  · 
    go_wp2_with fail
    refine (HA.out _).mono ?_; rintro e w8 ⟨rfl, hb8⟩
    go_wp2_with fail
    go_ret
    exact RB.mk rfl (by repeat (first | assumption | exact Bl.refl _ | apply Bl.drewN | apply Bl.drew | apply Bl.alloc | (refine Bl.dr ?_ (by assumption)) | (refine Bl.trans ?_ (by assumption))))
  by_cases g1 : (100 : Int) < lo.size
  · 
    go_wp2_with fail
    refine (HA.out _).mono ?_; rintro e w8 ⟨rfl, hb8⟩
    go_wp2_with fail
    go_ret
    exact RB.mk rfl (by repeat (first | assumption | exact Bl.refl _ | apply Bl.drewN | apply Bl.drew | apply Bl.alloc | (refine Bl.dr ?_ (by assumption)) | (refine Bl.trans ?_ (by assumption))))
  by_cases g2 : (100 : Int) < hi.size
  · 
    go_wp2_with fail
    refine (HA.out _).mono ?_; rintro e w8 ⟨rfl, hb8⟩
    go_wp2_with fail
    go_ret
    exact RB.mk rfl (by repeat (first | assumption | exact Bl.refl _ | apply Bl.drewN | apply Bl.drew | apply Bl.alloc | (refine Bl.dr ?_ (by assumption)) | (refine Bl.trans ?_ (by assumption))))
  go_wp2_with fail
  refine (H1.out _ (HO.out.bl hb)).mono ?_; rintro e w2 ⟨rfl, hb1⟩
  have hr := HR.out.bl hb1
  have hb := Bl.trans hb hb1
  clear HR hm
  have HR := Lib.hid hr
  
  have hm := hr
  simp only [Mem, VE, List.cons_append, List.nil_append, and_true] at hm
  clear hr
  clear hb1
  have hal := (Bl.refl w2).alloc (Obj.cells #[.int .i64 v1] 28)
  have hp : Mem ((w2).alloc (Obj.cells #[.int .i64 v1] 28)) [(⟨(w2).heap.size, 0, none⟩, .int .i64 v1)] := by simp [Mem, go_sem]
  have hr := (HR.out.bl hal).app hp
  have hb := hb.trans hal
  clear HR hm
  have HR := Lib.hid hr
  
  have hm := hr
  simp only [Mem, VE, List.cons_append, List.nil_append, and_true] at hm
  clear hr hp hal
  go_wp2_with fail
  refine (H2.out _ (HO.out.bl hb)).mono ?_; rintro e w3 ⟨rfl, hb1⟩
  have hr := HR.out.bl hb1
  have hb := Bl.trans hb hb1
  clear HR hm
  have HR := Lib.hid hr
  
  have hm := hr
  simp only [Mem, VE, List.cons_append, List.nil_append, and_true] at hm
  clear hr
  clear hb1
  have hal := (Bl.refl w3).alloc (Obj.cells #[.int .i64 v1] 28)
  have hp : Mem ((w3).alloc (Obj.cells #[.int .i64 v1] 28)) [(⟨(w3).heap.size, 0, none⟩, .int .i64 v1)] := by simp [Mem, go_sem]
  have hr := (HR.out.bl hal).app hp
  have hb := hb.trans hal
  clear HR hm
  have HR := Lib.hid hr
  
  have hm := hr
  simp only [Mem, VE, List.cons_append, List.nil_append, and_true] at hm
  clear hr hp hal
  go_wp2_with fail
  refine (H3.out _ (HO.out.bl hb)).mono ?_; rintro e w4 ⟨rfl, hb1⟩
  have hr := HR.out.bl hb1
  have hb := Bl.trans hb hb1
  clear HR hm
  have HR := Lib.hid hr
  
  have hm := hr
  simp only [Mem, VE, List.cons_append, List.nil_append, and_true] at hm
  clear hr
  clear hb1
  have hal := (Bl.refl w4).alloc (Obj.cells #[.int .i64 v3] 28)
  have hp : Mem ((w4).alloc (Obj.cells #[.int .i64 v3] 28)) [(⟨(w4).heap.size, 0, none⟩, .int .i64 v3)] := by simp [Mem, go_sem]
  have hr := (HR.out.bl hal).app hp
  have hb := hb.trans hal
  clear HR hm
  have HR := Lib.hid hr
  
  have hm := hr
  simp only [Mem, VE, List.cons_append, List.nil_append, and_true] at hm
  clear hr hp hal
  go_wp2_with fail
  refine (H4.out _ (HO.out.bl hb)).mono ?_; rintro e w5 ⟨rfl, hb1⟩
  have hr := HR.out.bl hb1
  have hb := Bl.trans hb hb1
  clear HR hm
  have HR := Lib.hid hr
  
  have hm := hr
  simp only [Mem, VE, List.cons_append, List.nil_append, and_true] at hm
  clear hr
  clear hb1
  have hal := (Bl.refl w5).alloc (Obj.cells #[.int .i64 v3] 28)
  have hp : Mem ((w5).alloc (Obj.cells #[.int .i64 v3] 28)) [(⟨(w5).heap.size, 0, none⟩, .int .i64 v3)] := by simp [Mem, go_sem]
  have hr := (HR.out.bl hal).app hp
  have hb := hb.trans hal
  clear HR hm
  have HR := Lib.hid hr
  
  have hm := hr
  simp only [Mem, VE, List.cons_append, List.nil_append, and_true] at hm
  clear hr hp hal
  have z1 : (v1 == v1) = true := by simp
  have z2 : (v2 == v2) = true := by simp
  have z3 : (v3 == v3) = true := by simp
  have z4 : (v4 == v4) = true := by simp
  
  go_wp2_with fail
  refine (HA.out _).mono ?_; rintro e w8 ⟨rfl, hb8⟩
  go_wp2_with fail
  go_ret
  exact RB.mk rfl (by repeat (first | assumption | exact Bl.refl _ | apply Bl.drewN | apply Bl.drew | apply Bl.alloc | (refine Bl.dr ?_ (by assumption)) | (refine Bl.trans ?_ (by assumption))))
end Go.Proofs.Ytinbdppekhcekaa
