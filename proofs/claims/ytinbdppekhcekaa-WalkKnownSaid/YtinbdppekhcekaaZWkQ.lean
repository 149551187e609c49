/-
  Own texts laid together: WkQ.
-/
import Derived.Test.YtinbdppekhcekaaZu
import Derived.Test.YtinbdppekhcekaaZq
import Derived.Test.YtinbdppekhcekaaZr
/-
  The law WalkSteps, walked.
-/
namespace Go.Proofs.Ytinbdppekhcekaa
open Go.RowKit
set_option linter.unusedSimpArgs false
set_option linter.unusedVariables false
set_option maxRecDepth 100000

/-- The list with another value at one address. -/
def updM (p : Addr) (v : Value) : List (Addr × Value) → List (Addr × Value)
  | [] => []
  | (q, u) :: l => (q, if q = p then v else u) :: updM p v l
theorem Mem.upd {w : World} (p : Addr) (v : Value) : ∀ {l : List (Addr × Value)}, Mem w l → Mem (w.setCell p v) (updM p v l)
  | [], _ => trivial
  | (q, u) :: l, ⟨h1, h2, h3⟩ => by
    refine ⟨?_, (frozen_set _ _ _ _).trans h2, Mem.upd p v h3⟩
    by_cases e : q = p
    · subst e
      rw [if_pos rfl]
      exact World.cell?_setCell_same' w _ _ (by rw [h1]; rfl)
    · rw [if_neg e]
      exact (World.cell?_setCell_other w p q v (fun k => e k.symm)).trans h1

set_option maxHeartbeats 8000000 in
theorem lawSteps (a : Option Addr) (c : Nat) (r : Rn) (n : Int) (w : World) (h : ROk w a c r) :
    Calls Try.prog 7 #[r.v a c, cur n] w (RB w (.bool true)) := by
  have HA := Lib.hid (fun w => lawWalkAwake w)
  have h0 := fun w h => lawRunFar a c r w h
  have h1 := fun w h => walkFirst a c r w h
  have h2 := fun w h => refWalkFirst a c r w h
  have h3 := fun w h => walkLast a c r w h
  have h4 := fun w h => refWalkLast a c r w h
  have h5 := fun w h => walkCheck a c r n w h
  have h6 := fun w h => refWalkCheck a c r n w h
  have h7 := fun w h => walkNext a c r n w h
  have h8 := fun w h => refWalkNext a c r n w h
  have h9 := fun w h => walkPrev a c r n w h
  have h10 := fun w h => refWalkPrev a c r n w h
  unfold wv at h7 h9
  generalize wchk r n = v0 at *
  generalize (rck r).2 = v1 at *
  generalize (wlast r).1 = v2 at *
  generalize (wlast r).2 = v3 at *
  generalize (wnext r n).1 = X1 at *
  generalize (wnext r n).2.1 = v4 at *
  generalize (wnext r n).2.2 = v5 at *
  generalize (wprev r n).1 = X2 at *
  generalize (wprev r n).2.1 = v6 at *
  generalize (wprev r n).2.2 = v7 at *
  have HO := Lib.hid h
  obtain ⟨id, l⟩ := r
  unfold Rn.v Ent.v at *
  simp only at h0 h1 h2 h3 h4 h5 h6 h7 h8 h9 h10 ⊢
  have H0 := Lib.hid h0
  have H1 := Lib.hid h1
  have H2 := Lib.hid h2
  have H3 := Lib.hid h3
  have H4 := Lib.hid h4
  have H5 := Lib.hid h5
  have H6 := Lib.hid h6
  have H7 := Lib.hid h7
  have H8 := Lib.hid h8
  have H9 := Lib.hid h9
  have H10 := Lib.hid h10
  clear h0 h1 h2 h3 h4 h5 h6 h7 h8 h9 h10 h
  go_enter Try.func7, Try.ntmps7
  go_wp2_with fail
  refine (H0.out _ (HO.out.bl (by repeat (first | assumption | exact Bl.refl _ | apply Bl.drewN | apply Bl.drew | apply Bl.alloc | (refine Bl.dr ?_ (by assumption)) | (refine Bl.trans ?_ (by assumption)))))).mono ?_; rintro e w1 ⟨fb, rfl, hb1⟩
  have hr : Mem w1 [(⟨w.heap.size, 0, none⟩, .int .i64 id), (⟨w.heap.size, 1, none⟩, .slice a l.length c), (⟨w.heap.size + 1, 0, none⟩, .int .i64 n)] := by
    refine Mem.bl ?_ hb1
    simp [Mem, go_sem]
  have HR := Lib.hid hr
  
  have hm := hr
  simp only [Mem, VE, List.cons_append, List.nil_append, and_true] at hm
  have hb : Bl w w1 := (by repeat (first | assumption | exact Bl.refl _ | apply Bl.drewN | apply Bl.drew | apply Bl.alloc | (refine Bl.dr ?_ (by assumption)) | (refine Bl.trans ?_ (by assumption))))
  clear hr hb1
  cases fb
  case true =>
    
    go_wp2_with fail
    refine (HA.out _).mono ?_; rintro e w8 ⟨rfl, hb8⟩
    go_wp2_with fail
    go_ret
    exact RB.mk rfl (by repeat (first | assumption | exact Bl.refl _ | apply Bl.drewN | apply Bl.drew | apply Bl.alloc | (refine Bl.dr ?_ (by assumption)) | (refine Bl.trans ?_ (by assumption))))
  go_wp2_with fail
  refine (H1.out _ (HO.out.bl hb)).mono ?_; rintro e w2 ⟨rfl, hb1⟩
  have hr := HR.out.bl hb1
  have hb := Bl.trans hb hb1
  clear HR hm
  have HR := Lib.hid hr
  
  have hm := hr
  simp only [Mem, VE, List.cons_append, List.nil_append, and_true] at hm
  clear hr
  clear hb1
  have s1 := lt_of_cell hm.2.2.2.2.1
  have hal := (Bl.refl w2).alloc (Obj.cells #[.int .i64 0] 28)
  have hp : Mem ((w2).alloc (Obj.cells #[.int .i64 0] 28)) [(⟨(w2).heap.size, 0, none⟩, .int .i64 0)] := by simp [Mem, go_sem]
  have hr := (HR.out.bl hal).app hp
  have hb := hb.trans hal
  clear HR hm
  have HR := Lib.hid hr
  
  have hm := hr
  simp only [Mem, VE, List.cons_append, List.nil_append, and_true] at hm
  clear hr hp hal
  go_wp2_with fail
  refine (H2.out _ (HO.out.bl hb)).mono ?_; rintro e w3 ⟨rfl, hb1⟩
  have hr := HR.out.bl hb1
  have hb := Bl.trans hb hb1
  clear HR hm
  have HR := Lib.hid hr
  
  have hm := hr
  simp only [Mem, VE, List.cons_append, List.nil_append, and_true] at hm
  clear hr
  clear hb1
  have s2 := lt_of_cell hm.2.2.2.2.2.2.1
  have hal := (Bl.refl w3).alloc (Obj.cells #[.int .i64 0] 28)
  have hp : Mem ((w3).alloc (Obj.cells #[.int .i64 0] 28)) [(⟨(w3).heap.size, 0, none⟩, .int .i64 0)] := by simp [Mem, go_sem]
  have hr := (HR.out.bl hal).app hp
  have hb := hb.trans hal
  clear HR hm
  have HR := Lib.hid hr
  
  have hm := hr
  simp only [Mem, VE, List.cons_append, List.nil_append, and_true] at hm
  clear hr hp hal
  go_wp2_with fail
  refine (H3.out _ (HO.out.bl hb)).mono ?_; rintro e w4 ⟨rfl, hb1⟩
  have hr := HR.out.bl hb1
  have hb := Bl.trans hb hb1
  clear HR hm
  have HR := Lib.hid hr
  
  have hm := hr
  simp only [Mem, VE, List.cons_append, List.nil_append, and_true] at hm
  clear hr
  clear hb1
  have s3 := lt_of_cell hm.2.2.2.2.2.2.2.2.1
  have hal := (Bl.refl w4).alloc (Obj.cells #[.int .i64 v2] 28)
  have hp : Mem ((w4).alloc (Obj.cells #[.int .i64 v2] 28)) [(⟨(w4).heap.size, 0, none⟩, .int .i64 v2)] := by simp [Mem, go_sem]
  have hr := (HR.out.bl hal).app hp
  have hb := hb.trans hal
  clear HR hm
  have HR := Lib.hid hr
  
  have hm := hr
  simp only [Mem, VE, List.cons_append, List.nil_append, and_true] at hm
  clear hr hp hal
  go_wp2_with fail
  refine (H4.out _ (HO.out.bl hb)).mono ?_; rintro e w5 ⟨rfl, hb1⟩
  have hr := HR.out.bl hb1
  have hb := Bl.trans hb hb1
  clear HR hm
  have HR := Lib.hid hr
  
  have hm := hr
  simp only [Mem, VE, List.cons_append, List.nil_append, and_true] at hm
  clear hr
  clear hb1
  have s4 := lt_of_cell hm.2.2.2.2.2.2.2.2.2.2.1
  have hal := (Bl.refl w5).alloc (Obj.cells #[.int .i64 v2] 28)
  have hp : Mem ((w5).alloc (Obj.cells #[.int .i64 v2] 28)) [(⟨(w5).heap.size, 0, none⟩, .int .i64 v2)] := by simp [Mem, go_sem]
  have hr := (HR.out.bl hal).app hp
  have hb := hb.trans hal
  clear HR hm
  have HR := Lib.hid hr
  
  have hm := hr
  simp only [Mem, VE, List.cons_append, List.nil_append, and_true] at hm
  clear hr hp hal
  have z1 : (v1 != v1) = false := by simp
  have z2 : (v2 != v2) = false := by simp
  have z3 : (v3 != v3) = false := by simp
  have z0 : (v0 != v0) = false := by simp
  simp only at s1 s2 s3 s4
  go_wp2_with fail
  generalize hW : w5.alloc (Obj.cells #[Value.int IntKind.i64 v2] 28) = W5 at *
  have hq := fun x : BW W5 => HR.out.bl x.h
  simp only [Mem, VE, List.cons_append, List.nil_append, and_true] at hq
  
  refine wp_region_quiet_bw W5 (by kernel_rfl) (by kernel_rfl) (Bl.refl W5) ?_
  repeat (go_big_quiet_step ((first | (go_at_call 25; exact quietB (H5.out _ (HO.out.bl (hb.trans (BW.h _))))) | (go_at_call 26; exact quietB (H6.out _ (HO.out.bl (hb.trans (BW.h _))))))))
  refine wpQuiet_nil ?_
  intro wq hw'
  have hwq : Bl W5 wq := by obtain ⟨x, hx⟩ := hw'; rw [hx]; exact x.h
  clear hw'
  clear hq
  have hr := HR.out.bl hwq
  have hb := Bl.trans hb hwq
  clear HR hm
  have HR := Lib.hid hr
  
  have hm := hr
  simp only [Mem, VE, List.cons_append, List.nil_append, and_true] at hm
  clear hr
  clear hwq
  go_wp2_with fail
  refine (H7.out _ (HO.out.bl hb)).mono ?_; rintro e w6 ⟨rfl, hb1⟩
  have hr := HR.out.bl hb1
  have hb := Bl.trans hb hb1
  clear HR hm
  have HR := Lib.hid hr
  
  have hm := hr
  simp only [Mem, VE, List.cons_append, List.nil_append, and_true] at hm
  clear hr
  clear hb1
  have s5 := lt_of_cell hm.2.2.2.2.2.2.2.2.2.2.2.2.1
  simp only at s5
  have hal := (Bl.refl w6).alloc (Obj.cells #[.string (X1).key, .string (X1).val, .bool (X1).dead, .int .i64 (X1).seq] 36)
  have hr := (HR.out.bl hal).app (Mem.new4 w6 X1 36)
  have hb := hb.trans hal
  clear HR hm
  have HR := Lib.hid hr
  
  have hm := hr
  simp only [Mem, VE, List.cons_append, List.nil_append, and_true] at hm
  clear hr hal
  have hne : (w2.heap.size ≠ w.heap.size ∧ w2.heap.size ≠ w.heap.size + 1 ∧ w2.heap.size ≠ w3.heap.size ∧ w2.heap.size ≠ w4.heap.size ∧ w2.heap.size ≠ w5.heap.size ∧ w2.heap.size ≠ w6.heap.size ∧ w3.heap.size ≠ w.heap.size ∧ w3.heap.size ≠ w.heap.size + 1 ∧ w3.heap.size ≠ w2.heap.size ∧ w3.heap.size ≠ w4.heap.size ∧ w3.heap.size ≠ w5.heap.size ∧ w3.heap.size ≠ w6.heap.size ∧ w6.heap.size ≠ w.heap.size ∧ w6.heap.size ≠ w.heap.size + 1 ∧ w6.heap.size ≠ w2.heap.size ∧ w6.heap.size ≠ w3.heap.size ∧ w6.heap.size ≠ w4.heap.size ∧ w6.heap.size ≠ w5.heap.size) := by refine ⟨?_, ?_, ?_, ?_, ?_, ?_, ?_, ?_, ?_, ?_, ?_, ?_, ?_, ?_, ?_, ?_, ?_, ?_⟩ <;> omega
  go_wp2_with fail
  have hr := HR.out.upd ⟨w2.heap.size, 0, none⟩ (.int .i64 v4)
  simp [updM, VE, hne] at hr
  have hb := hb.setCell ⟨w2.heap.size, 0, none⟩ (by simp only; omega) (.int .i64 v4)
  clear HR hm
  have HR := Lib.hid hr
  
  have hm := hr
  simp only [Mem, VE, List.cons_append, List.nil_append, and_true] at hm
  clear hr
  refine (H8.out _ (HO.out.bl hb)).mono ?_; rintro e w7 ⟨rfl, hb1⟩
  have hr := HR.out.bl hb1
  have hb := Bl.trans hb hb1
  clear HR hm
  have HR := Lib.hid hr
  
  have hm := hr
  simp only [Mem, VE, List.cons_append, List.nil_append, and_true] at hm
  clear hr
  clear hb1
  have s6 := lt_of_cell hm.2.2.2.2.2.2.2.2.2.2.2.2.2.2.1
  simp only at s6
  have hal := (Bl.refl w7).alloc (Obj.cells #[.string (X1).key, .string (X1).val, .bool (X1).dead, .int .i64 (X1).seq] 36)
  have hr := (HR.out.bl hal).app (Mem.new4 w7 X1 36)
  have hb := hb.trans hal
  clear HR hm
  have HR := Lib.hid hr
  
  have hm := hr
  simp only [Mem, VE, List.cons_append, List.nil_append, and_true] at hm
  clear hr hal
  clear hne
  have hne : (w2.heap.size ≠ w.heap.size ∧ w2.heap.size ≠ w.heap.size + 1 ∧ w2.heap.size ≠ w3.heap.size ∧ w2.heap.size ≠ w4.heap.size ∧ w2.heap.size ≠ w5.heap.size ∧ w2.heap.size ≠ w6.heap.size ∧ w2.heap.size ≠ w7.heap.size ∧ w3.heap.size ≠ w.heap.size ∧ w3.heap.size ≠ w.heap.size + 1 ∧ w3.heap.size ≠ w2.heap.size ∧ w3.heap.size ≠ w4.heap.size ∧ w3.heap.size ≠ w5.heap.size ∧ w3.heap.size ≠ w6.heap.size ∧ w3.heap.size ≠ w7.heap.size ∧ w6.heap.size ≠ w.heap.size ∧ w6.heap.size ≠ w.heap.size + 1 ∧ w6.heap.size ≠ w2.heap.size ∧ w6.heap.size ≠ w3.heap.size ∧ w6.heap.size ≠ w4.heap.size ∧ w6.heap.size ≠ w5.heap.size ∧ w6.heap.size ≠ w7.heap.size ∧ w7.heap.size ≠ w.heap.size ∧ w7.heap.size ≠ w.heap.size + 1 ∧ w7.heap.size ≠ w2.heap.size ∧ w7.heap.size ≠ w3.heap.size ∧ w7.heap.size ≠ w4.heap.size ∧ w7.heap.size ≠ w5.heap.size ∧ w7.heap.size ≠ w6.heap.size) := by refine ⟨?_, ?_, ?_, ?_, ?_, ?_, ?_, ?_, ?_, ?_, ?_, ?_, ?_, ?_, ?_, ?_, ?_, ?_, ?_, ?_, ?_, ?_, ?_, ?_, ?_, ?_, ?_, ?_⟩ <;> omega
  have y1 : (X1.key.toList == X1.key.toList) = true := by simp
  have y2 : (X1.val.toList == X1.val.toList) = true := by simp
  have y3 : (v5 != v5) = false := by simp
  have y4 : (v4 != v4) = false := by simp
  go_wp2_with fail
  clear y1 y2 y3 y4
  have hr := HR.out.upd ⟨w3.heap.size, 0, none⟩ (.int .i64 v4)
  simp [updM, VE, hne] at hr
  have hb := hb.setCell ⟨w3.heap.size, 0, none⟩ (by simp only; omega) (.int .i64 v4)
  clear HR hm
  have HR := Lib.hid hr
  
  have hm := hr
  simp only [Mem, VE, List.cons_append, List.nil_append, and_true] at hm
  clear hr
  refine (H9.out _ (HO.out.bl hb)).mono ?_; rintro e w8 ⟨rfl, hb1⟩
  have hr := HR.out.bl hb1
  have hb := Bl.trans hb hb1
  clear HR hm
  have HR := Lib.hid hr
  
  have hm := hr
  simp only [Mem, VE, List.cons_append, List.nil_append, and_true] at hm
  clear hr
  clear hb1
  go_wp2_with fail
  have hr := HR.out.upd ⟨w6.heap.size, 0, none⟩ (.string X2.key)
  simp [updM, VE, hne] at hr
  have hb := hb.setCell ⟨w6.heap.size, 0, none⟩ (by simp only; omega) (.string X2.key)
  clear HR hm
  have HR := Lib.hid hr
  
  have hm := hr
  simp only [Mem, VE, List.cons_append, List.nil_append, and_true] at hm
  clear hr
  have hr := HR.out.upd ⟨w6.heap.size, 1, none⟩ (.string X2.val)
  simp [updM, VE, hne] at hr
  have hb := hb.setCell ⟨w6.heap.size, 1, none⟩ (by simp only; omega) (.string X2.val)
  clear HR hm
  have HR := Lib.hid hr
  
  have hm := hr
  simp only [Mem, VE, List.cons_append, List.nil_append, and_true] at hm
  clear hr
  have hr := HR.out.upd ⟨w6.heap.size, 2, none⟩ (.bool X2.dead)
  simp [updM, VE, hne] at hr
  have hb := hb.setCell ⟨w6.heap.size, 2, none⟩ (by simp only; omega) (.bool X2.dead)
  clear HR hm
  have HR := Lib.hid hr
  
  have hm := hr
  simp only [Mem, VE, List.cons_append, List.nil_append, and_true] at hm
  clear hr
  have hr := HR.out.upd ⟨w6.heap.size, 3, none⟩ (.int .i64 X2.seq)
  simp [updM, VE, hne] at hr
  have hb := hb.setCell ⟨w6.heap.size, 3, none⟩ (by simp only; omega) (.int .i64 X2.seq)
  clear HR hm
  have HR := Lib.hid hr
  
  have hm := hr
  simp only [Mem, VE, List.cons_append, List.nil_append, and_true] at hm
  clear hr
  have hr := HR.out.upd ⟨w2.heap.size, 0, none⟩ (.int .i64 v6)
  simp [updM, VE, hne] at hr
  have hb := hb.setCell ⟨w2.heap.size, 0, none⟩ (by simp only; omega) (.int .i64 v6)
  clear HR hm
  have HR := Lib.hid hr
  
  have hm := hr
  simp only [Mem, VE, List.cons_append, List.nil_append, and_true] at hm
  clear hr
  refine (H10.out _ (HO.out.bl hb)).mono ?_; rintro e w9 ⟨rfl, hb1⟩
  have hr := HR.out.bl hb1
  have hb := Bl.trans hb hb1
  clear HR hm
  have HR := Lib.hid hr
  
  have hm := hr
  simp only [Mem, VE, List.cons_append, List.nil_append, and_true] at hm
  clear hr
  clear hb1
  have y1 : (X2.key.toList == X2.key.toList) = true := by simp
  have y2 : (X2.val.toList == X2.val.toList) = true := by simp
  have y3 : (v7 == v7) = true := by simp
  have y4 : (v6 == v6) = true := by simp
  go_wp2_with fail
  have hr := HR.out.upd ⟨w7.heap.size, 0, none⟩ (.string X2.key)
  simp [updM, VE, hne] at hr
  have hb := hb.setCell ⟨w7.heap.size, 0, none⟩ (by simp only; omega) (.string X2.key)
  clear HR hm
  have HR := Lib.hid hr
  
  have hm := hr
  simp only [Mem, VE, List.cons_append, List.nil_append, and_true] at hm
  clear hr
  have hr := HR.out.upd ⟨w7.heap.size, 1, none⟩ (.string X2.val)
  simp [updM, VE, hne] at hr
  have hb := hb.setCell ⟨w7.heap.size, 1, none⟩ (by simp only; omega) (.string X2.val)
  clear HR hm
  have HR := Lib.hid hr
  
  have hm := hr
  simp only [Mem, VE, List.cons_append, List.nil_append, and_true] at hm
  clear hr
  have hr := HR.out.upd ⟨w7.heap.size, 2, none⟩ (.bool X2.dead)
  simp [updM, VE, hne] at hr
  have hb := hb.setCell ⟨w7.heap.size, 2, none⟩ (by simp only; omega) (.bool X2.dead)
  clear HR hm
  have HR := Lib.hid hr
  
  have hm := hr
  simp only [Mem, VE, List.cons_append, List.nil_append, and_true] at hm
  clear hr
  have hr := HR.out.upd ⟨w7.heap.size, 3, none⟩ (.int .i64 X2.seq)
  simp [updM, VE, hne] at hr
  have hb := hb.setCell ⟨w7.heap.size, 3, none⟩ (by simp only; omega) (.int .i64 X2.seq)
  clear HR hm
  have HR := Lib.hid hr
  
  have hm := hr
  simp only [Mem, VE, List.cons_append, List.nil_append, and_true] at hm
  clear hr
  have hr := HR.out.upd ⟨w3.heap.size, 0, none⟩ (.int .i64 v6)
  simp [updM, VE, hne] at hr
  have hb := hb.setCell ⟨w3.heap.size, 0, none⟩ (by simp only; omega) (.int .i64 v6)
  clear HR hm
  have HR := Lib.hid hr
  
  have hm := hr
  simp only [Mem, VE, List.cons_append, List.nil_append, and_true] at hm
  clear hr
  refine (HA.out _).mono ?_; rintro e w10 ⟨rfl, hb1⟩
  have hb := hb.trans hb1
  clear hb1
  go_wp2_with fail
  go_ret
  exact RB.mk rfl hb
end Go.Proofs.Ytinbdppekhcekaa
