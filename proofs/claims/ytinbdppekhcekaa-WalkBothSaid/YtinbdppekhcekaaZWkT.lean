/-
  Own texts laid together: WkT.
-/
import Derived.Test.YtinbdppekhcekaaZWkQ
import Derived.Test.YtinbdppekhcekaaZPlWb
import Derived.IntWalk
/-
  The law WalkBoth, walked.
-/
namespace Go.Proofs.Ytinbdppekhcekaa
open Go.RowKit
set_option linter.unusedSimpArgs false
set_option linter.unusedVariables false
set_option maxRecDepth 100000

set_option maxHeartbeats 8000000 in
theorem lawBoth (a : Option Addr) (c : Nat) (r : Rn) (w : World) (h : ROk w a c r) :
    Calls Try.prog 9 #[r.v a c] w (RB w (.bool true)) := by
  have HA := Lib.hid (fun w => lawWalkAwake w)
  have h0 := fun w h => lawRunFar a c r w h
  have h1 := fun w h => walkFirst a c r w h
  have h2 := fun w h => refRunCheck a c r w h
  by_cases hl : r.es.length ≤ 80
  · by_cases e0 : (rck r).2 = 0
    · have h3 := fun (k : Nat) (x : Ent) (hx : r.es[k]? = some x) w h => walkNext a c r (k : Int) w h
      have h4 := fun (k : Nat) (x : Ent) (hx : r.es[k]? = some x) w h => walkPrev a c r ((k : Int) + 1) w h
      have h5 := fun w h => walkNext a c r (r.es.length : Int) w h
      have h6 := fun w h => walkPrev a c r 0 w h
      have h7 := fun w h => walkLast a c r w h
      rw [wnext_end e0] at h5
      rw [wprev_end e0] at h6
      rw [wlast_at e0] at h7
      rw [e0] at h1 h2
      generalize (rck r).1 = v0 at *
      have h3' : ∀ (k : Nat) (x : Ent), r.es[k]? = some x → ∀ w, ROk w a c r → Calls Try.prog 27 #[r.v a c, cur k] w (RB w (wv (x, (k : Int) + 1, 0))) := fun k x hx w h => wnext_at e0 hx ▸ h3 k x hx w h
      have h4' : ∀ (k : Nat) (x : Ent), r.es[k]? = some x → ∀ w, ROk w a c r → Calls Try.prog 29 #[r.v a c, cur ((k : Int) + 1)] w (RB w (wv (x, (k : Int), 0))) := fun k x hx w h => wprev_at e0 hx ▸ h4 k x hx w h
      clear h3 h4 e0
      unfold wv Ent.v ent0 at *
      simp only at h0 h1 h2 h3' h4' h5 h6 h7 hl ⊢
      have H3 := Lib.hid h3'
      have H4 := Lib.hid h4'
      have H5 := Lib.hid h5
      have H6 := Lib.hid h6
      have H7 := Lib.hid h7
      clear h3' h4' h5 h6 h7
      have hl80 : ¬ (80 : Int) < (r.es.length : Int) := by omega
      have HO := Lib.hid h
      obtain ⟨id, l⟩ := r
      unfold Rn.v at *
      have H0 := Lib.hid h0
      have H1 := Lib.hid h1
      have H2 := Lib.hid h2
      clear h0 h1 h2 h
      go_enter Try.func9, Try.ntmps9
      go_wp2_with fail
      refine (H0.out _ (HO.out.bl (by repeat (first | assumption | exact Bl.refl _ | apply Bl.drewN | apply Bl.drew | apply Bl.alloc | (refine Bl.dr ?_ (by assumption)) | (refine Bl.trans ?_ (by assumption)))))).mono ?_; rintro e w1 ⟨fb, rfl, hb1⟩
      have hr : Mem w1 [(⟨w.heap.size, 0, none⟩, .int .i64 id), (⟨w.heap.size, 1, none⟩, .slice a l.length c)] := by
        refine Mem.bl ?_ hb1
        simp [Mem, go_sem]
      have HR := Lib.hid hr
      
      have hm := hr
      simp only [Mem, VE, List.cons_append, List.nil_append, and_true] at hm
      have hb : Bl w w1 := (by repeat (first | assumption | exact Bl.refl _ | apply Bl.drewN | apply Bl.drew | apply Bl.alloc | (refine Bl.dr ?_ (by assumption)) | (refine Bl.trans ?_ (by assumption))))
      clear hr hb1
      cases fb
      case true =>
        
        go_wp2_with fail
        refine (HA.out _).mono ?_; rintro e w8 ⟨rfl, hb8⟩
        go_wp2_with fail
        go_ret
        exact RB.mk rfl (by repeat (first | assumption | exact Bl.refl _ | apply Bl.drewN | apply Bl.drew | apply Bl.alloc | (refine Bl.dr ?_ (by assumption)) | (refine Bl.trans ?_ (by assumption))))
      go_wp2_with fail
      refine (H1.out _ (HO.out.bl hb)).mono ?_; rintro e w2 ⟨rfl, hb1⟩
      have hr := HR.out.bl hb1
      have hbn := Bl.trans hb hb1
      clear hb
      have hb := hbn
      clear hbn
      clear HR hm
      have HR := Lib.hid hr
      
      have hm := hr
      simp only [Mem, VE, List.cons_append, List.nil_append, and_true] at hm
      clear hr
      clear hb1
      have s1 := lt_of_cell hm.2.2.1
      simp only at s1
      have hal := (Bl.refl w2).alloc (Obj.cells #[.int .i64 0] 28)
      have hp : Mem ((w2).alloc (Obj.cells #[.int .i64 0] 28)) [(⟨(w2).heap.size, 0, none⟩, .int .i64 0)] := by simp [Mem, go_sem]
      have hr := (HR.out.bl hal).app hp
      have hbn := hb.trans hal
      clear hb
      have hb := hbn
      clear hbn
      clear HR hm
      have HR := Lib.hid hr
      
      have hm := hr
      simp only [Mem, VE, List.cons_append, List.nil_append, and_true] at hm
      clear hr hp hal
      go_wp2_with fail
      refine (H2.out _ (HO.out.bl hb)).mono ?_; rintro e w3 ⟨rfl, hb1⟩
      have hr := HR.out.bl hb1
      have hbn := Bl.trans hb hb1
      clear hb
      have hb := hbn
      clear hbn
      clear HR hm
      have HR := Lib.hid hr
      
      have hm := hr
      simp only [Mem, VE, List.cons_append, List.nil_append, and_true] at hm
      clear hr
      clear hb1
      have s2 := lt_of_cell hm.2.2.2.2.1
      simp only at s2
      have hne : w2.heap.size ≠ w.heap.size := by omega
      go_wp2_with fail
      go_loopg [7] l.length (fun g i wr => ∃ k : Nat, k ≤ l.length ∧ i = .int .i64 k ∧ Bl w wr ∧ Mem wr [(⟨w.heap.size, 0, none⟩, .int .i64 id), (⟨w.heap.size, 1, none⟩, .slice a l.length c), (⟨w2.heap.size, 0, none⟩, .int .i64 k)] ∧ g = l.length - k)
      case atStart => exact ⟨0, by omega, rfl, hb, HR.out, rfl⟩
      case round =>
        obtain ⟨k, hk, rfl, hbw, hmw, hg⟩ := hrel
        have G := Lib.hid hg
        clear hg hb HR hm
        have hb := hbw
        have HR := Lib.hid hmw
        clear hbw hmw
        
        have hm := HR.out
        simp only [Mem, VE, List.cons_append, List.nil_append, and_true] at hm
        by_cases hkl : k < l.length
        · obtain ⟨b2, off, rfl, hat⟩ := HO.out.ents.get hkl
          obtain ⟨x, hx⟩ : ∃ x, l[k]? = some x := ⟨_, List.getElem?_eq_getElem hkl⟩
          have hd := hat k x hx
          have HX := Lib.hid hx
          clear hat hx
          have hk0 : (0 : Int) ≤ (k : Int) := by omega
          have hkL : (k : Int) < (l.length : Int) := by omega
          go_wp2_with fail
          refine (H3.out k x HX.out _ (HO.out.bl hb)).mono ?_; rintro e w4 ⟨rfl, hb1⟩
          have hr := HR.out.bl hb1
          have hbn := Bl.trans hb hb1
          clear hb
          have hb := hbn
          clear hbn
          clear HR hm
          have HR := Lib.hid hr
          
          have hm := hr
          simp only [Mem, VE, List.cons_append, List.nil_append, and_true] at hm
          clear hr
          clear hb1
          have hal := ((Bl.refl w4).alloc (Obj.cells #[.string (x).key, .string (x).val, .bool (x).dead, .int .i64 (x).seq] 36)).alloc (Obj.cells #[.int .i64 ((k : Int) + 1)] 28)
          have hp : Mem (((w4).alloc (Obj.cells #[.string (x).key, .string (x).val, .bool (x).dead, .int .i64 (x).seq] 36)).alloc (Obj.cells #[.int .i64 ((k : Int) + 1)] 28)) (VE (w4).heap.size x ++ [(⟨(w4).heap.size + 1, 0, none⟩, .int .i64 ((k : Int) + 1))]) := by simp [Mem, VE, go_sem]
          have HT := Lib.hid hp
          have hr := HR.out.bl hal
          have hbn := hb.trans hal
          clear hb HR hm
          have hb := hbn
          have HR := Lib.hid hr
          
          have hm := hr.app hp
          simp only [Mem, VE, List.cons_append, List.nil_append, and_true] at hm
          clear hp hr hal hbn
          go_wp2_with fail
          refine (H4.out k x HX.out _ (HO.out.bl hb)).mono ?_; rintro e w5 ⟨rfl, hb1⟩
          have hr := HR.out.bl hb1
          have ht := HT.out.bl hb1
          have hbn := Bl.trans hb hb1
          clear hb HR HT hm
          have hb := hbn
          clear hbn
          have HR := Lib.hid hr
          have HT := Lib.hid ht
          
          have hm := hr.app ht
          simp only [Mem, VE, List.cons_append, List.nil_append, and_true] at hm
          clear hr ht
          clear hb1
          have hal := ((Bl.refl w5).alloc (Obj.cells #[.string (x).key, .string (x).val, .bool (x).dead, .int .i64 (x).seq] 36)).alloc (Obj.cells #[.int .i64 ((k : Int))] 28)
          have hp : Mem (((w5).alloc (Obj.cells #[.string (x).key, .string (x).val, .bool (x).dead, .int .i64 (x).seq] 36)).alloc (Obj.cells #[.int .i64 ((k : Int))] 28)) (VE (w5).heap.size x ++ [(⟨(w5).heap.size + 1, 0, none⟩, .int .i64 ((k : Int)))]) := by simp [Mem, VE, go_sem]
          have hr := HR.out.bl hal
          have ht := (HT.out.bl hal).app hp
          have hbn := hb.trans hal
          clear hb HR HT hm
          have hb := hbn
          have HR := Lib.hid hr
          have HT := Lib.hid ht
          
          have hm := hr.app ht
          simp only [Mem, VE, List.cons_append, List.nil_append, and_true] at hm
          clear hp hr ht hal hbn
          obtain ⟨d0, d1, d2, d3⟩ := hd.bl hb
          go_wp2_with fail
          generalize (w5.alloc (Obj.cells #[.string x.key, .string x.val, .bool x.dead, .int .i64 x.seq] 36)).alloc (Obj.cells #[.int .i64 (k : Int)] 28) = W5 at *
          have y1 : (x.key.toList == x.key.toList) = true := by simp
          have y2 : (x.val.toList == x.val.toList) = true := by simp
          go_quiet (fail)
          go_wp2_with fail
          go_roundg (l.length - (k + 1))
          case rel =>
            refine ⟨k + 1, by omega, by go_num, (Bl.setCell (by repeat (first | assumption | exact Bl.refl _ | apply Bl.drewN | apply Bl.drew | apply Bl.alloc | (refine Bl.dr ?_ (by assumption)) | (refine Bl.trans ?_ (by assumption)))) _ (by simp only; omega) _), ?_, rfl⟩
            have hr := (HR.out.bl (show Bl W5 (W5.drewN nq) from (by repeat (first | assumption | exact Bl.refl _ | apply Bl.drewN | apply Bl.drew | apply Bl.alloc | (refine Bl.dr ?_ (by assumption)) | (refine Bl.trans ?_ (by assumption)))))).upd ⟨w2.heap.size, 0, none⟩ (.int .i64 ((k : Int) + 1))
            simp [updM, hne] at hr
            rw [Int.natCast_add]
            exact hr
          case measure => rw [G.out]; omega
        · have e : k = l.length := by omega
          subst e
          go_wp2_with fail
          refine (H5.out _ (HO.out.bl hb)).mono ?_; rintro e w4 ⟨rfl, hb1⟩
          have hr := HR.out.bl hb1
          have hbn := Bl.trans hb hb1
          clear hb
          have hb := hbn
          clear hbn
          clear HR hm
          have HR := Lib.hid hr
          
          have hm := hr
          simp only [Mem, VE, List.cons_append, List.nil_append, and_true] at hm
          clear hr
          clear hb1
          have s3 := lt_of_cell hm.2.2.2.2.1
          simp only at s3
          have hal := ((Bl.refl w4).alloc (Obj.cells #[.string ((⟨⟨#[]⟩, ⟨#[]⟩, false, 0⟩ : Ent)).key, .string ((⟨⟨#[]⟩, ⟨#[]⟩, false, 0⟩ : Ent)).val, .bool ((⟨⟨#[]⟩, ⟨#[]⟩, false, 0⟩ : Ent)).dead, .int .i64 ((⟨⟨#[]⟩, ⟨#[]⟩, false, 0⟩ : Ent)).seq] 36)).alloc (Obj.cells #[.int .i64 ((l.length : Int))] 28)
          have hp : Mem (((w4).alloc (Obj.cells #[.string ((⟨⟨#[]⟩, ⟨#[]⟩, false, 0⟩ : Ent)).key, .string ((⟨⟨#[]⟩, ⟨#[]⟩, false, 0⟩ : Ent)).val, .bool ((⟨⟨#[]⟩, ⟨#[]⟩, false, 0⟩ : Ent)).dead, .int .i64 ((⟨⟨#[]⟩, ⟨#[]⟩, false, 0⟩ : Ent)).seq] 36)).alloc (Obj.cells #[.int .i64 ((l.length : Int))] 28)) (VE (w4).heap.size (⟨⟨#[]⟩, ⟨#[]⟩, false, 0⟩ : Ent) ++ [(⟨(w4).heap.size + 1, 0, none⟩, .int .i64 ((l.length : Int)))]) := by simp [Mem, VE, go_sem]
          have hr := (HR.out.bl hal).app (Mem.right hp)
          have hbn := hb.trans hal
          clear hb HR hm
          have hb := hbn
          have HR := Lib.hid hr
          
          have hm := hr
          simp only [Mem, VE, List.cons_append, List.nil_append, and_true] at hm
          clear hp hr hal hbn
          go_wp2_with fail
          refine (H7.out _ (HO.out.bl hb)).mono ?_; rintro e w5 ⟨rfl, hb1⟩
          have hr := HR.out.bl hb1
          have hbn := Bl.trans hb hb1
          clear hb
          have hb := hbn
          clear hbn
          clear HR hm
          have HR := Lib.hid hr
          
          have hm := hr
          simp only [Mem, VE, List.cons_append, List.nil_append, and_true] at hm
          clear hr
          clear hb1
          have hal := (Bl.refl w5).alloc (Obj.cells #[.int .i64 (l.length : Int)] 28)
          have hr := HR.out.bl hal
          have hbn := Bl.trans hb hal
          clear hb
          have hb := hbn
          clear hbn
          clear HR hm
          have HR := Lib.hid hr
          
          have hm := hr
          simp only [Mem, VE, List.cons_append, List.nil_append, and_true] at hm
          clear hr
          clear hal
          have s4 := lt_of_cell hm.2.2.2.2.2.2.1
          simp only at s4
          go_wp2_with fail
          have s5 : w4.heap.size + 1 < w5.heap.size ∨ True := Or.inr trivial
          have hne2 : w4.heap.size + 1 ≠ w.heap.size ∧ w4.heap.size + 1 ≠ w2.heap.size ∧ w2.heap.size ≠ w4.heap.size + 1 := by refine ⟨?_, ?_, ?_⟩ <;> omega
          generalize w5.alloc (Obj.cells #[.int .i64 (l.length : Int)] 28) = W5 at *
          have q0 : IntKind.i64.wrap ((l.length : Int) - 1) = (l.length : Int) - 1 := IntWalk.i64_in _ (by omega)
          go_loopg [18] l.length (fun g i wr => ∃ k : Nat, k ≤ l.length ∧ i = .int .i64 ((k : Int) - 1) ∧ Bl w wr ∧ Mem wr [(⟨w.heap.size, 0, none⟩, .int .i64 id), (⟨w.heap.size, 1, none⟩, .slice a l.length c), (⟨w2.heap.size, 0, none⟩, .int .i64 k), (⟨w4.heap.size + 1, 0, none⟩, .int .i64 l.length)] ∧ g = k)
          case atStart => exact ⟨l.length, by omega, rfl, hb, HR.out, rfl⟩
          case round =>
            obtain ⟨j, hj, rfl, hbw, hmw, hg⟩ := hrel
            have G := Lib.hid hg
            clear hg hb HR hm
            have hb := hbw
            have HR := Lib.hid hmw
            clear hbw hmw
            
            have hm := HR.out
            simp only [Mem, VE, List.cons_append, List.nil_append, and_true] at hm
            rcases j with _ | k
            · have z1 : decide ((0 : Int) ≤ ((0 : Nat) : Int) - 1) = false := by decide
              rw [show ((0 : Nat) : Int) = 0 from rfl] at hm HR
              go_wp2_with fail
              refine (H6.out _ (HO.out.bl hb)).mono ?_; rintro e w6 ⟨rfl, hb1⟩
              have hr := HR.out.bl hb1
              have hbn := Bl.trans hb hb1
              clear hb
              have hb := hbn
              clear hbn
              clear HR hm
              have HR := Lib.hid hr
              
              have hm := hr
              simp only [Mem, VE, List.cons_append, List.nil_append, and_true] at hm
              clear hr
              clear hb1
              go_wp2_with fail
              have hr := HR.out.upd ⟨w4.heap.size + 1, 0, none⟩ (.int .i64 0)
              simp [updM, hne, hne2] at hr
              have hbn := hb.setCell ⟨w4.heap.size + 1, 0, none⟩ (by simp only; omega) (.int .i64 0)
              clear hb HR hm
              have hb := hbn
              have HR := Lib.hid hr
              clear hr hbn
              refine (H1.out _ (HO.out.bl hb)).mono ?_; rintro e w7 ⟨rfl, hb1⟩
              have hm : True := trivial
              have hr := HR.out.bl hb1
              have hbn := Bl.trans hb hb1
              clear hb
              have hb := hbn
              clear hbn
              clear HR hm
              have HR := Lib.hid hr
              
              have hm := hr
              simp only [Mem, VE, List.cons_append, List.nil_append, and_true] at hm
              clear hr
              clear hb1
              have hal := (Bl.refl w7).alloc (Obj.cells #[.int .i64 0] 28)
              have hr := HR.out.bl hal
              have hbn := Bl.trans hb hal
              clear hb
              have hb := hbn
              clear hbn
              clear HR hm
              have HR := Lib.hid hr
              
              have hm := hr
              simp only [Mem, VE, List.cons_append, List.nil_append, and_true] at hm
              clear hr
              clear hal
              
              go_wp2_with fail
              refine (HA.out _).mono ?_; rintro e w8 ⟨rfl, hb8⟩
              go_wp2_with fail
              go_ret
              exact RB.mk rfl (by repeat (first | assumption | exact Bl.refl _ | apply Bl.drewN | apply Bl.drew | apply Bl.alloc | (refine Bl.dr ?_ (by assumption)) | (refine Bl.trans ?_ (by assumption))))
            · obtain ⟨b2, off, rfl, hat⟩ := HO.out.ents.get (show k < l.length by omega)
              obtain ⟨x, hx⟩ : ∃ x, l[k]? = some x := ⟨_, List.getElem?_eq_getElem (by omega)⟩
              have hd := hat k x hx
              have HX := Lib.hid hx
              clear hat hx
              have ek : ((k + 1 : Nat) : Int) - 1 = (k : Int) := by omega
              rw [ek]
              rw [Int.natCast_add] at hm HR
              have hk0 : (0 : Int) ≤ (k : Int) := by omega
              have hkL : (k : Int) < (l.length : Int) := by omega
              go_wp2_with fail
              refine (H4.out k x HX.out _ (HO.out.bl hb)).mono ?_; rintro e w6 ⟨rfl, hb1⟩
              have hr := HR.out.bl hb1
              have hbn := Bl.trans hb hb1
              clear hb
              have hb := hbn
              clear hbn
              clear HR hm
              have HR := Lib.hid hr
              
              have hm := hr
              simp only [Mem, VE, List.cons_append, List.nil_append, and_true] at hm
              clear hr
              clear hb1
              have hal := ((Bl.refl w6).alloc (Obj.cells #[.string (x).key, .string (x).val, .bool (x).dead, .int .i64 (x).seq] 36)).alloc (Obj.cells #[.int .i64 ((k : Int))] 28)
              have hp : Mem (((w6).alloc (Obj.cells #[.string (x).key, .string (x).val, .bool (x).dead, .int .i64 (x).seq] 36)).alloc (Obj.cells #[.int .i64 ((k : Int))] 28)) (VE (w6).heap.size x ++ [(⟨(w6).heap.size + 1, 0, none⟩, .int .i64 ((k : Int)))]) := by simp [Mem, VE, go_sem]
              have HT := Lib.hid hp
              have hr := HR.out.bl hal
              have hbn := hb.trans hal
              clear hb HR hm
              have hb := hbn
              have HR := Lib.hid hr
              
              have hm := hr.app hp
              simp only [Mem, VE, List.cons_append, List.nil_append, and_true] at hm
              clear hp hr hal hbn
              go_wp2_with fail
              refine (H3.out k x HX.out _ (HO.out.bl hb)).mono ?_; rintro e w7 ⟨rfl, hb1⟩
              have hr := HR.out.bl hb1
              have ht := HT.out.bl hb1
              have hbn := Bl.trans hb hb1
              clear hb HR HT hm
              have hb := hbn
              clear hbn
              have HR := Lib.hid hr
              have HT := Lib.hid ht
              
              have hm := hr.app ht
              simp only [Mem, VE, List.cons_append, List.nil_append, and_true] at hm
              clear hr ht
              clear hb1
              have hal := ((Bl.refl w7).alloc (Obj.cells #[.string (x).key, .string (x).val, .bool (x).dead, .int .i64 (x).seq] 36)).alloc (Obj.cells #[.int .i64 ((k : Int) + 1)] 28)
              have hp : Mem (((w7).alloc (Obj.cells #[.string (x).key, .string (x).val, .bool (x).dead, .int .i64 (x).seq] 36)).alloc (Obj.cells #[.int .i64 ((k : Int) + 1)] 28)) (VE (w7).heap.size x ++ [(⟨(w7).heap.size + 1, 0, none⟩, .int .i64 ((k : Int) + 1))]) := by simp [Mem, VE, go_sem]
              have hr := HR.out.bl hal
              have ht := (HT.out.bl hal).app hp
              have hbn := hb.trans hal
              clear hb HR HT hm
              have hb := hbn
              have HR := Lib.hid hr
              have HT := Lib.hid ht
              
              have hm := hr.app ht
              simp only [Mem, VE, List.cons_append, List.nil_append, and_true] at hm
              clear hp hr ht hal hbn
              obtain ⟨d0, d1, d2, d3⟩ := hd.bl hb
              have y1 : (x.key.toList == x.key.toList) = true := by simp
              have y2 : (x.val.toList == x.val.toList) = true := by simp
              have q1 : IntKind.i64.wrap ((k : Int) - 1) = (k : Int) - 1 := IntWalk.i64_in _ (by omega)
              go_wp2_with fail
              generalize (w7.alloc (Obj.cells #[.string x.key, .string x.val, .bool x.dead, .int .i64 x.seq] 36)).alloc (Obj.cells #[.int .i64 ((k : Int) + 1)] 28) = W7 at *
              go_quiet (fail)
              go_wp2_with fail
              go_roundg (k)
              case rel =>
                refine ⟨k, by omega, rfl, (Bl.setCell (by repeat (first | assumption | exact Bl.refl _ | apply Bl.drewN | apply Bl.drew | apply Bl.alloc | (refine Bl.dr ?_ (by assumption)) | (refine Bl.trans ?_ (by assumption)))) _ (by simp only; omega) _), ?_, rfl⟩
                have hr := (HR.out.bl (show Bl W7 (W7.drewN nq) from (by repeat (first | assumption | exact Bl.refl _ | apply Bl.drewN | apply Bl.drew | apply Bl.alloc | (refine Bl.dr ?_ (by assumption)) | (refine Bl.trans ?_ (by assumption)))))).upd ⟨w2.heap.size, 0, none⟩ (.int .i64 (k : Int))
                simp [updM, hne, hne2] at hr
                exact hr
              case measure => rw [G.out]; omega
    · generalize (rck r).1 = v0 at *
      generalize (rck r).2 = v1 at *
      unfold Rn.v at *
      try simp only at h0 h1 h2 hl ⊢
      have hl80 : ¬ (80 : Int) < (r.es.length : Int) := by omega
      have e1 : (v1 == 0) = false := by simpa using e0
      have e2 : (v1 == v1) = true := by simp
      have HO := Lib.hid h
      obtain ⟨id, l⟩ := r
      unfold Rn.v at *
      have H0 := Lib.hid h0
      have H1 := Lib.hid h1
      have H2 := Lib.hid h2
      clear h0 h1 h2 h
      go_enter Try.func9, Try.ntmps9
      go_wp2_with fail
      refine (H0.out _ (HO.out.bl (by repeat (first | assumption | exact Bl.refl _ | apply Bl.drewN | apply Bl.drew | apply Bl.alloc | (refine Bl.dr ?_ (by assumption)) | (refine Bl.trans ?_ (by assumption)))))).mono ?_; rintro e w1 ⟨fb, rfl, hb1⟩
      have hr : Mem w1 [(⟨w.heap.size, 0, none⟩, .int .i64 id), (⟨w.heap.size, 1, none⟩, .slice a l.length c)] := by
        refine Mem.bl ?_ hb1
        simp [Mem, go_sem]
      have HR := Lib.hid hr
      
      have hm := hr
      simp only [Mem, VE, List.cons_append, List.nil_append, and_true] at hm
      have hb : Bl w w1 := (by repeat (first | assumption | exact Bl.refl _ | apply Bl.drewN | apply Bl.drew | apply Bl.alloc | (refine Bl.dr ?_ (by assumption)) | (refine Bl.trans ?_ (by assumption))))
      clear hr hb1
      cases fb
      case true =>
        
        go_wp2_with fail
        refine (HA.out _).mono ?_; rintro e w8 ⟨rfl, hb8⟩
        go_wp2_with fail
        go_ret
        exact RB.mk rfl (by repeat (first | assumption | exact Bl.refl _ | apply Bl.drewN | apply Bl.drew | apply Bl.alloc | (refine Bl.dr ?_ (by assumption)) | (refine Bl.trans ?_ (by assumption))))
      go_wp2_with fail
      refine (H1.out _ (HO.out.bl hb)).mono ?_; rintro e w2 ⟨rfl, hb1⟩
      have hr := HR.out.bl hb1
      have hbn := Bl.trans hb hb1
      clear hb
      have hb := hbn
      clear hbn
      clear HR hm
      have HR := Lib.hid hr
      
      have hm := hr
      simp only [Mem, VE, List.cons_append, List.nil_append, and_true] at hm
      clear hr
      clear hb1
      have hal := (Bl.refl w2).alloc (Obj.cells #[.int .i64 0] 28)
      have hp : Mem ((w2).alloc (Obj.cells #[.int .i64 0] 28)) [(⟨(w2).heap.size, 0, none⟩, .int .i64 0)] := by simp [Mem, go_sem]
      have hr := (HR.out.bl hal).app hp
      have hbn := hb.trans hal
      clear hb
      have hb := hbn
      clear hbn
      clear HR hm
      have HR := Lib.hid hr
      
      have hm := hr
      simp only [Mem, VE, List.cons_append, List.nil_append, and_true] at hm
      clear hr hp hal
      go_wp2_with fail
      refine (H2.out _ (HO.out.bl hb)).mono ?_; rintro e w3 ⟨rfl, hb1⟩
      have hr := HR.out.bl hb1
      have hbn := Bl.trans hb hb1
      clear hb
      have hb := hbn
      clear hbn
      clear HR hm
      have HR := Lib.hid hr
      
      have hm := hr
      simp only [Mem, VE, List.cons_append, List.nil_append, and_true] at hm
      clear hr
      clear hb1
      
      go_wp2_with fail
      refine (HA.out _).mono ?_; rintro e w8 ⟨rfl, hb8⟩
      go_wp2_with fail
      go_ret
      exact RB.mk rfl (by repeat (first | assumption | exact Bl.refl _ | apply Bl.drewN | apply Bl.drew | apply Bl.alloc | (refine Bl.dr ?_ (by assumption)) | (refine Bl.trans ?_ (by assumption))))
  · generalize (rck r).1 = v0 at *
    generalize (rck r).2 = v1 at *
    unfold Rn.v at *
    try simp only at h0 h1 h2 hl ⊢
    have hl80 : (80 : Int) < (r.es.length : Int) := by omega
    have HO := Lib.hid h
    obtain ⟨id, l⟩ := r
    unfold Rn.v at *
    have H0 := Lib.hid h0
    have H1 := Lib.hid h1
    have H2 := Lib.hid h2
    clear h0 h1 h2 h
    go_enter Try.func9, Try.ntmps9
    go_wp2_with fail
    refine (H0.out _ (HO.out.bl (by repeat (first | assumption | exact Bl.refl _ | apply Bl.drewN | apply Bl.drew | apply Bl.alloc | (refine Bl.dr ?_ (by assumption)) | (refine Bl.trans ?_ (by assumption)))))).mono ?_; rintro e w1 ⟨fb, rfl, hb1⟩
    have hr : Mem w1 [(⟨w.heap.size, 0, none⟩, .int .i64 id), (⟨w.heap.size, 1, none⟩, .slice a l.length c)] := by
      refine Mem.bl ?_ hb1
      simp [Mem, go_sem]
    have HR := Lib.hid hr
    
    have hm := hr
    simp only [Mem, VE, List.cons_append, List.nil_append, and_true] at hm
    have hb : Bl w w1 := (by repeat (first | assumption | exact Bl.refl _ | apply Bl.drewN | apply Bl.drew | apply Bl.alloc | (refine Bl.dr ?_ (by assumption)) | (refine Bl.trans ?_ (by assumption))))
    clear hr hb1
    cases fb
    case true =>
      
      go_wp2_with fail
      refine (HA.out _).mono ?_; rintro e w8 ⟨rfl, hb8⟩
      go_wp2_with fail
      go_ret
      exact RB.mk rfl (by repeat (first | assumption | exact Bl.refl _ | apply Bl.drewN | apply Bl.drew | apply Bl.alloc | (refine Bl.dr ?_ (by assumption)) | (refine Bl.trans ?_ (by assumption))))
    
    go_wp2_with fail
    refine (HA.out _).mono ?_; rintro e w8 ⟨rfl, hb8⟩
    go_wp2_with fail
    go_ret
    exact RB.mk rfl (by repeat (first | assumption | exact Bl.refl _ | apply Bl.drewN | apply Bl.drew | apply Bl.alloc | (refine Bl.dr ?_ (by assumption)) | (refine Bl.trans ?_ (by assumption))))
end Go.Proofs.Ytinbdppekhcekaa
