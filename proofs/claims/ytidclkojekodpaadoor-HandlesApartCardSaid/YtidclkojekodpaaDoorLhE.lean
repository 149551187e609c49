
/-
  The walk of HandlesApart.
-/
import Derived.Test.YtidclkojekodpaaDoorHnN
import Derived.Test.YtidclkojekodpaaDoorHnJ
import Derived.Test.YtidclkojekodpaaDoorHnV
import Derived.Deep.RegionHeld3
namespace Go.Proofs.YtidclkojekodpaaDoor
open Go.RowKit
set_option linter.unusedSimpArgs false
set_option linter.unusedVariables false
set_option maxRecDepth 100000

theorem cutIf {P Q : Prop} (h : P) (k : P → Q) : Q := k h
set_option maxHeartbeats 8000000 in
theorem apartFar (a : Option Addr) (c : Nat) (t : Tb) (N : Nat) (w : World) (h : TOk w a c t) (hf : 40 < t.slots.length) : Calls Tryd.prog 5 #[t.v a c, .int .u8 N] w (RB w (.bool true)) := by
  have hF := fun w h => lawHnFar a c t w h
  have hf' : decide (40 < t.slots.length) = true := by simpa using hf
  rw [hf'] at hF
  have HF := Lib.hid hF
  clear hf hf' hF
  
  have HO := Lib.hid h
  obtain ⟨mo, l⟩ := t
  have hs := h.slots
  have hc1 := h.len
  have hc2 := h.cap
  simp only at hs hc1
  unfold maxLen at hc2
  unfold Tb.v
  simp only
  clear h
  clear hs
  go_enter Tryd.func5, Tryd.ntmps5
  go_wp2_with fail
  refine (HF.out _ (HO.out.bl (by repeat (first | assumption | exact Bl.refl _ | apply Bl.drewN | apply Bl.drew | apply Bl.alloc | (refine Bl.dr ?_ (by assumption)) | (refine Bl.trans ?_ (by assumption)))))).mono ?_; rintro e w1 ⟨rfl, hb1⟩
  have hb : Bl w w1 := (by repeat (first | assumption | exact Bl.refl _ | apply Bl.drewN | apply Bl.drew | apply Bl.alloc | (refine Bl.dr ?_ (by assumption)) | (refine Bl.trans ?_ (by assumption))))
  clear hb1
  go_wp2_with fail
  refine (lawHnShown _).mono ?_; rintro e w2 ⟨rfl, hb1⟩
  go_wp2_with fail
  go_ret
  exact RB.mk rfl (hb.trans hb1)
set_option maxHeartbeats 16000000 in
theorem apartBad (a : Option Addr) (c : Nat) (t : Tb) (N : Nat) (w : World) (h : TOk w a c t) (hN : N < 256) (hf : ¬ 40 < t.slots.length) (le : Int) (e4 : tlive t = ([], le)) (q : (le != 0) = true) : Calls Tryd.prog 5 #[t.v a c, .int .u8 N] w (RB w (.bool true)) := by
  have hL := fun w h => hnLive a c t w h
  rw [e4] at hL
  have HL := Lib.hid hL
  clear hL e4
  have hF := fun w h => lawHnFar a c t w h
  have hf' : decide (40 < t.slots.length) = false := by simpa using hf
  rw [hf'] at hF
  have HF := Lib.hid hF
  clear hf' hF
  
  have HO := Lib.hid h
  obtain ⟨mo, l⟩ := t
  have hs := h.slots
  have hc1 := h.len
  have hc2 := h.cap
  simp only at hs hc1
  unfold maxLen at hc2
  unfold Tb.v
  simp only
  clear h
  clear hs
  go_enter Tryd.func5, Tryd.ntmps5
  go_wp2_with fail
  refine (HF.out _ (HO.out.bl (by repeat (first | assumption | exact Bl.refl _ | apply Bl.drewN | apply Bl.drew | apply Bl.alloc | (refine Bl.dr ?_ (by assumption)) | (refine Bl.trans ?_ (by assumption)))))).mono ?_; rintro e w1 ⟨rfl, hb1⟩
  have hb : Bl w w1 := (by repeat (first | assumption | exact Bl.refl _ | apply Bl.drewN | apply Bl.drew | apply Bl.alloc | (refine Bl.dr ?_ (by assumption)) | (refine Bl.trans ?_ (by assumption))))
  have hr : Mem w1 [(⟨w.heap.size, 0, none⟩, .int .i64 mo), (⟨w.heap.size, 1, none⟩, .slice a l.length c)] := by
    refine Mem.bl ?_ hb1
    simp [Mem, go_sem]
  have dsw : w.heap.size < w1.heap.size := by have := hb1.size; simp at this; omega
  clear hb1
  have HA := Lib.hid hr
  
  have hm := hr
  simp only [Mem, VE, List.cons_append, List.nil_append, and_true] at hm
  clear hr
  go_wp2_with fail
  refine (HL.out _ (HO.out.bl hb)).mono ?_; rintro e wa ⟨v, rfl, ⟨vl, rfl, hH⟩, hb1⟩
  obtain ⟨al, cl, rfl, hH1, hcl1, hcl2⟩ := hH
  simp only [List.length_nil] at hH1 hcl1 ⊢
  unfold maxLen at hcl2
  have qA := HA.out.bl hb1
  have hbn := hb.trans hb1
  have d1_A : w.heap.size < wa.heap.size := Nat.lt_of_lt_of_le dsw hb1.size
  clear hb hm HA 
  have HA := Lib.hid qA
  have hb := hbn
  have hm := qA
  simp only [Mem, List.cons_append, List.nil_append, and_true] at hm
  clear hbn qA 
  clear hb1
  go_wp2_with fail
  have HH1 := Lib.hid hH1
  clear hH1
  refine (lawHnShown _).mono ?_; rintro e wn ⟨rfl, hb1⟩
  have hb3 := hb.trans hb1
  go_wp2_with fail
  go_ret
  exact RB.mk rfl hb3
set_option maxHeartbeats 16000000 in
theorem apartEmpty (a : Option Addr) (c : Nat) (t : Tb) (N : Nat) (w : World) (h : TOk w a c t) (hN : N < 256) (hf : ¬ 40 < t.slots.length) (e4 : tlive t = ([], 0)) : Calls Tryd.prog 5 #[t.v a c, .int .u8 N] w (RB w (.bool true)) := by
  have hL := fun w h => hnLive a c t w h
  rw [e4] at hL
  have HL := Lib.hid hL
  clear hL e4
  have hF := fun w h => lawHnFar a c t w h
  have hf' : decide (40 < t.slots.length) = false := by simpa using hf
  rw [hf'] at hF
  have HF := Lib.hid hF
  clear hf' hF
  
  have HO := Lib.hid h
  obtain ⟨mo, l⟩ := t
  have hs := h.slots
  have hc1 := h.len
  have hc2 := h.cap
  simp only at hs hc1
  unfold maxLen at hc2
  unfold Tb.v
  simp only
  clear h
  clear hs
  go_enter Tryd.func5, Tryd.ntmps5
  go_wp2_with fail
  refine (HF.out _ (HO.out.bl (by repeat (first | assumption | exact Bl.refl _ | apply Bl.drewN | apply Bl.drew | apply Bl.alloc | (refine Bl.dr ?_ (by assumption)) | (refine Bl.trans ?_ (by assumption)))))).mono ?_; rintro e w1 ⟨rfl, hb1⟩
  have hb : Bl w w1 := (by repeat (first | assumption | exact Bl.refl _ | apply Bl.drewN | apply Bl.drew | apply Bl.alloc | (refine Bl.dr ?_ (by assumption)) | (refine Bl.trans ?_ (by assumption))))
  have hr : Mem w1 [(⟨w.heap.size, 0, none⟩, .int .i64 mo), (⟨w.heap.size, 1, none⟩, .slice a l.length c)] := by
    refine Mem.bl ?_ hb1
    simp [Mem, go_sem]
  have dsw : w.heap.size < w1.heap.size := by have := hb1.size; simp at this; omega
  clear hb1
  have HA := Lib.hid hr
  
  have hm := hr
  simp only [Mem, VE, List.cons_append, List.nil_append, and_true] at hm
  clear hr
  go_wp2_with fail
  refine (HL.out _ (HO.out.bl hb)).mono ?_; rintro e wa ⟨v, rfl, ⟨vl, rfl, hH⟩, hb1⟩
  obtain ⟨al, cl, rfl, hH1, hcl1, hcl2⟩ := hH
  simp only [List.length_nil] at hH1 hcl1 ⊢
  unfold maxLen at hcl2
  have qA := HA.out.bl hb1
  have hbn := hb.trans hb1
  have d1_A : w.heap.size < wa.heap.size := Nat.lt_of_lt_of_le dsw hb1.size
  clear hb hm HA 
  have HA := Lib.hid qA
  have hb := hbn
  have hm := qA
  simp only [Mem, List.cons_append, List.nil_append, and_true] at hm
  clear hbn qA 
  clear hb1
  go_wp2_with fail
  have HH1 := Lib.hid hH1
  clear hH1
  refine (lawHnShown _).mono ?_; rintro e wn ⟨rfl, hb1⟩
  have hb3 := hb.trans hb1
  go_wp2_with fail
  go_ret
  exact RB.mk rfl hb3
set_option maxHeartbeats 16000000 in
theorem apartNo (a : Option Addr) (c : Nat) (t : Tb) (N : Nat) (w : World) (h : TOk w a c t) (hN : N < 256) (hf : ¬ 40 < t.slots.length) (L : List (Int × Int)) (e4 : tlive t = (L, 0)) (hL0 : L ≠ []) (hLb : ∀ (i : Nat) x, L[i]? = some x → 1 ≤ x.1 ∧ x.1 ≤ 100) (k : Nat) (hk : k = N % L.length) (hx hy : Int) (hxk : L[k]? = some (hx, hy)) (um : Int) (us : List Slot) (e5 : tdrop t (hx, hy) = (⟨um, us⟩, 0)) (hul : us.length = t.slots.length) (hum : um = t.most) (hLu : ∀ (i : Nat) x, L[i]? = some x → (i = k → tlook ⟨um, us⟩ x = (0, 11)) ∧ (i ≠ k → tlook ⟨um, us⟩ x = (x.1 - 1, 0))) (vm bx by' ge : Int) (vs : List Slot) (e6 : tgive t = (⟨vm, vs⟩, (bx, by'), ge)) (q : (ge == 0) = false) : Calls Tryd.prog 5 #[t.v a c, .int .u8 N] w (RB w (.bool true)) := by
  have hL := fun w h => hnLive a c t w h
  have hD := fun w h hi => hnDrop a c t hx hy w h hi
  have hG := fun w h => hnGive a c t w h
  have hK1 := fun a c i g w h hi => hnLook a c ⟨um, us⟩ i g w h hi
  have hK2 := fun a c i g w h hi => hnLook a c ⟨vm, vs⟩ i g w h hi
  rw [e4] at hL
  rw [e5] at hD
  rw [e6] at hG
  have hLp : 0 < L.length := List.length_pos_iff.2 hL0
  have hkL : k < L.length := by rw [hk]; exact Nat.mod_lt _ hLp
  have hLe : ((L.length : Int) == 0) = false := by rw [beq_eq_false_iff_ne]; omega
  have hrem : Int.tmod (N : Int) (L.length : Int) = (k : Int) := by rw [hk]; exact (Int.ofNat_tmod N L.length).symm
  have HL := Lib.hid hL
  have HD := Lib.hid hD
  have HG := Lib.hid hG
  have HK1 := Lib.hid hK1
  have HK2 := Lib.hid hK2
  have HLb := Lib.hid hLb
  have HLu := Lib.hid hLu
  have HXK := Lib.hid hxk
  have hxb := hLb k _ hxk
  simp only at hxb
  clear hL hD hG hK1 hK2 hLb hLu e4 e5 e6 hxk hL0 hk
  have hF := fun w h => lawHnFar a c t w h
  have hf' : decide (40 < t.slots.length) = false := by simpa using hf
  rw [hf'] at hF
  have HF := Lib.hid hF
  clear hf' hF
  
  have HO := Lib.hid h
  obtain ⟨mo, l⟩ := t
  have hs := h.slots
  have hc1 := h.len
  have hc2 := h.cap
  simp only at hs hc1
  unfold maxLen at hc2
  unfold Tb.v
  simp only
  clear h
  clear hs
  go_enter Tryd.func5, Tryd.ntmps5
  go_wp2_with fail
  refine (HF.out _ (HO.out.bl (by repeat (first | assumption | exact Bl.refl _ | apply Bl.drewN | apply Bl.drew | apply Bl.alloc | (refine Bl.dr ?_ (by assumption)) | (refine Bl.trans ?_ (by assumption)))))).mono ?_; rintro e w1 ⟨rfl, hb1⟩
  have hb : Bl w w1 := (by repeat (first | assumption | exact Bl.refl _ | apply Bl.drewN | apply Bl.drew | apply Bl.alloc | (refine Bl.dr ?_ (by assumption)) | (refine Bl.trans ?_ (by assumption))))
  have hr : Mem w1 [(⟨w.heap.size, 0, none⟩, .int .i64 mo), (⟨w.heap.size, 1, none⟩, .slice a l.length c)] := by
    refine Mem.bl ?_ hb1
    simp [Mem, go_sem]
  have dsw : w.heap.size < w1.heap.size := by have := hb1.size; simp at this; omega
  clear hb1
  have HA := Lib.hid hr
  
  have hm := hr
  simp only [Mem, VE, List.cons_append, List.nil_append, and_true] at hm
  clear hr
  go_wp2_with fail
  try simp only at hul hum
  have hum2 := hum.symm
  clear hum
  subst hum2
  have hK1 := HK1.out
  have hK2 := HK2.out
  unfold Tb.v at hK1 hK2
  simp only [hul] at hK1
  clear HK1 HK2
  have HK1 := Lib.hid hK1
  have HK2 := Lib.hid hK2
  clear hK1 hK2
  refine (HL.out _ (HO.out.bl hb)).mono ?_; rintro e wa ⟨v, rfl, ⟨vl, rfl, hH⟩, hb1⟩
  obtain ⟨al, cl, rfl, hH1, hcl1, hcl2⟩ := hH
  simp only [List.length_nil] at hH1 hcl1 ⊢
  unfold maxLen at hcl2
  have qA := HA.out.bl hb1
  have hbn := hb.trans hb1
  have d1_A : w.heap.size < wa.heap.size := Nat.lt_of_lt_of_le dsw hb1.size
  clear hb hm HA 
  have HA := Lib.hid qA
  have hb := hbn
  have hm := qA
  simp only [Mem, List.cons_append, List.nil_append, and_true] at hm
  clear hbn qA 
  clear hb1
  go_wp2_with fail
  have HH1 := Lib.hid hH1
  clear hH1
  obtain ⟨b, off, rfl, hat⟩ := HH1.out.get hkL
  have x0 := (hat k _ HXK.out).1
  have x1 := (hat k _ HXK.out).2
  simp only at x0 x1
  have p1 : (0 : Int) ≤ (k : Int) := by omega
  have p2 : (k : Int) < (L.length : Int) := by omega
  have HKF : Hid (∀ w', Bl wa w' → Bl wa w' ∧ w'.cell? ⟨w.heap.size, 0, none⟩ = some (.int .i64 mo) ∧ w'.cell? ⟨w.heap.size, 1, none⟩ = some (.slice a l.length c) ∧ w'.cell? ⟨b, off + k * 2, none⟩ = some (.int .i64 hx) ∧ w'.cell? ⟨b, off + k * 2 + 1, none⟩ = some (.int .i64 hy)) := Lib.hid (fun w' k2 => by have := HA.out.bl k2; simp only [Mem, and_true] at this; simp [this, k2, k2.cell x0, k2.cell x1])
  have hb00 : Bl wa wa := Bl.refl _
  go_cut [8, 9] (fun s8 s9 wx => ∃ (Bu : Nat) (au : Option Addr) (cu : Nat), s8 = .pointer (some ⟨Bu, 0, none⟩) ∧ s9 = .int .i64 0 ∧ Mem wx [(⟨Bu, 0, none⟩, .int .i64 mo), (⟨Bu, 1, none⟩, .slice au l.length cu)] ∧ TOk wx au cu ⟨mo, us⟩ ∧ Bl wa wx)
  case first =>
    have hk0 := HKF.out _ hb00
    go_region_held3 (fun w' => (Bl wa w' ∧ w'.cell? ⟨w.heap.size, 0, none⟩ = some (.int .i64 mo) ∧ w'.cell? ⟨w.heap.size, 1, none⟩ = some (.slice a l.length c) ∧ w'.cell? ⟨b, off + k * 2, none⟩ = some (.int .i64 hx) ∧ w'.cell? ⟨b, off + k * 2 + 1, none⟩ = some (.int .i64 hy))) (exact HKF.out _ (by repeat (first | assumption | exact Bl.refl _ | apply Bl.drewN | apply Bl.drew | apply Bl.alloc | (refine Bl.setCell ?_ _ (by first | (simp; done) | (simp; omega)) _) | (refine Bl.dr ?_ (by assumption)) | (refine Bl.trans ?_ (by assumption)))))
      ((go_at_call 13; refine (HD.out _ (HO.out.bl (hb.trans (by repeat (first | assumption | exact Bl.refl _ | apply Bl.drewN | apply Bl.drew | apply Bl.alloc | (refine Bl.setCell ?_ _ (by first | (simp; done) | (simp; omega)) _) | (refine Bl.dr ?_ (by assumption)) | (refine Bl.trans ?_ (by assumption)))))) (by omega)).mono ?_; rintro e w2 ⟨v, rfl, ⟨vt, rfl, au, cu, rfl, hTu, hFu⟩, hbu⟩; have hb3 : Bl wa w2 := Bl.trans (by repeat (first | assumption | exact Bl.refl _ | apply Bl.drewN | apply Bl.drew | apply Bl.alloc | (refine Bl.setCell ?_ _ (by first | (simp; done) | (simp; omega)) _) | (refine Bl.dr ?_ (by assumption)) | (refine Bl.trans ?_ (by assumption)))) hbu; unfold Tb.v; simp only at hTu hFu ⊢; first | (refine cutIf (P := Mem w2 [(⟨wa.heap.size, 0, none⟩, .int .i64 0), (⟨wa.heap.size, 1, none⟩, .slice none 0 0)]) ?_ ?_; (focus (refine Mem.bl ?_ hbu; simp [Mem, go_sem]; done)); intro hm5; simp only [Mem, and_true] at hm5) | skip))
    all_goals go_wp2_with fail
    all_goals go_meet
    all_goals first
      | exact ⟨w2.heap.size, au, cu, rfl, rfl, by simp [Mem, go_sem], hTu.bl ((Bl.refl _).alloc _), hb3.alloc _⟩
      | exact ⟨wa.heap.size, au, cu, rfl, rfl, by simp [Mem, go_sem, hm5], (hTu.set hFu (p := ⟨wa.heap.size, 0, none⟩) (by simp) _).set hFu (p := ⟨wa.heap.size, 1, none⟩) (by simp) _, (hb3.setCell _ (by simp) _).setCell _ (by simp) _⟩
  case rest =>
    obtain ⟨Bu, au, cu, rfl, rfl, hru, hTu, hbu⟩ := hcut
    have dU0 : Bu < wc.heap.size := lt_of_cell hru.1
    have HU := Lib.hid hru
    have HTu := Lib.hid hTu
    clear hb00 HKF x0 x1 hTu
    have qA := HA.out.bl hbu
    have qfH1 := HH1.out.bl hbu
    have hbn := hb.trans hbu
    have d2_A : w.heap.size < wc.heap.size := Nat.lt_of_lt_of_le d1_A hbu.size
    clear hb hm HA 
    have HA := Lib.hid qA
    clear HH1
    have HH1 := Lib.hid qfH1
    clear qfH1
    have hb := hbn
    have hm := qA
    simp only [Mem, List.cons_append, List.nil_append, and_true] at hm
    clear hbn qA 
    clear hbu hm
    have hm := HA.out.app HU.out
    simp only [Mem, List.cons_append, List.nil_append, and_true] at hm
    clear hru
    go_wp2_with fail
    refine (HG.out _ (HO.out.bl hb)).mono ?_; rintro e wd ⟨v, rfl, ⟨vt, rfl, hV⟩, hb1⟩
    obtain ⟨av, cv, rfl, hV, hFv⟩ := hV
    unfold Tb.v hv
    simp only at hV hFv ⊢
    have qA := HA.out.bl hb1
    have qU := HU.out.bl hb1
    have qTu := HTu.out.bl hb1
    have qfH1 := HH1.out.bl hb1
    have hbn := hb.trans hb1
    have d3_A : w.heap.size < wd.heap.size := Nat.lt_of_lt_of_le d2_A hb1.size
    have d3_U : Bu < wd.heap.size := Nat.lt_of_lt_of_le dU0 hb1.size
    clear hb hm HA HU HTu
    have HA := Lib.hid qA
    have HU := Lib.hid qU
    have HTu := Lib.hid qTu
    clear HH1
    have HH1 := Lib.hid qfH1
    clear qfH1
    have hb := hbn
    have hm := (qA).app qU
    simp only [Mem, List.cons_append, List.nil_append, and_true] at hm
    clear hbn qA qU qTu
    clear hb1
    have qA := ((HA.out.alloc (Obj.cells #[.int .i64 vm, .slice av vs.length cv] 24)).alloc (Obj.cells #[.int .i64 bx, .int .i64 by'] 26))
    have qU := ((HU.out.alloc (Obj.cells #[.int .i64 vm, .slice av vs.length cv] 24)).alloc (Obj.cells #[.int .i64 bx, .int .i64 by'] 26))
    have qV := ((show Mem (wd.alloc (Obj.cells #[.int .i64 vm, .slice av vs.length cv] 24)) [(⟨wd.heap.size, 0, none⟩, .int .i64 vm), (⟨wd.heap.size, 1, none⟩, .slice av vs.length cv)] by simp [Mem, go_sem]).alloc (Obj.cells #[.int .i64 bx, .int .i64 by'] 26))
    have qB := (show Mem ((wd.alloc (Obj.cells #[.int .i64 vm, .slice av vs.length cv] 24)).alloc (Obj.cells #[.int .i64 bx, .int .i64 by'] 26)) [(⟨wd.heap.size + 1, 0, none⟩, .int .i64 bx), (⟨wd.heap.size + 1, 1, none⟩, .int .i64 by')] by simp [Mem, go_sem])
    have qTu := ((HTu.out.bl ((Bl.refl _).alloc (Obj.cells #[.int .i64 vm, .slice av vs.length cv] 24))).bl ((Bl.refl _).alloc (Obj.cells #[.int .i64 bx, .int .i64 by'] 26)))
    have qTv := ((hV.bl ((Bl.refl _).alloc (Obj.cells #[.int .i64 vm, .slice av vs.length cv] 24))).bl ((Bl.refl _).alloc (Obj.cells #[.int .i64 bx, .int .i64 by'] 26)))
    have qfH1 := ((HH1.out.bl ((Bl.refl _).alloc (Obj.cells #[.int .i64 vm, .slice av vs.length cv] 24))).bl ((Bl.refl _).alloc (Obj.cells #[.int .i64 bx, .int .i64 by'] 26)))
    clear HH1
    have HH1 := Lib.hid qfH1
    clear qfH1
    have hbn := ((hb.alloc (Obj.cells #[.int .i64 vm, .slice av vs.length cv] 24)).alloc (Obj.cells #[.int .i64 bx, .int .i64 by'] 26))
    have d4_A : w.heap.size < ((wd.alloc (Obj.cells #[.int .i64 vm, .slice av vs.length cv] 24)).alloc (Obj.cells #[.int .i64 bx, .int .i64 by'] 26)).heap.size := by simp; omega
    have d4_U : Bu < ((wd.alloc (Obj.cells #[.int .i64 vm, .slice av vs.length cv] 24)).alloc (Obj.cells #[.int .i64 bx, .int .i64 by'] 26)).heap.size := by simp; omega
    have d4_V : wd.heap.size < ((wd.alloc (Obj.cells #[.int .i64 vm, .slice av vs.length cv] 24)).alloc (Obj.cells #[.int .i64 bx, .int .i64 by'] 26)).heap.size := by first | (simp; done) | (simp; omega)
    have d4_B : wd.heap.size + 1 < ((wd.alloc (Obj.cells #[.int .i64 vm, .slice av vs.length cv] 24)).alloc (Obj.cells #[.int .i64 bx, .int .i64 by'] 26)).heap.size := by first | (simp; done) | (simp; omega)
    clear hb HA HU HTu 
    have HA := Lib.hid qA
    have HU := Lib.hid qU
    have HV := Lib.hid qV
    have HB := Lib.hid qB
    have HTu := Lib.hid qTu
    have HTv := Lib.hid qTv
    have yy := (((qA).app qU).app qV).app qB
    simp only [Mem, List.cons_append, List.nil_append, and_true] at yy
    clear qA qU qV qB qTu qTv
    go_wp2_with fail
    have hb := hbn
    clear hbn hm yy 
    generalize (wd.alloc (Obj.cells #[.int .i64 vm, .slice av vs.length cv] 24)).alloc (Obj.cells #[.int .i64 bx, .int .i64 by'] 26) = W1 at *
    have hm := trivial
    clear hV hm
    go_loopg [13] L.length (fun gg s wr => ∃ i : Nat, i ≤ L.length ∧ s = .int .i64 i ∧ Bl W1 wr ∧ gg = L.length - i)
    case atStart => exact ⟨0, by omega, rfl, Bl.refl _, rfl⟩
    case round =>
      obtain ⟨i, hi, rfl, hbw, hg⟩ := hrel
      have G := Lib.hid hg
      clear hg
      by_cases hil : i < L.length
      · obtain ⟨b', off', ee, hat1⟩ := HH1.out.get hil
        cases ee
        obtain ⟨⟨x1, x2⟩, hx⟩ : ∃ x, L[i]? = some x := ⟨_, List.getElem?_eq_getElem hil⟩
        have d0 := hbw.cell (hat1 i _ hx).1
        have d1 := hbw.cell (hat1 i _ hx).2
        have hxb2 := HLb.out i _ hx
        simp only at d0 d1 hxb2
        have r1 : (0 : Int) ≤ (i : Int) := by omega
        have r2 : (i : Int) < (L.length : Int) := by omega
        clear hat1
        have q6 : IntKind.i64.wrap (x1 - 1) = x1 - 1 := IntWalk.i64_in _ (by omega)
        by_cases ik : i = k
        · subst ik
          have hlu := (HLu.out i _ hx).1 rfl
          try simp only at hlu
          obtain ⟨p, q', hpq⟩ : ∃ p q', tlook ⟨vm, vs⟩ (x1, x2) = (p, q') := ⟨_, _, rfl⟩
          have HPQ := Lib.hid hpq
          clear hx hpq
          go_wp2_with fail
          have S1 := Lib.hid (fun y : BW wr => HK1.out au cu x1 x2 y.w (HTu.out.bl (hbw.trans y.h)) (by omega))
          simp only [hlu] at S1
          have hq := fun y : BW wr => HU.out.bl (hbw.trans y.h)
          have hd := fun y : BW wr => And.intro (y.h.cell d0) (y.h.cell d1)
          simp only [Mem, and_true] at hq
          
          refine wp_region_quiet_bw wr (by kernel_rfl) (by kernel_rfl) (Bl.refl wr) ?_
          repeat (go_big_quiet_step ((go_at_call 11; exact quietB (S1.out _))))
          refine wpQuiet_nil ?_
          intro wq hw'
          have hwq : Bl wr wq := by obtain ⟨x, hx⟩ := hw'; rw [hx]; exact x.h
          clear hw'
          clear hq hd S1
          have hbq := hbw.trans hwq
          have d0 := hwq.cell d0
          have d1 := hwq.cell d1
          have hm := HV.out.bl hbq
          simp only [Mem, and_true] at hm
          go_wp2_with fail
          have S2 := Lib.hid (fun y : BW wq => HK2.out av cv x1 x2 y.w (HTv.out.bl (hbq.trans y.h)) (by omega))
          simp only [HPQ.out] at S2
          have hq := fun y : BW wq => HV.out.bl (hbq.trans y.h)
          have hd := fun y : BW wq => And.intro (y.h.cell d0) (y.h.cell d1)
          simp only [Mem, and_true] at hq
          
          refine wp_region_quiet_bw wq (by kernel_rfl) (by kernel_rfl) (Bl.refl wq) ?_
          repeat (go_big_quiet_step ((go_at_call 11; exact quietB (S2.out _))))
          refine wpQuiet_nil ?_
          intro wp hw'
          have hwp : Bl wq wp := by obtain ⟨x, hx⟩ := hw'; rw [hx]; exact x.h
          clear hw'
          clear hq hd S2 hm
          have hbp := hbq.trans hwp
          have d0 := hwp.cell d0
          have d1 := hwp.cell d1
          have hm := HB.out.bl hbp
          simp only [Mem, and_true] at hm
          go_wp2_with fail
          go_quiet (fail)
          go_wp2_with fail
          go_roundg (L.length - (i + 1))
          case rel => exact ⟨i + 1, by omega, by go_num, (by repeat (first | assumption | exact Bl.refl _ | apply Bl.drewN | apply Bl.drew | apply Bl.alloc | (refine Bl.dr ?_ (by assumption)) | (refine Bl.trans ?_ (by assumption)))), rfl⟩
          case measure => rw [G.out]; omega
        · skip
          have hlu := (HLu.out i _ hx).2 ik
          have e1 : ((i : Int) == (k : Int)) = false := by rw [beq_eq_false_iff_ne]; omega
          simp only at hlu
          obtain ⟨p, q', hpq⟩ : ∃ p q', tlook ⟨vm, vs⟩ (x1, x2) = (p, q') := ⟨_, _, rfl⟩
          have HPQ := Lib.hid hpq
          clear hx hpq
          go_wp2_with fail
          have S1 := Lib.hid (fun y : BW wr => HK1.out au cu x1 x2 y.w (HTu.out.bl (hbw.trans y.h)) (by omega))
          simp only [hlu] at S1
          have hq := fun y : BW wr => HU.out.bl (hbw.trans y.h)
          have hd := fun y : BW wr => And.intro (y.h.cell d0) (y.h.cell d1)
          simp only [Mem, and_true] at hq
          
          refine wp_region_quiet_bw wr (by kernel_rfl) (by kernel_rfl) (Bl.refl wr) ?_
          repeat (go_big_quiet_step ((go_at_call 11; exact quietB (S1.out _))))
          refine wpQuiet_nil ?_
          intro wq hw'
          have hwq : Bl wr wq := by obtain ⟨x, hx⟩ := hw'; rw [hx]; exact x.h
          clear hw'
          clear hq hd S1
          have hbq := hbw.trans hwq
          have d0 := hwq.cell d0
          have d1 := hwq.cell d1
          have hm := HV.out.bl hbq
          simp only [Mem, and_true] at hm
          go_wp2_with fail
          have S2 := Lib.hid (fun y : BW wq => HK2.out av cv x1 x2 y.w (HTv.out.bl (hbq.trans y.h)) (by omega))
          simp only [HPQ.out] at S2
          have hq := fun y : BW wq => HV.out.bl (hbq.trans y.h)
          have hd := fun y : BW wq => And.intro (y.h.cell d0) (y.h.cell d1)
          simp only [Mem, and_true] at hq
          
          refine wp_region_quiet_bw wq (by kernel_rfl) (by kernel_rfl) (Bl.refl wq) ?_
          repeat (go_big_quiet_step ((go_at_call 11; exact quietB (S2.out _))))
          refine wpQuiet_nil ?_
          intro wp hw'
          have hwp : Bl wq wp := by obtain ⟨x, hx⟩ := hw'; rw [hx]; exact x.h
          clear hw'
          clear hq hd S2 hm
          have hbp := hbq.trans hwp
          have d0 := hwp.cell d0
          have d1 := hwp.cell d1
          have hm := HB.out.bl hbp
          simp only [Mem, and_true] at hm
          go_wp2_with fail
          go_quiet (fail)
          go_wp2_with fail
          go_roundg (L.length - (i + 1))
          case rel => exact ⟨i + 1, by omega, by go_num, (by repeat (first | assumption | exact Bl.refl _ | apply Bl.drewN | apply Bl.drew | apply Bl.alloc | (refine Bl.dr ?_ (by assumption)) | (refine Bl.trans ?_ (by assumption)))), rfl⟩
          case measure => rw [G.out]; omega
      · obtain rfl : i = L.length := by omega
        go_wp2_with fail
        refine (lawHnShown _).mono ?_; rintro e wn ⟨rfl, hb1⟩
        have hb3 := (hb.trans hbw).trans hb1
        go_wp2_with fail
        go_ret
        exact RB.mk rfl hb3
set_option maxHeartbeats 16000000 in
theorem apartYes (a : Option Addr) (c : Nat) (t : Tb) (N : Nat) (w : World) (h : TOk w a c t) (hN : N < 256) (hf : ¬ 40 < t.slots.length) (L : List (Int × Int)) (e4 : tlive t = (L, 0)) (hL0 : L ≠ []) (hLb : ∀ (i : Nat) x, L[i]? = some x → 1 ≤ x.1 ∧ x.1 ≤ 100) (k : Nat) (hk : k = N % L.length) (hx hy : Int) (hxk : L[k]? = some (hx, hy)) (um : Int) (us : List Slot) (e5 : tdrop t (hx, hy) = (⟨um, us⟩, 0)) (hul : us.length = t.slots.length) (hum : um = t.most) (hLu : ∀ (i : Nat) x, L[i]? = some x → (i = k → tlook ⟨um, us⟩ x = (0, 11)) ∧ (i ≠ k → tlook ⟨um, us⟩ x = (x.1 - 1, 0))) (vm bx by' : Int) (vs : List Slot) (e6 : tgive t = (⟨vm, vs⟩, (bx, by'), 0)) (hvl : vs.length = t.slots.length ∨ vs.length = t.slots.length + 1) (hbl : bx ≤ (vs.length : Int)) (hLv : ∀ (i : Nat) x, L[i]? = some x → tlook ⟨vm, vs⟩ x = (x.1 - 1, 0) ∧ (bx, by') ≠ x) : Calls Tryd.prog 5 #[t.v a c, .int .u8 N] w (RB w (.bool true)) := by
  have hL := fun w h => hnLive a c t w h
  have hD := fun w h hi => hnDrop a c t hx hy w h hi
  have hG := fun w h => hnGive a c t w h
  have hK1 := fun a c i g w h hi => hnLook a c ⟨um, us⟩ i g w h hi
  have hK2 := fun a c i g w h hi => hnLook a c ⟨vm, vs⟩ i g w h hi
  rw [e4] at hL
  rw [e5] at hD
  rw [e6] at hG
  have hLp : 0 < L.length := List.length_pos_iff.2 hL0
  have hkL : k < L.length := by rw [hk]; exact Nat.mod_lt _ hLp
  have hLe : ((L.length : Int) == 0) = false := by rw [beq_eq_false_iff_ne]; omega
  have hrem : Int.tmod (N : Int) (L.length : Int) = (k : Int) := by rw [hk]; exact (Int.ofNat_tmod N L.length).symm
  have HL := Lib.hid hL
  have HD := Lib.hid hD
  have HG := Lib.hid hG
  have HK1 := Lib.hid hK1
  have HK2 := Lib.hid hK2
  have HLb := Lib.hid hLb
  have HLu := Lib.hid hLu
  have HXK := Lib.hid hxk
  have hxb := hLb k _ hxk
  simp only at hxb
  have HLv := Lib.hid hLv
  clear hLv
  have f1 : decide ((vs.length : Int) < (t.slots.length : Int)) = false := by simp; omega
  have f2 : decide ((t.slots.length : Int) + 1 < (vs.length : Int)) = false := by simp; omega
  have f3 : decide ((vs.length : Int) < bx) = false := by simp; omega
  have f4 : decide (vs.length < t.slots.length) = false := by simp; omega
  clear hL hD hG hK1 hK2 hLb hLu e4 e5 e6 hxk hL0 hk
  have hF := fun w h => lawHnFar a c t w h
  have hf' : decide (40 < t.slots.length) = false := by simpa using hf
  rw [hf'] at hF
  have HF := Lib.hid hF
  clear hf' hF
  
  have HO := Lib.hid h
  obtain ⟨mo, l⟩ := t
  have hs := h.slots
  have hc1 := h.len
  have hc2 := h.cap
  simp only at hs hc1
  unfold maxLen at hc2
  unfold Tb.v
  simp only
  clear h
  clear hs
  go_enter Tryd.func5, Tryd.ntmps5
  go_wp2_with fail
  refine (HF.out _ (HO.out.bl (by repeat (first | assumption | exact Bl.refl _ | apply Bl.drewN | apply Bl.drew | apply Bl.alloc | (refine Bl.dr ?_ (by assumption)) | (refine Bl.trans ?_ (by assumption)))))).mono ?_; rintro e w1 ⟨rfl, hb1⟩
  have hb : Bl w w1 := (by repeat (first | assumption | exact Bl.refl _ | apply Bl.drewN | apply Bl.drew | apply Bl.alloc | (refine Bl.dr ?_ (by assumption)) | (refine Bl.trans ?_ (by assumption))))
  have hr : Mem w1 [(⟨w.heap.size, 0, none⟩, .int .i64 mo), (⟨w.heap.size, 1, none⟩, .slice a l.length c)] := by
    refine Mem.bl ?_ hb1
    simp [Mem, go_sem]
  have dsw : w.heap.size < w1.heap.size := by have := hb1.size; simp at this; omega
  clear hb1
  have HA := Lib.hid hr
  
  have hm := hr
  simp only [Mem, VE, List.cons_append, List.nil_append, and_true] at hm
  clear hr
  go_wp2_with fail
  try simp only at hul hum hvl f1 f2 f4
  have hum2 := hum.symm
  clear hum
  subst hum2
  have hK1 := HK1.out
  have hK2 := HK2.out
  unfold Tb.v at hK1 hK2
  simp only [hul] at hK1
  clear HK1 HK2
  have HK1 := Lib.hid hK1
  have HK2 := Lib.hid hK2
  clear hK1 hK2
  refine (HL.out _ (HO.out.bl hb)).mono ?_; rintro e wa ⟨v, rfl, ⟨vl, rfl, hH⟩, hb1⟩
  obtain ⟨al, cl, rfl, hH1, hcl1, hcl2⟩ := hH
  simp only [List.length_nil] at hH1 hcl1 ⊢
  unfold maxLen at hcl2
  have qA := HA.out.bl hb1
  have hbn := hb.trans hb1
  have d1_A : w.heap.size < wa.heap.size := Nat.lt_of_lt_of_le dsw hb1.size
  clear hb hm HA 
  have HA := Lib.hid qA
  have hb := hbn
  have hm := qA
  simp only [Mem, List.cons_append, List.nil_append, and_true] at hm
  clear hbn qA 
  clear hb1
  go_wp2_with fail
  have HH1 := Lib.hid hH1
  clear hH1
  obtain ⟨b, off, rfl, hat⟩ := HH1.out.get hkL
  have x0 := (hat k _ HXK.out).1
  have x1 := (hat k _ HXK.out).2
  simp only at x0 x1
  have p1 : (0 : Int) ≤ (k : Int) := by omega
  have p2 : (k : Int) < (L.length : Int) := by omega
  have HKF : Hid (∀ w', Bl wa w' → Bl wa w' ∧ w'.cell? ⟨w.heap.size, 0, none⟩ = some (.int .i64 mo) ∧ w'.cell? ⟨w.heap.size, 1, none⟩ = some (.slice a l.length c) ∧ w'.cell? ⟨b, off + k * 2, none⟩ = some (.int .i64 hx) ∧ w'.cell? ⟨b, off + k * 2 + 1, none⟩ = some (.int .i64 hy)) := Lib.hid (fun w' k2 => by have := HA.out.bl k2; simp only [Mem, and_true] at this; simp [this, k2, k2.cell x0, k2.cell x1])
  have hb00 : Bl wa wa := Bl.refl _
  go_cut [8, 9] (fun s8 s9 wx => ∃ (Bu : Nat) (au : Option Addr) (cu : Nat), s8 = .pointer (some ⟨Bu, 0, none⟩) ∧ s9 = .int .i64 0 ∧ Mem wx [(⟨Bu, 0, none⟩, .int .i64 mo), (⟨Bu, 1, none⟩, .slice au l.length cu)] ∧ TOk wx au cu ⟨mo, us⟩ ∧ Bl wa wx)
  case first =>
    have hk0 := HKF.out _ hb00
    go_region_held3 (fun w' => (Bl wa w' ∧ w'.cell? ⟨w.heap.size, 0, none⟩ = some (.int .i64 mo) ∧ w'.cell? ⟨w.heap.size, 1, none⟩ = some (.slice a l.length c) ∧ w'.cell? ⟨b, off + k * 2, none⟩ = some (.int .i64 hx) ∧ w'.cell? ⟨b, off + k * 2 + 1, none⟩ = some (.int .i64 hy))) (exact HKF.out _ (by repeat (first | assumption | exact Bl.refl _ | apply Bl.drewN | apply Bl.drew | apply Bl.alloc | (refine Bl.setCell ?_ _ (by first | (simp; done) | (simp; omega)) _) | (refine Bl.dr ?_ (by assumption)) | (refine Bl.trans ?_ (by assumption)))))
      ((go_at_call 13; refine (HD.out _ (HO.out.bl (hb.trans (by repeat (first | assumption | exact Bl.refl _ | apply Bl.drewN | apply Bl.drew | apply Bl.alloc | (refine Bl.setCell ?_ _ (by first | (simp; done) | (simp; omega)) _) | (refine Bl.dr ?_ (by assumption)) | (refine Bl.trans ?_ (by assumption)))))) (by omega)).mono ?_; rintro e w2 ⟨v, rfl, ⟨vt, rfl, au, cu, rfl, hTu, hFu⟩, hbu⟩; have hb3 : Bl wa w2 := Bl.trans (by repeat (first | assumption | exact Bl.refl _ | apply Bl.drewN | apply Bl.drew | apply Bl.alloc | (refine Bl.setCell ?_ _ (by first | (simp; done) | (simp; omega)) _) | (refine Bl.dr ?_ (by assumption)) | (refine Bl.trans ?_ (by assumption)))) hbu; unfold Tb.v; simp only at hTu hFu ⊢; first | (refine cutIf (P := Mem w2 [(⟨wa.heap.size, 0, none⟩, .int .i64 0), (⟨wa.heap.size, 1, none⟩, .slice none 0 0)]) ?_ ?_; (focus (refine Mem.bl ?_ hbu; simp [Mem, go_sem]; done)); intro hm5; simp only [Mem, and_true] at hm5) | skip))
    all_goals go_wp2_with fail
    all_goals go_meet
    all_goals first
      | exact ⟨w2.heap.size, au, cu, rfl, rfl, by simp [Mem, go_sem], hTu.bl ((Bl.refl _).alloc _), hb3.alloc _⟩
      | exact ⟨wa.heap.size, au, cu, rfl, rfl, by simp [Mem, go_sem, hm5], (hTu.set hFu (p := ⟨wa.heap.size, 0, none⟩) (by simp) _).set hFu (p := ⟨wa.heap.size, 1, none⟩) (by simp) _, (hb3.setCell _ (by simp) _).setCell _ (by simp) _⟩
  case rest =>
    obtain ⟨Bu, au, cu, rfl, rfl, hru, hTu, hbu⟩ := hcut
    have dU0 : Bu < wc.heap.size := lt_of_cell hru.1
    have HU := Lib.hid hru
    have HTu := Lib.hid hTu
    clear hb00 HKF x0 x1 hTu
    have qA := HA.out.bl hbu
    have qfH1 := HH1.out.bl hbu
    have hbn := hb.trans hbu
    have d2_A : w.heap.size < wc.heap.size := Nat.lt_of_lt_of_le d1_A hbu.size
    clear hb hm HA 
    have HA := Lib.hid qA
    clear HH1
    have HH1 := Lib.hid qfH1
    clear qfH1
    have hb := hbn
    have hm := qA
    simp only [Mem, List.cons_append, List.nil_append, and_true] at hm
    clear hbn qA 
    clear hbu hm
    have hm := HA.out.app HU.out
    simp only [Mem, List.cons_append, List.nil_append, and_true] at hm
    clear hru
    go_wp2_with fail
    refine (HG.out _ (HO.out.bl hb)).mono ?_; rintro e wd ⟨v, rfl, ⟨vt, rfl, hV⟩, hb1⟩
    obtain ⟨av, cv, rfl, hV, hFv⟩ := hV
    unfold Tb.v hv
    simp only at hV hFv ⊢
    have qA := HA.out.bl hb1
    have qU := HU.out.bl hb1
    have qTu := HTu.out.bl hb1
    have qfH1 := HH1.out.bl hb1
    have hbn := hb.trans hb1
    have d3_A : w.heap.size < wd.heap.size := Nat.lt_of_lt_of_le d2_A hb1.size
    have d3_U : Bu < wd.heap.size := Nat.lt_of_lt_of_le dU0 hb1.size
    clear hb hm HA HU HTu
    have HA := Lib.hid qA
    have HU := Lib.hid qU
    have HTu := Lib.hid qTu
    clear HH1
    have HH1 := Lib.hid qfH1
    clear qfH1
    have hb := hbn
    have hm := (qA).app qU
    simp only [Mem, List.cons_append, List.nil_append, and_true] at hm
    clear hbn qA qU qTu
    clear hb1
    have qA := ((HA.out.alloc (Obj.cells #[.int .i64 vm, .slice av vs.length cv] 24)).alloc (Obj.cells #[.int .i64 bx, .int .i64 by'] 26))
    have qU := ((HU.out.alloc (Obj.cells #[.int .i64 vm, .slice av vs.length cv] 24)).alloc (Obj.cells #[.int .i64 bx, .int .i64 by'] 26))
    have qV := ((show Mem (wd.alloc (Obj.cells #[.int .i64 vm, .slice av vs.length cv] 24)) [(⟨wd.heap.size, 0, none⟩, .int .i64 vm), (⟨wd.heap.size, 1, none⟩, .slice av vs.length cv)] by simp [Mem, go_sem]).alloc (Obj.cells #[.int .i64 bx, .int .i64 by'] 26))
    have qB := (show Mem ((wd.alloc (Obj.cells #[.int .i64 vm, .slice av vs.length cv] 24)).alloc (Obj.cells #[.int .i64 bx, .int .i64 by'] 26)) [(⟨wd.heap.size + 1, 0, none⟩, .int .i64 bx), (⟨wd.heap.size + 1, 1, none⟩, .int .i64 by')] by simp [Mem, go_sem])
    have qTu := ((HTu.out.bl ((Bl.refl _).alloc (Obj.cells #[.int .i64 vm, .slice av vs.length cv] 24))).bl ((Bl.refl _).alloc (Obj.cells #[.int .i64 bx, .int .i64 by'] 26)))
    have qTv := ((hV.bl ((Bl.refl _).alloc (Obj.cells #[.int .i64 vm, .slice av vs.length cv] 24))).bl ((Bl.refl _).alloc (Obj.cells #[.int .i64 bx, .int .i64 by'] 26)))
    have qfH1 := ((HH1.out.bl ((Bl.refl _).alloc (Obj.cells #[.int .i64 vm, .slice av vs.length cv] 24))).bl ((Bl.refl _).alloc (Obj.cells #[.int .i64 bx, .int .i64 by'] 26)))
    clear HH1
    have HH1 := Lib.hid qfH1
    clear qfH1
    have hbn := ((hb.alloc (Obj.cells #[.int .i64 vm, .slice av vs.length cv] 24)).alloc (Obj.cells #[.int .i64 bx, .int .i64 by'] 26))
    have d4_A : w.heap.size < ((wd.alloc (Obj.cells #[.int .i64 vm, .slice av vs.length cv] 24)).alloc (Obj.cells #[.int .i64 bx, .int .i64 by'] 26)).heap.size := by simp; omega
    have d4_U : Bu < ((wd.alloc (Obj.cells #[.int .i64 vm, .slice av vs.length cv] 24)).alloc (Obj.cells #[.int .i64 bx, .int .i64 by'] 26)).heap.size := by simp; omega
    have d4_V : wd.heap.size < ((wd.alloc (Obj.cells #[.int .i64 vm, .slice av vs.length cv] 24)).alloc (Obj.cells #[.int .i64 bx, .int .i64 by'] 26)).heap.size := by first | (simp; done) | (simp; omega)
    have d4_B : wd.heap.size + 1 < ((wd.alloc (Obj.cells #[.int .i64 vm, .slice av vs.length cv] 24)).alloc (Obj.cells #[.int .i64 bx, .int .i64 by'] 26)).heap.size := by first | (simp; done) | (simp; omega)
    clear hb HA HU HTu 
    have HA := Lib.hid qA
    have HU := Lib.hid qU
    have HV := Lib.hid qV
    have HB := Lib.hid qB
    have HTu := Lib.hid qTu
    have HTv := Lib.hid qTv
    have yy := (((qA).app qU).app qV).app qB
    simp only [Mem, List.cons_append, List.nil_append, and_true] at yy
    clear qA qU qV qB qTu qTv
    go_wp2_with fail
    have hb := hbn
    clear hbn hm yy 
    generalize (wd.alloc (Obj.cells #[.int .i64 vm, .slice av vs.length cv] 24)).alloc (Obj.cells #[.int .i64 bx, .int .i64 by'] 26) = W1 at *
    have hm := trivial
    clear hV hm
    go_loopg [13] L.length (fun gg s wr => ∃ i : Nat, i ≤ L.length ∧ s = .int .i64 i ∧ Bl W1 wr ∧ gg = L.length - i)
    case atStart => exact ⟨0, by omega, rfl, Bl.refl _, rfl⟩
    case round =>
      obtain ⟨i, hi, rfl, hbw, hg⟩ := hrel
      have G := Lib.hid hg
      clear hg
      by_cases hil : i < L.length
      · obtain ⟨b', off', ee, hat1⟩ := HH1.out.get hil
        cases ee
        obtain ⟨⟨x1, x2⟩, hx⟩ : ∃ x, L[i]? = some x := ⟨_, List.getElem?_eq_getElem hil⟩
        have d0 := hbw.cell (hat1 i _ hx).1
        have d1 := hbw.cell (hat1 i _ hx).2
        have hxb2 := HLb.out i _ hx
        simp only at d0 d1 hxb2
        have r1 : (0 : Int) ≤ (i : Int) := by omega
        have r2 : (i : Int) < (L.length : Int) := by omega
        clear hat1
        have q6 : IntKind.i64.wrap (x1 - 1) = x1 - 1 := IntWalk.i64_in _ (by omega)
        by_cases ik : i = k
        · subst ik
          have hlu := (HLu.out i _ hx).1 rfl
          try simp only at hlu
          obtain ⟨hpq, hbx⟩ := HLv.out i _ hx
          have e5 : (bx == x1) = false ∨ ((bx == x1) = true ∧ (by' == x2) = false) := by by_cases e : bx = x1; exact .inr ⟨by simpa using e, by rw [beq_eq_false_iff_ne]; exact fun e2 => hbx (by rw [e, e2])⟩; exact .inl (by rw [beq_eq_false_iff_ne]; exact e)
          simp only at hpq
          have HPQ := Lib.hid hpq
          clear hx hpq hbx
          go_wp2_with fail
          have S1 := Lib.hid (fun y : BW wr => HK1.out au cu x1 x2 y.w (HTu.out.bl (hbw.trans y.h)) (by omega))
          simp only [hlu] at S1
          have hq := fun y : BW wr => HU.out.bl (hbw.trans y.h)
          have hd := fun y : BW wr => And.intro (y.h.cell d0) (y.h.cell d1)
          simp only [Mem, and_true] at hq
          
          refine wp_region_quiet_bw wr (by kernel_rfl) (by kernel_rfl) (Bl.refl wr) ?_
          repeat (go_big_quiet_step ((go_at_call 11; exact quietB (S1.out _))))
          refine wpQuiet_nil ?_
          intro wq hw'
          have hwq : Bl wr wq := by obtain ⟨x, hx⟩ := hw'; rw [hx]; exact x.h
          clear hw'
          clear hq hd S1
          have hbq := hbw.trans hwq
          have d0 := hwq.cell d0
          have d1 := hwq.cell d1
          have hm := HV.out.bl hbq
          simp only [Mem, and_true] at hm
          go_wp2_with fail
          have S2 := Lib.hid (fun y : BW wq => HK2.out av cv x1 x2 y.w (HTv.out.bl (hbq.trans y.h)) (by omega))
          simp only [HPQ.out] at S2
          have hq := fun y : BW wq => HV.out.bl (hbq.trans y.h)
          have hd := fun y : BW wq => And.intro (y.h.cell d0) (y.h.cell d1)
          simp only [Mem, and_true] at hq
          
          refine wp_region_quiet_bw wq (by kernel_rfl) (by kernel_rfl) (Bl.refl wq) ?_
          repeat (go_big_quiet_step ((go_at_call 11; exact quietB (S2.out _))))
          refine wpQuiet_nil ?_
          intro wp hw'
          have hwp : Bl wq wp := by obtain ⟨x, hx⟩ := hw'; rw [hx]; exact x.h
          clear hw'
          clear hq hd S2 hm
          have hbp := hbq.trans hwp
          have d0 := hwp.cell d0
          have d1 := hwp.cell d1
          have hm := HB.out.bl hbp
          simp only [Mem, and_true] at hm
          go_wp2_with fail
          rcases e5 with e5 | ⟨e5, e6⟩
          · go_quiet (fail)
            go_wp2_with fail
            go_roundg (L.length - (i + 1))
            case rel => exact ⟨i + 1, by omega, by go_num, (by repeat (first | assumption | exact Bl.refl _ | apply Bl.drewN | apply Bl.drew | apply Bl.alloc | (refine Bl.dr ?_ (by assumption)) | (refine Bl.trans ?_ (by assumption)))), rfl⟩
            case measure => rw [G.out]; omega
          · go_quiet (fail)
            go_wp2_with fail
            go_roundg (L.length - (i + 1))
            case rel => exact ⟨i + 1, by omega, by go_num, (by repeat (first | assumption | exact Bl.refl _ | apply Bl.drewN | apply Bl.drew | apply Bl.alloc | (refine Bl.dr ?_ (by assumption)) | (refine Bl.trans ?_ (by assumption)))), rfl⟩
            case measure => rw [G.out]; omega
        · skip
          have hlu := (HLu.out i _ hx).2 ik
          have e1 : ((i : Int) == (k : Int)) = false := by rw [beq_eq_false_iff_ne]; omega
          simp only at hlu
          obtain ⟨hpq, hbx⟩ := HLv.out i _ hx
          have e5 : (bx == x1) = false ∨ ((bx == x1) = true ∧ (by' == x2) = false) := by by_cases e : bx = x1; exact .inr ⟨by simpa using e, by rw [beq_eq_false_iff_ne]; exact fun e2 => hbx (by rw [e, e2])⟩; exact .inl (by rw [beq_eq_false_iff_ne]; exact e)
          simp only at hpq
          have HPQ := Lib.hid hpq
          clear hx hpq hbx
          go_wp2_with fail
          have S1 := Lib.hid (fun y : BW wr => HK1.out au cu x1 x2 y.w (HTu.out.bl (hbw.trans y.h)) (by omega))
          simp only [hlu] at S1
          have hq := fun y : BW wr => HU.out.bl (hbw.trans y.h)
          have hd := fun y : BW wr => And.intro (y.h.cell d0) (y.h.cell d1)
          simp only [Mem, and_true] at hq
          
          refine wp_region_quiet_bw wr (by kernel_rfl) (by kernel_rfl) (Bl.refl wr) ?_
          repeat (go_big_quiet_step ((go_at_call 11; exact quietB (S1.out _))))
          refine wpQuiet_nil ?_
          intro wq hw'
          have hwq : Bl wr wq := by obtain ⟨x, hx⟩ := hw'; rw [hx]; exact x.h
          clear hw'
          clear hq hd S1
          have hbq := hbw.trans hwq
          have d0 := hwq.cell d0
          have d1 := hwq.cell d1
          have hm := HV.out.bl hbq
          simp only [Mem, and_true] at hm
          go_wp2_with fail
          have S2 := Lib.hid (fun y : BW wq => HK2.out av cv x1 x2 y.w (HTv.out.bl (hbq.trans y.h)) (by omega))
          simp only [HPQ.out] at S2
          have hq := fun y : BW wq => HV.out.bl (hbq.trans y.h)
          have hd := fun y : BW wq => And.intro (y.h.cell d0) (y.h.cell d1)
          simp only [Mem, and_true] at hq
          
          refine wp_region_quiet_bw wq (by kernel_rfl) (by kernel_rfl) (Bl.refl wq) ?_
          repeat (go_big_quiet_step ((go_at_call 11; exact quietB (S2.out _))))
          refine wpQuiet_nil ?_
          intro wp hw'
          have hwp : Bl wq wp := by obtain ⟨x, hx⟩ := hw'; rw [hx]; exact x.h
          clear hw'
          clear hq hd S2 hm
          have hbp := hbq.trans hwp
          have d0 := hwp.cell d0
          have d1 := hwp.cell d1
          have hm := HB.out.bl hbp
          simp only [Mem, and_true] at hm
          go_wp2_with fail
          rcases e5 with e5 | ⟨e5, e6⟩
          · go_quiet (fail)
            go_wp2_with fail
            go_roundg (L.length - (i + 1))
            case rel => exact ⟨i + 1, by omega, by go_num, (by repeat (first | assumption | exact Bl.refl _ | apply Bl.drewN | apply Bl.drew | apply Bl.alloc | (refine Bl.dr ?_ (by assumption)) | (refine Bl.trans ?_ (by assumption)))), rfl⟩
            case measure => rw [G.out]; omega
          · go_quiet (fail)
            go_wp2_with fail
            go_roundg (L.length - (i + 1))
            case rel => exact ⟨i + 1, by omega, by go_num, (by repeat (first | assumption | exact Bl.refl _ | apply Bl.drewN | apply Bl.drew | apply Bl.alloc | (refine Bl.dr ?_ (by assumption)) | (refine Bl.trans ?_ (by assumption)))), rfl⟩
            case measure => rw [G.out]; omega
      · obtain rfl : i = L.length := by omega
        go_wp2_with fail
        refine (lawHnShown _).mono ?_; rintro e wn ⟨rfl, hb1⟩
        have hb3 := (hb.trans hbw).trans hb1
        go_wp2_with fail
        go_ret
        exact RB.mk rfl hb3
theorem lawHnApart (a : Option Addr) (c : Nat) (t : Tb) (N : Nat) (w : World) (h : TOk w a c t) (hN : N < 256) : Calls Tryd.prog 5 #[t.v a c, .int .u8 N] w (RB w (.bool true)) := by
  by_cases hf : 40 < t.slots.length
  · exact apartFar a c t N w h hf
  · by_cases hc : (tchk t).2 = 0
    · by_cases hL0 : hl t.slots t.slots.length = []
      · exact apartEmpty a c t N w h hN hf (by rw [live_ok hc, hL0])
      · have hG := tchk_good hc
        have hLp : 0 < (hl t.slots t.slots.length).length := List.length_pos_iff.2 hL0
        obtain ⟨⟨hx, hy⟩, hxk⟩ : ∃ x, (hl t.slots t.slots.length)[N % (hl t.slots t.slots.length).length]? = some x := ⟨_, List.getElem?_eq_getElem (Nat.mod_lt _ hLp)⟩
        have hA := apart_law hG hxk
        have hLb : ∀ (i : Nat) x, (hl t.slots t.slots.length)[i]? = some x → 1 ≤ x.1 ∧ x.1 ≤ 100 := fun i x hx => by
          obtain ⟨m, m1, _, m3⟩ := hl_get hx
          have := hG.len; have := hG.most2
          rw [m3]; simp only; omega
        obtain ⟨⟨um, us⟩, e5, hul, hum, hLu⟩ := hA.drop
        rcases hA.give with ⟨e, he, e6⟩ | ⟨⟨vm, vs⟩, ⟨bx, by'⟩, e6, hvl, hbl, hLv⟩
        · exact apartNo a c t N w h hN hf _ (live_ok hc) hL0 hLb _ rfl hx hy hxk um us e5 hul hum hLu 0 0 0 e [] e6 (by simpa using he)
        · exact apartYes a c t N w h hN hf _ (live_ok hc) hL0 hLb _ rfl hx hy hxk um us e5 hul hum hLu vm bx by' vs e6 hvl hbl hLv
    · exact apartBad a c t N w h hN hf (tchk t).2 (live_bad hc) (by simpa using hc)
end Go.Proofs.YtidclkojekodpaaDoor
