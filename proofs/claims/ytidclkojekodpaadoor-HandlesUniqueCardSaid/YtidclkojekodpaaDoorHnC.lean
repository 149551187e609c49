
/-
  Contracts of handles: Given and the reference's.
-/
import Derived.Test.YtidclkojekodpaaDoorHnA
import Derived.Test.YtidclkojekodpaaDoorHnQ
namespace Go.Proofs.YtidclkojekodpaaDoor
open Go.RowKit
set_option linter.unusedSimpArgs false
set_option linter.unusedVariables false
set_option maxRecDepth 100000

theorem given_bad {t : Tb} (e : (tchk t).2 ≠ 0) : tgiven t = (0, (tchk t).2) := by unfold tgiven; rw [if_pos e]
theorem given_ok {t : Tb} (e : (tchk t).2 = 0) : tgiven t = (sg t.slots t.slots.length, 0) := by unfold tgiven; rw [if_neg (by simp [e])]
set_option maxHeartbeats 4000000 in
theorem hnGiven (a : Option Addr) (c : Nat) (t : Tb) (w : World) (h : TOk w a c t) : Calls Tryd.prog 24 #[t.v a c] w (RB w (.tuple #[.int .i64 (tgiven t).1, .int .i64 (tgiven t).2])) := by
  have hC := fun w h => hnCheck a c t w h
  by_cases e : (tchk t).2 = 0
  · rw [given_ok e]
    have hG := tchk_good e
    have hB := sg_bound hG.gens
    have hG1 := hG.len
    have hG2 := hG.most2
    have hl16 : t.slots.length ≤ 16 := by omega
    have hget := fun (i : Nat) (hi : i < t.slots.length) => hG.get hi
    rw [e] at hC
    clear e hG hG1 hG2
    have HC := Lib.hid hC
    have HO := Lib.hid h
    obtain ⟨mo, l⟩ := t
    have hs := h.slots
    have hc1 := h.len
    have hc2 := h.cap
    simp only at hs hc1
    unfold maxLen at hc2
    unfold Tb.v
    clear h hC
    simp only at hB hl16 hget HC ⊢
    have HB := Lib.hid hB
    have HS := Lib.hid hs
    have HG := Lib.hid hget
    clear hB hs hget
    go_enter Tryd.func24, Tryd.ntmps24
    go_wp2_with fail
    refine (HC.out _ (HO.out.bl (by repeat (first | assumption | exact Bl.refl _ | apply Bl.drewN | apply Bl.drew | apply Bl.alloc | (refine Bl.dr ?_ (by assumption)) | (refine Bl.trans ?_ (by assumption)))))).mono ?_; rintro e w1 ⟨rfl, hb1⟩
    have hr : Mem w1 [(⟨w.heap.size, 0, none⟩, .int .i64 mo), (⟨w.heap.size, 1, none⟩, .slice (a) l.length c)] := by
      refine Mem.bl ?_ hb1
      simp [Mem, go_sem]
    have hb : Bl w w1 := (by repeat (first | assumption | exact Bl.refl _ | apply Bl.drewN | apply Bl.drew | apply Bl.alloc | (refine Bl.dr ?_ (by assumption)) | (refine Bl.trans ?_ (by assumption))))
    clear hb1
    have HR := Lib.hid hr
    
    have hm := hr
    simp only [Mem, VE, List.cons_append, List.nil_append, and_true] at hm
    clear hr
    go_wp2_with fail
    go_loopg [6, 20] l.length (fun g v i wr => ∃ k : Nat, k ≤ l.length ∧ i = .int .i64 k ∧ v = .int .i64 (sg l k) ∧ Bl w1 wr ∧ g = l.length - k)
    case atStart => exact ⟨0, by omega, rfl, rfl, Bl.refl _, rfl⟩
    case round =>
      obtain ⟨k, hk, rfl, rfl, hbw, hg⟩ := hrel
      have G := Lib.hid hg
      clear hg
      have hr := HR.out.bl hbw
      
      have hm := hr
      simp only [Mem, VE, List.cons_append, List.nil_append, and_true] at hm
      clear hr
      obtain ⟨b1, b2⟩ := HB.out k hk
      by_cases hkl : k < l.length
      · obtain ⟨b, off, rfl, hat⟩ := HS.out.get hkl
        obtain ⟨z, hz⟩ : ∃ z, l[k]? = some z := ⟨_, List.getElem?_eq_getElem hkl⟩
        obtain ⟨d0, d1⟩ := ((hat k z hz).bl hb).bl hbw
        have hzd : l.getD k s0 = z := by rw [List.getD_eq_getElem?_getD, hz]; rfl
        obtain ⟨g1, g2⟩ := HG.out k hkl
        rw [hzd] at g1 g2
        have HZ := Lib.hid hzd
        have hk0 : (0 : Int) ≤ (k : Int) := by omega
        have hkL : (k : Int) < (l.length : Int) := by omega
        have q1 : IntKind.i64.wrap (sg l k + z.gen) = sg l k + z.gen := IntWalk.i64_in _ (by omega)
        clear hat hz hzd
        go_wp2_with fail
        go_roundg (l.length - (k + 1))
        case rel => exact ⟨k + 1, by omega, by go_num, by simp only [sg]; rw [HZ.out], (by repeat (first | assumption | exact Bl.refl _ | apply Bl.drewN | apply Bl.drew | apply Bl.alloc | (refine Bl.dr ?_ (by assumption)) | (refine Bl.trans ?_ (by assumption)))), rfl⟩
        case measure => rw [G.out]; omega
      · obtain rfl : k = l.length := by omega
        go_wp2_with fail
        go_ret2
        exact rb_tup rfl rfl (by repeat (first | assumption | exact Bl.refl _ | apply Bl.drewN | apply Bl.drew | apply Bl.alloc | (refine Bl.dr ?_ (by assumption)) | (refine Bl.trans ?_ (by assumption))))
  · rw [given_bad e]
    have e' : ((tchk t).2 != 0) = true := by simpa using e
    have e2 : ((tchk t).2 == 0) = false := by simpa using e
    obtain ⟨q, hq⟩ : ∃ q, (tchk t).2 = q := ⟨_, rfl⟩
    obtain ⟨p, hp⟩ : ∃ p, (tchk t).1 = p := ⟨_, rfl⟩
    rw [hq] at e e' e2 hC ⊢
    rw [hp] at hC
    clear hq hp e
    have HC := Lib.hid hC
    have HO := Lib.hid h
    obtain ⟨mo, l⟩ := t
    have hs := h.slots
    have hc1 := h.len
    have hc2 := h.cap
    simp only at hs hc1
    unfold maxLen at hc2
    unfold Tb.v
    clear h hC
    clear hs
    go_enter Tryd.func24, Tryd.ntmps24
    go_wp2_with fail
    refine (HC.out _ (HO.out.bl (by repeat (first | assumption | exact Bl.refl _ | apply Bl.drewN | apply Bl.drew | apply Bl.alloc | (refine Bl.dr ?_ (by assumption)) | (refine Bl.trans ?_ (by assumption)))))).mono ?_; rintro e w1 ⟨rfl, hb1⟩
    have hr : Mem w1 [(⟨w.heap.size, 0, none⟩, .int .i64 mo), (⟨w.heap.size, 1, none⟩, .slice (a) l.length c)] := by
      refine Mem.bl ?_ hb1
      simp [Mem, go_sem]
    have hb : Bl w w1 := (by repeat (first | assumption | exact Bl.refl _ | apply Bl.drewN | apply Bl.drew | apply Bl.alloc | (refine Bl.dr ?_ (by assumption)) | (refine Bl.trans ?_ (by assumption))))
    clear hb1
    have HR := Lib.hid hr
    
    have hm := hr
    simp only [Mem, VE, List.cons_append, List.nil_append, and_true] at hm
    clear hr
    go_wp2_with fail
    go_ret2
    exact rb_tup rfl rfl (by repeat (first | assumption | exact Bl.refl _ | apply Bl.drewN | apply Bl.drew | apply Bl.alloc | (refine Bl.dr ?_ (by assumption)) | (refine Bl.trans ?_ (by assumption))))
set_option maxHeartbeats 4000000 in
theorem refGiven (a : Option Addr) (c : Nat) (t : Tb) (w : World) (h : TOk w a c t) : Calls Tryd.prog 25 #[t.v a c] w (RB w (.tuple #[.int .i64 (tgiven t).1, .int .i64 (tgiven t).2])) := by
  have hC := fun w h => refHnCheck a c t w h
  by_cases e : (tchk t).2 = 0
  · rw [given_ok e]
    have hG := tchk_good e
    have hB := sg_bound hG.gens
    have hG1 := hG.len
    have hG2 := hG.most2
    have hl16 : t.slots.length ≤ 16 := by omega
    have hget := fun (i : Nat) (hi : i < t.slots.length) => hG.get hi
    rw [e] at hC
    clear e hG hG1 hG2
    have HC := Lib.hid hC
    have HO := Lib.hid h
    obtain ⟨mo, l⟩ := t
    have hs := h.slots
    have hc1 := h.len
    have hc2 := h.cap
    simp only at hs hc1
    unfold maxLen at hc2
    unfold Tb.v
    clear h hC
    simp only at hB hl16 hget HC ⊢
    have HB := Lib.hid hB
    have HS := Lib.hid hs
    have HG := Lib.hid hget
    clear hB hs hget
    go_enter Tryd.func25, Tryd.ntmps25
    go_wp2_with fail
    refine (HC.out _ (HO.out.bl (by repeat (first | assumption | exact Bl.refl _ | apply Bl.drewN | apply Bl.drew | apply Bl.alloc | (refine Bl.dr ?_ (by assumption)) | (refine Bl.trans ?_ (by assumption)))))).mono ?_; rintro e w1 ⟨rfl, hb1⟩
    have hr : Mem w1 [(⟨w.heap.size, 0, none⟩, .int .i64 mo), (⟨w.heap.size, 1, none⟩, .slice (a) l.length c)] := by
      refine Mem.bl ?_ hb1
      simp [Mem, go_sem]
    have hb : Bl w w1 := (by repeat (first | assumption | exact Bl.refl _ | apply Bl.drewN | apply Bl.drew | apply Bl.alloc | (refine Bl.dr ?_ (by assumption)) | (refine Bl.trans ?_ (by assumption))))
    clear hb1
    have HR := Lib.hid hr
    
    have hm := hr
    simp only [Mem, VE, List.cons_append, List.nil_append, and_true] at hm
    clear hr
    go_wp2_with fail
    go_loopg [6, 7] l.length (fun g v i wr => ∃ k : Nat, k ≤ l.length ∧ i = .int .i64 k ∧ v = .int .i64 (sg l k) ∧ Bl w1 wr ∧ g = l.length - k)
    case atStart => exact ⟨0, by omega, rfl, rfl, Bl.refl _, rfl⟩
    case round =>
      obtain ⟨k, hk, rfl, rfl, hbw, hg⟩ := hrel
      have G := Lib.hid hg
      clear hg
      have hr := HR.out.bl hbw
      
      have hm := hr
      simp only [Mem, VE, List.cons_append, List.nil_append, and_true] at hm
      clear hr
      obtain ⟨b1, b2⟩ := HB.out k hk
      by_cases hkl : k < l.length
      · obtain ⟨b, off, rfl, hat⟩ := HS.out.get hkl
        obtain ⟨z, hz⟩ : ∃ z, l[k]? = some z := ⟨_, List.getElem?_eq_getElem hkl⟩
        obtain ⟨d0, d1⟩ := ((hat k z hz).bl hb).bl hbw
        have hzd : l.getD k s0 = z := by rw [List.getD_eq_getElem?_getD, hz]; rfl
        obtain ⟨g1, g2⟩ := HG.out k hkl
        rw [hzd] at g1 g2
        have HZ := Lib.hid hzd
        have hk0 : (0 : Int) ≤ (k : Int) := by omega
        have hkL : (k : Int) < (l.length : Int) := by omega
        have q1 : IntKind.i64.wrap (sg l k + z.gen) = sg l k + z.gen := IntWalk.i64_in _ (by omega)
        clear hat hz hzd
        go_wp2_with fail
        go_roundg (l.length - (k + 1))
        case rel => exact ⟨k + 1, by omega, by go_num, by simp only [sg]; rw [HZ.out], (by repeat (first | assumption | exact Bl.refl _ | apply Bl.drewN | apply Bl.drew | apply Bl.alloc | (refine Bl.dr ?_ (by assumption)) | (refine Bl.trans ?_ (by assumption)))), rfl⟩
        case measure => rw [G.out]; omega
      · obtain rfl : k = l.length := by omega
        go_wp2_with fail
        go_ret2
        exact rb_tup rfl rfl (by repeat (first | assumption | exact Bl.refl _ | apply Bl.drewN | apply Bl.drew | apply Bl.alloc | (refine Bl.dr ?_ (by assumption)) | (refine Bl.trans ?_ (by assumption))))
  · rw [given_bad e]
    have e' : ((tchk t).2 != 0) = true := by simpa using e
    have e2 : ((tchk t).2 == 0) = false := by simpa using e
    obtain ⟨q, hq⟩ : ∃ q, (tchk t).2 = q := ⟨_, rfl⟩
    obtain ⟨p, hp⟩ : ∃ p, (tchk t).1 = p := ⟨_, rfl⟩
    rw [hq] at e e' e2 hC ⊢
    rw [hp] at hC
    clear hq hp e
    have HC := Lib.hid hC
    have HO := Lib.hid h
    obtain ⟨mo, l⟩ := t
    have hs := h.slots
    have hc1 := h.len
    have hc2 := h.cap
    simp only at hs hc1
    unfold maxLen at hc2
    unfold Tb.v
    clear h hC
    clear hs
    go_enter Tryd.func25, Tryd.ntmps25
    go_wp2_with fail
    refine (HC.out _ (HO.out.bl (by repeat (first | assumption | exact Bl.refl _ | apply Bl.drewN | apply Bl.drew | apply Bl.alloc | (refine Bl.dr ?_ (by assumption)) | (refine Bl.trans ?_ (by assumption)))))).mono ?_; rintro e w1 ⟨rfl, hb1⟩
    have hr : Mem w1 [(⟨w.heap.size, 0, none⟩, .int .i64 mo), (⟨w.heap.size, 1, none⟩, .slice (a) l.length c)] := by
      refine Mem.bl ?_ hb1
      simp [Mem, go_sem]
    have hb : Bl w w1 := (by repeat (first | assumption | exact Bl.refl _ | apply Bl.drewN | apply Bl.drew | apply Bl.alloc | (refine Bl.dr ?_ (by assumption)) | (refine Bl.trans ?_ (by assumption))))
    clear hb1
    have HR := Lib.hid hr
    
    have hm := hr
    simp only [Mem, VE, List.cons_append, List.nil_append, and_true] at hm
    clear hr
    go_wp2_with fail
    go_loop [6, 7] (fun v i => v = .int .i64 0 ∧ i = .int .i64 0) (fun _ _ => 0)
    case atStart => exact ⟨rfl, rfl⟩
    obtain ⟨rfl, rfl⟩ := hrel
    by_cases hl0 : (0 : Int) < (l.length : Int)
    · go_wp2_with fail
      go_ret2
      exact rb_tup rfl rfl (by repeat (first | assumption | exact Bl.refl _ | apply Bl.drewN | apply Bl.drew | apply Bl.alloc | (refine Bl.dr ?_ (by assumption)) | (refine Bl.trans ?_ (by assumption))))
    · go_wp2_with fail
      go_ret2
      exact rb_tup rfl rfl (by repeat (first | assumption | exact Bl.refl _ | apply Bl.drewN | apply Bl.drew | apply Bl.alloc | (refine Bl.dr ?_ (by assumption)) | (refine Bl.trans ?_ (by assumption))))
end Go.Proofs.YtidclkojekodpaaDoor
