
/-
  Contracts of handles: the reference's Live.
-/
import Derived.Test.YtidclkojekodpaaDoorHnV
namespace Go.Proofs.YtidclkojekodpaaDoor
open Go.RowKit
set_option linter.unusedSimpArgs false
set_option linter.unusedVariables false
set_option maxRecDepth 100000

set_option maxHeartbeats 4000000 in
theorem refLive (a : Option Addr) (c : Nat) (t : Tb) (w : World) (h : TOk w a c t) : Calls Tryd.prog 23 #[t.v a c] w (RM w (LiveV (tlive t))) := by
  obtain ⟨i0, hi0, hz0, hz1, hz2⟩ := info_parts inf_hnd
  have hC := fun w h => refHnCheck a c t w h
  by_cases e : (tchk t).2 = 0
  · rw [live_ok e]
    have hG := tchk_good e
    have hl16 : t.slots.length ≤ 16 := by have := hG.len; have := hG.most2; omega
    rw [good_tchk hG] at hC
    have HC := Lib.hid hC
    clear hC hG e
    
    have HO := Lib.hid h
    obtain ⟨mo, l⟩ := t
    have hs := h.slots
    have hc1 := h.len
    have hc2 := h.cap
    simp only at hs hc1
    unfold maxLen at hc2
    unfold Tb.v
    simp only
    clear h
    simp only at hl16 HC
    have HS := Lib.hid hs
    clear hs
    go_enter Tryd.func23, Tryd.ntmps23
    go_wp2_with fail
    refine (HC.out _ (HO.out.bl (by repeat (first | assumption | exact Bl.refl _ | apply Bl.drewN | apply Bl.drew | apply Bl.alloc | (refine Bl.dr ?_ (by assumption)) | (refine Bl.trans ?_ (by assumption)))))).mono ?_; rintro e w1 ⟨rfl, hb1⟩
    have hr : Mem w1 [(⟨w.heap.size, 0, none⟩, .int .i64 mo), (⟨w.heap.size, 1, none⟩, .slice a l.length c)] := by
      refine Mem.bl ?_ hb1
      simp [Mem, go_sem]
    have hb : Bl w w1 := (by repeat (first | assumption | exact Bl.refl _ | apply Bl.drewN | apply Bl.drew | apply Bl.alloc | (refine Bl.dr ?_ (by assumption)) | (refine Bl.trans ?_ (by assumption))))
    clear hb1
    have HR := Lib.hid hr
    clear hr
    go_wp2_with fail
    go_loopg [6, 7] l.length (fun g v i wr => ∃ k : Nat, k ≤ l.length ∧ i = .int .i64 k ∧ wr.ownsRow w1.heap.size 26 2 v (hl l k).length (hndCells (hl l k)) ∧ Bl w1 wr ∧ g = l.length - k)
    case atStart => exact ⟨0, by omega, rfl, own_nil _ _ _ _, Bl.refl _, rfl⟩
    case round =>
      obtain ⟨k, hk, rfl, hown, hbw, hg⟩ := hrel
      have G := Lib.hid hg
      clear hg
      have hr := HR.out.bl hbw
      
      have hm := hr
      simp only [Mem, VE, List.cons_append, List.nil_append, and_true] at hm
      clear hr
      by_cases hkl : k < l.length
      · obtain ⟨b, off, rfl, hat⟩ := HS.out.get hkl
        obtain ⟨z, hz⟩ : ∃ z, l[k]? = some z := ⟨_, List.getElem?_eq_getElem hkl⟩
        obtain ⟨d0, d1⟩ := ((hat k z hz).bl hb).bl hbw
        have hzd : l.getD k s0 = z := by rw [List.getD_eq_getElem?_getD, hz]; rfl
        have hk0 : (0 : Int) ≤ (k : Int) := by omega
        have hkL : (k : Int) < (l.length : Int) := by omega
        have hll := hl_len l k
        clear hat hz
        cases hzu : z.used
        · rw [hzu] at d1
          have hs : hl l (k + 1) = hl l k := by simp only [hl]; rw [hzd, hzu]; simp
          have HW := Lib.hid hown
          clear hown
          go_wp2_with fail
          go_roundg (l.length - (k + 1))
          case rel => exact ⟨k + 1, by omega, by go_num, by rw [hs]; exact HW.out, (by repeat (first | assumption | exact Bl.refl _ | apply Bl.drewN | apply Bl.drew | apply Bl.alloc | (refine Bl.dr ?_ (by assumption)) | (refine Bl.trans ?_ (by assumption)))), rfl⟩
          case measure => rw [G.out]; omega
        · rw [hzu] at d1
          have hs : hl l (k + 1) = hl l k ++ [((k : Int) + 1, z.gen)] := by simp only [hl]; rw [hzd, hzu]; simp
          go_wp2_with (at_builtin; refine wpList_append_own _ rfl _ _ 36 rfl w1.heap.size 26 i0 (.agg #[.int .i64 0, .int .i64 0]) 2 16 Tryd.underlying36 hi0 hz0 hz1 hz2 rfl (by decide) _ _ _ rfl (hown.alloc _) ⟨wr.heap.size, 0, none⟩ 1 1 [.int .i64 ((k : Int) + 1), .int .i64 z.gen] rfl rfl ?c1 ?c2 ?c3 ?c4 ?c5 ?_)
          case c1 => exact multi_new _ _ _
          case c2 => intro u hu; simp at hu; rcases hu with rfl | rfl <;> rfl
          case c3 => unfold maxLen; omega
          case c4 => omega
          case c5 => have := hbw.size; simp; omega
          intro v' w3 hown' hg3 _
          have hb3 : Bl w1 w3 := grown_bl (hbw.alloc _) (hown.alloc _) hg3 (Nat.le_refl _)
          have HW := Lib.hid hown'
          clear hown hown' hg3 hm d0 d1
          go_wp2_with fail
          go_roundg (l.length - (k + 1))
          case rel => exact ⟨k + 1, by omega, by go_num, by rw [hs, hndCells_snoc, List.length_append]; exact HW.out, hb3, rfl⟩
          case measure => rw [G.out]; omega
      · obtain rfl : k = l.length := by omega
        have HW := Lib.hid hown
        clear hown
        go_wp2_with fail
        go_ret2
        exact RM.mk ⟨_, rfl, ownH_is (B := w1.heap.size) HW.out⟩ (by repeat (first | assumption | exact Bl.refl _ | apply Bl.drewN | apply Bl.drew | apply Bl.alloc | (refine Bl.dr ?_ (by assumption)) | (refine Bl.trans ?_ (by assumption))))
  · rw [live_bad e]
    have e' : ((tchk t).2 != 0) = true := by simpa using e
    have e2 : ((tchk t).2 == 0) = false := by simpa using e
    obtain ⟨q, hq⟩ : ∃ q, (tchk t).2 = q := ⟨_, rfl⟩
    obtain ⟨p, hp⟩ : ∃ p, (tchk t).1 = p := ⟨_, rfl⟩
    rw [hq] at e e' e2 hC ⊢
    rw [hp] at hC
    clear hq hp e
    have HC := Lib.hid hC
    clear hC
    
    have HO := Lib.hid h
    obtain ⟨mo, l⟩ := t
    have hs := h.slots
    have hc1 := h.len
    have hc2 := h.cap
    simp only at hs hc1
    unfold maxLen at hc2
    unfold Tb.v
    simp only
    clear h
    clear hs
    go_enter Tryd.func23, Tryd.ntmps23
    go_wp2_with fail
    refine (HC.out _ (HO.out.bl (by repeat (first | assumption | exact Bl.refl _ | apply Bl.drewN | apply Bl.drew | apply Bl.alloc | (refine Bl.dr ?_ (by assumption)) | (refine Bl.trans ?_ (by assumption)))))).mono ?_; rintro e w1 ⟨rfl, hb1⟩
    have hr : Mem w1 [(⟨w.heap.size, 0, none⟩, .int .i64 mo), (⟨w.heap.size, 1, none⟩, .slice a l.length c)] := by
      refine Mem.bl ?_ hb1
      simp [Mem, go_sem]
    have hb : Bl w w1 := (by repeat (first | assumption | exact Bl.refl _ | apply Bl.drewN | apply Bl.drew | apply Bl.alloc | (refine Bl.dr ?_ (by assumption)) | (refine Bl.trans ?_ (by assumption))))
    clear hb1
    
    have hm := hr
    simp only [Mem, VE, List.cons_append, List.nil_append, and_true] at hm
    clear hr
    go_wp2_with fail
    go_loop [6, 7] (fun v i => v = .slice none 0 0 ∧ i = .int .i64 0) (fun _ _ => 0)
    case atStart => exact ⟨rfl, rfl⟩
    obtain ⟨rfl, rfl⟩ := hrel
    by_cases hl0 : (0 : Int) < (l.length : Int)
    · go_wp2_with fail
      go_ret2
      exact RM.mk ⟨_, rfl, hsIs_nil _⟩ hb
    · go_wp2_with fail
      go_ret2
      exact RM.mk ⟨_, rfl, hsIs_nil _⟩ hb
end Go.Proofs.YtidclkojekodpaaDoor
