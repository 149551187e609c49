
/-
  Contracts of handles: the reference's Give.
-/
import Derived.Test.YtidclkojekodpaaDoorHnJ
namespace Go.Proofs.YtidclkojekodpaaDoor
open Go.RowKit
set_option linter.unusedSimpArgs false
set_option linter.unusedVariables false
set_option maxRecDepth 100000

theorem give_full {t : Tb} {k : Nat} (e : (tchk t).2 = 0) (hf : sfree t.slots = k) (h : (k : Int) = t.most) : tgive t = (tnil, (0, 0), 5) := by
  unfold tgive; rw [if_neg (by simp [e]), hf, if_pos h]
theorem give_nine {t : Tb} {k : Nat} {z : Slot} (e : (tchk t).2 = 0) (hf : sfree t.slots = k) (h : ¬ (k : Int) = t.most) (hz : t.slots[k]? = some z) (h9 : z.gen = 1000000000) : tgive t = (tnil, (0, 0), 9) := by
  unfold tgive; rw [if_neg (by simp [e]), hf, if_neg h, List.getD_eq_getElem?_getD, hz, if_pos (by simpa using h9)]
theorem give_old {t : Tb} {k : Nat} {z : Slot} (e : (tchk t).2 = 0) (hf : sfree t.slots = k) (h : ¬ (k : Int) = t.most) (hz : t.slots[k]? = some z) (h9 : ¬ z.gen = 1000000000) : tgive t = (⟨t.most, sset t.slots k ⟨z.gen + 1, true⟩⟩, ((k : Int) + 1, z.gen + 1), 0) := by
  unfold tgive; rw [if_neg (by simp [e]), hf, if_neg h, List.getD_eq_getElem?_getD, hz, if_neg (by simpa using h9)]; rfl
theorem give_new {t : Tb} (e : (tchk t).2 = 0) (hf : sfree t.slots = t.slots.length) (h : ¬ (t.slots.length : Int) = t.most) : tgive t = (⟨t.most, sset t.slots t.slots.length ⟨1, true⟩⟩, ((t.slots.length : Int) + 1, 1), 0) := by
  unfold tgive; rw [if_neg (by simp [e]), hf, if_neg h, getD_ge (Nat.le_refl _), if_neg (by decide)]; rfl
set_option maxHeartbeats 4000000 in
theorem refGiveBad (a : Option Addr) (c : Nat) (t : Tb) (w : World) (h : TOk w a c t) (e : (tchk t).2 ≠ 0) : Calls Tryd.prog 22 #[t.v a c] w (RM w (GaveV w.heap.size (tnil, (0, 0), (tchk t).2))) := by
  have hC := fun w h => refHnCheck a c t w h
  have e' : ((tchk t).2 != 0) = true := by simpa using e
  obtain ⟨q, hq⟩ : ∃ q, (tchk t).2 = q := ⟨_, rfl⟩
  obtain ⟨p, hp⟩ : ∃ p, (tchk t).1 = p := ⟨_, rfl⟩
  rw [hq] at e e' hC ⊢
  rw [hp] at hC
  clear hq hp e
  have HC := Lib.hid hC
  clear hC
  
  have HO := Lib.hid h
  obtain ⟨mo, l⟩ := t
  have hs := h.slots
  have hc1 := h.len
  have hc2 := h.cap
  simp only at hs hc1
  unfold maxLen at hc2
  unfold Tb.v
  simp only
  clear h
  clear hs
  
  go_enter Tryd.func22, Tryd.ntmps22
  go_wp2_with fail
  refine (HC.out _ (HO.out.bl (by repeat (first | assumption | exact Bl.refl _ | apply Bl.drewN | apply Bl.drew | apply Bl.alloc | (refine Bl.dr ?_ (by assumption)) | (refine Bl.trans ?_ (by assumption)))))).mono ?_; rintro e w1 ⟨rfl, hb1⟩
  have hr : Mem w1 [(⟨w.heap.size, 0, none⟩, .int .i64 mo), (⟨w.heap.size, 1, none⟩, .slice a l.length c), (⟨w.heap.size + 1, 0, none⟩, .int .i64 0), (⟨w.heap.size + 1, 1, none⟩, .slice none 0 0), (⟨w.heap.size + 1 + 1, 0, none⟩, .int .i64 0), (⟨w.heap.size + 1 + 1, 1, none⟩, .int .i64 0)] := by
    refine Mem.bl ?_ hb1
    simp [Mem, go_sem]
  have hb : Bl w w1 := (by repeat (first | assumption | exact Bl.refl _ | apply Bl.drewN | apply Bl.drew | apply Bl.alloc | (refine Bl.dr ?_ (by assumption)) | (refine Bl.trans ?_ (by assumption))))
  have hs1 := hb1.size
  simp at hs1
  clear hb1
  have HR := Lib.hid hr
  
  have hm := hr
  simp only [Mem, VE, List.cons_append, List.nil_append, and_true] at hm
  clear hr
  go_wp2_with fail
  
  refine bodyPost_ret (v := .tuple #[.agg #[.int .i64 0, .slice none 0 0], .agg #[.int .i64 0, .int .i64 0], .int .i64 q]) (by simp [results, Tryd.results22, go_sem, *]) rfl ?_
  exact RM.mk ⟨_, rfl, tbIs_nil _ _⟩ (by repeat (first | assumption | exact Bl.refl _ | apply Bl.drewN | apply Bl.drew | apply Bl.alloc | (refine Bl.setCell ?_ _ (by first | (simp; done) | (simp; omega)) _) | (refine Bl.dr ?_ (by assumption)) | (refine Bl.trans ?_ (by assumption))))
set_option maxHeartbeats 8000000 in
theorem refGiveOk (a : Option Addr) (c : Nat) (t : Tb) (w : World) (h : TOk w a c t) (e : (tchk t).2 = 0) : Calls Tryd.prog 22 #[t.v a c] w (RM w (GaveV w.heap.size (tgive t))) := by
  have hG := tchk_good e
  have hl16 : t.slots.length ≤ 16 := by have := hG.len; have := hG.most2; omega
  have hgs := hG.gens
  have hC := fun w h => refHnCheck a c t w h
  rw [good_tchk hG] at hC
  have hK := fun w (i : Nat) s h hi => refWith a c t i s w h (by omega) hi
  have hm1 := hG.most1
  have hm2 := hG.most2
  have hlen := hG.len
  obtain ⟨R, hR⟩ : ∃ R, tgive t = R := ⟨_, rfl⟩
  rw [hR]
  have r1 := fun (k : Nat) hf h => hR.symm.trans (give_full (k := k) e hf h)
  have r2 := fun (k : Nat) z hf h hz h9 => hR.symm.trans (give_nine (k := k) (z := z) e hf h hz h9)
  have r3 := fun (k : Nat) z hf h hz h9 => hR.symm.trans (give_old (k := k) (z := z) e hf h hz h9)
  have r4 := fun hf h => hR.symm.trans (give_new e hf h)
  clear hR hG e
  
  have HO := Lib.hid h
  obtain ⟨mo, l⟩ := t
  have hs := h.slots
  have hc1 := h.len
  have hc2 := h.cap
  simp only at hs hc1
  unfold maxLen at hc2
  unfold Tb.v
  simp only
  clear h
  simp only at hl16 hC hK hm1 hm2 hgs hlen r1 r2 r3 r4
  have HC := Lib.hid hC
  have HK := Lib.hid hK
  have HG := Lib.hid hgs
  have HS := Lib.hid hs
  have R1 := Lib.hid r1
  have R2 := Lib.hid r2
  have R3 := Lib.hid r3
  have R4 := Lib.hid r4
  clear hC hK hgs hs r1 r2 r3 r4
  
  go_enter Tryd.func22, Tryd.ntmps22
  go_wp2_with fail
  refine (HC.out _ (HO.out.bl (by repeat (first | assumption | exact Bl.refl _ | apply Bl.drewN | apply Bl.drew | apply Bl.alloc | (refine Bl.dr ?_ (by assumption)) | (refine Bl.trans ?_ (by assumption)))))).mono ?_; rintro e w1 ⟨rfl, hb1⟩
  have hr : Mem w1 [(⟨w.heap.size, 0, none⟩, .int .i64 mo), (⟨w.heap.size, 1, none⟩, .slice a l.length c), (⟨w.heap.size + 1, 0, none⟩, .int .i64 0), (⟨w.heap.size + 1, 1, none⟩, .slice none 0 0), (⟨w.heap.size + 1 + 1, 0, none⟩, .int .i64 0), (⟨w.heap.size + 1 + 1, 1, none⟩, .int .i64 0)] := by
    refine Mem.bl ?_ hb1
    simp [Mem, go_sem]
  have hb : Bl w w1 := (by repeat (first | assumption | exact Bl.refl _ | apply Bl.drewN | apply Bl.drew | apply Bl.alloc | (refine Bl.dr ?_ (by assumption)) | (refine Bl.trans ?_ (by assumption))))
  have hs1 := hb1.size
  simp at hs1
  clear hb1
  have HR := Lib.hid hr
  
  have hm := hr
  simp only [Mem, VE, List.cons_append, List.nil_append, and_true] at hm
  clear hr
  go_wp2_with fail
  go_loopg [7] l.length (fun g i wr => ∃ k : Nat, k ≤ l.length ∧ i = .int .i64 k ∧ Bl w1 wr ∧ (∀ (j : Nat) z, j < k → l[j]? = some z → z.used = true) ∧ g = l.length - k)
  case atStart => exact ⟨0, by omega, rfl, Bl.refl _, by intro j z hj; omega, rfl⟩
  case round =>
    obtain ⟨k, hk, rfl, hbw, hus, hg⟩ := hrel
    have G := Lib.hid hg
    have HU := Lib.hid hus
    clear hg hus hm
    have hr := HR.out.bl hbw
    
    have hm := hr
    simp only [Mem, VE, List.cons_append, List.nil_append, and_true] at hm
    by_cases hkl : k < l.length
    · obtain ⟨b, off, rfl, hat⟩ := HS.out.get hkl
      obtain ⟨z, hz⟩ : ∃ z, l[k]? = some z := ⟨_, List.getElem?_eq_getElem hkl⟩
      obtain ⟨d0, d1⟩ := ((hat k z hz).bl hb).bl hbw
      have hgz := HG.out z (List.mem_of_getElem? hz)
      have HZ := Lib.hid hz
      have hk0 : (0 : Int) ≤ (k : Int) := by omega
      have hkL : (k : Int) < (l.length : Int) := by omega
      clear hat hz
      cases hzu : z.used
      · rw [hzu] at d1
        have hf : sfree l = k := sfree_eq l k z HZ.out HU.out hzu
        have q8 : IntKind.i64.wrap (z.gen + 1) = z.gen + 1 := IntWalk.i64_in _ (by omega)
        by_cases hkm : (k : Int) = mo
        · have hRr := R1.out k hf hkm
          have hkm' : ((k : Int) == mo) = true := by simpa using hkm
          clear R1 R2 R3 R4 hf hkm
          subst hRr
          go_wp2_with fail
          
          refine bodyPost_ret (v := .tuple #[.agg #[.int .i64 0, .slice none 0 0], .agg #[.int .i64 0, .int .i64 0], .int .i64 5]) (by simp [results, Tryd.results22, go_sem, *]) rfl ?_
          exact RM.mk ⟨_, rfl, tbIs_nil _ _⟩ (by repeat (first | assumption | exact Bl.refl _ | apply Bl.drewN | apply Bl.drew | apply Bl.alloc | (refine Bl.setCell ?_ _ (by first | (simp; done) | (simp; omega)) _) | (refine Bl.dr ?_ (by assumption)) | (refine Bl.trans ?_ (by assumption))))
        · have hkm' : ((k : Int) == mo) = false := by simpa using hkm
          by_cases h9 : z.gen = 1000000000
          · have hRr := R2.out k z hf hkm HZ.out h9
            have h9' : 1000000000 < z.gen + 1 := by omega
            clear R1 R2 R3 R4 hf hkm
            subst hRr
            go_wp2_with fail
            
            refine bodyPost_ret (v := .tuple #[.agg #[.int .i64 0, .slice none 0 0], .agg #[.int .i64 0, .int .i64 0], .int .i64 9]) (by simp [results, Tryd.results22, go_sem, *]) rfl ?_
            exact RM.mk ⟨_, rfl, tbIs_nil _ _⟩ (by repeat (first | assumption | exact Bl.refl _ | apply Bl.drewN | apply Bl.drew | apply Bl.alloc | (refine Bl.setCell ?_ _ (by first | (simp; done) | (simp; omega)) _) | (refine Bl.dr ?_ (by assumption)) | (refine Bl.trans ?_ (by assumption))))
          · have hRr := R3.out k z hf hkm HZ.out h9
            have h9' : ¬ 1000000000 < z.gen + 1 := by omega
            clear R1 R2 R3 R4 hf hkm
            subst hRr
            have hr := HR.out.bl hbw
            go_wp2_with fail
            refine (HK.out _ k ⟨(z.gen + 1), true⟩ (HO.out.bl (by repeat (first | assumption | exact Bl.refl _ | apply Bl.drewN | apply Bl.drew | apply Bl.alloc | (refine Bl.dr ?_ (by assumption)) | (refine Bl.trans ?_ (by assumption))))) (by omega)).mono ?_; rintro e w2 ⟨v, rfl, hT, hb2⟩
            obtain ⟨ao, q, rfl, hO⟩ := ownT_form hT
            have hr := hr.bl hb2
            have hO' : w2.ownsRow wr.heap.size 52 2 (.slice ao (sset l k ⟨(z.gen + 1), true⟩).length q) (sset l k ⟨(z.gen + 1), true⟩).length (slotCells (sset l k ⟨(z.gen + 1), true⟩)) := hO
            have hbX : Bl w w2 := (hb.trans hbw).trans hb2
            have hsw := hbw.size
            have o1 := own_set (own_set (own_set (own_set hO' ⟨w.heap.size + 1, 0, none⟩ (by simp only; omega) (.int .i64 mo)) ⟨w.heap.size + 1, 1, none⟩ (by simp only; omega) (.slice ao (sset l k ⟨(z.gen + 1), true⟩).length q)) ⟨w.heap.size + 1 + 1, 0, none⟩ (by simp only; omega) (.int .i64 ((k : Nat) + 1))) ⟨w.heap.size + 1 + 1, 1, none⟩ (by simp only; omega) (.int .i64 (z.gen + 1))
            have O1 := Lib.hid o1
            clear o1 hO hO' hT hm HR HC HK HO hb hbw hb2
            
            have hm := hr
            simp only [Mem, VE, List.cons_append, List.nil_append, and_true] at hm
            go_wp2_with fail
            
            refine bodyPost_ret (v := .tuple #[.agg #[.int .i64 mo, .slice ao (sset l k ⟨(z.gen + 1), true⟩).length q], .agg #[.int .i64 ((k : Nat) + 1), .int .i64 (z.gen + 1)], .int .i64 0]) (by simp [results, Tryd.results22, go_sem, *]) rfl ?_
            refine RM.mk ⟨_, rfl, TbF.mono (ownT_is (B := wr.heap.size) (t := ⟨mo, sset l k ⟨(z.gen + 1), true⟩⟩) ⟨_, rfl, O1.out⟩ ?_ (by simp only; omega) (by simp only; omega)) (by omega)⟩ (by repeat (first | assumption | exact Bl.refl _ | apply Bl.drewN | apply Bl.drew | apply Bl.alloc | (refine Bl.setCell ?_ _ (by first | (simp; done) | (simp; omega)) _) | (refine Bl.dr ?_ (by assumption)) | (refine Bl.trans ?_ (by assumption))))
            intro s hs
            have hgs : 1 ≤ s.gen ∧ s.gen ≤ 1000000000 := (by simp only at hs; unfold sset at hs; rw [if_neg (by omega)] at hs; rcases List.mem_or_eq_of_mem_set hs with h | h; exact HG.out s h; subst h; simp only; omega)
            unfold Slot.ok; omega
      · rw [hzu] at d1
        go_wp2_with fail
        go_roundg (l.length - (k + 1))
        case rel =>
          refine ⟨k + 1, by omega, by go_num, (by repeat (first | assumption | exact Bl.refl _ | apply Bl.drewN | apply Bl.drew | apply Bl.alloc | (refine Bl.dr ?_ (by assumption)) | (refine Bl.trans ?_ (by assumption)))), ?_, rfl⟩
          intro j y hj hy
          by_cases e : j = k
          · subst e; rw [HZ.out] at hy; injection hy with hy; subst hy; exact hzu
          · exact HU.out j y (by omega) hy
        case measure => rw [G.out]; omega
    · obtain rfl : k = l.length := by omega
      have hf : sfree l = l.length := sfree_all l fun j z hz => HU.out j z (List.getElem?_eq_some_iff.1 hz).1 hz
      by_cases hkm : (l.length : Int) = mo
      · have hRr := R1.out l.length hf hkm
        have hkm' : ((l.length : Int) == mo) = true := by simpa using hkm
        clear R1 R2 R3 R4 hf hkm
        subst hRr
        go_wp2_with fail
        
        refine bodyPost_ret (v := .tuple #[.agg #[.int .i64 0, .slice none 0 0], .agg #[.int .i64 0, .int .i64 0], .int .i64 5]) (by simp [results, Tryd.results22, go_sem, *]) rfl ?_
        exact RM.mk ⟨_, rfl, tbIs_nil _ _⟩ (by repeat (first | assumption | exact Bl.refl _ | apply Bl.drewN | apply Bl.drew | apply Bl.alloc | (refine Bl.setCell ?_ _ (by first | (simp; done) | (simp; omega)) _) | (refine Bl.dr ?_ (by assumption)) | (refine Bl.trans ?_ (by assumption))))
      · have hkm' : ((l.length : Int) == mo) = false := by simpa using hkm
        have hRr := R4.out hf hkm
        clear R1 R2 R3 R4 hf hkm
        subst hRr
        have hr := HR.out.bl hbw
        go_wp2_with fail
        refine (HK.out _ l.length ⟨1, true⟩ (HO.out.bl (by repeat (first | assumption | exact Bl.refl _ | apply Bl.drewN | apply Bl.drew | apply Bl.alloc | (refine Bl.dr ?_ (by assumption)) | (refine Bl.trans ?_ (by assumption))))) (by omega)).mono ?_; rintro e w2 ⟨v, rfl, hT, hb2⟩
        obtain ⟨ao, q, rfl, hO⟩ := ownT_form hT
        have hr := hr.bl hb2
        have hO' : w2.ownsRow wr.heap.size 52 2 (.slice ao (sset l l.length ⟨1, true⟩).length q) (sset l l.length ⟨1, true⟩).length (slotCells (sset l l.length ⟨1, true⟩)) := hO
        have hbX : Bl w w2 := (hb.trans hbw).trans hb2
        have hsw := hbw.size
        have o1 := own_set (own_set (own_set (own_set hO' ⟨w.heap.size + 1, 0, none⟩ (by simp only; omega) (.int .i64 mo)) ⟨w.heap.size + 1, 1, none⟩ (by simp only; omega) (.slice ao (sset l l.length ⟨1, true⟩).length q)) ⟨w.heap.size + 1 + 1, 0, none⟩ (by simp only; omega) (.int .i64 ((l.length : Nat) + 1))) ⟨w.heap.size + 1 + 1, 1, none⟩ (by simp only; omega) (.int .i64 1)
        have O1 := Lib.hid o1
        clear o1 hO hO' hT hm HR HC HK HO hb hbw hb2
        
        have hm := hr
        simp only [Mem, VE, List.cons_append, List.nil_append, and_true] at hm
        go_wp2_with fail
        
        refine bodyPost_ret (v := .tuple #[.agg #[.int .i64 mo, .slice ao (sset l l.length ⟨1, true⟩).length q], .agg #[.int .i64 ((l.length : Nat) + 1), .int .i64 1], .int .i64 0]) (by simp [results, Tryd.results22, go_sem, *]) rfl ?_
        refine RM.mk ⟨_, rfl, TbF.mono (ownT_is (B := wr.heap.size) (t := ⟨mo, sset l l.length ⟨1, true⟩⟩) ⟨_, rfl, O1.out⟩ ?_ (by simp only; omega) (by simp only; omega)) (by omega)⟩ (by repeat (first | assumption | exact Bl.refl _ | apply Bl.drewN | apply Bl.drew | apply Bl.alloc | (refine Bl.setCell ?_ _ (by first | (simp; done) | (simp; omega)) _) | (refine Bl.dr ?_ (by assumption)) | (refine Bl.trans ?_ (by assumption))))
        intro s hs
        have hgs : 1 ≤ s.gen ∧ s.gen ≤ 1000000000 := (by simp only at hs; unfold sset at hs; rw [if_pos rfl] at hs; simp at hs; rcases hs with h | h; exact HG.out s h; subst h; simp only; omega)
        unfold Slot.ok; omega
theorem refGive (a : Option Addr) (c : Nat) (t : Tb) (w : World) (h : TOk w a c t) : Calls Tryd.prog 22 #[t.v a c] w (RM w (GaveV w.heap.size (tgive t))) := by
  by_cases e : (tchk t).2 = 0
  · exact refGiveOk a c t w h e
  · have hr : tgive t = (tnil, (0, 0), (tchk t).2) := by unfold tgive; rw [if_pos e]
    rw [hr]; exact refGiveBad a c t w h e
end Go.Proofs.YtidclkojekodpaaDoor
