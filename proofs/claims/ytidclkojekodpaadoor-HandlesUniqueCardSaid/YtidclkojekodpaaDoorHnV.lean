
/-
  Contracts of handles: Collect, Live and the reference's.
-/
import Derived.Test.YtidclkojekodpaaDoorHnU
import Derived.Test.YtidclkojekodpaaDoorHnE
namespace Go.Proofs.YtidclkojekodpaaDoor
open Go.RowKit
set_option linter.unusedSimpArgs false
set_option linter.unusedVariables false
set_option maxRecDepth 100000

def LiveV (r : List (Int × Int) × Int) (w : World) (v : Value) : Prop := ∃ vl, v = .tuple #[vl, .int .i64 r.2] ∧ HsIs r.1 w vl
set_option maxHeartbeats 1000000 in
theorem hnGivenSeq (a : Option Addr) (c : Nat) (t : Tb) (w : World) : Calls Tryd.prog 32 #[t.v a c] w fun e w' => e = .returned (.func (.func 39) #[] #[.pointer (some ⟨w.heap.size, 0, none⟩)]) ∧ w' = w.alloc (.cells #[.int .i64 t.most, .slice a t.slots.length c] 24) := by
  unfold Tb.v
  go_enter Tryd.func32, Tryd.ntmps32
  go_wp2_with fail
  go_ret
  exact ⟨rfl, rfl⟩
set_option maxHeartbeats 1000000 in
theorem hnCollect (Bt c : Nat) (a : Option Addr) (l : List Slot) (w : World) (ht : Bt < w.heap.size) (hln : l.length ≤ 5000) (c1 : w.cell? ⟨Bt, 1, none⟩ = some (.slice a l.length c)) (he : Slots w a l) :
    Calls Tryd.prog 31 #[.func (.func 39) #[] #[.pointer (some ⟨Bt, 0, none⟩)]] w (RM w (OwnH w.heap.size (hl l l.length))) := by
  have hA := callsIn_wide.1 (hnAppendSeq Bt c a l w ht hln c1 he)
  have HA := Lib.hid hA
  clear hA
  go_enter Tryd.func31, Tryd.ntmps31
  go_wp2_with fail
  refine HA.out.mono ?_; rintro e w1 ⟨v, rfl, hO, hb1⟩
  have HO := Lib.hid hO
  clear hO
  go_wp2_with fail
  go_ret
  exact RM.mk HO.out hb1
theorem live_bad {t : Tb} (e : (tchk t).2 ≠ 0) : tlive t = ([], (tchk t).2) := by unfold tlive; rw [if_pos e]
theorem live_ok {t : Tb} (e : (tchk t).2 = 0) : tlive t = (hl t.slots t.slots.length, 0) := by unfold tlive; rw [if_neg (by simp [e])]
set_option maxHeartbeats 4000000 in
theorem hnLive (a : Option Addr) (c : Nat) (t : Tb) (w : World) (h : TOk w a c t) : Calls Tryd.prog 16 #[t.v a c] w (RM w (LiveV (tlive t))) := by
  have hC := fun w h => hnCheck a c t w h
  by_cases e : (tchk t).2 = 0
  · rw [live_ok e]
    have hG := tchk_good e
    have hl16 : t.slots.length ≤ 16 := by have := hG.len; have := hG.most2; omega
    rw [good_tchk hG] at hC
    have HC := Lib.hid hC
    have hS := fun w => hnGivenSeq a c t w
    have HS := Lib.hid hS
    have hL := fun Bt w ht c1 he => hnCollect Bt c a t.slots w ht (by omega) c1 he
    have HL := Lib.hid hL
    clear hC hG e hS hL
    
    have HO := Lib.hid h
    obtain ⟨mo, l⟩ := t
    have hs := h.slots
    have hc1 := h.len
    have hc2 := h.cap
    simp only at hs hc1
    unfold maxLen at hc2
    unfold Tb.v
    simp only
    clear h
    simp only at hl16 HC HS HL
    have HSl := Lib.hid hs
    clear hs
    go_enter Tryd.func16, Tryd.ntmps16
    go_wp2_with fail
    refine (HC.out _ (HO.out.bl (by repeat (first | assumption | exact Bl.refl _ | apply Bl.drewN | apply Bl.drew | apply Bl.alloc | (refine Bl.dr ?_ (by assumption)) | (refine Bl.trans ?_ (by assumption)))))).mono ?_; rintro e w1 ⟨rfl, hb1⟩
    have hr : Mem w1 [(⟨w.heap.size, 0, none⟩, .int .i64 mo), (⟨w.heap.size, 1, none⟩, .slice a l.length c)] := by
      refine Mem.bl ?_ hb1
      simp [Mem, go_sem]
    have hb : Bl w w1 := (by repeat (first | assumption | exact Bl.refl _ | apply Bl.drewN | apply Bl.drew | apply Bl.alloc | (refine Bl.dr ?_ (by assumption)) | (refine Bl.trans ?_ (by assumption))))
    clear hb1
    
    have hm := hr
    simp only [Mem, VE, List.cons_append, List.nil_append, and_true] at hm
    clear hr
    go_wp2_with fail
    refine (HS.out _).mono ?_; rintro e w2 ⟨rfl, rfl⟩
    go_wp2_with fail
    refine (HL.out w1.heap.size _ (by simp) (by simp [go_sem]) ((HSl.out.bl hb).bl ((Bl.refl _).alloc _))).mono ?_; rintro e w3 ⟨v, rfl, hO, hb3⟩
    have HOw := Lib.hid hO
    have hb4 : Bl w w3 := (hb.alloc _).trans hb3
    clear hO hb3
    go_wp2_with fail
    go_ret2
    exact RM.mk ⟨_, rfl, ownH_is HOw.out⟩ hb4
  · rw [live_bad e]
    have e' : ((tchk t).2 != 0) = true := by simpa using e
    obtain ⟨q, hq⟩ : ∃ q, (tchk t).2 = q := ⟨_, rfl⟩
    obtain ⟨p, hp⟩ : ∃ p, (tchk t).1 = p := ⟨_, rfl⟩
    rw [hq] at e e' hC ⊢
    rw [hp] at hC
    clear hq hp e
    have HC := Lib.hid hC
    clear hC
    
    have HO := Lib.hid h
    obtain ⟨mo, l⟩ := t
    have hs := h.slots
    have hc1 := h.len
    have hc2 := h.cap
    simp only at hs hc1
    unfold maxLen at hc2
    unfold Tb.v
    simp only
    clear h
    clear hs
    go_enter Tryd.func16, Tryd.ntmps16
    go_wp2_with fail
    refine (HC.out _ (HO.out.bl (by repeat (first | assumption | exact Bl.refl _ | apply Bl.drewN | apply Bl.drew | apply Bl.alloc | (refine Bl.dr ?_ (by assumption)) | (refine Bl.trans ?_ (by assumption)))))).mono ?_; rintro e w1 ⟨rfl, hb1⟩
    have hb : Bl w w1 := (by repeat (first | assumption | exact Bl.refl _ | apply Bl.drewN | apply Bl.drew | apply Bl.alloc | (refine Bl.dr ?_ (by assumption)) | (refine Bl.trans ?_ (by assumption))))
    clear hb1
    go_wp2_with fail
    go_ret2
    exact RM.mk ⟨_, rfl, hsIs_nil _⟩ hb
end Go.Proofs.YtidclkojekodpaaDoor
