
/-
  Contracts of handles: Drop and the reference's.
-/
import Derived.Test.YtidclkojekodpaaDoorHnH
import Derived.Test.YtidclkojekodpaaDoorHnB
namespace Go.Proofs.YtidclkojekodpaaDoor
open Go.RowKit
set_option linter.unusedSimpArgs false
set_option linter.unusedVariables false
set_option maxRecDepth 100000

theorem ownT_form {B : Nat} {t : Tb} {w : World} {v : Value} (h : OwnT B t w v) : ∃ ao q, v = .agg #[.int .i64 t.most, .slice ao t.slots.length q] ∧ OwnS B t.slots w (.slice ao t.slots.length q) := by
  obtain ⟨s, rfl, hO⟩ := h
  obtain ⟨ao, q, rfl, -, -, -⟩ := own_form (show w.ownsRow _ _ _ _ _ _ from hO)
  exact ⟨ao, q, rfl, hO⟩
def DropO (B : Nat) (r : Tb × Int) (w : World) (v : Value) : Prop := ∃ vt, v = .tuple #[vt, .int .i64 r.2] ∧ TbO B r.1 w vt
def DropV (B : Nat) (r : Tb × Int) (w : World) (v : Value) : Prop := ∃ vt, v = .tuple #[vt, .int .i64 r.2] ∧ TbF B r.1 w vt
theorem look_inv {t : Tb} {i g : Int} (e : (tlook t (i, g)).2 = 0) : Good t ∧ ∃ (j : Nat) (z : Slot), t.slots[j]? = some z ∧ i = (j : Int) + 1 ∧ tlook t (i, g) = ((j : Int), 0) ∧ tdrop t (i, g) = (⟨t.most, t.slots.set j ⟨z.gen, false⟩⟩, 0) := by
  by_cases e1 : (tchk t).2 = 0
  · refine ⟨tchk_good e1, ?_⟩
    by_cases k : i < 1 ∨ (t.slots.length : Int) < i ∨ g < 1
    · rw [look_b e1 k] at e; simp at e
    · obtain ⟨j, hj⟩ : ∃ j : Nat, i = (j : Int) + 1 := ⟨(i - 1).toNat, by omega⟩
      have hjl : j < t.slots.length := by omega
      have hz : t.slots[j]? = some t.slots[j] := List.getElem?_eq_getElem hjl
      have hd := e
      subst hj
      have hg : ¬ g < 1 := by omega
      have hL : tlook t ((j : Int) + 1, g) = ((j : Int), 0) := by
        by_cases k2 : t.slots[j].gen < g
        · rw [look_c e1 hz hg k2] at e; simp at e
        · by_cases u : g < t.slots[j].gen ∨ t.slots[j].used = false
          · rw [look_d e1 hz hg k2 u] at e; simp at e
          · exact look_e e1 hz hg k2 (fun x => u (.inl x)) (by cases h : t.slots[j].used; exact absurd (.inr h) u; rfl)
      refine ⟨j, _, hz, rfl, hL, ?_⟩
      unfold tdrop
      rw [if_neg (by rw [hL]; simp)]
      have hj2 : ((j : Int) + 1 - 1).toNat = j := by omega
      simp only
      rw [hj2, getD_lt hjl]
  · rw [look_a e1] at e; exact absurd e e1
theorem drop_bad {t : Tb} {h : Int × Int} (e : (tlook t h).2 ≠ 0) : tdrop t h = (tnil, (tlook t h).2) := by unfold tdrop; rw [if_pos e]
theorem slotCells_used {l : List Slot} {j : Nat} {z : Slot} (h : l[j]? = some z) : slotCells (l.set j ⟨z.gen, false⟩) = (slotCells l).set (j * 2 + 1) (.bool false) := by
  rw [slotCells_set]
  congr 1
  obtain ⟨k0, -⟩ := slotCells_get l j z h
  obtain ⟨hlt, hx⟩ := List.getElem?_eq_some_iff.1 k0
  rw [← hx, List.set_getElem_self]
theorem own_unuse {w : World} {base g cap n : Nat} {l : List Slot} (h : w.ownsRow base 52 2 (.slice (some ⟨g, 0, none⟩) n cap) n (slotCells l)) {j : Nat} {z : Slot} (hz : l[j]? = some z) :
    (w.setCell ⟨g, j * 2 + 1, none⟩ (.bool false)).ownsRow base 52 2 (.slice (some ⟨g, 0, none⟩) n cap) n (slotCells (l.set j ⟨z.gen, false⟩)) := by
  rw [slotCells_used hz]
  exact (h.stored (j * 2 + 1) _).1
set_option maxHeartbeats 4000000 in
theorem dropBad (a : Option Addr) (c : Nat) (t : Tb) (i g : Int) (w : World) (h : TOk w a c t) (hi : -9223372036854775808 ≤ i ∧ i ≤ 9223372036854775807) (e : (tlook t (i, g)).2 ≠ 0) : Calls Tryd.prog 13 #[t.v a c, .agg #[.int .i64 i, .int .i64 g]] w (RM w (DropO w.heap.size (tdrop t (i, g)))) := by
  have hC := fun w h => hnLook a c t i g w h hi
  have e' : ((tlook t (i, g)).2 != 0) = true := by simpa using e
  rw [drop_bad e]
  obtain ⟨q, hq⟩ : ∃ q, (tlook t (i, g)).2 = q := ⟨_, rfl⟩
  obtain ⟨p, hp⟩ : ∃ p, (tlook t (i, g)).1 = p := ⟨_, rfl⟩
  rw [hq] at e e' hC ⊢
  rw [hp] at hC
  clear hq hp e
  have HC := Lib.hid hC
  clear hC
  have HO := Lib.hid h
  obtain ⟨mo, l⟩ := t
  have hs := h.slots
  have hc1 := h.len
  have hc2 := h.cap
  simp only at hs hc1
  unfold maxLen at hc2
  unfold Tb.v
  simp only
  clear h
  clear hs
  go_enter Tryd.func13, Tryd.ntmps13
  go_wp2_with fail
  refine (HC.out _ (HO.out.bl (by repeat (first | assumption | exact Bl.refl _ | apply Bl.drewN | apply Bl.drew | apply Bl.alloc | (refine Bl.dr ?_ (by assumption)) | (refine Bl.trans ?_ (by assumption)))))).mono ?_; rintro e w1 ⟨rfl, hb1⟩
  have hr : Mem w1 [(⟨w.heap.size, 0, none⟩, .int .i64 mo), (⟨w.heap.size, 1, none⟩, .slice (a) l.length c), (⟨w.heap.size + 1 + 1, 0, none⟩, .int .i64 0), (⟨w.heap.size + 1 + 1, 1, none⟩, .slice none 0 0)] := by
    refine Mem.bl ?_ hb1
    simp [Mem, go_sem]
  have hb : Bl w w1 := (by repeat (first | assumption | exact Bl.refl _ | apply Bl.drewN | apply Bl.drew | apply Bl.alloc | (refine Bl.dr ?_ (by assumption)) | (refine Bl.trans ?_ (by assumption))))
  have hs1 := hb1.size
  simp at hs1
  clear hb1
  have HR := Lib.hid hr
  
  have hm := hr
  simp only [Mem, VE, List.cons_append, List.nil_append, and_true] at hm
  clear hr
  go_wp2_with fail
  
  refine bodyPost_ret (v := .tuple #[.agg #[.int .i64 0, .slice none 0 0], .int .i64 q]) (by simp [results, Tryd.results13, go_sem, *]) rfl ?_
  exact RM.mk ⟨_, rfl, (.inl ⟨rfl, rfl⟩)⟩ (by repeat (first | assumption | exact Bl.refl _ | apply Bl.drewN | apply Bl.drew | apply Bl.alloc | (refine Bl.setCell ?_ _ (by first | (simp; done) | (simp; omega)) _) | (refine Bl.dr ?_ (by assumption)) | (refine Bl.trans ?_ (by assumption))))
set_option maxHeartbeats 4000000 in
theorem refDropBad (a : Option Addr) (c : Nat) (t : Tb) (i g : Int) (w : World) (h : TOk w a c t) (hi : -9223372036854775808 ≤ i ∧ i ≤ 9223372036854775807) (e : (tlook t (i, g)).2 ≠ 0) : Calls Tryd.prog 14 #[t.v a c, .agg #[.int .i64 i, .int .i64 g]] w (RM w (DropO w.heap.size (tdrop t (i, g)))) := by
  have hC := fun w h => refLook a c t i g w h hi
  have e' : ((tlook t (i, g)).2 != 0) = true := by simpa using e
  rw [drop_bad e]
  obtain ⟨q, hq⟩ : ∃ q, (tlook t (i, g)).2 = q := ⟨_, rfl⟩
  obtain ⟨p, hp⟩ : ∃ p, (tlook t (i, g)).1 = p := ⟨_, rfl⟩
  rw [hq] at e e' hC ⊢
  rw [hp] at hC
  clear hq hp e
  have HC := Lib.hid hC
  clear hC
  have HO := Lib.hid h
  obtain ⟨mo, l⟩ := t
  have hs := h.slots
  have hc1 := h.len
  have hc2 := h.cap
  simp only at hs hc1
  unfold maxLen at hc2
  unfold Tb.v
  simp only
  clear h
  clear hs
  go_enter Tryd.func14, Tryd.ntmps14
  go_wp2_with fail
  refine (HC.out _ (HO.out.bl (by repeat (first | assumption | exact Bl.refl _ | apply Bl.drewN | apply Bl.drew | apply Bl.alloc | (refine Bl.dr ?_ (by assumption)) | (refine Bl.trans ?_ (by assumption)))))).mono ?_; rintro e w1 ⟨rfl, hb1⟩
  have hr : Mem w1 [(⟨w.heap.size, 0, none⟩, .int .i64 mo), (⟨w.heap.size, 1, none⟩, .slice (a) l.length c), (⟨w.heap.size + 1 + 1, 0, none⟩, .int .i64 0), (⟨w.heap.size + 1 + 1, 1, none⟩, .slice none 0 0)] := by
    refine Mem.bl ?_ hb1
    simp [Mem, go_sem]
  have hb : Bl w w1 := (by repeat (first | assumption | exact Bl.refl _ | apply Bl.drewN | apply Bl.drew | apply Bl.alloc | (refine Bl.dr ?_ (by assumption)) | (refine Bl.trans ?_ (by assumption))))
  have hs1 := hb1.size
  simp at hs1
  clear hb1
  have HR := Lib.hid hr
  
  have hm := hr
  simp only [Mem, VE, List.cons_append, List.nil_append, and_true] at hm
  clear hr
  go_wp2_with fail
  
  refine bodyPost_ret (v := .tuple #[.agg #[.int .i64 0, .slice none 0 0], .int .i64 q]) (by simp [results, Tryd.results14, go_sem, *]) rfl ?_
  exact RM.mk ⟨_, rfl, (.inl ⟨rfl, rfl⟩)⟩ (by repeat (first | assumption | exact Bl.refl _ | apply Bl.drewN | apply Bl.drew | apply Bl.alloc | (refine Bl.setCell ?_ _ (by first | (simp; done) | (simp; omega)) _) | (refine Bl.dr ?_ (by assumption)) | (refine Bl.trans ?_ (by assumption))))
set_option maxHeartbeats 4000000 in
theorem dropOk (a : Option Addr) (c : Nat) (t : Tb) (i g : Int) (w : World) (h : TOk w a c t) (hi : -9223372036854775808 ≤ i ∧ i ≤ 9223372036854775807) (e : (tlook t (i, g)).2 = 0) : Calls Tryd.prog 13 #[t.v a c, .agg #[.int .i64 i, .int .i64 g]] w (RM w (DropO w.heap.size (tdrop t (i, g)))) := by
  obtain ⟨hG, j, z, hz, rfl, hL, hD⟩ := look_inv e
  have hC := fun w h => hnLook a c t ((j : Int) + 1) g w h hi
  rw [hL] at hC
  rw [hD]
  have hl16 : t.slots.length ≤ 16 := by have := hG.len; have := hG.most2; omega
  have hgz := hG.gens z (List.mem_of_getElem? hz)
  have hgs := hG.gens
  have hm1 := hG.most1
  have hm2 := hG.most2
  have hjl := (List.getElem?_eq_some_iff.1 hz).1
  have hgs' : ∀ s, s ∈ t.slots.set j ⟨z.gen, false⟩ → s.ok := by
    intro s hs
    have h2 : 1 ≤ s.gen ∧ s.gen ≤ 1000000000 := by
      rcases List.mem_or_eq_of_mem_set hs with h | h
      · exact hgs s h
      · subst h; exact hgz
    unfold Slot.ok; omega
  have HOk := Lib.hid hgs'
  have HC := Lib.hid hC
  clear hC hG hL hD e hi hgs hgs'
  have hK := fun w h => hnCopied a c t w h (by omega)
  have HK := Lib.hid hK
  clear hK
  have HO := Lib.hid h
  obtain ⟨mo, l⟩ := t
  have hs := h.slots
  have hc1 := h.len
  have hc2 := h.cap
  simp only at hs hc1
  unfold maxLen at hc2
  unfold Tb.v
  simp only
  clear h
  clear hs
  simp only at hz hl16 HC HK hjl hm1 hm2 HOk
  go_enter Tryd.func13, Tryd.ntmps13
  go_wp2_with fail
  refine (HC.out _ (HO.out.bl (by repeat (first | assumption | exact Bl.refl _ | apply Bl.drewN | apply Bl.drew | apply Bl.alloc | (refine Bl.dr ?_ (by assumption)) | (refine Bl.trans ?_ (by assumption)))))).mono ?_; rintro e w1 ⟨rfl, hb1⟩
  have hr : Mem w1 [(⟨w.heap.size, 0, none⟩, .int .i64 mo), (⟨w.heap.size, 1, none⟩, .slice (a) l.length c), (⟨w.heap.size + 1 + 1, 0, none⟩, .int .i64 0), (⟨w.heap.size + 1 + 1, 1, none⟩, .slice none 0 0)] := by
    refine Mem.bl ?_ hb1
    simp [Mem, go_sem]
  have hb : Bl w w1 := (by repeat (first | assumption | exact Bl.refl _ | apply Bl.drewN | apply Bl.drew | apply Bl.alloc | (refine Bl.dr ?_ (by assumption)) | (refine Bl.trans ?_ (by assumption))))
  have hs1 := hb1.size
  simp at hs1
  clear hb1
  have HR := Lib.hid hr
  
  have hm := hr
  simp only [Mem, VE, List.cons_append, List.nil_append, and_true] at hm
  clear hr
  go_wp2_with fail
  refine (HK.out _ (HO.out.bl hb)).mono ?_; rintro e w2 ⟨v, rfl, ⟨sv, rfl, hO⟩, hb2⟩
  unfold OwnS at hO
  simp only at hO ⊢
  obtain ⟨ao, q, rfl, -, -, h3⟩ := own_form hO
  obtain ⟨b, rfl, hb3, hb4, hcells⟩ := h3 (by omega)
  obtain ⟨k0, k1⟩ := slotCells_get l j z hz
  have c0 := hcells _ _ k0
  have c1 := hcells _ _ k1
  have f1 := hO.frozenAt (j * 2 + 1)
  have hs2 := hb2.size
  have hst := (own_unuse hO hz).alloc (Obj.cells #[.int .i64 mo, .slice (some ⟨b, 0, none⟩) l.length q] 24)
  have hr := ((HR.out.bl hb2).off b (j * 2 + 1) (.bool false) (by intro q hq; simp at hq; rcases hq with rfl | rfl | rfl | rfl <;> simp <;> omega)).alloc (Obj.cells #[.int .i64 mo, .slice (some ⟨b, 0, none⟩) l.length q] 24)
  have hr2 : Mem ((w2.setCell ⟨b, j * 2 + 1, none⟩ (.bool false)).alloc (Obj.cells #[.int .i64 mo, .slice (some ⟨b, 0, none⟩) l.length q] 24)) [(⟨w2.heap.size, 0, none⟩, .int .i64 mo), (⟨w2.heap.size, 1, none⟩, .slice (some ⟨b, 0, none⟩) l.length q)] := by simp [Mem, go_sem]
  have hr3 := hr.app hr2
  have hbX : Bl w ((w2.setCell ⟨b, j * 2 + 1, none⟩ (.bool false)).alloc (Obj.cells #[.int .i64 mo, .slice (some ⟨b, 0, none⟩) l.length q] 24)) := ((hb.trans hb2).setCell _ (by simp only; omega) _).alloc _
  have n1 : b ≠ w.heap.size + 1 + 1 := by omega
  have n2 : b ≠ w2.heap.size := by omega
  have q1 : (0 : Int) ≤ ((j : Nat) : Int) := by omega
  have q2 : ((j : Nat) : Int) < ((l.length : Nat) : Int) := by omega
  have HST := Lib.hid hst
  have HR3 := Lib.hid hr3
  clear hst hr3 hr hr2 hcells k0 k1 h3 hb2 hm hO HR
  go_upto_region 6 with fail
  clear c0 c1 f1
  generalize (w2.setCell ⟨b, j * 2 + 1, none⟩ (.bool false)).alloc (Obj.cells #[.int .i64 mo, .slice (some ⟨b, 0, none⟩) l.length q] 24) = X at *
  
  have hm := HR3.out
  simp only [Mem, VE, List.cons_append, List.nil_append, and_true] at hm
  have ho := own_set (own_set HST.out ⟨w.heap.size + 1 + 1, 0, none⟩ (by simp only; omega) (.int .i64 mo)) ⟨w.heap.size + 1 + 1, 1, none⟩ (by simp only; omega) (.slice (some ⟨b, 0, none⟩) l.length q)
  have HOY := Lib.hid ho
  clear ho HST
  go_wp2_with fail
  
  refine bodyPost_ret (v := .tuple #[.agg #[.int .i64 mo, .slice (some ⟨b, 0, none⟩) l.length q], .int .i64 0]) (by simp [results, Tryd.results13, go_sem, *]) rfl ?_
  refine RM.mk ⟨_, rfl, .inr ⟨ownT_base (B := w1.heap.size) (t := ⟨mo, l.set j ⟨z.gen, false⟩⟩) ⟨_, rfl, ?_⟩ (by omega), HOk.out, (by simp only; omega), (by simp only; omega)⟩⟩ (by repeat (first | assumption | exact Bl.refl _ | apply Bl.drewN | apply Bl.drew | apply Bl.alloc | (refine Bl.setCell ?_ _ (by first | (simp; done) | (simp; omega)) _) | (refine Bl.dr ?_ (by assumption)) | (refine Bl.trans ?_ (by assumption))))
  unfold OwnS
  rw [List.length_set]
  exact HOY.out
set_option maxHeartbeats 4000000 in
theorem refDropOk (a : Option Addr) (c : Nat) (t : Tb) (i g : Int) (w : World) (h : TOk w a c t) (hi : -9223372036854775808 ≤ i ∧ i ≤ 9223372036854775807) (e : (tlook t (i, g)).2 = 0) : Calls Tryd.prog 14 #[t.v a c, .agg #[.int .i64 i, .int .i64 g]] w (RM w (DropO w.heap.size (tdrop t (i, g)))) := by
  obtain ⟨hG, j, z, hz, rfl, hL, hD⟩ := look_inv e
  have hC := fun w h => refLook a c t ((j : Int) + 1) g w h hi
  rw [hL] at hC
  rw [hD]
  have hl16 : t.slots.length ≤ 16 := by have := hG.len; have := hG.most2; omega
  have hgz := hG.gens z (List.mem_of_getElem? hz)
  have hgs := hG.gens
  have hm1 := hG.most1
  have hm2 := hG.most2
  have hjl := (List.getElem?_eq_some_iff.1 hz).1
  have hgs' : ∀ s, s ∈ t.slots.set j ⟨z.gen, false⟩ → s.ok := by
    intro s hs
    have h2 : 1 ≤ s.gen ∧ s.gen ≤ 1000000000 := by
      rcases List.mem_or_eq_of_mem_set hs with h | h
      · exact hgs s h
      · subst h; exact hgz
    unfold Slot.ok; omega
  have HOk := Lib.hid hgs'
  have HC := Lib.hid hC
  clear hC hG hL hD e hi hgs hgs'
  have hK := fun w h => refWith a c t j ⟨z.gen, false⟩ w h (by omega) (by omega)
  rw [show sset t.slots j ⟨z.gen, false⟩ = t.slots.set j ⟨z.gen, false⟩ by unfold sset; rw [if_neg (by omega)]] at hK
  have HK := Lib.hid hK
  clear hK
  have HO := Lib.hid h
  obtain ⟨mo, l⟩ := t
  have hs := h.slots
  have hc1 := h.len
  have hc2 := h.cap
  simp only at hs hc1
  unfold maxLen at hc2
  unfold Tb.v
  simp only
  clear h
  simp only at hz hl16 HC HK hjl hm1 hm2 HOk
  obtain ⟨b, off, rfl, hat⟩ := hs.get hjl
  have d := hat j z hz
  clear hs hat
  go_enter Tryd.func14, Tryd.ntmps14
  go_wp2_with fail
  refine (HC.out _ (HO.out.bl (by repeat (first | assumption | exact Bl.refl _ | apply Bl.drewN | apply Bl.drew | apply Bl.alloc | (refine Bl.dr ?_ (by assumption)) | (refine Bl.trans ?_ (by assumption)))))).mono ?_; rintro e w1 ⟨rfl, hb1⟩
  have hr : Mem w1 [(⟨w.heap.size, 0, none⟩, .int .i64 mo), (⟨w.heap.size, 1, none⟩, .slice (some ⟨b, off, none⟩) l.length c), (⟨w.heap.size + 1 + 1, 0, none⟩, .int .i64 0), (⟨w.heap.size + 1 + 1, 1, none⟩, .slice none 0 0)] := by
    refine Mem.bl ?_ hb1
    simp [Mem, go_sem]
  have hb : Bl w w1 := (by repeat (first | assumption | exact Bl.refl _ | apply Bl.drewN | apply Bl.drew | apply Bl.alloc | (refine Bl.dr ?_ (by assumption)) | (refine Bl.trans ?_ (by assumption))))
  have hs1 := hb1.size
  simp at hs1
  clear hb1
  have HR := Lib.hid hr
  
  have hm := hr
  simp only [Mem, VE, List.cons_append, List.nil_append, and_true] at hm
  clear hr
  go_wp2_with fail
  have HKF : Hid (∀ w', Bl w1 w' → (w'.cell? ⟨w.heap.size + 1 + 1, 0, none⟩ = some (.int .i64 0) ∧ w'.frozen? ⟨w.heap.size + 1 + 1, 0, none⟩ = false ∧ w'.cell? ⟨w.heap.size + 1 + 1, 1, none⟩ = some (.slice none 0 0) ∧ w'.frozen? ⟨w.heap.size + 1 + 1, 1, none⟩ = false)) := Lib.hid (fun w' k => by have := HR.out.bl k; simp only [Mem, and_true] at this; simp [this])
  have hb00 : Bl w1 w1 := Bl.refl _
  obtain ⟨d0, d1⟩ := d.bl hb
  have q1 : (0 : Int) ≤ ((j : Nat) : Int) := by omega
  have q2 : ((j : Nat) : Int) < ((l.length : Nat) : Int) := by omega
  go_region_with ((go_at_call 30; refine (HK.out _ (HO.out.bl (hb.trans (by repeat (first | assumption | exact Bl.refl _ | apply Bl.drewN | apply Bl.drew | apply Bl.alloc | (refine Bl.dr ?_ (by assumption)) | (refine Bl.trans ?_ (by assumption))))))).mono ?_; rintro e w2 ⟨v, rfl, hT, hb2⟩; obtain ⟨ao, q, rfl, hO⟩ := ownT_form hT; have hb3 : Bl w1 w2 := Bl.trans (by repeat (first | assumption | exact Bl.refl _ | apply Bl.drewN | apply Bl.drew | apply Bl.alloc | (refine Bl.dr ?_ (by assumption)) | (refine Bl.trans ?_ (by assumption)))) hb2; have hkf := HKF.out w2 hb3))
  all_goals
    have hO' : w2.ownsRow w1.heap.size 52 2 (.slice ao (l.set j ⟨z.gen, false⟩).length q) (l.set j ⟨z.gen, false⟩).length (slotCells (l.set j ⟨z.gen, false⟩)) := hO
    have o1 := own_set (own_set hO' ⟨w.heap.size + 1 + 1, 0, none⟩ (by simp only; omega) (.int .i64 mo)) ⟨w.heap.size + 1 + 1, 1, none⟩ (by simp only; omega) (.slice ao (l.set j ⟨z.gen, false⟩).length q)
    have hbX : Bl w w2 := hb.trans hb3
    have O1 := Lib.hid o1
    clear o1 hO hO' hT hm HKF HR HC HK HO hb hb2 hb3
    go_wp2_with fail
    rw [List.length_set] at O1
    
    refine bodyPost_ret (v := .tuple #[.agg #[.int .i64 mo, .slice ao l.length q], .int .i64 0]) (by simp [results, Tryd.results14, go_sem, *]) rfl ?_
    refine RM.mk ⟨_, rfl, .inr ⟨ownT_base (B := w1.heap.size) (t := ⟨mo, l.set j ⟨z.gen, false⟩⟩) ⟨_, rfl, ?_⟩ (by omega), HOk.out, (by simp only; omega), (by simp only; omega)⟩⟩ (by repeat (first | assumption | exact Bl.refl _ | apply Bl.drewN | apply Bl.drew | apply Bl.alloc | (refine Bl.setCell ?_ _ (by first | (simp; done) | (simp; omega)) _) | (refine Bl.dr ?_ (by assumption)) | (refine Bl.trans ?_ (by assumption))))
    unfold OwnS
    rw [List.length_set]
    exact O1.out
theorem hnDropO (a : Option Addr) (c : Nat) (t : Tb) (i g : Int) (w : World) (h : TOk w a c t) (hi : -9223372036854775808 ≤ i ∧ i ≤ 9223372036854775807) : Calls Tryd.prog 13 #[t.v a c, .agg #[.int .i64 i, .int .i64 g]] w (RM w (DropO w.heap.size (tdrop t (i, g)))) := by
  by_cases e : (tlook t (i, g)).2 = 0
  · exact dropOk a c t i g w h hi e
  · exact dropBad a c t i g w h hi e
theorem refDropO (a : Option Addr) (c : Nat) (t : Tb) (i g : Int) (w : World) (h : TOk w a c t) (hi : -9223372036854775808 ≤ i ∧ i ≤ 9223372036854775807) : Calls Tryd.prog 14 #[t.v a c, .agg #[.int .i64 i, .int .i64 g]] w (RM w (DropO w.heap.size (tdrop t (i, g)))) := by
  by_cases e : (tlook t (i, g)).2 = 0
  · exact refDropOk a c t i g w h hi e
  · exact refDropBad a c t i g w h hi e
theorem dropO_v {B : Nat} {r : Tb × Int} {w w' : World} {e : Ending} (h : RM w (DropO B r) e w') : RM w (DropV B r) e w' := by
  obtain ⟨v, rfl, ⟨vt, rfl, hV⟩, hb⟩ := h
  exact ⟨_, rfl, ⟨vt, rfl, tbO_is hV⟩, hb⟩
theorem hnDrop (a : Option Addr) (c : Nat) (t : Tb) (i g : Int) (w : World) (h : TOk w a c t) (hi : -9223372036854775808 ≤ i ∧ i ≤ 9223372036854775807) : Calls Tryd.prog 13 #[t.v a c, .agg #[.int .i64 i, .int .i64 g]] w (RM w (DropV w.heap.size (tdrop t (i, g)))) :=
  (hnDropO a c t i g w h hi).mono fun _ _ h => dropO_v h
theorem refDrop (a : Option Addr) (c : Nat) (t : Tb) (i g : Int) (w : World) (h : TOk w a c t) (hi : -9223372036854775808 ≤ i ∧ i ≤ 9223372036854775807) : Calls Tryd.prog 14 #[t.v a c, .agg #[.int .i64 i, .int .i64 g]] w (RM w (DropV w.heap.size (tdrop t (i, g)))) :=
  (refDropO a c t i g w h hi).mono fun _ _ h => dropO_v h
end Go.Proofs.YtidclkojekodpaaDoor
