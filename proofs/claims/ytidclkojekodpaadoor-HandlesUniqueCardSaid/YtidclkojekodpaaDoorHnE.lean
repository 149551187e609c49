
/-
  Contracts of handles: the reference's table with another slot.
-/
import Derived.Test.YtidclkojekodpaaDoorHnD
namespace Go.Proofs.YtidclkojekodpaaDoor
open Go.RowKit
set_option linter.unusedSimpArgs false
set_option linter.unusedVariables false
set_option maxRecDepth 100000

/-- Own cells below a row's base stay as the row grows. -/
theorem Mem.grown {w w' : World} {base : Nat} {e : TypeId} {size : Nat} {v : Value} {n : Nat} {xs : List Value} (h : w.ownsRow base e size v n xs) (hg : w.grownBy w' v.ownBlock) : ∀ {l : List (Addr × Value)}, Mem w l → (∀ q, q ∈ l → q.1.block < base) → Mem w' l
  | [], _, _ => trivial
  | (p, u) :: l, ⟨h1, h2, h3⟩, hn => ⟨grown_cell h hg h1 (hn (p, u) (by simp)), grown_frozen h hg h1 h2 (hn (p, u) (by simp)), Mem.grown h hg h3 (fun q hq => hn q (by simp [hq]))⟩
theorem slotCells_set : ∀ (l : List Slot) (i : Nat) (s : Slot), slotCells (l.set i s) = ((slotCells l).set (i * 2) (.int .i64 s.gen)).set (i * 2 + 1) (.bool s.used)
  | [], i, s => by simp [slotCells]
  | y :: l, 0, s => by simp [slotCells]
  | y :: l, i + 1, s => by
    have ih := slotCells_set l i s
    have e : ∀ (z : Slot) (m : List Slot), slotCells (z :: m) = .int .i64 z.gen :: .bool z.used :: slotCells m := fun z m => by simp [slotCells]
    rw [List.set_cons_succ, e, e, ih, show (i + 1) * 2 = i * 2 + 1 + 1 by omega]
    simp
/-- A slot is stored into a row of the call's own. -/
theorem own_store {w : World} {base g cap n : Nat} {l : List Slot} (h : w.ownsRow base 52 2 (.slice (some ⟨g, 0, none⟩) n cap) n (slotCells l)) (i : Nat) (s : Slot) :
    ((w.setCell ⟨g, i * 2, none⟩ (.int .i64 s.gen)).setCell ⟨g, i * 2 + 1, none⟩ (.bool s.used)).ownsRow base 52 2 (.slice (some ⟨g, 0, none⟩) n cap) n (slotCells (l.set i s)) := by
  rw [slotCells_set]
  exact ((h.stored (i * 2) _).1.stored (i * 2 + 1) _).1
set_option maxHeartbeats 2000000 in
theorem refWith0 (a : Option Addr) (c : Nat) (t : Tb) (i : Nat) (s : Slot) (w : World) (h : TOk w a c t) (hl : t.slots.length ≤ 4000) (hi : i ≤ t.slots.length) (e : i = t.slots.length) : Calls Tryd.prog 30 #[t.v a c, .int .i64 i, s.v] w (RM w (OwnT w.heap.size ⟨t.most, sset t.slots i s⟩)) := by
  obtain ⟨i0, hi0, hz0, hz1, hz2⟩ := info_parts inf_slot
  obtain ⟨mo, l⟩ := t
  have hs := h.slots
  simp only at hs hl hi
  unfold Tb.v Slot.v
  simp only
  have hb0 : Bl w ((((w.alloc (Obj.cells #[.int .i64 mo, .slice a l.length c] 24)).alloc (Obj.cells #[.int .i64 s.gen, .bool s.used] 52)).alloc (Obj.cells #[.int .i64 0, .slice none 0 0] 24)).alloc (Obj.cells #[] 52)) := (by repeat (first | assumption | exact Bl.refl _ | apply Bl.drewN | apply Bl.drew | apply Bl.alloc | (refine Bl.dr ?_ (by assumption)) | (refine Bl.trans ?_ (by assumption))))
  have hL0 := hs.bl hb0
  have ho0 := own0S (((w.alloc (Obj.cells #[.int .i64 mo, .slice a l.length c] 24)).alloc (Obj.cells #[.int .i64 s.gen, .bool s.used] 52)).alloc (Obj.cells #[.int .i64 0, .slice none 0 0] 24)) (w.heap.size + 3) (by simp)
  have hm0 : Mem ((((w.alloc (Obj.cells #[.int .i64 mo, .slice a l.length c] 24)).alloc (Obj.cells #[.int .i64 s.gen, .bool s.used] 52)).alloc (Obj.cells #[.int .i64 0, .slice none 0 0] 24)).alloc (Obj.cells #[] 52)) [(⟨w.heap.size, 0, none⟩, .int .i64 mo), (⟨w.heap.size, 1, none⟩, .slice a l.length c), (⟨w.heap.size + 1, 0, none⟩, .int .i64 s.gen), (⟨w.heap.size + 1, 1, none⟩, .bool s.used), (⟨w.heap.size + 1 + 1, 0, none⟩, .int .i64 0), (⟨w.heap.size + 1 + 1, 1, none⟩, .slice none 0 0)] := by simp [Mem, go_sem]
  have HM0 := Lib.hid hm0
  clear hs h hm0
  go_enter Tryd.func30, Tryd.ntmps30
  go_wp2_with (at_builtin; refine wpList_appS ?hw _ _ rfl (w.heap.size + 3) (.slice (some ⟨w.heap.size + 3, 0, none⟩) 0 0) 0 [] rfl ho0 a c l rfl hL0 (by simp) (by omega) ?_)
  intro v1 wA hA hg
  have hmA := Mem.grown ho0 hg HM0.out (by intro q hq; simp at hq; rcases hq with rfl | rfl | rfl | rfl | rfl | rfl <;> simp <;> omega)
  have hbA : Bl w wA := grown_bl hb0 ho0 hg (by omega)
  have hsA := hg.size
  simp at hsA
  clear hg ho0 hb0 hL0 HM0
  have hi2 : True := trivial
  try simp only at e
  subst e
  obtain ⟨ad0, cap0, rfl, -, -, -⟩ := own_form hA
  have HA := Lib.hid hA
  have HMA := Lib.hid hmA
  clear hA hi2
  
  have hm := hmA
  simp only [Mem, VE, List.cons_append, List.nil_append, and_true] at hm
  clear hmA
  go_wp2_with (at_builtin; refine wpList_append_own _ rfl _ _ 22 rfl (w.heap.size + 3) 52 i0 (.agg #[.int .i64 0, .bool false]) 2 16 Tryd.underlying22 hi0 hz0 hz1 hz2 rfl (by decide) _ _ _ rfl (HA.out.alloc _) ⟨wA.heap.size, 0, none⟩ 1 1 [.int .i64 0, .bool false] rfl rfl ?c1 ?c2 ?c3 ?c4 ?c5 ?_)
  case c1 => exact multi_new _ _ _
  case c2 => intro u hu; simp at hu; rcases hu with rfl | rfl <;> rfl
  case c3 => unfold maxLen; omega
  case c4 => omega
  case c5 => simp; omega
  intro v2 wB hB hg2 _
  have hmB := Mem.grown (HA.out.alloc _) hg2 (HMA.out.alloc _) (by intro q hq; simp at hq; rcases hq with rfl | rfl | rfl | rfl | rfl | rfl <;> simp <;> omega)
  have hbB := grown_bl (hbA.alloc _) (HA.out.alloc _) hg2 (by omega)
  have hA : wB.ownsRow (w.heap.size + 3) 52 2 v2 (l.length + 1) (slotCells (l ++ [s0])) := by rw [slotCells_app]; exact hB
  clear hB hg2 hm HA HMA hbA hsA
  have hi2 : l.length < (l ++ [s0]).length := by simp
  obtain ⟨wA, rfl⟩ : ∃ x, x = wB := ⟨_, rfl⟩
  have hmA := hmB
  have hbA := hbB
  clear hmB hbB
  obtain ⟨ad, cap, rfl, h1, h2, h3⟩ := own_form hA
  obtain ⟨g, rfl, hg1, hg2, hcells⟩ := h3 (by omega)
  obtain ⟨z, hz⟩ : ∃ z, (l ++ [s0])[l.length]? = some z := ⟨_, List.getElem?_eq_getElem hi2⟩
  obtain ⟨k0, k1⟩ := slotCells_get (l ++ [s0]) (l.length) z hz
  have c0 := hcells _ _ k0
  have c1 := hcells _ _ k1
  have f0 := hA.frozenAt (l.length * 2)
  have f1 := hA.frozenAt (l.length * 2 + 1)
  have hst := own_store (l := l ++ [s0]) hA (l.length) s
  have n1 : g ≠ w.heap.size := by omega
  have n2 : g ≠ w.heap.size + 1 + 1 := by omega
  have q1 : (0 : Int) ≤ ((l.length : Nat) : Int) := by omega
  have q2 : ((l.length : Nat) : Int) < (((l.length + 1 : Nat)) : Int) := by omega
  skip
  have HST := Lib.hid hst
  have HMA := Lib.hid hmA
  clear hst hA hcells k0 k1 hz h3
  
  have hm := hmA
  simp only [Mem, VE, List.cons_append, List.nil_append, and_true] at hm
  clear hmA
  have hw2 : Mem wA [(⟨w.heap.size + 1 + 1, 0, none⟩, .int .i64 0), (⟨w.heap.size + 1 + 1, 1, none⟩, .slice none 0 0)] := by simp [Mem, hm]
  have hw3 := (hw2.off g (l.length * 2) (.int .i64 s.gen) (by intro q hq; simp at hq; rcases hq with rfl | rfl <;> simp <;> omega)).off g (l.length * 2 + 1) (.bool s.used) (by intro q hq; simp at hq; rcases hq with rfl | rfl <;> simp <;> omega)
  have HW3 := Lib.hid hw3
  clear hw2 hw3
  go_wp2_with fail
  obtain ⟨e0, -, e1, -⟩ := HW3.out
  have r0 := (oth (World.setCell (World.setCell (World.setCell wA ⟨g, l.length * 2, none⟩ (.int .i64 s.gen)) ⟨g, l.length * 2 + 1, none⟩ (.bool s.used)) ⟨w.heap.size + 1 + 1, 0, none⟩ (.int .i64 mo)) (w.heap.size + 1 + 1) 1 0 (.slice (some ⟨g, 0, none⟩) (l.length + 1) cap) (by omega)).trans (smc _ _ _ (.int .i64 mo) _ e0)
  have r1 := smc (World.setCell (World.setCell (World.setCell wA ⟨g, l.length * 2, none⟩ (.int .i64 s.gen)) ⟨g, l.length * 2 + 1, none⟩ (.bool s.used)) ⟨w.heap.size + 1 + 1, 0, none⟩ (.int .i64 mo)) (w.heap.size + 1 + 1) 1 (.slice (some ⟨g, 0, none⟩) (l.length + 1) cap) _ ((oth _ _ 0 1 _ (by omega)).trans e1)
  have ho := own_base (b := w.heap.size) (own_set (own_set HST.out ⟨w.heap.size + 1 + 1, 0, none⟩ (by simp only; omega) (.int .i64 mo)) ⟨w.heap.size + 1 + 1, 1, none⟩ (by simp only; omega) (.slice (some ⟨g, 0, none⟩) (l.length + 1) cap)) (by omega)
  have hbl := (((hbA.setCell ⟨g, l.length * 2, none⟩ (by simp only; omega) (.int .i64 s.gen)).setCell ⟨g, l.length * 2 + 1, none⟩ (by simp only; omega) (.bool s.used)).setCell ⟨w.heap.size + 1 + 1, 0, none⟩ (by simp only; omega) (.int .i64 mo)).setCell ⟨w.heap.size + 1 + 1, 1, none⟩ (by simp only; omega) (.slice (some ⟨g, 0, none⟩) (l.length + 1) cap)
  clear hm c0 c1 f0 f1 e0 e1 HST HMA
  generalize World.setCell (World.setCell (World.setCell (World.setCell wA ⟨g, l.length * 2, none⟩ (.int .i64 s.gen)) ⟨g, l.length * 2 + 1, none⟩ (.bool s.used)) ⟨w.heap.size + 1 + 1, 0, none⟩ (.int .i64 mo)) ⟨w.heap.size + 1 + 1, 1, none⟩ (.slice (some ⟨g, 0, none⟩) (l.length + 1) cap) = WW at *
  have HO := Lib.hid ho
  clear ho
  refine bodyPost_ret (v := .agg #[.int .i64 mo, .slice (some ⟨g, 0, none⟩) (l.length + 1) cap]) (by simp [results, Tryd.results30, go_sem, r0, r1]) rfl ?_
  refine RM.mk ⟨_, rfl, ?_⟩ hbl
  show WW.ownsRow _ _ _ _ (sset l (l.length) s).length (slotCells (sset l (l.length) s))
  (rw [show sset l l.length s = (l ++ [s0]).set l.length s by unfold sset; rw [if_pos rfl]; simp, List.length_set, List.length_append]; exact HO.out)
set_option maxHeartbeats 2000000 in
theorem refWith1 (a : Option Addr) (c : Nat) (t : Tb) (i : Nat) (s : Slot) (w : World) (h : TOk w a c t) (hl : t.slots.length ≤ 4000) (hi : i ≤ t.slots.length) (e : ¬ i = t.slots.length) : Calls Tryd.prog 30 #[t.v a c, .int .i64 i, s.v] w (RM w (OwnT w.heap.size ⟨t.most, sset t.slots i s⟩)) := by
  have hi2 : i < t.slots.length := by omega
  obtain ⟨mo, l⟩ := t
  have hs := h.slots
  simp only at hs hl hi
  unfold Tb.v Slot.v
  simp only
  have hb0 : Bl w ((((w.alloc (Obj.cells #[.int .i64 mo, .slice a l.length c] 24)).alloc (Obj.cells #[.int .i64 s.gen, .bool s.used] 52)).alloc (Obj.cells #[.int .i64 0, .slice none 0 0] 24)).alloc (Obj.cells #[] 52)) := (by repeat (first | assumption | exact Bl.refl _ | apply Bl.drewN | apply Bl.drew | apply Bl.alloc | (refine Bl.dr ?_ (by assumption)) | (refine Bl.trans ?_ (by assumption))))
  have hL0 := hs.bl hb0
  have ho0 := own0S (((w.alloc (Obj.cells #[.int .i64 mo, .slice a l.length c] 24)).alloc (Obj.cells #[.int .i64 s.gen, .bool s.used] 52)).alloc (Obj.cells #[.int .i64 0, .slice none 0 0] 24)) (w.heap.size + 3) (by simp)
  have hm0 : Mem ((((w.alloc (Obj.cells #[.int .i64 mo, .slice a l.length c] 24)).alloc (Obj.cells #[.int .i64 s.gen, .bool s.used] 52)).alloc (Obj.cells #[.int .i64 0, .slice none 0 0] 24)).alloc (Obj.cells #[] 52)) [(⟨w.heap.size, 0, none⟩, .int .i64 mo), (⟨w.heap.size, 1, none⟩, .slice a l.length c), (⟨w.heap.size + 1, 0, none⟩, .int .i64 s.gen), (⟨w.heap.size + 1, 1, none⟩, .bool s.used), (⟨w.heap.size + 1 + 1, 0, none⟩, .int .i64 0), (⟨w.heap.size + 1 + 1, 1, none⟩, .slice none 0 0)] := by simp [Mem, go_sem]
  have HM0 := Lib.hid hm0
  clear hs h hm0
  go_enter Tryd.func30, Tryd.ntmps30
  go_wp2_with (at_builtin; refine wpList_appS ?hw _ _ rfl (w.heap.size + 3) (.slice (some ⟨w.heap.size + 3, 0, none⟩) 0 0) 0 [] rfl ho0 a c l rfl hL0 (by simp) (by omega) ?_)
  intro v1 wA hA hg
  have hmA := Mem.grown ho0 hg HM0.out (by intro q hq; simp at hq; rcases hq with rfl | rfl | rfl | rfl | rfl | rfl <;> simp <;> omega)
  have hbA : Bl w wA := grown_bl hb0 ho0 hg (by omega)
  have hsA := hg.size
  simp at hsA
  clear hg ho0 hb0 hL0 HM0
  obtain ⟨ad, cap, rfl, h1, h2, h3⟩ := own_form hA
  obtain ⟨g, rfl, hg1, hg2, hcells⟩ := h3 (by omega)
  obtain ⟨z, hz⟩ : ∃ z, (l)[i]? = some z := ⟨_, List.getElem?_eq_getElem hi2⟩
  obtain ⟨k0, k1⟩ := slotCells_get (l) (i) z hz
  have c0 := hcells _ _ k0
  have c1 := hcells _ _ k1
  have f0 := hA.frozenAt (i * 2)
  have f1 := hA.frozenAt (i * 2 + 1)
  have hst := own_store (l := l) hA (i) s
  have n1 : g ≠ w.heap.size := by omega
  have n2 : g ≠ w.heap.size + 1 + 1 := by omega
  have q1 : (0 : Int) ≤ ((i : Nat) : Int) := by omega
  have q2 : ((i : Nat) : Int) < (((l.length : Nat)) : Int) := by omega
  have hne : ((i : Int) == (l.length : Int)) = false := by rw [beq_eq_false_iff_ne]; omega
  have HST := Lib.hid hst
  have HMA := Lib.hid hmA
  clear hst hA hcells k0 k1 hz h3
  
  have hm := hmA
  simp only [Mem, VE, List.cons_append, List.nil_append, and_true] at hm
  clear hmA
  have hw2 : Mem wA [(⟨w.heap.size + 1 + 1, 0, none⟩, .int .i64 0), (⟨w.heap.size + 1 + 1, 1, none⟩, .slice none 0 0)] := by simp [Mem, hm]
  have hw3 := (hw2.off g (i * 2) (.int .i64 s.gen) (by intro q hq; simp at hq; rcases hq with rfl | rfl <;> simp <;> omega)).off g (i * 2 + 1) (.bool s.used) (by intro q hq; simp at hq; rcases hq with rfl | rfl <;> simp <;> omega)
  have HW3 := Lib.hid hw3
  clear hw2 hw3
  go_wp2_with fail
  obtain ⟨e0, -, e1, -⟩ := HW3.out
  have r0 := (oth (World.setCell (World.setCell (World.setCell wA ⟨g, i * 2, none⟩ (.int .i64 s.gen)) ⟨g, i * 2 + 1, none⟩ (.bool s.used)) ⟨w.heap.size + 1 + 1, 0, none⟩ (.int .i64 mo)) (w.heap.size + 1 + 1) 1 0 (.slice (some ⟨g, 0, none⟩) (l.length) cap) (by omega)).trans (smc _ _ _ (.int .i64 mo) _ e0)
  have r1 := smc (World.setCell (World.setCell (World.setCell wA ⟨g, i * 2, none⟩ (.int .i64 s.gen)) ⟨g, i * 2 + 1, none⟩ (.bool s.used)) ⟨w.heap.size + 1 + 1, 0, none⟩ (.int .i64 mo)) (w.heap.size + 1 + 1) 1 (.slice (some ⟨g, 0, none⟩) (l.length) cap) _ ((oth _ _ 0 1 _ (by omega)).trans e1)
  have ho := own_base (b := w.heap.size) (own_set (own_set HST.out ⟨w.heap.size + 1 + 1, 0, none⟩ (by simp only; omega) (.int .i64 mo)) ⟨w.heap.size + 1 + 1, 1, none⟩ (by simp only; omega) (.slice (some ⟨g, 0, none⟩) (l.length) cap)) (by omega)
  have hbl := (((hbA.setCell ⟨g, i * 2, none⟩ (by simp only; omega) (.int .i64 s.gen)).setCell ⟨g, i * 2 + 1, none⟩ (by simp only; omega) (.bool s.used)).setCell ⟨w.heap.size + 1 + 1, 0, none⟩ (by simp only; omega) (.int .i64 mo)).setCell ⟨w.heap.size + 1 + 1, 1, none⟩ (by simp only; omega) (.slice (some ⟨g, 0, none⟩) (l.length) cap)
  clear hm c0 c1 f0 f1 e0 e1 HST HMA
  generalize World.setCell (World.setCell (World.setCell (World.setCell wA ⟨g, i * 2, none⟩ (.int .i64 s.gen)) ⟨g, i * 2 + 1, none⟩ (.bool s.used)) ⟨w.heap.size + 1 + 1, 0, none⟩ (.int .i64 mo)) ⟨w.heap.size + 1 + 1, 1, none⟩ (.slice (some ⟨g, 0, none⟩) (l.length) cap) = WW at *
  have HO := Lib.hid ho
  clear ho
  refine bodyPost_ret (v := .agg #[.int .i64 mo, .slice (some ⟨g, 0, none⟩) (l.length) cap]) (by simp [results, Tryd.results30, go_sem, r0, r1]) rfl ?_
  refine RM.mk ⟨_, rfl, ?_⟩ hbl
  show WW.ownsRow _ _ _ _ (sset l (i) s).length (slotCells (sset l (i) s))
  (rw [show sset l i s = l.set i s by unfold sset; rw [if_neg (by omega)], List.length_set]; exact HO.out)
theorem refWith (a : Option Addr) (c : Nat) (t : Tb) (i : Nat) (s : Slot) (w : World) (h : TOk w a c t) (hl : t.slots.length ≤ 4000) (hi : i ≤ t.slots.length) : Calls Tryd.prog 30 #[t.v a c, .int .i64 i, s.v] w (RM w (OwnT w.heap.size ⟨t.most, sset t.slots i s⟩)) := by
  by_cases e : i = t.slots.length
  · exact refWith0 a c t i s w h hl hi e
  · exact refWith1 a c t i s w h hl hi e
end Go.Proofs.YtidclkojekodpaaDoor
