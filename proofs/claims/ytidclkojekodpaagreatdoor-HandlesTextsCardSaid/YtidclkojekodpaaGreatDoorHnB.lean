
/-
  Contracts of handles: sought, Look, Given and the reference's.
-/
import Derived.Test.YtidclkojekodpaaGreatDoorHnA
import Derived.Test.YtidclkojekodpaaGreatDoorHnQ
namespace Go.Proofs.YtidclkojekodpaaGreatDoor
open Go.RowKit
set_option linter.unusedSimpArgs false
set_option linter.unusedVariables false
set_option maxRecDepth 100000

theorem look_a {t : Tb} {h : Int × Int} (e : (tchk t).2 ≠ 0) : tlook t h = (0, (tchk t).2) := by unfold tlook; rw [if_pos e]
theorem look_b {t : Tb} {i g : Int} (e : (tchk t).2 = 0) (k : i < 1 ∨ (t.slots.length : Int) < i ∨ g < 1) : tlook t (i, g) = (0, 4) := by unfold tlook; rw [if_neg (by simp [e]), if_pos k]
theorem look_c {t : Tb} {j : Nat} {g : Int} {s : Slot} (e : (tchk t).2 = 0) (hs : t.slots[j]? = some s) (hg : ¬ g < 1) (k : s.gen < g) : tlook t ((j : Int) + 1, g) = (0, 4) := by
  have hj := (List.getElem?_eq_some_iff.1 hs).1
  have hd : t.slots.getD j s0 = s := by rw [List.getD_eq_getElem?_getD, hs]; rfl
  unfold tlook
  rw [if_neg (by simp [e]), if_neg (by simp only; omega)]
  simp only
  rw [show ((j : Int) + 1 - 1).toNat = j by omega, hd, if_pos k]
theorem look_d {t : Tb} {j : Nat} {g : Int} {s : Slot} (e : (tchk t).2 = 0) (hs : t.slots[j]? = some s) (hg : ¬ g < 1) (k : ¬ s.gen < g) (u : g < s.gen ∨ s.used = false) : tlook t ((j : Int) + 1, g) = (0, 11) := by
  have hj := (List.getElem?_eq_some_iff.1 hs).1
  have hd : t.slots.getD j s0 = s := by rw [List.getD_eq_getElem?_getD, hs]; rfl
  unfold tlook
  rw [if_neg (by simp [e]), if_neg (by simp only; omega)]
  simp only
  rw [show ((j : Int) + 1 - 1).toNat = j by omega, hd, if_neg k, if_pos u]
theorem look_e {t : Tb} {j : Nat} {g : Int} {s : Slot} (e : (tchk t).2 = 0) (hs : t.slots[j]? = some s) (hg : ¬ g < 1) (k : ¬ s.gen < g) (u : ¬ g < s.gen) (v : s.used = true) : tlook t ((j : Int) + 1, g) = ((j : Int), 0) := by
  have hj := (List.getElem?_eq_some_iff.1 hs).1
  have hd : t.slots.getD j s0 = s := by rw [List.getD_eq_getElem?_getD, hs]; rfl
  unfold tlook
  rw [if_neg (by simp [e]), if_neg (by simp only; omega)]
  simp only
  rw [show ((j : Int) + 1 - 1).toNat = j by omega, hd, if_neg k, if_neg (by rw [v]; simp; omega), show (j : Int) + 1 - 1 = j by omega]
/-- What sought hands back. -/
def soughtV (x : Int × Int) : Value := if x.2 = 0 then .iface 3 (.int .i64 x.1) else .iface 27 (.int .i64 x.2)
theorem sv_ok {i : Int} : soughtV (i, 0) = .iface 3 (.int .i64 i) := rfl
theorem sv_bad {i e : Int} (h : e ≠ 0) : soughtV (i, e) = .iface 27 (.int .i64 e) := by unfold soughtV; rw [if_neg h]

set_option maxHeartbeats 4000000 in
theorem hnSought (a : Option Addr) (c : Nat) (t : Tb) (i g : Int) (w : World) (h : TOk w a c t) (hi : -9223372036854775808 ≤ i ∧ i ≤ 9223372036854775807) : Calls Tryz.prog 25 #[t.v a c, .agg #[.int .i64 i, .int .i64 g]] w (RB w (soughtV (tlook t (i, g)))) := by
  have hC := fun w h => hnCheck a c t w h
  by_cases e : (tchk t).2 = 0
  · by_cases k : i < 1 ∨ (t.slots.length : Int) < i
    · rw [look_b e (by omega)]
      rw [e] at hC
      clear e
      have HC := Lib.hid hC
      have HO := Lib.hid h
      obtain ⟨mo, l⟩ := t
      have hs := h.slots
      have hc1 := h.len
      have hc2 := h.cap
      simp only at hs hc1
      unfold maxLen at hc2
      unfold Tb.v
      clear h hC
      simp only at k HC
      clear hs
      by_cases k1 : i < 1
      · clear k
        go_enter Tryz.func25, Tryz.ntmps25
        go_wp2_with fail
        refine (HC.out _ (HO.out.bl (by repeat (first | assumption | exact Bl.refl _ | apply Bl.drewN | apply Bl.drew | apply Bl.alloc | (refine Bl.dr ?_ (by assumption)) | (refine Bl.trans ?_ (by assumption)))))).mono ?_; rintro e w1 ⟨rfl, hb1⟩
        have hr : Mem w1 [(⟨w.heap.size, 0, none⟩, .int .i64 mo), (⟨w.heap.size, 1, none⟩, .slice (a) l.length c), (⟨w.heap.size + 1, 0, none⟩, .int .i64 (i)), (⟨w.heap.size + 1, 1, none⟩, .int .i64 (g))] := by
          refine Mem.bl ?_ hb1
          simp [Mem, go_sem]
        have hb : Bl w w1 := (by repeat (first | assumption | exact Bl.refl _ | apply Bl.drewN | apply Bl.drew | apply Bl.alloc | (refine Bl.dr ?_ (by assumption)) | (refine Bl.trans ?_ (by assumption))))
        clear hb1
        
        have hm := hr
        simp only [Mem, VE, List.cons_append, List.nil_append, and_true] at hm
        clear hr
        try have d0 := hb.cell d0
        try have d1 := hb.cell d1
        go_wp2_with fail
        (go_ret; exact RB.mk (sv_bad (by decide)).symm (by repeat (first | assumption | exact Bl.refl _ | apply Bl.drewN | apply Bl.drew | apply Bl.alloc | (refine Bl.dr ?_ (by assumption)) | (refine Bl.trans ?_ (by assumption)))))
      · have k2 : (l.length : Int) < i := by omega
        clear k
        go_enter Tryz.func25, Tryz.ntmps25
        go_wp2_with fail
        refine (HC.out _ (HO.out.bl (by repeat (first | assumption | exact Bl.refl _ | apply Bl.drewN | apply Bl.drew | apply Bl.alloc | (refine Bl.dr ?_ (by assumption)) | (refine Bl.trans ?_ (by assumption)))))).mono ?_; rintro e w1 ⟨rfl, hb1⟩
        have hr : Mem w1 [(⟨w.heap.size, 0, none⟩, .int .i64 mo), (⟨w.heap.size, 1, none⟩, .slice (a) l.length c), (⟨w.heap.size + 1, 0, none⟩, .int .i64 (i)), (⟨w.heap.size + 1, 1, none⟩, .int .i64 (g))] := by
          refine Mem.bl ?_ hb1
          simp [Mem, go_sem]
        have hb : Bl w w1 := (by repeat (first | assumption | exact Bl.refl _ | apply Bl.drewN | apply Bl.drew | apply Bl.alloc | (refine Bl.dr ?_ (by assumption)) | (refine Bl.trans ?_ (by assumption))))
        clear hb1
        
        have hm := hr
        simp only [Mem, VE, List.cons_append, List.nil_append, and_true] at hm
        clear hr
        try have d0 := hb.cell d0
        try have d1 := hb.cell d1
        go_wp2_with fail
        (go_ret; exact RB.mk (sv_bad (by decide)).symm (by repeat (first | assumption | exact Bl.refl _ | apply Bl.drewN | apply Bl.drew | apply Bl.alloc | (refine Bl.dr ?_ (by assumption)) | (refine Bl.trans ?_ (by assumption)))))
    · obtain ⟨j, rfl⟩ : ∃ j : Nat, i = (j : Int) + 1 := ⟨(i - 1).toNat, by omega⟩
      have k2 : j < t.slots.length := by omega
      obtain ⟨z, hz⟩ : ∃ z, t.slots[j]? = some z := ⟨_, List.getElem?_eq_getElem k2⟩
      have lb := fun k1 : g < 1 => look_b (i := (j : Int) + 1) (g := g) e (.inr (.inr k1))
      have lc := fun k1 => look_c (g := g) e hz k1
      have ld := fun k1 => look_d (g := g) e hz k1
      have le := fun k1 => look_e (g := g) e hz k1
      obtain ⟨R, hR⟩ : ∃ R, tlook t ((j : Int) + 1, g) = R := ⟨_, rfl⟩
      rw [hR] at lb lc ld le ⊢
      have LB := Lib.hid lb
      have LC := Lib.hid lc
      have LD := Lib.hid ld
      have LE := Lib.hid le
      rw [e] at hC
      clear hR lb lc ld le e k
      have HC := Lib.hid hC
      have HO := Lib.hid h
      obtain ⟨mo, l⟩ := t
      have hs := h.slots
      have hc1 := h.len
      have hc2 := h.cap
      simp only at hs hc1
      unfold maxLen at hc2
      unfold Tb.v
      clear h hC
      simp only at hz k2 HC
      obtain ⟨b, off, rfl, hat⟩ := hs.get k2
      obtain ⟨d0, d1⟩ := hat j z hz
      have q1 : (0 : Int) ≤ (j : Int) := by omega
      have q2 : (j : Int) < (l.length : Int) := by omega
      have q3 : ¬ (j : Int) + 1 < 1 := by omega
      have q4 : ¬ (l.length : Int) < (j : Int) + 1 := by omega
      clear hat hz hs
      by_cases k1 : g < 1
      · have hr := LB.out k1
        subst hr
        go_enter Tryz.func25, Tryz.ntmps25
        go_wp2_with fail
        refine (HC.out _ (HO.out.bl (by repeat (first | assumption | exact Bl.refl _ | apply Bl.drewN | apply Bl.drew | apply Bl.alloc | (refine Bl.dr ?_ (by assumption)) | (refine Bl.trans ?_ (by assumption)))))).mono ?_; rintro e w1 ⟨rfl, hb1⟩
        have hr : Mem w1 [(⟨w.heap.size, 0, none⟩, .int .i64 mo), (⟨w.heap.size, 1, none⟩, .slice (some ⟨b, off, none⟩) l.length c), (⟨w.heap.size + 1, 0, none⟩, .int .i64 ((j : Int) + 1)), (⟨w.heap.size + 1, 1, none⟩, .int .i64 (g))] := by
          refine Mem.bl ?_ hb1
          simp [Mem, go_sem]
        have hb : Bl w w1 := (by repeat (first | assumption | exact Bl.refl _ | apply Bl.drewN | apply Bl.drew | apply Bl.alloc | (refine Bl.dr ?_ (by assumption)) | (refine Bl.trans ?_ (by assumption))))
        clear hb1
        have ha := hr.bl ((Bl.refl w1).alloc (Obj.cells #[.int .i64 z.gen, .bool z.used] 35))
        simp only [Mem, VE, List.cons_append, List.nil_append, and_true] at ha
        
        have hm := hr
        simp only [Mem, VE, List.cons_append, List.nil_append, and_true] at hm
        clear hr
        try have d0 := hb.cell d0
        try have d1 := hb.cell d1
        go_wp2_with fail
        (go_ret; exact RB.mk (sv_bad (by decide)).symm (by repeat (first | assumption | exact Bl.refl _ | apply Bl.drewN | apply Bl.drew | apply Bl.alloc | (refine Bl.dr ?_ (by assumption)) | (refine Bl.trans ?_ (by assumption)))))
      · by_cases c1 : z.gen < g
        · have hr := LC.out k1 c1
          subst hr
          go_enter Tryz.func25, Tryz.ntmps25
          go_wp2_with fail
          refine (HC.out _ (HO.out.bl (by repeat (first | assumption | exact Bl.refl _ | apply Bl.drewN | apply Bl.drew | apply Bl.alloc | (refine Bl.dr ?_ (by assumption)) | (refine Bl.trans ?_ (by assumption)))))).mono ?_; rintro e w1 ⟨rfl, hb1⟩
          have hr : Mem w1 [(⟨w.heap.size, 0, none⟩, .int .i64 mo), (⟨w.heap.size, 1, none⟩, .slice (some ⟨b, off, none⟩) l.length c), (⟨w.heap.size + 1, 0, none⟩, .int .i64 ((j : Int) + 1)), (⟨w.heap.size + 1, 1, none⟩, .int .i64 (g))] := by
            refine Mem.bl ?_ hb1
            simp [Mem, go_sem]
          have hb : Bl w w1 := (by repeat (first | assumption | exact Bl.refl _ | apply Bl.drewN | apply Bl.drew | apply Bl.alloc | (refine Bl.dr ?_ (by assumption)) | (refine Bl.trans ?_ (by assumption))))
          clear hb1
          have ha := hr.bl ((Bl.refl w1).alloc (Obj.cells #[.int .i64 z.gen, .bool z.used] 35))
          simp only [Mem, VE, List.cons_append, List.nil_append, and_true] at ha
          
          have hm := hr
          simp only [Mem, VE, List.cons_append, List.nil_append, and_true] at hm
          clear hr
          try have d0 := hb.cell d0
          try have d1 := hb.cell d1
          go_wp2_with fail
          (go_ret; exact RB.mk (sv_bad (by decide)).symm (by repeat (first | assumption | exact Bl.refl _ | apply Bl.drewN | apply Bl.drew | apply Bl.alloc | (refine Bl.dr ?_ (by assumption)) | (refine Bl.trans ?_ (by assumption)))))
        · by_cases c2 : g < z.gen
          · have hr := LD.out k1 c1 (.inl c2)
            subst hr
            go_enter Tryz.func25, Tryz.ntmps25
            go_wp2_with fail
            refine (HC.out _ (HO.out.bl (by repeat (first | assumption | exact Bl.refl _ | apply Bl.drewN | apply Bl.drew | apply Bl.alloc | (refine Bl.dr ?_ (by assumption)) | (refine Bl.trans ?_ (by assumption)))))).mono ?_; rintro e w1 ⟨rfl, hb1⟩
            have hr : Mem w1 [(⟨w.heap.size, 0, none⟩, .int .i64 mo), (⟨w.heap.size, 1, none⟩, .slice (some ⟨b, off, none⟩) l.length c), (⟨w.heap.size + 1, 0, none⟩, .int .i64 ((j : Int) + 1)), (⟨w.heap.size + 1, 1, none⟩, .int .i64 (g))] := by
              refine Mem.bl ?_ hb1
              simp [Mem, go_sem]
            have hb : Bl w w1 := (by repeat (first | assumption | exact Bl.refl _ | apply Bl.drewN | apply Bl.drew | apply Bl.alloc | (refine Bl.dr ?_ (by assumption)) | (refine Bl.trans ?_ (by assumption))))
            clear hb1
            have ha := hr.bl ((Bl.refl w1).alloc (Obj.cells #[.int .i64 z.gen, .bool z.used] 35))
            simp only [Mem, VE, List.cons_append, List.nil_append, and_true] at ha
            
            have hm := hr
            simp only [Mem, VE, List.cons_append, List.nil_append, and_true] at hm
            clear hr
            try have d0 := hb.cell d0
            try have d1 := hb.cell d1
            go_wp2_with fail
            (go_ret; exact RB.mk (sv_bad (by decide)).symm (by repeat (first | assumption | exact Bl.refl _ | apply Bl.drewN | apply Bl.drew | apply Bl.alloc | (refine Bl.dr ?_ (by assumption)) | (refine Bl.trans ?_ (by assumption)))))
          · cases c3 : z.used
            · have hr := LD.out k1 c1 (.inr c3)
              subst hr
              rw [c3] at d1
              go_enter Tryz.func25, Tryz.ntmps25
              go_wp2_with fail
              refine (HC.out _ (HO.out.bl (by repeat (first | assumption | exact Bl.refl _ | apply Bl.drewN | apply Bl.drew | apply Bl.alloc | (refine Bl.dr ?_ (by assumption)) | (refine Bl.trans ?_ (by assumption)))))).mono ?_; rintro e w1 ⟨rfl, hb1⟩
              have hr : Mem w1 [(⟨w.heap.size, 0, none⟩, .int .i64 mo), (⟨w.heap.size, 1, none⟩, .slice (some ⟨b, off, none⟩) l.length c), (⟨w.heap.size + 1, 0, none⟩, .int .i64 ((j : Int) + 1)), (⟨w.heap.size + 1, 1, none⟩, .int .i64 (g))] := by
                refine Mem.bl ?_ hb1
                simp [Mem, go_sem]
              have hb : Bl w w1 := (by repeat (first | assumption | exact Bl.refl _ | apply Bl.drewN | apply Bl.drew | apply Bl.alloc | (refine Bl.dr ?_ (by assumption)) | (refine Bl.trans ?_ (by assumption))))
              clear hb1
              have ha := hr.bl ((Bl.refl w1).alloc (Obj.cells #[.int .i64 z.gen, .bool false] 35))
              simp only [Mem, VE, List.cons_append, List.nil_append, and_true] at ha
              
              have hm := hr
              simp only [Mem, VE, List.cons_append, List.nil_append, and_true] at hm
              clear hr
              try have d0 := hb.cell d0
              try have d1 := hb.cell d1
              go_wp2_with fail
              (go_ret; exact RB.mk (sv_bad (by decide)).symm (by repeat (first | assumption | exact Bl.refl _ | apply Bl.drewN | apply Bl.drew | apply Bl.alloc | (refine Bl.dr ?_ (by assumption)) | (refine Bl.trans ?_ (by assumption)))))
            · have hr := LE.out k1 c1 c2 c3
              subst hr
              rw [c3] at d1
              go_enter Tryz.func25, Tryz.ntmps25
              go_wp2_with fail
              refine (HC.out _ (HO.out.bl (by repeat (first | assumption | exact Bl.refl _ | apply Bl.drewN | apply Bl.drew | apply Bl.alloc | (refine Bl.dr ?_ (by assumption)) | (refine Bl.trans ?_ (by assumption)))))).mono ?_; rintro e w1 ⟨rfl, hb1⟩
              have hr : Mem w1 [(⟨w.heap.size, 0, none⟩, .int .i64 mo), (⟨w.heap.size, 1, none⟩, .slice (some ⟨b, off, none⟩) l.length c), (⟨w.heap.size + 1, 0, none⟩, .int .i64 ((j : Int) + 1)), (⟨w.heap.size + 1, 1, none⟩, .int .i64 (g))] := by
                refine Mem.bl ?_ hb1
                simp [Mem, go_sem]
              have hb : Bl w w1 := (by repeat (first | assumption | exact Bl.refl _ | apply Bl.drewN | apply Bl.drew | apply Bl.alloc | (refine Bl.dr ?_ (by assumption)) | (refine Bl.trans ?_ (by assumption))))
              clear hb1
              have ha := hr.bl ((Bl.refl w1).alloc (Obj.cells #[.int .i64 z.gen, .bool true] 35))
              simp only [Mem, VE, List.cons_append, List.nil_append, and_true] at ha
              
              have hm := hr
              simp only [Mem, VE, List.cons_append, List.nil_append, and_true] at hm
              clear hr
              try have d0 := hb.cell d0
              try have d1 := hb.cell d1
              go_wp2_with fail
              (go_ret; exact RB.mk rfl (by repeat (first | assumption | exact Bl.refl _ | apply Bl.drewN | apply Bl.drew | apply Bl.alloc | (refine Bl.dr ?_ (by assumption)) | (refine Bl.trans ?_ (by assumption)))))
  · rw [look_a e]
    have e' : ((tchk t).2 != 0) = true := by simpa using e
    obtain ⟨q, hq⟩ : ∃ q, (tchk t).2 = q := ⟨_, rfl⟩
    obtain ⟨p, hp⟩ : ∃ p, (tchk t).1 = p := ⟨_, rfl⟩
    rw [hq] at e e' hC ⊢
    rw [hp] at hC
    have E := Lib.hid e
    clear hq hp e
    have HC := Lib.hid hC
    have HO := Lib.hid h
    obtain ⟨mo, l⟩ := t
    have hs := h.slots
    have hc1 := h.len
    have hc2 := h.cap
    simp only at hs hc1
    unfold maxLen at hc2
    unfold Tb.v
    clear h hC
    clear hs
    go_enter Tryz.func25, Tryz.ntmps25
    go_wp2_with fail
    refine (HC.out _ (HO.out.bl (by repeat (first | assumption | exact Bl.refl _ | apply Bl.drewN | apply Bl.drew | apply Bl.alloc | (refine Bl.dr ?_ (by assumption)) | (refine Bl.trans ?_ (by assumption)))))).mono ?_; rintro e w1 ⟨rfl, hb1⟩
    have hr : Mem w1 [(⟨w.heap.size, 0, none⟩, .int .i64 mo), (⟨w.heap.size, 1, none⟩, .slice (a) l.length c), (⟨w.heap.size + 1, 0, none⟩, .int .i64 (i)), (⟨w.heap.size + 1, 1, none⟩, .int .i64 (g))] := by
      refine Mem.bl ?_ hb1
      simp [Mem, go_sem]
    have hb : Bl w w1 := (by repeat (first | assumption | exact Bl.refl _ | apply Bl.drewN | apply Bl.drew | apply Bl.alloc | (refine Bl.dr ?_ (by assumption)) | (refine Bl.trans ?_ (by assumption))))
    clear hb1
    
    have hm := hr
    simp only [Mem, VE, List.cons_append, List.nil_append, and_true] at hm
    clear hr
    try have d0 := hb.cell d0
    try have d1 := hb.cell d1
    go_wp2_with fail
    (go_ret; exact RB.mk (sv_bad E.out).symm (by repeat (first | assumption | exact Bl.refl _ | apply Bl.drewN | apply Bl.drew | apply Bl.alloc | (refine Bl.dr ?_ (by assumption)) | (refine Bl.trans ?_ (by assumption)))))
theorem tlook_err (t : Tb) (h : Int × Int) : (tlook t h).2 ≠ 0 → (tlook t h).1 = 0 := by
  unfold tlook
  intro e
  split
  · rfl
  · split
    · rfl
    · split
      · rfl
      · split
        · rfl
        · rename_i h1 h2 h3 h4; rw [if_neg h1, if_neg h2, if_neg h3, if_neg h4] at e; exact absurd rfl e
theorem ta1 (x : Int) (w : World) : (Instr.typeAssert (.iface 3 (.int .i64 x)) 20 27 true).run Tryz.prog w = .ok (.tuple #[.int .i64 0, .bool false]) w := by kernel_rfl
theorem ta2 (x : Int) (w : World) : (Instr.typeAssert (.iface 27 (.int .i64 x)) 20 27 true).run Tryz.prog w = .ok (.tuple #[.int .i64 x, .bool true]) w := by kernel_rfl
theorem ta3 (x : Int) (w : World) : (Instr.typeAssert (.iface 3 (.int .i64 x)) 20 3 false).run Tryz.prog w = .ok (.int .i64 x) w := by kernel_rfl
theorem hnLook (a : Option Addr) (c : Nat) (t : Tb) (i g : Int) (w : World) (h : TOk w a c t) (hi : -9223372036854775808 ≤ i ∧ i ≤ 9223372036854775807) : Calls Tryz.prog 12 #[t.v a c, .agg #[.int .i64 i, .int .i64 g]] w (RB w (.tuple #[.int .i64 (tlook t (i, g)).1, .int .i64 (tlook t (i, g)).2])) := by
  have hS := fun w h => hnSought a c t i g w h hi
  have hz := tlook_err t (i, g)
  generalize tlook t (i, g) = R at *
  obtain ⟨x, e⟩ := R
  have HO := Lib.hid h
  obtain ⟨mo, l⟩ := t
  unfold Tb.v at *
  simp only at hS hz ⊢
  by_cases he : e = 0
  · subst he
    clear hz
    rw [sv_ok] at hS
    have HS := Lib.hid hS
    clear hS h hi
    have t1 := ta1
    have t2 := ta2
    have t3 := ta3
    go_enter Tryz.func12, Tryz.ntmps12
    go_wp2_with fail
    refine (HS.out _ (HO.out.bl (by repeat (first | assumption | exact Bl.refl _ | apply Bl.drewN | apply Bl.drew | apply Bl.alloc | (refine Bl.dr ?_ (by assumption)) | (refine Bl.trans ?_ (by assumption)))))).mono ?_; rintro e w1 ⟨rfl, hb1⟩
    go_wp2_with fail
    go_ret2
    exact rb_tup rfl rfl (by repeat (first | assumption | exact Bl.refl _ | apply Bl.drewN | apply Bl.drew | apply Bl.alloc | (refine Bl.dr ?_ (by assumption)) | (refine Bl.trans ?_ (by assumption))))
  · have hx : x = 0 := hz he
    subst hx
    clear hz
    rw [sv_bad he] at hS
    have HS := Lib.hid hS
    clear hS h hi
    have t1 := ta1
    have t2 := ta2
    have t3 := ta3
    go_enter Tryz.func12, Tryz.ntmps12
    go_wp2_with fail
    refine (HS.out _ (HO.out.bl (by repeat (first | assumption | exact Bl.refl _ | apply Bl.drewN | apply Bl.drew | apply Bl.alloc | (refine Bl.dr ?_ (by assumption)) | (refine Bl.trans ?_ (by assumption)))))).mono ?_; rintro e w1 ⟨rfl, hb1⟩
    go_wp2_with fail
    go_ret2
    exact rb_tup rfl rfl (by repeat (first | assumption | exact Bl.refl _ | apply Bl.drewN | apply Bl.drew | apply Bl.alloc | (refine Bl.dr ?_ (by assumption)) | (refine Bl.trans ?_ (by assumption))))
end Go.Proofs.YtidclkojekodpaaGreatDoor
