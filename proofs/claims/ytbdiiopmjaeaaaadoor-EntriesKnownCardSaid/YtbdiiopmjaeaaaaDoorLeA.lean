
/-
  The law EntriesPairs walked.
-/
import Derived.Test.YtbdiiopmjaeaaaaDoorEsO
namespace Go.Proofs.YtbdiiopmjaeaaaaDoor
open Go.RowKit Go.Sort
set_option linter.unusedSimpArgs false
set_option linter.unusedVariables false
set_option maxRecDepth 100000

def elarge (x : Ent) : Bool := decide (100 < x.key.size) || decide (100 < x.val.size)
set_option maxHeartbeats 1000000 in
theorem lawLarge (x : Ent) (w : World) : Calls Tryd.prog 10 #[x.v] w (RB w (.bool (elarge x))) := by
  unfold elarge Ent.v
  by_cases h1 : 100 < x.key.size
  · rw [decide_eq_true h1, Bool.true_or]
    have i1 : (100 : Int) < (x.key.size : Int) := by omega
    clear h1
    go_enter Tryd.func10, Tryd.ntmps10
    go_wp2_with fail
    go_ret
    exact RB.mk rfl (by repeat (first | assumption | exact Bl.refl _ | apply Bl.drewN | apply Bl.drew | apply Bl.alloc | (refine Bl.dr ?_ (by assumption)) | (refine Bl.trans ?_ (by assumption))))
  · rw [decide_eq_false h1, Bool.false_or]
    have i1 : ¬ (100 : Int) < (x.key.size : Int) := by omega
    clear h1
    by_cases h2 : 100 < x.val.size
    · rw [decide_eq_true h2]
      have i2 : (100 : Int) < (x.val.size : Int) := by omega
      clear h2
      go_enter Tryd.func10, Tryd.ntmps10
      go_wp2_with fail
      go_ret
      exact RB.mk rfl (by repeat (first | assumption | exact Bl.refl _ | apply Bl.drewN | apply Bl.drew | apply Bl.alloc | (refine Bl.dr ?_ (by assumption)) | (refine Bl.trans ?_ (by assumption))))
    · rw [decide_eq_false h2]
      have i2 : ¬ (100 : Int) < (x.val.size : Int) := by omega
      clear h2
      go_enter Tryd.func10, Tryd.ntmps10
      go_wp2_with fail
      go_ret
      exact RB.mk rfl (by repeat (first | assumption | exact Bl.refl _ | apply Bl.drewN | apply Bl.drew | apply Bl.alloc | (refine Bl.dr ?_ (by assumption)) | (refine Bl.trans ?_ (by assumption))))
set_option maxHeartbeats 8000000 in
theorem lawPairs (x y : Ent) (w : World) (hx : x.ok) (hy : y.ok) (hE : PEnv w) : Calls Tryd.prog 3 #[x.v, y.v] w (RB w (.bool true)) := by
  have hLx := fun w => lawLarge x w
  have hLy := fun w => lawLarge y w
  have hAw := fun w h => awakeE w h
  have hCm := fun w => entCompare x y w hx hy
  have hRm := fun w => refCompareE x y w hx hy
  have hWi := fun w => entWins x y w hx hy
  have hRw := fun w => refWinsE x y w hx hy
  have hCk := fun w => entCheck x w hx
  have hRk := fun w => refEntCheck x w hx
  obtain ⟨lx, hlx⟩ : ∃ b, elarge x = b := ⟨_, rfl⟩
  obtain ⟨ly, hly⟩ : ∃ b, elarge y = b := ⟨_, rfl⟩
  obtain ⟨n, hn⟩ : ∃ b, ecmp x y = b := ⟨_, rfl⟩
  obtain ⟨z, hz⟩ : ∃ b, ewins x y = b := ⟨_, rfl⟩
  obtain ⟨q, hq⟩ : ∃ b, echk x = b := ⟨_, rfl⟩
  rw [hlx] at hLx
  rw [hly] at hLy
  rw [hn] at hCm hRm
  rw [hz] at hWi hRw
  rw [hq] at hCk hRk
  obtain ⟨n, e⟩ := n
  obtain ⟨⟨zk, zv, zd, zs⟩, f⟩ := z
  unfold Ent.v at *
  simp only at hCm hRm hWi hRw
  have HLx := Lib.hid hLx
  have HLy := Lib.hid hLy
  have HAw := Lib.hid hAw
  have HCm := Lib.hid hCm
  have HRm := Lib.hid hRm
  have HWi := Lib.hid hWi
  have HRw := Lib.hid hRw
  have HCk := Lib.hid hCk
  have HRk := Lib.hid hRk
  have HE := Lib.hid hE
  clear hLx hLy hAw hCm hRm hWi hRw hCk hRk hlx hly hn hz hq hx hy hE
  cases lx with
  | true =>
    go_enter Tryd.func3, Tryd.ntmps3
    go_wp2_with fail
    refine (HLx.out _).mono ?_; rintro ee w1 ⟨rfl, hb1⟩
    have hb : Bl w w1 := (by repeat (first | assumption | exact Bl.refl _ | apply Bl.drewN | apply Bl.drew | apply Bl.alloc | (refine Bl.dr ?_ (by assumption)) | (refine Bl.trans ?_ (by assumption))))
    clear hb1
    go_wp2_with fail
    refine (HAw.out _ (HE.out.bl hb)).mono ?_; rintro ee w2 ⟨rfl, hb2⟩
    go_wp2_with fail
    go_ret
    exact RB.mk rfl (hb.trans hb2)
  | false =>
    cases ly with
    | true =>
      go_enter Tryd.func3, Tryd.ntmps3
      go_wp2_with fail
      refine (HLx.out _).mono ?_; rintro ee w1 ⟨rfl, hb1⟩
      
      have c0 : World.cell? w1 ⟨w.heap.size, 0, none⟩ = some (.string x.key) := hb1.cell (by simp [go_sem])
      have c1 : World.cell? w1 ⟨w.heap.size, 1, none⟩ = some (.string x.val) := hb1.cell (by simp [go_sem])
      have c2 : World.cell? w1 ⟨w.heap.size, 2, none⟩ = some (.bool x.dead) := hb1.cell (by simp [go_sem])
      have c3 : World.cell? w1 ⟨w.heap.size, 3, none⟩ = some (.int .i64 x.seq) := hb1.cell (by simp [go_sem])
      have d0 : World.cell? w1 ⟨w.heap.size + 1, 0, none⟩ = some (.string y.key) := hb1.cell (by simp [go_sem])
      have d1 : World.cell? w1 ⟨w.heap.size + 1, 1, none⟩ = some (.string y.val) := hb1.cell (by simp [go_sem])
      have d2 : World.cell? w1 ⟨w.heap.size + 1, 2, none⟩ = some (.bool y.dead) := hb1.cell (by simp [go_sem])
      have d3 : World.cell? w1 ⟨w.heap.size + 1, 3, none⟩ = some (.int .i64 y.seq) := hb1.cell (by simp [go_sem])
      have hb : Bl w w1 := (by repeat (first | assumption | exact Bl.refl _ | apply Bl.drewN | apply Bl.drew | apply Bl.alloc | (refine Bl.dr ?_ (by assumption)) | (refine Bl.trans ?_ (by assumption))))
      clear hb1
      go_wp2_with fail
      refine (HLy.out _).mono ?_; rintro ee w2 ⟨rfl, hb2⟩
      have hb := hb.trans hb2
      clear hb2 c0 c1 c2 c3 d0 d1 d2 d3
      go_wp2_with fail
      refine (HAw.out _ (HE.out.bl hb)).mono ?_; rintro ee w3 ⟨rfl, hb3⟩
      go_wp2_with fail
      go_ret
      exact RB.mk rfl (hb.trans hb3)
    | false =>
      go_enter Tryd.func3, Tryd.ntmps3
      go_wp2_with fail
      obtain ⟨W0, hW0⟩ : ∃ z, ((w.alloc (.cells #[.string x.key, .string x.val, .bool x.dead, .int .i64 x.seq] 23)).alloc (.cells #[.string y.key, .string y.val, .bool y.dead, .int .i64 y.seq] 23)) = z := ⟨_, rfl⟩
      have hb0 : Bl w W0 := hW0 ▸ (((Bl.refl w).alloc _).alloc _)
      have hm : Mem W0 (VE w.heap.size x ++ VE (w.heap.size + 1) y) := by rw [← hW0]; simp [Mem, VE, go_sem]
      have hz0 : w.heap.size + 2 ≤ W0.heap.size := by rw [← hW0]; simp
      have HM := Lib.hid hm
      rw [hW0]
      clear hW0 hm
      refine (HLx.out _).mono ?_; rintro ee w1 ⟨rfl, hb1⟩
      
      have hm := HM.out.bl hb1
      simp only [Mem, VE, List.cons_append, List.nil_append, and_true] at hm
      go_wp2_with fail
      refine (HLy.out _).mono ?_; rintro ee w2 ⟨rfl, hb2⟩
      have hb2 := hb1.trans hb2
      clear hb1 hm
      
      have hm := HM.out.bl hb2
      simp only [Mem, VE, List.cons_append, List.nil_append, and_true] at hm
      go_wp2_with fail
      refine (HCm.out _).mono ?_; rintro ee w3 ⟨rfl, hb3⟩
      have hb3 := hb2.trans hb3
      clear hb2 hm
      
      have hm := HM.out.bl hb3
      simp only [Mem, VE, List.cons_append, List.nil_append, and_true] at hm
      go_wp2_with fail
      refine (HRm.out _).mono ?_; rintro ee w4 ⟨rfl, hb4⟩
      have hb4 := hb3.trans hb4
      clear hb3 hm
      
      have hm := HM.out.bl hb4
      simp only [Mem, VE, List.cons_append, List.nil_append, and_true] at hm
      go_wp2_with fail
      refine (HWi.out _).mono ?_; rintro ee w5 ⟨rfl, hb5⟩
      have hb5 := hb4.trans hb5
      clear hb4 hm
      have hal := (Bl.refl w5).alloc (Obj.cells #[.string zk, .string zv, .bool zd, .int .i64 zs] 23)
      have HZ := Lib.hid (Mem.new4 w5 ⟨zk, zv, zd, zs⟩ 23)
      have hb6 := hb5.trans hal
      
      have hm := HM.out.bl hb6
      simp only [Mem, VE, List.cons_append, List.nil_append, and_true] at hm
      go_wp2_with fail
      refine (HRw.out _).mono ?_; rintro ee w6 ⟨rfl, hb7⟩
      have hz1 := HZ.out.bl hb7
      have hb8 := hb6.trans hb7
      have s5 := hb5.size
      have s6 := hb7.size
      simp only [World.size_alloc] at s6
      obtain ⟨W1, hW1⟩ : ∃ z, w6.alloc (Obj.cells #[.string zk, .string zv, .bool zd, .int .i64 zs] 23) = z := ⟨_, rfl⟩
      obtain ⟨G, hG⟩ : ∃ z, w6.heap.size = z := ⟨_, rfl⟩
      obtain ⟨G5, hG5⟩ : ∃ z, w5.heap.size = z := ⟨_, rfl⟩
      have hall : Mem W1 (VE w.heap.size x ++ VE G5 ⟨zk, zv, zd, zs⟩ ++ VE G ⟨zk, zv, zd, zs⟩) := by
        rw [← hW1, ← hG, ← hG5]
        exact (((HM.out.left).bl hb8).app hz1).alloc _ |>.app (Mem.new4 w6 ⟨zk, zv, zd, zs⟩ 23)
      have hbw : Bl w W1 := hW1 ▸ ((hb0.trans hb8).alloc _)
      have HAll := Lib.hid hall
      have hk := hall
      simp only [Mem, VE, List.cons_append, List.nil_append, and_true] at hk
      obtain ⟨a0, -, a1, -, a2, -, a3, -, b0, -, b1, -, b2, -, b3, -, c0, -, c1, -, c2, -, c3, -⟩ := hk
      have HKF := Lib.hid (fun W (h : Bl W1 W) => (show Bl W1 W ∧ (W.cell? ⟨w.heap.size, 0, none⟩ = some (.string x.key) ∧ W.cell? ⟨w.heap.size, 1, none⟩ = some (.string x.val) ∧ W.cell? ⟨w.heap.size, 2, none⟩ = some (.bool x.dead) ∧ W.cell? ⟨w.heap.size, 3, none⟩ = some (.int .i64 x.seq)) ∧ (W.cell? ⟨G5, 0, none⟩ = some (.string zk) ∧ W.cell? ⟨G5, 1, none⟩ = some (.string zv) ∧ W.cell? ⟨G5, 2, none⟩ = some (.bool zd) ∧ W.cell? ⟨G5, 3, none⟩ = some (.int .i64 zs)) ∧ (W.cell? ⟨G, 0, none⟩ = some (.string zk) ∧ W.cell? ⟨G, 1, none⟩ = some (.string zv) ∧ W.cell? ⟨G, 2, none⟩ = some (.bool zd) ∧ W.cell? ⟨G, 3, none⟩ = some (.int .i64 zs)) from ⟨h, ⟨h.cell a0, h.cell a1, h.cell a2, h.cell a3⟩, ⟨h.cell b0, h.cell b1, h.cell b2, h.cell b3⟩, h.cell c0, h.cell c1, h.cell c2, h.cell c3⟩))
      have HWG := Lib.hid (And.intro hW1 (And.intro hG hG5))
      have y1 : (zk.toList == zk.toList) = true := by simp
      have y2 : (zv.toList == zv.toList) = true := by simp
      clear hall hb5 hb6 hb7 hb8 hal hz1 hm hW1 hG hG5 hb0 hz0 s5 s6 a0 a1 a2 a3 b0 b1 b2 b3 c0 c1 c2 c3
      go_wp2_with fail
      rw [HWG.out.1, HWG.out.2.1, HWG.out.2.2]
      go_region_held3 (fun w' => (Bl W1 w' ∧ (w'.cell? ⟨w.heap.size, 0, none⟩ = some (.string x.key) ∧ w'.cell? ⟨w.heap.size, 1, none⟩ = some (.string x.val) ∧ w'.cell? ⟨w.heap.size, 2, none⟩ = some (.bool x.dead) ∧ w'.cell? ⟨w.heap.size, 3, none⟩ = some (.int .i64 x.seq)) ∧ (w'.cell? ⟨G5, 0, none⟩ = some (.string zk) ∧ w'.cell? ⟨G5, 1, none⟩ = some (.string zv) ∧ w'.cell? ⟨G5, 2, none⟩ = some (.bool zd) ∧ w'.cell? ⟨G5, 3, none⟩ = some (.int .i64 zs)) ∧ (w'.cell? ⟨G, 0, none⟩ = some (.string zk) ∧ w'.cell? ⟨G, 1, none⟩ = some (.string zv) ∧ w'.cell? ⟨G, 2, none⟩ = some (.bool zd) ∧ w'.cell? ⟨G, 3, none⟩ = some (.int .i64 zs)))) (exact HKF.out _ (by repeat (first | assumption | exact Bl.refl _ | apply Bl.drewN | apply Bl.drew | apply Bl.alloc | (refine Bl.dr ?_ (by assumption)) | (refine Bl.trans ?_ (by assumption)))))
        (first
        | (go_at_call 16; refine (HCk.out _).mono ?_; rintro e w21 ⟨rfl, hb21⟩)
        | (go_at_call 17; refine (HRk.out _).mono ?_; rintro e w22 ⟨rfl, hb22⟩)
        | (go_at_call 11; refine (HAw.out _ (HE.out.bl (Bl.trans hbw (by repeat (first | assumption | exact Bl.refl _ | apply Bl.drewN | apply Bl.drew | apply Bl.alloc | (refine Bl.dr ?_ (by assumption)) | (refine Bl.trans ?_ (by assumption))))))).mono ?_; rintro e w23 ⟨rfl, hb23⟩))
      all_goals go_wp2_with fail
      all_goals go_ret
      all_goals exact RB.mk rfl (Bl.trans hbw (by repeat (first | assumption | exact Bl.refl _ | apply Bl.drewN | apply Bl.drew | apply Bl.alloc | (refine Bl.dr ?_ (by assumption)) | (refine Bl.trans ?_ (by assumption)))))
end Go.Proofs.YtbdiiopmjaeaaaaDoor
