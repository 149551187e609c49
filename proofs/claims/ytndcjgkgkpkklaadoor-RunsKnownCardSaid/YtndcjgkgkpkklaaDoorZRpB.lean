/-
  Own texts laid together: RpB.
-/
import Derived.Test.YtndcjgkgkpkklaaDoorZn
/-
  The law RunsKnown.
-/
namespace Go.Proofs.YtndcjgkgkpkklaaDoor
open Go.RowKit
set_option linter.unusedSimpArgs false
set_option linter.unusedVariables false
set_option maxRecDepth 100000

set_option maxHeartbeats 16000000 in
theorem lawRunKnown (w : World) (hE : PEnv w) : Calls Tryd.prog 3 #[] w (RB w (.bool true)) := by
  have hG := fun a c w h => runGet a c exR ⟨#[98]⟩ w h (small_str (n := 3) _ (by decide) (by omega))
  rw [rk_G] at hG
  have hF1 := fun a c w h => runFloor a c exR ⟨#[99]⟩ false w h (small_str (n := 3) _ (by decide) (by omega))
  rw [rk_F1] at hF1
  have hF2 := fun a c w h => runFloor a c exR ⟨#[100]⟩ true w h (small_str (n := 3) _ (by decide) (by omega))
  rw [rk_F2] at hF2
  have hF3 := fun a c w h => runFloor a c exR ⟨#[65]⟩ false w h (small_str (n := 3) _ (by decide) (by omega))
  rw [rk_F3] at hF3
  have hC1 := fun a c w h => runCeiling a c exR ⟨#[99]⟩ true w h (small_str (n := 3) _ (by decide) (by omega))
  rw [rk_C1] at hC1
  have hC2 := fun a c w h => runCeiling a c exR ⟨#[102]⟩ false w h (small_str (n := 3) _ (by decide) (by omega))
  rw [rk_C2] at hC2
  simp only [Ent.v, exE2, exE3, ent0, mt] at hG hF1 hF2 hF3 hC1 hC2
  have hPt := fun a c w h => runPart a c exR rkB w h rkB_ok
  rw [rk_P] at hPt
  have hCt := fun a c w h => runCount a c exR rkB w h rkB_ok
  rw [rk_N] at hCt
  have hCv := fun a c w h => runCover a c exR w h
  rw [rk_V] at hCv
  have hPr := fun a c w h hE => runPrint a c ⟨7, [rkE]⟩ w h hE
  rw [rk_T] at hPr
  unfold Rng.v rkB at hPt hCt
  unfold Rng.v at hCv
  unfold Rn.v at hPr
  simp only [List.length_singleton] at hPr
  simp only at hPt hCt hCv
  have HX := Lib.hid (fun w => lawRunExample w)
  have HE := Lib.hid hE
  have HG := Lib.hid hG
  have HF1 := Lib.hid hF1
  have HF2 := Lib.hid hF2
  have HF3 := Lib.hid hF3
  have HC1 := Lib.hid hC1
  have HC2 := Lib.hid hC2
  have HPt := Lib.hid hPt
  have HCt := Lib.hid hCt
  have HCv := Lib.hid hCv
  have HPr := Lib.hid hPr
  clear hE hG hF1 hF2 hF3 hC1 hC2 hPt hCt hCv hPr
  go_enter Tryd.func3, Tryd.ntmps3
  go_wp2_with fail
  refine (HX.out _).mono ?_; rintro e w1 ⟨v, rfl, ⟨a, c, rfl, ho⟩, hb1⟩
  unfold Rn.v exR
  simp only
  obtain ⟨b, off, rfl, hat⟩ := ho.ents.get (k := 0) (by decide)
  have p2 := (hat 1 exE2 rfl)
  have p3 := (hat 2 exE3 rfl)
  have P := Lib.hid (And.intro p2 p3)
  clear p2 p3 hat ho
  have hb0 : Bl w w1 := hb1
  have hb : Bl w1 w1 := Bl.refl _
  have hm : Mem w1 [] := trivial
  clear hb1
  have hfl := fun v w => fld_es (.int .i64 7) v w
  go_wp2_with fail
  clear hfl
  refine (HX.out _).mono ?_; rintro e w2 ⟨v, rfl, ⟨a2, c2, rfl, ho⟩, hb1⟩
  have hm := hm.bl hb1
  have hb := hb.trans hb1
  clear hb1
  go_wp2_with fail
  refine (HG.out _ _ _ ho).mono ?_; rintro e w3 ⟨rfl, hb1⟩
  have hm := hm.bl hb1
  have hb := hb.trans hb1
  clear hb1 ho
  go_wp2_with fail
  refine (HX.out _).mono ?_; rintro e w4 ⟨v, rfl, ⟨a4, c4, rfl, ho⟩, hb1⟩
  have hm2 : Mem w4 (VE w3.heap.size ⟨⟨#[]⟩, ⟨#[]⟩, false, 0⟩) := (Mem.new4 w3 ⟨⟨#[]⟩, ⟨#[]⟩, false, 0⟩ _).bl hb1
  have hm := ((hm.alloc (Obj.cells #[.string ⟨#[]⟩, .string ⟨#[]⟩, .bool false, .int .i64 0] 27)).bl hb1).app hm2
  have hb := (hb.alloc (Obj.cells #[.string ⟨#[]⟩, .string ⟨#[]⟩, .bool false, .int .i64 0] 27)).trans hb1
  clear hb1 hm2
  go_wp2_with fail
  refine (HF1.out _ _ _ ho).mono ?_; rintro e w5 ⟨rfl, hb1⟩
  have hm := hm.bl hb1
  have hb := hb.trans hb1
  clear hb1 ho
  go_wp2_with fail
  refine (HX.out _).mono ?_; rintro e w6 ⟨v, rfl, ⟨a6, c6, rfl, ho⟩, hb1⟩
  have hm2 : Mem w6 (VE w5.heap.size ⟨⟨#[99]⟩, ⟨#[]⟩, true, 2⟩) := (Mem.new4 w5 ⟨⟨#[99]⟩, ⟨#[]⟩, true, 2⟩ _).bl hb1
  have hm := ((hm.alloc (Obj.cells #[.string ⟨#[99]⟩, .string ⟨#[]⟩, .bool true, .int .i64 2] 27)).bl hb1).app hm2
  have hb := (hb.alloc (Obj.cells #[.string ⟨#[99]⟩, .string ⟨#[]⟩, .bool true, .int .i64 2] 27)).trans hb1
  clear hb1 hm2
  go_wp2_with fail
  refine (HF2.out _ _ _ ho).mono ?_; rintro e w7 ⟨rfl, hb1⟩
  have hm := hm.bl hb1
  have hb := hb.trans hb1
  clear hb1 ho
  go_wp2_with fail
  refine (HX.out _).mono ?_; rintro e w8 ⟨v, rfl, ⟨a8, c8, rfl, ho⟩, hb1⟩
  have hm2 : Mem w8 (VE w7.heap.size ⟨⟨#[99]⟩, ⟨#[]⟩, true, 2⟩) := (Mem.new4 w7 ⟨⟨#[99]⟩, ⟨#[]⟩, true, 2⟩ _).bl hb1
  have hm := ((hm.alloc (Obj.cells #[.string ⟨#[99]⟩, .string ⟨#[]⟩, .bool true, .int .i64 2] 27)).bl hb1).app hm2
  have hb := (hb.alloc (Obj.cells #[.string ⟨#[99]⟩, .string ⟨#[]⟩, .bool true, .int .i64 2] 27)).trans hb1
  clear hb1 hm2
  go_wp2_with fail
  refine (HF3.out _ _ _ ho).mono ?_; rintro e w9 ⟨rfl, hb1⟩
  have hm := hm.bl hb1
  have hb := hb.trans hb1
  clear hb1 ho
  go_wp2_with fail
  refine (HX.out _).mono ?_; rintro e w10 ⟨v, rfl, ⟨a10, c10, rfl, ho⟩, hb1⟩
  have hm2 : Mem w10 (VE w9.heap.size ⟨⟨#[]⟩, ⟨#[]⟩, false, 0⟩) := (Mem.new4 w9 ⟨⟨#[]⟩, ⟨#[]⟩, false, 0⟩ _).bl hb1
  have hm := ((hm.alloc (Obj.cells #[.string ⟨#[]⟩, .string ⟨#[]⟩, .bool false, .int .i64 0] 27)).bl hb1).app hm2
  have hb := (hb.alloc (Obj.cells #[.string ⟨#[]⟩, .string ⟨#[]⟩, .bool false, .int .i64 0] 27)).trans hb1
  clear hb1 hm2
  go_wp2_with fail
  refine (HC1.out _ _ _ ho).mono ?_; rintro e w11 ⟨rfl, hb1⟩
  have hm := hm.bl hb1
  have hb := hb.trans hb1
  clear hb1 ho
  go_wp2_with fail
  refine (HX.out _).mono ?_; rintro e w12 ⟨v, rfl, ⟨a12, c12, rfl, ho⟩, hb1⟩
  have hm2 : Mem w12 (VE w11.heap.size ⟨⟨#[101]⟩, ⟨#[50]⟩, false, 3⟩) := (Mem.new4 w11 ⟨⟨#[101]⟩, ⟨#[50]⟩, false, 3⟩ _).bl hb1
  have hm := ((hm.alloc (Obj.cells #[.string ⟨#[101]⟩, .string ⟨#[50]⟩, .bool false, .int .i64 3] 27)).bl hb1).app hm2
  have hb := (hb.alloc (Obj.cells #[.string ⟨#[101]⟩, .string ⟨#[50]⟩, .bool false, .int .i64 3] 27)).trans hb1
  clear hb1 hm2
  go_wp2_with fail
  refine (HC2.out _ _ _ ho).mono ?_; rintro e w13 ⟨rfl, hb1⟩
  have hm := hm.bl hb1
  have hb := hb.trans hb1
  clear hb1 ho
  go_upto_region 8 with fail
  have hm2 : Mem (w13.alloc (Obj.cells #[.string ⟨#[]⟩, .string ⟨#[]⟩, .bool false, .int .i64 0] 27)) (VE w13.heap.size ⟨⟨#[]⟩, ⟨#[]⟩, false, 0⟩) := Mem.new4 w13 ⟨⟨#[]⟩, ⟨#[]⟩, false, 0⟩ _
  have hm := (hm.alloc (Obj.cells #[.string ⟨#[]⟩, .string ⟨#[]⟩, .bool false, .int .i64 0] 27)).app hm2
  have hb := hb.alloc (Obj.cells #[.string ⟨#[]⟩, .string ⟨#[]⟩, .bool false, .int .i64 0] 27)
  clear hm2
  obtain ⟨p2, p3⟩ := P.out
  obtain ⟨e0, e1, e2, e3⟩ := p2.bl hb
  obtain ⟨f0, f1, f2, f3⟩ := p3.bl hb
  simp only [Mem, VE, List.cons_append, List.nil_append, and_true] at hm
  simp only [exE2, exE3, Nat.one_mul] at e0 e1 e2 e3 f0 f1 f2 f3
  clear p2 p3 P
  go_quiet (fail)
  clear hm e0 e1 e2 e3 f0 f1 f2 f3
  go_upto_region 11 with fail
  generalize hwR : World.alloc _ (Obj.cells #[.string ⟨#[98]⟩, .string ⟨#[101]⟩, .bool true] _) = wR
  have hbR : Bl w wR := by rw [← hwR]; exact hb0.trans ((hb.drewN _).alloc _)
  have r0 : wR.cell? ⟨w13.heap.size + 1, 0, none⟩ = some (.string ⟨#[98]⟩) := by rw [← hwR]; simp [go_sem]
  have r1 : wR.cell? ⟨w13.heap.size + 1, 1, none⟩ = some (.string ⟨#[101]⟩) := by rw [← hwR]; simp [go_sem]
  have r2 : wR.cell? ⟨w13.heap.size + 1, 2, none⟩ = some (.bool true) := by rw [← hwR]; simp [go_sem]
  have HR := Lib.hid (fun w' (h : Bl wR w') => And.intro (h.cell r0) (And.intro (h.cell r1) (h.cell r2)))
  clear hwR hb hb0
  go_cut [15, 16, 3] (fun s1 s2 s3 wx => s1 = .int .i64 1 ∧ s2 = .int .i64 2 ∧ s3 = .int .i64 0 ∧ Bl wR wx)
  case first =>
    go_region_with ((first | (go_at_call 4; ((with_reducible refine (HX.out _).mono ?_); rintro e w2 ⟨v, rfl, ⟨a2, c2, rfl, ho⟩, hb2⟩; (have q := HR.out w2 (by repeat (first | assumption | exact Bl.refl _ | apply Bl.drewN | apply Bl.drew | apply Bl.alloc | (refine Bl.dr ?_ (by assumption)) | (refine Bl.trans ?_ (by assumption))))); obtain ⟨q0, q1, q2⟩ := q)) | (go_at_call 8; ((with_reducible refine (HPt.out _ _ _ (ho.bl (by repeat (first | assumption | exact Bl.refl _ | apply Bl.drewN | apply Bl.drew | apply Bl.alloc | (refine Bl.dr ?_ (by assumption)) | (refine Bl.trans ?_ (by assumption)))))).mono ?_); rintro e w3 ⟨rfl, hb3⟩))))
    all_goals go_wp2_with fail
    all_goals go_meet
    all_goals exact ⟨rfl, rfl, rfl, (by repeat (first | assumption | exact Bl.refl _ | apply Bl.drewN | apply Bl.drew | apply Bl.alloc | (refine Bl.dr ?_ (by assumption)) | (refine Bl.trans ?_ (by assumption))))⟩
  case rest =>
    obtain ⟨rfl, rfl, rfl, hc1⟩ := hcut
    obtain ⟨r0, r1, r2⟩ := HR.out _ hc1
    go_upto_region 12 with fail
    go_cut [17, 18, 5] (fun s1 s2 s3 wx => s1 = .int .i64 0 ∧ s2 = .int .i64 1 ∧ s3 = .int .i64 0 ∧ Bl wR wx)
    case first =>
      go_region_with ((first | (go_at_call 4; ((with_reducible refine (HX.out _).mono ?_); rintro e w2 ⟨v, rfl, ⟨a2, c2, rfl, ho⟩, hb2⟩; (have q := HR.out w2 (by repeat (first | assumption | exact Bl.refl _ | apply Bl.drewN | apply Bl.drew | apply Bl.alloc | (refine Bl.dr ?_ (by assumption)) | (refine Bl.trans ?_ (by assumption))))); obtain ⟨q0, q1, q2⟩ := q)) | (go_at_call 9; ((with_reducible refine (HCt.out _ _ _ (ho.bl (by repeat (first | assumption | exact Bl.refl _ | apply Bl.drewN | apply Bl.drew | apply Bl.alloc | (refine Bl.dr ?_ (by assumption)) | (refine Bl.trans ?_ (by assumption)))))).mono ?_); rintro e w3 ⟨rfl, hb3⟩))))
      all_goals go_wp2_with fail
      all_goals go_meet
      all_goals exact ⟨rfl, rfl, rfl, (by repeat (first | assumption | exact Bl.refl _ | apply Bl.drewN | apply Bl.drew | apply Bl.alloc | (refine Bl.dr ?_ (by assumption)) | (refine Bl.trans ?_ (by assumption))))⟩
    case rest =>
    obtain ⟨rfl, rfl, rfl, hc2⟩ := hcut
    clear r0 r1 r2 HR hc1
    go_wp2_with fail
    refine (HX.out _).mono ?_; rintro e w4 ⟨v, rfl, ⟨a4, c4, rfl, ho⟩, hb4⟩
    go_wp2_with fail
    refine (HCv.out _ _ _ ho).mono ?_; rintro e w5 ⟨rfl, hb5⟩
    have hc2 := hc2.trans (hb4.trans hb5)
    clear ho hb4 hb5
    have hM : Mem ((w5.alloc (.cells #[.string ⟨#[97]⟩, .string ⟨#[101, 0]⟩, .bool true] 33)).alloc (.cells #[.string ⟨#[99]⟩, .string ⟨#[]⟩, .bool true, .int .i64 5] 27)) (VE (w5.heap.size + 1) rkE) := by
      have h := Mem.new4 (w5.alloc (.cells #[.string ⟨#[97]⟩, .string ⟨#[101, 0]⟩, .bool true] 33)) rkE 27
      rw [show (w5.alloc (.cells #[.string ⟨#[97]⟩, .string ⟨#[101, 0]⟩, .bool true] 33)).heap.size = w5.heap.size + 1 by simp [go_sem]] at h
      exact h
    have hMO := Lib.hid (show ROk ((w5.alloc (.cells #[.string ⟨#[97]⟩, .string ⟨#[101, 0]⟩, .bool true] 33)).alloc (.cells #[.string ⟨#[99]⟩, .string ⟨#[]⟩, .bool true, .int .i64 5] 27)) (some ⟨w5.heap.size + 1, 0, none⟩) 1 ⟨7, [rkE]⟩ from ⟨rkE_ents _ _ hM, by decide, by unfold maxLen; omega, by decide, by decide⟩)
    clear hM
    go_upto_region 14 with fail
    go_wp2_with fail
    refine (HPr.out _ _ _ hMO.out (HE.out.bl (hbR.trans ((hc2.alloc _).alloc _)))).mono ?_; rintro e w6 ⟨rfl, hb6⟩
    have g0 : w6.cell? ⟨w5.heap.size, 0, none⟩ = some (.string ⟨#[97]⟩) := hb6.cell (by simp [go_sem])
    have g1 : w6.cell? ⟨w5.heap.size, 1, none⟩ = some (.string ⟨#[101, 0]⟩) := hb6.cell (by simp [go_sem])
    have g2 : w6.cell? ⟨w5.heap.size, 2, none⟩ = some (.bool true) := hb6.cell (by simp [go_sem])
    have hbF := hbR.trans (((hc2.alloc _).alloc _).trans hb6)
    clear hMO
    go_wp2_with fail
    refine (lawRunAwake _).mono ?_; rintro e w7 ⟨rfl, hb7⟩
    go_wp2_with fail
    go_ret
    exact RB.mk rfl (hbF.trans hb7)
end Go.Proofs.YtndcjgkgkpkklaaDoor
