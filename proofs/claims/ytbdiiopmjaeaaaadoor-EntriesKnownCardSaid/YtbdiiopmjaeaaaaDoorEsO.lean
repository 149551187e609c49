
/-
  awake of the entries' laws.
-/
import Derived.Test.YtbdiiopmjaeaaaaDoorEsN
import Derived.Deep.RegionHeld3
namespace Go.Proofs.YtbdiiopmjaeaaaaDoor
open Go.RowKit Go.Sort
set_option linter.unusedSimpArgs false
set_option linter.unusedVariables false
set_option maxRecDepth 100000

theorem small_s {n : Nat} (s : ByteArray) (h : s.size ≤ n) (hn : n ≤ 1000) : s.size ≤ maxLen := Nat.le_trans h (by unfold maxLen; omega)
theorem xA_ok : xA.ok := ⟨small_s (n := 3) _ (by decide) (by omega), small_s (n := 3) _ (by decide) (by omega), by decide, by decide⟩
theorem xB_ok : xB.ok := ⟨small_s (n := 3) _ (by decide) (by omega), small_s (n := 3) _ (by decide) (by omega), by decide, by decide⟩
theorem xC_ok : xC.ok := ⟨small_s (n := 3) _ (by decide) (by omega), small_s (n := 3) _ (by decide) (by omega), by decide, by decide⟩
theorem ev_cmp : ecmp xA xB = (1, 0) := by kernel_rfl
theorem ev_wins : ewins xA xB = (xB, 0) := by kernel_rfl
theorem ev_new : enewest [xA, xB, xC] = ([xB, xC], 0) := by kernel_rfl
def txtBC : ByteArray := ⟨#[100, 101, 108, 32, 34, 97, 34, 32, 55, 10, 112, 117, 116, 32, 34, 98, 34, 32, 34, 50, 34, 32, 54, 10]⟩
theorem ev_print : (eprint [xB, xC]).1.toArray = txtBC.data ∧ (eprint [xB, xC]).2 = 0 := ⟨by kernel_rfl, by kernel_rfl⟩
theorem ents3 (W : World) (n : Nat) (hn : W.heap.size = n) (x y z : Ent) (hx : x.ok) (hy : y.ok) (hz : z.ok) : Ents (W.alloc (.cells #[.string x.key, .string x.val, .bool x.dead, .int .i64 x.seq, .string y.key, .string y.val, .bool y.dead, .int .i64 y.seq, .string z.key, .string z.val, .bool z.dead, .int .i64 z.seq] 23)) (some ⟨n, 0, none⟩) [x, y, z] := by
  subst hn
  refine ⟨by intro z hz; simp at hz; rcases hz with rfl | rfl | rfl <;> assumption, fun _ => ⟨_, 0, rfl, fun i u hu => ?_⟩⟩
  match i, hu with
  | 0, hz => simp at hz; subst hz; constructor <;> simp [go_sem]
  | 1, hz => simp at hz; subst hz; constructor <;> simp [go_sem]
  | 2, hz => simp at hz; subst hz; constructor <;> simp [go_sem]
set_option maxHeartbeats 8000000 in
theorem awakeE (w : World) (hE : PEnv w) : Calls Tryd.prog 11 #[] w (RB w (.bool true)) := by
  have hA := fun w => lawA w
  have hB := fun w => lawB w
  have hC := fun w => lawC w
  have hCmp := fun w => entCompare xA xB w xA_ok xB_ok
  have hWin := fun w => entWins xA xB w xA_ok xB_ok
  have hNew := fun a w h => entNewest a 3 [xA, xB, xC] w h (by unfold maxLen; simp)
  have hPr := fun a w h hP => entPrint a 2 [xB, xC] w h (by unfold maxLen; simp) hP
  have hE3 := fun W n hn => ents3 W n hn xA xB xC xA_ok xB_ok xC_ok
  have hE2 := fun W n hn => ents2 W n hn xB xC xB_ok xC_ok
  have hSm : ∀ a c b w, Ents w a [xB, xC] → Ents w b [xB, xC] → Calls Tryd.prog 21 #[.slice a 2 c, .slice b 2 2] w (RB w (.bool true)) := fun a c b w h k => by
    have := refSameE a b c 2 [xB, xC] [xB, xC] w h k (by unfold maxLen; simp) (by unfold maxLen; simp)
    rw [decide_eq_true rfl] at this; exact this
  have hTx : ((⟨#[100, 101, 108, 32, 34, 97, 34, 32, 55, 10, 112, 117, 116, 32, 34, 98, 34, 32, 34, 50, 34, 32, 54, 10]⟩ : ByteArray).toList == (⟨#[100, 101, 108, 32, 34, 97, 34, 32, 55, 10, 112, 117, 116, 32, 34, 98, 34, 32, 34, 50, 34, 32, 54, 10]⟩ : ByteArray).toList) = true := by rw [beq_iff_eq]
  have hT1 : ((⟨#[97]⟩ : ByteArray).toList == (⟨#[97]⟩ : ByteArray).toList) = true := by rw [beq_iff_eq]
  have hT2 : ((⟨#[]⟩ : ByteArray).toList == (⟨#[]⟩ : ByteArray).toList) = true := by rw [beq_iff_eq]
  rw [ev_cmp] at hCmp
  rw [ev_wins] at hWin
  rw [ev_new] at hNew
  rw [ev_print.1, ev_print.2] at hPr
  unfold txtBC at hPr
  have HNew := Lib.hid hNew
  have HSm := Lib.hid hSm
  have HPr := Lib.hid hPr
  have HP := Lib.hid hE
  have hB0 := Lib.hid hE3
  have hB1 := Lib.hid hE2
  simp only [xA, xB, xC, Ent.v] at hA hB hC hCmp hWin hE3 hE2
  have HA := Lib.hid hA
  have HB := Lib.hid hB
  have HC := Lib.hid hC
  have HCm := Lib.hid hCmp
  have HWi := Lib.hid hWin
  have HE3 := Lib.hid hE3
  have HE2 := Lib.hid hE2
  clear hA hB hC hCmp hWin hNew hPr hE3 hE2 hSm hE
  go_enter Tryd.func11, Tryd.ntmps11
  go_wp2_with fail
  refine (HA.out _).mono ?_; rintro e w1 ⟨rfl, hb1⟩
  go_wp2_with fail
  refine (HB.out _).mono ?_; rintro e w2 ⟨rfl, hb2⟩
  go_wp2_with fail
  refine (HCm.out _).mono ?_; rintro e w3 ⟨rfl, hb3⟩
  have hb := (hb1.trans hb2).trans hb3
  clear hb1 hb2 hb3
  go_wp2_with fail
  refine (HA.out _).mono ?_; rintro e w4 ⟨rfl, hb4⟩
  go_wp2_with fail
  refine (HB.out _).mono ?_; rintro e w5 ⟨rfl, hb5⟩
  go_wp2_with fail
  refine (HWi.out _).mono ?_; rintro e w6 ⟨rfl, hb6⟩
  have hb := ((hb.trans hb4).trans hb5).trans hb6
  clear hb4 hb5 hb6
  obtain ⟨W0, hW0⟩ : ∃ z, w6.alloc (.cells #[.string ⟨#[97]⟩, .string ⟨#[]⟩, .bool true, .int .i64 7] 23) = z := ⟨_, rfl⟩
  obtain ⟨G, hG⟩ : ∃ z, w6.heap.size = z := ⟨_, rfl⟩
  have hbW : Bl w W0 := hW0 ▸ hb.alloc _
  have m0 : W0.cell? ⟨G, 0, none⟩ = some (.string ⟨#[97]⟩) := by rw [← hW0, ← hG]; simp [go_sem]
  have m1 : W0.cell? ⟨G, 1, none⟩ = some (.string ⟨#[]⟩) := by rw [← hW0, ← hG]; simp [go_sem]
  have m2 : W0.cell? ⟨G, 2, none⟩ = some (.bool true) := by rw [← hW0, ← hG]; simp [go_sem]
  have m3 : W0.cell? ⟨G, 3, none⟩ = some (.int .i64 7) := by rw [← hW0, ← hG]; simp [go_sem]
  have HM := Lib.hid (And.intro m0 (And.intro m1 (And.intro m2 m3)))
  have HWG := Lib.hid (And.intro hW0 hG)
  clear m0 m1 m2 m3 hb hW0 hG
  go_wp2_with fail
  rw [HWG.out.1, HWG.out.2]
  refine (HA.out _).mono ?_; rintro e w7 ⟨rfl, hb7⟩
  go_wp2_with fail
  refine (HB.out _).mono ?_; rintro e w8 ⟨rfl, hb8⟩
  go_wp2_with fail
  refine (HC.out _).mono ?_; rintro e w9 ⟨rfl, hb9⟩
  have hb9 := (hb7.trans hb8).trans hb9
  clear hb7 hb8
  go_wp2_with fail
  refine (HNew.out _ _ (HE3.out _ _ rfl)).mono ?_; rintro e w10 ⟨v, rfl, ⟨s, rfl, hO⟩, hb10⟩
  obtain ⟨a, c, rfl, hS, hc1, hc2⟩ := hO.ents (by intro z hz; simp at hz; rcases hz with rfl | rfl; exact xB_ok; exact xC_ok)
  have hb10 : Bl W0 w10 := (hb9.alloc _).trans hb10
  have HS := Lib.hid hS
  clear hS hb9 hO
  go_wp2_with fail
  refine (HB.out _).mono ?_; rintro e w11 ⟨rfl, hb11⟩
  go_wp2_with fail
  refine (HC.out _).mono ?_; rintro e w12 ⟨rfl, hb12⟩
  go_wp2_with fail
  refine (HPr.out _ _ (HE2.out _ _ rfl) (HP.out.bl (hbW.trans ((hb10.trans (hb11.trans hb12)).alloc _)))).mono ?_; rintro e w13 ⟨rfl, hb13⟩
  have hq : Bl w10 w13 := ((hb11.trans hb12).alloc _).trans hb13
  have hS2 := HS.out.bl hq
  have hbq : Bl W0 w13 := hb10.trans hq
  obtain ⟨m0, m1, m2, m3⟩ := HM.out
  have n0 := hbq.cell m0
  have n1 := hbq.cell m1
  have n2 := hbq.cell m2
  have n3 := hbq.cell m3
  have HKF := Lib.hid (fun W (h : Bl w13 W) => (show Bl w13 W ∧ W.cell? ⟨G, 0, none⟩ = some (.string ⟨#[97]⟩) ∧ W.cell? ⟨G, 1, none⟩ = some (.string ⟨#[]⟩) ∧ W.cell? ⟨G, 2, none⟩ = some (.bool true) ∧ W.cell? ⟨G, 3, none⟩ = some (.int .i64 7) from ⟨h, h.cell n0, h.cell n1, h.cell n2, h.cell n3⟩))
  have HS3 := Lib.hid hS2
  have hbw : Bl w w13 := hbW.trans hbq
  clear hS2 hbW hbq hq hb10 hb11 hb12 hb13 n0 n1 n2 n3 m0 m1 m2 m3
  go_wp2_with fail
  go_region_held3 (fun w' => (Bl w13 w' ∧ w'.cell? ⟨G, 0, none⟩ = some (.string ⟨#[97]⟩) ∧ w'.cell? ⟨G, 1, none⟩ = some (.string ⟨#[]⟩) ∧ w'.cell? ⟨G, 2, none⟩ = some (.bool true) ∧ w'.cell? ⟨G, 3, none⟩ = some (.int .i64 7))) (exact HKF.out _ (by repeat (first | assumption | exact Bl.refl _ | apply Bl.drewN | apply Bl.drew | apply Bl.alloc | (refine Bl.dr ?_ (by assumption)) | (refine Bl.trans ?_ (by assumption)))))
    (first
    | (go_at_call 34; refine (HB.out _).mono ?_; rintro e w21 ⟨rfl, hb21⟩)
    | (go_at_call 33; refine (HC.out _).mono ?_; rintro e w22 ⟨rfl, hb22⟩)
    | (go_at_call 21; refine (HSm.out _ _ _ _ (HS3.out.bl (by repeat (first | assumption | exact Bl.refl _ | apply Bl.drewN | apply Bl.drew | apply Bl.alloc | (refine Bl.dr ?_ (by assumption)) | (refine Bl.trans ?_ (by assumption))))) (HE2.out _ _ (by first | rfl | simp))).mono ?_; rintro e w23 ⟨rfl, hb23⟩))
  all_goals go_wp2_with fail
  all_goals go_ret
  all_goals exact RB.mk rfl (Bl.trans hbw (by repeat (first | assumption | exact Bl.refl _ | apply Bl.drewN | apply Bl.drew | apply Bl.alloc | (refine Bl.dr ?_ (by assumption)) | (refine Bl.trans ?_ (by assumption)))))
end Go.Proofs.YtbdiiopmjaeaaaaDoor
