/-
  The law FenceKnown, walked.
-/
import Derived.Test.YteafcbpogomioaaFnP
import Derived.Deep.RegionHeld3
namespace Go.Proofs.Yteafcbpogomioaa
open Go.RowKit
set_option linter.unusedSimpArgs false
set_option linter.unusedVariables false

abbrev knK : Array Value := #[.string ⟨#[97, 97]⟩, .string ⟨#[97, 122, 122]⟩, .string ⟨#[98]⟩, .string ⟨#[98, 99, 100]⟩, .string ⟨#[98, 99, 101]⟩, .string ⟨#[122]⟩]
abbrev knB : Array Value := #[.int .i64 0, .int .i64 0, .int .i64 1, .int .i64 1, .int .i64 2, .int .i64 2]
theorem kn_get : ∀ k : Nat, k < 6 → ∃ key b, knK[k]? = some (Value.string key) ∧ knB[k]? = some (.int .i64 b) ∧ fblk exF key = (b, 0) ∧ key.size ≤ 3
  | 0, _ => ⟨_, _, rfl, rfl, by kernel_rfl, by decide⟩
  | 1, _ => ⟨_, _, rfl, rfl, by kernel_rfl, by decide⟩
  | 2, _ => ⟨_, _, rfl, rfl, by kernel_rfl, by decide⟩
  | 3, _ => ⟨_, _, rfl, rfl, by kernel_rfl, by decide⟩
  | 4, _ => ⟨_, _, rfl, rfl, by kernel_rfl, by decide⟩
  | 5, _ => ⟨_, _, rfl, rfl, by kernel_rfl, by decide⟩
  | k + 6, h => by omega
theorem kn_span1 : spn exF 5 ⟨#[122]⟩ = (4, 5, 0) := by kernel_rfl
theorem kn_span2 : spn exF 7 ⟨#[98]⟩ = (0, 0, 6) := by kernel_rfl
theorem kn_blks1 : blks exF ⟨⟨#[97, 98]⟩, ⟨#[98]⟩, true⟩ = (0, 1, 0) := by kernel_rfl
theorem kn_blks2 : blks exF ⟨⟨#[99]⟩, ⟨#[]⟩, false⟩ = (2, 3, 0) := by kernel_rfl
theorem kn_find1 : ffind exF exL ⟨#[98, 99, 100]⟩ = (3, 0) := by kernel_rfl
theorem kn_find2 : ffind exF exL ⟨#[98, 99, 99]⟩ = (0, 4) := by kernel_rfl
theorem kn_fits1 : ffits ⟨2, [⟨#[97, 98, 98]⟩, ⟨#[98, 99, 101]⟩]⟩ exL = (true, 0) := by kernel_rfl
theorem kn_fits2 : ffits ⟨2, [⟨#[98]⟩, ⟨#[98, 99, 102]⟩]⟩ exL = (false, 0) := by kernel_rfl
theorem k3 (s : ByteArray) (h : s.size ≤ 3) : s.size ≤ maxLen := small_str (n := 3) s h (by omega)




set_option maxRecDepth 100000 in
set_option maxHeartbeats 4000000 in
theorem lawKnown (w : World) : Calls Try.prog 9 #[] w (RB w (.bool true)) := by
  have hM := fun a c w hl hn hc => fenceMake a c exL 2 w hl hn hc (by omega) (by omega)
  rw [ev_make] at hM
  have hB := fun key a c w h hk => fenceBlock a c exF key w h hk
  have hP1 := fun a c w h => fenceSpan a c exF 5 ⟨#[122]⟩ w h (k3 _ (by decide)) (by omega) (by omega)
  rw [kn_span1] at hP1
  have hP2 := fun a c w h => fenceSpan a c exF 7 ⟨#[98]⟩ w h (k3 _ (by decide)) (by omega) (by omega)
  rw [kn_span2] at hP2
  have hR1 := fun a c w h => fenceBlocks a c exF ⟨⟨#[97, 98]⟩, ⟨#[98]⟩, true⟩ w h ⟨k3 _ (by decide), k3 _ (by decide)⟩
  rw [kn_blks1] at hR1
  have hR2 := fun a c w h => fenceBlocks a c exF ⟨⟨#[99]⟩, ⟨#[]⟩, false⟩ w h ⟨k3 _ (by decide), k3 _ (by decide)⟩
  rw [kn_blks2] at hR2
  have h5 : exL.length ≤ maxLen := by unfold maxLen; decide
  have hF1 := fun a c a2 c2 w h h2 hc hc2 => fenceFind a c exF a2 c2 exL ⟨#[98, 99, 100]⟩ w h h2 h5 (k3 _ (by decide)) hc hc2
  rw [kn_find1] at hF1
  have hF2 := fun a c a2 c2 w h h2 hc hc2 => fenceFind a c exF a2 c2 exL ⟨#[98, 99, 99]⟩ w h h2 h5 (k3 _ (by decide)) hc hc2
  rw [kn_find2] at hF2
  have hT1 := fun a c a2 c2 w h h2 => fenceFits a c ⟨2, [⟨#[97, 98, 98]⟩, ⟨#[98, 99, 101]⟩]⟩ a2 c2 exL w h h2 h5
  rw [kn_fits1] at hT1
  have hT2 := fun a c a2 c2 w h h2 => fenceFits a c ⟨2, [⟨#[98]⟩, ⟨#[98, 99, 102]⟩]⟩ a2 c2 exL w h h2 h5
  rw [kn_fits2] at hT2
  unfold Fnc.v at hB hP1 hP2 hR1 hR2 hF1 hF2 hT1 hT2
  unfold Rng.v at hR1 hR2
  have HA := Lib.hid (fun w => lawAwake w)
  have HX := Lib.hid (fun w => lawExample w)
  have HM := Lib.hid hM
  have HB := Lib.hid hB
  have HP1 := Lib.hid hP1
  have HP2 := Lib.hid hP2
  have HR1 := Lib.hid hR1
  have HR2 := Lib.hid hR2
  have HF1 := Lib.hid hF1
  have HF2 := Lib.hid hF2
  have HT1 := Lib.hid hT1
  have HT2 := Lib.hid hT2
  clear hM hB hP1 hP2 hR1 hR2 hF1 hF2 hT1 hT2 h5
  go_enter Try.func9, Try.ntmps9
  go_wp2_with fail
  refine (HX.out _).mono ?_; rintro e w1 ⟨v, rfl, ⟨a, c, rfl, hl, hc1, hc2⟩, hb1⟩
  go_wp2_with fail
  refine (HM.out a c _ hl hc1 hc2).mono ?_; rintro e w2 ⟨v, rfl, ⟨a2, c2, rfl, hs, hc3, hc4⟩, hb2⟩
  have hf : FOk w2 a2 exF := ⟨hs, by decide, by decide, by decide⟩
  have hb : Bl w w2 := (by repeat (first | assumption | exact Bl.refl _ | apply Bl.drewN | apply Bl.drew | apply Bl.alloc | (refine Bl.dr ?_ (by assumption)) | (refine Bl.trans ?_ (by assumption))))
  clear hb1 hb2 hl
  unfold Fnc.v
  go_wp2_with fail
  go_loopg [5] 6 (fun g i wr => ∃ k : Nat, k ≤ 6 ∧ i = .int .i64 k ∧ Bl (((w2.alloc (Obj.cells #[Value.int IntKind.i64 exF.step, Value.slice a2 exF.marks.length c2] 25)).alloc (Obj.cells knK 59)).alloc (Obj.cells knB 60)) wr ∧ g = 6 - k)
  case atStart => exact ⟨0, by omega, rfl, Bl.refl _, rfl⟩
  case round =>
    obtain ⟨j, hj1, rfl, hd, hg⟩ := hrel
    have G := Lib.hid hg
    have c0 : wr.cell? ⟨w2.heap.size, 0, none⟩ = some (.int .i64 exF.step) := hd.cell (by simp [go_sem])
    have c1 : wr.cell? ⟨w2.heap.size, 1, none⟩ = some (.slice a2 exF.marks.length c2) := hd.cell (by simp [go_sem])
    have hbw : Bl w2 wr := Bl.trans (by repeat (first | assumption | exact Bl.refl _ | apply Bl.drewN | apply Bl.drew | apply Bl.alloc | (refine Bl.dr ?_ (by assumption)) | (refine Bl.trans ?_ (by assumption)))) hd
    clear hg
    by_cases h2 : j < 6
    · obtain ⟨key, b, k1, k2, k3', k4⟩ := kn_get j h2
      have d0 : wr.cell? ⟨w2.heap.size + 1, j, none⟩ = some (.string key) := hd.cell (by
        have := new_cell (w2.alloc (Obj.cells #[Value.int IntKind.i64 exF.step, Value.slice a2 exF.marks.length c2] 25)) knK 59 j
        rw [k1] at this
        exact ((Bl.refl _).alloc _).cell (by simpa using this))
      have d1 : wr.cell? ⟨w2.heap.size + 1 + 1, j, none⟩ = some (.int .i64 b) := hd.cell (by
        have := new_cell ((w2.alloc (Obj.cells #[Value.int IntKind.i64 exF.step, Value.slice a2 exF.marks.length c2] 25)).alloc (Obj.cells knK 59)) knB 60 j
        rw [k2] at this
        simpa using this)
      have h3 := HB.out key a2 c2
      rw [k3'] at h3
      have H3 := Lib.hid h3
      have kb : (b != b) = false := by simp
      have hf' : FOk wr a2 exF := hf.bl hbw
      clear h3 k1 k2 k3'
      have hw1 : ((j : Int)).toNat = j := by omega
      have hw2 : (0 : Int) ≤ (j : Int) := by omega
      have hw3 : (j : Int) < 6 := by omega
      go_wp2_with fail
      have c0' : ∀ z : BW wr, z.w.cell? ⟨w2.heap.size, 0, none⟩ = some (.int .i64 exF.step) := BW.cell c0
      have c1' : ∀ z : BW wr, z.w.cell? ⟨w2.heap.size, 1, none⟩ = some (.slice a2 exF.marks.length c2) := BW.cell c1
      have d0' : ∀ z : BW wr, z.w.cell? ⟨w2.heap.size + 1, j, none⟩ = some (.string key) := BW.cell d0
      
      refine wp_region_quiet_bw wr (by kernel_rfl) (by kernel_rfl) (Bl.refl wr) ?_
      repeat (go_big_quiet_step ((go_at_call 22; exact quietB (H3.out _ (hf'.bl (BW.h _)) (k3 _ k4)))))
      refine wpQuiet_nil ?_
      intro wq hw'
      have hwq : Bl wr wq := by obtain ⟨x, hx⟩ := hw'; rw [hx]; exact x.h
      clear hw'
      have d1 := hwq.cell d1
      clear c0' c1' d0' c0 c1 d0
      go_wp2_with fail
      go_roundg (6 - (j + 1))
      case rel => exact ⟨j + 1, by omega, by go_num, hd.trans hwq, rfl⟩
      case measure => have := G.out; omega
    · have q3 : ¬ (j : Int) < 6 := by omega
      have hf' : FOk wr a2 exF := hf.bl hbw
      clear hf
      have hb : Bl w wr := hb.trans hbw
      clear hbw h2
      go_wp2_with fail
      refine (HP1.out _ _ _ (hf'.bl (by repeat (first | assumption | exact Bl.refl _ | apply Bl.drewN | apply Bl.drew | apply Bl.alloc | (refine Bl.dr ?_ (by assumption)) | (refine Bl.trans ?_ (by assumption)))))).mono ?_; rintro e w3 ⟨rfl, hbn⟩
      have c0 := hbn.cell (by first | exact c0 | exact ((Bl.refl wr).alloc _).cell c0)
      have c1 := hbn.cell (by first | exact c1 | exact ((Bl.refl wr).alloc _).cell c1)
      have hbk : Bl wr w3 := (by repeat (first | assumption | exact Bl.refl _ | apply Bl.drewN | apply Bl.drew | apply Bl.alloc | (refine Bl.dr ?_ (by assumption)) | (refine Bl.trans ?_ (by assumption))))
      have hf' : FOk w3 a2 exF := hf'.bl hbk
      have hb : Bl w w3 := hb.trans hbk
      clear hbn hbk
      go_wp2_with fail
      refine (HP2.out _ _ _ (hf'.bl (by repeat (first | assumption | exact Bl.refl _ | apply Bl.drewN | apply Bl.drew | apply Bl.alloc | (refine Bl.dr ?_ (by assumption)) | (refine Bl.trans ?_ (by assumption)))))).mono ?_; rintro e w4 ⟨rfl, hbn⟩
      have c0 := hbn.cell (by first | exact c0 | exact ((Bl.refl w3).alloc _).cell c0)
      have c1 := hbn.cell (by first | exact c1 | exact ((Bl.refl w3).alloc _).cell c1)
      have hbk : Bl w3 w4 := (by repeat (first | assumption | exact Bl.refl _ | apply Bl.drewN | apply Bl.drew | apply Bl.alloc | (refine Bl.dr ?_ (by assumption)) | (refine Bl.trans ?_ (by assumption))))
      have hf' : FOk w4 a2 exF := hf'.bl hbk
      have hb : Bl w w4 := hb.trans hbk
      clear hbn hbk
      go_wp2_with fail
      refine (HR1.out _ _ _ (hf'.bl (by repeat (first | assumption | exact Bl.refl _ | apply Bl.drewN | apply Bl.drew | apply Bl.alloc | (refine Bl.dr ?_ (by assumption)) | (refine Bl.trans ?_ (by assumption)))))).mono ?_; rintro e w5 ⟨rfl, hbn⟩
      have c0 := hbn.cell (by first | exact c0 | exact ((Bl.refl w4).alloc _).cell c0)
      have c1 := hbn.cell (by first | exact c1 | exact ((Bl.refl w4).alloc _).cell c1)
      have hbk : Bl w4 w5 := (by repeat (first | assumption | exact Bl.refl _ | apply Bl.drewN | apply Bl.drew | apply Bl.alloc | (refine Bl.dr ?_ (by assumption)) | (refine Bl.trans ?_ (by assumption))))
      have hf' : FOk w5 a2 exF := hf'.bl hbk
      have hb : Bl w w5 := hb.trans hbk
      clear hbn hbk
      go_wp2_with fail
      refine (HR2.out _ _ _ (hf'.bl (by repeat (first | assumption | exact Bl.refl _ | apply Bl.drewN | apply Bl.drew | apply Bl.alloc | (refine Bl.dr ?_ (by assumption)) | (refine Bl.trans ?_ (by assumption)))))).mono ?_; rintro e w6 ⟨rfl, hbn⟩
      have c0 := hbn.cell (by first | exact c0 | exact ((Bl.refl w5).alloc _).cell c0)
      have c1 := hbn.cell (by first | exact c1 | exact ((Bl.refl w5).alloc _).cell c1)
      have hbk : Bl w5 w6 := (by repeat (first | assumption | exact Bl.refl _ | apply Bl.drewN | apply Bl.drew | apply Bl.alloc | (refine Bl.dr ?_ (by assumption)) | (refine Bl.trans ?_ (by assumption))))
      have hf' : FOk w6 a2 exF := hf'.bl hbk
      have hb : Bl w w6 := hb.trans hbk
      clear hbn hbk
      go_wp2_with fail
      go_region_held3 (fun w' => w'.cell? ⟨w2.heap.size, 0, none⟩ = some (.int .i64 exF.step) ∧ w'.cell? ⟨w2.heap.size, 1, none⟩ = some (.slice a2 exF.marks.length c2)) (first | exact ⟨c0, c1⟩ | exact ⟨hb7.cell c0, hb7.cell c1⟩ | exact ⟨hb8.cell (hb7.cell c0), hb8.cell (hb7.cell c1)⟩) (first | (go_at_call 34; refine (HX.out _).mono ?_; rintro e w7 ⟨v, rfl, ⟨a7, c7, rfl, hl7, h71, h72⟩, hb7⟩) | (go_at_call 27; refine (HF1.out _ _ _ _ _ (hf'.bl (by repeat (first | assumption | exact Bl.refl _ | apply Bl.drewN | apply Bl.drew | apply Bl.alloc | (refine Bl.dr ?_ (by assumption)) | (refine Bl.trans ?_ (by assumption))))) hl7 h71 h72).mono ?_; rintro e w8 ⟨rfl, hb8⟩))
      have hbk : Bl w6 w8 := Bl.trans (a := w6) (b := World.drew w6) (by repeat (first | assumption | exact Bl.refl _ | apply Bl.drewN | apply Bl.drew | apply Bl.alloc | (refine Bl.dr ?_ (by assumption)) | (refine Bl.trans ?_ (by assumption)))) (hb7.trans hb8)
      have c0 := hbk.cell c0
      have c1 := hbk.cell c1
      have hf' : FOk w8 a2 exF := hf'.bl hbk
      have hb : Bl w w8 := hb.trans hbk
      clear hb7 hb8 hbk hl7 h71 h72
      go_wp2_with fail
      go_region_held3 (fun w' => w'.cell? ⟨w2.heap.size, 0, none⟩ = some (.int .i64 exF.step) ∧ w'.cell? ⟨w2.heap.size, 1, none⟩ = some (.slice a2 exF.marks.length c2)) (first | exact ⟨c0, c1⟩ | exact ⟨hb7.cell c0, hb7.cell c1⟩ | exact ⟨hb8.cell (hb7.cell c0), hb8.cell (hb7.cell c1)⟩) (first | (go_at_call 34; refine (HX.out _).mono ?_; rintro e w9 ⟨v, rfl, ⟨a7, c7, rfl, hl7, h71, h72⟩, hb7⟩) | (go_at_call 27; refine (HF2.out _ _ _ _ _ (hf'.bl (by repeat (first | assumption | exact Bl.refl _ | apply Bl.drewN | apply Bl.drew | apply Bl.alloc | (refine Bl.dr ?_ (by assumption)) | (refine Bl.trans ?_ (by assumption))))) hl7 h71 h72).mono ?_; rintro e w10 ⟨rfl, hb8⟩))
      have hbk : Bl w8 w10 := Bl.trans (a := w8) (b := World.drew w8) (by repeat (first | assumption | exact Bl.refl _ | apply Bl.drewN | apply Bl.drew | apply Bl.alloc | (refine Bl.dr ?_ (by assumption)) | (refine Bl.trans ?_ (by assumption)))) (hb7.trans hb8)
      have c0 := hbk.cell c0
      have c1 := hbk.cell c1
      have hf' : FOk w10 a2 exF := hf'.bl hbk
      have hb : Bl w w10 := hb.trans hbk
      clear hb7 hb8 hbk hl7 h71 h72
      go_wp2_with fail
      refine (HX.out _).mono ?_; rintro e w11 ⟨v, rfl, ⟨a7, c7, rfl, hl7, h71, h72⟩, hb7⟩
      have hf1 : FOk w11 (some ⟨World.heap w10 |>.size, 0, none⟩) ⟨2, [⟨#[97, 98, 98]⟩, ⟨#[98, 99, 101]⟩]⟩ := (FOk.mk (f := ⟨2, [⟨#[97, 98, 98]⟩, ⟨#[98, 99, 101]⟩]⟩) (strs2 w10 ⟨#[97, 98, 98]⟩ ⟨#[98, 99, 101]⟩ (k3 _ (by decide)) (k3 _ (by decide)) 9 _ rfl) (by decide) (by decide) (by decide)).bl hb7
      go_wp2_with fail
      refine (HT1.out _ _ _ _ _ (hf1.bl (by repeat (first | assumption | exact Bl.refl _ | apply Bl.drewN | apply Bl.drew | apply Bl.alloc | (refine Bl.dr ?_ (by assumption)) | (refine Bl.trans ?_ (by assumption))))) (hl7.bl (by repeat (first | assumption | exact Bl.refl _ | apply Bl.drewN | apply Bl.drew | apply Bl.alloc | (refine Bl.dr ?_ (by assumption)) | (refine Bl.trans ?_ (by assumption)))))).mono ?_; rintro e w12 ⟨rfl, hb8⟩
      have hbk : Bl w10 w12 := (by repeat (first | assumption | exact Bl.refl _ | apply Bl.drewN | apply Bl.drew | apply Bl.alloc | (refine Bl.dr ?_ (by assumption)) | (refine Bl.trans ?_ (by assumption))))
      have hb : Bl w w12 := hb.trans hbk
      clear hb7 hb8 hbk hl7 h71 h72 hf1
      go_wp2_with fail
      refine (HX.out _).mono ?_; rintro e w13 ⟨v, rfl, ⟨a7, c7, rfl, hl7, h71, h72⟩, hb7⟩
      have hf1 : FOk w13 (some ⟨World.heap w12 |>.size, 0, none⟩) ⟨2, [⟨#[98]⟩, ⟨#[98, 99, 102]⟩]⟩ := (FOk.mk (f := ⟨2, [⟨#[98]⟩, ⟨#[98, 99, 102]⟩]⟩) (strs2 w12 ⟨#[98]⟩ ⟨#[98, 99, 102]⟩ (k3 _ (by decide)) (k3 _ (by decide)) 9 _ rfl) (by decide) (by decide) (by decide)).bl hb7
      go_wp2_with fail
      refine (HT2.out _ _ _ _ _ (hf1.bl (by repeat (first | assumption | exact Bl.refl _ | apply Bl.drewN | apply Bl.drew | apply Bl.alloc | (refine Bl.dr ?_ (by assumption)) | (refine Bl.trans ?_ (by assumption))))) (hl7.bl (by repeat (first | assumption | exact Bl.refl _ | apply Bl.drewN | apply Bl.drew | apply Bl.alloc | (refine Bl.dr ?_ (by assumption)) | (refine Bl.trans ?_ (by assumption)))))).mono ?_; rintro e w14 ⟨rfl, hb8⟩
      have hbk : Bl w12 w14 := (by repeat (first | assumption | exact Bl.refl _ | apply Bl.drewN | apply Bl.drew | apply Bl.alloc | (refine Bl.dr ?_ (by assumption)) | (refine Bl.trans ?_ (by assumption))))
      have hb : Bl w w14 := hb.trans hbk
      clear hb7 hb8 hbk hl7 h71 h72 hf1
      go_wp2_with fail
      refine (HA.out _).mono ?_; rintro e w15 ⟨rfl, hb15⟩
      go_wp2_with fail
      go_ret
      exact RB.mk rfl (by repeat (first | assumption | exact Bl.refl _ | apply Bl.drewN | apply Bl.drew | apply Bl.alloc | (refine Bl.dr ?_ (by assumption)) | (refine Bl.trans ?_ (by assumption))))
end Go.Proofs.Yteafcbpogomioaa
