/-
  The law FenceBlocks, walked.
-/
import Derived.Test.YteafcbpogomioaaFnP
namespace Go.Proofs.Yteafcbpogomioaa
open Go.RowKit
set_option linter.unusedSimpArgs false
set_option linter.unusedVariables false


set_option maxRecDepth 100000 in
set_option maxHeartbeats 4000000 in
theorem lawBlocks (a : Option Addr) (c : Nat) (f : Fnc) (k : ByteArray) (r : Rng) (w : World)
    (hm : Strs w a f.marks) (hmn : f.marks.length ≤ maxLen) (hs1 : -9223372036854775808 ≤ f.step) (hs2 : f.step ≤ 9223372036854775807) (hk : k.size ≤ maxLen) (hr : r.ok) :
    Calls Try.prog 5 #[f.v a c, .string k, r.v] w (RB w (.bool true)) := by
  have HA := Lib.hid (fun w => lawAwake w)
  have hW := fun w h => lawWide a c f w h hmn
  have h1 := fun w h => fenceCheck a c f w h
  have h2 := fun w h => refFenceCheck a c f w h
  have h3 := fun w h => fenceBlock a c f k w h hk
  have h4 := fun w h => refBlock a c f k w h hk
  have h5 := fun w h => fenceBlocks a c f r w h hr
  have h6 := fun w h => refBlocks a c f r w h hr
  have h7 := fun w h => fenceSize a c f w h
  have h8 := fun w h => refFenceSize a c f w h
  have hfok : f.marks.length ≤ 5010 → FOk w a f := fun h => ⟨hm, by omega, hs1, hs2⟩
  have HMk := Lib.hid hm
  generalize (fchk f).1 = v1 at *
  generalize (fchk f).2 = v2 at *
  generalize (fblk f k).1 = v3 at *
  generalize (fblk f k).2 = v4 at *
  generalize (blks f r).1 = v5 at *
  generalize (blks f r).2.1 = v6 at *
  generalize (blks f r).2.2 = v7 at *
  generalize (fsz f).1 = v8 at *
  generalize (fsz f).2 = v9 at *
  obtain ⟨st, m⟩ := f
  obtain ⟨lo, hi, bd⟩ := r
  unfold Fnc.v at *
  unfold Rng.v at *
  simp only at hW h1 h2 h3 h4 h5 h6 h7 h8 hs1 hs2 hfok ⊢
  have HW := Lib.hid hW
  have H1 := Lib.hid h1
  have H2 := Lib.hid h2
  have H3 := Lib.hid h3
  have H4 := Lib.hid h4
  have H5 := Lib.hid h5
  have H6 := Lib.hid h6
  have H7 := Lib.hid h7
  have H8 := Lib.hid h8
  have HOk := Lib.hid hfok
  clear hW h1 h2 h3 h4 h5 h6 h7 h8 hfok hm
  go_enter Try.func5, Try.ntmps5
  go_wp2_with fail
  refine (HW.out _ (HMk.out.bl (by repeat (first | assumption | exact Bl.refl _ | apply Bl.drewN | apply Bl.drew | apply Bl.alloc | (refine Bl.dr ?_ (by assumption)) | (refine Bl.trans ?_ (by assumption)))))).mono ?_; rintro e w1 ⟨wb, rfl, hwb, hb1⟩
  have c0 : w1.cell? ⟨w.heap.size, 0, none⟩ = some (.int .i64 st) := hb1.cell (by simp [go_sem])
  have c1 : w1.cell? ⟨w.heap.size, 1, none⟩ = some (.slice a m.length c) := hb1.cell (by simp [go_sem])
  have d0 : w1.cell? ⟨w.heap.size + 1, 0, none⟩ = some (.string lo) := hb1.cell (by simp [go_sem])
  have d1 : w1.cell? ⟨w.heap.size + 1, 1, none⟩ = some (.string hi) := hb1.cell (by simp [go_sem])
  have d2 : w1.cell? ⟨w.heap.size + 1, 2, none⟩ = some (.bool bd) := hb1.cell (by simp [go_sem])
  have hb : Bl w w1 := (by repeat (first | assumption | exact Bl.refl _ | apply Bl.drewN | apply Bl.drew | apply Bl.alloc | (refine Bl.dr ?_ (by assumption)) | (refine Bl.trans ?_ (by assumption))))
  clear hb1
  cases wb
  · have hok := HOk.out (hwb rfl)
    have HOK := Lib.hid hok
    clear hwb hok
    by_cases g1 : (100:Int) < (k.size : Int)
    · 
      go_wp2_with fail
      refine (HA.out _).mono ?_; rintro e w8 ⟨rfl, hb8⟩
      go_wp2_with fail
      go_ret
      exact RB.mk rfl (by repeat (first | assumption | exact Bl.refl _ | apply Bl.drewN | apply Bl.drew | apply Bl.alloc | (refine Bl.dr ?_ (by assumption)) | (refine Bl.trans ?_ (by assumption))))
    by_cases g2 : (100:Int) < (lo.size : Int)
    · 
      go_wp2_with fail
      refine (HA.out _).mono ?_; rintro e w8 ⟨rfl, hb8⟩
      go_wp2_with fail
      go_ret
      exact RB.mk rfl (by repeat (first | assumption | exact Bl.refl _ | apply Bl.drewN | apply Bl.drew | apply Bl.alloc | (refine Bl.dr ?_ (by assumption)) | (refine Bl.trans ?_ (by assumption))))
    by_cases g3 : (100:Int) < (hi.size : Int)
    · 
      go_wp2_with fail
      refine (HA.out _).mono ?_; rintro e w8 ⟨rfl, hb8⟩
      go_wp2_with fail
      go_ret
      exact RB.mk rfl (by repeat (first | assumption | exact Bl.refl _ | apply Bl.drewN | apply Bl.drew | apply Bl.alloc | (refine Bl.dr ?_ (by assumption)) | (refine Bl.trans ?_ (by assumption))))
    go_wp2_with fail
    refine (H1.out _ (HOK.out.bl (by repeat (first | assumption | exact Bl.refl _ | apply Bl.drewN | apply Bl.drew | apply Bl.alloc | (refine Bl.dr ?_ (by assumption)) | (refine Bl.trans ?_ (by assumption)))))).mono ?_
    rintro e w2 ⟨rfl, hbn⟩
    have c0 := hbn.cell c0
    have c1 := hbn.cell c1
    have d0 := hbn.cell d0
    have d1 := hbn.cell d1
    have d2 := hbn.cell d2
    have hb : Bl w w2 := hb.trans (Bl.trans (by first | exact Bl.refl _ | exact (Bl.refl _).drewN _ | exact (Bl.refl _).drew) hbn)
    clear hbn
    go_wp2_with fail
    refine (H2.out _ (HOK.out.bl (by repeat (first | assumption | exact Bl.refl _ | apply Bl.drewN | apply Bl.drew | apply Bl.alloc | (refine Bl.dr ?_ (by assumption)) | (refine Bl.trans ?_ (by assumption)))))).mono ?_
    rintro e w3 ⟨rfl, hbn⟩
    have c0 := hbn.cell c0
    have c1 := hbn.cell c1
    have d0 := hbn.cell d0
    have d1 := hbn.cell d1
    have d2 := hbn.cell d2
    have hb : Bl w w3 := hb.trans (Bl.trans (by first | exact Bl.refl _ | exact (Bl.refl _).drewN _ | exact (Bl.refl _).drew) hbn)
    clear hbn
    go_wp2_with fail
    refine (H3.out _ (HOK.out.bl (by repeat (first | assumption | exact Bl.refl _ | apply Bl.drewN | apply Bl.drew | apply Bl.alloc | (refine Bl.dr ?_ (by assumption)) | (refine Bl.trans ?_ (by assumption)))))).mono ?_
    rintro e w4 ⟨rfl, hbn⟩
    have c0 := hbn.cell c0
    have c1 := hbn.cell c1
    have d0 := hbn.cell d0
    have d1 := hbn.cell d1
    have d2 := hbn.cell d2
    have hb : Bl w w4 := hb.trans (Bl.trans (by first | exact Bl.refl _ | exact (Bl.refl _).drewN _ | exact (Bl.refl _).drew) hbn)
    clear hbn
    go_wp2_with fail
    have k1 : (v1 != v1) = false := by simp
    have k2 : (v2 != v2) = false := by simp
    have k3 : (v3 != v3) = false := by simp
    have k4 : (v4 != v4) = false := by simp
    have k5 : (v5 == v5) = true := by simp
    have k6 : (v6 == v6) = true := by simp
    have k7 : (v7 == v7) = true := by simp
    have k8 : (v8 == v8) = true := by simp
    have k9 : (v9 == v9) = true := by simp
    refine (H4.out _ (HOK.out.bl (by repeat (first | assumption | exact Bl.refl _ | apply Bl.drewN | apply Bl.drew | apply Bl.alloc | (refine Bl.dr ?_ (by assumption)) | (refine Bl.trans ?_ (by assumption)))))).mono ?_
    rintro e w5 ⟨rfl, hbn⟩
    have c0 := hbn.cell c0
    have c1 := hbn.cell c1
    have d0 := hbn.cell d0
    have d1 := hbn.cell d1
    have d2 := hbn.cell d2
    have hb : Bl w w5 := hb.trans (Bl.trans (by first | exact Bl.refl _ | exact (Bl.refl _).drewN _ | exact (Bl.refl _).drew) hbn)
    clear hbn
    go_wp2_with fail
    refine (H5.out _ (HOK.out.bl (by repeat (first | assumption | exact Bl.refl _ | apply Bl.drewN | apply Bl.drew | apply Bl.alloc | (refine Bl.dr ?_ (by assumption)) | (refine Bl.trans ?_ (by assumption)))))).mono ?_
    rintro e w6 ⟨rfl, hbn⟩
    have c0 := hbn.cell c0
    have c1 := hbn.cell c1
    have d0 := hbn.cell d0
    have d1 := hbn.cell d1
    have d2 := hbn.cell d2
    have hb : Bl w w6 := hb.trans (Bl.trans (by first | exact Bl.refl _ | exact (Bl.refl _).drewN _ | exact (Bl.refl _).drew) hbn)
    clear hbn
    go_wp2_with fail
    refine (H6.out _ (HOK.out.bl (by repeat (first | assumption | exact Bl.refl _ | apply Bl.drewN | apply Bl.drew | apply Bl.alloc | (refine Bl.dr ?_ (by assumption)) | (refine Bl.trans ?_ (by assumption)))))).mono ?_
    rintro e w7 ⟨rfl, hbn⟩
    have c0 := hbn.cell c0
    have c1 := hbn.cell c1
    have d0 := hbn.cell d0
    have d1 := hbn.cell d1
    have d2 := hbn.cell d2
    have hb : Bl w w7 := hb.trans (Bl.trans (by first | exact Bl.refl _ | exact (Bl.refl _).drewN _ | exact (Bl.refl _).drew) hbn)
    clear hbn
    go_wp2_with fail
    refine (H7.out _ (HOK.out.bl (by repeat (first | assumption | exact Bl.refl _ | apply Bl.drewN | apply Bl.drew | apply Bl.alloc | (refine Bl.dr ?_ (by assumption)) | (refine Bl.trans ?_ (by assumption)))))).mono ?_
    rintro e w8 ⟨rfl, hbn⟩
    have c0 := hbn.cell c0
    have c1 := hbn.cell c1
    have d0 := hbn.cell d0
    have d1 := hbn.cell d1
    have d2 := hbn.cell d2
    have hb : Bl w w8 := hb.trans (Bl.trans (by first | exact Bl.refl _ | exact (Bl.refl _).drewN _ | exact (Bl.refl _).drew) hbn)
    clear hbn
    go_wp2_with fail
    refine (H8.out _ (HOK.out.bl (by repeat (first | assumption | exact Bl.refl _ | apply Bl.drewN | apply Bl.drew | apply Bl.alloc | (refine Bl.dr ?_ (by assumption)) | (refine Bl.trans ?_ (by assumption)))))).mono ?_
    rintro e w9 ⟨rfl, hbn⟩
    have c0 := hbn.cell c0
    have c1 := hbn.cell c1
    have d0 := hbn.cell d0
    have d1 := hbn.cell d1
    have d2 := hbn.cell d2
    have hb : Bl w w9 := hb.trans (Bl.trans (by first | exact Bl.refl _ | exact (Bl.refl _).drewN _ | exact (Bl.refl _).drew) hbn)
    clear hbn
    go_wp2_with fail
    refine (HA.out _).mono ?_; rintro e w10 ⟨rfl, hb8⟩
    go_wp2_with fail
    go_ret
    exact RB.mk rfl (by repeat (first | assumption | exact Bl.refl _ | apply Bl.drewN | apply Bl.drew | apply Bl.alloc | (refine Bl.dr ?_ (by assumption)) | (refine Bl.trans ?_ (by assumption))))
  · clear hwb
    
    go_wp2_with fail
    refine (HA.out _).mono ?_; rintro e w8 ⟨rfl, hb8⟩
    go_wp2_with fail
    go_ret
    exact RB.mk rfl (by repeat (first | assumption | exact Bl.refl _ | apply Bl.drewN | apply Bl.drew | apply Bl.alloc | (refine Bl.dr ?_ (by assumption)) | (refine Bl.trans ?_ (by assumption))))
end Go.Proofs.Yteafcbpogomioaa
