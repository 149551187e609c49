/-
  The law FenceFinds, walked.
-/
import Derived.Test.YteafcbpogomioaaFnP
namespace Go.Proofs.Yteafcbpogomioaa
open Go.RowKit
set_option linter.unusedSimpArgs false
set_option linter.unusedVariables false


set_option maxRecDepth 100000 in
set_option maxHeartbeats 4000000 in
theorem lawFinds (a : Option Addr) (c : Nat) (f : Fnc) (a2 : Option Addr) (c2 : Nat) (l : List Ent) (k : ByteArray) (n : Int) (w : World)
    (hm : Strs w a f.marks) (hmn : f.marks.length ≤ maxLen) (hs1 : -9223372036854775808 ≤ f.step) (hs2 : f.step ≤ 9223372036854775807)
    (hl : Ents w a2 l) (hn : l.length ≤ c2) (hc : c2 ≤ maxLen) (hk : k.size ≤ maxLen) (hn1 : -9223372036854775808 ≤ n) (hn2 : n ≤ 9223372036854775807) :
    Calls Try.prog 6 #[f.v a c, .slice a2 l.length c2, .agg #[.string k, .int .i64 n]] w (RB w (.bool true)) := by
  have HA := Lib.hid (fun w => lawAwake w)
  have HFar := Lib.hid (fun w h => lawFar a2 c2 l w h (Nat.le_trans hn hc))
  have hW := fun w h => lawWide a c f w h hmn
  have h1 := fun w h h' => fenceFind a c f a2 c2 l k w h h' (Nat.le_trans hn hc) hk hn hc
  have h2 := fun w h h' => refFenceFind a c f a2 c2 l k w h h' (Nat.le_trans hn hc) hk
  have h3 := fun w h => fenceSpan a c f n k w h hk hn1 hn2
  have h4 := fun w h => refSpan a c f n k w h hk hn1 hn2
  have hfok : f.marks.length ≤ 5010 → FOk w a f := fun h => ⟨hm, by omega, hs1, hs2⟩
  have HL := Lib.hid hl
  have HMk := Lib.hid hm
  generalize (ffind f l k).1 = v1 at *
  generalize (ffind f l k).2 = v2 at *
  generalize (spn f n k).1 = v5 at *
  generalize (spn f n k).2.1 = v6 at *
  generalize (spn f n k).2.2 = v7 at *
  obtain ⟨st, m⟩ := f
  unfold Fnc.v at *
  simp only at hW h1 h2 h3 h4 hs1 hs2 hfok ⊢
  have HW := Lib.hid hW
  have H1 := Lib.hid h1
  have H2 := Lib.hid h2
  have H3 := Lib.hid h3
  have H4 := Lib.hid h4
  have HOk := Lib.hid hfok
  clear hW h1 h2 h3 h4 hfok hm hl
  go_enter Try.func6, Try.ntmps6
  go_wp2_with fail
  refine (HFar.out _ (HL.out.bl (by repeat (first | assumption | exact Bl.refl _ | apply Bl.drewN | apply Bl.drew | apply Bl.alloc | (refine Bl.dr ?_ (by assumption)) | (refine Bl.trans ?_ (by assumption)))))).mono ?_; rintro e w1 ⟨fb, rfl, hfb, hb1⟩
  have c0 : w1.cell? ⟨w.heap.size, 0, none⟩ = some (.int .i64 st) := hb1.cell (by simp [go_sem])
  have c1 : w1.cell? ⟨w.heap.size, 1, none⟩ = some (.slice a m.length c) := hb1.cell (by simp [go_sem])
  have d0 : w1.cell? ⟨w.heap.size + 1, 0, none⟩ = some (.string k) := hb1.cell (by simp [go_sem])
  have d1 : w1.cell? ⟨w.heap.size + 1, 1, none⟩ = some (.int .i64 n) := hb1.cell (by simp [go_sem])
  have hb : Bl w w1 := (by repeat (first | assumption | exact Bl.refl _ | apply Bl.drewN | apply Bl.drew | apply Bl.alloc | (refine Bl.dr ?_ (by assumption)) | (refine Bl.trans ?_ (by assumption))))
  clear hb1 hfb
  cases fb
  · go_wp2_with fail
    refine (HW.out _ (HMk.out.bl (by repeat (first | assumption | exact Bl.refl _ | apply Bl.drewN | apply Bl.drew | apply Bl.alloc | (refine Bl.dr ?_ (by assumption)) | (refine Bl.trans ?_ (by assumption)))))).mono ?_; rintro e w2 ⟨wb, rfl, hwb, hb2⟩
    have c0 := hb2.cell c0
    have c1 := hb2.cell c1
    have d0 := hb2.cell d0
    have d1 := hb2.cell d1
    have hb : Bl w w2 := hb.trans hb2
    clear hb2
    cases wb
    · have hok := HOk.out (hwb rfl)
      have HOK := Lib.hid hok
      clear hwb hok
      by_cases g1 : (100:Int) < (k.size : Int)
      · 
        go_wp2_with fail
        refine (HA.out _).mono ?_; rintro e w8 ⟨rfl, hb8⟩
        go_wp2_with fail
        go_ret
        exact RB.mk rfl (by repeat (first | assumption | exact Bl.refl _ | apply Bl.drewN | apply Bl.drew | apply Bl.alloc | (refine Bl.dr ?_ (by assumption)) | (refine Bl.trans ?_ (by assumption))))
      have k1 : (v1 != v1) = false := by simp
      have k2 : (v2 != v2) = false := by simp
      have k5 : (v5 == v5) = true := by simp
      have k6 : (v6 == v6) = true := by simp
      have k7 : (v7 == v7) = true := by simp
      go_wp2_with fail
      refine (H1.out _ (HOK.out.bl (by repeat (first | assumption | exact Bl.refl _ | apply Bl.drewN | apply Bl.drew | apply Bl.alloc | (refine Bl.dr ?_ (by assumption)) | (refine Bl.trans ?_ (by assumption))))) (HL.out.bl (by repeat (first | assumption | exact Bl.refl _ | apply Bl.drewN | apply Bl.drew | apply Bl.alloc | (refine Bl.dr ?_ (by assumption)) | (refine Bl.trans ?_ (by assumption)))))).mono ?_
      rintro e w3 ⟨rfl, hbn⟩
      have c0 := hbn.cell c0
      have c1 := hbn.cell c1
      have d0 := hbn.cell d0
      have d1 := hbn.cell d1
      have hb : Bl w w3 := hb.trans (Bl.trans (by first | exact Bl.refl _ | exact (Bl.refl _).drewN _ | exact (Bl.refl _).drew) hbn)
      clear hbn
      go_wp2_with fail
      refine (H2.out _ (HOK.out.bl (by repeat (first | assumption | exact Bl.refl _ | apply Bl.drewN | apply Bl.drew | apply Bl.alloc | (refine Bl.dr ?_ (by assumption)) | (refine Bl.trans ?_ (by assumption))))) (HL.out.bl (by repeat (first | assumption | exact Bl.refl _ | apply Bl.drewN | apply Bl.drew | apply Bl.alloc | (refine Bl.dr ?_ (by assumption)) | (refine Bl.trans ?_ (by assumption)))))).mono ?_
      rintro e w4 ⟨rfl, hbn⟩
      have c0 := hbn.cell c0
      have c1 := hbn.cell c1
      have d0 := hbn.cell d0
      have d1 := hbn.cell d1
      have hb : Bl w w4 := hb.trans (Bl.trans (by first | exact Bl.refl _ | exact (Bl.refl _).drewN _ | exact (Bl.refl _).drew) hbn)
      clear hbn
      go_wp2_with fail
      refine (H3.out _ (HOK.out.bl (by repeat (first | assumption | exact Bl.refl _ | apply Bl.drewN | apply Bl.drew | apply Bl.alloc | (refine Bl.dr ?_ (by assumption)) | (refine Bl.trans ?_ (by assumption)))))).mono ?_
      rintro e w5 ⟨rfl, hbn⟩
      have c0 := hbn.cell c0
      have c1 := hbn.cell c1
      have d0 := hbn.cell d0
      have d1 := hbn.cell d1
      have hb : Bl w w5 := hb.trans (Bl.trans (by first | exact Bl.refl _ | exact (Bl.refl _).drewN _ | exact (Bl.refl _).drew) hbn)
      clear hbn
      go_wp2_with fail
      refine (H4.out _ (HOK.out.bl (by repeat (first | assumption | exact Bl.refl _ | apply Bl.drewN | apply Bl.drew | apply Bl.alloc | (refine Bl.dr ?_ (by assumption)) | (refine Bl.trans ?_ (by assumption)))))).mono ?_
      rintro e w6 ⟨rfl, hbn⟩
      have c0 := hbn.cell c0
      have c1 := hbn.cell c1
      have d0 := hbn.cell d0
      have d1 := hbn.cell d1
      have hb : Bl w w6 := hb.trans (Bl.trans (by first | exact Bl.refl _ | exact (Bl.refl _).drewN _ | exact (Bl.refl _).drew) hbn)
      clear hbn
      go_wp2_with fail
      refine (HA.out _).mono ?_; rintro e w10 ⟨rfl, hb8⟩
      go_wp2_with fail
      go_ret
      exact RB.mk rfl (by repeat (first | assumption | exact Bl.refl _ | apply Bl.drewN | apply Bl.drew | apply Bl.alloc | (refine Bl.dr ?_ (by assumption)) | (refine Bl.trans ?_ (by assumption))))
    · clear hwb
      
      go_wp2_with fail
      refine (HA.out _).mono ?_; rintro e w8 ⟨rfl, hb8⟩
      go_wp2_with fail
      go_ret
      exact RB.mk rfl (by repeat (first | assumption | exact Bl.refl _ | apply Bl.drewN | apply Bl.drew | apply Bl.alloc | (refine Bl.dr ?_ (by assumption)) | (refine Bl.trans ?_ (by assumption))))
  · 
    go_wp2_with fail
    refine (HA.out _).mono ?_; rintro e w8 ⟨rfl, hb8⟩
    go_wp2_with fail
    go_ret
    exact RB.mk rfl (by repeat (first | assumption | exact Bl.refl _ | apply Bl.drewN | apply Bl.drew | apply Bl.alloc | (refine Bl.dr ?_ (by assumption)) | (refine Bl.trans ?_ (by assumption))))
end Go.Proofs.Yteafcbpogomioaa
