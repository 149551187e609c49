/-
  The law FenceShort, walked.
-/
import Derived.Test.YteafcbpogomioaaPlC
namespace Go.Proofs.Yteafcbpogomioaa
open Go.RowKit
set_option linter.unusedSimpArgs false
set_option linter.unusedVariables false

set_option maxRecDepth 100000 in
set_option maxHeartbeats 4000000 in
theorem lawShort (a : Option Addr) (c : Nat) (l : List Ent) (a2 : Option Addr) (c2 : Nat) (f : Fnc) (w : World) (hl : Ents w a l) (hn : l.length ≤ c) (hc : c ≤ maxLen)
    (hm : Strs w a2 f.marks) (hmn : f.marks.length ≤ maxLen) (hs1 : -9223372036854775808 ≤ f.step) (hs2 : f.step ≤ 9223372036854775807) :
    Calls Try.prog 4 #[.slice a l.length c, f.v a2 c2] w (RB w (.bool true)) := by
  have HA := Lib.hid (fun w => lawAwake w)
  have HFar := Lib.hid (fun w h => lawFar a c l w h (Nat.le_trans hn hc))
  have hW := fun w h => lawWide a2 c2 f w h hmn
  have HM := Lib.hid (fun w h => fenceMake a c l f.step w h hn hc hs1 hs2)
  have hF := fun w h1 h2 => fenceFits a2 c2 f a c l w h1 h2 (Nat.le_trans hn hc)
  have hF2 := fun a3 c3 w h1 h2 => fenceFits a3 c3 (fmake l f.step).1 a c l w h1 h2 (Nat.le_trans hn hc)
  have hC := fun a3 c3 w h => fenceCheck a3 c3 (fmake l f.step).1 w h
  have hS := fun a3 c3 w h => fenceSize a3 c3 (fmake l f.step).1 w h
  have hS2 := fun w h => fenceSize a2 c2 f w h
  have hfok : f.marks.length ≤ 5010 → FOk w a2 f := fun h => ⟨hm, by omega, hs1, hs2⟩
  have hno := fun h => make_none (l := l) (s := f.step) h
  have hmk := fun h => make_facts (l := l) (s := f.step) h
  have hst := fmk_step l f.step hs1 hs2
  have hfs : (ffits f l).2 = 0 → fsz f = ((sumSz f.marks : Int), 0) := fun h => by
    unfold fsz; rw [if_neg (by simp [(ffits_ok h).1])]
  have hfs2 : fchk (fmake l f.step).1 = (0, 0) → fsz (fmake l f.step).1 = ((sumSz (fmake l f.step).1.marks : Int), 0) := fun h => by
    unfold fsz; rw [if_neg (by simp [h])]
  have hlst : (ffits f l).2 = 0 → f.marks.length ≤ 4999 ∧ ∀ m, m ∈ f.marks → m.size ≤ 32 := fun h => ⟨(fchk_ok (ffits_ok h).1).2.2.1, (fchk_ok (ffits_ok h).1).2.2.2.1⟩
  have HL := Lib.hid hl
  have HMk := Lib.hid hm
  generalize hgf : (fmake l f.step).1 = F at *
  generalize (fmake l f.step).2 = v3 at *
  have hmf := fun h => (hmk h).2.2.2.2 f
  have hmk' := fun h => (⟨(hmk h).1, (hmk h).2.1, (hmk h).2.2.2.1⟩ : _ ∧ _ ∧ _)
  generalize (ffits f l).1 = v1 at *
  generalize (ffits f l).2 = v2 at *
  generalize fsz f = fz at *
  obtain ⟨st, m⟩ := f
  unfold Fnc.v at hW hF hF2 hC hS hS2 ⊢
  simp only at hW hF HM hF2 hS2 hs1 hs2 hfok hmf hfs hlst ⊢
  have HW := Lib.hid hW
  have HF := Lib.hid hF
  have HF2 := Lib.hid hF2
  have HC := Lib.hid hC
  have HS := Lib.hid hS
  have HS2 := Lib.hid hS2
  have HOk := Lib.hid hfok
  have HNo := Lib.hid hno
  have HMF := Lib.hid hmf
  have HMK := Lib.hid hmk'
  have HST := Lib.hid hst
  have HFS := Lib.hid hfs
  have HFS2 := Lib.hid hfs2
  have HLS := Lib.hid hlst
  clear hW hF hF2 hC hS hS2 hfok hl hm hno hmf hmk hmk' hst hgf hfs hfs2 hlst
  go_enter Try.func4, Try.ntmps4
  go_wp2_with fail
  refine (HFar.out _ (HL.out.bl (by repeat (first | assumption | exact Bl.refl _ | apply Bl.drewN | apply Bl.drew | apply Bl.alloc | (refine Bl.dr ?_ (by assumption)) | (refine Bl.trans ?_ (by assumption)))))).mono ?_; rintro e w1 ⟨fb, rfl, hfb, hb1⟩
  have c0 : w1.cell? ⟨w.heap.size, 0, none⟩ = some (.int .i64 st) := hb1.cell (by simp [go_sem])
  have c1 : w1.cell? ⟨w.heap.size, 1, none⟩ = some (.slice a2 m.length c2) := hb1.cell (by simp [go_sem])
  have hb : Bl w w1 := (by repeat (first | assumption | exact Bl.refl _ | apply Bl.drewN | apply Bl.drew | apply Bl.alloc | (refine Bl.dr ?_ (by assumption)) | (refine Bl.trans ?_ (by assumption))))
  have hsz := lt_of_cell c0
  clear hb1
  cases fb
  · clear hfb
    go_wp2_with fail
    refine (HW.out _ (HMk.out.bl (by repeat (first | assumption | exact Bl.refl _ | apply Bl.drewN | apply Bl.drew | apply Bl.alloc | (refine Bl.dr ?_ (by assumption)) | (refine Bl.trans ?_ (by assumption)))))).mono ?_; rintro e w2 ⟨wb, rfl, hwb, hb2⟩
    have c0 := hb2.cell c0
    have c1 := hb2.cell c1
    have hb' : Bl w w2 := hb.trans hb2
    clear hb hb2
    cases wb
    · have hok := HOk.out (hwb rfl)
      have HOK := Lib.hid hok
      clear hwb hok
      go_wp2_with fail
      refine (HM.out _ (HL.out.bl (by repeat (first | assumption | exact Bl.refl _ | apply Bl.drewN | apply Bl.drew | apply Bl.alloc | (refine Bl.dr ?_ (by assumption)) | (refine Bl.trans ?_ (by assumption)))))).mono ?_; rintro e w3 ⟨v, rfl, ⟨a3, c3, rfl, hst3, hc3, hc3'⟩, hb3⟩
      have c0 := hb3.cell c0
      have c1 := hb3.cell c1
      have hb : Bl w w3 := hb'.trans hb3
      clear hb' hb3
      unfold Fnc.v
      by_cases k3 : v3 = 0
      · obtain ⟨q1, q2, q3⟩ := HMK.out k3
        have hOK3 : FOk w3 a3 F := ⟨hst3, by omega, HST.out.1, HST.out.2⟩
        have HOK3 := Lib.hid hOK3
        have h4 := HF2.out a3 c3
        have h5 := HC.out a3 c3
        have h6 := HS.out a3 c3
        rw [q2] at h4
        rw [q1] at h5
        rw [HFS2.out q1] at h6
        simp only at h4 h5 h6
        have H4 := Lib.hid h4
        have H5 := Lib.hid h5
        have H6 := Lib.hid h6
        have HMF3 := Lib.hid (HMF.out k3)
        have k3' : (v3 != 0) = false := by simp [k3]
        clear h4 h5 h6 q1 q2 hOK3 HMF HMK HF2 HC HS HNo HFS2
        have K3 := Lib.hid k3
        clear k3
        go_wp2_with fail
        refine (H4.out _ (HOK3.out.bl (by repeat (first | assumption | exact Bl.refl _ | apply Bl.drewN | apply Bl.drew | apply Bl.alloc | (refine Bl.dr ?_ (by assumption)) | (refine Bl.trans ?_ (by assumption))))) (HL.out.bl (by repeat (first | assumption | exact Bl.refl _ | apply Bl.drewN | apply Bl.drew | apply Bl.alloc | (refine Bl.dr ?_ (by assumption)) | (refine Bl.trans ?_ (by assumption)))))).mono ?_; rintro e w4 ⟨rfl, hb4⟩
        have c0 := hb4.cell (((Bl.refl w3).alloc _).cell c0)
        have c1 := hb4.cell (((Bl.refl w3).alloc _).cell c1)
        have d0 : w4.cell? ⟨w3.heap.size, 0, none⟩ = some (.int .i64 F.step) := hb4.cell (by simp [go_sem])
        have d1 : w4.cell? ⟨w3.heap.size, 1, none⟩ = some (.slice a3 F.marks.length c3) := hb4.cell (by simp [go_sem])
        have hb34 : Bl w3 w4 := ((Bl.refl w3).alloc _).trans hb4
        have hbw : Bl w w4 := hb.trans hb34
        clear hb4
        go_wp2_with fail
        refine (H5.out _ (HOK3.out.bl (by repeat (first | assumption | exact Bl.refl _ | apply Bl.drewN | apply Bl.drew | apply Bl.alloc | (refine Bl.dr ?_ (by assumption)) | (refine Bl.trans ?_ (by assumption)))))).mono ?_; rintro e w5 ⟨rfl, hb5⟩
        have c0 := hb5.cell c0
        have c1 := hb5.cell c1
        have d0 := hb5.cell d0
        have d1 := hb5.cell d1
        have hb35 : Bl w3 w5 := hb34.trans hb5
        have hbw : Bl w w5 := hbw.trans hb5
        clear hb5 hb34
        go_wp2_with fail
        refine (HF.out _ (HOK.out.bl (by repeat (first | assumption | exact Bl.refl _ | apply Bl.drewN | apply Bl.drew | apply Bl.alloc | (refine Bl.dr ?_ (by assumption)) | (refine Bl.trans ?_ (by assumption))))) (HL.out.bl (by repeat (first | assumption | exact Bl.refl _ | apply Bl.drewN | apply Bl.drew | apply Bl.alloc | (refine Bl.dr ?_ (by assumption)) | (refine Bl.trans ?_ (by assumption)))))).mono ?_; rintro e w6 ⟨rfl, hb6⟩
        have c0 := hb6.cell c0
        have c1 := hb6.cell c1
        have d0 := hb6.cell d0
        have d1 := hb6.cell d1
        have hb36 : Bl w3 w6 := hb35.trans hb6
        have hbw : Bl w w6 := hbw.trans hb6
        clear hb6 hb35
        by_cases k2 : v2 = 0
        · have k2' : (v2 != 0) = false := by simp [k2]
          cases v1
          · 
            go_wp2_with fail
            refine (HA.out _).mono ?_; rintro e w8 ⟨rfl, hb8⟩
            go_wp2_with fail
            go_ret
            exact RB.mk rfl (by repeat (first | assumption | exact Bl.refl _ | apply Bl.drewN | apply Bl.drew | apply Bl.alloc | (refine Bl.dr ?_ (by assumption)) | (refine Bl.trans ?_ (by assumption))))
          · obtain ⟨g1, g2, g3⟩ := HMF3.out k2 rfl trivial
            have h8 := HS2.out
            rw [HFS.out k2] at h8
            simp only at h8
            have H8 := Lib.hid h8
            have G1 := Lib.hid g1
            have G2 := Lib.hid g2
            have G3 := Lib.hid g3
            obtain ⟨ls1, ls2⟩ := HLS.out k2
            have LS2 := Lib.hid ls2
            have K2 := Lib.hid k2
            clear g1 g2 g3 h8 HMF3 HFS HLS HS2 ls2 k2
            go_wp2_with fail
            go_loopg [11] F.marks.length (fun g i wr => ∃ k : Nat, k ≤ F.marks.length ∧ i = .int .i64 k ∧ Bl w6 wr ∧ g = F.marks.length - k)
            case atStart => exact ⟨0, by omega, rfl, (by repeat (first | assumption | exact Bl.refl _ | apply Bl.drewN | apply Bl.drew | apply Bl.alloc | (refine Bl.dr ?_ (by assumption)) | (refine Bl.trans ?_ (by assumption)))), rfl⟩
            case round =>
              obtain ⟨j, hj1, rfl, hd, hg⟩ := hrel
              have G := Lib.hid hg
              have c0 := hd.cell c0
              have c1 := hd.cell c1
              have d0 := hd.cell d0
              have d1 := hd.cell d1
              have hb36 : Bl w3 wr := hb36.trans hd
              have hbw : Bl w wr := hbw.trans hd
              clear hg
              by_cases h2 : j < F.marks.length
              · have h2' : j < m.length := by rw [← G1.out]; exact h2
                obtain ⟨b1, o1, rfl, hat1⟩ := HOK3.out.strs.get h2
                obtain ⟨b2, o2, rfl, hat2⟩ := HOK.out.strs.get (k := j) h2'
                obtain ⟨x, hx⟩ : ∃ x, F.marks[j]? = some x := ⟨_, List.getElem?_eq_getElem h2⟩
                obtain ⟨y, hy⟩ : ∃ y, m[j]? = some y := ⟨_, List.getElem?_eq_getElem h2'⟩
                have e1 := hb36.cell (hat1 j x hx)
                have e2 := hbw.cell (hat2 j y hy)
                obtain ⟨z1, z2⟩ := G3.out j x y hx hy
                have hyo := LS2.out y (List.mem_of_getElem? hy)
                have hO := fun w => refOrder x y w (by unfold maxLen; omega) (by unfold maxLen; omega)
                have hgt := cmpS_gt x y
                generalize cmpS x y = q at *
                have HO := Lib.hid hO
                clear hat1 hat2 hx hy hO
                by_cases hs : y.size = x.size
                · have z3 := z2 hs
                  rw [z3] at hgt
                  have z4 : ¬ (0 < q) := by simpa using hgt
                  have z5 : ¬ ((y.size : Int) < (x.size : Int)) := by omega
                  have z6 : ((x.size : Int) == (y.size : Int)) = true := by simp; omega
                  clear hs z1 z2 z3 hgt
                  go_wp2_with fail
                  go_quiet (fail)
                  go_wp2_with fail
                  refine (HO.out _).mono ?_
                  rintro e w7 ⟨rfl, hd7⟩
                  have hd7' : Bl w6 w7 := (by repeat (first | assumption | exact Bl.refl _ | apply Bl.drewN | apply Bl.drew | apply Bl.alloc | (refine Bl.dr ?_ (by assumption)) | (refine Bl.trans ?_ (by assumption))))
                  clear hd7 e1 e2
                  go_wp2_with fail
                  go_roundg (F.marks.length - (j + 1))
                  case rel => exact ⟨j + 1, by omega, by go_num, hd7', rfl⟩
                  case measure => have := G.out; omega
                · have z5 : ¬ ((y.size : Int) < (x.size : Int)) := by omega
                  have z6 : ((x.size : Int) == (y.size : Int)) = false := by simp; omega
                  clear hs z1 z2 hgt
                  go_wp2_with fail
                  go_quiet (fail)
                  go_wp2_with fail
                  go_roundg (F.marks.length - (j + 1))
                  case rel => exact ⟨j + 1, by omega, by go_num, (by repeat (first | assumption | exact Bl.refl _ | apply Bl.drewN | apply Bl.drew | apply Bl.alloc | (refine Bl.dr ?_ (by assumption)) | (refine Bl.trans ?_ (by assumption)))), rfl⟩
                  case measure => have := G.out; omega
              · have q3 : ¬ (j : Int) < (F.marks.length : Int) := by omega
                have q4 : ¬ ((sumSz m : Int) < (sumSz F.marks : Int)) := by have := G2.out; omega
                have q5 : ((F.marks.length : Int) == (m.length : Int)) = true := by have := G1.out; simp; omega
                clear h2
                go_wp2_with fail
                refine (H6.out _ (HOK3.out.bl (by repeat (first | assumption | exact Bl.refl _ | apply Bl.drewN | apply Bl.drew | apply Bl.alloc | (refine Bl.dr ?_ (by assumption)) | (refine Bl.trans ?_ (by assumption)))))).mono ?_; rintro e w7 ⟨rfl, hb7⟩
                have c0 := hb7.cell c0
                have c1 := hb7.cell c1
                have d0 := hb7.cell d0
                have d1 := hb7.cell d1
                have hbw : Bl w w7 := hbw.trans hb7
                clear hb7
                go_wp2_with fail
                refine (H8.out _ (HOK.out.bl (by repeat (first | assumption | exact Bl.refl _ | apply Bl.drewN | apply Bl.drew | apply Bl.alloc | (refine Bl.dr ?_ (by assumption)) | (refine Bl.trans ?_ (by assumption)))))).mono ?_; rintro e w8 ⟨rfl, hb8⟩
                have c0 := hb8.cell c0
                have c1 := hb8.cell c1
                have d0 := hb8.cell d0
                have d1 := hb8.cell d1
                have hbw : Bl w w8 := hbw.trans hb8
                clear hb8
                go_wp2_with fail
                refine (HA.out _).mono ?_; rintro e w9 ⟨rfl, hb9⟩
                go_wp2_with fail
                go_ret
                exact RB.mk rfl (by repeat (first | assumption | exact Bl.refl _ | apply Bl.drewN | apply Bl.drew | apply Bl.alloc | (refine Bl.dr ?_ (by assumption)) | (refine Bl.trans ?_ (by assumption))))
        · have k2' : (v2 != 0) = true := by simp [k2]
          clear k2
          
          go_wp2_with fail
          refine (HA.out _).mono ?_; rintro e w8 ⟨rfl, hb8⟩
          go_wp2_with fail
          go_ret
          exact RB.mk rfl (by repeat (first | assumption | exact Bl.refl _ | apply Bl.drewN | apply Bl.drew | apply Bl.alloc | (refine Bl.dr ?_ (by assumption)) | (refine Bl.trans ?_ (by assumption))))
      · have q1 := HNo.out k3
        have k3' : (v3 != 0) = true := by simp [k3]
        rw [q1]
        clear q1 k3
        go_wp2_with fail
        refine (HA.out _).mono ?_; rintro e w8 ⟨rfl, hb8⟩
        go_wp2_with fail
        go_ret
        exact RB.mk rfl (by repeat (first | assumption | exact Bl.refl _ | apply Bl.drewN | apply Bl.drew | apply Bl.alloc | (refine Bl.dr ?_ (by assumption)) | (refine Bl.trans ?_ (by assumption))))
    · clear hwb
      
      go_wp2_with fail
      refine (HA.out _).mono ?_; rintro e w8 ⟨rfl, hb8⟩
      go_wp2_with fail
      go_ret
      exact RB.mk rfl (by repeat (first | assumption | exact Bl.refl _ | apply Bl.drewN | apply Bl.drew | apply Bl.alloc | (refine Bl.dr ?_ (by assumption)) | (refine Bl.trans ?_ (by assumption))))
  · clear hfb
    
    go_wp2_with fail
    refine (HA.out _).mono ?_; rintro e w8 ⟨rfl, hb8⟩
    go_wp2_with fail
    go_ret
    exact RB.mk rfl (by repeat (first | assumption | exact Bl.refl _ | apply Bl.drewN | apply Bl.drew | apply Bl.alloc | (refine Bl.dr ?_ (by assumption)) | (refine Bl.trans ?_ (by assumption))))
end Go.Proofs.Yteafcbpogomioaa
