/-
  The law FenceMakes, walked.
-/
import Derived.Test.YteafcbpogomioaaFnP
namespace Go.Proofs.Yteafcbpogomioaa
open Go.RowKit
set_option linter.unusedSimpArgs false
set_option linter.unusedVariables false

theorem fmake_len (l : List Ent) (s : Int) (h : l.length ≤ 5010) : (fmake l s).1.marks.length ≤ 5010 := by
  unfold fmake
  split
  · simp
  · split
    · simp
    · rename_i h2
      rw [mkMs_len]
      have := (ceil_facts l.length s.toNat (by omega)).2.2
      unfold cnt; omega
theorem fmake_step (l : List Ent) (s : Int) (h1 : -9223372036854775808 ≤ s) (h2 : s ≤ 9223372036854775807) : -9223372036854775808 ≤ (fmake l s).1.step ∧ (fmake l s).1.step ≤ 9223372036854775807 := by
  unfold fmake
  split
  · simp
  · split
    · simp
    · exact ⟨h1, h2⟩

set_option maxRecDepth 100000 in
set_option maxHeartbeats 4000000 in
theorem lawMakes (a : Option Addr) (c : Nat) (l : List Ent) (s : Int) (a2 : Option Addr) (c2 : Nat) (f : Fnc) (w : World) (hl : Ents w a l) (hn : l.length ≤ c) (hc : c ≤ maxLen) (hlo : -9223372036854775808 ≤ s) (hhi : s ≤ 9223372036854775807)
    (hm : Strs w a2 f.marks) (hmn : f.marks.length ≤ maxLen) (hs1 : -9223372036854775808 ≤ f.step) (hs2 : f.step ≤ 9223372036854775807) :
    Calls Try.prog 3 #[.slice a l.length c, .int .i64 s, f.v a2 c2] w (RB w (.bool true)) := by
  have HA := Lib.hid (fun w => lawAwake w)
  have HFar := Lib.hid (fun w h => lawFar a c l w h (Nat.le_trans hn hc))
  have hW := fun w h => lawWide a2 c2 f w h hmn
  have HM := Lib.hid (fun w h => fenceMake a c l s w h hn hc hlo hhi)
  have HM2 := Lib.hid (fun w h => refMake a c l s w h (Nat.le_trans hn hc) hlo hhi)
  have hF := fun w h1 h2 => fenceFits a2 c2 f a c l w h1 h2 (Nat.le_trans hn hc)
  have hF2 := fun w h1 h2 => refFits a2 c2 f a c l w h1 h2 (Nat.le_trans hn hc)
  have hSm := fun (h : l.length ≤ 5010) a c a' c' w h1 h2 => refSame a c a' c' (fmake l s).1 w h1 h2 (fmake_len l s h)
  have hfok : f.marks.length ≤ 5010 → FOk w a2 f := fun h => ⟨hm, by omega, hs1, hs2⟩
  have HL := Lib.hid hl
  have HMk := Lib.hid hm
  generalize (ffits f l).1 = v1 at *
  generalize (ffits f l).2 = v2 at *
  generalize hgf : (fmake l s).1 = F at *
  generalize (fmake l s).2 = v3 at *
  obtain ⟨st, m⟩ := f
  unfold Fnc.v at hW hF hF2 hSm ⊢
  simp only at hW hF hF2 hs1 hs2 hfok ⊢
  have HW := Lib.hid hW
  have HF := Lib.hid hF
  have HF2 := Lib.hid hF2
  have HSm := Lib.hid hSm
  have HOk := Lib.hid hfok
  clear hW hF hF2 hSm hfok hl hm hgf
  go_enter Try.func3, Try.ntmps3
  go_wp2_with fail
  refine (HFar.out _ (HL.out.bl (by repeat (first | assumption | exact Bl.refl _ | apply Bl.drewN | apply Bl.drew | apply Bl.alloc | (refine Bl.dr ?_ (by assumption)) | (refine Bl.trans ?_ (by assumption)))))).mono ?_; rintro e w1 ⟨fb, rfl, hfb, hb1⟩
  have c0 : w1.cell? ⟨w.heap.size, 0, none⟩ = some (.int .i64 st) := hb1.cell (by simp [go_sem])
  have c1 : w1.cell? ⟨w.heap.size, 1, none⟩ = some (.slice a2 m.length c2) := hb1.cell (by simp [go_sem])
  have hb : Bl w w1 := (by repeat (first | assumption | exact Bl.refl _ | apply Bl.drewN | apply Bl.drew | apply Bl.alloc | (refine Bl.dr ?_ (by assumption)) | (refine Bl.trans ?_ (by assumption))))
  have hsz := lt_of_cell c0
  clear hb1
  cases fb
  · have hlen := hfb rfl
    clear hfb
    go_wp2_with fail
    refine (HW.out _ (HMk.out.bl (by repeat (first | assumption | exact Bl.refl _ | apply Bl.drewN | apply Bl.drew | apply Bl.alloc | (refine Bl.dr ?_ (by assumption)) | (refine Bl.trans ?_ (by assumption)))))).mono ?_; rintro e w2 ⟨wb, rfl, hwb, hb2⟩
    have c0 := hb2.cell c0
    have c1 := hb2.cell c1
    have hb' : Bl w w2 := hb.trans hb2
    clear hb hb2
    cases wb
    · have hok := HOk.out (hwb rfl)
      have HSm := Lib.hid (HSm.out hlen)
      have HOK := Lib.hid hok
      clear hwb hlen hok
      go_wp2_with fail
      refine (HM.out _ (HL.out.bl (by repeat (first | assumption | exact Bl.refl _ | apply Bl.drewN | apply Bl.drew | apply Bl.alloc | (refine Bl.dr ?_ (by assumption)) | (refine Bl.trans ?_ (by assumption)))))).mono ?_; rintro e w3 ⟨v, rfl, ⟨a3, c3, rfl, hst3, hc3, hc3'⟩, hb3⟩
      have c0 := hb3.cell c0
      have c1 := hb3.cell c1
      have hb : Bl w w3 := hb'.trans hb3
      clear hb' hb3
      unfold Fnc.v
      go_wp2_with fail
      refine (HM2.out _ (HL.out.bl (by repeat (first | assumption | exact Bl.refl _ | apply Bl.drewN | apply Bl.drew | apply Bl.alloc | (refine Bl.dr ?_ (by assumption)) | (refine Bl.trans ?_ (by assumption)))))).mono ?_; rintro e w4 ⟨v, rfl, ⟨a4, c4, rfl, hst4, hc4, hc4'⟩, hb4⟩
      have c0 := hb4.cell (((Bl.refl w3).alloc _).cell c0)
      have c1 := hb4.cell (((Bl.refl w3).alloc _).cell c1)
      have d0 : w4.cell? ⟨w3.heap.size, 0, none⟩ = some (.int .i64 F.step) := hb4.cell (by simp [go_sem])
      have d1 : w4.cell? ⟨w3.heap.size, 1, none⟩ = some (.slice a3 F.marks.length c3) := hb4.cell (by simp [go_sem])
      have hst3' := hst3.bl (((Bl.refl w3).alloc _).trans hb4)
      have hb : Bl w w4 := (by repeat (first | assumption | exact Bl.refl _ | apply Bl.drewN | apply Bl.drew | apply Bl.alloc | (refine Bl.dr ?_ (by assumption)) | (refine Bl.trans ?_ (by assumption))))
      have z0 : w.heap.size < w4.heap.size := lt_of_cell c0
      have z1 : w3.heap.size < w4.heap.size := lt_of_cell d0
      clear hb4 hst3
      unfold Fnc.v
      go_wp2_with fail
      refine (HF.out _ (HOK.out.bl (by repeat (first | assumption | exact Bl.refl _ | apply Bl.drewN | apply Bl.drew | apply Bl.alloc | (refine Bl.dr ?_ (by assumption)) | (refine Bl.trans ?_ (by assumption))))) (HL.out.bl (by repeat (first | assumption | exact Bl.refl _ | apply Bl.drewN | apply Bl.drew | apply Bl.alloc | (refine Bl.dr ?_ (by assumption)) | (refine Bl.trans ?_ (by assumption)))))).mono ?_; rintro e w5 ⟨rfl, hb5⟩
      have c0 := hb5.cell (((Bl.refl w4).alloc _).cell c0)
      have c1 := hb5.cell (((Bl.refl w4).alloc _).cell c1)
      have d0 := hb5.cell (((Bl.refl w4).alloc _).cell d0)
      have d1 := hb5.cell (((Bl.refl w4).alloc _).cell d1)
      have f0 : w5.cell? ⟨w4.heap.size, 0, none⟩ = some (.int .i64 F.step) := hb5.cell (by simp [go_sem])
      have f1 : w5.cell? ⟨w4.heap.size, 1, none⟩ = some (.slice a4 F.marks.length c4) := hb5.cell (by simp [go_sem])
      have hb45 : Bl w4 w5 := ((Bl.refl w4).alloc _).trans hb5
      clear hb5
      go_wp2_with fail
      refine (HF2.out _ (HOK.out.bl (by repeat (first | assumption | exact Bl.refl _ | apply Bl.drewN | apply Bl.drew | apply Bl.alloc | (refine Bl.dr ?_ (by assumption)) | (refine Bl.trans ?_ (by assumption))))) (HL.out.bl (by repeat (first | assumption | exact Bl.refl _ | apply Bl.drewN | apply Bl.drew | apply Bl.alloc | (refine Bl.dr ?_ (by assumption)) | (refine Bl.trans ?_ (by assumption)))))).mono ?_; rintro e w6 ⟨rfl, hb6⟩
      have d0 := hb6.cell d0
      have d1 := hb6.cell d1
      have f0 := hb6.cell f0
      have f1 := hb6.cell f1
      have hb46 : Bl w4 w6 := hb45.trans hb6
      clear hb6 hb45
      go_wp2_with fail
      refine (HSm.out _ _ _ _ _ (hst3'.bl hb46) (hst4.bl hb46)).mono ?_; rintro e w7 ⟨rfl, hb7⟩
      have k1 : (v3 == v3) = true := by simp
      have k2 : (v2 == v2) = true := by simp
      have k3 : (v1 == v1) = true := by simp
      go_wp2_with fail
      refine (HA.out _).mono ?_; rintro e w8 ⟨rfl, hb8⟩
      go_wp2_with fail
      go_ret
      exact RB.mk rfl (by repeat (first | assumption | exact Bl.refl _ | apply Bl.drewN | apply Bl.drew | apply Bl.alloc | (refine Bl.dr ?_ (by assumption)) | (refine Bl.trans ?_ (by assumption))))
    · clear hwb
      go_wp2_with fail
      refine (HA.out _).mono ?_; rintro e w8 ⟨rfl, hb8⟩
      go_wp2_with fail
      go_ret
      exact RB.mk rfl (by repeat (first | assumption | exact Bl.refl _ | apply Bl.drewN | apply Bl.drew | apply Bl.alloc | (refine Bl.dr ?_ (by assumption)) | (refine Bl.trans ?_ (by assumption))))
  · clear hfb
    go_wp2_with fail
    refine (HA.out _).mono ?_; rintro e w8 ⟨rfl, hb8⟩
    go_wp2_with fail
    go_ret
    exact RB.mk rfl (by repeat (first | assumption | exact Bl.refl _ | apply Bl.drewN | apply Bl.drew | apply Bl.alloc | (refine Bl.dr ?_ (by assumption)) | (refine Bl.trans ?_ (by assumption))))
end Go.Proofs.Yteafcbpogomioaa
