/-
  Contracts of fence.Fits, Find and of the reference's Fits, Find.
-/
import Derived.Test.YteafcbpogomioaaFnI
namespace Go.Proofs.Yteafcbpogomioaa
open Go.RowKit
set_option linter.unusedSimpArgs false
set_option linter.unusedVariables false

theorem clchk_len {l : List Ent} (h : (clchk l).2 = 0) : l.length ≤ 5000 := by
  unfold clchk at h; split at h
  · simp at h
  · omega
def ffits (f : Fnc) (l : List Ent) : Bool × Int := if (fchk f).2 ≠ 0 then (false, (fchk f).2) else if (clchk l).2 ≠ 0 then (false, (clchk l).2) else (fitB f.step.toNat f.marks l, 0)

set_option maxRecDepth 100000 in
set_option maxHeartbeats 1000000 in
theorem fenceFits (a : Option Addr) (c : Nat) (f : Fnc) (a2 : Option Addr) (c2 : Nat) (l : List Ent) (w : World) (hf : FOk w a f) (hl : Ents w a2 l) (hn : l.length ≤ maxLen) :
    Calls Try.prog 15 #[f.v a c, .slice a2 l.length c2] w (RB w (.tuple #[.bool (ffits f l).1, .int .i64 (ffits f l).2])) := by
  have hC := fun w h => fenceCheck a c f w h
  have hL := fun w h => entCheckList a2 c2 l w h hn
  have hok := fchk_ok (f := f)
  have hln := clchk_len (l := l)
  unfold ffits
  generalize (fchk f).1 = q0 at *
  generalize (fchk f).2 = q1 at *
  generalize (clchk l).1 = q2 at *
  generalize (clchk l).2 = q3 at *
  have HF := Lib.hid hf
  have HE := Lib.hid hl
  obtain ⟨s, m⟩ := f
  unfold Fnc.v at hC ⊢
  simp only at hC hok ⊢
  have HC := Lib.hid hC
  have HL := Lib.hid hL
  clear hC hL hf hl
  by_cases e1 : q1 = 0
  · have e1' : (q1 != 0) = false := by simp [e1]
    rw [if_neg (by simp [e1])]
    obtain ⟨s1, s2, s3, -, -⟩ := hok e1
    clear e1 hok
    by_cases e2 : q3 = 0
    · have e2' : (q3 != 0) = false := by simp [e2]
      rw [if_neg (by simp [e2])]
      have hln := hln e2
      clear e2
      obtain ⟨s, rfl⟩ := Int.eq_ofNat_of_zero_le (show 0 ≤ s by omega)
      rw [Int.toNat_natCast]
      have hI := fun g w h1 h2 => fenceFitsIn a c s m a2 c2 l g w h1 h2 (by omega) (by omega) s3 hln
      generalize fitB s m l = b at *
      have HI := Lib.hid hI
      clear hI
      go_enter Try.func15, Try.ntmps15
      go_wp2_with fail
      refine (HC.out _ (HF.out.bl (by repeat (first | assumption | exact Bl.refl _ | apply Bl.drewN | apply Bl.drew | apply Bl.alloc | (refine Bl.dr ?_ (by assumption)) | (refine Bl.trans ?_ (by assumption)))))).mono ?_; rintro e w1 ⟨rfl, hb1⟩
      have c0 : w1.cell? ⟨w.heap.size, 0, none⟩ = some (.int .i64 (s : Int)) := hb1.cell (by simp [go_sem])
      have c1 : w1.cell? ⟨w.heap.size, 1, none⟩ = some (.slice a m.length c) := hb1.cell (by simp [go_sem])
      have hb : Bl w w1 := (by repeat (first | assumption | exact Bl.refl _ | apply Bl.drewN | apply Bl.drew | apply Bl.alloc | (refine Bl.dr ?_ (by assumption)) | (refine Bl.trans ?_ (by assumption))))
      clear hb1
      go_wp2_with fail
      refine (HL.out _ (HE.out.bl (by repeat (first | assumption | exact Bl.refl _ | apply Bl.drewN | apply Bl.drew | apply Bl.alloc | (refine Bl.dr ?_ (by assumption)) | (refine Bl.trans ?_ (by assumption)))))).mono ?_; rintro e w2 ⟨rfl, hb2⟩
      go_wp2_with fail
      refine (HI.out _ _ (HF.out.strs.bl (by repeat (first | assumption | exact Bl.refl _ | apply Bl.drewN | apply Bl.drew | apply Bl.alloc | (refine Bl.dr ?_ (by assumption)) | (refine Bl.trans ?_ (by assumption))))) (HE.out.bl (by repeat (first | assumption | exact Bl.refl _ | apply Bl.drewN | apply Bl.drew | apply Bl.alloc | (refine Bl.dr ?_ (by assumption)) | (refine Bl.trans ?_ (by assumption))))) (hb2.cell c0) (hb2.cell c1)).mono ?_; rintro e w' ⟨rfl, n1, rfl⟩
      go_wp2_with fail
      go_ret2
      exact rb_tuple rfl rfl (by repeat (first | assumption | exact Bl.refl _ | apply Bl.drewN | apply Bl.drew | apply Bl.alloc | (refine Bl.dr ?_ (by assumption)) | (refine Bl.trans ?_ (by assumption))))
    · have e2' : (q3 != 0) = true := by simp [e2]
      rw [if_pos e2]
      clear e2 hln
      go_enter Try.func15, Try.ntmps15
      go_wp2_with fail
      refine (HC.out _ (HF.out.bl (by repeat (first | assumption | exact Bl.refl _ | apply Bl.drewN | apply Bl.drew | apply Bl.alloc | (refine Bl.dr ?_ (by assumption)) | (refine Bl.trans ?_ (by assumption)))))).mono ?_; rintro e w1 ⟨rfl, hb1⟩
      go_wp2_with fail
      refine (HL.out _ (HE.out.bl (by repeat (first | assumption | exact Bl.refl _ | apply Bl.drewN | apply Bl.drew | apply Bl.alloc | (refine Bl.dr ?_ (by assumption)) | (refine Bl.trans ?_ (by assumption)))))).mono ?_; rintro e w2 ⟨rfl, hb2⟩
      go_wp2_with fail
      go_ret2
      exact rb_tuple rfl rfl (by repeat (first | assumption | exact Bl.refl _ | apply Bl.drewN | apply Bl.drew | apply Bl.alloc | (refine Bl.dr ?_ (by assumption)) | (refine Bl.trans ?_ (by assumption))))
  · have e1' : (q1 != 0) = true := by simp [e1]
    rw [if_pos e1]
    clear e1 hok hln
    go_enter Try.func15, Try.ntmps15
    go_wp2_with fail
    refine (HC.out _ (HF.out.bl (by repeat (first | assumption | exact Bl.refl _ | apply Bl.drewN | apply Bl.drew | apply Bl.alloc | (refine Bl.dr ?_ (by assumption)) | (refine Bl.trans ?_ (by assumption)))))).mono ?_; rintro e w1 ⟨rfl, hb1⟩
    go_wp2_with fail
    go_ret2
    exact rb_tuple rfl rfl (by repeat (first | assumption | exact Bl.refl _ | apply Bl.drewN | apply Bl.drew | apply Bl.alloc | (refine Bl.dr ?_ (by assumption)) | (refine Bl.trans ?_ (by assumption))))

set_option maxRecDepth 100000 in
set_option maxHeartbeats 1000000 in
theorem refFits (a : Option Addr) (c : Nat) (f : Fnc) (a2 : Option Addr) (c2 : Nat) (l : List Ent) (w : World) (hf : FOk w a f) (hl : Ents w a2 l) (hn : l.length ≤ maxLen) :
    Calls Try.prog 16 #[f.v a c, .slice a2 l.length c2] w (RB w (.tuple #[.bool (ffits f l).1, .int .i64 (ffits f l).2])) := by
  have hC := fun w h => refFenceCheck a c f w h
  have hL := fun w h => refCheckList a2 c2 l w h hn
  have hok := fchk_ok (f := f)
  have hln := clchk_len (l := l)
  unfold ffits
  generalize (fchk f).1 = q0 at *
  generalize (fchk f).2 = q1 at *
  generalize (clchk l).1 = q2 at *
  generalize (clchk l).2 = q3 at *
  have HF := Lib.hid hf
  have HE := Lib.hid hl
  obtain ⟨s, m⟩ := f
  unfold Fnc.v at hC ⊢
  simp only at hC hok ⊢
  have HC := Lib.hid hC
  have HL := Lib.hid hL
  clear hC hL hf hl
  by_cases e1 : q1 = 0
  · have e1' : (q1 == 0) = true := by simp [e1]
    rw [if_neg (by simp [e1])]
    obtain ⟨s1, s2, s3, -, -⟩ := hok e1
    clear e1 hok
    by_cases e2 : q3 = 0
    · have e2' : (q3 == 0) = true := by simp [e2]
      rw [if_neg (by simp [e2])]
      have hln := hln e2
      have E2 := Lib.hid e2
      clear e2
      obtain ⟨s, rfl⟩ := Int.eq_ofNat_of_zero_le (show 0 ≤ s by omega)
      rw [Int.toNat_natCast]
      have hI := fun w h1 h2 => refFitsIn a c s m a2 c2 l w h1 h2 (by omega) (by omega) s3 hln
      generalize fitB s m l = b at *
      have HI := Lib.hid hI
      clear hI
      go_enter Try.func16, Try.ntmps16
      go_wp2_with fail
      refine (HC.out _ (HF.out.bl (by repeat (first | assumption | exact Bl.refl _ | apply Bl.drewN | apply Bl.drew | apply Bl.alloc | (refine Bl.dr ?_ (by assumption)) | (refine Bl.trans ?_ (by assumption)))))).mono ?_; rintro e w1 ⟨rfl, hb1⟩
      have c0 : w1.cell? ⟨w.heap.size, 0, none⟩ = some (.int .i64 (s : Int)) := hb1.cell (by simp [go_sem])
      have c1 : w1.cell? ⟨w.heap.size, 1, none⟩ = some (.slice a m.length c) := hb1.cell (by simp [go_sem])
      have hb : Bl w w1 := (by repeat (first | assumption | exact Bl.refl _ | apply Bl.drewN | apply Bl.drew | apply Bl.alloc | (refine Bl.dr ?_ (by assumption)) | (refine Bl.trans ?_ (by assumption))))
      clear hb1
      go_wp2_with fail
      refine (HL.out _ (HE.out.bl (by repeat (first | assumption | exact Bl.refl _ | apply Bl.drewN | apply Bl.drew | apply Bl.alloc | (refine Bl.dr ?_ (by assumption)) | (refine Bl.trans ?_ (by assumption)))))).mono ?_; rintro e w2 ⟨rfl, hb2⟩
      have c0 := hb2.cell c0
      have c1 := hb2.cell c1
      go_wp2_with fail
      refine (HI.out _ (HF.out.strs.bl (by repeat (first | assumption | exact Bl.refl _ | apply Bl.drewN | apply Bl.drew | apply Bl.alloc | (refine Bl.dr ?_ (by assumption)) | (refine Bl.trans ?_ (by assumption))))) (HE.out.bl (by repeat (first | assumption | exact Bl.refl _ | apply Bl.drewN | apply Bl.drew | apply Bl.alloc | (refine Bl.dr ?_ (by assumption)) | (refine Bl.trans ?_ (by assumption)))))).mono ?_; rintro e w3 ⟨rfl, hb3⟩
      go_wp2_with fail
      go_ret2
      exact rb_tuple rfl (ival E2.out) (by repeat (first | assumption | exact Bl.refl _ | apply Bl.drewN | apply Bl.drew | apply Bl.alloc | (refine Bl.dr ?_ (by assumption)) | (refine Bl.trans ?_ (by assumption))))
    · have e2' : (q3 == 0) = false := by simp [e2]
      rw [if_pos e2]
      clear e2 hln
      go_enter Try.func16, Try.ntmps16
      go_wp2_with fail
      refine (HC.out _ (HF.out.bl (by repeat (first | assumption | exact Bl.refl _ | apply Bl.drewN | apply Bl.drew | apply Bl.alloc | (refine Bl.dr ?_ (by assumption)) | (refine Bl.trans ?_ (by assumption)))))).mono ?_; rintro e w1 ⟨rfl, hb1⟩
      go_wp2_with fail
      refine (HL.out _ (HE.out.bl (by repeat (first | assumption | exact Bl.refl _ | apply Bl.drewN | apply Bl.drew | apply Bl.alloc | (refine Bl.dr ?_ (by assumption)) | (refine Bl.trans ?_ (by assumption)))))).mono ?_; rintro e w2 ⟨rfl, hb2⟩
      go_wp2_with fail
      go_ret2
      exact rb_tuple rfl rfl (by repeat (first | assumption | exact Bl.refl _ | apply Bl.drewN | apply Bl.drew | apply Bl.alloc | (refine Bl.dr ?_ (by assumption)) | (refine Bl.trans ?_ (by assumption))))
  · have e1' : (q1 == 0) = false := by simp [e1]
    rw [if_pos e1]
    clear e1 hok hln
    go_enter Try.func16, Try.ntmps16
    go_wp2_with fail
    refine (HC.out _ (HF.out.bl (by repeat (first | assumption | exact Bl.refl _ | apply Bl.drewN | apply Bl.drew | apply Bl.alloc | (refine Bl.dr ?_ (by assumption)) | (refine Bl.trans ?_ (by assumption)))))).mono ?_; rintro e w1 ⟨rfl, hb1⟩
    go_wp2_with fail
    go_ret2
    exact rb_tuple rfl rfl (by repeat (first | assumption | exact Bl.refl _ | apply Bl.drewN | apply Bl.drew | apply Bl.alloc | (refine Bl.dr ?_ (by assumption)) | (refine Bl.trans ?_ (by assumption))))
end Go.Proofs.Yteafcbpogomioaa
