/-
  Contracts of fence.Blocks and of the reference's Blocks.
-/
import Derived.Test.YteafcbpogomioaaFnG
namespace Go.Proofs.Yteafcbpogomioaa
open Go.RowKit
set_option linter.unusedSimpArgs false
set_option linter.unusedVariables false

def blks (f : Fnc) (r : Rng) : Int × Int × Int :=
  if (fchk f).2 ≠ 0 then (0, 0, (fchk f).2) else if (remp r).2 ≠ 0 then (0, 0, (remp r).2) else if (remp r).1 = true then (0, 0, 0)
  else ((cntLe f.marks r.lo : Int), (if r.bd = true then (cntLt f.marks r.hi : Int) else (f.marks.length : Int)) + 1, 0)

theorem fenceHiIn (a : Option Addr) (c : Nat) (l : List ByteArray) (k : ByteArray) (g : Nat) (w : World) (hl : Strs w a l) (hn : l.length ≤ 4611686018427387904) (hs : Asc l)
    (h1 : w.cell? ⟨g, 1, none⟩ = some (.string k)) :
    Calls Try.prog 49 #[.slice a l.length c, .func (.func 50) #[] #[.pointer (some ⟨g, 0, none⟩)]] w (RB w (.int .i64 (cntLt l k : Int))) := by
  have hp := cntLt_part hs k
  exact firstS 50 #[.pointer (some ⟨g, 0, none⟩)] a c l (fun m => !slt m k) (cntLt l k) w cfBlocks1 hl hn
      (fun x w' _ hb' => blocks1 x k g w' (hb'.cell h1)) (cntLt_le l k) hp.1 hp.2

set_option maxRecDepth 100000 in
set_option maxHeartbeats 2000000 in
theorem fenceBlocks (a : Option Addr) (c : Nat) (f : Fnc) (r : Rng) (w : World) (hf : FOk w a f) (hr : r.ok) :
    Calls Try.prog 24 #[f.v a c, r.v] w (RB w (.tuple #[.int .i64 (blks f r).1, .int .i64 (blks f r).2.1, .int .i64 (blks f r).2.2])) := by
  have hC := fun w h => fenceCheck a c f w h
  have hE := fun w => keysEmpty r w hr
  have hok := fchk_ok (f := f)
  have hB := fun (hs : Asc f.marks) g w h => fenceBlockIn a c f.marks r.lo g w h hf.len hs
  have hH := fun (hs : Asc f.marks) g w h => fenceHiIn a c f.marks r.hi g w h hf.len hs
  have h5 := hf.len
  unfold blks
  generalize (fchk f).1 = q0 at *
  generalize (fchk f).2 = q1 at *
  generalize (remp r).1 = b1 at *
  generalize (remp r).2 = q2 at *
  have HF := Lib.hid hf
  have l1 := cntLe_le f.marks r.lo
  have l2 := cntLt_le f.marks r.hi
  obtain ⟨s, l⟩ := f
  obtain ⟨lo, hi, bd⟩ := r
  unfold Fnc.v Rng.v at *
  simp only at hC hE hok hB hH h5 l1 l2 ⊢
  generalize cntLe l lo = r1 at *
  generalize cntLt l hi = r2 at *
  have HC := Lib.hid hC
  have HE := Lib.hid hE
  clear hC hE hf hr
  by_cases e1 : q1 = 0
  · obtain ⟨s1, s2, s3, s4, s5⟩ := hok e1
    have hB' := hB s5
    have hH' := hH s5
    have HB := Lib.hid hB'
    have HH := Lib.hid hH'
    clear hok s4 s5 hB hH hB' hH'
    have e1' : (q1 != 0) = false := by simp [e1]
    rw [if_neg (by simp [e1])]
    by_cases e2 : q2 = 0
    · have e2' : (q2 != 0) = false := by simp [e2]
      rw [if_neg (by simp [e2])]
      clear e1 e2
      cases b1
      · rw [if_neg (by simp)]
        cases bd
        · rw [if_neg (by simp)]
          go_enter Try.func24, Try.ntmps24
          go_wp2_with fail
          refine (HC.out _ (HF.out.bl (by repeat (first | assumption | exact Bl.refl _ | apply Bl.drewN | apply Bl.drew | apply Bl.alloc | (refine Bl.dr ?_ (by assumption)) | (refine Bl.trans ?_ (by assumption)))))).mono ?_; rintro e w1 ⟨rfl, hb1⟩
          have c1 : w1.cell? ⟨w.heap.size, 1, none⟩ = some (.slice a l.length c) := hb1.cell (by simp [go_sem])
          have d0 : w1.cell? ⟨w.heap.size + 1, 0, none⟩ = some (.string lo) := hb1.cell (by simp [go_sem])
          have d1 : w1.cell? ⟨w.heap.size + 1, 1, none⟩ = some (.string hi) := hb1.cell (by simp [go_sem])
          have d2 : w1.cell? ⟨w.heap.size + 1, 2, none⟩ = some (.bool false) := hb1.cell (by simp [go_sem])
          have hb : Bl w w1 := (by repeat (first | assumption | exact Bl.refl _ | apply Bl.drewN | apply Bl.drew | apply Bl.alloc | (refine Bl.dr ?_ (by assumption)) | (refine Bl.trans ?_ (by assumption))))
          clear hb1
          go_wp2_with fail
          refine (HE.out _).mono ?_; rintro e w2 ⟨rfl, hb2⟩
          have c1 := hb2.cell c1
          have d0 := hb2.cell d0
          have d1 := hb2.cell d1
          have d2 := hb2.cell d2
          have hb : Bl w w2 := (by repeat (first | assumption | exact Bl.refl _ | apply Bl.drewN | apply Bl.drew | apply Bl.alloc | (refine Bl.dr ?_ (by assumption)) | (refine Bl.trans ?_ (by assumption))))
          clear hb2
          go_wp2_with fail
          refine (HB.out _ _ (HF.out.strs.bl (by repeat (first | assumption | exact Bl.refl _ | apply Bl.drewN | apply Bl.drew | apply Bl.alloc | (refine Bl.dr ?_ (by assumption)) | (refine Bl.trans ?_ (by assumption))))) c1).mono ?_; rintro e w3 ⟨rfl, hb3⟩
          go_wp2_with fail
          go_ret3
          exact rb_tuple3 rfl rfl rfl (by repeat (first | assumption | exact Bl.refl _ | apply Bl.drewN | apply Bl.drew | apply Bl.alloc | (refine Bl.dr ?_ (by assumption)) | (refine Bl.trans ?_ (by assumption))))
        · rw [if_pos rfl]
          go_enter Try.func24, Try.ntmps24
          go_wp2_with fail
          refine (HC.out _ (HF.out.bl (by repeat (first | assumption | exact Bl.refl _ | apply Bl.drewN | apply Bl.drew | apply Bl.alloc | (refine Bl.dr ?_ (by assumption)) | (refine Bl.trans ?_ (by assumption)))))).mono ?_; rintro e w1 ⟨rfl, hb1⟩
          have c1 : w1.cell? ⟨w.heap.size, 1, none⟩ = some (.slice a l.length c) := hb1.cell (by simp [go_sem])
          have d0 : w1.cell? ⟨w.heap.size + 1, 0, none⟩ = some (.string lo) := hb1.cell (by simp [go_sem])
          have d1 : w1.cell? ⟨w.heap.size + 1, 1, none⟩ = some (.string hi) := hb1.cell (by simp [go_sem])
          have d2 : w1.cell? ⟨w.heap.size + 1, 2, none⟩ = some (.bool true) := hb1.cell (by simp [go_sem])
          have hb : Bl w w1 := (by repeat (first | assumption | exact Bl.refl _ | apply Bl.drewN | apply Bl.drew | apply Bl.alloc | (refine Bl.dr ?_ (by assumption)) | (refine Bl.trans ?_ (by assumption))))
          clear hb1
          go_wp2_with fail
          refine (HE.out _).mono ?_; rintro e w2 ⟨rfl, hb2⟩
          have c1 := hb2.cell c1
          have d0 := hb2.cell d0
          have d1 := hb2.cell d1
          have d2 := hb2.cell d2
          have hb : Bl w w2 := (by repeat (first | assumption | exact Bl.refl _ | apply Bl.drewN | apply Bl.drew | apply Bl.alloc | (refine Bl.dr ?_ (by assumption)) | (refine Bl.trans ?_ (by assumption))))
          clear hb2
          go_wp2_with fail
          refine (HH.out _ _ (HF.out.strs.bl (by repeat (first | assumption | exact Bl.refl _ | apply Bl.drewN | apply Bl.drew | apply Bl.alloc | (refine Bl.dr ?_ (by assumption)) | (refine Bl.trans ?_ (by assumption))))) d1).mono ?_; rintro e w3 ⟨rfl, hb3⟩
          have c1 := hb3.cell c1
          have d0 := hb3.cell d0
          have hb : Bl w w3 := (by repeat (first | assumption | exact Bl.refl _ | apply Bl.drewN | apply Bl.drew | apply Bl.alloc | (refine Bl.dr ?_ (by assumption)) | (refine Bl.trans ?_ (by assumption))))
          clear hb3
          go_wp2_with fail
          refine (HB.out _ _ (HF.out.strs.bl (by repeat (first | assumption | exact Bl.refl _ | apply Bl.drewN | apply Bl.drew | apply Bl.alloc | (refine Bl.dr ?_ (by assumption)) | (refine Bl.trans ?_ (by assumption))))) c1).mono ?_; rintro e w4 ⟨rfl, hb4⟩
          go_wp2_with fail
          go_ret3
          exact rb_tuple3 rfl rfl rfl (by repeat (first | assumption | exact Bl.refl _ | apply Bl.drewN | apply Bl.drew | apply Bl.alloc | (refine Bl.dr ?_ (by assumption)) | (refine Bl.trans ?_ (by assumption))))
      · rw [if_pos rfl]
        go_enter Try.func24, Try.ntmps24
        go_wp2_with fail
        refine (HC.out _ (HF.out.bl (by repeat (first | assumption | exact Bl.refl _ | apply Bl.drewN | apply Bl.drew | apply Bl.alloc | (refine Bl.dr ?_ (by assumption)) | (refine Bl.trans ?_ (by assumption)))))).mono ?_; rintro e w1 ⟨rfl, hb1⟩
        have d0 : w1.cell? ⟨w.heap.size + 1, 0, none⟩ = some (.string lo) := hb1.cell (by simp [go_sem])
        have d1 : w1.cell? ⟨w.heap.size + 1, 1, none⟩ = some (.string hi) := hb1.cell (by simp [go_sem])
        have d2 : w1.cell? ⟨w.heap.size + 1, 2, none⟩ = some (.bool bd) := hb1.cell (by simp [go_sem])
        go_wp2_with fail
        refine (HE.out _).mono ?_; rintro e w2 ⟨rfl, hb2⟩
        go_wp2_with fail
        go_ret3
        exact rb_tuple3 rfl rfl rfl (by repeat (first | assumption | exact Bl.refl _ | apply Bl.drewN | apply Bl.drew | apply Bl.alloc | (refine Bl.dr ?_ (by assumption)) | (refine Bl.trans ?_ (by assumption))))
    · have e2' : (q2 != 0) = true := by simp [e2]
      rw [if_pos e2]
      clear e1 e2
      go_enter Try.func24, Try.ntmps24
      go_wp2_with fail
      refine (HC.out _ (HF.out.bl (by repeat (first | assumption | exact Bl.refl _ | apply Bl.drewN | apply Bl.drew | apply Bl.alloc | (refine Bl.dr ?_ (by assumption)) | (refine Bl.trans ?_ (by assumption)))))).mono ?_; rintro e w1 ⟨rfl, hb1⟩
      have d0 : w1.cell? ⟨w.heap.size + 1, 0, none⟩ = some (.string lo) := hb1.cell (by simp [go_sem])
      have d1 : w1.cell? ⟨w.heap.size + 1, 1, none⟩ = some (.string hi) := hb1.cell (by simp [go_sem])
      have d2 : w1.cell? ⟨w.heap.size + 1, 2, none⟩ = some (.bool bd) := hb1.cell (by simp [go_sem])
      go_wp2_with fail
      refine (HE.out _).mono ?_; rintro e w2 ⟨rfl, hb2⟩
      go_wp2_with fail
      go_ret3
      exact rb_tuple3 rfl rfl rfl (by repeat (first | assumption | exact Bl.refl _ | apply Bl.drewN | apply Bl.drew | apply Bl.alloc | (refine Bl.dr ?_ (by assumption)) | (refine Bl.trans ?_ (by assumption))))
  · have e1' : (q1 != 0) = true := by simp [e1]
    rw [if_pos e1]
    clear e1 hok hB hH
    go_enter Try.func24, Try.ntmps24
    go_wp2_with fail
    refine (HC.out _ (HF.out.bl (by repeat (first | assumption | exact Bl.refl _ | apply Bl.drewN | apply Bl.drew | apply Bl.alloc | (refine Bl.dr ?_ (by assumption)) | (refine Bl.trans ?_ (by assumption)))))).mono ?_; rintro e w1 ⟨rfl, hb1⟩
    go_wp2_with fail
    go_ret3
    exact rb_tuple3 rfl rfl rfl (by repeat (first | assumption | exact Bl.refl _ | apply Bl.drewN | apply Bl.drew | apply Bl.alloc | (refine Bl.dr ?_ (by assumption)) | (refine Bl.trans ?_ (by assumption))))

theorem remp_chk (r : Rng) : (remp r).2 = rchk r := by unfold remp; split <;> simp_all

set_option maxRecDepth 100000 in
set_option maxHeartbeats 2000000 in
theorem refBlocks (a : Option Addr) (c : Nat) (f : Fnc) (r : Rng) (w : World) (hf : FOk w a f) (hr : r.ok) :
    Calls Try.prog 25 #[f.v a c, r.v] w (RB w (.tuple #[.int .i64 (blks f r).1, .int .i64 (blks f r).2.1, .int .i64 (blks f r).2.2])) := by
  have hC := fun w h => refFenceCheck a c f w h
  have hE := fun w => refEmpty r w hr
  have hR := fun w => refCheckRange r w hr
  have hB := fun w h => refBelow a c f r.lo w h hr.1
  have hH := fun w h => refBelow a c f r.hi w h hr.2
  have h5 := hf.len
  unfold blks
  rw [remp_chk] at *
  generalize (fchk f).1 = q0 at *
  generalize (fchk f).2 = q1 at *
  generalize (remp r).1 = b1 at *
  generalize rchk r = q2 at *
  have HF := Lib.hid hf
  have l1 := cntLe_le f.marks r.lo
  have l2 := cntLt_le f.marks r.hi
  obtain ⟨s, l⟩ := f
  obtain ⟨lo, hi, bd⟩ := r
  unfold Fnc.v Rng.v at *
  simp only at hC hE hR hB hH h5 l1 l2 ⊢
  generalize cntLe l lo = r1 at *
  generalize cntLt l hi = r2 at *
  generalize cntLe l hi = r3 at *
  generalize cntLt l lo = r4 at *
  have HC := Lib.hid hC
  have HE := Lib.hid hE
  have HR := Lib.hid hR
  have HB := Lib.hid hB
  have HH := Lib.hid hH
  clear hC hE hR hf hr hB hH
  by_cases e1 : q1 = 0
  · have e1' : (q1 == 0) = true := by simp [e1]
    rw [if_neg (by simp [e1])]
    by_cases e2 : q2 = 0
    · have e2' : (q2 != 0) = false := by simp [e2]
      rw [if_neg (by simp [e2])]
      clear e1 e2
      cases b1
      · rw [if_neg (by simp)]
        cases bd
        · rw [if_neg (by simp)]
          go_enter Try.func25, Try.ntmps25
          go_wp2_with fail
          refine (HC.out _ (HF.out.bl (by repeat (first | assumption | exact Bl.refl _ | apply Bl.drewN | apply Bl.drew | apply Bl.alloc | (refine Bl.dr ?_ (by assumption)) | (refine Bl.trans ?_ (by assumption)))))).mono ?_; rintro e w1 ⟨rfl, hb1⟩
          have c0 : w1.cell? ⟨w.heap.size, 0, none⟩ = some (.int .i64 s) := hb1.cell (by simp [go_sem])
          have c1 : w1.cell? ⟨w.heap.size, 1, none⟩ = some (.slice a l.length c) := hb1.cell (by simp [go_sem])
          have d0 : w1.cell? ⟨w.heap.size + 1, 0, none⟩ = some (.string lo) := hb1.cell (by simp [go_sem])
          have d1 : w1.cell? ⟨w.heap.size + 1, 1, none⟩ = some (.string hi) := hb1.cell (by simp [go_sem])
          have d2 : w1.cell? ⟨w.heap.size + 1, 2, none⟩ = some (.bool false) := hb1.cell (by simp [go_sem])
          have hb : Bl w w1 := (by repeat (first | assumption | exact Bl.refl _ | apply Bl.drewN | apply Bl.drew | apply Bl.alloc | (refine Bl.dr ?_ (by assumption)) | (refine Bl.trans ?_ (by assumption))))
          clear hb1
          go_wp2_with fail
          refine (HR.out _).mono ?_; rintro e w2 ⟨rfl, hb2⟩
          have c0 := hb2.cell c0
          have c1 := hb2.cell c1
          have d0 := hb2.cell d0
          have d1 := hb2.cell d1
          have d2 := hb2.cell d2
          have hb : Bl w w2 := (by repeat (first | assumption | exact Bl.refl _ | apply Bl.drewN | apply Bl.drew | apply Bl.alloc | (refine Bl.dr ?_ (by assumption)) | (refine Bl.trans ?_ (by assumption))))
          clear hb2
          go_wp2_with fail
          refine (HE.out _).mono ?_; rintro e w3 ⟨rfl, hb3⟩
          have c0 := hb3.cell c0
          have c1 := hb3.cell c1
          have d0 := hb3.cell d0
          have d1 := hb3.cell d1
          have d2 := hb3.cell d2
          have hb : Bl w w3 := (by repeat (first | assumption | exact Bl.refl _ | apply Bl.drewN | apply Bl.drew | apply Bl.alloc | (refine Bl.dr ?_ (by assumption)) | (refine Bl.trans ?_ (by assumption))))
          clear hb3
          go_wp2_with fail
          refine (HB.out _ (HF.out.bl (by repeat (first | assumption | exact Bl.refl _ | apply Bl.drewN | apply Bl.drew | apply Bl.alloc | (refine Bl.dr ?_ (by assumption)) | (refine Bl.trans ?_ (by assumption)))))).mono ?_; rintro e w4 ⟨rfl, hb4⟩
          have c0 := hb4.cell c0
          have c1 := hb4.cell c1
          have d1 := hb4.cell d1
          have d2 := hb4.cell d2
          go_wp2_with fail
          go_ret3
          exact rb_tuple3 rfl rfl rfl (by repeat (first | assumption | exact Bl.refl _ | apply Bl.drewN | apply Bl.drew | apply Bl.alloc | (refine Bl.dr ?_ (by assumption)) | (refine Bl.trans ?_ (by assumption))))
        · rw [if_pos rfl]
          go_enter Try.func25, Try.ntmps25
          go_wp2_with fail
          refine (HC.out _ (HF.out.bl (by repeat (first | assumption | exact Bl.refl _ | apply Bl.drewN | apply Bl.drew | apply Bl.alloc | (refine Bl.dr ?_ (by assumption)) | (refine Bl.trans ?_ (by assumption)))))).mono ?_; rintro e w1 ⟨rfl, hb1⟩
          have c0 : w1.cell? ⟨w.heap.size, 0, none⟩ = some (.int .i64 s) := hb1.cell (by simp [go_sem])
          have c1 : w1.cell? ⟨w.heap.size, 1, none⟩ = some (.slice a l.length c) := hb1.cell (by simp [go_sem])
          have d0 : w1.cell? ⟨w.heap.size + 1, 0, none⟩ = some (.string lo) := hb1.cell (by simp [go_sem])
          have d1 : w1.cell? ⟨w.heap.size + 1, 1, none⟩ = some (.string hi) := hb1.cell (by simp [go_sem])
          have d2 : w1.cell? ⟨w.heap.size + 1, 2, none⟩ = some (.bool true) := hb1.cell (by simp [go_sem])
          have hb : Bl w w1 := (by repeat (first | assumption | exact Bl.refl _ | apply Bl.drewN | apply Bl.drew | apply Bl.alloc | (refine Bl.dr ?_ (by assumption)) | (refine Bl.trans ?_ (by assumption))))
          clear hb1
          go_wp2_with fail
          refine (HR.out _).mono ?_; rintro e w2 ⟨rfl, hb2⟩
          have c0 := hb2.cell c0
          have c1 := hb2.cell c1
          have d0 := hb2.cell d0
          have d1 := hb2.cell d1
          have d2 := hb2.cell d2
          have hb : Bl w w2 := (by repeat (first | assumption | exact Bl.refl _ | apply Bl.drewN | apply Bl.drew | apply Bl.alloc | (refine Bl.dr ?_ (by assumption)) | (refine Bl.trans ?_ (by assumption))))
          clear hb2
          go_wp2_with fail
          refine (HE.out _).mono ?_; rintro e w3 ⟨rfl, hb3⟩
          have c0 := hb3.cell c0
          have c1 := hb3.cell c1
          have d0 := hb3.cell d0
          have d1 := hb3.cell d1
          have d2 := hb3.cell d2
          have hb : Bl w w3 := (by repeat (first | assumption | exact Bl.refl _ | apply Bl.drewN | apply Bl.drew | apply Bl.alloc | (refine Bl.dr ?_ (by assumption)) | (refine Bl.trans ?_ (by assumption))))
          clear hb3
          go_wp2_with fail
          refine (HB.out _ (HF.out.bl (by repeat (first | assumption | exact Bl.refl _ | apply Bl.drewN | apply Bl.drew | apply Bl.alloc | (refine Bl.dr ?_ (by assumption)) | (refine Bl.trans ?_ (by assumption)))))).mono ?_; rintro e w4 ⟨rfl, hb4⟩
          have c0 := hb4.cell c0
          have c1 := hb4.cell c1
          have d1 := hb4.cell d1
          have d2 := hb4.cell d2
          go_wp2_with fail
          refine (HH.out _ (HF.out.bl (by repeat (first | assumption | exact Bl.refl _ | apply Bl.drewN | apply Bl.drew | apply Bl.alloc | (refine Bl.dr ?_ (by assumption)) | (refine Bl.trans ?_ (by assumption)))))).mono ?_; rintro e w5 ⟨rfl, hb5⟩
          go_wp2_with fail
          go_ret3
          exact rb_tuple3 rfl rfl rfl (by repeat (first | assumption | exact Bl.refl _ | apply Bl.drewN | apply Bl.drew | apply Bl.alloc | (refine Bl.dr ?_ (by assumption)) | (refine Bl.trans ?_ (by assumption))))
      · rw [if_pos rfl]
        go_enter Try.func25, Try.ntmps25
        go_wp2_with fail
        refine (HC.out _ (HF.out.bl (by repeat (first | assumption | exact Bl.refl _ | apply Bl.drewN | apply Bl.drew | apply Bl.alloc | (refine Bl.dr ?_ (by assumption)) | (refine Bl.trans ?_ (by assumption)))))).mono ?_; rintro e w1 ⟨rfl, hb1⟩
        have d0 : w1.cell? ⟨w.heap.size + 1, 0, none⟩ = some (.string lo) := hb1.cell (by simp [go_sem])
        have d1 : w1.cell? ⟨w.heap.size + 1, 1, none⟩ = some (.string hi) := hb1.cell (by simp [go_sem])
        have d2 : w1.cell? ⟨w.heap.size + 1, 2, none⟩ = some (.bool bd) := hb1.cell (by simp [go_sem])
        go_wp2_with fail
        refine (HR.out _).mono ?_; rintro e w2 ⟨rfl, hb2⟩
        have d0 := hb2.cell d0
        have d1 := hb2.cell d1
        have d2 := hb2.cell d2
        go_wp2_with fail
        refine (HE.out _).mono ?_; rintro e w3 ⟨rfl, hb3⟩
        go_wp2_with fail
        go_ret3
        exact rb_tuple3 rfl rfl rfl (by repeat (first | assumption | exact Bl.refl _ | apply Bl.drewN | apply Bl.drew | apply Bl.alloc | (refine Bl.dr ?_ (by assumption)) | (refine Bl.trans ?_ (by assumption))))
    · have e2' : (q2 != 0) = true := by simp [e2]
      rw [if_pos e2]
      clear e1 e2
      go_enter Try.func25, Try.ntmps25
      go_wp2_with fail
      refine (HC.out _ (HF.out.bl (by repeat (first | assumption | exact Bl.refl _ | apply Bl.drewN | apply Bl.drew | apply Bl.alloc | (refine Bl.dr ?_ (by assumption)) | (refine Bl.trans ?_ (by assumption)))))).mono ?_; rintro e w1 ⟨rfl, hb1⟩
      have d0 : w1.cell? ⟨w.heap.size + 1, 0, none⟩ = some (.string lo) := hb1.cell (by simp [go_sem])
      have d1 : w1.cell? ⟨w.heap.size + 1, 1, none⟩ = some (.string hi) := hb1.cell (by simp [go_sem])
      have d2 : w1.cell? ⟨w.heap.size + 1, 2, none⟩ = some (.bool bd) := hb1.cell (by simp [go_sem])
      go_wp2_with fail
      refine (HR.out _).mono ?_; rintro e w2 ⟨rfl, hb2⟩
      go_wp2_with fail
      go_ret3
      exact rb_tuple3 rfl rfl rfl (by repeat (first | assumption | exact Bl.refl _ | apply Bl.drewN | apply Bl.drew | apply Bl.alloc | (refine Bl.dr ?_ (by assumption)) | (refine Bl.trans ?_ (by assumption))))
  · have e1' : (q1 == 0) = false := by simp [e1]
    have e1'' : (q1 != 0) = true := by simp [e1]
    rw [if_pos e1]
    clear e1
    go_enter Try.func25, Try.ntmps25
    go_wp2_with fail
    refine (HC.out _ (HF.out.bl (by repeat (first | assumption | exact Bl.refl _ | apply Bl.drewN | apply Bl.drew | apply Bl.alloc | (refine Bl.dr ?_ (by assumption)) | (refine Bl.trans ?_ (by assumption)))))).mono ?_; rintro e w1 ⟨rfl, hb1⟩
    go_wp2_with fail
    go_ret3
    exact rb_tuple3 rfl rfl rfl (by repeat (first | assumption | exact Bl.refl _ | apply Bl.drewN | apply Bl.drew | apply Bl.alloc | (refine Bl.dr ?_ (by assumption)) | (refine Bl.trans ?_ (by assumption))))

end Go.Proofs.Yteafcbpogomioaa
