
/-
  Contracts of In (the reference's), Meet and Of (both).
-/
import Derived.Test.YtldccffbjohokaaDoorKyD
import Derived.Test.YtldccffbjohokaaDoorKyA
import Derived.Test.YtldccffbjohokaaDoorOwn
import Derived.Deep.DeepCutAuto
namespace Go.Proofs.YtldccffbjohokaaDoor
open Go.RowKit
set_option linter.unusedSimpArgs false
set_option linter.unusedVariables false
set_option maxRecDepth 100000

abbrev rng0 : Rng := ⟨mt, mt, false⟩
def meetR (r s : Rng) : Rng := if r.bd = false then ⟨if slt r.lo s.lo = true then s.lo else r.lo, s.hi, s.bd⟩ else if s.bd = true then ⟨if slt r.lo s.lo = true then s.lo else r.lo, if slt s.hi r.hi = true then s.hi else r.hi, true⟩ else ⟨if slt r.lo s.lo = true then s.lo else r.lo, r.hi, true⟩
def meet (r s : Rng) : Rng × Int := if rchk r ≠ 0 then (rng0, rchk r) else if rchk s ≠ 0 then (rng0, rchk s) else (meetR r s, 0)
def ofR (k : ByteArray) : Rng × Int := if 32 < k.size then (rng0, 3) else (⟨k, rsdS k, !(rsd k.data.toList).isEmpty⟩, 0)

set_option maxHeartbeats 1000000 in
theorem refIn (r : Rng) (k : ByteArray) (w : World) (hr : r.ok) (hk : k.size ≤ maxLen) : Calls Tryd.prog 31 #[r.v, .string k] w (RB w (.tuple #[.bool (rin r k).1, .int .i64 (rin r k).2])) := by
  have h1 := fun w => refCheckRange r w hr
  have h2 := fun w => refCheck k w hk
  have h3 := fun w => refHas r k w hr hk
  unfold rin
  obtain ⟨lo, hi, bd⟩ := r
  unfold Rng.v at h1 h3 ⊢
  simp only at h1 h3
  by_cases e1 : rchk ⟨lo, hi, bd⟩ = 0
  · rw [if_neg (by simp [e1])]
    rw [e1] at h1
    by_cases e2 : kchk k = 0
    · rw [if_neg (by simp [e2])]
      rw [e2] at h2
      have H1 := Lib.hid h1
      have H2 := Lib.hid h2
      have H3 := Lib.hid h3
      clear h1 h2 h3 e1 e2
      go_enter Tryd.func31, Tryd.ntmps31
      go_wp2_with fail
      refine (H1.out _).mono ?_; rintro e w1 ⟨rfl, hb1⟩
      have c0 : w1.cell? ⟨w.heap.size, 0, none⟩ = some (.string lo) := hb1.cell (by simp [go_sem])
      have c1 : w1.cell? ⟨w.heap.size, 1, none⟩ = some (.string hi) := hb1.cell (by simp [go_sem])
      have c2 : w1.cell? ⟨w.heap.size, 2, none⟩ = some (.bool bd) := hb1.cell (by simp [go_sem])
      have hb : Bl w w1 := (by repeat (first | assumption | exact Bl.refl _ | apply Bl.drewN | apply Bl.drew | apply Bl.alloc | (refine Bl.dr ?_ (by assumption)) | (refine Bl.trans ?_ (by assumption))))
      clear hb1
      go_wp2_with fail
      refine (H2.out _).mono ?_; rintro e w2 ⟨rfl, hd2⟩
      have c0 := (Bl.of_dr hd2).cell c0
      have c1 := (Bl.of_dr hd2).cell c1
      have c2 := (Bl.of_dr hd2).cell c2
      have hb : Bl w w2 := (by repeat (first | assumption | exact Bl.refl _ | apply Bl.drewN | apply Bl.drew | apply Bl.alloc | (refine Bl.dr ?_ (by assumption)) | (refine Bl.trans ?_ (by assumption))))
      clear hd2
      go_wp2_with fail
      refine (H3.out _).mono ?_; rintro e w3 ⟨rfl, hb3⟩
      go_wp2_with fail
      go_ret2
      exact rb_tuple rfl rfl (by repeat (first | assumption | exact Bl.refl _ | apply Bl.drewN | apply Bl.drew | apply Bl.alloc | (refine Bl.dr ?_ (by assumption)) | (refine Bl.trans ?_ (by assumption))))
    · rw [if_pos e2]
      have e2' : (kchk k == 0) = false := by simp [e2]
      generalize kchk k = q at *
      have H1 := Lib.hid h1
      have H2 := Lib.hid h2
      clear h1 h2 h3 e1 e2
      go_enter Tryd.func31, Tryd.ntmps31
      go_wp2_with fail
      refine (H1.out _).mono ?_; rintro e w1 ⟨rfl, hb1⟩
      have hb : Bl w w1 := (by repeat (first | assumption | exact Bl.refl _ | apply Bl.drewN | apply Bl.drew | apply Bl.alloc | (refine Bl.dr ?_ (by assumption)) | (refine Bl.trans ?_ (by assumption))))
      clear hb1
      go_wp2_with fail
      refine (H2.out _).mono ?_; rintro e w2 ⟨rfl, hd2⟩
      go_wp2_with fail
      go_ret2
      exact rb_tuple rfl rfl (by repeat (first | assumption | exact Bl.refl _ | apply Bl.drewN | apply Bl.drew | apply Bl.alloc | (refine Bl.dr ?_ (by assumption)) | (refine Bl.trans ?_ (by assumption))))
  · rw [if_pos e1]
    have e1' : (rchk ⟨lo, hi, bd⟩ == 0) = false := by simp [e1]
    generalize rchk ⟨lo, hi, bd⟩ = q at *
    have H1 := Lib.hid h1
    clear h1 h2 h3 e1
    go_enter Tryd.func31, Tryd.ntmps31
    go_wp2_with fail
    refine (H1.out _).mono ?_; rintro e w1 ⟨rfl, hb1⟩
    have hb : Bl w w1 := (by repeat (first | assumption | exact Bl.refl _ | apply Bl.drewN | apply Bl.drew | apply Bl.alloc | (refine Bl.dr ?_ (by assumption)) | (refine Bl.trans ?_ (by assumption))))
    clear hb1
    go_wp2_with fail
    go_ret2
    exact rb_tuple rfl rfl (by repeat (first | assumption | exact Bl.refl _ | apply Bl.drewN | apply Bl.drew | apply Bl.alloc | (refine Bl.dr ?_ (by assumption)) | (refine Bl.trans ?_ (by assumption))))

theorem rchk_hi {lo hi : ByteArray} {bd : Bool} (h : rchk ⟨lo, hi, bd⟩ = 0) (hb : bd = false) : hi = mt := by
  unfold rchk at h
  split at h
  · simp at h
  · split at h
    · simp at h
    · rename_i h2
      have h4 : hi.size = 0 := by
        rcases Nat.eq_zero_or_pos hi.size with k | k
        · exact k
        · exact absurd ⟨hb, Nat.pos_iff_ne_zero.1 k⟩ h2
      apply str_ext
      rw [toL, toL]
      have h3 : hi.data.toList.length = hi.size := by simp
      exact List.length_eq_zero_iff.1 (h3.trans h4)

set_option maxHeartbeats 4000000 in
set_option maxRecDepth 100000 in
theorem refMeet (r s : Rng) (w : World) (hr : r.ok) (hs : s.ok) : Calls Tryd.prog 35 #[r.v, s.v] w (RB w (.tuple #[(meet r s).1.v, .int .i64 (meet r s).2])) := by
  have h1 := fun w => refCheckRange r w hr
  have h2 := fun w => refCheckRange s w hs
  unfold meet
  obtain ⟨M, hM⟩ : ∃ M, M = meetR r s := ⟨_, rfl⟩
  rw [← hM]
  obtain ⟨ml, mh, mb⟩ := M
  obtain ⟨rl, rh, rb⟩ := r
  obtain ⟨sl, sh, sb⟩ := s
  have ho := fun w => refOrder sl rl w hs.1 hr.1
  have ho2 := fun w => refOrder sh rh w hs.2 hr.2
  have g1 := cmpS_gt sl rl
  have g2 := cmpS_lss sh rh
  unfold meetR at hM
  unfold Rng.v at h1 h2 ⊢
  simp only at h1 h2 ho ho2 hM ⊢
  have f1 := fun h hb => rchk_hi (lo := rl) (hi := rh) (bd := rb) h hb
  have f2 := fun h hb => rchk_hi (lo := sl) (hi := sh) (bd := sb) h hb
  by_cases e1 : rchk ⟨rl, rh, rb⟩ = 0
  · rw [if_neg (by simp [e1])]
    rw [e1] at h1
    replace f1 := f1 e1
    by_cases e2 : rchk ⟨sl, sh, sb⟩ = 0
    · rw [if_neg (by simp [e2])]
      rw [e2] at h2
      replace f2 := f2 e2
      generalize cmpS sl rl = q1 at *
      generalize cmpS sh rh = q2 at *
      have H1 := Lib.hid h1
      have H2 := Lib.hid h2
      have HO := Lib.hid ho
      have HO2 := Lib.hid ho2
      clear h1 h2 ho ho2 e1 e2 hr hs
      generalize slt rl sl = x1 at *
      generalize slt sh rh = x2 at *
      have HM := Lib.hid hM
      have G1 := Lib.hid g1
      have G2 := Lib.hid g2
      clear hM g1 g2
      go_enter Tryd.func35, Tryd.ntmps35
      go_wp2_with fail
      refine (H1.out _).mono ?_; rintro e w1 ⟨rfl, hb1⟩
      have c0 : World.cell? w1 ⟨w.heap.size, 0, none⟩ = some (.string rl) := hb1.cell (by simp [go_sem])
      have c1 : World.cell? w1 ⟨w.heap.size, 1, none⟩ = some (.string rh) := hb1.cell (by simp [go_sem])
      have c2 : World.cell? w1 ⟨w.heap.size, 2, none⟩ = some (.bool rb) := hb1.cell (by simp [go_sem])
      have d0 : World.cell? w1 ⟨w.heap.size + 1, 0, none⟩ = some (.string sl) := hb1.cell (by simp [go_sem])
      have d1 : World.cell? w1 ⟨w.heap.size + 1, 1, none⟩ = some (.string sh) := hb1.cell (by simp [go_sem])
      have d2 : World.cell? w1 ⟨w.heap.size + 1, 2, none⟩ = some (.bool sb) := hb1.cell (by simp [go_sem])
      have z0 : World.cell? w1 ⟨w.heap.size + 1 + 1, 0, none⟩ = some (.string ⟨#[]⟩) := hb1.cell (by simp [go_sem])
      have z1 : World.cell? w1 ⟨w.heap.size + 1 + 1, 1, none⟩ = some (.string ⟨#[]⟩) := hb1.cell (by simp [go_sem])
      have z2 : World.cell? w1 ⟨w.heap.size + 1 + 1, 2, none⟩ = some (.bool false) := hb1.cell (by simp [go_sem])
      have y0 : World.frozen? w1 ⟨w.heap.size + 1 + 1, 0, none⟩ = false := hb1.frozen (by simp [go_sem]; rfl) (by simp [go_sem])
      have y1 : World.frozen? w1 ⟨w.heap.size + 1 + 1, 1, none⟩ = false := hb1.frozen (by simp [go_sem]; rfl) (by simp [go_sem])
      have y2 : World.frozen? w1 ⟨w.heap.size + 1 + 1, 2, none⟩ = false := hb1.frozen (by simp [go_sem]; rfl) (by simp [go_sem])
      have hb : Bl w w1 := (by repeat (first | assumption | exact Bl.refl _ | apply Bl.drewN | apply Bl.drew | apply Bl.alloc | (refine Bl.dr ?_ (by assumption)) | (refine Bl.trans ?_ (by assumption))))
      clear hb1
      go_wp2_with fail
      refine (H2.out _).mono ?_; rintro e w2 ⟨rfl, hb2⟩
      have y0 := Bl.frozen hb2 z0 y0
      have y1 := Bl.frozen hb2 z1 y1
      have y2 := Bl.frozen hb2 z2 y2
      have c0 := Bl.cell hb2 c0
      have c1 := Bl.cell hb2 c1
      have c2 := Bl.cell hb2 c2
      have d0 := Bl.cell hb2 d0
      have d1 := Bl.cell hb2 d1
      have d2 := Bl.cell hb2 d2
      have z0 := Bl.cell hb2 z0
      have z1 := Bl.cell hb2 z1
      have z2 := Bl.cell hb2 z2
      have hb : Bl w w2 := hb.trans hb2
      have s0 := lt_of_cell c0
      have s1 := lt_of_cell d0
      have s2 := lt_of_cell z2
      simp only at s0 s1 s2
      clear hb2
      go_wp2_with fail
      refine (HO.out _).mono ?_; rintro e w3 ⟨rfl, hd3⟩
      have m0 : w3.cell? ⟨w2.heap.size, 0, none⟩ = some (.string rl) := (Bl.of_dr hd3).cell (by simp [go_sem])
      have m1 : w3.cell? ⟨w2.heap.size, 1, none⟩ = some (.string rh) := (Bl.of_dr hd3).cell (by simp [go_sem])
      have m2 : w3.cell? ⟨w2.heap.size, 2, none⟩ = some (.bool rb) := (Bl.of_dr hd3).cell (by simp [go_sem])
      have n0 : w3.frozen? ⟨w2.heap.size, 0, none⟩ = false := (Bl.of_dr hd3).frozen (by simp [go_sem]; rfl) (by simp [go_sem])
      have n1 : w3.frozen? ⟨w2.heap.size, 1, none⟩ = false := (Bl.of_dr hd3).frozen (by simp [go_sem]; rfl) (by simp [go_sem])
      have n2 : w3.frozen? ⟨w2.heap.size, 2, none⟩ = false := (Bl.of_dr hd3).frozen (by simp [go_sem]; rfl) (by simp [go_sem])
      have hb23 : Bl w2 w3 := ((Bl.refl w2).alloc _).dr hd3
      have y0 := Bl.frozen hb23 z0 y0
      have y1 := Bl.frozen hb23 z1 y1
      have y2 := Bl.frozen hb23 z2 y2
      have c0 := Bl.cell hb23 c0
      have c1 := Bl.cell hb23 c1
      have c2 := Bl.cell hb23 c2
      have d0 := Bl.cell hb23 d0
      have d1 := Bl.cell hb23 d1
      have d2 := Bl.cell hb23 d2
      have z0 := Bl.cell hb23 z0
      have z1 := Bl.cell hb23 z1
      have z2 := Bl.cell hb23 z2
      have hb : Bl w w3 := hb.trans hb23
      have s3 := lt_of_cell m2
      simp only at s3
      clear hb23 hd3
      have F1 := Lib.hid f1
      have F2 := Lib.hid f2
      clear f1 f2
      cases x1
      · have k1 : ¬ (0 < q1) := by simpa using G1.out
        clear G1
        cases sb
        · cases rb
          · go_wp2_with fail
            have r1 := F1.out (by simp)
            have r2 := F2.out (by simp)
            refine bodyPost_ret (v := .tuple #[.agg #[.string rl, .string rh, .bool false], .int .i64 0]) (by simp [results, Tryd.results35, go_sem, *]) rfl ?_
            refine RB.mk ?_ (by repeat (first | with_reducible exact hb | with_reducible (refine Bl.setCell ?_ _ (by first | (simp; done) | (simp; omega)) _) | with_reducible (apply Bl.drewN) | with_reducible (apply Bl.drew)))
            have hm := HM.out
            simp only [reduceIte, if_true, if_false, Bool.false_eq_true] at hm
            injection hm with h1 h2 h3
            rw [h1, h2, h3]
            rw [r1, r2]
          · clear F1 F2
            go_wp2_with fail
            refine bodyPost_ret (v := .tuple #[.agg #[.string rl, .string rh, .bool true], .int .i64 0]) (by simp [results, Tryd.results35, go_sem, *]) rfl ?_
            refine RB.mk ?_ (by repeat (first | with_reducible exact hb | with_reducible (refine Bl.setCell ?_ _ (by first | (simp; done) | (simp; omega)) _) | with_reducible (apply Bl.drewN) | with_reducible (apply Bl.drew)))
            have hm := HM.out
            simp only [reduceIte, if_true, if_false, Bool.false_eq_true] at hm
            injection hm with h1 h2 h3
            rw [h1, h2, h3]
        · clear F1 F2
          cases rb
          · clear G2
            go_wp2_with fail
            refine bodyPost_ret (v := .tuple #[.agg #[.string rl, .string sh, .bool true], .int .i64 0]) (by simp [results, Tryd.results35, go_sem, *]) rfl ?_
            refine RB.mk ?_ (by repeat (first | with_reducible exact hb | with_reducible (refine Bl.setCell ?_ _ (by first | (simp; done) | (simp; omega)) _) | with_reducible (apply Bl.drewN) | with_reducible (apply Bl.drew)))
            have hm := HM.out
            simp only [reduceIte, if_true, if_false, Bool.false_eq_true] at hm
            injection hm with h1 h2 h3
            rw [h1, h2, h3]
          · cases x2
            · have k2 : ¬ (q2 < 0) := by simpa using G2.out
              clear G2
              go_wp2_with fail
              refine (HO2.out _).mono ?_; rintro e w4 ⟨rfl, n4, rfl⟩
              go_wp2_with fail
              refine bodyPost_ret (v := .tuple #[.agg #[.string rl, .string rh, .bool true], .int .i64 0]) (by simp [results, Tryd.results35, go_sem, *]) rfl ?_
              refine RB.mk ?_ (by repeat (first | with_reducible exact hb | with_reducible (refine Bl.setCell ?_ _ (by first | (simp; done) | (simp; omega)) _) | with_reducible (apply Bl.drewN) | with_reducible (apply Bl.drew)))
              have hm := HM.out
              simp only [reduceIte, if_true, if_false, Bool.false_eq_true] at hm
              injection hm with h1 h2 h3
              rw [h1, h2, h3]
            · have k2 : q2 < 0 := by simpa using G2.out
              clear G2
              go_wp2_with fail
              refine (HO2.out _).mono ?_; rintro e w4 ⟨rfl, n4, rfl⟩
              go_wp2_with fail
              refine bodyPost_ret (v := .tuple #[.agg #[.string rl, .string sh, .bool true], .int .i64 0]) (by simp [results, Tryd.results35, go_sem, *]) rfl ?_
              refine RB.mk ?_ (by repeat (first | with_reducible exact hb | with_reducible (refine Bl.setCell ?_ _ (by first | (simp; done) | (simp; omega)) _) | with_reducible (apply Bl.drewN) | with_reducible (apply Bl.drew)))
              have hm := HM.out
              simp only [reduceIte, if_true, if_false, Bool.false_eq_true] at hm
              injection hm with h1 h2 h3
              rw [h1, h2, h3]
      · have k1 : 0 < q1 := by simpa using G1.out
        clear G1
        cases sb
        · cases rb
          · go_wp2_with fail
            have r1 := F1.out (by simp)
            have r2 := F2.out (by simp)
            refine bodyPost_ret (v := .tuple #[.agg #[.string sl, .string rh, .bool false], .int .i64 0]) (by simp [results, Tryd.results35, go_sem, *]) rfl ?_
            refine RB.mk ?_ (by repeat (first | with_reducible exact hb | with_reducible (refine Bl.setCell ?_ _ (by first | (simp; done) | (simp; omega)) _) | with_reducible (apply Bl.drewN) | with_reducible (apply Bl.drew)))
            have hm := HM.out
            simp only [reduceIte, if_true, if_false, Bool.false_eq_true] at hm
            injection hm with h1 h2 h3
            rw [h1, h2, h3]
            rw [r1, r2]
          · clear F1 F2
            go_wp2_with fail
            refine bodyPost_ret (v := .tuple #[.agg #[.string sl, .string rh, .bool true], .int .i64 0]) (by simp [results, Tryd.results35, go_sem, *]) rfl ?_
            refine RB.mk ?_ (by repeat (first | with_reducible exact hb | with_reducible (refine Bl.setCell ?_ _ (by first | (simp; done) | (simp; omega)) _) | with_reducible (apply Bl.drewN) | with_reducible (apply Bl.drew)))
            have hm := HM.out
            simp only [reduceIte, if_true, if_false, Bool.false_eq_true] at hm
            injection hm with h1 h2 h3
            rw [h1, h2, h3]
        · clear F1 F2
          cases rb
          · clear G2
            go_wp2_with fail
            refine bodyPost_ret (v := .tuple #[.agg #[.string sl, .string sh, .bool true], .int .i64 0]) (by simp [results, Tryd.results35, go_sem, *]) rfl ?_
            refine RB.mk ?_ (by repeat (first | with_reducible exact hb | with_reducible (refine Bl.setCell ?_ _ (by first | (simp; done) | (simp; omega)) _) | with_reducible (apply Bl.drewN) | with_reducible (apply Bl.drew)))
            have hm := HM.out
            simp only [reduceIte, if_true, if_false, Bool.false_eq_true] at hm
            injection hm with h1 h2 h3
            rw [h1, h2, h3]
          · cases x2
            · have k2 : ¬ (q2 < 0) := by simpa using G2.out
              clear G2
              go_wp2_with fail
              refine (HO2.out _).mono ?_; rintro e w4 ⟨rfl, n4, rfl⟩
              go_wp2_with fail
              refine bodyPost_ret (v := .tuple #[.agg #[.string sl, .string rh, .bool true], .int .i64 0]) (by simp [results, Tryd.results35, go_sem, *]) rfl ?_
              refine RB.mk ?_ (by repeat (first | with_reducible exact hb | with_reducible (refine Bl.setCell ?_ _ (by first | (simp; done) | (simp; omega)) _) | with_reducible (apply Bl.drewN) | with_reducible (apply Bl.drew)))
              have hm := HM.out
              simp only [reduceIte, if_true, if_false, Bool.false_eq_true] at hm
              injection hm with h1 h2 h3
              rw [h1, h2, h3]
            · have k2 : q2 < 0 := by simpa using G2.out
              clear G2
              go_wp2_with fail
              refine (HO2.out _).mono ?_; rintro e w4 ⟨rfl, n4, rfl⟩
              go_wp2_with fail
              refine bodyPost_ret (v := .tuple #[.agg #[.string sl, .string sh, .bool true], .int .i64 0]) (by simp [results, Tryd.results35, go_sem, *]) rfl ?_
              refine RB.mk ?_ (by repeat (first | with_reducible exact hb | with_reducible (refine Bl.setCell ?_ _ (by first | (simp; done) | (simp; omega)) _) | with_reducible (apply Bl.drewN) | with_reducible (apply Bl.drew)))
              have hm := HM.out
              simp only [reduceIte, if_true, if_false, Bool.false_eq_true] at hm
              injection hm with h1 h2 h3
              rw [h1, h2, h3]
    · rw [if_pos e2]
      have e2' : (rchk ⟨sl, sh, sb⟩ != 0) = true := by simp [e2]
      have e2'' : (rchk ⟨sl, sh, sb⟩ == 0) = false := by simp [e2]
      generalize rchk ⟨sl, sh, sb⟩ = q at *
      have H1 := Lib.hid h1
      have H2 := Lib.hid h2
      clear h1 h2 ho ho2 e1 e2 hr hs hM g1 g2 f1 f2
      go_enter Tryd.func35, Tryd.ntmps35
      go_wp2_with fail
      refine (H1.out _).mono ?_; rintro e w1 ⟨rfl, hb1⟩
      have c0 : World.cell? w1 ⟨w.heap.size, 0, none⟩ = some (.string rl) := hb1.cell (by simp [go_sem])
      have c1 : World.cell? w1 ⟨w.heap.size, 1, none⟩ = some (.string rh) := hb1.cell (by simp [go_sem])
      have c2 : World.cell? w1 ⟨w.heap.size, 2, none⟩ = some (.bool rb) := hb1.cell (by simp [go_sem])
      have d0 : World.cell? w1 ⟨w.heap.size + 1, 0, none⟩ = some (.string sl) := hb1.cell (by simp [go_sem])
      have d1 : World.cell? w1 ⟨w.heap.size + 1, 1, none⟩ = some (.string sh) := hb1.cell (by simp [go_sem])
      have d2 : World.cell? w1 ⟨w.heap.size + 1, 2, none⟩ = some (.bool sb) := hb1.cell (by simp [go_sem])
      have z0 : World.cell? w1 ⟨w.heap.size + 1 + 1, 0, none⟩ = some (.string ⟨#[]⟩) := hb1.cell (by simp [go_sem])
      have z1 : World.cell? w1 ⟨w.heap.size + 1 + 1, 1, none⟩ = some (.string ⟨#[]⟩) := hb1.cell (by simp [go_sem])
      have z2 : World.cell? w1 ⟨w.heap.size + 1 + 1, 2, none⟩ = some (.bool false) := hb1.cell (by simp [go_sem])
      have y0 : World.frozen? w1 ⟨w.heap.size + 1 + 1, 0, none⟩ = false := hb1.frozen (by simp [go_sem]; rfl) (by simp [go_sem])
      have y1 : World.frozen? w1 ⟨w.heap.size + 1 + 1, 1, none⟩ = false := hb1.frozen (by simp [go_sem]; rfl) (by simp [go_sem])
      have y2 : World.frozen? w1 ⟨w.heap.size + 1 + 1, 2, none⟩ = false := hb1.frozen (by simp [go_sem]; rfl) (by simp [go_sem])
      have hb : Bl w w1 := (by repeat (first | assumption | exact Bl.refl _ | apply Bl.drewN | apply Bl.drew | apply Bl.alloc | (refine Bl.dr ?_ (by assumption)) | (refine Bl.trans ?_ (by assumption))))
      clear hb1
      go_wp2_with fail
      refine (H2.out _).mono ?_; rintro e w2 ⟨rfl, hb2⟩
      have y0 := Bl.frozen hb2 z0 y0
      have y1 := Bl.frozen hb2 z1 y1
      have y2 := Bl.frozen hb2 z2 y2
      have c0 := Bl.cell hb2 c0
      have c1 := Bl.cell hb2 c1
      have c2 := Bl.cell hb2 c2
      have d0 := Bl.cell hb2 d0
      have d1 := Bl.cell hb2 d1
      have d2 := Bl.cell hb2 d2
      have z0 := Bl.cell hb2 z0
      have z1 := Bl.cell hb2 z1
      have z2 := Bl.cell hb2 z2
      have hb : Bl w w2 := hb.trans hb2
      clear hb2
      go_wp2_with fail
      refine bodyPost_ret (v := .tuple #[.agg #[.string ⟨#[]⟩, .string ⟨#[]⟩, .bool false], .int .i64 q]) (by simp [results, Tryd.results35, go_sem, *]) rfl ?_
      exact RB.mk rfl (by repeat (first | with_reducible exact hb | with_reducible (refine Bl.setCell ?_ _ (by first | (simp; done) | (simp; omega)) _) | with_reducible (apply Bl.drewN) | with_reducible (apply Bl.drew)))
  · rw [if_pos e1]
    have e1' : (rchk ⟨rl, rh, rb⟩ != 0) = true := by simp [e1]
    have e1'' : (rchk ⟨rl, rh, rb⟩ == 0) = false := by simp [e1]
    generalize rchk ⟨rl, rh, rb⟩ = q at *
    have H1 := Lib.hid h1
    clear h1 h2 ho ho2 e1 hr hs hM g1 g2 f1 f2
    go_enter Tryd.func35, Tryd.ntmps35
    go_wp2_with fail
    refine (H1.out _).mono ?_; rintro e w1 ⟨rfl, hb1⟩
    have c0 : World.cell? w1 ⟨w.heap.size, 0, none⟩ = some (.string rl) := hb1.cell (by simp [go_sem])
    have c1 : World.cell? w1 ⟨w.heap.size, 1, none⟩ = some (.string rh) := hb1.cell (by simp [go_sem])
    have c2 : World.cell? w1 ⟨w.heap.size, 2, none⟩ = some (.bool rb) := hb1.cell (by simp [go_sem])
    have d0 : World.cell? w1 ⟨w.heap.size + 1, 0, none⟩ = some (.string sl) := hb1.cell (by simp [go_sem])
    have d1 : World.cell? w1 ⟨w.heap.size + 1, 1, none⟩ = some (.string sh) := hb1.cell (by simp [go_sem])
    have d2 : World.cell? w1 ⟨w.heap.size + 1, 2, none⟩ = some (.bool sb) := hb1.cell (by simp [go_sem])
    have z0 : World.cell? w1 ⟨w.heap.size + 1 + 1, 0, none⟩ = some (.string ⟨#[]⟩) := hb1.cell (by simp [go_sem])
    have z1 : World.cell? w1 ⟨w.heap.size + 1 + 1, 1, none⟩ = some (.string ⟨#[]⟩) := hb1.cell (by simp [go_sem])
    have z2 : World.cell? w1 ⟨w.heap.size + 1 + 1, 2, none⟩ = some (.bool false) := hb1.cell (by simp [go_sem])
    have y0 : World.frozen? w1 ⟨w.heap.size + 1 + 1, 0, none⟩ = false := hb1.frozen (by simp [go_sem]; rfl) (by simp [go_sem])
    have y1 : World.frozen? w1 ⟨w.heap.size + 1 + 1, 1, none⟩ = false := hb1.frozen (by simp [go_sem]; rfl) (by simp [go_sem])
    have y2 : World.frozen? w1 ⟨w.heap.size + 1 + 1, 2, none⟩ = false := hb1.frozen (by simp [go_sem]; rfl) (by simp [go_sem])
    have hb : Bl w w1 := (by repeat (first | assumption | exact Bl.refl _ | apply Bl.drewN | apply Bl.drew | apply Bl.alloc | (refine Bl.dr ?_ (by assumption)) | (refine Bl.trans ?_ (by assumption))))
    clear hb1
    go_wp2_with fail
    refine bodyPost_ret (v := .tuple #[.agg #[.string ⟨#[]⟩, .string ⟨#[]⟩, .bool false], .int .i64 q]) (by simp [results, Tryd.results35, go_sem, *]) rfl ?_
    exact RB.mk rfl (by repeat (first | with_reducible exact hb | with_reducible (refine Bl.setCell ?_ _ (by first | (simp; done) | (simp; omega)) _) | with_reducible (apply Bl.drewN) | with_reducible (apply Bl.drew)))

/-! ### Of -/
theorem rsdS_mt {k : ByteArray} (h : (rsd k.data.toList).isEmpty = true) : rsdS k = mt := by
  unfold rsdS
  rw [show rsd k.data.toList = [] by simpa using h]

set_option maxHeartbeats 1000000 in
set_option maxRecDepth 100000 in
theorem keysOf (k : ByteArray) (w : World) (hk : k.size ≤ maxLen) : Calls Tryd.prog 38 #[.string k] w (RB w (.tuple #[(ofR k).1.v, .int .i64 (ofR k).2])) := by
  have h1 := fun w => keysPast k w hk
  unfold ofR
  unfold past at h1
  by_cases e1 : 32 < k.size
  · rw [if_pos e1] at h1 ⊢
    have H1 := Lib.hid h1
    clear h1
    unfold Rng.v
    go_enter Tryd.func38, Tryd.ntmps38
    go_wp2_with fail
    refine (H1.out _).mono ?_; rintro e w1 ⟨rfl, hb1⟩
    have z0 : World.cell? w1 ⟨w.heap.size, 0, none⟩ = some (.string ⟨#[]⟩) := hb1.cell (by simp [go_sem])
    have z1 : World.cell? w1 ⟨w.heap.size, 1, none⟩ = some (.string ⟨#[]⟩) := hb1.cell (by simp [go_sem])
    have z2 : World.cell? w1 ⟨w.heap.size, 2, none⟩ = some (.bool false) := hb1.cell (by simp [go_sem])
    have y0 : World.frozen? w1 ⟨w.heap.size, 0, none⟩ = false := hb1.frozen (by simp [go_sem]; rfl) (by simp [go_sem])
    have y1 : World.frozen? w1 ⟨w.heap.size, 1, none⟩ = false := hb1.frozen (by simp [go_sem]; rfl) (by simp [go_sem])
    have y2 : World.frozen? w1 ⟨w.heap.size, 2, none⟩ = false := hb1.frozen (by simp [go_sem]; rfl) (by simp [go_sem])
    have hb : Bl w w1 := (by repeat (first | assumption | exact Bl.refl _ | apply Bl.drewN | apply Bl.drew | apply Bl.alloc | (refine Bl.dr ?_ (by assumption)) | (refine Bl.trans ?_ (by assumption))))
    clear hb1
    go_wp2_with fail
    refine bodyPost_ret (v := .tuple #[.agg #[.string ⟨#[]⟩, .string ⟨#[]⟩, .bool false], .int .i64 3]) (by simp [results, Tryd.results38, go_sem, *]) rfl ?_
    exact RB.mk rfl (by repeat (first | with_reducible exact hb | with_reducible (refine Bl.setCell ?_ _ (by first | (simp; done) | (simp; omega)) _) | with_reducible (apply Bl.drewN) | with_reducible (apply Bl.drew)))
  · rw [if_neg e1] at h1 ⊢
    have hmt := rsdS_mt (k := k)
    generalize (rsd k.data.toList).isEmpty = b at *
    cases b
    · rw [if_neg (by simp)] at h1
      have H1 := Lib.hid h1
      clear h1 hmt
      generalize rsdS k = r at *
      unfold Rng.v
      go_enter Tryd.func38, Tryd.ntmps38
      go_wp2_with fail
      refine (H1.out _).mono ?_; rintro e w1 ⟨rfl, hb1⟩
      have z0 : World.cell? w1 ⟨w.heap.size, 0, none⟩ = some (.string ⟨#[]⟩) := hb1.cell (by simp [go_sem])
      have z1 : World.cell? w1 ⟨w.heap.size, 1, none⟩ = some (.string ⟨#[]⟩) := hb1.cell (by simp [go_sem])
      have z2 : World.cell? w1 ⟨w.heap.size, 2, none⟩ = some (.bool false) := hb1.cell (by simp [go_sem])
      have y0 : World.frozen? w1 ⟨w.heap.size, 0, none⟩ = false := hb1.frozen (by simp [go_sem]; rfl) (by simp [go_sem])
      have y1 : World.frozen? w1 ⟨w.heap.size, 1, none⟩ = false := hb1.frozen (by simp [go_sem]; rfl) (by simp [go_sem])
      have y2 : World.frozen? w1 ⟨w.heap.size, 2, none⟩ = false := hb1.frozen (by simp [go_sem]; rfl) (by simp [go_sem])
      have hb : Bl w w1 := (by repeat (first | assumption | exact Bl.refl _ | apply Bl.drewN | apply Bl.drew | apply Bl.alloc | (refine Bl.dr ?_ (by assumption)) | (refine Bl.trans ?_ (by assumption))))
      clear hb1
      go_wp2_with fail
      refine bodyPost_ret (v := .tuple #[.agg #[.string k, .string r, .bool true], .int .i64 0]) (by simp [results, Tryd.results38, go_sem, *]) rfl ?_
      exact RB.mk rfl (by repeat (first | with_reducible exact hb | with_reducible (refine Bl.setCell ?_ _ (by first | (simp; done) | (simp; omega)) _) | with_reducible (apply Bl.drewN) | with_reducible (apply Bl.drew)))
    · rw [if_pos rfl] at h1
      rw [hmt rfl]
      have H1 := Lib.hid h1
      clear h1 hmt
      unfold Rng.v
      go_enter Tryd.func38, Tryd.ntmps38
      go_wp2_with fail
      refine (H1.out _).mono ?_; rintro e w1 ⟨rfl, hb1⟩
      have z0 : World.cell? w1 ⟨w.heap.size, 0, none⟩ = some (.string ⟨#[]⟩) := hb1.cell (by simp [go_sem])
      have z1 : World.cell? w1 ⟨w.heap.size, 1, none⟩ = some (.string ⟨#[]⟩) := hb1.cell (by simp [go_sem])
      have z2 : World.cell? w1 ⟨w.heap.size, 2, none⟩ = some (.bool false) := hb1.cell (by simp [go_sem])
      have y0 : World.frozen? w1 ⟨w.heap.size, 0, none⟩ = false := hb1.frozen (by simp [go_sem]; rfl) (by simp [go_sem])
      have y1 : World.frozen? w1 ⟨w.heap.size, 1, none⟩ = false := hb1.frozen (by simp [go_sem]; rfl) (by simp [go_sem])
      have y2 : World.frozen? w1 ⟨w.heap.size, 2, none⟩ = false := hb1.frozen (by simp [go_sem]; rfl) (by simp [go_sem])
      have hb : Bl w w1 := (by repeat (first | assumption | exact Bl.refl _ | apply Bl.drewN | apply Bl.drew | apply Bl.alloc | (refine Bl.dr ?_ (by assumption)) | (refine Bl.trans ?_ (by assumption))))
      clear hb1
      go_wp2_with fail
      refine bodyPost_ret (v := .tuple #[.agg #[.string k, .string ⟨#[]⟩, .bool false], .int .i64 0]) (by simp [results, Tryd.results38, go_sem, *]) rfl ?_
      exact RB.mk rfl (by repeat (first | with_reducible exact hb | with_reducible (refine Bl.setCell ?_ _ (by first | (simp; done) | (simp; omega)) _) | with_reducible (apply Bl.drewN) | with_reducible (apply Bl.drew)))
set_option maxHeartbeats 1000000 in
set_option maxRecDepth 100000 in
theorem refOf (k : ByteArray) (w : World) (hk : k.size ≤ maxLen) : Calls Tryd.prog 39 #[.string k] w (RB w (.tuple #[(ofR k).1.v, .int .i64 (ofR k).2])) := by
  have h1 := fun w => refPast k w hk
  unfold ofR
  unfold past at h1
  by_cases e1 : 32 < k.size
  · rw [if_pos e1] at h1 ⊢
    have H1 := Lib.hid h1
    clear h1
    unfold Rng.v
    go_enter Tryd.func39, Tryd.ntmps39
    go_wp2_with fail
    refine (H1.out _).mono ?_; rintro e w1 ⟨rfl, hb1⟩
    have z0 : World.cell? w1 ⟨w.heap.size, 0, none⟩ = some (.string ⟨#[]⟩) := hb1.cell (by simp [go_sem])
    have z1 : World.cell? w1 ⟨w.heap.size, 1, none⟩ = some (.string ⟨#[]⟩) := hb1.cell (by simp [go_sem])
    have z2 : World.cell? w1 ⟨w.heap.size, 2, none⟩ = some (.bool false) := hb1.cell (by simp [go_sem])
    have y0 : World.frozen? w1 ⟨w.heap.size, 0, none⟩ = false := hb1.frozen (by simp [go_sem]; rfl) (by simp [go_sem])
    have y1 : World.frozen? w1 ⟨w.heap.size, 1, none⟩ = false := hb1.frozen (by simp [go_sem]; rfl) (by simp [go_sem])
    have y2 : World.frozen? w1 ⟨w.heap.size, 2, none⟩ = false := hb1.frozen (by simp [go_sem]; rfl) (by simp [go_sem])
    have hb : Bl w w1 := (by repeat (first | assumption | exact Bl.refl _ | apply Bl.drewN | apply Bl.drew | apply Bl.alloc | (refine Bl.dr ?_ (by assumption)) | (refine Bl.trans ?_ (by assumption))))
    clear hb1
    go_wp2_with fail
    refine bodyPost_ret (v := .tuple #[.agg #[.string ⟨#[]⟩, .string ⟨#[]⟩, .bool false], .int .i64 3]) (by simp [results, Tryd.results39, go_sem, *]) rfl ?_
    exact RB.mk rfl (by repeat (first | with_reducible exact hb | with_reducible (refine Bl.setCell ?_ _ (by first | (simp; done) | (simp; omega)) _) | with_reducible (apply Bl.drewN) | with_reducible (apply Bl.drew)))
  · rw [if_neg e1] at h1 ⊢
    have hmt := rsdS_mt (k := k)
    generalize (rsd k.data.toList).isEmpty = b at *
    cases b
    · rw [if_neg (by simp)] at h1
      have H1 := Lib.hid h1
      clear h1 hmt
      generalize rsdS k = r at *
      unfold Rng.v
      go_enter Tryd.func39, Tryd.ntmps39
      go_wp2_with fail
      refine (H1.out _).mono ?_; rintro e w1 ⟨rfl, hb1⟩
      have z0 : World.cell? w1 ⟨w.heap.size, 0, none⟩ = some (.string ⟨#[]⟩) := hb1.cell (by simp [go_sem])
      have z1 : World.cell? w1 ⟨w.heap.size, 1, none⟩ = some (.string ⟨#[]⟩) := hb1.cell (by simp [go_sem])
      have z2 : World.cell? w1 ⟨w.heap.size, 2, none⟩ = some (.bool false) := hb1.cell (by simp [go_sem])
      have y0 : World.frozen? w1 ⟨w.heap.size, 0, none⟩ = false := hb1.frozen (by simp [go_sem]; rfl) (by simp [go_sem])
      have y1 : World.frozen? w1 ⟨w.heap.size, 1, none⟩ = false := hb1.frozen (by simp [go_sem]; rfl) (by simp [go_sem])
      have y2 : World.frozen? w1 ⟨w.heap.size, 2, none⟩ = false := hb1.frozen (by simp [go_sem]; rfl) (by simp [go_sem])
      have hb : Bl w w1 := (by repeat (first | assumption | exact Bl.refl _ | apply Bl.drewN | apply Bl.drew | apply Bl.alloc | (refine Bl.dr ?_ (by assumption)) | (refine Bl.trans ?_ (by assumption))))
      clear hb1
      go_wp2_with fail
      refine bodyPost_ret (v := .tuple #[.agg #[.string k, .string r, .bool true], .int .i64 0]) (by simp [results, Tryd.results39, go_sem, *]) rfl ?_
      exact RB.mk rfl (by repeat (first | with_reducible exact hb | with_reducible (refine Bl.setCell ?_ _ (by first | (simp; done) | (simp; omega)) _) | with_reducible (apply Bl.drewN) | with_reducible (apply Bl.drew)))
    · rw [if_pos rfl] at h1
      rw [hmt rfl]
      have H1 := Lib.hid h1
      clear h1 hmt
      unfold Rng.v
      go_enter Tryd.func39, Tryd.ntmps39
      go_wp2_with fail
      refine (H1.out _).mono ?_; rintro e w1 ⟨rfl, hb1⟩
      have z0 : World.cell? w1 ⟨w.heap.size, 0, none⟩ = some (.string ⟨#[]⟩) := hb1.cell (by simp [go_sem])
      have z1 : World.cell? w1 ⟨w.heap.size, 1, none⟩ = some (.string ⟨#[]⟩) := hb1.cell (by simp [go_sem])
      have z2 : World.cell? w1 ⟨w.heap.size, 2, none⟩ = some (.bool false) := hb1.cell (by simp [go_sem])
      have y0 : World.frozen? w1 ⟨w.heap.size, 0, none⟩ = false := hb1.frozen (by simp [go_sem]; rfl) (by simp [go_sem])
      have y1 : World.frozen? w1 ⟨w.heap.size, 1, none⟩ = false := hb1.frozen (by simp [go_sem]; rfl) (by simp [go_sem])
      have y2 : World.frozen? w1 ⟨w.heap.size, 2, none⟩ = false := hb1.frozen (by simp [go_sem]; rfl) (by simp [go_sem])
      have hb : Bl w w1 := (by repeat (first | assumption | exact Bl.refl _ | apply Bl.drewN | apply Bl.drew | apply Bl.alloc | (refine Bl.dr ?_ (by assumption)) | (refine Bl.trans ?_ (by assumption))))
      clear hb1
      go_wp2_with fail
      refine bodyPost_ret (v := .tuple #[.agg #[.string k, .string ⟨#[]⟩, .bool false], .int .i64 0]) (by simp [results, Tryd.results39, go_sem, *]) rfl ?_
      exact RB.mk rfl (by repeat (first | with_reducible exact hb | with_reducible (refine Bl.setCell ?_ _ (by first | (simp; done) | (simp; omega)) _) | with_reducible (apply Bl.drewN) | with_reducible (apply Bl.drew)))
end Go.Proofs.YtldccffbjohokaaDoor
