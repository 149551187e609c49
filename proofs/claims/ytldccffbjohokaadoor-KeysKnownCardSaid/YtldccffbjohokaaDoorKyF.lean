
/-
  Contract of keys.Meet.
-/
import Derived.Test.YtldccffbjohokaaDoorKyE
import Derived.Lib.MinMaxS
namespace Go.Proofs.YtldccffbjohokaaDoor
open Go.RowKit
set_option linter.unusedSimpArgs false
set_option linter.unusedVariables false
set_option maxRecDepth 100000

theorem maxS_eq (x y : ByteArray) : Lib.maxS x y = if slt x y = true then y else x := by
  unfold Lib.maxS slt
  rw [Proofs.bytesLess_eq, toL, toL]
  simp
theorem minS_eq (x y : ByteArray) : Lib.minS x y = if slt y x = true then y else x := by
  unfold Lib.minS
  have e1 : (x.data.toList < y.data.toList) ↔ slt x y = true := by unfold slt; rw [Proofs.bytesLess_eq, toL, toL]; simp
  have e2 : x.data.toList = y.data.toList ↔ x = y := by rw [← toL, ← toL]; exact ⟨str_ext, fun h => by rw [h]⟩
  simp only [e1, e2]
  cases h : slt y x
  · cases k : slt x y
    · have := slt_tri h k; subst this; simp
    · simp
  · have k := slt_asymm h
    have hne : x ≠ y := by rintro rfl; rw [slt_irrefl] at h; cases h
    simp [k, hne]


set_option maxHeartbeats 4000000 in
set_option maxRecDepth 100000 in
theorem keysMeet (r s : Rng) (w : World) (hr : r.ok) (hs : s.ok) : Calls Tryd.prog 34 #[r.v, s.v] w (RB w (.tuple #[(meet r s).1.v, .int .i64 (meet r s).2])) := by
  have h1 := fun w => keysCheckRange r w hr
  have h2 := fun w => keysCheckRange s w hs
  unfold meet
  obtain ⟨M, hM⟩ : ∃ M, M = meetR r s := ⟨_, rfl⟩
  rw [← hM]
  obtain ⟨ml, mh, mb⟩ := M
  obtain ⟨rl, rh, rb⟩ := r
  obtain ⟨sl, sh, sb⟩ := s
  unfold meetR at hM
  unfold Rng.v at h1 h2 ⊢
  simp only at h1 h2 hM ⊢
  by_cases e1 : rchk ⟨rl, rh, rb⟩ = 0
  · rw [if_neg (by simp [e1])]
    rw [e1] at h1
    by_cases e2 : rchk ⟨sl, sh, sb⟩ = 0
    · rw [if_neg (by simp [e2])]
      rw [e2] at h2
      have H1 := Lib.hid h1
      have H2 := Lib.hid h2
      clear h1 h2 e1 e2 hr hs
      obtain ⟨lo, hlo⟩ : ∃ lo, lo = Lib.maxS rl sl := ⟨_, rfl⟩
      obtain ⟨hh, hhi⟩ : ∃ hh, hh = Lib.minS rh sh := ⟨_, rfl⟩
      have hmx := fun w => Lib.run_max_strs (P := Tryd.prog) w #[9, 9] 9 rl sl
      have hmn := fun w => Lib.run_min_strs (P := Tryd.prog) w #[9, 9] 9 rh sh
      rw [← hlo] at hmx
      rw [← hhi] at hmn
      rw [maxS_eq] at hlo
      rw [minS_eq] at hhi
      rw [← hlo, ← hhi] at hM
      have HM := Lib.hid hM
      clear hM hlo hhi
      go_enter Tryd.func34, Tryd.ntmps34
      go_wp2_with fail
      obtain ⟨W0, hW0⟩ : ∃ W0, W0 = (((w.alloc (Obj.cells #[Value.string rl, Value.string rh, Value.bool rb] 34)).alloc (Obj.cells #[Value.string sl, Value.string sh, Value.bool sb] 34)).alloc (Obj.cells #[Value.string ⟨#[]⟩, Value.string ⟨#[]⟩, Value.bool false] 34)).alloc (Obj.cells #[Value.string rl, Value.string rh, Value.bool rb, Value.string sl, Value.string sh, Value.bool sb] 34) := ⟨_, rfl⟩
      go_loopg [13] 2 (fun g i wr => ∃ j : Nat, i = .int .i64 j ∧ j ≤ 2 ∧ Bl W0 wr ∧ g = 2 - j)
      case atStart => exact ⟨0, rfl, by omega, by rw [hW0]; exact Bl.refl _, rfl⟩
      case round =>
        obtain ⟨j, rfl, hj, hd, hg⟩ := hrel
        have G := Lib.hid hg
        clear hg
        have c0 : World.cell? wr ⟨w.heap.size, 0, none⟩ = some (.string rl) := hd.cell (by rw [hW0]; simp [go_sem])
        have c1 : World.cell? wr ⟨w.heap.size, 1, none⟩ = some (.string rh) := hd.cell (by rw [hW0]; simp [go_sem])
        have c2 : World.cell? wr ⟨w.heap.size, 2, none⟩ = some (.bool rb) := hd.cell (by rw [hW0]; simp [go_sem])
        have x0 : World.frozen? wr ⟨w.heap.size, 0, none⟩ = false := hd.frozen (by rw [hW0]; simp [go_sem]; rfl) (by rw [hW0]; simp [go_sem])
        have x1 : World.frozen? wr ⟨w.heap.size, 1, none⟩ = false := hd.frozen (by rw [hW0]; simp [go_sem]; rfl) (by rw [hW0]; simp [go_sem])
        have x2 : World.frozen? wr ⟨w.heap.size, 2, none⟩ = false := hd.frozen (by rw [hW0]; simp [go_sem]; rfl) (by rw [hW0]; simp [go_sem])
        have d0 : World.cell? wr ⟨w.heap.size + 1, 0, none⟩ = some (.string sl) := hd.cell (by rw [hW0]; simp [go_sem])
        have d1 : World.cell? wr ⟨w.heap.size + 1, 1, none⟩ = some (.string sh) := hd.cell (by rw [hW0]; simp [go_sem])
        have d2 : World.cell? wr ⟨w.heap.size + 1, 2, none⟩ = some (.bool sb) := hd.cell (by rw [hW0]; simp [go_sem])
        have z0 : World.cell? wr ⟨w.heap.size + 1 + 1, 0, none⟩ = some (.string ⟨#[]⟩) := hd.cell (by rw [hW0]; simp [go_sem])
        have z1 : World.cell? wr ⟨w.heap.size + 1 + 1, 1, none⟩ = some (.string ⟨#[]⟩) := hd.cell (by rw [hW0]; simp [go_sem])
        have z2 : World.cell? wr ⟨w.heap.size + 1 + 1, 2, none⟩ = some (.bool false) := hd.cell (by rw [hW0]; simp [go_sem])
        have y0 : World.frozen? wr ⟨w.heap.size + 1 + 1, 0, none⟩ = false := hd.frozen (by rw [hW0]; simp [go_sem]; rfl) (by rw [hW0]; simp [go_sem])
        have y1 : World.frozen? wr ⟨w.heap.size + 1 + 1, 1, none⟩ = false := hd.frozen (by rw [hW0]; simp [go_sem]; rfl) (by rw [hW0]; simp [go_sem])
        have y2 : World.frozen? wr ⟨w.heap.size + 1 + 1, 2, none⟩ = false := hd.frozen (by rw [hW0]; simp [go_sem]; rfl) (by rw [hW0]; simp [go_sem])
        have e0 : World.cell? wr ⟨w.heap.size + 1 + 1 + 1, 0, none⟩ = some (.string rl) := hd.cell (by rw [hW0]; simp [go_sem])
        have e1 : World.cell? wr ⟨w.heap.size + 1 + 1 + 1, 1, none⟩ = some (.string rh) := hd.cell (by rw [hW0]; simp [go_sem])
        have e2 : World.cell? wr ⟨w.heap.size + 1 + 1 + 1, 2, none⟩ = some (.bool rb) := hd.cell (by rw [hW0]; simp [go_sem])
        have e3 : World.cell? wr ⟨w.heap.size + 1 + 1 + 1, 3, none⟩ = some (.string sl) := hd.cell (by rw [hW0]; simp [go_sem])
        have e4 : World.cell? wr ⟨w.heap.size + 1 + 1 + 1, 4, none⟩ = some (.string sh) := hd.cell (by rw [hW0]; simp [go_sem])
        have e5 : World.cell? wr ⟨w.heap.size + 1 + 1 + 1, 5, none⟩ = some (.bool sb) := hd.cell (by rw [hW0]; simp [go_sem])
        have hb : Bl w wr := Bl.trans (by rw [hW0]; exact ((((Bl.refl w).alloc _).alloc _).alloc _).alloc _) hd
        have HW0 := Lib.hid hW0
        clear hW0
        have s3 := lt_of_cell e5
        simp only at s3
        rcases (show j = 0 ∨ j = 1 ∨ j = 2 by omega) with rfl | rfl | rfl
        · go_wp2_with fail
          refine (H1.out _).mono ?_; rintro e w2 ⟨rfl, hb2⟩
          have hd2 : Bl W0 w2 := hd.trans (((Bl.refl wr).alloc _).trans hb2)
          clear hb2 hd
          go_wp2_with fail
          go_roundg 1
          case rel => exact ⟨1, rfl, by omega, hd2, rfl⟩
          case measure => rw [G.out]; omega
        · go_wp2_with fail
          refine (H2.out _).mono ?_; rintro e w2 ⟨rfl, hb2⟩
          have hd2 : Bl W0 w2 := hd.trans (((Bl.refl wr).alloc _).trans hb2)
          clear hb2 hd
          go_wp2_with fail
          go_roundg 0
          case rel => exact ⟨2, rfl, by omega, hd2, rfl⟩
          case measure => rw [G.out]; omega
        · clear hd
          clear HW0 H1 H2 e0 e1 e2 e3 e4 e5
          cases rb
          · go_wp2_with fail
            go_region
            go_wp2_with fail
            refine bodyPost_ret (v := .tuple #[.agg #[.string lo, .string sh, .bool sb], .int .i64 0]) (by simp [results, Tryd.results34, go_sem, *]) rfl ?_
            refine RB.mk ?_ (by repeat (first | with_reducible exact hb | with_reducible (refine Bl.setCell ?_ _ (by first | (simp; done) | (simp; omega)) _) | with_reducible (apply Bl.drewN) | with_reducible (apply Bl.drew)))
            have hm := HM.out
            simp only [reduceIte, if_true, if_false, Bool.false_eq_true] at hm
            injection hm with h1 h2 h3
            rw [h1, h2, h3]
          · cases sb
            · go_wp2_with fail
              refine bodyPost_ret (v := .tuple #[.agg #[.string lo, .string rh, .bool true], .int .i64 0]) (by simp [results, Tryd.results34, go_sem, *]) rfl ?_
              refine RB.mk ?_ (by repeat (first | with_reducible exact hb | with_reducible (refine Bl.setCell ?_ _ (by first | (simp; done) | (simp; omega)) _) | with_reducible (apply Bl.drewN) | with_reducible (apply Bl.drew)))
              have hm := HM.out
              simp only [reduceIte, if_true, if_false, Bool.false_eq_true] at hm
              injection hm with h1 h2 h3
              rw [h1, h2, h3]
            · go_wp2_with fail
              refine bodyPost_ret (v := .tuple #[.agg #[.string lo, .string hh, .bool true], .int .i64 0]) (by simp [results, Tryd.results34, go_sem, *]) rfl ?_
              refine RB.mk ?_ (by repeat (first | with_reducible exact hb | with_reducible (refine Bl.setCell ?_ _ (by first | (simp; done) | (simp; omega)) _) | with_reducible (apply Bl.drewN) | with_reducible (apply Bl.drew)))
              have hm := HM.out
              simp only [reduceIte, if_true, if_false, Bool.false_eq_true] at hm
              injection hm with h1 h2 h3
              rw [h1, h2, h3]
    · rw [if_pos e2]
      have e2' : (rchk ⟨sl, sh, sb⟩ != 0) = true := by simp [e2]
      generalize rchk ⟨sl, sh, sb⟩ = q at *
      have H1 := Lib.hid h1
      have H2 := Lib.hid h2
      clear h1 h2 e1 e2 hr hs hM
      go_enter Tryd.func34, Tryd.ntmps34
      go_wp2_with fail
      obtain ⟨W0, hW0⟩ : ∃ W0, W0 = (((w.alloc (Obj.cells #[Value.string rl, Value.string rh, Value.bool rb] 34)).alloc (Obj.cells #[Value.string sl, Value.string sh, Value.bool sb] 34)).alloc (Obj.cells #[Value.string ⟨#[]⟩, Value.string ⟨#[]⟩, Value.bool false] 34)).alloc (Obj.cells #[Value.string rl, Value.string rh, Value.bool rb, Value.string sl, Value.string sh, Value.bool sb] 34) := ⟨_, rfl⟩
      go_loopg [13] 2 (fun g i wr => ∃ j : Nat, i = .int .i64 j ∧ j ≤ 1 ∧ Bl W0 wr ∧ g = 2 - j)
      case atStart => exact ⟨0, rfl, by omega, by rw [hW0]; exact Bl.refl _, rfl⟩
      case round =>
        obtain ⟨j, rfl, hj, hd, hg⟩ := hrel
        have G := Lib.hid hg
        clear hg
        have c0 : World.cell? wr ⟨w.heap.size, 0, none⟩ = some (.string rl) := hd.cell (by rw [hW0]; simp [go_sem])
        have c1 : World.cell? wr ⟨w.heap.size, 1, none⟩ = some (.string rh) := hd.cell (by rw [hW0]; simp [go_sem])
        have c2 : World.cell? wr ⟨w.heap.size, 2, none⟩ = some (.bool rb) := hd.cell (by rw [hW0]; simp [go_sem])
        have x0 : World.frozen? wr ⟨w.heap.size, 0, none⟩ = false := hd.frozen (by rw [hW0]; simp [go_sem]; rfl) (by rw [hW0]; simp [go_sem])
        have x1 : World.frozen? wr ⟨w.heap.size, 1, none⟩ = false := hd.frozen (by rw [hW0]; simp [go_sem]; rfl) (by rw [hW0]; simp [go_sem])
        have x2 : World.frozen? wr ⟨w.heap.size, 2, none⟩ = false := hd.frozen (by rw [hW0]; simp [go_sem]; rfl) (by rw [hW0]; simp [go_sem])
        have d0 : World.cell? wr ⟨w.heap.size + 1, 0, none⟩ = some (.string sl) := hd.cell (by rw [hW0]; simp [go_sem])
        have d1 : World.cell? wr ⟨w.heap.size + 1, 1, none⟩ = some (.string sh) := hd.cell (by rw [hW0]; simp [go_sem])
        have d2 : World.cell? wr ⟨w.heap.size + 1, 2, none⟩ = some (.bool sb) := hd.cell (by rw [hW0]; simp [go_sem])
        have z0 : World.cell? wr ⟨w.heap.size + 1 + 1, 0, none⟩ = some (.string ⟨#[]⟩) := hd.cell (by rw [hW0]; simp [go_sem])
        have z1 : World.cell? wr ⟨w.heap.size + 1 + 1, 1, none⟩ = some (.string ⟨#[]⟩) := hd.cell (by rw [hW0]; simp [go_sem])
        have z2 : World.cell? wr ⟨w.heap.size + 1 + 1, 2, none⟩ = some (.bool false) := hd.cell (by rw [hW0]; simp [go_sem])
        have y0 : World.frozen? wr ⟨w.heap.size + 1 + 1, 0, none⟩ = false := hd.frozen (by rw [hW0]; simp [go_sem]; rfl) (by rw [hW0]; simp [go_sem])
        have y1 : World.frozen? wr ⟨w.heap.size + 1 + 1, 1, none⟩ = false := hd.frozen (by rw [hW0]; simp [go_sem]; rfl) (by rw [hW0]; simp [go_sem])
        have y2 : World.frozen? wr ⟨w.heap.size + 1 + 1, 2, none⟩ = false := hd.frozen (by rw [hW0]; simp [go_sem]; rfl) (by rw [hW0]; simp [go_sem])
        have e0 : World.cell? wr ⟨w.heap.size + 1 + 1 + 1, 0, none⟩ = some (.string rl) := hd.cell (by rw [hW0]; simp [go_sem])
        have e1 : World.cell? wr ⟨w.heap.size + 1 + 1 + 1, 1, none⟩ = some (.string rh) := hd.cell (by rw [hW0]; simp [go_sem])
        have e2 : World.cell? wr ⟨w.heap.size + 1 + 1 + 1, 2, none⟩ = some (.bool rb) := hd.cell (by rw [hW0]; simp [go_sem])
        have e3 : World.cell? wr ⟨w.heap.size + 1 + 1 + 1, 3, none⟩ = some (.string sl) := hd.cell (by rw [hW0]; simp [go_sem])
        have e4 : World.cell? wr ⟨w.heap.size + 1 + 1 + 1, 4, none⟩ = some (.string sh) := hd.cell (by rw [hW0]; simp [go_sem])
        have e5 : World.cell? wr ⟨w.heap.size + 1 + 1 + 1, 5, none⟩ = some (.bool sb) := hd.cell (by rw [hW0]; simp [go_sem])
        have hb : Bl w wr := Bl.trans (by rw [hW0]; exact ((((Bl.refl w).alloc _).alloc _).alloc _).alloc _) hd
        have HW0 := Lib.hid hW0
        clear hW0
        have s3 := lt_of_cell e5
        simp only at s3
        rcases (show j = 0 ∨ j = 1 by omega) with rfl | rfl
        · go_wp2_with fail
          refine (H1.out _).mono ?_; rintro e w2 ⟨rfl, hb2⟩
          have hd2 : Bl W0 w2 := hd.trans (((Bl.refl wr).alloc _).trans hb2)
          clear hb2 hd
          go_wp2_with fail
          go_roundg 1
          case rel => exact ⟨1, rfl, by omega, hd2, rfl⟩
          case measure => rw [G.out]; omega
        · go_wp2_with fail
          refine (H2.out _).mono ?_; rintro e w2 ⟨rfl, hb2⟩
          have hbx : Bl wr w2 := ((Bl.refl wr).alloc _).trans hb2
          have y0 := hbx.frozen z0 y0
          have y1 := hbx.frozen z1 y1
          have y2 := hbx.frozen z2 y2
          have z0 := hbx.cell z0
          have z1 := hbx.cell z1
          have z2 := hbx.cell z2
          have hb : Bl w w2 := hb.trans hbx
          clear hbx hb2 hd HW0
          go_wp2_with fail
          refine bodyPost_ret (v := .tuple #[.agg #[.string ⟨#[]⟩, .string ⟨#[]⟩, .bool false], .int .i64 q]) (by simp [results, Tryd.results34, go_sem, *]) rfl ?_
          exact RB.mk rfl (by repeat (first | with_reducible exact hb | with_reducible (refine Bl.setCell ?_ _ (by first | (simp; done) | (simp; omega)) _) | with_reducible (apply Bl.drewN) | with_reducible (apply Bl.drew)))
  · rw [if_pos e1]
    have e1' : (rchk ⟨rl, rh, rb⟩ != 0) = true := by simp [e1]
    generalize rchk ⟨rl, rh, rb⟩ = q at *
    have H1 := Lib.hid h1
    clear h1 h2 e1 hr hs hM
    go_enter Tryd.func34, Tryd.ntmps34
    go_wp2_with fail
    obtain ⟨W0, hW0⟩ : ∃ W0, W0 = (((w.alloc (Obj.cells #[Value.string rl, Value.string rh, Value.bool rb] 34)).alloc (Obj.cells #[Value.string sl, Value.string sh, Value.bool sb] 34)).alloc (Obj.cells #[Value.string ⟨#[]⟩, Value.string ⟨#[]⟩, Value.bool false] 34)).alloc (Obj.cells #[Value.string rl, Value.string rh, Value.bool rb, Value.string sl, Value.string sh, Value.bool sb] 34) := ⟨_, rfl⟩
    go_loopg [13] 2 (fun g i wr => ∃ j : Nat, i = .int .i64 j ∧ j ≤ 0 ∧ Bl W0 wr ∧ g = 2 - j)
    case atStart => exact ⟨0, rfl, by omega, by rw [hW0]; exact Bl.refl _, rfl⟩
    case round =>
      obtain ⟨j, rfl, hj, hd, hg⟩ := hrel
      have G := Lib.hid hg
      clear hg
      have c0 : World.cell? wr ⟨w.heap.size, 0, none⟩ = some (.string rl) := hd.cell (by rw [hW0]; simp [go_sem])
      have c1 : World.cell? wr ⟨w.heap.size, 1, none⟩ = some (.string rh) := hd.cell (by rw [hW0]; simp [go_sem])
      have c2 : World.cell? wr ⟨w.heap.size, 2, none⟩ = some (.bool rb) := hd.cell (by rw [hW0]; simp [go_sem])
      have x0 : World.frozen? wr ⟨w.heap.size, 0, none⟩ = false := hd.frozen (by rw [hW0]; simp [go_sem]; rfl) (by rw [hW0]; simp [go_sem])
      have x1 : World.frozen? wr ⟨w.heap.size, 1, none⟩ = false := hd.frozen (by rw [hW0]; simp [go_sem]; rfl) (by rw [hW0]; simp [go_sem])
      have x2 : World.frozen? wr ⟨w.heap.size, 2, none⟩ = false := hd.frozen (by rw [hW0]; simp [go_sem]; rfl) (by rw [hW0]; simp [go_sem])
      have d0 : World.cell? wr ⟨w.heap.size + 1, 0, none⟩ = some (.string sl) := hd.cell (by rw [hW0]; simp [go_sem])
      have d1 : World.cell? wr ⟨w.heap.size + 1, 1, none⟩ = some (.string sh) := hd.cell (by rw [hW0]; simp [go_sem])
      have d2 : World.cell? wr ⟨w.heap.size + 1, 2, none⟩ = some (.bool sb) := hd.cell (by rw [hW0]; simp [go_sem])
      have z0 : World.cell? wr ⟨w.heap.size + 1 + 1, 0, none⟩ = some (.string ⟨#[]⟩) := hd.cell (by rw [hW0]; simp [go_sem])
      have z1 : World.cell? wr ⟨w.heap.size + 1 + 1, 1, none⟩ = some (.string ⟨#[]⟩) := hd.cell (by rw [hW0]; simp [go_sem])
      have z2 : World.cell? wr ⟨w.heap.size + 1 + 1, 2, none⟩ = some (.bool false) := hd.cell (by rw [hW0]; simp [go_sem])
      have y0 : World.frozen? wr ⟨w.heap.size + 1 + 1, 0, none⟩ = false := hd.frozen (by rw [hW0]; simp [go_sem]; rfl) (by rw [hW0]; simp [go_sem])
      have y1 : World.frozen? wr ⟨w.heap.size + 1 + 1, 1, none⟩ = false := hd.frozen (by rw [hW0]; simp [go_sem]; rfl) (by rw [hW0]; simp [go_sem])
      have y2 : World.frozen? wr ⟨w.heap.size + 1 + 1, 2, none⟩ = false := hd.frozen (by rw [hW0]; simp [go_sem]; rfl) (by rw [hW0]; simp [go_sem])
      have e0 : World.cell? wr ⟨w.heap.size + 1 + 1 + 1, 0, none⟩ = some (.string rl) := hd.cell (by rw [hW0]; simp [go_sem])
      have e1 : World.cell? wr ⟨w.heap.size + 1 + 1 + 1, 1, none⟩ = some (.string rh) := hd.cell (by rw [hW0]; simp [go_sem])
      have e2 : World.cell? wr ⟨w.heap.size + 1 + 1 + 1, 2, none⟩ = some (.bool rb) := hd.cell (by rw [hW0]; simp [go_sem])
      have e3 : World.cell? wr ⟨w.heap.size + 1 + 1 + 1, 3, none⟩ = some (.string sl) := hd.cell (by rw [hW0]; simp [go_sem])
      have e4 : World.cell? wr ⟨w.heap.size + 1 + 1 + 1, 4, none⟩ = some (.string sh) := hd.cell (by rw [hW0]; simp [go_sem])
      have e5 : World.cell? wr ⟨w.heap.size + 1 + 1 + 1, 5, none⟩ = some (.bool sb) := hd.cell (by rw [hW0]; simp [go_sem])
      have hb : Bl w wr := Bl.trans (by rw [hW0]; exact ((((Bl.refl w).alloc _).alloc _).alloc _).alloc _) hd
      have HW0 := Lib.hid hW0
      clear hW0
      have s3 := lt_of_cell e5
      simp only at s3
      obtain rfl : j = 0 := by omega
      go_wp2_with fail
      refine (H1.out _).mono ?_; rintro e w2 ⟨rfl, hb2⟩
      have hbx : Bl wr w2 := ((Bl.refl wr).alloc _).trans hb2
      have y0 := hbx.frozen z0 y0
      have y1 := hbx.frozen z1 y1
      have y2 := hbx.frozen z2 y2
      have z0 := hbx.cell z0
      have z1 := hbx.cell z1
      have z2 := hbx.cell z2
      have hb : Bl w w2 := hb.trans hbx
      clear hbx hb2 hd HW0
      go_wp2_with fail
      refine bodyPost_ret (v := .tuple #[.agg #[.string ⟨#[]⟩, .string ⟨#[]⟩, .bool false], .int .i64 q]) (by simp [results, Tryd.results34, go_sem, *]) rfl ?_
      exact RB.mk rfl (by repeat (first | with_reducible exact hb | with_reducible (refine Bl.setCell ?_ _ (by first | (simp; done) | (simp; omega)) _) | with_reducible (apply Bl.drewN) | with_reducible (apply Bl.drew)))
end Go.Proofs.YtldccffbjohokaaDoor
