
/-
  Contracts of Cover and Overlap of runs, of both.
-/
import Derived.Test.YtndcjgkgkpkklaaRnA
import Derived.Test.YtndcjgkgkpkklaaRnR
import Derived.IntWalk
namespace Go.Proofs.Ytndcjgkgkpkklaa
open Go.RowKit
set_option linter.unusedSimpArgs false
set_option linter.unusedVariables false
set_option maxRecDepth 100000


set_option maxHeartbeats 4000000 in
theorem runCover (a : Option Addr) (c : Nat) (r : Rn) (w : World) (h : ROk w a c r) :
    Calls Try.prog 27 #[r.v a c] w (RB w (.tuple #[(rcov r).1.v, .int .i64 (rcov r).2])) := by
  have hC := fun w h => runCheck a c r w h
  by_cases e : (rck r).2 = 0
  · have o4 : r.es.length ≤ 5000 := (rck_ok e).2.2.2.1
    by_cases f : r.es.length = 0
    · have hres : rcov r = (rng0, 4) := by unfold rcov; rw [if_neg (by simp [e]), if_pos f]
      rw [hres]
      rw [e] at hC
      clear e hres
      generalize (rck r).1 = p1 at *
      have HC := Lib.hid hC
      have HO := Lib.hid h
      obtain ⟨id, l⟩ := r
      unfold Rn.v Rng.v
      simp only at *
      clear hC h
      have f' : ((l.length : Int) == 0) = true := by rw [f]; rfl
      clear f
      go_enter Try.func27, Try.ntmps27
      go_wp2_with fail
      refine (HC.out _ (HO.out.bl (by repeat (first | assumption | exact Bl.refl _ | apply Bl.drewN | apply Bl.drew | apply Bl.alloc | (refine Bl.dr ?_ (by assumption)) | (refine Bl.trans ?_ (by assumption)))))).mono ?_; rintro e w1 ⟨rfl, hb1⟩
      have c1 : World.cell? w1 ⟨w.heap.size, 1, none⟩ = some (.slice (a) l.length c) := hb1.cell (by simp [go_sem])
      have z0 : World.cell? w1 ⟨w.heap.size + 1, 0, none⟩ = some (.string ⟨#[]⟩) := hb1.cell (by simp [go_sem])
      have z1 : World.cell? w1 ⟨w.heap.size + 1, 1, none⟩ = some (.string ⟨#[]⟩) := hb1.cell (by simp [go_sem])
      have z2 : World.cell? w1 ⟨w.heap.size + 1, 2, none⟩ = some (.bool false) := hb1.cell (by simp [go_sem])
      have y0 : World.frozen? w1 ⟨w.heap.size + 1, 0, none⟩ = false := hb1.frozen (by simp [go_sem]; rfl) (by simp [go_sem])
      have y1 : World.frozen? w1 ⟨w.heap.size + 1, 1, none⟩ = false := hb1.frozen (by simp [go_sem]; rfl) (by simp [go_sem])
      have y2 : World.frozen? w1 ⟨w.heap.size + 1, 2, none⟩ = false := hb1.frozen (by simp [go_sem]; rfl) (by simp [go_sem])
      have hb : Bl w w1 := (by repeat (first | assumption | exact Bl.refl _ | apply Bl.drewN | apply Bl.drew | apply Bl.alloc | (refine Bl.dr ?_ (by assumption)) | (refine Bl.trans ?_ (by assumption))))
      clear hb1
      go_wp2_with fail
      
      refine bodyPost_ret (v := .tuple #[.agg #[.string ⟨#[]⟩, .string ⟨#[]⟩, .bool false], .int .i64 4]) (by simp [results, Try.results27, go_sem, *]) rfl ?_
      exact RB.mk rfl (by repeat (first | assumption | exact Bl.refl _ | apply Bl.drewN | apply Bl.drew | apply Bl.alloc | (refine Bl.setCell ?_ _ (by first | (simp; done) | (simp; omega)) _) | (refine Bl.dr ?_ (by assumption)) | (refine Bl.trans ?_ (by assumption))))
    · have hres : rcov r = (⟨(headE r.es).key, (nxt (lastE r.es).key).1, (nxt (lastE r.es).key).2 == 0⟩, 0) := by unfold rcov; rw [if_neg (by simp [e]), if_neg f]
      rw [hres]
      have hl := lastE_get f
      have hh := headE_get f
      have hln := (h.ents.ok _ (List.mem_of_getElem? hl)).1
      have hN := fun w => keysNext (lastE r.es).key w hln
      obtain ⟨b, off, hab, hat⟩ := h.ents.get (k := 0) (Nat.pos_of_ne_zero f)
      have d0 := (hat _ _ hh).key
      have d1 := (hat _ _ hl).key
      have h1 : 0 < r.es.length := Nat.pos_of_ne_zero f
      have hw : IntKind.i64.wrap ((r.es.length : Int) - 1) = (r.es.length : Int) - 1 := IntWalk.i64_in _ (by omega)
      have ht : ((r.es.length : Int) - 1).toNat = r.es.length - 1 := by omega
      have hp : (0 : Int) < (r.es.length : Int) := by omega
      have hp2 : (0 : Int) ≤ (r.es.length : Int) - 1 := by omega
      have hp3 : (1 : Int) ≤ (r.es.length : Int) := by omega
      have f' : ((r.es.length : Int) == 0) = false := by rw [beq_eq_false_iff_ne]; omega
      rw [e] at hC
      generalize (lastE r.es).key = lk at *
      generalize (headE r.es).key = hk at *
      generalize (nxt lk).1 = v1 at *
      generalize (nxt lk).2 = v2 at *
      simp only [Nat.zero_mul, Nat.add_zero] at d0
      have HN := Lib.hid hN
      clear e hres hl hh hln hat hN f
      subst hab
      generalize (rck r).1 = p1 at *
      have HC := Lib.hid hC
      have HO := Lib.hid h
      obtain ⟨id, l⟩ := r
      unfold Rn.v Rng.v
      simp only at *
      clear hC h
      go_enter Try.func27, Try.ntmps27
      go_wp2_with fail
      refine (HC.out _ (HO.out.bl (by repeat (first | assumption | exact Bl.refl _ | apply Bl.drewN | apply Bl.drew | apply Bl.alloc | (refine Bl.dr ?_ (by assumption)) | (refine Bl.trans ?_ (by assumption)))))).mono ?_; rintro e w1 ⟨rfl, hb1⟩
      have c1 : World.cell? w1 ⟨w.heap.size, 1, none⟩ = some (.slice (some ⟨b, off, none⟩) l.length c) := hb1.cell (by simp [go_sem])
      have z0 : World.cell? w1 ⟨w.heap.size + 1, 0, none⟩ = some (.string ⟨#[]⟩) := hb1.cell (by simp [go_sem])
      have z1 : World.cell? w1 ⟨w.heap.size + 1, 1, none⟩ = some (.string ⟨#[]⟩) := hb1.cell (by simp [go_sem])
      have z2 : World.cell? w1 ⟨w.heap.size + 1, 2, none⟩ = some (.bool false) := hb1.cell (by simp [go_sem])
      have y0 : World.frozen? w1 ⟨w.heap.size + 1, 0, none⟩ = false := hb1.frozen (by simp [go_sem]; rfl) (by simp [go_sem])
      have y1 : World.frozen? w1 ⟨w.heap.size + 1, 1, none⟩ = false := hb1.frozen (by simp [go_sem]; rfl) (by simp [go_sem])
      have y2 : World.frozen? w1 ⟨w.heap.size + 1, 2, none⟩ = false := hb1.frozen (by simp [go_sem]; rfl) (by simp [go_sem])
      have hb : Bl w w1 := (by repeat (first | assumption | exact Bl.refl _ | apply Bl.drewN | apply Bl.drew | apply Bl.alloc | (refine Bl.dr ?_ (by assumption)) | (refine Bl.trans ?_ (by assumption))))
      clear hb1
      have d1' := hb.cell d1
      go_wp2_with fail
      refine (HN.out _).mono ?_; rintro e w2 ⟨rfl, hb2⟩
      have hb := hb.trans hb2
      have y0 := Bl.frozen hb2 z0 y0
      have y1 := Bl.frozen hb2 z1 y1
      have y2 := Bl.frozen hb2 z2 y2
      have c1 := Bl.cell hb2 c1
      have z0 := Bl.cell hb2 z0
      have z1 := Bl.cell hb2 z1
      have z2 := Bl.cell hb2 z2
      have d0' := hb.cell d0
      clear hb2 d1'
      go_wp2_with fail
      
      refine bodyPost_ret (v := .tuple #[.agg #[.string hk, .string v1, .bool (v2 == 0)], .int .i64 0]) (by simp [results, Try.results27, go_sem, *]) rfl ?_
      exact RB.mk rfl (by repeat (first | assumption | exact Bl.refl _ | apply Bl.drewN | apply Bl.drew | apply Bl.alloc | (refine Bl.setCell ?_ _ (by first | (simp; done) | (simp; omega)) _) | (refine Bl.dr ?_ (by assumption)) | (refine Bl.trans ?_ (by assumption))))
  · have hres : rcov r = (rng0, (rck r).2) := by unfold rcov; rw [if_pos e]
    rw [hres]
    have e' : ((rck r).2 != 0) = true := by simp [e]
    generalize (rck r).2 = q at *
    clear hres e
    generalize (rck r).1 = p1 at *
    have HC := Lib.hid hC
    have HO := Lib.hid h
    obtain ⟨id, l⟩ := r
    unfold Rn.v Rng.v
    simp only at *
    clear hC h
    go_enter Try.func27, Try.ntmps27
    go_wp2_with fail
    refine (HC.out _ (HO.out.bl (by repeat (first | assumption | exact Bl.refl _ | apply Bl.drewN | apply Bl.drew | apply Bl.alloc | (refine Bl.dr ?_ (by assumption)) | (refine Bl.trans ?_ (by assumption)))))).mono ?_; rintro e w1 ⟨rfl, hb1⟩
    have c1 : World.cell? w1 ⟨w.heap.size, 1, none⟩ = some (.slice (a) l.length c) := hb1.cell (by simp [go_sem])
    have z0 : World.cell? w1 ⟨w.heap.size + 1, 0, none⟩ = some (.string ⟨#[]⟩) := hb1.cell (by simp [go_sem])
    have z1 : World.cell? w1 ⟨w.heap.size + 1, 1, none⟩ = some (.string ⟨#[]⟩) := hb1.cell (by simp [go_sem])
    have z2 : World.cell? w1 ⟨w.heap.size + 1, 2, none⟩ = some (.bool false) := hb1.cell (by simp [go_sem])
    have y0 : World.frozen? w1 ⟨w.heap.size + 1, 0, none⟩ = false := hb1.frozen (by simp [go_sem]; rfl) (by simp [go_sem])
    have y1 : World.frozen? w1 ⟨w.heap.size + 1, 1, none⟩ = false := hb1.frozen (by simp [go_sem]; rfl) (by simp [go_sem])
    have y2 : World.frozen? w1 ⟨w.heap.size + 1, 2, none⟩ = false := hb1.frozen (by simp [go_sem]; rfl) (by simp [go_sem])
    have hb : Bl w w1 := (by repeat (first | assumption | exact Bl.refl _ | apply Bl.drewN | apply Bl.drew | apply Bl.alloc | (refine Bl.dr ?_ (by assumption)) | (refine Bl.trans ?_ (by assumption))))
    clear hb1
    go_wp2_with fail
    
    refine bodyPost_ret (v := .tuple #[.agg #[.string ⟨#[]⟩, .string ⟨#[]⟩, .bool false], .int .i64 q]) (by simp [results, Try.results27, go_sem, *]) rfl ?_
    exact RB.mk rfl (by repeat (first | assumption | exact Bl.refl _ | apply Bl.drewN | apply Bl.drew | apply Bl.alloc | (refine Bl.setCell ?_ _ (by first | (simp; done) | (simp; omega)) _) | (refine Bl.dr ?_ (by assumption)) | (refine Bl.trans ?_ (by assumption))))

set_option maxHeartbeats 4000000 in
theorem refRunCover (a : Option Addr) (c : Nat) (r : Rn) (w : World) (h : ROk w a c r) :
    Calls Try.prog 28 #[r.v a c] w (RB w (.tuple #[(rcov r).1.v, .int .i64 (rcov r).2])) := by
  have hC := fun w h => refRunCheck a c r w h
  by_cases e : (rck r).2 = 0
  · have o4 : r.es.length ≤ 5000 := (rck_ok e).2.2.2.1
    by_cases f : r.es.length = 0
    · have hres : rcov r = (rng0, 4) := by unfold rcov; rw [if_neg (by simp [e]), if_pos f]
      rw [hres]
      rw [e] at hC
      clear e hres
      generalize (rck r).1 = p1 at *
      have HC := Lib.hid hC
      have HO := Lib.hid h
      obtain ⟨id, l⟩ := r
      unfold Rn.v Rng.v
      simp only at *
      clear hC h
      have f' : ((l.length : Int) == 0) = true := by rw [f]; rfl
      clear f
      go_enter Try.func28, Try.ntmps28
      go_wp2_with fail
      refine (HC.out _ (HO.out.bl (by repeat (first | assumption | exact Bl.refl _ | apply Bl.drewN | apply Bl.drew | apply Bl.alloc | (refine Bl.dr ?_ (by assumption)) | (refine Bl.trans ?_ (by assumption)))))).mono ?_; rintro e w1 ⟨rfl, hb1⟩
      have c1 : World.cell? w1 ⟨w.heap.size, 1, none⟩ = some (.slice (a) l.length c) := hb1.cell (by simp [go_sem])
      have z0 : World.cell? w1 ⟨w.heap.size + 1, 0, none⟩ = some (.string ⟨#[]⟩) := hb1.cell (by simp [go_sem])
      have z1 : World.cell? w1 ⟨w.heap.size + 1, 1, none⟩ = some (.string ⟨#[]⟩) := hb1.cell (by simp [go_sem])
      have z2 : World.cell? w1 ⟨w.heap.size + 1, 2, none⟩ = some (.bool false) := hb1.cell (by simp [go_sem])
      have y0 : World.frozen? w1 ⟨w.heap.size + 1, 0, none⟩ = false := hb1.frozen (by simp [go_sem]; rfl) (by simp [go_sem])
      have y1 : World.frozen? w1 ⟨w.heap.size + 1, 1, none⟩ = false := hb1.frozen (by simp [go_sem]; rfl) (by simp [go_sem])
      have y2 : World.frozen? w1 ⟨w.heap.size + 1, 2, none⟩ = false := hb1.frozen (by simp [go_sem]; rfl) (by simp [go_sem])
      have hb : Bl w w1 := (by repeat (first | assumption | exact Bl.refl _ | apply Bl.drewN | apply Bl.drew | apply Bl.alloc | (refine Bl.dr ?_ (by assumption)) | (refine Bl.trans ?_ (by assumption))))
      clear hb1
      go_wp2_with fail
      
      refine bodyPost_ret (v := .tuple #[.agg #[.string ⟨#[]⟩, .string ⟨#[]⟩, .bool false], .int .i64 4]) (by simp [results, Try.results28, go_sem, *]) rfl ?_
      exact RB.mk rfl (by repeat (first | assumption | exact Bl.refl _ | apply Bl.drewN | apply Bl.drew | apply Bl.alloc | (refine Bl.setCell ?_ _ (by first | (simp; done) | (simp; omega)) _) | (refine Bl.dr ?_ (by assumption)) | (refine Bl.trans ?_ (by assumption))))
    · have hres : rcov r = (⟨(headE r.es).key, (nxt (lastE r.es).key).1, (nxt (lastE r.es).key).2 == 0⟩, 0) := by unfold rcov; rw [if_neg (by simp [e]), if_neg f]
      rw [hres]
      have hl := lastE_get f
      have hh := headE_get f
      have hln := (h.ents.ok _ (List.mem_of_getElem? hl)).1
      have hN := fun w => refNext (lastE r.es).key w hln
      have hne := @nxt_err (lastE r.es).key
      obtain ⟨b, off, hab, hat⟩ := h.ents.get (k := 0) (Nat.pos_of_ne_zero f)
      have d0 := (hat _ _ hh).key
      have d1 := (hat _ _ hl).key
      have h1 : 0 < r.es.length := Nat.pos_of_ne_zero f
      have hw : IntKind.i64.wrap ((r.es.length : Int) - 1) = (r.es.length : Int) - 1 := IntWalk.i64_in _ (by omega)
      have ht : ((r.es.length : Int) - 1).toNat = r.es.length - 1 := by omega
      have hp : (0 : Int) < (r.es.length : Int) := by omega
      have hp2 : (0 : Int) ≤ (r.es.length : Int) - 1 := by omega
      have hp3 : (1 : Int) ≤ (r.es.length : Int) := by omega
      have f' : ((r.es.length : Int) == 0) = false := by rw [beq_eq_false_iff_ne]; omega
      rw [e] at hC
      generalize (lastE r.es).key = lk at *
      generalize (headE r.es).key = hk at *
      generalize (nxt lk).1 = v1 at *
      generalize (nxt lk).2 = v2 at *
      simp only [Nat.zero_mul, Nat.add_zero] at d0
      have HN := Lib.hid hN
      have HNE := Lib.hid hne
      clear e hres hl hh hln hat hN f hne
      subst hab
      generalize (rck r).1 = p1 at *
      have HC := Lib.hid hC
      have HO := Lib.hid h
      obtain ⟨id, l⟩ := r
      unfold Rn.v Rng.v
      simp only at *
      clear hC h
      go_enter Try.func28, Try.ntmps28
      go_wp2_with fail
      refine (HC.out _ (HO.out.bl (by repeat (first | assumption | exact Bl.refl _ | apply Bl.drewN | apply Bl.drew | apply Bl.alloc | (refine Bl.dr ?_ (by assumption)) | (refine Bl.trans ?_ (by assumption)))))).mono ?_; rintro e w1 ⟨rfl, hb1⟩
      have c1 : World.cell? w1 ⟨w.heap.size, 1, none⟩ = some (.slice (some ⟨b, off, none⟩) l.length c) := hb1.cell (by simp [go_sem])
      have z0 : World.cell? w1 ⟨w.heap.size + 1, 0, none⟩ = some (.string ⟨#[]⟩) := hb1.cell (by simp [go_sem])
      have z1 : World.cell? w1 ⟨w.heap.size + 1, 1, none⟩ = some (.string ⟨#[]⟩) := hb1.cell (by simp [go_sem])
      have z2 : World.cell? w1 ⟨w.heap.size + 1, 2, none⟩ = some (.bool false) := hb1.cell (by simp [go_sem])
      have y0 : World.frozen? w1 ⟨w.heap.size + 1, 0, none⟩ = false := hb1.frozen (by simp [go_sem]; rfl) (by simp [go_sem])
      have y1 : World.frozen? w1 ⟨w.heap.size + 1, 1, none⟩ = false := hb1.frozen (by simp [go_sem]; rfl) (by simp [go_sem])
      have y2 : World.frozen? w1 ⟨w.heap.size + 1, 2, none⟩ = false := hb1.frozen (by simp [go_sem]; rfl) (by simp [go_sem])
      have hb : Bl w w1 := (by repeat (first | assumption | exact Bl.refl _ | apply Bl.drewN | apply Bl.drew | apply Bl.alloc | (refine Bl.dr ?_ (by assumption)) | (refine Bl.trans ?_ (by assumption))))
      clear hb1
      have d1' := (hb.alloc (Obj.cells #[.string hk, .string ⟨#[]⟩, .bool false] 39)).cell d1
      have d0' := hb.cell d0
      have d2' := hb.cell d1
      have hbn := ((Bl.refl w1).alloc (Obj.cells #[.string hk, .string ⟨#[]⟩, .bool false] 39)).cell c1
      go_wp2_with fail
      refine (HN.out _).mono ?_; rintro e w2 ⟨rfl, hb2⟩
      have hb2' : Bl w1 w2 := (by repeat (first | assumption | exact Bl.refl _ | apply Bl.drewN | apply Bl.drew | apply Bl.alloc | (refine Bl.dr ?_ (by assumption)) | (refine Bl.trans ?_ (by assumption))))
      have x0 : w2.cell? ⟨w1.heap.size, 0, none⟩ = some (.string hk) := hb2.cell (by simp [go_sem])
      have x1 : w2.cell? ⟨w1.heap.size, 1, none⟩ = some (.string ⟨#[]⟩) := hb2.cell (by simp [go_sem])
      have x2 : w2.cell? ⟨w1.heap.size, 2, none⟩ = some (.bool false) := hb2.cell (by simp [go_sem])
      have u0 : w2.frozen? ⟨w1.heap.size, 0, none⟩ = false := hb2.frozen (by simp [go_sem]; rfl) (by simp [go_sem])
      have u1 : w2.frozen? ⟨w1.heap.size, 1, none⟩ = false := hb2.frozen (by simp [go_sem]; rfl) (by simp [go_sem])
      have u2 : w2.frozen? ⟨w1.heap.size, 2, none⟩ = false := hb2.frozen (by simp [go_sem]; rfl) (by simp [go_sem])
      have hsz : w.heap.size + 1 < w1.heap.size := lt_of_cell z0
      have hne1 : w1.heap.size ≠ w.heap.size + 1 := by omega
      have hne2 : w1.heap.size ≠ w.heap.size := by omega
      have hsw : w.heap.size ≤ w1.heap.size := by omega
      have hb := hb.trans hb2'
      have y0 := Bl.frozen hb2' z0 y0
      have y1 := Bl.frozen hb2' z1 y1
      have y2 := Bl.frozen hb2' z2 y2
      have c1 := Bl.cell hb2' c1
      have z0 := Bl.cell hb2' z0
      have z1 := Bl.cell hb2' z1
      have z2 := Bl.cell hb2' z2
      clear hb2 d1' d0' d2' hbn
      by_cases g : v2 = 0
      · subst g
        go_wp2_with fail
        
        refine bodyPost_ret (v := .tuple #[.agg #[.string hk, .string v1, .bool true], .int .i64 0]) (by simp [results, Try.results28, go_sem, *]) rfl ?_
        exact RB.mk rfl (by repeat (first | assumption | exact Bl.refl _ | apply Bl.drewN | apply Bl.drew | apply Bl.alloc | (refine Bl.setCell ?_ _ (by first | (simp; done) | (simp; omega)) _) | (refine Bl.dr ?_ (by assumption)) | (refine Bl.trans ?_ (by assumption))))
      · have g1 : (v2 == 0) = false := by simp [g]
        have g2 := HNE.out g
        subst g2
        clear g
        go_wp2_with fail
        
        refine bodyPost_ret (v := .tuple #[.agg #[.string hk, .string ⟨#[]⟩, .bool false], .int .i64 0]) (by simp [results, Try.results28, go_sem, *]) rfl ?_
        exact RB.mk (by rw [g1]) (by repeat (first | assumption | exact Bl.refl _ | apply Bl.drewN | apply Bl.drew | apply Bl.alloc | (refine Bl.setCell ?_ _ (by first | (simp; done) | (simp; omega)) _) | (refine Bl.dr ?_ (by assumption)) | (refine Bl.trans ?_ (by assumption))))
  · have hres : rcov r = (rng0, (rck r).2) := by unfold rcov; rw [if_pos e]
    rw [hres]
    have e' : ((rck r).2 != 0) = true := by simp [e]
    have e2 : ((rck r).2 == 0) = false := by simp [e]
    generalize (rck r).2 = q at *
    clear hres e
    generalize (rck r).1 = p1 at *
    have HC := Lib.hid hC
    have HO := Lib.hid h
    obtain ⟨id, l⟩ := r
    unfold Rn.v Rng.v
    simp only at *
    clear hC h
    go_enter Try.func28, Try.ntmps28
    go_wp2_with fail
    refine (HC.out _ (HO.out.bl (by repeat (first | assumption | exact Bl.refl _ | apply Bl.drewN | apply Bl.drew | apply Bl.alloc | (refine Bl.dr ?_ (by assumption)) | (refine Bl.trans ?_ (by assumption)))))).mono ?_; rintro e w1 ⟨rfl, hb1⟩
    have c1 : World.cell? w1 ⟨w.heap.size, 1, none⟩ = some (.slice (a) l.length c) := hb1.cell (by simp [go_sem])
    have z0 : World.cell? w1 ⟨w.heap.size + 1, 0, none⟩ = some (.string ⟨#[]⟩) := hb1.cell (by simp [go_sem])
    have z1 : World.cell? w1 ⟨w.heap.size + 1, 1, none⟩ = some (.string ⟨#[]⟩) := hb1.cell (by simp [go_sem])
    have z2 : World.cell? w1 ⟨w.heap.size + 1, 2, none⟩ = some (.bool false) := hb1.cell (by simp [go_sem])
    have y0 : World.frozen? w1 ⟨w.heap.size + 1, 0, none⟩ = false := hb1.frozen (by simp [go_sem]; rfl) (by simp [go_sem])
    have y1 : World.frozen? w1 ⟨w.heap.size + 1, 1, none⟩ = false := hb1.frozen (by simp [go_sem]; rfl) (by simp [go_sem])
    have y2 : World.frozen? w1 ⟨w.heap.size + 1, 2, none⟩ = false := hb1.frozen (by simp [go_sem]; rfl) (by simp [go_sem])
    have hb : Bl w w1 := (by repeat (first | assumption | exact Bl.refl _ | apply Bl.drewN | apply Bl.drew | apply Bl.alloc | (refine Bl.dr ?_ (by assumption)) | (refine Bl.trans ?_ (by assumption))))
    clear hb1
    go_wp2_with fail
    
    refine bodyPost_ret (v := .tuple #[.agg #[.string ⟨#[]⟩, .string ⟨#[]⟩, .bool false], .int .i64 q]) (by simp [results, Try.results28, go_sem, *]) rfl ?_
    exact RB.mk rfl (by repeat (first | assumption | exact Bl.refl _ | apply Bl.drewN | apply Bl.drew | apply Bl.alloc | (refine Bl.setCell ?_ _ (by first | (simp; done) | (simp; omega)) _) | (refine Bl.dr ?_ (by assumption)) | (refine Bl.trans ?_ (by assumption))))
end Go.Proofs.Ytndcjgkgkpkklaa
