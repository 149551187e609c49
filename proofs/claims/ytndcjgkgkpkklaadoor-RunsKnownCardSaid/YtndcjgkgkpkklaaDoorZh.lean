/-
  Own texts laid together: RnC.
-/
import Derived.Test.YtndcjgkgkpkklaaDoorZg
/-
  Contracts of runs.Get, Floor and Ceiling.
-/
namespace Go.Proofs.YtndcjgkgkpkklaaDoor
open Go.RowKit
set_option linter.unusedSimpArgs false
set_option linter.unusedVariables false
set_option maxRecDepth 100000


set_option maxHeartbeats 2000000 in
theorem runGet (a : Option Addr) (c : Nat) (r : Rn) (k : ByteArray) (w : World) (h : ROk w a c r) (hk : k.size ≤ maxLen) :
    Calls Tryd.prog 5 #[r.v a c, .string k] w (RB w (.tuple #[(rget r k).1.v, .int .i64 (rget r k).2])) := by
  have hA := fun g w h => runAsked a c r k g w h hk
  unfold rget
  by_cases e : rask r k = 0
  · rw [if_neg (by simp [e])]
    obtain ⟨o1, o2⟩ := rask_ok e
    obtain ⟨-, -, o3, o4, -, -⟩ := rck_ok o1
    rw [e] at hA
    have hR := fun w hh => runAround a c r.es k w hh h.len h.cap o3 o2
    have hq := cntLtE_le r.es k
    generalize cntLtE r.es k = q at *
    generalize hasK r.es k = is at *
    cases is
    · rw [if_neg (by simp)]
      have HA := Lib.hid hA
      have HO := Lib.hid h
      have HR := Lib.hid hR
      obtain ⟨id, l⟩ := r
      unfold Rn.v Ent.v ent0
      simp only at hq o4 ⊢
      clear hA h hR o1 o2 o3 e
      go_enter Tryd.func5, Tryd.ntmps5
      go_wp2_with fail
      refine (HA.out _ _ (HO.out.bl (by repeat (first | assumption | exact Bl.refl _ | apply Bl.drewN | apply Bl.drew | apply Bl.alloc | (refine Bl.dr ?_ (by assumption)) | (refine Bl.trans ?_ (by assumption))))) (by simp [go_sem]) (by simp [go_sem])).mono ?_; rintro e w1 ⟨rfl, hb1⟩
      
      have c1 : World.cell? w1 ⟨w.heap.size, 1, none⟩ = some (.slice a l.length c) := hb1.cell (by simp [go_sem])
      have z0 : World.cell? w1 ⟨w.heap.size + 1, 0, none⟩ = some (.string ⟨#[]⟩) := hb1.cell (by simp [go_sem])
      have z1 : World.cell? w1 ⟨w.heap.size + 1, 1, none⟩ = some (.string ⟨#[]⟩) := hb1.cell (by simp [go_sem])
      have z2 : World.cell? w1 ⟨w.heap.size + 1, 2, none⟩ = some (.bool false) := hb1.cell (by simp [go_sem])
      have z3 : World.cell? w1 ⟨w.heap.size + 1, 3, none⟩ = some (.int .i64 0) := hb1.cell (by simp [go_sem])
      have y0 : World.frozen? w1 ⟨w.heap.size + 1, 0, none⟩ = false := hb1.frozen (by simp [go_sem]; rfl) (by simp [go_sem])
      have y1 : World.frozen? w1 ⟨w.heap.size + 1, 1, none⟩ = false := hb1.frozen (by simp [go_sem]; rfl) (by simp [go_sem])
      have y2 : World.frozen? w1 ⟨w.heap.size + 1, 2, none⟩ = false := hb1.frozen (by simp [go_sem]; rfl) (by simp [go_sem])
      have y3 : World.frozen? w1 ⟨w.heap.size + 1, 3, none⟩ = false := hb1.frozen (by simp [go_sem]; rfl) (by simp [go_sem])
      have hb : Bl w w1 := (by repeat (first | assumption | exact Bl.refl _ | apply Bl.drewN | apply Bl.drew | apply Bl.alloc | (refine Bl.dr ?_ (by assumption)) | (refine Bl.trans ?_ (by assumption))))
      clear hb1
      go_wp2_with fail
      refine (HR.out _ (HO.out.ents.bl (by repeat (first | assumption | exact Bl.refl _ | apply Bl.drewN | apply Bl.drew | apply Bl.alloc | (refine Bl.dr ?_ (by assumption)) | (refine Bl.trans ?_ (by assumption)))))).mono ?_; rintro e w2 ⟨rfl, hb2⟩
      
      have y0 := Bl.frozen hb2 z0 y0
      have y1 := Bl.frozen hb2 z1 y1
      have y2 := Bl.frozen hb2 z2 y2
      have y3 := Bl.frozen hb2 z3 y3
      have c1 := Bl.cell hb2 c1
      have z0 := Bl.cell hb2 z0
      have z1 := Bl.cell hb2 z1
      have z2 := Bl.cell hb2 z2
      have z3 := Bl.cell hb2 z3
      have hb := hb.trans hb2
      clear hb2
      go_wp2_with fail
      
      refine bodyPost_ret (v := .tuple #[.agg #[.string ⟨#[]⟩, .string ⟨#[]⟩, .bool false, .int .i64 0], .int .i64 4]) (by simp [results, Tryd.results5, go_sem, *]) rfl ?_
      exact RB.mk rfl (by repeat (first | assumption | exact Bl.refl _ | apply Bl.drewN | apply Bl.drew | apply Bl.alloc | (refine Bl.setCell ?_ _ (by first | (simp; done) | (simp; omega)) _) | (refine Bl.dr ?_ (by assumption)) | (refine Bl.trans ?_ (by assumption))))
    · rw [if_pos rfl]
      have hT := fun w hh => runAt a c r.es ((q : Int)) w hh (Nat.le_trans h.len h.cap) (by omega) (by omega)
      generalize atE r.es ((q : Int)) = p at *
      obtain ⟨⟨kk, vv, dd, ss⟩, pe⟩ := p
      simp only [Ent.v] at hT ⊢
      have HA := Lib.hid hA
      have HO := Lib.hid h
      have HR := Lib.hid hR
      have HT := Lib.hid hT
      obtain ⟨id, l⟩ := r
      unfold Rn.v
      simp only at hq o4 ⊢
      clear hA h hR hT o1 o2 o3 e
      go_enter Tryd.func5, Tryd.ntmps5
      go_wp2_with fail
      refine (HA.out _ _ (HO.out.bl (by repeat (first | assumption | exact Bl.refl _ | apply Bl.drewN | apply Bl.drew | apply Bl.alloc | (refine Bl.dr ?_ (by assumption)) | (refine Bl.trans ?_ (by assumption))))) (by simp [go_sem]) (by simp [go_sem])).mono ?_; rintro e w1 ⟨rfl, hb1⟩
      
      have c1 : World.cell? w1 ⟨w.heap.size, 1, none⟩ = some (.slice a l.length c) := hb1.cell (by simp [go_sem])
      have z0 : World.cell? w1 ⟨w.heap.size + 1, 0, none⟩ = some (.string ⟨#[]⟩) := hb1.cell (by simp [go_sem])
      have z1 : World.cell? w1 ⟨w.heap.size + 1, 1, none⟩ = some (.string ⟨#[]⟩) := hb1.cell (by simp [go_sem])
      have z2 : World.cell? w1 ⟨w.heap.size + 1, 2, none⟩ = some (.bool false) := hb1.cell (by simp [go_sem])
      have z3 : World.cell? w1 ⟨w.heap.size + 1, 3, none⟩ = some (.int .i64 0) := hb1.cell (by simp [go_sem])
      have y0 : World.frozen? w1 ⟨w.heap.size + 1, 0, none⟩ = false := hb1.frozen (by simp [go_sem]; rfl) (by simp [go_sem])
      have y1 : World.frozen? w1 ⟨w.heap.size + 1, 1, none⟩ = false := hb1.frozen (by simp [go_sem]; rfl) (by simp [go_sem])
      have y2 : World.frozen? w1 ⟨w.heap.size + 1, 2, none⟩ = false := hb1.frozen (by simp [go_sem]; rfl) (by simp [go_sem])
      have y3 : World.frozen? w1 ⟨w.heap.size + 1, 3, none⟩ = false := hb1.frozen (by simp [go_sem]; rfl) (by simp [go_sem])
      have hb : Bl w w1 := (by repeat (first | assumption | exact Bl.refl _ | apply Bl.drewN | apply Bl.drew | apply Bl.alloc | (refine Bl.dr ?_ (by assumption)) | (refine Bl.trans ?_ (by assumption))))
      clear hb1
      go_wp2_with fail
      refine (HR.out _ (HO.out.ents.bl (by repeat (first | assumption | exact Bl.refl _ | apply Bl.drewN | apply Bl.drew | apply Bl.alloc | (refine Bl.dr ?_ (by assumption)) | (refine Bl.trans ?_ (by assumption)))))).mono ?_; rintro e w2 ⟨rfl, hb2⟩
      
      have y0 := Bl.frozen hb2 z0 y0
      have y1 := Bl.frozen hb2 z1 y1
      have y2 := Bl.frozen hb2 z2 y2
      have y3 := Bl.frozen hb2 z3 y3
      have c1 := Bl.cell hb2 c1
      have z0 := Bl.cell hb2 z0
      have z1 := Bl.cell hb2 z1
      have z2 := Bl.cell hb2 z2
      have z3 := Bl.cell hb2 z3
      have hb := hb.trans hb2
      clear hb2
      go_wp2_with fail
      refine (HT.out _ (HO.out.ents.bl (by repeat (first | assumption | exact Bl.refl _ | apply Bl.drewN | apply Bl.drew | apply Bl.alloc | (refine Bl.dr ?_ (by assumption)) | (refine Bl.trans ?_ (by assumption)))))).mono ?_; rintro e w3 ⟨rfl, hb3⟩
      
      have y0 := Bl.frozen hb3 z0 y0
      have y1 := Bl.frozen hb3 z1 y1
      have y2 := Bl.frozen hb3 z2 y2
      have y3 := Bl.frozen hb3 z3 y3
      have c1 := Bl.cell hb3 c1
      have z0 := Bl.cell hb3 z0
      have z1 := Bl.cell hb3 z1
      have z2 := Bl.cell hb3 z2
      have z3 := Bl.cell hb3 z3
      have hb := hb.trans hb3
      clear hb3
      go_wp2_with fail
      
      refine bodyPost_ret (v := .tuple #[.agg #[.string kk, .string vv, .bool dd, .int .i64 ss], .int .i64 pe]) (by simp [results, Tryd.results5, go_sem, *]) rfl ?_
      exact RB.mk rfl (by repeat (first | assumption | exact Bl.refl _ | apply Bl.drewN | apply Bl.drew | apply Bl.alloc | (refine Bl.setCell ?_ _ (by first | (simp; done) | (simp; omega)) _) | (refine Bl.dr ?_ (by assumption)) | (refine Bl.trans ?_ (by assumption))))
  · rw [if_pos e]
    have e' : (rask r k != 0) = true := by simp [e]
    generalize rask r k = q at *
    have HA := Lib.hid hA
    have HO := Lib.hid h
    obtain ⟨id, l⟩ := r
    unfold Rn.v Ent.v ent0
    simp only
    clear hA h e
    go_enter Tryd.func5, Tryd.ntmps5
    go_wp2_with fail
    refine (HA.out _ _ (HO.out.bl (by repeat (first | assumption | exact Bl.refl _ | apply Bl.drewN | apply Bl.drew | apply Bl.alloc | (refine Bl.dr ?_ (by assumption)) | (refine Bl.trans ?_ (by assumption))))) (by simp [go_sem]) (by simp [go_sem])).mono ?_; rintro e w1 ⟨rfl, hb1⟩
    
    have c1 : World.cell? w1 ⟨w.heap.size, 1, none⟩ = some (.slice a l.length c) := hb1.cell (by simp [go_sem])
    have z0 : World.cell? w1 ⟨w.heap.size + 1, 0, none⟩ = some (.string ⟨#[]⟩) := hb1.cell (by simp [go_sem])
    have z1 : World.cell? w1 ⟨w.heap.size + 1, 1, none⟩ = some (.string ⟨#[]⟩) := hb1.cell (by simp [go_sem])
    have z2 : World.cell? w1 ⟨w.heap.size + 1, 2, none⟩ = some (.bool false) := hb1.cell (by simp [go_sem])
    have z3 : World.cell? w1 ⟨w.heap.size + 1, 3, none⟩ = some (.int .i64 0) := hb1.cell (by simp [go_sem])
    have y0 : World.frozen? w1 ⟨w.heap.size + 1, 0, none⟩ = false := hb1.frozen (by simp [go_sem]; rfl) (by simp [go_sem])
    have y1 : World.frozen? w1 ⟨w.heap.size + 1, 1, none⟩ = false := hb1.frozen (by simp [go_sem]; rfl) (by simp [go_sem])
    have y2 : World.frozen? w1 ⟨w.heap.size + 1, 2, none⟩ = false := hb1.frozen (by simp [go_sem]; rfl) (by simp [go_sem])
    have y3 : World.frozen? w1 ⟨w.heap.size + 1, 3, none⟩ = false := hb1.frozen (by simp [go_sem]; rfl) (by simp [go_sem])
    have hb : Bl w w1 := (by repeat (first | assumption | exact Bl.refl _ | apply Bl.drewN | apply Bl.drew | apply Bl.alloc | (refine Bl.dr ?_ (by assumption)) | (refine Bl.trans ?_ (by assumption))))
    clear hb1
    go_wp2_with fail
    
    refine bodyPost_ret (v := .tuple #[.agg #[.string ⟨#[]⟩, .string ⟨#[]⟩, .bool false, .int .i64 0], .int .i64 q]) (by simp [results, Tryd.results5, go_sem, *]) rfl ?_
    exact RB.mk rfl (by repeat (first | assumption | exact Bl.refl _ | apply Bl.drewN | apply Bl.drew | apply Bl.alloc | (refine Bl.setCell ?_ _ (by first | (simp; done) | (simp; omega)) _) | (refine Bl.dr ?_ (by assumption)) | (refine Bl.trans ?_ (by assumption))))

set_option maxHeartbeats 4000000 in
theorem runFloor (a : Option Addr) (c : Nat) (r : Rn) (k : ByteArray) (s : Bool) (w : World) (h : ROk w a c r) (hk : k.size ≤ maxLen) :
    Calls Tryd.prog 6 #[r.v a c, .string k, .bool s] w (RB w (.tuple #[(rflo r k s).1.v, .int .i64 (rflo r k s).2])) := by
  have hA := fun g w h => runAsked a c r k g w h hk
  unfold rflo
  by_cases e : rask r k = 0
  · rw [if_neg (by simp [e])]
    obtain ⟨o1, o2⟩ := rask_ok e
    obtain ⟨-, -, o3, o4, -, -⟩ := rck_ok o1
    rw [e] at hA
    have hR := fun w hh => runAround a c r.es k w hh h.len h.cap o3 o2
    have hq := cntLtE_le r.es k
    generalize cntLtE r.es k = q at *
    generalize hasK r.es k = is at *
    by_cases hs : (is && !s) = true
    · rw [if_pos hs]
      obtain ⟨rfl, rfl⟩ : is = true ∧ s = false := by simpa using hs
      clear hs
      have hT := fun w hh => runAt a c r.es ((q : Int)) w hh (Nat.le_trans h.len h.cap) (by omega) (by omega)
      generalize atE r.es ((q : Int)) = p at *
      obtain ⟨⟨kk, vv, dd, ss⟩, pe⟩ := p
      simp only [Ent.v] at hT ⊢
      have HA := Lib.hid hA
      have HO := Lib.hid h
      have HR := Lib.hid hR
      have HT := Lib.hid hT
      obtain ⟨id, l⟩ := r
      unfold Rn.v
      simp only at hq o4 ⊢
      clear hA h hR hT o1 o2 o3 e
      go_enter Tryd.func6, Tryd.ntmps6
      go_wp2_with fail
      refine (HA.out _ _ (HO.out.bl (by repeat (first | assumption | exact Bl.refl _ | apply Bl.drewN | apply Bl.drew | apply Bl.alloc | (refine Bl.dr ?_ (by assumption)) | (refine Bl.trans ?_ (by assumption))))) (by simp [go_sem]) (by simp [go_sem])).mono ?_; rintro e w1 ⟨rfl, hb1⟩
      
      have c1 : World.cell? w1 ⟨w.heap.size, 1, none⟩ = some (.slice a l.length c) := hb1.cell (by simp [go_sem])
      have z0 : World.cell? w1 ⟨w.heap.size + 1, 0, none⟩ = some (.string ⟨#[]⟩) := hb1.cell (by simp [go_sem])
      have z1 : World.cell? w1 ⟨w.heap.size + 1, 1, none⟩ = some (.string ⟨#[]⟩) := hb1.cell (by simp [go_sem])
      have z2 : World.cell? w1 ⟨w.heap.size + 1, 2, none⟩ = some (.bool false) := hb1.cell (by simp [go_sem])
      have z3 : World.cell? w1 ⟨w.heap.size + 1, 3, none⟩ = some (.int .i64 0) := hb1.cell (by simp [go_sem])
      have y0 : World.frozen? w1 ⟨w.heap.size + 1, 0, none⟩ = false := hb1.frozen (by simp [go_sem]; rfl) (by simp [go_sem])
      have y1 : World.frozen? w1 ⟨w.heap.size + 1, 1, none⟩ = false := hb1.frozen (by simp [go_sem]; rfl) (by simp [go_sem])
      have y2 : World.frozen? w1 ⟨w.heap.size + 1, 2, none⟩ = false := hb1.frozen (by simp [go_sem]; rfl) (by simp [go_sem])
      have y3 : World.frozen? w1 ⟨w.heap.size + 1, 3, none⟩ = false := hb1.frozen (by simp [go_sem]; rfl) (by simp [go_sem])
      have hb : Bl w w1 := (by repeat (first | assumption | exact Bl.refl _ | apply Bl.drewN | apply Bl.drew | apply Bl.alloc | (refine Bl.dr ?_ (by assumption)) | (refine Bl.trans ?_ (by assumption))))
      clear hb1
      go_wp2_with fail
      refine (HR.out _ (HO.out.ents.bl (by repeat (first | assumption | exact Bl.refl _ | apply Bl.drewN | apply Bl.drew | apply Bl.alloc | (refine Bl.dr ?_ (by assumption)) | (refine Bl.trans ?_ (by assumption)))))).mono ?_; rintro e w2 ⟨rfl, hb2⟩
      
      have y0 := Bl.frozen hb2 z0 y0
      have y1 := Bl.frozen hb2 z1 y1
      have y2 := Bl.frozen hb2 z2 y2
      have y3 := Bl.frozen hb2 z3 y3
      have c1 := Bl.cell hb2 c1
      have z0 := Bl.cell hb2 z0
      have z1 := Bl.cell hb2 z1
      have z2 := Bl.cell hb2 z2
      have z3 := Bl.cell hb2 z3
      have hb := hb.trans hb2
      clear hb2
      go_wp2_with fail
      refine (HT.out _ (HO.out.ents.bl (by repeat (first | assumption | exact Bl.refl _ | apply Bl.drewN | apply Bl.drew | apply Bl.alloc | (refine Bl.dr ?_ (by assumption)) | (refine Bl.trans ?_ (by assumption)))))).mono ?_; rintro e w3 ⟨rfl, hb3⟩
      
      have y0 := Bl.frozen hb3 z0 y0
      have y1 := Bl.frozen hb3 z1 y1
      have y2 := Bl.frozen hb3 z2 y2
      have y3 := Bl.frozen hb3 z3 y3
      have c1 := Bl.cell hb3 c1
      have z0 := Bl.cell hb3 z0
      have z1 := Bl.cell hb3 z1
      have z2 := Bl.cell hb3 z2
      have z3 := Bl.cell hb3 z3
      have hb := hb.trans hb3
      clear hb3
      go_wp2_with fail
      
      refine bodyPost_ret (v := .tuple #[.agg #[.string kk, .string vv, .bool dd, .int .i64 ss], .int .i64 pe]) (by simp [results, Tryd.results6, go_sem, *]) rfl ?_
      exact RB.mk rfl (by repeat (first | assumption | exact Bl.refl _ | apply Bl.drewN | apply Bl.drew | apply Bl.alloc | (refine Bl.setCell ?_ _ (by first | (simp; done) | (simp; omega)) _) | (refine Bl.dr ?_ (by assumption)) | (refine Bl.trans ?_ (by assumption))))
    · rw [if_neg hs]
      have hT := fun w hh => runAt a c r.es ((q : Int) - 1) w hh (Nat.le_trans h.len h.cap) (by omega) (by omega)
      generalize atE r.es ((q : Int) - 1) = p at *
      obtain ⟨⟨kk, vv, dd, ss⟩, pe⟩ := p
      simp only [Ent.v] at hT ⊢
      have HA := Lib.hid hA
      have HO := Lib.hid h
      have HR := Lib.hid hR
      have HT := Lib.hid hT
      obtain ⟨id, l⟩ := r
      unfold Rn.v
      simp only at hq o4 ⊢
      clear hA h hR hT o1 o2 o3 e
      have hw : IntKind.i64.wrap ((q : Int) - 1) = (q : Int) - 1 := IntWalk.i64_in _ (by omega)
      cases is <;> cases s
      case true.false => exact absurd rfl hs
      all_goals
        clear hs
        go_enter Tryd.func6, Tryd.ntmps6
        go_wp2_with fail
        refine (HA.out _ _ (HO.out.bl (by repeat (first | assumption | exact Bl.refl _ | apply Bl.drewN | apply Bl.drew | apply Bl.alloc | (refine Bl.dr ?_ (by assumption)) | (refine Bl.trans ?_ (by assumption))))) (by simp [go_sem]) (by simp [go_sem])).mono ?_; rintro e w1 ⟨rfl, hb1⟩
        
        have c1 : World.cell? w1 ⟨w.heap.size, 1, none⟩ = some (.slice a l.length c) := hb1.cell (by simp [go_sem])
        have z0 : World.cell? w1 ⟨w.heap.size + 1, 0, none⟩ = some (.string ⟨#[]⟩) := hb1.cell (by simp [go_sem])
        have z1 : World.cell? w1 ⟨w.heap.size + 1, 1, none⟩ = some (.string ⟨#[]⟩) := hb1.cell (by simp [go_sem])
        have z2 : World.cell? w1 ⟨w.heap.size + 1, 2, none⟩ = some (.bool false) := hb1.cell (by simp [go_sem])
        have z3 : World.cell? w1 ⟨w.heap.size + 1, 3, none⟩ = some (.int .i64 0) := hb1.cell (by simp [go_sem])
        have y0 : World.frozen? w1 ⟨w.heap.size + 1, 0, none⟩ = false := hb1.frozen (by simp [go_sem]; rfl) (by simp [go_sem])
        have y1 : World.frozen? w1 ⟨w.heap.size + 1, 1, none⟩ = false := hb1.frozen (by simp [go_sem]; rfl) (by simp [go_sem])
        have y2 : World.frozen? w1 ⟨w.heap.size + 1, 2, none⟩ = false := hb1.frozen (by simp [go_sem]; rfl) (by simp [go_sem])
        have y3 : World.frozen? w1 ⟨w.heap.size + 1, 3, none⟩ = false := hb1.frozen (by simp [go_sem]; rfl) (by simp [go_sem])
        have hb : Bl w w1 := (by repeat (first | assumption | exact Bl.refl _ | apply Bl.drewN | apply Bl.drew | apply Bl.alloc | (refine Bl.dr ?_ (by assumption)) | (refine Bl.trans ?_ (by assumption))))
        clear hb1
        go_wp2_with fail
        refine (HR.out _ (HO.out.ents.bl (by repeat (first | assumption | exact Bl.refl _ | apply Bl.drewN | apply Bl.drew | apply Bl.alloc | (refine Bl.dr ?_ (by assumption)) | (refine Bl.trans ?_ (by assumption)))))).mono ?_; rintro e w2 ⟨rfl, hb2⟩
        
        have y0 := Bl.frozen hb2 z0 y0
        have y1 := Bl.frozen hb2 z1 y1
        have y2 := Bl.frozen hb2 z2 y2
        have y3 := Bl.frozen hb2 z3 y3
        have c1 := Bl.cell hb2 c1
        have z0 := Bl.cell hb2 z0
        have z1 := Bl.cell hb2 z1
        have z2 := Bl.cell hb2 z2
        have z3 := Bl.cell hb2 z3
        have hb := hb.trans hb2
        clear hb2
        go_wp2_with fail
        refine (HT.out _ (HO.out.ents.bl (by repeat (first | assumption | exact Bl.refl _ | apply Bl.drewN | apply Bl.drew | apply Bl.alloc | (refine Bl.dr ?_ (by assumption)) | (refine Bl.trans ?_ (by assumption)))))).mono ?_; rintro e w3 ⟨rfl, hb3⟩
        
        have y0 := Bl.frozen hb3 z0 y0
        have y1 := Bl.frozen hb3 z1 y1
        have y2 := Bl.frozen hb3 z2 y2
        have y3 := Bl.frozen hb3 z3 y3
        have c1 := Bl.cell hb3 c1
        have z0 := Bl.cell hb3 z0
        have z1 := Bl.cell hb3 z1
        have z2 := Bl.cell hb3 z2
        have z3 := Bl.cell hb3 z3
        have hb := hb.trans hb3
        clear hb3
        go_wp2_with fail
        
        refine bodyPost_ret (v := .tuple #[.agg #[.string kk, .string vv, .bool dd, .int .i64 ss], .int .i64 pe]) (by simp [results, Tryd.results6, go_sem, *]) rfl ?_
        exact RB.mk rfl (by repeat (first | assumption | exact Bl.refl _ | apply Bl.drewN | apply Bl.drew | apply Bl.alloc | (refine Bl.setCell ?_ _ (by first | (simp; done) | (simp; omega)) _) | (refine Bl.dr ?_ (by assumption)) | (refine Bl.trans ?_ (by assumption))))
  · rw [if_pos e]
    have e' : (rask r k != 0) = true := by simp [e]
    generalize rask r k = q at *
    have HA := Lib.hid hA
    have HO := Lib.hid h
    obtain ⟨id, l⟩ := r
    unfold Rn.v Ent.v ent0
    simp only
    clear hA h e
    go_enter Tryd.func6, Tryd.ntmps6
    go_wp2_with fail
    refine (HA.out _ _ (HO.out.bl (by repeat (first | assumption | exact Bl.refl _ | apply Bl.drewN | apply Bl.drew | apply Bl.alloc | (refine Bl.dr ?_ (by assumption)) | (refine Bl.trans ?_ (by assumption))))) (by simp [go_sem]) (by simp [go_sem])).mono ?_; rintro e w1 ⟨rfl, hb1⟩
    
    have c1 : World.cell? w1 ⟨w.heap.size, 1, none⟩ = some (.slice a l.length c) := hb1.cell (by simp [go_sem])
    have z0 : World.cell? w1 ⟨w.heap.size + 1, 0, none⟩ = some (.string ⟨#[]⟩) := hb1.cell (by simp [go_sem])
    have z1 : World.cell? w1 ⟨w.heap.size + 1, 1, none⟩ = some (.string ⟨#[]⟩) := hb1.cell (by simp [go_sem])
    have z2 : World.cell? w1 ⟨w.heap.size + 1, 2, none⟩ = some (.bool false) := hb1.cell (by simp [go_sem])
    have z3 : World.cell? w1 ⟨w.heap.size + 1, 3, none⟩ = some (.int .i64 0) := hb1.cell (by simp [go_sem])
    have y0 : World.frozen? w1 ⟨w.heap.size + 1, 0, none⟩ = false := hb1.frozen (by simp [go_sem]; rfl) (by simp [go_sem])
    have y1 : World.frozen? w1 ⟨w.heap.size + 1, 1, none⟩ = false := hb1.frozen (by simp [go_sem]; rfl) (by simp [go_sem])
    have y2 : World.frozen? w1 ⟨w.heap.size + 1, 2, none⟩ = false := hb1.frozen (by simp [go_sem]; rfl) (by simp [go_sem])
    have y3 : World.frozen? w1 ⟨w.heap.size + 1, 3, none⟩ = false := hb1.frozen (by simp [go_sem]; rfl) (by simp [go_sem])
    have hb : Bl w w1 := (by repeat (first | assumption | exact Bl.refl _ | apply Bl.drewN | apply Bl.drew | apply Bl.alloc | (refine Bl.dr ?_ (by assumption)) | (refine Bl.trans ?_ (by assumption))))
    clear hb1
    go_wp2_with fail
    
    refine bodyPost_ret (v := .tuple #[.agg #[.string ⟨#[]⟩, .string ⟨#[]⟩, .bool false, .int .i64 0], .int .i64 q]) (by simp [results, Tryd.results6, go_sem, *]) rfl ?_
    exact RB.mk rfl (by repeat (first | assumption | exact Bl.refl _ | apply Bl.drewN | apply Bl.drew | apply Bl.alloc | (refine Bl.setCell ?_ _ (by first | (simp; done) | (simp; omega)) _) | (refine Bl.dr ?_ (by assumption)) | (refine Bl.trans ?_ (by assumption))))

set_option maxHeartbeats 4000000 in
theorem runCeiling (a : Option Addr) (c : Nat) (r : Rn) (k : ByteArray) (s : Bool) (w : World) (h : ROk w a c r) (hk : k.size ≤ maxLen) :
    Calls Tryd.prog 7 #[r.v a c, .string k, .bool s] w (RB w (.tuple #[(rcei r k s).1.v, .int .i64 (rcei r k s).2])) := by
  have hA := fun g w h => runAsked a c r k g w h hk
  unfold rcei
  by_cases e : rask r k = 0
  · rw [if_neg (by simp [e])]
    obtain ⟨o1, o2⟩ := rask_ok e
    obtain ⟨-, -, o3, o4, -, -⟩ := rck_ok o1
    rw [e] at hA
    have hR := fun w hh => runAround a c r.es k w hh h.len h.cap o3 o2
    have hq := cntLtE_le r.es k
    generalize cntLtE r.es k = q at *
    generalize hasK r.es k = is at *
    by_cases hs : (is && s) = true
    · rw [if_pos hs]
      obtain ⟨rfl, rfl⟩ : is = true ∧ s = true := by simpa using hs
      clear hs
      have hT := fun w hh => runAt a c r.es ((q : Int) + 1) w hh (Nat.le_trans h.len h.cap) (by omega) (by omega)
      generalize atE r.es ((q : Int) + 1) = p at *
      obtain ⟨⟨kk, vv, dd, ss⟩, pe⟩ := p
      simp only [Ent.v] at hT ⊢
      have HA := Lib.hid hA
      have HO := Lib.hid h
      have HR := Lib.hid hR
      have HT := Lib.hid hT
      obtain ⟨id, l⟩ := r
      unfold Rn.v
      simp only at hq o4 ⊢
      clear hA h hR hT o1 o2 o3 e
      have hw : IntKind.i64.wrap ((q : Int) + 1) = (q : Int) + 1 := IntWalk.i64_in _ (by omega)
      go_enter Tryd.func7, Tryd.ntmps7
      go_wp2_with fail
      refine (HA.out _ _ (HO.out.bl (by repeat (first | assumption | exact Bl.refl _ | apply Bl.drewN | apply Bl.drew | apply Bl.alloc | (refine Bl.dr ?_ (by assumption)) | (refine Bl.trans ?_ (by assumption))))) (by simp [go_sem]) (by simp [go_sem])).mono ?_; rintro e w1 ⟨rfl, hb1⟩
      
      have c1 : World.cell? w1 ⟨w.heap.size, 1, none⟩ = some (.slice a l.length c) := hb1.cell (by simp [go_sem])
      have z0 : World.cell? w1 ⟨w.heap.size + 1, 0, none⟩ = some (.string ⟨#[]⟩) := hb1.cell (by simp [go_sem])
      have z1 : World.cell? w1 ⟨w.heap.size + 1, 1, none⟩ = some (.string ⟨#[]⟩) := hb1.cell (by simp [go_sem])
      have z2 : World.cell? w1 ⟨w.heap.size + 1, 2, none⟩ = some (.bool false) := hb1.cell (by simp [go_sem])
      have z3 : World.cell? w1 ⟨w.heap.size + 1, 3, none⟩ = some (.int .i64 0) := hb1.cell (by simp [go_sem])
      have y0 : World.frozen? w1 ⟨w.heap.size + 1, 0, none⟩ = false := hb1.frozen (by simp [go_sem]; rfl) (by simp [go_sem])
      have y1 : World.frozen? w1 ⟨w.heap.size + 1, 1, none⟩ = false := hb1.frozen (by simp [go_sem]; rfl) (by simp [go_sem])
      have y2 : World.frozen? w1 ⟨w.heap.size + 1, 2, none⟩ = false := hb1.frozen (by simp [go_sem]; rfl) (by simp [go_sem])
      have y3 : World.frozen? w1 ⟨w.heap.size + 1, 3, none⟩ = false := hb1.frozen (by simp [go_sem]; rfl) (by simp [go_sem])
      have hb : Bl w w1 := (by repeat (first | assumption | exact Bl.refl _ | apply Bl.drewN | apply Bl.drew | apply Bl.alloc | (refine Bl.dr ?_ (by assumption)) | (refine Bl.trans ?_ (by assumption))))
      clear hb1
      go_wp2_with fail
      refine (HR.out _ (HO.out.ents.bl (by repeat (first | assumption | exact Bl.refl _ | apply Bl.drewN | apply Bl.drew | apply Bl.alloc | (refine Bl.dr ?_ (by assumption)) | (refine Bl.trans ?_ (by assumption)))))).mono ?_; rintro e w2 ⟨rfl, hb2⟩
      
      have y0 := Bl.frozen hb2 z0 y0
      have y1 := Bl.frozen hb2 z1 y1
      have y2 := Bl.frozen hb2 z2 y2
      have y3 := Bl.frozen hb2 z3 y3
      have c1 := Bl.cell hb2 c1
      have z0 := Bl.cell hb2 z0
      have z1 := Bl.cell hb2 z1
      have z2 := Bl.cell hb2 z2
      have z3 := Bl.cell hb2 z3
      have hb := hb.trans hb2
      clear hb2
      go_wp2_with fail
      refine (HT.out _ (HO.out.ents.bl (by repeat (first | assumption | exact Bl.refl _ | apply Bl.drewN | apply Bl.drew | apply Bl.alloc | (refine Bl.dr ?_ (by assumption)) | (refine Bl.trans ?_ (by assumption)))))).mono ?_; rintro e w3 ⟨rfl, hb3⟩
      
      have y0 := Bl.frozen hb3 z0 y0
      have y1 := Bl.frozen hb3 z1 y1
      have y2 := Bl.frozen hb3 z2 y2
      have y3 := Bl.frozen hb3 z3 y3
      have c1 := Bl.cell hb3 c1
      have z0 := Bl.cell hb3 z0
      have z1 := Bl.cell hb3 z1
      have z2 := Bl.cell hb3 z2
      have z3 := Bl.cell hb3 z3
      have hb := hb.trans hb3
      clear hb3
      go_wp2_with fail
      
      refine bodyPost_ret (v := .tuple #[.agg #[.string kk, .string vv, .bool dd, .int .i64 ss], .int .i64 pe]) (by simp [results, Tryd.results7, go_sem, *]) rfl ?_
      exact RB.mk rfl (by repeat (first | assumption | exact Bl.refl _ | apply Bl.drewN | apply Bl.drew | apply Bl.alloc | (refine Bl.setCell ?_ _ (by first | (simp; done) | (simp; omega)) _) | (refine Bl.dr ?_ (by assumption)) | (refine Bl.trans ?_ (by assumption))))
    · rw [if_neg hs]
      have hT := fun w hh => runAt a c r.es ((q : Int)) w hh (Nat.le_trans h.len h.cap) (by omega) (by omega)
      generalize atE r.es ((q : Int)) = p at *
      obtain ⟨⟨kk, vv, dd, ss⟩, pe⟩ := p
      simp only [Ent.v] at hT ⊢
      have HA := Lib.hid hA
      have HO := Lib.hid h
      have HR := Lib.hid hR
      have HT := Lib.hid hT
      obtain ⟨id, l⟩ := r
      unfold Rn.v
      simp only at hq o4 ⊢
      clear hA h hR hT o1 o2 o3 e
      cases is <;> cases s
      case true.true => exact absurd rfl hs
      all_goals
        clear hs
        go_enter Tryd.func7, Tryd.ntmps7
        go_wp2_with fail
        refine (HA.out _ _ (HO.out.bl (by repeat (first | assumption | exact Bl.refl _ | apply Bl.drewN | apply Bl.drew | apply Bl.alloc | (refine Bl.dr ?_ (by assumption)) | (refine Bl.trans ?_ (by assumption))))) (by simp [go_sem]) (by simp [go_sem])).mono ?_; rintro e w1 ⟨rfl, hb1⟩
        
        have c1 : World.cell? w1 ⟨w.heap.size, 1, none⟩ = some (.slice a l.length c) := hb1.cell (by simp [go_sem])
        have z0 : World.cell? w1 ⟨w.heap.size + 1, 0, none⟩ = some (.string ⟨#[]⟩) := hb1.cell (by simp [go_sem])
        have z1 : World.cell? w1 ⟨w.heap.size + 1, 1, none⟩ = some (.string ⟨#[]⟩) := hb1.cell (by simp [go_sem])
        have z2 : World.cell? w1 ⟨w.heap.size + 1, 2, none⟩ = some (.bool false) := hb1.cell (by simp [go_sem])
        have z3 : World.cell? w1 ⟨w.heap.size + 1, 3, none⟩ = some (.int .i64 0) := hb1.cell (by simp [go_sem])
        have y0 : World.frozen? w1 ⟨w.heap.size + 1, 0, none⟩ = false := hb1.frozen (by simp [go_sem]; rfl) (by simp [go_sem])
        have y1 : World.frozen? w1 ⟨w.heap.size + 1, 1, none⟩ = false := hb1.frozen (by simp [go_sem]; rfl) (by simp [go_sem])
        have y2 : World.frozen? w1 ⟨w.heap.size + 1, 2, none⟩ = false := hb1.frozen (by simp [go_sem]; rfl) (by simp [go_sem])
        have y3 : World.frozen? w1 ⟨w.heap.size + 1, 3, none⟩ = false := hb1.frozen (by simp [go_sem]; rfl) (by simp [go_sem])
        have hb : Bl w w1 := (by repeat (first | assumption | exact Bl.refl _ | apply Bl.drewN | apply Bl.drew | apply Bl.alloc | (refine Bl.dr ?_ (by assumption)) | (refine Bl.trans ?_ (by assumption))))
        clear hb1
        go_wp2_with fail
        refine (HR.out _ (HO.out.ents.bl (by repeat (first | assumption | exact Bl.refl _ | apply Bl.drewN | apply Bl.drew | apply Bl.alloc | (refine Bl.dr ?_ (by assumption)) | (refine Bl.trans ?_ (by assumption)))))).mono ?_; rintro e w2 ⟨rfl, hb2⟩
        
        have y0 := Bl.frozen hb2 z0 y0
        have y1 := Bl.frozen hb2 z1 y1
        have y2 := Bl.frozen hb2 z2 y2
        have y3 := Bl.frozen hb2 z3 y3
        have c1 := Bl.cell hb2 c1
        have z0 := Bl.cell hb2 z0
        have z1 := Bl.cell hb2 z1
        have z2 := Bl.cell hb2 z2
        have z3 := Bl.cell hb2 z3
        have hb := hb.trans hb2
        clear hb2
        go_wp2_with fail
        refine (HT.out _ (HO.out.ents.bl (by repeat (first | assumption | exact Bl.refl _ | apply Bl.drewN | apply Bl.drew | apply Bl.alloc | (refine Bl.dr ?_ (by assumption)) | (refine Bl.trans ?_ (by assumption)))))).mono ?_; rintro e w3 ⟨rfl, hb3⟩
        
        have y0 := Bl.frozen hb3 z0 y0
        have y1 := Bl.frozen hb3 z1 y1
        have y2 := Bl.frozen hb3 z2 y2
        have y3 := Bl.frozen hb3 z3 y3
        have c1 := Bl.cell hb3 c1
        have z0 := Bl.cell hb3 z0
        have z1 := Bl.cell hb3 z1
        have z2 := Bl.cell hb3 z2
        have z3 := Bl.cell hb3 z3
        have hb := hb.trans hb3
        clear hb3
        go_wp2_with fail
        
        refine bodyPost_ret (v := .tuple #[.agg #[.string kk, .string vv, .bool dd, .int .i64 ss], .int .i64 pe]) (by simp [results, Tryd.results7, go_sem, *]) rfl ?_
        exact RB.mk rfl (by repeat (first | assumption | exact Bl.refl _ | apply Bl.drewN | apply Bl.drew | apply Bl.alloc | (refine Bl.setCell ?_ _ (by first | (simp; done) | (simp; omega)) _) | (refine Bl.dr ?_ (by assumption)) | (refine Bl.trans ?_ (by assumption))))
  · rw [if_pos e]
    have e' : (rask r k != 0) = true := by simp [e]
    generalize rask r k = q at *
    have HA := Lib.hid hA
    have HO := Lib.hid h
    obtain ⟨id, l⟩ := r
    unfold Rn.v Ent.v ent0
    simp only
    clear hA h e
    go_enter Tryd.func7, Tryd.ntmps7
    go_wp2_with fail
    refine (HA.out _ _ (HO.out.bl (by repeat (first | assumption | exact Bl.refl _ | apply Bl.drewN | apply Bl.drew | apply Bl.alloc | (refine Bl.dr ?_ (by assumption)) | (refine Bl.trans ?_ (by assumption))))) (by simp [go_sem]) (by simp [go_sem])).mono ?_; rintro e w1 ⟨rfl, hb1⟩
    
    have c1 : World.cell? w1 ⟨w.heap.size, 1, none⟩ = some (.slice a l.length c) := hb1.cell (by simp [go_sem])
    have z0 : World.cell? w1 ⟨w.heap.size + 1, 0, none⟩ = some (.string ⟨#[]⟩) := hb1.cell (by simp [go_sem])
    have z1 : World.cell? w1 ⟨w.heap.size + 1, 1, none⟩ = some (.string ⟨#[]⟩) := hb1.cell (by simp [go_sem])
    have z2 : World.cell? w1 ⟨w.heap.size + 1, 2, none⟩ = some (.bool false) := hb1.cell (by simp [go_sem])
    have z3 : World.cell? w1 ⟨w.heap.size + 1, 3, none⟩ = some (.int .i64 0) := hb1.cell (by simp [go_sem])
    have y0 : World.frozen? w1 ⟨w.heap.size + 1, 0, none⟩ = false := hb1.frozen (by simp [go_sem]; rfl) (by simp [go_sem])
    have y1 : World.frozen? w1 ⟨w.heap.size + 1, 1, none⟩ = false := hb1.frozen (by simp [go_sem]; rfl) (by simp [go_sem])
    have y2 : World.frozen? w1 ⟨w.heap.size + 1, 2, none⟩ = false := hb1.frozen (by simp [go_sem]; rfl) (by simp [go_sem])
    have y3 : World.frozen? w1 ⟨w.heap.size + 1, 3, none⟩ = false := hb1.frozen (by simp [go_sem]; rfl) (by simp [go_sem])
    have hb : Bl w w1 := (by repeat (first | assumption | exact Bl.refl _ | apply Bl.drewN | apply Bl.drew | apply Bl.alloc | (refine Bl.dr ?_ (by assumption)) | (refine Bl.trans ?_ (by assumption))))
    clear hb1
    go_wp2_with fail
    
    refine bodyPost_ret (v := .tuple #[.agg #[.string ⟨#[]⟩, .string ⟨#[]⟩, .bool false, .int .i64 0], .int .i64 q]) (by simp [results, Tryd.results7, go_sem, *]) rfl ?_
    exact RB.mk rfl (by repeat (first | assumption | exact Bl.refl _ | apply Bl.drewN | apply Bl.drew | apply Bl.alloc | (refine Bl.setCell ?_ _ (by first | (simp; done) | (simp; omega)) _) | (refine Bl.dr ?_ (by assumption)) | (refine Bl.trans ?_ (by assumption))))
end Go.Proofs.YtndcjgkgkpkklaaDoor
