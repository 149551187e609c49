/-
  Own texts laid together: WkE.
-/
import Derived.Test.YtinbdppekhcekaaZp
import Derived.Deep.RegionHeld3
import Derived.BigRegion
/-
  Contract of the reference's Prev of a cursor.
-/
namespace Go.Proofs.Ytinbdppekhcekaa
open Go.RowKit
set_option linter.unusedSimpArgs false
set_option linter.unusedVariables false
set_option maxRecDepth 100000

def wprev (r : Rn) (n : Int) : Ent × Int × Int := if wchk r n ≠ 0 then (ent0, 0, wchk r n) else if n = 0 then (ent0, n, 12) else (r.es.getD (n - 1).toNat ent0, n - 1, 0)

set_option maxHeartbeats 4000000 in
theorem refWalkPrev (a : Option Addr) (c : Nat) (r : Rn) (n : Int) (w : World) (h : ROk w a c r) :
    Calls Try.prog 30 #[r.v a c, cur n] w (RB w (.tuple #[(wprev r n).1.v, cur (wprev r n).2.1, .int .i64 (wprev r n).2.2])) := by
  have hC := fun w h => refWalkCheck a c r n w h
  unfold wprev
  by_cases e : wchk r n = 0
  · rw [if_neg (by simp [e])]
    rw [e] at hC
    obtain ⟨e1, e2, e3⟩ := wchk_ok e
    have o4 := (rck_ok e1).2.2.2.1
    clear e e1
    by_cases f : n = 0
    · rw [if_pos f]
      have HC := Lib.hid hC
      have HO := Lib.hid h
      obtain ⟨id, l⟩ := r
      unfold Rn.v
      simp only at *
      clear hC h
      unfold Ent.v ent0
      have f' : (n == 0) = true := by simp [f]
      clear f
      go_enter Try.func30, Try.ntmps30
      go_wp2_with fail
      refine (HC.out _ (HO.out.bl (by repeat (first | assumption | exact Bl.refl _ | apply Bl.drewN | apply Bl.drew | apply Bl.alloc | (refine Bl.dr ?_ (by assumption)) | (refine Bl.trans ?_ (by assumption)))))).mono ?_; rintro e w1 ⟨rfl, hb1⟩
      have c1 : World.cell? w1 ⟨w.heap.size, 1, none⟩ = some (.slice (a) l.length c) := hb1.cell (by simp [go_sem])
      have n0 : World.cell? w1 ⟨w.heap.size + 1, 0, none⟩ = some (.int .i64 (n)) := hb1.cell (by simp [go_sem])
      have z0 : World.cell? w1 ⟨w.heap.size + 2, 0, none⟩ = some (.string ⟨#[]⟩) := hb1.cell (by simp [go_sem])
      have z1 : World.cell? w1 ⟨w.heap.size + 2, 1, none⟩ = some (.string ⟨#[]⟩) := hb1.cell (by simp [go_sem])
      have z2 : World.cell? w1 ⟨w.heap.size + 2, 2, none⟩ = some (.bool false) := hb1.cell (by simp [go_sem])
      have z3 : World.cell? w1 ⟨w.heap.size + 2, 3, none⟩ = some (.int .i64 0) := hb1.cell (by simp [go_sem])
      have v0 : World.cell? w1 ⟨w.heap.size + 3, 0, none⟩ = some (.int .i64 0) := hb1.cell (by simp [go_sem])
      have y0 : World.frozen? w1 ⟨w.heap.size + 2, 0, none⟩ = false := hb1.frozen (by simp [go_sem]; rfl) (by simp [go_sem])
      have y1 : World.frozen? w1 ⟨w.heap.size + 2, 1, none⟩ = false := hb1.frozen (by simp [go_sem]; rfl) (by simp [go_sem])
      have y2 : World.frozen? w1 ⟨w.heap.size + 2, 2, none⟩ = false := hb1.frozen (by simp [go_sem]; rfl) (by simp [go_sem])
      have y3 : World.frozen? w1 ⟨w.heap.size + 2, 3, none⟩ = false := hb1.frozen (by simp [go_sem]; rfl) (by simp [go_sem])
      have y4 : World.frozen? w1 ⟨w.heap.size + 3, 0, none⟩ = false := hb1.frozen (by simp [go_sem]; rfl) (by simp [go_sem])
      have hb : Bl w w1 := (by repeat (first | assumption | exact Bl.refl _ | apply Bl.drewN | apply Bl.drew | apply Bl.alloc | (refine Bl.dr ?_ (by assumption)) | (refine Bl.trans ?_ (by assumption))))
      clear hb1
      go_wp2_with fail
      go_region
      all_goals
        go_wp2_with fail
        
        refine bodyPost_ret (v := .tuple #[.agg #[.string (⟨#[]⟩), .string (⟨#[]⟩), .bool (false), .int .i64 (0)], .agg #[.int .i64 (n)], .int .i64 (12)]) (by simp [results, Try.results30, go_sem, *]) rfl ?_
        exact RB.mk rfl (by repeat (first | assumption | exact Bl.refl _ | apply Bl.drewN | apply Bl.drew | apply Bl.alloc | (refine Bl.setCell ?_ _ (by first | (simp; done) | (simp; omega)) _) | (refine Bl.dr ?_ (by assumption)) | (refine Bl.trans ?_ (by assumption))))
    · rw [if_neg f]
      obtain ⟨m, hnm⟩ : ∃ m : Nat, n = (m : Int) + 1 := ⟨(n - 1).toNat, by omega⟩
      subst hnm
      have hm : m < r.es.length := by omega
      obtain ⟨b, off, hab, hat⟩ := h.ents.get hm
      obtain ⟨x, hx⟩ : ∃ x, r.es[m]? = some x := ⟨_, List.getElem?_eq_getElem hm⟩
      have hx2 : r.es.getD m ent0 = x := by rw [List.getD_eq_getElem?_getD, hx]; rfl
      rw [show ((m : Int) + 1 - 1) = (m : Int) by omega]
      simp only [Int.toNat_natCast]
      rw [hx2]
      obtain ⟨d0, d1, d2, d3⟩ := hat m x hx
      clear hx hx2 hat
      subst hab
      have f' : ((m : Int) + 1 == 0) = false := by rw [beq_eq_false_iff_ne]; exact f
      have q1 : (0 : Int) ≤ (m : Int) := by omega
      have q2 : (m : Int) < (r.es.length : Int) := by omega
      have q3 : IntKind.i64.wrap ((m : Int) + 1 - 1) = (m : Int) := by rw [show ((m : Int) + 1 - 1) = (m : Int) by omega]; exact IntWalk.i64_in _ (by omega)
      have q4 : (m : Int) + 1 - 1 = (m : Int) := by omega
      clear f
      have HC := Lib.hid hC
      have HO := Lib.hid h
      obtain ⟨id, l⟩ := r
      unfold Rn.v
      simp only at *
      clear hC h
      obtain ⟨kk, vv, dd, ss⟩ := x
      unfold Ent.v
      simp only at d0 d1 d2 d3 ⊢
      go_enter Try.func30, Try.ntmps30
      go_wp2_with fail
      refine (HC.out _ (HO.out.bl (by repeat (first | assumption | exact Bl.refl _ | apply Bl.drewN | apply Bl.drew | apply Bl.alloc | (refine Bl.dr ?_ (by assumption)) | (refine Bl.trans ?_ (by assumption)))))).mono ?_; rintro e w1 ⟨rfl, hb1⟩
      have c1 : World.cell? w1 ⟨w.heap.size, 1, none⟩ = some (.slice (some ⟨b, off, none⟩) l.length c) := hb1.cell (by simp [go_sem])
      have n0 : World.cell? w1 ⟨w.heap.size + 1, 0, none⟩ = some (.int .i64 ((m : Int) + 1)) := hb1.cell (by simp [go_sem])
      have z0 : World.cell? w1 ⟨w.heap.size + 2, 0, none⟩ = some (.string ⟨#[]⟩) := hb1.cell (by simp [go_sem])
      have z1 : World.cell? w1 ⟨w.heap.size + 2, 1, none⟩ = some (.string ⟨#[]⟩) := hb1.cell (by simp [go_sem])
      have z2 : World.cell? w1 ⟨w.heap.size + 2, 2, none⟩ = some (.bool false) := hb1.cell (by simp [go_sem])
      have z3 : World.cell? w1 ⟨w.heap.size + 2, 3, none⟩ = some (.int .i64 0) := hb1.cell (by simp [go_sem])
      have v0 : World.cell? w1 ⟨w.heap.size + 3, 0, none⟩ = some (.int .i64 0) := hb1.cell (by simp [go_sem])
      have y0 : World.frozen? w1 ⟨w.heap.size + 2, 0, none⟩ = false := hb1.frozen (by simp [go_sem]; rfl) (by simp [go_sem])
      have y1 : World.frozen? w1 ⟨w.heap.size + 2, 1, none⟩ = false := hb1.frozen (by simp [go_sem]; rfl) (by simp [go_sem])
      have y2 : World.frozen? w1 ⟨w.heap.size + 2, 2, none⟩ = false := hb1.frozen (by simp [go_sem]; rfl) (by simp [go_sem])
      have y3 : World.frozen? w1 ⟨w.heap.size + 2, 3, none⟩ = false := hb1.frozen (by simp [go_sem]; rfl) (by simp [go_sem])
      have y4 : World.frozen? w1 ⟨w.heap.size + 3, 0, none⟩ = false := hb1.frozen (by simp [go_sem]; rfl) (by simp [go_sem])
      have hb : Bl w w1 := (by repeat (first | assumption | exact Bl.refl _ | apply Bl.drewN | apply Bl.drew | apply Bl.alloc | (refine Bl.dr ?_ (by assumption)) | (refine Bl.trans ?_ (by assumption))))
      clear hb1
      have d0 := hb.cell d0
      have d1 := hb.cell d1
      have d2 := hb.cell d2
      have d3 := hb.cell d3
      go_wp2_with fail
      go_region
      all_goals
        go_wp2_with fail
        
        refine bodyPost_ret (v := .tuple #[.agg #[.string (kk), .string (vv), .bool (dd), .int .i64 (ss)], .agg #[.int .i64 ((m : Int))], .int .i64 (0)]) (by simp [results, Try.results30, go_sem, *]) rfl ?_
        exact RB.mk rfl (by repeat (first | assumption | exact Bl.refl _ | apply Bl.drewN | apply Bl.drew | apply Bl.alloc | (refine Bl.setCell ?_ _ (by first | (simp; done) | (simp; omega)) _) | (refine Bl.dr ?_ (by assumption)) | (refine Bl.trans ?_ (by assumption))))
  · rw [if_pos e]
    have e' : (wchk r n != 0) = true := by simp [e]
    generalize wchk r n = q at *
    clear e
    have HC := Lib.hid hC
    have HO := Lib.hid h
    obtain ⟨id, l⟩ := r
    unfold Rn.v
    simp only at *
    clear hC h
    unfold Ent.v ent0
    go_enter Try.func30, Try.ntmps30
    go_wp2_with fail
    refine (HC.out _ (HO.out.bl (by repeat (first | assumption | exact Bl.refl _ | apply Bl.drewN | apply Bl.drew | apply Bl.alloc | (refine Bl.dr ?_ (by assumption)) | (refine Bl.trans ?_ (by assumption)))))).mono ?_; rintro e w1 ⟨rfl, hb1⟩
    have c1 : World.cell? w1 ⟨w.heap.size, 1, none⟩ = some (.slice (a) l.length c) := hb1.cell (by simp [go_sem])
    have n0 : World.cell? w1 ⟨w.heap.size + 1, 0, none⟩ = some (.int .i64 (n)) := hb1.cell (by simp [go_sem])
    have z0 : World.cell? w1 ⟨w.heap.size + 2, 0, none⟩ = some (.string ⟨#[]⟩) := hb1.cell (by simp [go_sem])
    have z1 : World.cell? w1 ⟨w.heap.size + 2, 1, none⟩ = some (.string ⟨#[]⟩) := hb1.cell (by simp [go_sem])
    have z2 : World.cell? w1 ⟨w.heap.size + 2, 2, none⟩ = some (.bool false) := hb1.cell (by simp [go_sem])
    have z3 : World.cell? w1 ⟨w.heap.size + 2, 3, none⟩ = some (.int .i64 0) := hb1.cell (by simp [go_sem])
    have v0 : World.cell? w1 ⟨w.heap.size + 3, 0, none⟩ = some (.int .i64 0) := hb1.cell (by simp [go_sem])
    have y0 : World.frozen? w1 ⟨w.heap.size + 2, 0, none⟩ = false := hb1.frozen (by simp [go_sem]; rfl) (by simp [go_sem])
    have y1 : World.frozen? w1 ⟨w.heap.size + 2, 1, none⟩ = false := hb1.frozen (by simp [go_sem]; rfl) (by simp [go_sem])
    have y2 : World.frozen? w1 ⟨w.heap.size + 2, 2, none⟩ = false := hb1.frozen (by simp [go_sem]; rfl) (by simp [go_sem])
    have y3 : World.frozen? w1 ⟨w.heap.size + 2, 3, none⟩ = false := hb1.frozen (by simp [go_sem]; rfl) (by simp [go_sem])
    have y4 : World.frozen? w1 ⟨w.heap.size + 3, 0, none⟩ = false := hb1.frozen (by simp [go_sem]; rfl) (by simp [go_sem])
    have hb : Bl w w1 := (by repeat (first | assumption | exact Bl.refl _ | apply Bl.drewN | apply Bl.drew | apply Bl.alloc | (refine Bl.dr ?_ (by assumption)) | (refine Bl.trans ?_ (by assumption))))
    clear hb1
    go_wp2_with fail
    
    refine bodyPost_ret (v := .tuple #[.agg #[.string (⟨#[]⟩), .string (⟨#[]⟩), .bool (false), .int .i64 (0)], .agg #[.int .i64 (0)], .int .i64 (q)]) (by simp [results, Try.results30, go_sem, *]) rfl ?_
    exact RB.mk rfl (by repeat (first | assumption | exact Bl.refl _ | apply Bl.drewN | apply Bl.drew | apply Bl.alloc | (refine Bl.setCell ?_ _ (by first | (simp; done) | (simp; omega)) _) | (refine Bl.dr ?_ (by assumption)) | (refine Bl.trans ?_ (by assumption))))
end Go.Proofs.Ytinbdppekhcekaa
