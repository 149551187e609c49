/-
  Own texts laid together: WkB WkN.
-/
import Derived.Test.YtinbdppekhcekaaZg
import Derived.Test.YtinbdppekhcekaaZo
import Derived.Test.YtinbdppekhcekaaZm
/-
  Contracts of walk's Seek and Clip, of both, and of the reference's Next and Prev.
-/
namespace Go.Proofs.Ytinbdppekhcekaa
open Go.RowKit
set_option linter.unusedSimpArgs false
set_option linter.unusedVariables false
set_option maxRecDepth 100000

def wclip (r : Rn) (n : Int) (x : Rng) : Int × Int := if wchk r n ≠ 0 then (0, wchk r n) else if rchk x ≠ 0 then (0, rchk x) else (min (max n (cntLtE r.es x.lo : Int)) (pTo r.es x : Int), 0)
def wseek (r : Rn) (k : ByteArray) (past : Bool) : Int × Int := if (rck r).2 ≠ 0 then (0, (rck r).2) else if kchk k ≠ 0 then (0, kchk k) else ((ceN r.es k past : Int), 0)
theorem wchk_ok {r : Rn} {n : Int} (h : wchk r n = 0) : (rck r).2 = 0 ∧ 0 ≤ n ∧ n ≤ (r.es.length : Int) := by
  unfold wchk at h
  by_cases e : (rck r).2 = 0
  · rw [if_neg (by simp [e])] at h
    by_cases f : n < 0 ∨ (r.es.length : Int) < n
    · rw [if_pos f] at h; cases h
    · exact ⟨e, by omega, by omega⟩
  · rw [if_pos e] at h; exact absurd h e
theorem part_res {r : Rn} {x : Rng} (h : (rck r).2 = 0) : rpart r x = if rchk x ≠ 0 then (0, 0, rchk x) else ((cntLtE r.es x.lo : Int), (pTo r.es x : Int), 0) := by
  unfold rpart; rw [if_neg (by simp [h])]



set_option maxHeartbeats 4000000 in
theorem walkClip (a : Option Addr) (c : Nat) (r : Rn) (n : Int) (x : Rng) (w : World) (h : ROk w a c r) (hx : x.ok) :
    Calls Try.prog 32 #[r.v a c, cur n, x.v] w (RB w (.tuple #[cur (wclip r n x).1, .int .i64 (wclip r n x).2])) := by
  have hC := fun w h => walkCheck a c r n w h
  have hP := fun w h => runPart a c r x w h hx
  unfold wclip
  by_cases e : wchk r n = 0
  · rw [if_neg (by simp [e])]
    rw [e] at hC
    obtain ⟨e1, e2, e3⟩ := wchk_ok e
    have o4 := (rck_ok e1).2.2.2.1
    rw [part_res e1] at hP
    have hq1 := cntLtE_le r.es x.lo
    have hq2 := pTo_le r.es x
    by_cases f : rchk x = 0
    · rw [if_neg (by simp [f])] at hP ⊢
      generalize cntLtE r.es x.lo = q1 at *
      generalize pTo r.es x = q2 at *
      clear e e1 f
      have HC := Lib.hid hC
      have HP := Lib.hid hP
      have HO := Lib.hid h
      obtain ⟨id, l⟩ := r
      obtain ⟨lo, hi, bd⟩ := x
      unfold Rn.v Rng.v
      simp only at *
      clear hC h hP hx
      by_cases h1 : n < (q1 : Int)
      · rw [show max n (q1 : Int) = (q1 : Int) by omega]
        rcases Nat.lt_trichotomy q1 q2 with h2 | h2 | h2
        · rw [show min (q1 : Int) (q2 : Int) = (q1 : Int) by omega]
          have h3 : ¬ q2 < q1 := by omega
          go_enter Try.func32, Try.ntmps32
          go_wp2_with fail
          refine (HC.out _ (HO.out.bl (by repeat (first | assumption | exact Bl.refl _ | apply Bl.drewN | apply Bl.drew | apply Bl.alloc | (refine Bl.dr ?_ (by assumption)) | (refine Bl.trans ?_ (by assumption)))))).mono ?_; rintro e w1 ⟨rfl, hb1⟩
          have c0 : World.cell? w1 ⟨w.heap.size, 0, none⟩ = some (.int .i64 id) := hb1.cell (by simp [go_sem])
          have c1 : World.cell? w1 ⟨w.heap.size, 1, none⟩ = some (.slice a l.length c) := hb1.cell (by simp [go_sem])
          have n0 : World.cell? w1 ⟨w.heap.size + 1, 0, none⟩ = some (.int .i64 n) := hb1.cell (by simp [go_sem])
          have x0 : World.cell? w1 ⟨w.heap.size + 2, 0, none⟩ = some (.string lo) := hb1.cell (by simp [go_sem])
          have x1 : World.cell? w1 ⟨w.heap.size + 2, 1, none⟩ = some (.string hi) := hb1.cell (by simp [go_sem])
          have x2 : World.cell? w1 ⟨w.heap.size + 2, 2, none⟩ = some (.bool bd) := hb1.cell (by simp [go_sem])
          have z0 : World.cell? w1 ⟨w.heap.size + 3, 0, none⟩ = some (.int .i64 0) := hb1.cell (by simp [go_sem])
          have y0 : World.frozen? w1 ⟨w.heap.size + 3, 0, none⟩ = false := hb1.frozen (by simp [go_sem]; rfl) (by simp [go_sem])
          have hb : Bl w w1 := (by repeat (first | assumption | exact Bl.refl _ | apply Bl.drewN | apply Bl.drew | apply Bl.alloc | (refine Bl.dr ?_ (by assumption)) | (refine Bl.trans ?_ (by assumption))))
          clear hb1
          go_wp2_with fail
          refine (HP.out _ (HO.out.bl hb)).mono ?_; rintro e w2 ⟨rfl, hb2⟩
          have y0 := Bl.frozen hb2 z0 y0
          have c0 := Bl.cell hb2 c0
          have c1 := Bl.cell hb2 c1
          have n0 := Bl.cell hb2 n0
          have x0 := Bl.cell hb2 x0
          have x1 := Bl.cell hb2 x1
          have x2 := Bl.cell hb2 x2
          have z0 := Bl.cell hb2 z0
          have hb := Bl.trans hb hb2
          go_wp2_with fail
          
          refine bodyPost_ret (v := .tuple #[.agg #[.int .i64 ((q1 : Int))], .int .i64 0]) (by simp [results, Try.results32, go_sem, *]) rfl ?_
          exact RB.mk rfl (by repeat (first | assumption | exact Bl.refl _ | apply Bl.drewN | apply Bl.drew | apply Bl.alloc | (refine Bl.setCell ?_ _ (by first | (simp; done) | (simp; omega)) _) | (refine Bl.dr ?_ (by assumption)) | (refine Bl.trans ?_ (by assumption))))
        · subst h2
          rw [show min (q1 : Int) (q1 : Int) = (q1 : Int) by omega]
          go_enter Try.func32, Try.ntmps32
          go_wp2_with fail
          refine (HC.out _ (HO.out.bl (by repeat (first | assumption | exact Bl.refl _ | apply Bl.drewN | apply Bl.drew | apply Bl.alloc | (refine Bl.dr ?_ (by assumption)) | (refine Bl.trans ?_ (by assumption)))))).mono ?_; rintro e w1 ⟨rfl, hb1⟩
          have c0 : World.cell? w1 ⟨w.heap.size, 0, none⟩ = some (.int .i64 id) := hb1.cell (by simp [go_sem])
          have c1 : World.cell? w1 ⟨w.heap.size, 1, none⟩ = some (.slice a l.length c) := hb1.cell (by simp [go_sem])
          have n0 : World.cell? w1 ⟨w.heap.size + 1, 0, none⟩ = some (.int .i64 n) := hb1.cell (by simp [go_sem])
          have x0 : World.cell? w1 ⟨w.heap.size + 2, 0, none⟩ = some (.string lo) := hb1.cell (by simp [go_sem])
          have x1 : World.cell? w1 ⟨w.heap.size + 2, 1, none⟩ = some (.string hi) := hb1.cell (by simp [go_sem])
          have x2 : World.cell? w1 ⟨w.heap.size + 2, 2, none⟩ = some (.bool bd) := hb1.cell (by simp [go_sem])
          have z0 : World.cell? w1 ⟨w.heap.size + 3, 0, none⟩ = some (.int .i64 0) := hb1.cell (by simp [go_sem])
          have y0 : World.frozen? w1 ⟨w.heap.size + 3, 0, none⟩ = false := hb1.frozen (by simp [go_sem]; rfl) (by simp [go_sem])
          have hb : Bl w w1 := (by repeat (first | assumption | exact Bl.refl _ | apply Bl.drewN | apply Bl.drew | apply Bl.alloc | (refine Bl.dr ?_ (by assumption)) | (refine Bl.trans ?_ (by assumption))))
          clear hb1
          go_wp2_with fail
          refine (HP.out _ (HO.out.bl hb)).mono ?_; rintro e w2 ⟨rfl, hb2⟩
          have y0 := Bl.frozen hb2 z0 y0
          have c0 := Bl.cell hb2 c0
          have c1 := Bl.cell hb2 c1
          have n0 := Bl.cell hb2 n0
          have x0 := Bl.cell hb2 x0
          have x1 := Bl.cell hb2 x1
          have x2 := Bl.cell hb2 x2
          have z0 := Bl.cell hb2 z0
          have hb := Bl.trans hb hb2
          go_wp2_with fail
          
          refine bodyPost_ret (v := .tuple #[.agg #[.int .i64 ((q1 : Int))], .int .i64 0]) (by simp [results, Try.results32, go_sem, *]) rfl ?_
          exact RB.mk rfl (by repeat (first | assumption | exact Bl.refl _ | apply Bl.drewN | apply Bl.drew | apply Bl.alloc | (refine Bl.setCell ?_ _ (by first | (simp; done) | (simp; omega)) _) | (refine Bl.dr ?_ (by assumption)) | (refine Bl.trans ?_ (by assumption))))
        · rw [show min (q1 : Int) (q2 : Int) = (q2 : Int) by omega]
          have h3 : ¬ q1 < q2 := by omega
          go_enter Try.func32, Try.ntmps32
          go_wp2_with fail
          refine (HC.out _ (HO.out.bl (by repeat (first | assumption | exact Bl.refl _ | apply Bl.drewN | apply Bl.drew | apply Bl.alloc | (refine Bl.dr ?_ (by assumption)) | (refine Bl.trans ?_ (by assumption)))))).mono ?_; rintro e w1 ⟨rfl, hb1⟩
          have c0 : World.cell? w1 ⟨w.heap.size, 0, none⟩ = some (.int .i64 id) := hb1.cell (by simp [go_sem])
          have c1 : World.cell? w1 ⟨w.heap.size, 1, none⟩ = some (.slice a l.length c) := hb1.cell (by simp [go_sem])
          have n0 : World.cell? w1 ⟨w.heap.size + 1, 0, none⟩ = some (.int .i64 n) := hb1.cell (by simp [go_sem])
          have x0 : World.cell? w1 ⟨w.heap.size + 2, 0, none⟩ = some (.string lo) := hb1.cell (by simp [go_sem])
          have x1 : World.cell? w1 ⟨w.heap.size + 2, 1, none⟩ = some (.string hi) := hb1.cell (by simp [go_sem])
          have x2 : World.cell? w1 ⟨w.heap.size + 2, 2, none⟩ = some (.bool bd) := hb1.cell (by simp [go_sem])
          have z0 : World.cell? w1 ⟨w.heap.size + 3, 0, none⟩ = some (.int .i64 0) := hb1.cell (by simp [go_sem])
          have y0 : World.frozen? w1 ⟨w.heap.size + 3, 0, none⟩ = false := hb1.frozen (by simp [go_sem]; rfl) (by simp [go_sem])
          have hb : Bl w w1 := (by repeat (first | assumption | exact Bl.refl _ | apply Bl.drewN | apply Bl.drew | apply Bl.alloc | (refine Bl.dr ?_ (by assumption)) | (refine Bl.trans ?_ (by assumption))))
          clear hb1
          go_wp2_with fail
          refine (HP.out _ (HO.out.bl hb)).mono ?_; rintro e w2 ⟨rfl, hb2⟩
          have y0 := Bl.frozen hb2 z0 y0
          have c0 := Bl.cell hb2 c0
          have c1 := Bl.cell hb2 c1
          have n0 := Bl.cell hb2 n0
          have x0 := Bl.cell hb2 x0
          have x1 := Bl.cell hb2 x1
          have x2 := Bl.cell hb2 x2
          have z0 := Bl.cell hb2 z0
          have hb := Bl.trans hb hb2
          go_wp2_with fail
          
          refine bodyPost_ret (v := .tuple #[.agg #[.int .i64 ((q2 : Int))], .int .i64 0]) (by simp [results, Try.results32, go_sem, *]) rfl ?_
          exact RB.mk rfl (by repeat (first | assumption | exact Bl.refl _ | apply Bl.drewN | apply Bl.drew | apply Bl.alloc | (refine Bl.setCell ?_ _ (by first | (simp; done) | (simp; omega)) _) | (refine Bl.dr ?_ (by assumption)) | (refine Bl.trans ?_ (by assumption))))
      · rw [show max n (q1 : Int) = n by omega]
        by_cases h3 : (q2 : Int) < n
        · rw [show min n (q2 : Int) = (q2 : Int) by omega]
          have h4 : ¬ n < (q2 : Int) := by omega
          go_enter Try.func32, Try.ntmps32
          go_wp2_with fail
          refine (HC.out _ (HO.out.bl (by repeat (first | assumption | exact Bl.refl _ | apply Bl.drewN | apply Bl.drew | apply Bl.alloc | (refine Bl.dr ?_ (by assumption)) | (refine Bl.trans ?_ (by assumption)))))).mono ?_; rintro e w1 ⟨rfl, hb1⟩
          have c0 : World.cell? w1 ⟨w.heap.size, 0, none⟩ = some (.int .i64 id) := hb1.cell (by simp [go_sem])
          have c1 : World.cell? w1 ⟨w.heap.size, 1, none⟩ = some (.slice a l.length c) := hb1.cell (by simp [go_sem])
          have n0 : World.cell? w1 ⟨w.heap.size + 1, 0, none⟩ = some (.int .i64 n) := hb1.cell (by simp [go_sem])
          have x0 : World.cell? w1 ⟨w.heap.size + 2, 0, none⟩ = some (.string lo) := hb1.cell (by simp [go_sem])
          have x1 : World.cell? w1 ⟨w.heap.size + 2, 1, none⟩ = some (.string hi) := hb1.cell (by simp [go_sem])
          have x2 : World.cell? w1 ⟨w.heap.size + 2, 2, none⟩ = some (.bool bd) := hb1.cell (by simp [go_sem])
          have z0 : World.cell? w1 ⟨w.heap.size + 3, 0, none⟩ = some (.int .i64 0) := hb1.cell (by simp [go_sem])
          have y0 : World.frozen? w1 ⟨w.heap.size + 3, 0, none⟩ = false := hb1.frozen (by simp [go_sem]; rfl) (by simp [go_sem])
          have hb : Bl w w1 := (by repeat (first | assumption | exact Bl.refl _ | apply Bl.drewN | apply Bl.drew | apply Bl.alloc | (refine Bl.dr ?_ (by assumption)) | (refine Bl.trans ?_ (by assumption))))
          clear hb1
          go_wp2_with fail
          refine (HP.out _ (HO.out.bl hb)).mono ?_; rintro e w2 ⟨rfl, hb2⟩
          have y0 := Bl.frozen hb2 z0 y0
          have c0 := Bl.cell hb2 c0
          have c1 := Bl.cell hb2 c1
          have n0 := Bl.cell hb2 n0
          have x0 := Bl.cell hb2 x0
          have x1 := Bl.cell hb2 x1
          have x2 := Bl.cell hb2 x2
          have z0 := Bl.cell hb2 z0
          have hb := Bl.trans hb hb2
          go_wp2_with fail
          
          refine bodyPost_ret (v := .tuple #[.agg #[.int .i64 ((q2 : Int))], .int .i64 0]) (by simp [results, Try.results32, go_sem, *]) rfl ?_
          exact RB.mk rfl (by repeat (first | assumption | exact Bl.refl _ | apply Bl.drewN | apply Bl.drew | apply Bl.alloc | (refine Bl.setCell ?_ _ (by first | (simp; done) | (simp; omega)) _) | (refine Bl.dr ?_ (by assumption)) | (refine Bl.trans ?_ (by assumption))))
        · rw [show min n (q2 : Int) = n by omega]
          go_enter Try.func32, Try.ntmps32
          go_wp2_with fail
          refine (HC.out _ (HO.out.bl (by repeat (first | assumption | exact Bl.refl _ | apply Bl.drewN | apply Bl.drew | apply Bl.alloc | (refine Bl.dr ?_ (by assumption)) | (refine Bl.trans ?_ (by assumption)))))).mono ?_; rintro e w1 ⟨rfl, hb1⟩
          have c0 : World.cell? w1 ⟨w.heap.size, 0, none⟩ = some (.int .i64 id) := hb1.cell (by simp [go_sem])
          have c1 : World.cell? w1 ⟨w.heap.size, 1, none⟩ = some (.slice a l.length c) := hb1.cell (by simp [go_sem])
          have n0 : World.cell? w1 ⟨w.heap.size + 1, 0, none⟩ = some (.int .i64 n) := hb1.cell (by simp [go_sem])
          have x0 : World.cell? w1 ⟨w.heap.size + 2, 0, none⟩ = some (.string lo) := hb1.cell (by simp [go_sem])
          have x1 : World.cell? w1 ⟨w.heap.size + 2, 1, none⟩ = some (.string hi) := hb1.cell (by simp [go_sem])
          have x2 : World.cell? w1 ⟨w.heap.size + 2, 2, none⟩ = some (.bool bd) := hb1.cell (by simp [go_sem])
          have z0 : World.cell? w1 ⟨w.heap.size + 3, 0, none⟩ = some (.int .i64 0) := hb1.cell (by simp [go_sem])
          have y0 : World.frozen? w1 ⟨w.heap.size + 3, 0, none⟩ = false := hb1.frozen (by simp [go_sem]; rfl) (by simp [go_sem])
          have hb : Bl w w1 := (by repeat (first | assumption | exact Bl.refl _ | apply Bl.drewN | apply Bl.drew | apply Bl.alloc | (refine Bl.dr ?_ (by assumption)) | (refine Bl.trans ?_ (by assumption))))
          clear hb1
          go_wp2_with fail
          refine (HP.out _ (HO.out.bl hb)).mono ?_; rintro e w2 ⟨rfl, hb2⟩
          have y0 := Bl.frozen hb2 z0 y0
          have c0 := Bl.cell hb2 c0
          have c1 := Bl.cell hb2 c1
          have n0 := Bl.cell hb2 n0
          have x0 := Bl.cell hb2 x0
          have x1 := Bl.cell hb2 x1
          have x2 := Bl.cell hb2 x2
          have z0 := Bl.cell hb2 z0
          have hb := Bl.trans hb hb2
          go_wp2_with fail
          
          refine bodyPost_ret (v := .tuple #[.agg #[.int .i64 (n)], .int .i64 0]) (by simp [results, Try.results32, go_sem, *]) rfl ?_
          exact RB.mk rfl (by repeat (first | assumption | exact Bl.refl _ | apply Bl.drewN | apply Bl.drew | apply Bl.alloc | (refine Bl.setCell ?_ _ (by first | (simp; done) | (simp; omega)) _) | (refine Bl.dr ?_ (by assumption)) | (refine Bl.trans ?_ (by assumption))))
    · rw [if_pos f] at hP ⊢
      have f' : (rchk x != 0) = true := by simp [f]
      generalize rchk x = q at *
      clear e e1 f
      have HC := Lib.hid hC
      have HP := Lib.hid hP
      have HO := Lib.hid h
      obtain ⟨id, l⟩ := r
      obtain ⟨lo, hi, bd⟩ := x
      unfold Rn.v Rng.v
      simp only at *
      clear hC h hP hx
      go_enter Try.func32, Try.ntmps32
      go_wp2_with fail
      refine (HC.out _ (HO.out.bl (by repeat (first | assumption | exact Bl.refl _ | apply Bl.drewN | apply Bl.drew | apply Bl.alloc | (refine Bl.dr ?_ (by assumption)) | (refine Bl.trans ?_ (by assumption)))))).mono ?_; rintro e w1 ⟨rfl, hb1⟩
      have c0 : World.cell? w1 ⟨w.heap.size, 0, none⟩ = some (.int .i64 id) := hb1.cell (by simp [go_sem])
      have c1 : World.cell? w1 ⟨w.heap.size, 1, none⟩ = some (.slice a l.length c) := hb1.cell (by simp [go_sem])
      have n0 : World.cell? w1 ⟨w.heap.size + 1, 0, none⟩ = some (.int .i64 n) := hb1.cell (by simp [go_sem])
      have x0 : World.cell? w1 ⟨w.heap.size + 2, 0, none⟩ = some (.string lo) := hb1.cell (by simp [go_sem])
      have x1 : World.cell? w1 ⟨w.heap.size + 2, 1, none⟩ = some (.string hi) := hb1.cell (by simp [go_sem])
      have x2 : World.cell? w1 ⟨w.heap.size + 2, 2, none⟩ = some (.bool bd) := hb1.cell (by simp [go_sem])
      have z0 : World.cell? w1 ⟨w.heap.size + 3, 0, none⟩ = some (.int .i64 0) := hb1.cell (by simp [go_sem])
      have y0 : World.frozen? w1 ⟨w.heap.size + 3, 0, none⟩ = false := hb1.frozen (by simp [go_sem]; rfl) (by simp [go_sem])
      have hb : Bl w w1 := (by repeat (first | assumption | exact Bl.refl _ | apply Bl.drewN | apply Bl.drew | apply Bl.alloc | (refine Bl.dr ?_ (by assumption)) | (refine Bl.trans ?_ (by assumption))))
      clear hb1
      go_wp2_with fail
      refine (HP.out _ (HO.out.bl hb)).mono ?_; rintro e w2 ⟨rfl, hb2⟩
      have y0 := Bl.frozen hb2 z0 y0
      have c0 := Bl.cell hb2 c0
      have c1 := Bl.cell hb2 c1
      have n0 := Bl.cell hb2 n0
      have x0 := Bl.cell hb2 x0
      have x1 := Bl.cell hb2 x1
      have x2 := Bl.cell hb2 x2
      have z0 := Bl.cell hb2 z0
      have hb := Bl.trans hb hb2
      go_wp2_with fail
      
      refine bodyPost_ret (v := .tuple #[.agg #[.int .i64 0], .int .i64 q]) (by simp [results, Try.results32, go_sem, *]) rfl ?_
      exact RB.mk rfl (by repeat (first | assumption | exact Bl.refl _ | apply Bl.drewN | apply Bl.drew | apply Bl.alloc | (refine Bl.setCell ?_ _ (by first | (simp; done) | (simp; omega)) _) | (refine Bl.dr ?_ (by assumption)) | (refine Bl.trans ?_ (by assumption))))
  · rw [if_pos e]
    have e' : (wchk r n != 0) = true := by simp [e]
    generalize wchk r n = q at *
    clear e
    have HC := Lib.hid hC
    have HP := Lib.hid hP
    have HO := Lib.hid h
    obtain ⟨id, l⟩ := r
    obtain ⟨lo, hi, bd⟩ := x
    unfold Rn.v Rng.v
    simp only at *
    clear hC h hP hx
    go_enter Try.func32, Try.ntmps32
    go_wp2_with fail
    refine (HC.out _ (HO.out.bl (by repeat (first | assumption | exact Bl.refl _ | apply Bl.drewN | apply Bl.drew | apply Bl.alloc | (refine Bl.dr ?_ (by assumption)) | (refine Bl.trans ?_ (by assumption)))))).mono ?_; rintro e w1 ⟨rfl, hb1⟩
    have c0 : World.cell? w1 ⟨w.heap.size, 0, none⟩ = some (.int .i64 id) := hb1.cell (by simp [go_sem])
    have c1 : World.cell? w1 ⟨w.heap.size, 1, none⟩ = some (.slice a l.length c) := hb1.cell (by simp [go_sem])
    have n0 : World.cell? w1 ⟨w.heap.size + 1, 0, none⟩ = some (.int .i64 n) := hb1.cell (by simp [go_sem])
    have x0 : World.cell? w1 ⟨w.heap.size + 2, 0, none⟩ = some (.string lo) := hb1.cell (by simp [go_sem])
    have x1 : World.cell? w1 ⟨w.heap.size + 2, 1, none⟩ = some (.string hi) := hb1.cell (by simp [go_sem])
    have x2 : World.cell? w1 ⟨w.heap.size + 2, 2, none⟩ = some (.bool bd) := hb1.cell (by simp [go_sem])
    have z0 : World.cell? w1 ⟨w.heap.size + 3, 0, none⟩ = some (.int .i64 0) := hb1.cell (by simp [go_sem])
    have y0 : World.frozen? w1 ⟨w.heap.size + 3, 0, none⟩ = false := hb1.frozen (by simp [go_sem]; rfl) (by simp [go_sem])
    have hb : Bl w w1 := (by repeat (first | assumption | exact Bl.refl _ | apply Bl.drewN | apply Bl.drew | apply Bl.alloc | (refine Bl.dr ?_ (by assumption)) | (refine Bl.trans ?_ (by assumption))))
    clear hb1
    go_wp2_with fail
    
    refine bodyPost_ret (v := .tuple #[.agg #[.int .i64 0], .int .i64 q]) (by simp [results, Try.results32, go_sem, *]) rfl ?_
    exact RB.mk rfl (by repeat (first | assumption | exact Bl.refl _ | apply Bl.drewN | apply Bl.drew | apply Bl.alloc | (refine Bl.setCell ?_ _ (by first | (simp; done) | (simp; omega)) _) | (refine Bl.dr ?_ (by assumption)) | (refine Bl.trans ?_ (by assumption))))

set_option maxHeartbeats 4000000 in
theorem refWalkClip (a : Option Addr) (c : Nat) (r : Rn) (n : Int) (x : Rng) (w : World) (h : ROk w a c r) (hx : x.ok) :
    Calls Try.prog 33 #[r.v a c, cur n, x.v] w (RB w (.tuple #[cur (wclip r n x).1, .int .i64 (wclip r n x).2])) := by
  have hC := fun w h => refWalkCheck a c r n w h
  have hP := fun w h => refRunPart a c r x w h hx
  have hXX := fun w => refCheckRange x w hx
  unfold wclip
  by_cases e : wchk r n = 0
  · rw [if_neg (by simp [e])]
    rw [e] at hC
    obtain ⟨e1, e2, e3⟩ := wchk_ok e
    have o4 := (rck_ok e1).2.2.2.1
    rw [part_res e1] at hP
    have hq1 := cntLtE_le r.es x.lo
    have hq2 := pTo_le r.es x
    by_cases f : rchk x = 0
    · rw [if_neg (by simp [f])] at hP ⊢
      rw [f] at hXX
      generalize cntLtE r.es x.lo = q1 at *
      generalize pTo r.es x = q2 at *
      have HX := Lib.hid hXX
      clear e e1 f hXX
      have HC := Lib.hid hC
      have HP := Lib.hid hP
      have HO := Lib.hid h
      obtain ⟨id, l⟩ := r
      obtain ⟨lo, hi, bd⟩ := x
      unfold Rn.v Rng.v
      simp only at *
      clear hC h hP hx
      by_cases h1 : n < (q1 : Int)
      · rw [show max n (q1 : Int) = (q1 : Int) by omega]
        rcases Nat.lt_trichotomy q1 q2 with h2 | h2 | h2
        · rw [show min (q1 : Int) (q2 : Int) = (q1 : Int) by omega]
          have h3 : ¬ q2 < q1 := by omega
          go_enter Try.func33, Try.ntmps33
          go_wp2_with fail
          refine (HC.out _ (HO.out.bl (by repeat (first | assumption | exact Bl.refl _ | apply Bl.drewN | apply Bl.drew | apply Bl.alloc | (refine Bl.dr ?_ (by assumption)) | (refine Bl.trans ?_ (by assumption)))))).mono ?_; rintro e w1 ⟨rfl, hb1⟩
          have c0 : World.cell? w1 ⟨w.heap.size, 0, none⟩ = some (.int .i64 id) := hb1.cell (by simp [go_sem])
          have c1 : World.cell? w1 ⟨w.heap.size, 1, none⟩ = some (.slice a l.length c) := hb1.cell (by simp [go_sem])
          have n0 : World.cell? w1 ⟨w.heap.size + 1, 0, none⟩ = some (.int .i64 n) := hb1.cell (by simp [go_sem])
          have x0 : World.cell? w1 ⟨w.heap.size + 2, 0, none⟩ = some (.string lo) := hb1.cell (by simp [go_sem])
          have x1 : World.cell? w1 ⟨w.heap.size + 2, 1, none⟩ = some (.string hi) := hb1.cell (by simp [go_sem])
          have x2 : World.cell? w1 ⟨w.heap.size + 2, 2, none⟩ = some (.bool bd) := hb1.cell (by simp [go_sem])
          have z0 : World.cell? w1 ⟨w.heap.size + 3, 0, none⟩ = some (.int .i64 0) := hb1.cell (by simp [go_sem])
          have y0 : World.frozen? w1 ⟨w.heap.size + 3, 0, none⟩ = false := hb1.frozen (by simp [go_sem]; rfl) (by simp [go_sem])
          have hb : Bl w w1 := (by repeat (first | assumption | exact Bl.refl _ | apply Bl.drewN | apply Bl.drew | apply Bl.alloc | (refine Bl.dr ?_ (by assumption)) | (refine Bl.trans ?_ (by assumption))))
          clear hb1
          go_wp2_with fail
          refine (HX.out _).mono ?_; rintro e w2 ⟨rfl, hb2⟩
          have y0 := Bl.frozen hb2 z0 y0
          have c0 := Bl.cell hb2 c0
          have c1 := Bl.cell hb2 c1
          have n0 := Bl.cell hb2 n0
          have x0 := Bl.cell hb2 x0
          have x1 := Bl.cell hb2 x1
          have x2 := Bl.cell hb2 x2
          have z0 := Bl.cell hb2 z0
          have hb := Bl.trans hb hb2
          go_wp2_with fail
          refine (HP.out _ (HO.out.bl hb)).mono ?_; rintro e w3 ⟨rfl, hb3⟩
          have y0 := Bl.frozen hb3 z0 y0
          have c0 := Bl.cell hb3 c0
          have c1 := Bl.cell hb3 c1
          have n0 := Bl.cell hb3 n0
          have x0 := Bl.cell hb3 x0
          have x1 := Bl.cell hb3 x1
          have x2 := Bl.cell hb3 x2
          have z0 := Bl.cell hb3 z0
          have hb := Bl.trans hb hb3
          go_wp2_with fail
          
          refine bodyPost_ret (v := .tuple #[.agg #[.int .i64 ((q1 : Int))], .int .i64 0]) (by simp [results, Try.results33, go_sem, *]) rfl ?_
          exact RB.mk rfl (by repeat (first | assumption | exact Bl.refl _ | apply Bl.drewN | apply Bl.drew | apply Bl.alloc | (refine Bl.setCell ?_ _ (by first | (simp; done) | (simp; omega)) _) | (refine Bl.dr ?_ (by assumption)) | (refine Bl.trans ?_ (by assumption))))
        · subst h2
          rw [show min (q1 : Int) (q1 : Int) = (q1 : Int) by omega]
          go_enter Try.func33, Try.ntmps33
          go_wp2_with fail
          refine (HC.out _ (HO.out.bl (by repeat (first | assumption | exact Bl.refl _ | apply Bl.drewN | apply Bl.drew | apply Bl.alloc | (refine Bl.dr ?_ (by assumption)) | (refine Bl.trans ?_ (by assumption)))))).mono ?_; rintro e w1 ⟨rfl, hb1⟩
          have c0 : World.cell? w1 ⟨w.heap.size, 0, none⟩ = some (.int .i64 id) := hb1.cell (by simp [go_sem])
          have c1 : World.cell? w1 ⟨w.heap.size, 1, none⟩ = some (.slice a l.length c) := hb1.cell (by simp [go_sem])
          have n0 : World.cell? w1 ⟨w.heap.size + 1, 0, none⟩ = some (.int .i64 n) := hb1.cell (by simp [go_sem])
          have x0 : World.cell? w1 ⟨w.heap.size + 2, 0, none⟩ = some (.string lo) := hb1.cell (by simp [go_sem])
          have x1 : World.cell? w1 ⟨w.heap.size + 2, 1, none⟩ = some (.string hi) := hb1.cell (by simp [go_sem])
          have x2 : World.cell? w1 ⟨w.heap.size + 2, 2, none⟩ = some (.bool bd) := hb1.cell (by simp [go_sem])
          have z0 : World.cell? w1 ⟨w.heap.size + 3, 0, none⟩ = some (.int .i64 0) := hb1.cell (by simp [go_sem])
          have y0 : World.frozen? w1 ⟨w.heap.size + 3, 0, none⟩ = false := hb1.frozen (by simp [go_sem]; rfl) (by simp [go_sem])
          have hb : Bl w w1 := (by repeat (first | assumption | exact Bl.refl _ | apply Bl.drewN | apply Bl.drew | apply Bl.alloc | (refine Bl.dr ?_ (by assumption)) | (refine Bl.trans ?_ (by assumption))))
          clear hb1
          go_wp2_with fail
          refine (HX.out _).mono ?_; rintro e w2 ⟨rfl, hb2⟩
          have y0 := Bl.frozen hb2 z0 y0
          have c0 := Bl.cell hb2 c0
          have c1 := Bl.cell hb2 c1
          have n0 := Bl.cell hb2 n0
          have x0 := Bl.cell hb2 x0
          have x1 := Bl.cell hb2 x1
          have x2 := Bl.cell hb2 x2
          have z0 := Bl.cell hb2 z0
          have hb := Bl.trans hb hb2
          go_wp2_with fail
          refine (HP.out _ (HO.out.bl hb)).mono ?_; rintro e w3 ⟨rfl, hb3⟩
          have y0 := Bl.frozen hb3 z0 y0
          have c0 := Bl.cell hb3 c0
          have c1 := Bl.cell hb3 c1
          have n0 := Bl.cell hb3 n0
          have x0 := Bl.cell hb3 x0
          have x1 := Bl.cell hb3 x1
          have x2 := Bl.cell hb3 x2
          have z0 := Bl.cell hb3 z0
          have hb := Bl.trans hb hb3
          go_wp2_with fail
          
          refine bodyPost_ret (v := .tuple #[.agg #[.int .i64 ((q1 : Int))], .int .i64 0]) (by simp [results, Try.results33, go_sem, *]) rfl ?_
          exact RB.mk rfl (by repeat (first | assumption | exact Bl.refl _ | apply Bl.drewN | apply Bl.drew | apply Bl.alloc | (refine Bl.setCell ?_ _ (by first | (simp; done) | (simp; omega)) _) | (refine Bl.dr ?_ (by assumption)) | (refine Bl.trans ?_ (by assumption))))
        · rw [show min (q1 : Int) (q2 : Int) = (q2 : Int) by omega]
          have h3 : ¬ q1 < q2 := by omega
          go_enter Try.func33, Try.ntmps33
          go_wp2_with fail
          refine (HC.out _ (HO.out.bl (by repeat (first | assumption | exact Bl.refl _ | apply Bl.drewN | apply Bl.drew | apply Bl.alloc | (refine Bl.dr ?_ (by assumption)) | (refine Bl.trans ?_ (by assumption)))))).mono ?_; rintro e w1 ⟨rfl, hb1⟩
          have c0 : World.cell? w1 ⟨w.heap.size, 0, none⟩ = some (.int .i64 id) := hb1.cell (by simp [go_sem])
          have c1 : World.cell? w1 ⟨w.heap.size, 1, none⟩ = some (.slice a l.length c) := hb1.cell (by simp [go_sem])
          have n0 : World.cell? w1 ⟨w.heap.size + 1, 0, none⟩ = some (.int .i64 n) := hb1.cell (by simp [go_sem])
          have x0 : World.cell? w1 ⟨w.heap.size + 2, 0, none⟩ = some (.string lo) := hb1.cell (by simp [go_sem])
          have x1 : World.cell? w1 ⟨w.heap.size + 2, 1, none⟩ = some (.string hi) := hb1.cell (by simp [go_sem])
          have x2 : World.cell? w1 ⟨w.heap.size + 2, 2, none⟩ = some (.bool bd) := hb1.cell (by simp [go_sem])
          have z0 : World.cell? w1 ⟨w.heap.size + 3, 0, none⟩ = some (.int .i64 0) := hb1.cell (by simp [go_sem])
          have y0 : World.frozen? w1 ⟨w.heap.size + 3, 0, none⟩ = false := hb1.frozen (by simp [go_sem]; rfl) (by simp [go_sem])
          have hb : Bl w w1 := (by repeat (first | assumption | exact Bl.refl _ | apply Bl.drewN | apply Bl.drew | apply Bl.alloc | (refine Bl.dr ?_ (by assumption)) | (refine Bl.trans ?_ (by assumption))))
          clear hb1
          go_wp2_with fail
          refine (HX.out _).mono ?_; rintro e w2 ⟨rfl, hb2⟩
          have y0 := Bl.frozen hb2 z0 y0
          have c0 := Bl.cell hb2 c0
          have c1 := Bl.cell hb2 c1
          have n0 := Bl.cell hb2 n0
          have x0 := Bl.cell hb2 x0
          have x1 := Bl.cell hb2 x1
          have x2 := Bl.cell hb2 x2
          have z0 := Bl.cell hb2 z0
          have hb := Bl.trans hb hb2
          go_wp2_with fail
          refine (HP.out _ (HO.out.bl hb)).mono ?_; rintro e w3 ⟨rfl, hb3⟩
          have y0 := Bl.frozen hb3 z0 y0
          have c0 := Bl.cell hb3 c0
          have c1 := Bl.cell hb3 c1
          have n0 := Bl.cell hb3 n0
          have x0 := Bl.cell hb3 x0
          have x1 := Bl.cell hb3 x1
          have x2 := Bl.cell hb3 x2
          have z0 := Bl.cell hb3 z0
          have hb := Bl.trans hb hb3
          go_wp2_with fail
          
          refine bodyPost_ret (v := .tuple #[.agg #[.int .i64 ((q2 : Int))], .int .i64 0]) (by simp [results, Try.results33, go_sem, *]) rfl ?_
          exact RB.mk rfl (by repeat (first | assumption | exact Bl.refl _ | apply Bl.drewN | apply Bl.drew | apply Bl.alloc | (refine Bl.setCell ?_ _ (by first | (simp; done) | (simp; omega)) _) | (refine Bl.dr ?_ (by assumption)) | (refine Bl.trans ?_ (by assumption))))
      · rw [show max n (q1 : Int) = n by omega]
        by_cases h3 : (q2 : Int) < n
        · rw [show min n (q2 : Int) = (q2 : Int) by omega]
          have h4 : ¬ n < (q2 : Int) := by omega
          go_enter Try.func33, Try.ntmps33
          go_wp2_with fail
          refine (HC.out _ (HO.out.bl (by repeat (first | assumption | exact Bl.refl _ | apply Bl.drewN | apply Bl.drew | apply Bl.alloc | (refine Bl.dr ?_ (by assumption)) | (refine Bl.trans ?_ (by assumption)))))).mono ?_; rintro e w1 ⟨rfl, hb1⟩
          have c0 : World.cell? w1 ⟨w.heap.size, 0, none⟩ = some (.int .i64 id) := hb1.cell (by simp [go_sem])
          have c1 : World.cell? w1 ⟨w.heap.size, 1, none⟩ = some (.slice a l.length c) := hb1.cell (by simp [go_sem])
          have n0 : World.cell? w1 ⟨w.heap.size + 1, 0, none⟩ = some (.int .i64 n) := hb1.cell (by simp [go_sem])
          have x0 : World.cell? w1 ⟨w.heap.size + 2, 0, none⟩ = some (.string lo) := hb1.cell (by simp [go_sem])
          have x1 : World.cell? w1 ⟨w.heap.size + 2, 1, none⟩ = some (.string hi) := hb1.cell (by simp [go_sem])
          have x2 : World.cell? w1 ⟨w.heap.size + 2, 2, none⟩ = some (.bool bd) := hb1.cell (by simp [go_sem])
          have z0 : World.cell? w1 ⟨w.heap.size + 3, 0, none⟩ = some (.int .i64 0) := hb1.cell (by simp [go_sem])
          have y0 : World.frozen? w1 ⟨w.heap.size + 3, 0, none⟩ = false := hb1.frozen (by simp [go_sem]; rfl) (by simp [go_sem])
          have hb : Bl w w1 := (by repeat (first | assumption | exact Bl.refl _ | apply Bl.drewN | apply Bl.drew | apply Bl.alloc | (refine Bl.dr ?_ (by assumption)) | (refine Bl.trans ?_ (by assumption))))
          clear hb1
          go_wp2_with fail
          refine (HX.out _).mono ?_; rintro e w2 ⟨rfl, hb2⟩
          have y0 := Bl.frozen hb2 z0 y0
          have c0 := Bl.cell hb2 c0
          have c1 := Bl.cell hb2 c1
          have n0 := Bl.cell hb2 n0
          have x0 := Bl.cell hb2 x0
          have x1 := Bl.cell hb2 x1
          have x2 := Bl.cell hb2 x2
          have z0 := Bl.cell hb2 z0
          have hb := Bl.trans hb hb2
          go_wp2_with fail
          refine (HP.out _ (HO.out.bl hb)).mono ?_; rintro e w3 ⟨rfl, hb3⟩
          have y0 := Bl.frozen hb3 z0 y0
          have c0 := Bl.cell hb3 c0
          have c1 := Bl.cell hb3 c1
          have n0 := Bl.cell hb3 n0
          have x0 := Bl.cell hb3 x0
          have x1 := Bl.cell hb3 x1
          have x2 := Bl.cell hb3 x2
          have z0 := Bl.cell hb3 z0
          have hb := Bl.trans hb hb3
          go_wp2_with fail
          
          refine bodyPost_ret (v := .tuple #[.agg #[.int .i64 ((q2 : Int))], .int .i64 0]) (by simp [results, Try.results33, go_sem, *]) rfl ?_
          exact RB.mk rfl (by repeat (first | assumption | exact Bl.refl _ | apply Bl.drewN | apply Bl.drew | apply Bl.alloc | (refine Bl.setCell ?_ _ (by first | (simp; done) | (simp; omega)) _) | (refine Bl.dr ?_ (by assumption)) | (refine Bl.trans ?_ (by assumption))))
        · rw [show min n (q2 : Int) = n by omega]
          go_enter Try.func33, Try.ntmps33
          go_wp2_with fail
          refine (HC.out _ (HO.out.bl (by repeat (first | assumption | exact Bl.refl _ | apply Bl.drewN | apply Bl.drew | apply Bl.alloc | (refine Bl.dr ?_ (by assumption)) | (refine Bl.trans ?_ (by assumption)))))).mono ?_; rintro e w1 ⟨rfl, hb1⟩
          have c0 : World.cell? w1 ⟨w.heap.size, 0, none⟩ = some (.int .i64 id) := hb1.cell (by simp [go_sem])
          have c1 : World.cell? w1 ⟨w.heap.size, 1, none⟩ = some (.slice a l.length c) := hb1.cell (by simp [go_sem])
          have n0 : World.cell? w1 ⟨w.heap.size + 1, 0, none⟩ = some (.int .i64 n) := hb1.cell (by simp [go_sem])
          have x0 : World.cell? w1 ⟨w.heap.size + 2, 0, none⟩ = some (.string lo) := hb1.cell (by simp [go_sem])
          have x1 : World.cell? w1 ⟨w.heap.size + 2, 1, none⟩ = some (.string hi) := hb1.cell (by simp [go_sem])
          have x2 : World.cell? w1 ⟨w.heap.size + 2, 2, none⟩ = some (.bool bd) := hb1.cell (by simp [go_sem])
          have z0 : World.cell? w1 ⟨w.heap.size + 3, 0, none⟩ = some (.int .i64 0) := hb1.cell (by simp [go_sem])
          have y0 : World.frozen? w1 ⟨w.heap.size + 3, 0, none⟩ = false := hb1.frozen (by simp [go_sem]; rfl) (by simp [go_sem])
          have hb : Bl w w1 := (by repeat (first | assumption | exact Bl.refl _ | apply Bl.drewN | apply Bl.drew | apply Bl.alloc | (refine Bl.dr ?_ (by assumption)) | (refine Bl.trans ?_ (by assumption))))
          clear hb1
          go_wp2_with fail
          refine (HX.out _).mono ?_; rintro e w2 ⟨rfl, hb2⟩
          have y0 := Bl.frozen hb2 z0 y0
          have c0 := Bl.cell hb2 c0
          have c1 := Bl.cell hb2 c1
          have n0 := Bl.cell hb2 n0
          have x0 := Bl.cell hb2 x0
          have x1 := Bl.cell hb2 x1
          have x2 := Bl.cell hb2 x2
          have z0 := Bl.cell hb2 z0
          have hb := Bl.trans hb hb2
          go_wp2_with fail
          refine (HP.out _ (HO.out.bl hb)).mono ?_; rintro e w3 ⟨rfl, hb3⟩
          have y0 := Bl.frozen hb3 z0 y0
          have c0 := Bl.cell hb3 c0
          have c1 := Bl.cell hb3 c1
          have n0 := Bl.cell hb3 n0
          have x0 := Bl.cell hb3 x0
          have x1 := Bl.cell hb3 x1
          have x2 := Bl.cell hb3 x2
          have z0 := Bl.cell hb3 z0
          have hb := Bl.trans hb hb3
          go_wp2_with fail
          
          refine bodyPost_ret (v := .tuple #[.agg #[.int .i64 (n)], .int .i64 0]) (by simp [results, Try.results33, go_sem, *]) rfl ?_
          exact RB.mk rfl (by repeat (first | assumption | exact Bl.refl _ | apply Bl.drewN | apply Bl.drew | apply Bl.alloc | (refine Bl.setCell ?_ _ (by first | (simp; done) | (simp; omega)) _) | (refine Bl.dr ?_ (by assumption)) | (refine Bl.trans ?_ (by assumption))))
    · rw [if_pos f] at hP ⊢
      have f' : (rchk x != 0) = true := by simp [f]
      generalize rchk x = q at *
      have HX := Lib.hid hXX
      clear e e1 f hXX
      have HC := Lib.hid hC
      have HP := Lib.hid hP
      have HO := Lib.hid h
      obtain ⟨id, l⟩ := r
      obtain ⟨lo, hi, bd⟩ := x
      unfold Rn.v Rng.v
      simp only at *
      clear hC h hP hx
      go_enter Try.func33, Try.ntmps33
      go_wp2_with fail
      refine (HC.out _ (HO.out.bl (by repeat (first | assumption | exact Bl.refl _ | apply Bl.drewN | apply Bl.drew | apply Bl.alloc | (refine Bl.dr ?_ (by assumption)) | (refine Bl.trans ?_ (by assumption)))))).mono ?_; rintro e w1 ⟨rfl, hb1⟩
      have c0 : World.cell? w1 ⟨w.heap.size, 0, none⟩ = some (.int .i64 id) := hb1.cell (by simp [go_sem])
      have c1 : World.cell? w1 ⟨w.heap.size, 1, none⟩ = some (.slice a l.length c) := hb1.cell (by simp [go_sem])
      have n0 : World.cell? w1 ⟨w.heap.size + 1, 0, none⟩ = some (.int .i64 n) := hb1.cell (by simp [go_sem])
      have x0 : World.cell? w1 ⟨w.heap.size + 2, 0, none⟩ = some (.string lo) := hb1.cell (by simp [go_sem])
      have x1 : World.cell? w1 ⟨w.heap.size + 2, 1, none⟩ = some (.string hi) := hb1.cell (by simp [go_sem])
      have x2 : World.cell? w1 ⟨w.heap.size + 2, 2, none⟩ = some (.bool bd) := hb1.cell (by simp [go_sem])
      have z0 : World.cell? w1 ⟨w.heap.size + 3, 0, none⟩ = some (.int .i64 0) := hb1.cell (by simp [go_sem])
      have y0 : World.frozen? w1 ⟨w.heap.size + 3, 0, none⟩ = false := hb1.frozen (by simp [go_sem]; rfl) (by simp [go_sem])
      have hb : Bl w w1 := (by repeat (first | assumption | exact Bl.refl _ | apply Bl.drewN | apply Bl.drew | apply Bl.alloc | (refine Bl.dr ?_ (by assumption)) | (refine Bl.trans ?_ (by assumption))))
      clear hb1
      go_wp2_with fail
      refine (HX.out _).mono ?_; rintro e w2 ⟨rfl, hb2⟩
      have y0 := Bl.frozen hb2 z0 y0
      have c0 := Bl.cell hb2 c0
      have c1 := Bl.cell hb2 c1
      have n0 := Bl.cell hb2 n0
      have x0 := Bl.cell hb2 x0
      have x1 := Bl.cell hb2 x1
      have x2 := Bl.cell hb2 x2
      have z0 := Bl.cell hb2 z0
      have hb := Bl.trans hb hb2
      go_wp2_with fail
      
      refine bodyPost_ret (v := .tuple #[.agg #[.int .i64 0], .int .i64 q]) (by simp [results, Try.results33, go_sem, *]) rfl ?_
      exact RB.mk rfl (by repeat (first | assumption | exact Bl.refl _ | apply Bl.drewN | apply Bl.drew | apply Bl.alloc | (refine Bl.setCell ?_ _ (by first | (simp; done) | (simp; omega)) _) | (refine Bl.dr ?_ (by assumption)) | (refine Bl.trans ?_ (by assumption))))
  · rw [if_pos e]
    have e' : (wchk r n != 0) = true := by simp [e]
    have e2 : (wchk r n == 0) = false := by simp [e]
    generalize wchk r n = q at *
    clear e hXX
    have HC := Lib.hid hC
    have HP := Lib.hid hP
    have HO := Lib.hid h
    obtain ⟨id, l⟩ := r
    obtain ⟨lo, hi, bd⟩ := x
    unfold Rn.v Rng.v
    simp only at *
    clear hC h hP hx
    go_enter Try.func33, Try.ntmps33
    go_wp2_with fail
    refine (HC.out _ (HO.out.bl (by repeat (first | assumption | exact Bl.refl _ | apply Bl.drewN | apply Bl.drew | apply Bl.alloc | (refine Bl.dr ?_ (by assumption)) | (refine Bl.trans ?_ (by assumption)))))).mono ?_; rintro e w1 ⟨rfl, hb1⟩
    have c0 : World.cell? w1 ⟨w.heap.size, 0, none⟩ = some (.int .i64 id) := hb1.cell (by simp [go_sem])
    have c1 : World.cell? w1 ⟨w.heap.size, 1, none⟩ = some (.slice a l.length c) := hb1.cell (by simp [go_sem])
    have n0 : World.cell? w1 ⟨w.heap.size + 1, 0, none⟩ = some (.int .i64 n) := hb1.cell (by simp [go_sem])
    have x0 : World.cell? w1 ⟨w.heap.size + 2, 0, none⟩ = some (.string lo) := hb1.cell (by simp [go_sem])
    have x1 : World.cell? w1 ⟨w.heap.size + 2, 1, none⟩ = some (.string hi) := hb1.cell (by simp [go_sem])
    have x2 : World.cell? w1 ⟨w.heap.size + 2, 2, none⟩ = some (.bool bd) := hb1.cell (by simp [go_sem])
    have z0 : World.cell? w1 ⟨w.heap.size + 3, 0, none⟩ = some (.int .i64 0) := hb1.cell (by simp [go_sem])
    have y0 : World.frozen? w1 ⟨w.heap.size + 3, 0, none⟩ = false := hb1.frozen (by simp [go_sem]; rfl) (by simp [go_sem])
    have hb : Bl w w1 := (by repeat (first | assumption | exact Bl.refl _ | apply Bl.drewN | apply Bl.drew | apply Bl.alloc | (refine Bl.dr ?_ (by assumption)) | (refine Bl.trans ?_ (by assumption))))
    clear hb1
    go_wp2_with fail
    
    refine bodyPost_ret (v := .tuple #[.agg #[.int .i64 0], .int .i64 q]) (by simp [results, Try.results33, go_sem, *]) rfl ?_
    exact RB.mk rfl (by repeat (first | assumption | exact Bl.refl _ | apply Bl.drewN | apply Bl.drew | apply Bl.alloc | (refine Bl.setCell ?_ _ (by first | (simp; done) | (simp; omega)) _) | (refine Bl.dr ?_ (by assumption)) | (refine Bl.trans ?_ (by assumption))))

end Go.Proofs.Ytinbdppekhcekaa
/-
  walk.Take, whole.
-/
namespace Go.Proofs.Ytinbdppekhcekaa
open Go.RowKit Go.Shelf
set_option linter.unusedSimpArgs false
set_option linter.unusedVariables false
set_option maxRecDepth 100000

def wtake (r : Rn) (n m : Int) : List Ent × Int × Int :=
  if wchk r n ≠ 0 then ([], 0, wchk r n) else if m < -5000 ∨ 5000 < m then ([], 0, 7)
  else ((tk r.es n.toNat (decide (m < 0)) m.natAbs).map (·.1), tcur n.toNat (tk r.es n.toNat (decide (m < 0)) m.natAbs), 0)
def TkOut (x : List Ent × Int × Int) (w : World) (v : Value) : Prop := ∃ a c, v = .tuple #[.slice a x.1.length c, cur x.2.1, .int .i64 x.2.2] ∧ Ents w a x.1 ∧ x.1.length ≤ c ∧ c ≤ maxLen
theorem ents_nil (w : World) : Ents w none [] := ⟨by simp, fun h => absurd rfl h⟩

set_option maxHeartbeats 4000000 in
theorem walkTake (a : Option Addr) (c : Nat) (r : Rn) (n m : Int) (w : World) (h : ROk w a c r) : Calls Try.prog 14 #[r.v a c, cur n, .int .i64 m] w (RM w (TkOut (wtake r n m))) := by
  have hC := fun w h => walkCheck a c r n w h
  unfold wtake
  by_cases e : wchk r n = 0
  · rw [if_neg (by simp [e])]
    by_cases f : m < -5000 ∨ 5000 < m
    · rw [if_pos f]
      rw [e] at hC
      clear e
      have HC := Lib.hid hC
      have HO := Lib.hid h
      obtain ⟨id, l⟩ := r
      unfold Rn.v
      simp only at *
      clear hC h
      by_cases f1 : m < -5000
      · clear f
        go_enter Try.func14, Try.ntmps14
        go_wp2_with fail
        refine (HC.out _ (HO.out.bl (by repeat (first | assumption | exact Bl.refl _ | apply Bl.drewN | apply Bl.drew | apply Bl.alloc | (refine Bl.dr ?_ (by assumption)) | (refine Bl.trans ?_ (by assumption)))))).mono ?_; rintro e w1 ⟨rfl, hb1⟩
        have n0 : w1.cell? ⟨w.heap.size + 2, 0, none⟩ = some (.int .i64 m) := hb1.cell (by simp [go_sem])
        have z0 : w1.cell? ⟨w.heap.size + 3, 0, none⟩ = some (.int .i64 0) := hb1.cell (by simp [go_sem])
        have y0 : w1.frozen? ⟨w.heap.size + 3, 0, none⟩ = false := hb1.frozen (by simp [go_sem]; rfl) (by simp [go_sem])
        have hb : Bl w w1 := (by repeat (first | assumption | exact Bl.refl _ | apply Bl.drewN | apply Bl.drew | apply Bl.alloc | (refine Bl.dr ?_ (by assumption)) | (refine Bl.trans ?_ (by assumption))))
        clear hb1
        go_wp2_with fail
        
        refine bodyPost_ret (v := .tuple #[.slice none 0 0, .agg #[.int .i64 0], .int .i64 7]) (by simp [results, Try.results14, go_sem, *]) rfl ?_
        exact RM.mk ⟨none, 0, rfl, ents_nil _, Nat.le_refl _, by unfold maxLen; omega⟩ (by repeat (first | assumption | exact Bl.refl _ | apply Bl.drewN | apply Bl.drew | apply Bl.alloc | (refine Bl.setCell ?_ _ (by first | (simp; done) | (simp; omega)) _) | (refine Bl.dr ?_ (by assumption)) | (refine Bl.trans ?_ (by assumption))))
      · have f2 : 5000 < m := by omega
        clear f
        go_enter Try.func14, Try.ntmps14
        go_wp2_with fail
        refine (HC.out _ (HO.out.bl (by repeat (first | assumption | exact Bl.refl _ | apply Bl.drewN | apply Bl.drew | apply Bl.alloc | (refine Bl.dr ?_ (by assumption)) | (refine Bl.trans ?_ (by assumption)))))).mono ?_; rintro e w1 ⟨rfl, hb1⟩
        have n0 : w1.cell? ⟨w.heap.size + 2, 0, none⟩ = some (.int .i64 m) := hb1.cell (by simp [go_sem])
        have z0 : w1.cell? ⟨w.heap.size + 3, 0, none⟩ = some (.int .i64 0) := hb1.cell (by simp [go_sem])
        have y0 : w1.frozen? ⟨w.heap.size + 3, 0, none⟩ = false := hb1.frozen (by simp [go_sem]; rfl) (by simp [go_sem])
        have hb : Bl w w1 := (by repeat (first | assumption | exact Bl.refl _ | apply Bl.drewN | apply Bl.drew | apply Bl.alloc | (refine Bl.dr ?_ (by assumption)) | (refine Bl.trans ?_ (by assumption))))
        clear hb1
        go_wp2_with fail
        
        refine bodyPost_ret (v := .tuple #[.slice none 0 0, .agg #[.int .i64 0], .int .i64 7]) (by simp [results, Try.results14, go_sem, *]) rfl ?_
        exact RM.mk ⟨none, 0, rfl, ents_nil _, Nat.le_refl _, by unfold maxLen; omega⟩ (by repeat (first | assumption | exact Bl.refl _ | apply Bl.drewN | apply Bl.drew | apply Bl.alloc | (refine Bl.setCell ?_ _ (by first | (simp; done) | (simp; omega)) _) | (refine Bl.dr ?_ (by assumption)) | (refine Bl.trans ?_ (by assumption))))
    · rw [if_neg f]
      obtain ⟨e1, e2, e3⟩ := wchk_ok e
      obtain ⟨p, rfl⟩ := Int.eq_ofNat_of_zero_le e2
      have o4 := (rck_ok e1).2.2.2.1
      by_cases g : m < 0
      · obtain ⟨k, hk⟩ : ∃ k : Nat, m = -(k : Int) := ⟨m.natAbs, by omega⟩
        subst hk
        have hd : decide (-(k : Int) < 0) = true := by simp; omega
        have ha : (-(k : Int)).natAbs = k := by omega
        rw [hd, ha, Int.toNat_natCast]
        refine (callsIn_wide.1 (walkTake1 a c r p k w h e o4 (by omega) (by omega) (by omega))).mono ?_
        rintro e' w' ⟨v, rfl, ⟨a', c', rfl, hE, h1, h2⟩, hb⟩
        exact ⟨_, rfl, ⟨a', c', by simp, hE, by simpa using h1, h2⟩, hb⟩
      · obtain ⟨k, rfl⟩ := Int.eq_ofNat_of_zero_le (show 0 ≤ m by omega)
        have hd : decide ((k : Int) < 0) = false := by simp
        have ha : ((k : Int)).natAbs = k := by omega
        rw [hd, ha, Int.toNat_natCast]
        refine (callsIn_wide.1 (walkTake0 a c r p k w h e o4 (by omega) (by omega))).mono ?_
        rintro e' w' ⟨v, rfl, ⟨a', c', rfl, hE, h1, h2⟩, hb⟩
        exact ⟨_, rfl, ⟨a', c', by simp, hE, by simpa using h1, h2⟩, hb⟩
  · rw [if_pos e]
    have e' : (wchk r n != 0) = true := by simp [e]
    have e2 : (wchk r n == 0) = false := by simp [e]
    generalize wchk r n = q at *
    clear e
    have HC := Lib.hid hC
    have HO := Lib.hid h
    obtain ⟨id, l⟩ := r
    unfold Rn.v
    simp only at *
    clear hC h
    go_enter Try.func14, Try.ntmps14
    go_wp2_with fail
    refine (HC.out _ (HO.out.bl (by repeat (first | assumption | exact Bl.refl _ | apply Bl.drewN | apply Bl.drew | apply Bl.alloc | (refine Bl.dr ?_ (by assumption)) | (refine Bl.trans ?_ (by assumption)))))).mono ?_; rintro e w1 ⟨rfl, hb1⟩
    have n0 : w1.cell? ⟨w.heap.size + 2, 0, none⟩ = some (.int .i64 m) := hb1.cell (by simp [go_sem])
    have z0 : w1.cell? ⟨w.heap.size + 3, 0, none⟩ = some (.int .i64 0) := hb1.cell (by simp [go_sem])
    have y0 : w1.frozen? ⟨w.heap.size + 3, 0, none⟩ = false := hb1.frozen (by simp [go_sem]; rfl) (by simp [go_sem])
    have hb : Bl w w1 := (by repeat (first | assumption | exact Bl.refl _ | apply Bl.drewN | apply Bl.drew | apply Bl.alloc | (refine Bl.dr ?_ (by assumption)) | (refine Bl.trans ?_ (by assumption))))
    clear hb1
    go_wp2_with fail
    
    refine bodyPost_ret (v := .tuple #[.slice none 0 0, .agg #[.int .i64 0], .int .i64 q]) (by simp [results, Try.results14, go_sem, *]) rfl ?_
    exact RM.mk ⟨none, 0, rfl, ents_nil _, Nat.le_refl _, by unfold maxLen; omega⟩ (by repeat (first | assumption | exact Bl.refl _ | apply Bl.drewN | apply Bl.drew | apply Bl.alloc | (refine Bl.setCell ?_ _ (by first | (simp; done) | (simp; omega)) _) | (refine Bl.dr ?_ (by assumption)) | (refine Bl.trans ?_ (by assumption))))
end Go.Proofs.Ytinbdppekhcekaa
