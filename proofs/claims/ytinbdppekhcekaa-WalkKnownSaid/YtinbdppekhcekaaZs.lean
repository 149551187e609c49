/-
  Own texts laid together: WkL.
-/
import Derived.Test.YtinbdppekhcekaaZl
import Derived.Test.YtinbdppekhcekaaZq
import Derived.Test.YtinbdppekhcekaaZr
/-
  walk.Next, Prev, Skip, out of step.
-/
namespace Go.Proofs.Ytinbdppekhcekaa
open Go.RowKit Go.Shelf
set_option linter.unusedSimpArgs false
set_option linter.unusedVariables false
set_option maxRecDepth 100000

/-- A step from whatever cursor. -/
def wstep (r : Rn) (n : Int) (back : Bool) (t : Ent → Bool) : Ent × Int × Int := if wchk r n ≠ 0 then (ent0, 0, wchk r n) else wres r.es n.toNat back t
theorem upto_cons {α : Type} (f : Nat → α) (k : Nat) : upto f (k + 1) = f 0 :: upto (fun i => f (i + 1)) k := by
  unfold upto; rw [List.range_succ_eq_map]; simp [List.map_map, Function.comp_def]
theorem wstep_next (r : Rn) (n : Int) : wstep r n false (fun _ => true) = wnext r n := by
  unfold wstep wnext
  by_cases e : wchk r n = 0
  · rw [if_neg (by simp [e]), if_neg (by simp [e])]
    obtain ⟨-, e2, e3⟩ := wchk_ok e
    obtain ⟨p, rfl⟩ := Int.eq_ofNat_of_zero_le e2
    unfold wres wfind
    by_cases f : p = r.es.length
    · subst f
      simp [wN, upto]
    · have h1 : wN r.es p false = (r.es.length - p - 1) + 1 := by simp [wN]; omega
      simp only [Int.toNat_natCast]
      rw [h1, upto_cons, if_neg (by omega)]
      simp [wf]
  · rw [if_pos e, if_pos e]
theorem wstep_prev (r : Rn) (n : Int) : wstep r n true (fun _ => true) = wprev r n := by
  unfold wstep wprev
  by_cases e : wchk r n = 0
  · rw [if_neg (by simp [e]), if_neg (by simp [e])]
    obtain ⟨-, e2, e3⟩ := wchk_ok e
    obtain ⟨p, rfl⟩ := Int.eq_ofNat_of_zero_le e2
    unfold wres wfind
    by_cases f : p = 0
    · subst f
      simp [wN, upto]
    · have h1 : wN r.es p true = (p - 1) + 1 := by simp [wN]; omega
      simp only [Int.toNat_natCast]
      rw [h1, upto_cons, if_neg (by omega)]
      simp [wf]
      omega
  · rw [if_pos e, if_pos e]

theorem stepAll0 (a : Option Addr) (c : Nat) (r : Rn) (n : Int) (w : World) (h : ROk w a c r) :
    Calls Try.prog 41 #[r.v a c, cur n, .int .i64 0, .func (.func 43) #[] #[]] w (RB w (wv (wnext r n))) := by
  rw [← wstep_next]
  by_cases e : wchk r n = 0
  · have hw : ∀ t, wstep r n false t = wres r.es n.toNat false t := fun t => by unfold wstep; rw [if_neg (by simp [e])]
    rw [hw]
    obtain ⟨e1, e2, e3⟩ := wchk_ok e
    obtain ⟨p, rfl⟩ := Int.eq_ofNat_of_zero_le e2
    exact callsIn_wide.1 (walkStepAll0 a c r p w h e (rck_ok e1).2.2.2.1 (by omega))
  · have hw : ∀ t, wstep r n false t = (ent0, 0, wchk r n) := fun t => by unfold wstep; rw [if_pos e]
    rw [hw]
    exact callsIn_wide.1 (walkStepBad a c r n 0 _ _ _ w h e)
theorem stepAll1 (a : Option Addr) (c : Nat) (r : Rn) (n : Int) (w : World) (h : ROk w a c r) :
    Calls Try.prog 41 #[r.v a c, cur n, .int .i64 1, .func (.func 43) #[] #[]] w (RB w (wv (wprev r n))) := by
  rw [← wstep_prev]
  by_cases e : wchk r n = 0
  · have hw : ∀ t, wstep r n true t = wres r.es n.toNat true t := fun t => by unfold wstep; rw [if_neg (by simp [e])]
    rw [hw]
    obtain ⟨e1, e2, e3⟩ := wchk_ok e
    obtain ⟨p, rfl⟩ := Int.eq_ofNat_of_zero_le e2
    exact callsIn_wide.1 (walkStepAll1 a c r p w h e (rck_ok e1).2.2.2.1 (by omega))
  · have hw : ∀ t, wstep r n true t = (ent0, 0, wchk r n) := fun t => by unfold wstep; rw [if_pos e]
    rw [hw]
    exact callsIn_wide.1 (walkStepBad a c r n 1 _ _ _ w h e)
theorem stepKind0 (a : Option Addr) (c : Nat) (r : Rn) (n : Int) (d : Bool) (Bk : Nat) (w : World) (hk : w.cell? ⟨Bk, 0, none⟩ = some (.bool d)) (h : ROk w a c r) :
    Calls Try.prog 41 #[r.v a c, cur n, .int .i64 0, .func (.func 42) #[] #[.pointer (some ⟨Bk, 0, none⟩)]] w (RB w (wv (wstep r n false (fun x => x.dead == d)))) := by
  by_cases e : wchk r n = 0
  · have hw : ∀ t, wstep r n false t = wres r.es n.toNat false t := fun t => by unfold wstep; rw [if_neg (by simp [e])]
    rw [hw]
    obtain ⟨e1, e2, e3⟩ := wchk_ok e
    obtain ⟨p, rfl⟩ := Int.eq_ofNat_of_zero_le e2
    exact callsIn_wide.1 (walkStepKind0 a c r p d Bk w hk h e (rck_ok e1).2.2.2.1 (by omega))
  · have hw : ∀ t, wstep r n false t = (ent0, 0, wchk r n) := fun t => by unfold wstep; rw [if_pos e]
    rw [hw]
    exact callsIn_wide.1 (walkStepBad a c r n 0 _ _ _ w h e)
theorem stepKind1 (a : Option Addr) (c : Nat) (r : Rn) (n : Int) (d : Bool) (Bk : Nat) (w : World) (hk : w.cell? ⟨Bk, 0, none⟩ = some (.bool d)) (h : ROk w a c r) :
    Calls Try.prog 41 #[r.v a c, cur n, .int .i64 1, .func (.func 42) #[] #[.pointer (some ⟨Bk, 0, none⟩)]] w (RB w (wv (wstep r n true (fun x => x.dead == d)))) := by
  by_cases e : wchk r n = 0
  · have hw : ∀ t, wstep r n true t = wres r.es n.toNat true t := fun t => by unfold wstep; rw [if_neg (by simp [e])]
    rw [hw]
    obtain ⟨e1, e2, e3⟩ := wchk_ok e
    obtain ⟨p, rfl⟩ := Int.eq_ofNat_of_zero_le e2
    exact callsIn_wide.1 (walkStepKind1 a c r p d Bk w hk h e (rck_ok e1).2.2.2.1 (by omega))
  · have hw : ∀ t, wstep r n true t = (ent0, 0, wchk r n) := fun t => by unfold wstep; rw [if_pos e]
    rw [hw]
    exact callsIn_wide.1 (walkStepBad a c r n 1 _ _ _ w h e)

set_option maxHeartbeats 2000000 in
theorem walkNext (a : Option Addr) (c : Nat) (r : Rn) (n : Int) (w : World) (h : ROk w a c r) : Calls Try.prog 27 #[r.v a c, cur n] w (RB w (wv (wnext r n))) := by
  have hC := fun w h => stepAll0 a c r n w h
  generalize wnext r n = q at hC ⊢
  obtain ⟨x, m, g⟩ := q
  unfold wv at hC ⊢
  have HC := Lib.hid hC
  have HO := Lib.hid h
  obtain ⟨id, l⟩ := r
  unfold Rn.v
  simp only at *
  clear hC h
  unfold Ent.v at HC ⊢
  go_enter Try.func27, Try.ntmps27
  go_wp2_with fail
  refine (HC.out _ (HO.out.bl (by repeat (first | assumption | exact Bl.refl _ | apply Bl.drewN | apply Bl.drew | apply Bl.alloc | (refine Bl.dr ?_ (by assumption)) | (refine Bl.trans ?_ (by assumption)))))).mono ?_; rintro e w1 ⟨rfl, hb1⟩
  have z0 : w1.cell? ⟨w.heap.size + 2, 0, none⟩ = some (.string ⟨#[]⟩) := hb1.cell (by simp [go_sem])
  have z1 : w1.cell? ⟨w.heap.size + 2, 1, none⟩ = some (.string ⟨#[]⟩) := hb1.cell (by simp [go_sem])
  have z2 : w1.cell? ⟨w.heap.size + 2, 2, none⟩ = some (.bool false) := hb1.cell (by simp [go_sem])
  have z3 : w1.cell? ⟨w.heap.size + 2, 3, none⟩ = some (.int .i64 0) := hb1.cell (by simp [go_sem])
  have z4 : w1.cell? ⟨w.heap.size + 3, 0, none⟩ = some (.int .i64 0) := hb1.cell (by simp [go_sem])
  have y0 : w1.frozen? ⟨w.heap.size + 2, 0, none⟩ = false := hb1.frozen (by simp [go_sem]; rfl) (by simp [go_sem])
  have y1 : w1.frozen? ⟨w.heap.size + 2, 1, none⟩ = false := hb1.frozen (by simp [go_sem]; rfl) (by simp [go_sem])
  have y2 : w1.frozen? ⟨w.heap.size + 2, 2, none⟩ = false := hb1.frozen (by simp [go_sem]; rfl) (by simp [go_sem])
  have y3 : w1.frozen? ⟨w.heap.size + 2, 3, none⟩ = false := hb1.frozen (by simp [go_sem]; rfl) (by simp [go_sem])
  have y4 : w1.frozen? ⟨w.heap.size + 3, 0, none⟩ = false := hb1.frozen (by simp [go_sem]; rfl) (by simp [go_sem])
  have hb : Bl w w1 := (by repeat (first | assumption | exact Bl.refl _ | apply Bl.drewN | apply Bl.drew | apply Bl.alloc | (refine Bl.dr ?_ (by assumption)) | (refine Bl.trans ?_ (by assumption))))
  clear hb1
  go_wp2_with fail
  
  refine bodyPost_ret (v := .tuple #[.agg #[.string x.key, .string x.val, .bool x.dead, .int .i64 x.seq], .agg #[.int .i64 m], .int .i64 g]) (by simp [results, Try.results27, go_sem, *]) rfl ?_
  exact RB.mk rfl (by repeat (first | assumption | exact Bl.refl _ | apply Bl.drewN | apply Bl.drew | apply Bl.alloc | (refine Bl.setCell ?_ _ (by first | (simp; done) | (simp; omega)) _) | (refine Bl.dr ?_ (by assumption)) | (refine Bl.trans ?_ (by assumption))))
set_option maxHeartbeats 2000000 in
theorem walkPrev (a : Option Addr) (c : Nat) (r : Rn) (n : Int) (w : World) (h : ROk w a c r) : Calls Try.prog 29 #[r.v a c, cur n] w (RB w (wv (wprev r n))) := by
  have hC := fun w h => stepAll1 a c r n w h
  generalize wprev r n = q at hC ⊢
  obtain ⟨x, m, g⟩ := q
  unfold wv at hC ⊢
  have HC := Lib.hid hC
  have HO := Lib.hid h
  obtain ⟨id, l⟩ := r
  unfold Rn.v
  simp only at *
  clear hC h
  unfold Ent.v at HC ⊢
  go_enter Try.func29, Try.ntmps29
  go_wp2_with fail
  refine (HC.out _ (HO.out.bl (by repeat (first | assumption | exact Bl.refl _ | apply Bl.drewN | apply Bl.drew | apply Bl.alloc | (refine Bl.dr ?_ (by assumption)) | (refine Bl.trans ?_ (by assumption)))))).mono ?_; rintro e w1 ⟨rfl, hb1⟩
  have z0 : w1.cell? ⟨w.heap.size + 2, 0, none⟩ = some (.string ⟨#[]⟩) := hb1.cell (by simp [go_sem])
  have z1 : w1.cell? ⟨w.heap.size + 2, 1, none⟩ = some (.string ⟨#[]⟩) := hb1.cell (by simp [go_sem])
  have z2 : w1.cell? ⟨w.heap.size + 2, 2, none⟩ = some (.bool false) := hb1.cell (by simp [go_sem])
  have z3 : w1.cell? ⟨w.heap.size + 2, 3, none⟩ = some (.int .i64 0) := hb1.cell (by simp [go_sem])
  have z4 : w1.cell? ⟨w.heap.size + 3, 0, none⟩ = some (.int .i64 0) := hb1.cell (by simp [go_sem])
  have y0 : w1.frozen? ⟨w.heap.size + 2, 0, none⟩ = false := hb1.frozen (by simp [go_sem]; rfl) (by simp [go_sem])
  have y1 : w1.frozen? ⟨w.heap.size + 2, 1, none⟩ = false := hb1.frozen (by simp [go_sem]; rfl) (by simp [go_sem])
  have y2 : w1.frozen? ⟨w.heap.size + 2, 2, none⟩ = false := hb1.frozen (by simp [go_sem]; rfl) (by simp [go_sem])
  have y3 : w1.frozen? ⟨w.heap.size + 2, 3, none⟩ = false := hb1.frozen (by simp [go_sem]; rfl) (by simp [go_sem])
  have y4 : w1.frozen? ⟨w.heap.size + 3, 0, none⟩ = false := hb1.frozen (by simp [go_sem]; rfl) (by simp [go_sem])
  have hb : Bl w w1 := (by repeat (first | assumption | exact Bl.refl _ | apply Bl.drewN | apply Bl.drew | apply Bl.alloc | (refine Bl.dr ?_ (by assumption)) | (refine Bl.trans ?_ (by assumption))))
  clear hb1
  go_wp2_with fail
  
  refine bodyPost_ret (v := .tuple #[.agg #[.string x.key, .string x.val, .bool x.dead, .int .i64 x.seq], .agg #[.int .i64 m], .int .i64 g]) (by simp [results, Try.results29, go_sem, *]) rfl ?_
  exact RB.mk rfl (by repeat (first | assumption | exact Bl.refl _ | apply Bl.drewN | apply Bl.drew | apply Bl.alloc | (refine Bl.setCell ?_ _ (by first | (simp; done) | (simp; omega)) _) | (refine Bl.dr ?_ (by assumption)) | (refine Bl.trans ?_ (by assumption))))
set_option maxHeartbeats 4000000 in
theorem walkSkip (a : Option Addr) (c : Nat) (r : Rn) (n : Int) (d bk : Bool) (w : World) (h : ROk w a c r) : Calls Try.prog 18 #[r.v a c, cur n, .bool d, .bool bk] w (RB w (wv (wstep r n bk (fun x => x.dead == d)))) := by
  cases bk
  · have hC := fun W hk h => stepKind0 a c r n d (w.heap.size + 2) W hk h
    generalize wstep r n false (fun x => x.dead == d) = q at hC ⊢
    obtain ⟨x, m, g⟩ := q
    unfold wv at hC ⊢
    have HC := Lib.hid hC
    have HO := Lib.hid h
    obtain ⟨id, l⟩ := r
    unfold Rn.v
    simp only at *
    clear hC h
    unfold Ent.v at HC ⊢
    go_enter Try.func18, Try.ntmps18
    go_wp2_with fail
    refine (HC.out _ (by simp [go_sem]) (HO.out.bl (by repeat (first | assumption | exact Bl.refl _ | apply Bl.drewN | apply Bl.drew | apply Bl.alloc | (refine Bl.dr ?_ (by assumption)) | (refine Bl.trans ?_ (by assumption)))))).mono ?_; rintro e w1 ⟨rfl, hb1⟩
    have z0 : w1.cell? ⟨w.heap.size + 3, 0, none⟩ = some (.string ⟨#[]⟩) := hb1.cell (by simp [go_sem])
    have z1 : w1.cell? ⟨w.heap.size + 3, 1, none⟩ = some (.string ⟨#[]⟩) := hb1.cell (by simp [go_sem])
    have z2 : w1.cell? ⟨w.heap.size + 3, 2, none⟩ = some (.bool false) := hb1.cell (by simp [go_sem])
    have z3 : w1.cell? ⟨w.heap.size + 3, 3, none⟩ = some (.int .i64 0) := hb1.cell (by simp [go_sem])
    have z4 : w1.cell? ⟨w.heap.size + 4, 0, none⟩ = some (.int .i64 0) := hb1.cell (by simp [go_sem])
    have y0 : w1.frozen? ⟨w.heap.size + 3, 0, none⟩ = false := hb1.frozen (by simp [go_sem]; rfl) (by simp [go_sem])
    have y1 : w1.frozen? ⟨w.heap.size + 3, 1, none⟩ = false := hb1.frozen (by simp [go_sem]; rfl) (by simp [go_sem])
    have y2 : w1.frozen? ⟨w.heap.size + 3, 2, none⟩ = false := hb1.frozen (by simp [go_sem]; rfl) (by simp [go_sem])
    have y3 : w1.frozen? ⟨w.heap.size + 3, 3, none⟩ = false := hb1.frozen (by simp [go_sem]; rfl) (by simp [go_sem])
    have y4 : w1.frozen? ⟨w.heap.size + 4, 0, none⟩ = false := hb1.frozen (by simp [go_sem]; rfl) (by simp [go_sem])
    have hb : Bl w w1 := (by repeat (first | assumption | exact Bl.refl _ | apply Bl.drewN | apply Bl.drew | apply Bl.alloc | (refine Bl.dr ?_ (by assumption)) | (refine Bl.trans ?_ (by assumption))))
    clear hb1
    go_wp2_with fail
    
    refine bodyPost_ret (v := .tuple #[.agg #[.string x.key, .string x.val, .bool x.dead, .int .i64 x.seq], .agg #[.int .i64 m], .int .i64 g]) (by simp [results, Try.results18, go_sem, *]) rfl ?_
    exact RB.mk rfl (by repeat (first | assumption | exact Bl.refl _ | apply Bl.drewN | apply Bl.drew | apply Bl.alloc | (refine Bl.setCell ?_ _ (by first | (simp; done) | (simp; omega)) _) | (refine Bl.dr ?_ (by assumption)) | (refine Bl.trans ?_ (by assumption))))
  · have hC := fun W hk h => stepKind1 a c r n d (w.heap.size + 2) W hk h
    generalize wstep r n true (fun x => x.dead == d) = q at hC ⊢
    obtain ⟨x, m, g⟩ := q
    unfold wv at hC ⊢
    have HC := Lib.hid hC
    have HO := Lib.hid h
    obtain ⟨id, l⟩ := r
    unfold Rn.v
    simp only at *
    clear hC h
    unfold Ent.v at HC ⊢
    go_enter Try.func18, Try.ntmps18
    go_wp2_with fail
    refine (HC.out _ (by simp [go_sem]) (HO.out.bl (by repeat (first | assumption | exact Bl.refl _ | apply Bl.drewN | apply Bl.drew | apply Bl.alloc | (refine Bl.dr ?_ (by assumption)) | (refine Bl.trans ?_ (by assumption)))))).mono ?_; rintro e w1 ⟨rfl, hb1⟩
    have z0 : w1.cell? ⟨w.heap.size + 3, 0, none⟩ = some (.string ⟨#[]⟩) := hb1.cell (by simp [go_sem])
    have z1 : w1.cell? ⟨w.heap.size + 3, 1, none⟩ = some (.string ⟨#[]⟩) := hb1.cell (by simp [go_sem])
    have z2 : w1.cell? ⟨w.heap.size + 3, 2, none⟩ = some (.bool false) := hb1.cell (by simp [go_sem])
    have z3 : w1.cell? ⟨w.heap.size + 3, 3, none⟩ = some (.int .i64 0) := hb1.cell (by simp [go_sem])
    have z4 : w1.cell? ⟨w.heap.size + 4, 0, none⟩ = some (.int .i64 0) := hb1.cell (by simp [go_sem])
    have y0 : w1.frozen? ⟨w.heap.size + 3, 0, none⟩ = false := hb1.frozen (by simp [go_sem]; rfl) (by simp [go_sem])
    have y1 : w1.frozen? ⟨w.heap.size + 3, 1, none⟩ = false := hb1.frozen (by simp [go_sem]; rfl) (by simp [go_sem])
    have y2 : w1.frozen? ⟨w.heap.size + 3, 2, none⟩ = false := hb1.frozen (by simp [go_sem]; rfl) (by simp [go_sem])
    have y3 : w1.frozen? ⟨w.heap.size + 3, 3, none⟩ = false := hb1.frozen (by simp [go_sem]; rfl) (by simp [go_sem])
    have y4 : w1.frozen? ⟨w.heap.size + 4, 0, none⟩ = false := hb1.frozen (by simp [go_sem]; rfl) (by simp [go_sem])
    have hb : Bl w w1 := (by repeat (first | assumption | exact Bl.refl _ | apply Bl.drewN | apply Bl.drew | apply Bl.alloc | (refine Bl.dr ?_ (by assumption)) | (refine Bl.trans ?_ (by assumption))))
    clear hb1
    go_wp2_with fail
    
    refine bodyPost_ret (v := .tuple #[.agg #[.string x.key, .string x.val, .bool x.dead, .int .i64 x.seq], .agg #[.int .i64 m], .int .i64 g]) (by simp [results, Try.results18, go_sem, *]) rfl ?_
    exact RB.mk rfl (by repeat (first | assumption | exact Bl.refl _ | apply Bl.drewN | apply Bl.drew | apply Bl.alloc | (refine Bl.setCell ?_ _ (by first | (simp; done) | (simp; omega)) _) | (refine Bl.dr ?_ (by assumption)) | (refine Bl.trans ?_ (by assumption))))
end Go.Proofs.Ytinbdppekhcekaa
