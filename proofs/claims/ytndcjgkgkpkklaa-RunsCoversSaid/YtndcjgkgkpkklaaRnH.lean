
/-
  Contracts of Overlap of runs, of both.
-/
import Derived.Test.YtndcjgkgkpkklaaRnG
namespace Go.Proofs.Ytndcjgkgkpkklaa
open Go.RowKit
set_option linter.unusedSimpArgs false
set_option linter.unusedVariables false
set_option maxRecDepth 100000

theorem leq_eq (x y : ByteArray) : (Op.bytesLess x.toList y.toList || x.toList == y.toList) = !slt y x := by
  cases h : slt y x
  · cases h2 : slt x y
    · have := slt_tri h2 h; subst this; simp
    · have : Op.bytesLess x.toList y.toList = true := h2
      rw [this]; rfl
  · have h2 : Op.bytesLess x.toList y.toList = false := slt_asymm h
    rw [h2]
    have : (x.toList == y.toList) = false := by
      rw [beq_eq_false_iff_ne]; intro hh; have := str_ext hh; subst this; rw [slt_irrefl] at h; cases h
    rw [this]; rfl

/-- The world of the loop. -/
structure RO (w wr : World) (id1 id2 : Int) (a1 : Option Addr) (n1 c1 : Nat) (a2 : Option Addr) (n2 c2 : Nat) : Prop where
  e1 : wr.cell? ⟨w.heap.size, 1, none⟩ = some (.slice a1 n1 c1)
  e2 : wr.cell? ⟨w.heap.size + 1, 1, none⟩ = some (.slice a2 n2 c2)
  k0 : wr.cell? ⟨w.heap.size + 2, 0, none⟩ = some (.int .i64 id1)
  k1 : wr.cell? ⟨w.heap.size + 2, 1, none⟩ = some (.slice a1 n1 c1)
  k2 : wr.cell? ⟨w.heap.size + 2, 2, none⟩ = some (.int .i64 id2)
  k3 : wr.cell? ⟨w.heap.size + 2, 3, none⟩ = some (.slice a2 n2 c2)
  hb : Bl w wr
theorem RO.bl {w wr wq : World} {id1 id2 : Int} {a1 : Option Addr} {n1 c1 : Nat} {a2 : Option Addr} {n2 c2 : Nat} (h : RO w wr id1 id2 a1 n1 c1 a2 n2 c2) (k : Bl wr wq) : RO w wq id1 id2 a1 n1 c1 a2 n2 c2 :=
  ⟨k.cell h.e1, k.cell h.e2, k.cell h.k0, k.cell h.k1, k.cell h.k2, k.cell h.k3, h.hb.trans k⟩

set_option maxHeartbeats 8000000 in
theorem runOverlap (a : Option Addr) (c : Nat) (r : Rn) (a2 : Option Addr) (c2 : Nat) (s : Rn) (w : World) (h : ROk w a c r) (k : ROk w a2 c2 s) :
    Calls Try.prog 29 #[r.v a c, s.v a2 c2] w (RB w (.tuple #[.bool (rover r s).1, .int .i64 (rover r s).2])) := by
  have hC := fun w h => runCheck a c r w h
  have hD := fun w h => runCheck a2 c2 s w h
  have hv := @rover_val r s
  have hov : rover r s = if (rck r).2 ≠ 0 then (false, (rck r).2) else if (rck s).2 ≠ 0 then (false, (rck s).2) else if r.es.length = 0 ∨ s.es.length = 0 then (false, 0)
    else (!slt (lastE s.es).key (headE r.es).key && !slt (lastE r.es).key (headE s.es).key, 0) := rfl
  have hr0 := @rck_ok r
  have hs0 := @rck_ok s
  obtain ⟨res, hres⟩ : ∃ res, rover r s = res := ⟨_, rfl⟩
  rw [hres]
  rw [hres] at hov hv
  generalize (rck r).1 = p1 at *
  generalize (rck r).2 = q1 at *
  generalize (rck s).1 = p2 at *
  generalize (rck s).2 = q2 at *
  have HC := Lib.hid hC
  have HD := Lib.hid hD
  have HO := Lib.hid h
  have KO := Lib.hid k
  have HV := Lib.hid hov
  have HR := Lib.hid hr0
  have HS := Lib.hid hs0
  have hlr := Lib.hid h.len
  have hls := Lib.hid k.len
  obtain ⟨id, l⟩ := r
  obtain ⟨id2, m⟩ := s
  unfold Rn.v
  simp only at *
  clear hC hD h k hov hr0 hs0 hv hres
  go_enter Try.func29, Try.ntmps29
  go_wp2_with fail
  go_loopg [7, 8, 9, 16] 2 (fun g p x y i wr => ∃ n : Nat, n ≤ 2 ∧ i = .int .i64 n ∧ (1 ≤ n → q1 = 0) ∧ (2 ≤ n → q2 = 0) ∧ RO w wr id id2 a l.length c a2 m.length c2 ∧ g = 2 - n)
  case atStart =>
    refine ⟨0, by omega, rfl, by omega, by omega, ⟨?_, ?_, ?_, ?_, ?_, ?_, (by repeat (first | assumption | exact Bl.refl _ | apply Bl.drewN | apply Bl.drew | apply Bl.alloc | (refine Bl.dr ?_ (by assumption)) | (refine Bl.trans ?_ (by assumption))))⟩, rfl⟩ <;> simp [go_sem]
  case round =>
    obtain ⟨n, hn, rfl, hq1, hq2, hro, hg⟩ := hrel
    have HRO := Lib.hid hro
    have G := Lib.hid hg
    obtain ⟨e1, e2, k0, k1, k2, k3, hb⟩ := hro
    clear hg
    have hn' : n = 0 ∨ n = 1 ∨ n = 2 := by omega
    have HQ1 := Lib.hid hq1
    have HQ2 := Lib.hid hq2
    clear hq1 hq2
    rcases hn' with rfl | rfl | rfl
    · by_cases z : q1 = 0
      · subst z
        go_wp2_with fail
        refine (HC.out _ (HO.out.bl (by repeat (first | assumption | exact Bl.refl _ | apply Bl.drewN | apply Bl.drew | apply Bl.alloc | (refine Bl.dr ?_ (by assumption)) | (refine Bl.trans ?_ (by assumption)))))).mono ?_; rintro e w1 ⟨rfl, hb1⟩
        have hbb : Bl wr w1 := (by repeat (first | assumption | exact Bl.refl _ | apply Bl.drewN | apply Bl.drew | apply Bl.alloc | (refine Bl.dr ?_ (by assumption)) | (refine Bl.trans ?_ (by assumption))))
        clear hb1
        go_wp2_with fail
        go_roundg 1
        case rel => exact ⟨1, by omega, rfl, fun _ => by first | rfl | trivial, by omega, HRO.out.bl hbb, rfl⟩
        case measure => rw [G.out]; omega
      · have z1 : (q1 != 0) = true := by simp [z]
        have hr := HV.out
        rw [if_pos z] at hr
        subst hr
        clear z
        go_wp2_with fail
        refine (HC.out _ (HO.out.bl (by repeat (first | assumption | exact Bl.refl _ | apply Bl.drewN | apply Bl.drew | apply Bl.alloc | (refine Bl.dr ?_ (by assumption)) | (refine Bl.trans ?_ (by assumption)))))).mono ?_; rintro e w1 ⟨rfl, hb1⟩
        go_wp2_with fail
        go_ret2
        exact rb_tuple rfl rfl (by repeat (first | assumption | exact Bl.refl _ | apply Bl.drewN | apply Bl.drew | apply Bl.alloc | (refine Bl.dr ?_ (by assumption)) | (refine Bl.trans ?_ (by assumption))))
    · obtain rfl := HQ1.out (by omega)
      by_cases z : q2 = 0
      · subst z
        go_wp2_with fail
        refine (HD.out _ (KO.out.bl (by repeat (first | assumption | exact Bl.refl _ | apply Bl.drewN | apply Bl.drew | apply Bl.alloc | (refine Bl.dr ?_ (by assumption)) | (refine Bl.trans ?_ (by assumption)))))).mono ?_; rintro e w1 ⟨rfl, hb1⟩
        have hbb : Bl wr w1 := (by repeat (first | assumption | exact Bl.refl _ | apply Bl.drewN | apply Bl.drew | apply Bl.alloc | (refine Bl.dr ?_ (by assumption)) | (refine Bl.trans ?_ (by assumption))))
        clear hb1
        go_wp2_with fail
        go_roundg 0
        case rel => exact ⟨2, by omega, rfl, fun _ => by first | rfl | trivial, fun _ => by first | rfl | trivial, HRO.out.bl hbb, rfl⟩
        case measure => rw [G.out]; omega
      · have z1 : (q2 != 0) = true := by simp [z]
        have hr := HV.out
        rw [if_neg (by simp), if_pos z] at hr
        subst hr
        clear z
        go_wp2_with fail
        refine (HD.out _ (KO.out.bl (by repeat (first | assumption | exact Bl.refl _ | apply Bl.drewN | apply Bl.drew | apply Bl.alloc | (refine Bl.dr ?_ (by assumption)) | (refine Bl.trans ?_ (by assumption)))))).mono ?_; rintro e w1 ⟨rfl, hb1⟩
        go_wp2_with fail
        go_ret2
        exact rb_tuple rfl rfl (by repeat (first | assumption | exact Bl.refl _ | apply Bl.drewN | apply Bl.drew | apply Bl.alloc | (refine Bl.dr ?_ (by assumption)) | (refine Bl.trans ?_ (by assumption))))
    · obtain rfl := HQ1.out (by omega)
      obtain rfl := HQ2.out (by omega)
      have o1 : l.length ≤ 5000 := (HR.out rfl).2.2.2.1
      have o2 : m.length ≤ 5000 := (HS.out rfl).2.2.2.1
      have hr := HV.out
      rw [if_neg (by simp), if_neg (by simp)] at hr
      clear HRO
      by_cases f1 : l.length = 0
      · rw [if_pos (.inl f1)] at hr
        subst hr
        have g1 : ((l.length : Int) == 0) = true := by rw [f1]; rfl
        clear f1
        go_wp2_with fail
        go_quiet (fail)
        go_wp2_with fail
        go_ret2
        exact rb_tuple rfl rfl (by repeat (first | assumption | exact Bl.refl _ | apply Bl.drewN | apply Bl.drew | apply Bl.alloc | (refine Bl.dr ?_ (by assumption)) | (refine Bl.trans ?_ (by assumption))))
      · by_cases f2 : m.length = 0
        · rw [if_pos (.inr f2)] at hr
          subst hr
          have g1 : ((l.length : Int) == 0) = false := by rw [beq_eq_false_iff_ne]; omega
          have g2 : ((m.length : Int) == 0) = true := by rw [f2]; rfl
          clear f1 f2
          go_wp2_with fail
          go_quiet (fail)
          go_wp2_with fail
          go_ret2
          exact rb_tuple rfl rfl (by repeat (first | assumption | exact Bl.refl _ | apply Bl.drewN | apply Bl.drew | apply Bl.alloc | (refine Bl.dr ?_ (by assumption)) | (refine Bl.trans ?_ (by assumption))))
        · rw [if_neg (by omega)] at hr
          have g1 : ((l.length : Int) == 0) = false := by rw [beq_eq_false_iff_ne]; omega
          have g2 : ((m.length : Int) == 0) = false := by rw [beq_eq_false_iff_ne]; omega
          have hl := lastE_get f1
          have hh := headE_get f1
          obtain ⟨b, off, hab, hat⟩ := HO.out.ents.get (k := 0) (Nat.pos_of_ne_zero f1)
          have d0 := hb.cell (hat _ _ hh).key
          have d1 := hb.cell (hat _ _ hl).key
          have hl2 := lastE_get f2
          have hh2 := headE_get f2
          obtain ⟨b2, off2, hab2, hat2⟩ := KO.out.ents.get (k := 0) (Nat.pos_of_ne_zero f2)
          have x0 := hb.cell (hat2 _ _ hh2).key
          have x1 := hb.cell (hat2 _ _ hl2).key
          have hw : IntKind.i64.wrap ((l.length : Int) - 1) = (l.length : Int) - 1 := IntWalk.i64_in _ (by omega)
          have hw2 : IntKind.i64.wrap ((m.length : Int) - 1) = (m.length : Int) - 1 := IntWalk.i64_in _ (by omega)
          have ht : ((l.length : Int) - 1).toNat = l.length - 1 := by omega
          have ht2 : ((m.length : Int) - 1).toNat = m.length - 1 := by omega
          have hp : (0 : Int) < (l.length : Int) := by omega
          have hp2 : (0 : Int) < (m.length : Int) := by omega
          have hi : (0 : Int) ≤ (l.length : Int) - 1 := by omega
          have hi2 : (0 : Int) ≤ (m.length : Int) - 1 := by omega
          have hj : (1 : Int) ≤ (l.length : Int) := by omega
          have hj2 : (1 : Int) ≤ (m.length : Int) := by omega
          clear hl hh hat hl2 hh2 hat2 HR HS HV HQ1 HQ2
          generalize (lastE l).key = lk at *
          generalize (headE l).key = hk at *
          generalize (lastE m).key = mk at *
          generalize (headE m).key = nk at *
          simp only [Nat.zero_mul, Nat.add_zero] at d0 x0
          have t1 := leq_eq hk mk
          have t2 := leq_eq nk lk
          subst hr
          subst hab hab2
          generalize slt mk hk = s1 at *
          generalize slt lk nk = s2 at *
          clear f1 f2
          cases s1
          · simp only [Bool.not_false] at t1
            go_wp2_with fail
            go_quiet (fail)
            go_wp2_with fail
            go_quiet (fail)
            go_wp2_with fail
            go_ret2
            exact rb_tuple (bval (by first | rfl | simp)) rfl (by repeat (first | assumption | exact Bl.refl _ | apply Bl.drewN | apply Bl.drew | apply Bl.alloc | (refine Bl.dr ?_ (by assumption)) | (refine Bl.trans ?_ (by assumption))))
          · simp only [Bool.not_true] at t1
            go_wp2_with fail
            go_quiet (fail)
            go_wp2_with fail
            go_quiet (fail)
            go_wp2_with fail
            go_ret2
            exact rb_tuple rfl rfl (by repeat (first | assumption | exact Bl.refl _ | apply Bl.drewN | apply Bl.drew | apply Bl.alloc | (refine Bl.dr ?_ (by assumption)) | (refine Bl.trans ?_ (by assumption))))

set_option maxHeartbeats 8000000 in
theorem refRunOverlap (a : Option Addr) (c : Nat) (r : Rn) (a2 : Option Addr) (c2 : Nat) (s : Rn) (w : World) (h : ROk w a c r) (k : ROk w a2 c2 s) :
    Calls Try.prog 30 #[r.v a c, s.v a2 c2] w (RB w (.tuple #[.bool (rover r s).1, .int .i64 (rover r s).2])) := by
  have hC := fun w h => refRunCheck a c r w h
  have hD := fun w h => refRunCheck a2 c2 s w h
  by_cases z1 : (rck r).2 = 0
  · by_cases z2 : (rck s).2 = 0
    · have o1 : r.es.length ≤ 5000 := (rck_ok z1).2.2.2.1
      have o2 : s.es.length ≤ 5000 := (rck_ok z2).2.2.2.1
      by_cases f1 : r.es.length = 0
      · have hres : rover r s = (false, 0) := by unfold rover; rw [if_neg (by simp [z1]), if_neg (by simp [z2]), if_pos (.inl f1)]
        rw [hres]
        rw [z1] at hC
        rw [z2] at hD
        have g1 : ((r.es.length : Int) == 0) = true := by rw [f1]; rfl
        clear f1 hres z1 z2
        generalize (rck r).1 = p1 at *
        generalize (rck s).1 = p2 at *
        have HC := Lib.hid hC
        have HD := Lib.hid hD
        have HO := Lib.hid h
        have KO := Lib.hid k
        obtain ⟨id, l⟩ := r
        obtain ⟨id2, m⟩ := s
        unfold Rn.v
        simp only at *
        clear hC hD h k
        go_enter Try.func30, Try.ntmps30
        go_wp2_with fail
        refine (HC.out _ (HO.out.bl (by repeat (first | assumption | exact Bl.refl _ | apply Bl.drewN | apply Bl.drew | apply Bl.alloc | (refine Bl.dr ?_ (by assumption)) | (refine Bl.trans ?_ (by assumption)))))).mono ?_; rintro e w1 ⟨rfl, hb1⟩
        have cc1 : w1.cell? ⟨w.heap.size, 0, none⟩ = some (.int .i64 id) := hb1.cell (by simp [go_sem])
        have cc2 : w1.cell? ⟨w.heap.size, 1, none⟩ = some (.slice a l.length c) := hb1.cell (by simp [go_sem])
        have d1 : w1.cell? ⟨w.heap.size + 1, 0, none⟩ = some (.int .i64 id2) := hb1.cell (by simp [go_sem])
        have d2 : w1.cell? ⟨w.heap.size + 1, 1, none⟩ = some (.slice a2 m.length c2) := hb1.cell (by simp [go_sem])
        have hb : Bl w w1 := (by repeat (first | assumption | exact Bl.refl _ | apply Bl.drewN | apply Bl.drew | apply Bl.alloc | (refine Bl.dr ?_ (by assumption)) | (refine Bl.trans ?_ (by assumption))))
        clear hb1
        go_wp2_with fail
        refine (HD.out _ (KO.out.bl (by repeat (first | assumption | exact Bl.refl _ | apply Bl.drewN | apply Bl.drew | apply Bl.alloc | (refine Bl.dr ?_ (by assumption)) | (refine Bl.trans ?_ (by assumption)))))).mono ?_; rintro e w2 ⟨rfl, hb2⟩
        have cc1 := hb2.cell cc1
        have cc2 := hb2.cell cc2
        have d1 := hb2.cell d1
        have d2 := hb2.cell d2
        have hb := hb.trans hb2
        clear hb2
        go_wp2_with fail
        go_ret2
        exact rb_tuple rfl rfl (by repeat (first | assumption | exact Bl.refl _ | apply Bl.drewN | apply Bl.drew | apply Bl.alloc | (refine Bl.dr ?_ (by assumption)) | (refine Bl.trans ?_ (by assumption))))
      · by_cases f2 : s.es.length = 0
        · have hres : rover r s = (false, 0) := by unfold rover; rw [if_neg (by simp [z1]), if_neg (by simp [z2]), if_pos (.inr f2)]
          rw [hres]
          rw [z1] at hC
          rw [z2] at hD
          have g1 : ((r.es.length : Int) == 0) = false := by rw [beq_eq_false_iff_ne]; omega
          have g2 : ((s.es.length : Int) == 0) = true := by rw [f2]; rfl
          clear f1 f2 hres z1 z2
          generalize (rck r).1 = p1 at *
          generalize (rck s).1 = p2 at *
          have HC := Lib.hid hC
          have HD := Lib.hid hD
          have HO := Lib.hid h
          have KO := Lib.hid k
          obtain ⟨id, l⟩ := r
          obtain ⟨id2, m⟩ := s
          unfold Rn.v
          simp only at *
          clear hC hD h k
          go_enter Try.func30, Try.ntmps30
          go_wp2_with fail
          refine (HC.out _ (HO.out.bl (by repeat (first | assumption | exact Bl.refl _ | apply Bl.drewN | apply Bl.drew | apply Bl.alloc | (refine Bl.dr ?_ (by assumption)) | (refine Bl.trans ?_ (by assumption)))))).mono ?_; rintro e w1 ⟨rfl, hb1⟩
          have cc1 : w1.cell? ⟨w.heap.size, 0, none⟩ = some (.int .i64 id) := hb1.cell (by simp [go_sem])
          have cc2 : w1.cell? ⟨w.heap.size, 1, none⟩ = some (.slice a l.length c) := hb1.cell (by simp [go_sem])
          have d1 : w1.cell? ⟨w.heap.size + 1, 0, none⟩ = some (.int .i64 id2) := hb1.cell (by simp [go_sem])
          have d2 : w1.cell? ⟨w.heap.size + 1, 1, none⟩ = some (.slice a2 m.length c2) := hb1.cell (by simp [go_sem])
          have hb : Bl w w1 := (by repeat (first | assumption | exact Bl.refl _ | apply Bl.drewN | apply Bl.drew | apply Bl.alloc | (refine Bl.dr ?_ (by assumption)) | (refine Bl.trans ?_ (by assumption))))
          clear hb1
          go_wp2_with fail
          refine (HD.out _ (KO.out.bl (by repeat (first | assumption | exact Bl.refl _ | apply Bl.drewN | apply Bl.drew | apply Bl.alloc | (refine Bl.dr ?_ (by assumption)) | (refine Bl.trans ?_ (by assumption)))))).mono ?_; rintro e w2 ⟨rfl, hb2⟩
          have cc1 := hb2.cell cc1
          have cc2 := hb2.cell cc2
          have d1 := hb2.cell d1
          have d2 := hb2.cell d2
          have hb := hb.trans hb2
          clear hb2
          go_wp2_with fail
          go_ret2
          exact rb_tuple rfl rfl (by repeat (first | assumption | exact Bl.refl _ | apply Bl.drewN | apply Bl.drew | apply Bl.alloc | (refine Bl.dr ?_ (by assumption)) | (refine Bl.trans ?_ (by assumption))))
        · obtain ⟨m1, m2⟩ := over_meet z1 z2 f1 f2
          have m3 := rover_ok z1 z2
          obtain ⟨a1, a4, -⟩ := cov_facts z1 f1
          obtain ⟨b1, b4, -⟩ := cov_facts z2 f2
          have k1 : (rcov r).1.ok := ⟨Nat.le_trans (rchk_zero.1 a4).1 (by unfold maxLen; omega), Nat.le_trans (rchk_zero.1 a4).2.1 (by unfold maxLen; omega)⟩
          have k2 : (rcov s).1.ok := ⟨Nat.le_trans (rchk_zero.1 b4).1 (by unfold maxLen; omega), Nat.le_trans (rchk_zero.1 b4).2.1 (by unfold maxLen; omega)⟩
          have m4 := rchk_zero.1 (meetR_ok a4 b4)
          have k3 : (meetR (rcov r).1 (rcov s).1).ok := ⟨Nat.le_trans m4.1 (by unfold maxLen; omega), Nat.le_trans m4.2.1 (by unfold maxLen; omega)⟩
          have hV := fun w h => refRunCover a c r w h
          have hU := fun w h => refRunCover a2 c2 s w h
          have hM := fun w => refMeet (rcov r).1 (rcov s).1 w k1 k2
          have hE := fun w => refEmpty (meetR (rcov r).1 (rcov s).1) w k3
          rw [m1] at hM
          rw [m2] at hE
          rw [m3]
          rw [z1] at hC
          rw [z2] at hD
          rw [a1] at hV
          rw [b1] at hU
          have g1 : ((r.es.length : Int) == 0) = false := by rw [beq_eq_false_iff_ne]; omega
          have g2 : ((s.es.length : Int) == 0) = false := by rw [beq_eq_false_iff_ne]; omega
          generalize (rover r s).1 = ov at *
          generalize meetR (rcov r).1 (rcov s).1 = mm at *
          generalize (rcov r).1 = v1 at *
          generalize (rcov s).1 = v2 at *
          obtain ⟨lo1, hi1, bd1⟩ := v1
          obtain ⟨lo2, hi2, bd2⟩ := v2
          obtain ⟨lo3, hi3, bd3⟩ := mm
          unfold Rng.v at hV hU hM hE
          simp only at hV hU hM hE
          have HV := Lib.hid hV
          have HU := Lib.hid hU
          have HM := Lib.hid hM
          have HE := Lib.hid hE
          clear hV hU hM hE a1 a4 b1 b4 k1 k2 k3 m1 m2 m3 m4 f1 f2 z1 z2
          generalize (rck r).1 = p1 at *
          generalize (rck s).1 = p2 at *
          have HC := Lib.hid hC
          have HD := Lib.hid hD
          have HO := Lib.hid h
          have KO := Lib.hid k
          obtain ⟨id, l⟩ := r
          obtain ⟨id2, m⟩ := s
          unfold Rn.v
          simp only at *
          clear hC hD h k
          go_enter Try.func30, Try.ntmps30
          go_wp2_with fail
          refine (HC.out _ (HO.out.bl (by repeat (first | assumption | exact Bl.refl _ | apply Bl.drewN | apply Bl.drew | apply Bl.alloc | (refine Bl.dr ?_ (by assumption)) | (refine Bl.trans ?_ (by assumption)))))).mono ?_; rintro e w1 ⟨rfl, hb1⟩
          have cc1 : w1.cell? ⟨w.heap.size, 0, none⟩ = some (.int .i64 id) := hb1.cell (by simp [go_sem])
          have cc2 : w1.cell? ⟨w.heap.size, 1, none⟩ = some (.slice a l.length c) := hb1.cell (by simp [go_sem])
          have d1 : w1.cell? ⟨w.heap.size + 1, 0, none⟩ = some (.int .i64 id2) := hb1.cell (by simp [go_sem])
          have d2 : w1.cell? ⟨w.heap.size + 1, 1, none⟩ = some (.slice a2 m.length c2) := hb1.cell (by simp [go_sem])
          have hb : Bl w w1 := (by repeat (first | assumption | exact Bl.refl _ | apply Bl.drewN | apply Bl.drew | apply Bl.alloc | (refine Bl.dr ?_ (by assumption)) | (refine Bl.trans ?_ (by assumption))))
          clear hb1
          go_wp2_with fail
          refine (HD.out _ (KO.out.bl (by repeat (first | assumption | exact Bl.refl _ | apply Bl.drewN | apply Bl.drew | apply Bl.alloc | (refine Bl.dr ?_ (by assumption)) | (refine Bl.trans ?_ (by assumption)))))).mono ?_; rintro e w2 ⟨rfl, hb2⟩
          have cc1 := hb2.cell cc1
          have cc2 := hb2.cell cc2
          have d1 := hb2.cell d1
          have d2 := hb2.cell d2
          have hb := hb.trans hb2
          clear hb2
          go_wp2_with fail
          refine (HV.out _ (HO.out.bl (by repeat (first | assumption | exact Bl.refl _ | apply Bl.drewN | apply Bl.drew | apply Bl.alloc | (refine Bl.dr ?_ (by assumption)) | (refine Bl.trans ?_ (by assumption)))))).mono ?_; rintro e w3 ⟨rfl, hb3⟩
          have cc2 := hb3.cell cc2
          have d1 := hb3.cell d1
          have cc1 := hb3.cell cc1
          have d2 := hb3.cell d2
          have hb := hb.trans hb3
          clear hb3
          have hbz := (Bl.refl w3).alloc (Obj.cells #[.string lo1, .string hi1, .bool bd1] 39)
          have dd1 := hbz.cell d1
          have dd2 := hbz.cell d2
          clear hbz
          go_wp2_with fail
          refine (HU.out _ (KO.out.bl (by repeat (first | assumption | exact Bl.refl _ | apply Bl.drewN | apply Bl.drew | apply Bl.alloc | (refine Bl.dr ?_ (by assumption)) | (refine Bl.trans ?_ (by assumption)))))).mono ?_; rintro e w4 ⟨rfl, hb4⟩
          have x0 : w4.cell? ⟨w3.heap.size, 0, none⟩ = some (.string lo1) := hb4.cell (by simp [go_sem])
          have x1 : w4.cell? ⟨w3.heap.size, 1, none⟩ = some (.string hi1) := hb4.cell (by simp [go_sem])
          have x2 : w4.cell? ⟨w3.heap.size, 2, none⟩ = some (.bool bd1) := hb4.cell (by simp [go_sem])
          have hb : Bl w w4 := (by repeat (first | assumption | exact Bl.refl _ | apply Bl.drewN | apply Bl.drew | apply Bl.alloc | (refine Bl.dr ?_ (by assumption)) | (refine Bl.trans ?_ (by assumption))))
          clear hb4
          have hbz := (Bl.refl w4).alloc (Obj.cells #[.string lo2, .string hi2, .bool bd2] 39)
          have y0 := hbz.cell x0
          have y1 := hbz.cell x1
          have y2 := hbz.cell x2
          clear hbz
          go_wp2_with fail
          refine (HM.out _).mono ?_; rintro e w5 ⟨rfl, hb5⟩
          have hb : Bl w w5 := (by repeat (first | assumption | exact Bl.refl _ | apply Bl.drewN | apply Bl.drew | apply Bl.alloc | (refine Bl.dr ?_ (by assumption)) | (refine Bl.trans ?_ (by assumption))))
          clear hb5
          go_wp2_with fail
          refine (HE.out _).mono ?_; rintro e w6 ⟨rfl, hb6⟩
          go_wp2_with fail
          go_ret2
          exact rb_tuple (bval (by simp)) rfl (by repeat (first | assumption | exact Bl.refl _ | apply Bl.drewN | apply Bl.drew | apply Bl.alloc | (refine Bl.dr ?_ (by assumption)) | (refine Bl.trans ?_ (by assumption))))
    · have hres : rover r s = (false, (rck s).2) := by unfold rover; rw [if_neg (by simp [z1]), if_pos z2]
      rw [hres]
      rw [z1] at hC
      have e' : ((rck s).2 != 0) = true := by simp [z2]
      generalize (rck s).2 = q at *
      clear hres z1 z2
      generalize (rck r).1 = p1 at *
      generalize (rck s).1 = p2 at *
      have HC := Lib.hid hC
      have HD := Lib.hid hD
      have HO := Lib.hid h
      have KO := Lib.hid k
      obtain ⟨id, l⟩ := r
      obtain ⟨id2, m⟩ := s
      unfold Rn.v
      simp only at *
      clear hC hD h k
      go_enter Try.func30, Try.ntmps30
      go_wp2_with fail
      refine (HC.out _ (HO.out.bl (by repeat (first | assumption | exact Bl.refl _ | apply Bl.drewN | apply Bl.drew | apply Bl.alloc | (refine Bl.dr ?_ (by assumption)) | (refine Bl.trans ?_ (by assumption)))))).mono ?_; rintro e w1 ⟨rfl, hb1⟩
      have cc1 : w1.cell? ⟨w.heap.size, 0, none⟩ = some (.int .i64 id) := hb1.cell (by simp [go_sem])
      have cc2 : w1.cell? ⟨w.heap.size, 1, none⟩ = some (.slice a l.length c) := hb1.cell (by simp [go_sem])
      have d1 : w1.cell? ⟨w.heap.size + 1, 0, none⟩ = some (.int .i64 id2) := hb1.cell (by simp [go_sem])
      have d2 : w1.cell? ⟨w.heap.size + 1, 1, none⟩ = some (.slice a2 m.length c2) := hb1.cell (by simp [go_sem])
      have hb : Bl w w1 := (by repeat (first | assumption | exact Bl.refl _ | apply Bl.drewN | apply Bl.drew | apply Bl.alloc | (refine Bl.dr ?_ (by assumption)) | (refine Bl.trans ?_ (by assumption))))
      clear hb1
      go_wp2_with fail
      refine (HD.out _ (KO.out.bl (by repeat (first | assumption | exact Bl.refl _ | apply Bl.drewN | apply Bl.drew | apply Bl.alloc | (refine Bl.dr ?_ (by assumption)) | (refine Bl.trans ?_ (by assumption)))))).mono ?_; rintro e w2 ⟨rfl, hb2⟩
      have cc1 := hb2.cell cc1
      have cc2 := hb2.cell cc2
      have d1 := hb2.cell d1
      have d2 := hb2.cell d2
      have hb := hb.trans hb2
      clear hb2
      go_wp2_with fail
      go_ret2
      exact rb_tuple rfl rfl (by repeat (first | assumption | exact Bl.refl _ | apply Bl.drewN | apply Bl.drew | apply Bl.alloc | (refine Bl.dr ?_ (by assumption)) | (refine Bl.trans ?_ (by assumption))))
  · have hres : rover r s = (false, (rck r).2) := by unfold rover; rw [if_pos z1]
    rw [hres]
    have e' : ((rck r).2 != 0) = true := by simp [z1]
    have e2 : ((rck r).2 == 0) = false := by simp [z1]
    generalize (rck r).2 = q at *
    clear hres z1
    generalize (rck r).1 = p1 at *
    generalize (rck s).1 = p2 at *
    have HC := Lib.hid hC
    have HD := Lib.hid hD
    have HO := Lib.hid h
    have KO := Lib.hid k
    obtain ⟨id, l⟩ := r
    obtain ⟨id2, m⟩ := s
    unfold Rn.v
    simp only at *
    clear hC hD h k
    go_enter Try.func30, Try.ntmps30
    go_wp2_with fail
    refine (HC.out _ (HO.out.bl (by repeat (first | assumption | exact Bl.refl _ | apply Bl.drewN | apply Bl.drew | apply Bl.alloc | (refine Bl.dr ?_ (by assumption)) | (refine Bl.trans ?_ (by assumption)))))).mono ?_; rintro e w1 ⟨rfl, hb1⟩
    go_wp2_with fail
    go_ret2
    exact rb_tuple rfl rfl (by repeat (first | assumption | exact Bl.refl _ | apply Bl.drewN | apply Bl.drew | apply Bl.alloc | (refine Bl.dr ?_ (by assumption)) | (refine Bl.trans ?_ (by assumption))))
end Go.Proofs.Ytndcjgkgkpkklaa
