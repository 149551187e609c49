
/-
  Contracts of Count, of both.
-/
import Derived.Test.YtndcjgkgkpkklaaRnE
import Derived.Test.YtndcjgkgkpkklaaRnR
namespace Go.Proofs.Ytndcjgkgkpkklaa
open Go.RowKit
set_option linter.unusedSimpArgs false
set_option linter.unusedVariables false
set_option maxRecDepth 100000

theorem count_err {r : Rn} {x : Rng} (h : (rpart r x).2.2 ≠ 0) : rpart r x = (0, 0, (rpart r x).2.2) ∧ rcount r x = (0, 0, (rpart r x).2.2) := by
  unfold rpart rcount at *
  by_cases e : (rck r).2 ≠ 0
  · rw [if_pos e, if_pos e]; exact ⟨rfl, rfl⟩
  · by_cases f : rchk x ≠ 0
    · rw [if_neg e, if_neg e, if_pos f, if_pos f]; exact ⟨rfl, rfl⟩
    · rw [if_neg e, if_neg f] at h; exact absurd rfl h
theorem part_zero {r : Rn} {x : Rng} (h : (rpart r x).2.2 = 0) : (rck r).2 = 0 ∧ rchk x = 0 := by
  unfold rpart at h
  by_cases e : (rck r).2 ≠ 0
  · rw [if_pos e] at h; exact absurd h e
  · by_cases f : rchk x ≠ 0
    · rw [if_neg e, if_pos f] at h; exact absurd h f
    · exact ⟨by omega, by omega⟩

set_option maxHeartbeats 4000000 in
theorem refRunCount (a : Option Addr) (c : Nat) (r : Rn) (x : Rng) (w : World) (h : ROk w a c r) (hx : x.ok) :
    Calls Try.prog 26 #[r.v a c, x.v] w (RB w (.tuple #[.int .i64 (rcount r x).1, .int .i64 (rcount r x).2.1, .int .i64 (rcount r x).2.2])) := by
  have hC := fun w h => refRunPart a c r x w h hx
  by_cases e : (rpart r x).2.2 = 0
  · obtain ⟨e1, e2⟩ := part_zero e
    have o4 : r.es.length ≤ 5000 := (rck_ok e1).2.2.2.1
    rw [rpart_ok e1 e2] at hC
    rw [rcount_ok e1 e2]
    have hle := pTo_le r.es x
    have hge := pTo_ge r.es x
    generalize cntLtE r.es x.lo = fr at *
    generalize pTo r.es x = tt at *
    clear e e1 e2
    have HC := Lib.hid hC
    have HO := Lib.hid h
    obtain ⟨id, l⟩ := r
    obtain ⟨lo, hi, bd⟩ := x
    unfold Rn.v Rng.v
    simp only at *
    clear hC h hx
    go_enter Try.func26, Try.ntmps26
    go_wp2_with fail
    refine (HC.out _ (HO.out.bl (by repeat (first | assumption | exact Bl.refl _ | apply Bl.drewN | apply Bl.drew | apply Bl.alloc | (refine Bl.dr ?_ (by assumption)) | (refine Bl.trans ?_ (by assumption)))))).mono ?_; rintro e w1 ⟨rfl, hb1⟩
    have hrp : RP w w1 a l.length c ⟨lo, hi, bd⟩ := ⟨hb1.cell (by simp [go_sem]), hb1.cell (by simp [go_sem]), hb1.cell (by simp [go_sem]), hb1.cell (by simp [go_sem]), (by repeat (first | assumption | exact Bl.refl _ | apply Bl.drewN | apply Bl.drew | apply Bl.alloc | (refine Bl.dr ?_ (by assumption)) | (refine Bl.trans ?_ (by assumption))))⟩
    clear hb1
    have HRP := Lib.hid hrp
    clear hrp
    go_wp2_with fail
    go_loopg [10, 11, 12] (l.length - fr) (fun g p q i wr => ∃ n : Nat, fr ≤ n ∧ n ≤ tt ∧ i = .int .i64 n ∧ p = .int .i64 (nLive (cutE l fr n) : Nat) ∧ q = .int .i64 (nDead (cutE l fr n) : Nat) ∧ RP w wr a l.length c ⟨lo, hi, bd⟩ ∧ g = l.length - n)
    case atStart => exact ⟨fr, by omega, hge, rfl, by rw [cutE_nil]; rfl, by rw [cutE_nil]; rfl, HRP.out, rfl⟩
    case round =>
      clear HRP
      obtain ⟨n, hn1, hn2, rfl, rfl, rfl, hrp, hg⟩ := hrel
      have HRP := Lib.hid hrp
      obtain ⟨c1, x0, x1, x2, hb⟩ := hrp
      have G := Lib.hid hg
      clear hg
      have b1 := live_dead (cutE l fr n)
      rw [cutE_len (show n ≤ l.length by omega)] at b1
      by_cases h1 : n < tt
      · obtain ⟨b, off, rfl, hat⟩ := HO.out.ents.get (show n < l.length by omega)
        obtain ⟨y, hy⟩ : ∃ y, l[n]? = some y := ⟨_, List.getElem?_eq_getElem (by omega)⟩
        have d0 := ((hat n y hy).bl hb).dead
        have h2 : (n : Int) < (l.length : Int) := by omega
        have s1 := nLive_snoc (cutE l fr n) y
        have s2 := nDead_snoc (cutE l fr n) y
        rw [← cutE_succ hy hn1] at s1 s2
        have S1 := Lib.hid s1
        have S2 := Lib.hid s2
        clear hat hy s1 s2
        generalize nLive (cutE l fr n) = m1 at *
        generalize nDead (cutE l fr n) = m2 at *
        cases hd : y.dead
        all_goals
          rw [hd] at d0
          have D := Lib.hid hd
          clear hd
          go_wp2_with fail
          go_roundg (l.length - (n + 1))
          case rel => exact ⟨n + 1, by omega, by omega, by go_num, by rw [S1.out, D.out]; go_num, by rw [S2.out, D.out]; go_num, HRP.out, rfl⟩
          case measure => rw [G.out]; omega
      · obtain rfl : n = tt := by omega
        go_wp2_with fail
        go_ret3
        exact rb_tuple3' rfl rfl rfl (by repeat (first | assumption | exact Bl.refl _ | apply Bl.drewN | apply Bl.drew | apply Bl.alloc | (refine Bl.dr ?_ (by assumption)) | (refine Bl.trans ?_ (by assumption))))
  · obtain ⟨f1, f2⟩ := count_err e
    rw [f2]
    rw [f1] at hC
    generalize (rpart r x).2.2 = q at *
    clear f1 f2
    have HC := Lib.hid hC
    have HO := Lib.hid h
    obtain ⟨id, l⟩ := r
    obtain ⟨lo, hi, bd⟩ := x
    unfold Rn.v Rng.v
    simp only at *
    clear hC h hx
    go_enter Try.func26, Try.ntmps26
    go_wp2_with fail
    refine (HC.out _ (HO.out.bl (by repeat (first | assumption | exact Bl.refl _ | apply Bl.drewN | apply Bl.drew | apply Bl.alloc | (refine Bl.dr ?_ (by assumption)) | (refine Bl.trans ?_ (by assumption)))))).mono ?_; rintro e w1 ⟨rfl, hb1⟩
    go_wp2_with fail
    go_loopg [10, 11, 12] 0 (fun g p q i wr => p = .int .i64 0 ∧ q = .int .i64 0 ∧ i = .int .i64 0 ∧ Bl w wr ∧ g = 0)
    case atStart => exact ⟨rfl, rfl, rfl, (by repeat (first | assumption | exact Bl.refl _ | apply Bl.drewN | apply Bl.drew | apply Bl.alloc | (refine Bl.dr ?_ (by assumption)) | (refine Bl.trans ?_ (by assumption)))), rfl⟩
    case round =>
      obtain ⟨rfl, rfl, rfl, hb, hg⟩ := hrel
      go_wp2_with fail
      go_ret3
      exact rb_tuple3' rfl rfl rfl (by repeat (first | assumption | exact Bl.refl _ | apply Bl.drewN | apply Bl.drew | apply Bl.alloc | (refine Bl.dr ?_ (by assumption)) | (refine Bl.trans ?_ (by assumption))))

/-- The world of the loop of Count. -/
structure RK (w wr : World) (B : Nat) (p q : Int) : Prop where
  k0 : wr.cell? ⟨B, 0, none⟩ = some (.int .i64 p)
  k1 : wr.cell? ⟨B, 1, none⟩ = some (.int .i64 q)
  f0 : wr.frozen? ⟨B, 0, none⟩ = false
  f1 : wr.frozen? ⟨B, 1, none⟩ = false
  hB : w.heap.size ≤ B
  hb : Bl w wr
theorem RK.set0 {w wr : World} {B : Nat} {p q : Int} (h : RK w wr B p q) (v : Int) : RK w (wr.setCell ⟨B, 0, none⟩ (.int .i64 v)) B v q :=
  ⟨World.cell?_setCell_same wr _ _ h.k0, (World.cell?_setCell_other wr _ _ _ (by simp)).trans h.k1, (frozen_set _ _ _ _).trans h.f0, (frozen_set _ _ _ _).trans h.f1, h.hB, h.hb.setCell _ h.hB _⟩
theorem RK.set1 {w wr : World} {B : Nat} {p q : Int} (h : RK w wr B p q) (v : Int) : RK w (wr.setCell ⟨B, 1, none⟩ (.int .i64 v)) B p v :=
  ⟨(World.cell?_setCell_other wr _ _ _ (by simp)).trans h.k0, World.cell?_setCell_same wr _ _ h.k1, (frozen_set _ _ _ _).trans h.f0, (frozen_set _ _ _ _).trans h.f1, h.hB, h.hb.setCell _ h.hB _⟩
theorem RK.alloc {w wr : World} {B : Nat} {p q : Int} (h : RK w wr B p q) (o : Obj) : RK w (wr.alloc o) B p q :=
  ⟨((Bl.refl wr).alloc o).cell h.k0, ((Bl.refl wr).alloc o).cell h.k1, ((Bl.refl wr).alloc o).frozen h.k0 h.f0, ((Bl.refl wr).alloc o).frozen h.k1 h.f1, h.hB, h.hb.alloc o⟩

set_option maxHeartbeats 4000000 in
theorem runCount (a : Option Addr) (c : Nat) (r : Rn) (x : Rng) (w : World) (h : ROk w a c r) (hx : x.ok) :
    Calls Try.prog 21 #[r.v a c, x.v] w (RB w (.tuple #[.int .i64 (rcount r x).1, .int .i64 (rcount r x).2.1, .int .i64 (rcount r x).2.2])) := by
  have hC := fun w h => runPart a c r x w h hx
  by_cases e : (rpart r x).2.2 = 0
  · obtain ⟨e1, e2⟩ := part_zero e
    have o4 : r.es.length ≤ 5000 := (rck_ok e1).2.2.2.1
    rw [rpart_ok e1 e2] at hC
    rw [rcount_ok e1 e2]
    have hle := pTo_le r.es x
    have hge := pTo_ge r.es x
    have hlc := h.len
    have hcc := h.cap
    unfold maxLen at hcc
    generalize cntLtE r.es x.lo = fr at *
    generalize pTo r.es x = tt at *
    clear e e1 e2
    have HC := Lib.hid hC
    have HO := Lib.hid h
    obtain ⟨id, l⟩ := r
    obtain ⟨lo, hi, bd⟩ := x
    unfold Rn.v Rng.v
    simp only at *
    clear hC h hx
    go_enter Try.func21, Try.ntmps21
    go_wp2_with fail
    refine (HC.out _ (HO.out.bl (by repeat (first | assumption | exact Bl.refl _ | apply Bl.drewN | apply Bl.drew | apply Bl.alloc | (refine Bl.dr ?_ (by assumption)) | (refine Bl.trans ?_ (by assumption)))))).mono ?_; rintro e w1 ⟨rfl, hb1⟩
    have hrp : RP w w1 a l.length c ⟨lo, hi, bd⟩ := ⟨hb1.cell (by simp [go_sem]), hb1.cell (by simp [go_sem]), hb1.cell (by simp [go_sem]), hb1.cell (by simp [go_sem]), (by repeat (first | assumption | exact Bl.refl _ | apply Bl.drewN | apply Bl.drew | apply Bl.alloc | (refine Bl.dr ?_ (by assumption)) | (refine Bl.trans ?_ (by assumption))))⟩
    clear hb1
    have cc := ((Bl.refl w1).alloc (Obj.cells #[.int .i64 0, .int .i64 0] 67)).cell hrp.c1
    have hb := hrp.hb
    have hbs := hb.size
    clear hrp
    by_cases hft : fr = tt
    · subst hft
      have hz : fr - fr = 0 := by omega
      by_cases hcf : c = fr
      all_goals
        go_wp2_with fail
        go_loopg [11, 28] 0 (fun g p i wr => i = .int .i64 0 ∧ RK w wr w1.heap.size 0 0 ∧ g = 0)
        case atStart => exact ⟨rfl, ⟨by simp [go_sem], by simp [go_sem], by simp [go_sem], by simp [go_sem], hbs, (by repeat (first | assumption | exact Bl.refl _ | apply Bl.drewN | apply Bl.drew | apply Bl.alloc | (refine Bl.dr ?_ (by assumption)) | (refine Bl.trans ?_ (by assumption))))⟩, rfl⟩
        case round =>
          clear cc hb
          obtain ⟨rfl, hrk, hg⟩ := hrel
          obtain ⟨k0, k1, f0, f1, hB, hb⟩ := hrk
          go_wp2_with fail
          go_quiet (fail)
          go_wp2_with fail
          go_ret3
          exact rb_tuple3' (ival (by rw [cutE_nil]; rfl)) (ival (by rw [cutE_nil]; rfl)) rfl (by repeat (first | assumption | exact Bl.refl _ | apply Bl.drewN | apply Bl.drew | apply Bl.alloc | (refine Bl.dr ?_ (by assumption)) | (refine Bl.trans ?_ (by assumption))))
    · have hcf : ¬ c = fr := by omega
      obtain ⟨b, off, rfl, hat⟩ := HO.out.ents.get (show fr < l.length by omega)
      have HA := Lib.hid hat
      clear hat
      go_wp2_with fail
      go_loopg [11, 28] (tt - fr) (fun g p i wr => ∃ n : Nat, fr + n ≤ tt ∧ i = .int .i64 n ∧ RK w wr w1.heap.size (nLive (cutE l fr (fr + n)) : Nat) (nDead (cutE l fr (fr + n)) : Nat) ∧ g = tt - fr - n)
      case atStart => exact ⟨0, by omega, rfl, ⟨by simp [go_sem, cutE_nil, nLive], by simp [go_sem, cutE_nil, nDead], by simp [go_sem], by simp [go_sem], hbs, (by repeat (first | assumption | exact Bl.refl _ | apply Bl.drewN | apply Bl.drew | apply Bl.alloc | (refine Bl.dr ?_ (by assumption)) | (refine Bl.trans ?_ (by assumption))))⟩, rfl⟩
      case round =>
        clear cc hb
        obtain ⟨n, hn, rfl, hrk, hg⟩ := hrel
        have HRK := Lib.hid hrk
        obtain ⟨k0, k1, f0, f1, hB, hb⟩ := hrk
        have G := Lib.hid hg
        clear hg
        have b1 := live_dead (cutE l fr (fr + n))
        rw [cutE_len (show fr + n ≤ l.length by omega)] at b1
        by_cases h1 : n < tt - fr
        · obtain ⟨y, hy⟩ : ∃ y, l[fr + n]? = some y := ⟨_, List.getElem?_eq_getElem (by omega)⟩
          have hd := (HA.out _ y hy).bl hb
          rw [show off + (fr + n) * 4 = off + fr * 4 + n * 4 by omega] at hd
          obtain ⟨d0, d1, d2, d3⟩ := hd
          have s1 := nLive_snoc (cutE l fr (fr + n)) y
          have s2 := nDead_snoc (cutE l fr (fr + n)) y
          rw [← cutE_succ hy (by omega)] at s1 s2
          have S1 := Lib.hid s1
          have S2 := Lib.hid s2
          clear hy s1 s2
          generalize nLive (cutE l fr (fr + n)) = m1 at *
          generalize nDead (cutE l fr (fr + n)) = m2 at *
          obtain ⟨kk, vv, dd, ss⟩ := y
          simp only at d0 d1 d2 d3
          have hbz := (Bl.refl wr).alloc (Obj.cells #[.string kk, .string vv, .bool dd, .int .i64 ss] 31)
          have e0 := hbz.cell k0
          have e1 := hbz.cell k1
          have g0 := hbz.frozen k0 f0
          have g1 := hbz.frozen k1 f1
          have hlt : w1.heap.size < wr.heap.size := lt_of_cell k0
          clear hbz
          cases dd
          all_goals
            go_wp2_with fail
            go_roundg (tt - fr - (n + 1))
            case rel =>
              refine ⟨n + 1, by omega, by go_num, ?_, rfl⟩
              have e1 := S1.out
              have e2 := S2.out
              simp at e1 e2
              rw [show fr + (n + 1) = fr + n + 1 from rfl, e1, e2]
              first
              | (rw [show ((m1 + 1 : Nat) : Int) = (m1 : Int) + 1 by omega]; exact (HRK.out.set0 _).alloc _)
              | (rw [show ((m2 + 1 : Nat) : Int) = (m2 : Int) + 1 by omega]; exact (HRK.out.set1 _).alloc _)
            case measure => rw [G.out]; omega
        · obtain rfl : tt = fr + n := by omega
          go_wp2_with fail
          go_quiet (fail)
          go_wp2_with fail
          go_ret3
          exact rb_tuple3' rfl rfl rfl (by repeat (first | assumption | exact Bl.refl _ | apply Bl.drewN | apply Bl.drew | apply Bl.alloc | (refine Bl.dr ?_ (by assumption)) | (refine Bl.trans ?_ (by assumption))))
  · obtain ⟨f1, f2⟩ := count_err e
    rw [f2]
    rw [f1] at hC
    have e' : ((rpart r x).2.2 != 0) = true := by simp [e]
    generalize (rpart r x).2.2 = q at *
    clear f1 f2 e
    have HC := Lib.hid hC
    have HO := Lib.hid h
    obtain ⟨id, l⟩ := r
    obtain ⟨lo, hi, bd⟩ := x
    unfold Rn.v Rng.v
    simp only at *
    clear hC h hx
    go_enter Try.func21, Try.ntmps21
    go_wp2_with fail
    refine (HC.out _ (HO.out.bl (by repeat (first | assumption | exact Bl.refl _ | apply Bl.drewN | apply Bl.drew | apply Bl.alloc | (refine Bl.dr ?_ (by assumption)) | (refine Bl.trans ?_ (by assumption)))))).mono ?_; rintro e w1 ⟨rfl, hb1⟩
    go_wp2_with fail
    go_ret3
    exact rb_tuple3' rfl rfl rfl (by repeat (first | assumption | exact Bl.refl _ | apply Bl.drewN | apply Bl.drew | apply Bl.alloc | (refine Bl.dr ?_ (by assumption)) | (refine Bl.trans ?_ (by assumption))))
end Go.Proofs.Ytndcjgkgkpkklaa
