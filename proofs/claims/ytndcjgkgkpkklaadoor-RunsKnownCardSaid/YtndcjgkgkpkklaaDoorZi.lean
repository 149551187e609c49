/-
  Own texts laid together: RnE.
-/
import Derived.Test.YtndcjgkgkpkklaaDoorZg
import Derived.IntWalk
/-
  Contracts of Part, of both.
-/
namespace Go.Proofs.YtndcjgkgkpkklaaDoor
open Go.RowKit
set_option linter.unusedSimpArgs false
set_option linter.unusedVariables false
set_option maxRecDepth 100000

/-- A run's own cells and a range's, in a loop. -/
structure RP (w wr : World) (a : Option Addr) (n c : Nat) (x : Rng) : Prop where
  c1 : wr.cell? ⟨w.heap.size, 1, none⟩ = some (.slice a n c)
  x0 : wr.cell? ⟨w.heap.size + 1, 0, none⟩ = some (.string x.lo)
  x1 : wr.cell? ⟨w.heap.size + 1, 1, none⟩ = some (.string x.hi)
  x2 : wr.cell? ⟨w.heap.size + 1, 2, none⟩ = some (.bool x.bd)
  hb : Bl w wr
theorem RP.bl {w wr wq : World} {a : Option Addr} {n c : Nat} {x : Rng} (h : RP w wr a n c x) (k : Bl wr wq) : RP w wq a n c x :=
  ⟨k.cell h.c1, k.cell h.x0, k.cell h.x1, k.cell h.x2, h.hb.trans k⟩
theorem rb_tuple3' {w w' : World} {a b c a' b' c' : Value} (h : a' = a) (k : b' = b) (j : c' = c) (hd : Bl w w') : RB w (.tuple #[a, b, c]) (.returned (.tuple #[a', b', c'])) w' := by subst h k j; exact ⟨rfl, hd⟩

theorem min_in {n q m : Nat} (h : min n q = m) (k : n < q) : m + 1 = min (n + 1) q := by omega
theorem min_out {n q m : Nat} (h : min n q = m) (k : q ≤ n) : m = min (n + 1) q := by omega


set_option maxHeartbeats 4000000 in
theorem runPart (a : Option Addr) (c : Nat) (r : Rn) (x : Rng) (w : World) (h : ROk w a c r) (hx : x.ok) :
    Calls Tryd.prog 8 #[r.v a c, x.v] w (RB w (.tuple #[.int .i64 (rpart r x).1, .int .i64 (rpart r x).2.1, .int .i64 (rpart r x).2.2])) := by
  have hC := fun w h => runCheck a c r w h
  have hX := fun w => keysCheckRange x w hx
  by_cases e : (rck r).2 = 0
  · by_cases f : rchk x = 0
    · obtain ⟨-, -, o3, o4, -, o5⟩ := rck_ok e
      have o6 : x.lo.size ≤ 32 ∧ x.hi.size ≤ 32 := by
        unfold rchk at f
        rcases ktwo_cases x.lo x.hi with g | g
        · rw [g] at f; simp at f
        · unfold ktwo at g
          split at g
          · cases g
          · omega
      have hS := fun w hh => runSearched a c r.es w hh h.len h.cap o3
      have hP := fun k w hh => plainBelow a c r.es k w hh (Nat.le_trans h.len h.cap) o5
      have hF := fun k a2 c2 w hh hks hm h8 => fencedBelow a c a2 c2 r.es k w hh h.len h.cap o3 hks hm h8
      have hres : rpart r x = ((cntLtE r.es x.lo : Int), (pTo r.es x : Int), 0) := by
        unfold rpart; rw [if_neg (by simp [e]), if_neg (by simp [f])]
      rw [hres]
      have hpt : pTo r.es x = if x.bd = true then max (cntLtE r.es x.hi) (cntLtE r.es x.lo) else r.es.length := rfl
      have hq1 := cntLtE_le r.es x.lo
      have hq2 := cntLtE_le r.es x.hi
      have hP1 := hP x.lo
      have hP2 := hP x.hi
      have hF1 := fun a2 c2 w hh hm h8 => hF x.lo a2 c2 w hh o6.1 hm h8
      have hF2 := fun a2 c2 w hh hm h8 => hF x.hi a2 c2 w hh o6.2 hm h8
      rw [f] at hX
      rw [e] at hC
      generalize pTo r.es x = pt at *
      generalize cntLtE r.es x.lo = q1 at *
      generalize cntLtE r.es x.hi = q2 at *
      clear hP hF e f o3 o5 hres
      have HS := Lib.hid hS
      have HP1 := Lib.hid hP1
      have HP2 := Lib.hid hP2
      have HF1 := Lib.hid hF1
      have HF2 := Lib.hid hF2
      have HPT := Lib.hid hpt
      clear hS hP1 hP2 hF1 hF2 hpt o6
      generalize hp : (rck r).1 = p1 at *
      have HC := Lib.hid hC
      have HO := Lib.hid h
      have HX := Lib.hid hX
      obtain ⟨id, l⟩ := r
      obtain ⟨lo, hi, bd⟩ := x
      unfold Rn.v Rng.v
      simp only at *
      clear hC h hX hx
      go_enter Tryd.func8, Tryd.ntmps8
      go_wp2_with fail
      refine (HC.out _ (HO.out.bl (by repeat (first | assumption | exact Bl.refl _ | apply Bl.drewN | apply Bl.drew | apply Bl.alloc | (refine Bl.dr ?_ (by assumption)) | (refine Bl.trans ?_ (by assumption)))))).mono ?_; rintro e w1 ⟨rfl, hb1⟩
      have hrp : RP w w1 a l.length c ⟨lo, hi, bd⟩ := ⟨hb1.cell (by simp [go_sem]), hb1.cell (by simp [go_sem]), hb1.cell (by simp [go_sem]), hb1.cell (by simp [go_sem]), (by repeat (first | assumption | exact Bl.refl _ | apply Bl.drewN | apply Bl.drew | apply Bl.alloc | (refine Bl.dr ?_ (by assumption)) | (refine Bl.trans ?_ (by assumption))))⟩
      have HRP := Lib.hid hrp
      obtain ⟨c1, x0, x1, x2, hb⟩ := hrp
      clear hb1
      go_wp2_with fail
      refine (HX.out _).mono ?_; rintro e w2 ⟨rfl, hb2⟩
      have hrp := HRP.out.bl hb2
      clear HRP c1 x0 x1 x2 hb hb2
      have HRP := Lib.hid hrp
      obtain ⟨c1, x0, x1, x2, hb⟩ := hrp
      go_wp2_with fail
      refine (HS.out _ (HO.out.ents.bl (by repeat (first | assumption | exact Bl.refl _ | apply Bl.drewN | apply Bl.drew | apply Bl.alloc | (refine Bl.dr ?_ (by assumption)) | (refine Bl.trans ?_ (by assumption)))))).mono ?_; rintro e w3 ⟨v, rfl, hs, hb3⟩
      have hrp := HRP.out.bl hb3
      clear HRP c1 x0 x1 x2 hb hb3
      have HRP := Lib.hid hrp
      obtain ⟨c1, x0, x1, x2, hb⟩ := hrp
      have c1' : ∀ z : BW w3, z.w.cell? ⟨w.heap.size, 1, none⟩ = some (.slice a l.length c) := BW.cell c1
      have x0' : ∀ z : BW w3, z.w.cell? ⟨w.heap.size + 1, 0, none⟩ = some (.string lo) := BW.cell x0
      rcases hs with rfl | ⟨h8, a2, c2, rfl, hm⟩
      · unfold plainV
        have hme := fun w => meth_plain a l.length c w
        go_wp2_with fail
        
        refine wp_region_quiet_bw w3 (by kernel_rfl) (by kernel_rfl) (Bl.refl w3) ?_
        repeat (go_big_quiet_step ((go_at_call 68; exact quietB (HP1.out _ (HO.out.ents.bl (hb.trans (BW.h _)))))))
        refine wpQuiet_nil ?_
        intro wq hw'
        have hwq : Bl w3 wq := by obtain ⟨x, hx⟩ := hw'; rw [hx]; exact x.h
        clear hw'
        have hrp := HRP.out.bl hwq
        clear HRP c1 x0 x1 x2 hb hwq c1' x0'
        obtain ⟨c1, x0, x1, x2, hb⟩ := hrp
        cases bd
        · go_wp2_with fail
          go_ret3
          exact rb_tuple3' rfl (ival (by rw [HPT.out]; rfl)) rfl (by repeat (first | assumption | exact Bl.refl _ | apply Bl.drewN | apply Bl.drew | apply Bl.alloc | (refine Bl.dr ?_ (by assumption)) | (refine Bl.trans ?_ (by assumption))))
        · go_wp2_with fail
          refine (HP2.out _ (HO.out.ents.bl (by repeat (first | assumption | exact Bl.refl _ | apply Bl.drewN | apply Bl.drew | apply Bl.alloc | (refine Bl.dr ?_ (by assumption)) | (refine Bl.trans ?_ (by assumption)))))).mono ?_; rintro e w4 ⟨rfl, hb4⟩
          go_wp2_with fail
          all_goals
            go_ret3
            exact rb_tuple3' rfl (ival (by rw [HPT.out]; simp only [if_true]; omega)) rfl (by repeat (first | assumption | exact Bl.refl _ | apply Bl.drewN | apply Bl.drew | apply Bl.alloc | (refine Bl.dr ?_ (by assumption)) | (refine Bl.trans ?_ (by assumption))))
      · unfold fencedV
        have hme := fun w => meth_fenced a l.length c a2 (f8 l).marks.length c2 w
        go_wp2_with fail
        
        refine wp_region_quiet_bw w3 (by kernel_rfl) (by kernel_rfl) (Bl.refl w3) ?_
        repeat (go_big_quiet_step ((go_at_call 69; exact quietB (HF1.out _ _ _ (HO.out.ents.bl (hb.trans (BW.h _))) (hm.bl (BW.h _)) h8))))
        refine wpQuiet_nil ?_
        intro wq hw'
        have hwq : Bl w3 wq := by obtain ⟨x, hx⟩ := hw'; rw [hx]; exact x.h
        clear hw'
        have hm := hm.bl hwq
        have hrp := HRP.out.bl hwq
        clear HRP c1 x0 x1 x2 hb hwq c1' x0'
        obtain ⟨c1, x0, x1, x2, hb⟩ := hrp
        cases bd
        · go_wp2_with fail
          go_ret3
          exact rb_tuple3' rfl (ival (by rw [HPT.out]; rfl)) rfl (by repeat (first | assumption | exact Bl.refl _ | apply Bl.drewN | apply Bl.drew | apply Bl.alloc | (refine Bl.dr ?_ (by assumption)) | (refine Bl.trans ?_ (by assumption))))
        · go_wp2_with fail
          refine (HF2.out _ _ _ (HO.out.ents.bl (by repeat (first | assumption | exact Bl.refl _ | apply Bl.drewN | apply Bl.drew | apply Bl.alloc | (refine Bl.dr ?_ (by assumption)) | (refine Bl.trans ?_ (by assumption))))) (hm.bl (by repeat (first | assumption | exact Bl.refl _ | apply Bl.drewN | apply Bl.drew | apply Bl.alloc | (refine Bl.dr ?_ (by assumption)) | (refine Bl.trans ?_ (by assumption))))) h8).mono ?_; rintro e w4 ⟨rfl, hb4⟩
          go_wp2_with fail
          all_goals
            go_ret3
            exact rb_tuple3' rfl (ival (by rw [HPT.out]; simp only [if_true]; omega)) rfl (by repeat (first | assumption | exact Bl.refl _ | apply Bl.drewN | apply Bl.drew | apply Bl.alloc | (refine Bl.dr ?_ (by assumption)) | (refine Bl.trans ?_ (by assumption))))
    · have hres : rpart r x = (0, 0, rchk x) := by unfold rpart; rw [if_neg (by simp [e]), if_pos f]
      rw [hres]
      rw [e] at hC
      have f' : (rchk x != 0) = true := by simp [f]
      generalize rchk x = q at *
      clear hres f e
      generalize hp : (rck r).1 = p1 at *
      have HC := Lib.hid hC
      have HO := Lib.hid h
      have HX := Lib.hid hX
      obtain ⟨id, l⟩ := r
      obtain ⟨lo, hi, bd⟩ := x
      unfold Rn.v Rng.v
      simp only at *
      clear hC h hX hx
      go_enter Tryd.func8, Tryd.ntmps8
      go_wp2_with fail
      refine (HC.out _ (HO.out.bl (by repeat (first | assumption | exact Bl.refl _ | apply Bl.drewN | apply Bl.drew | apply Bl.alloc | (refine Bl.dr ?_ (by assumption)) | (refine Bl.trans ?_ (by assumption)))))).mono ?_; rintro e w1 ⟨rfl, hb1⟩
      have hrp : RP w w1 a l.length c ⟨lo, hi, bd⟩ := ⟨hb1.cell (by simp [go_sem]), hb1.cell (by simp [go_sem]), hb1.cell (by simp [go_sem]), hb1.cell (by simp [go_sem]), (by repeat (first | assumption | exact Bl.refl _ | apply Bl.drewN | apply Bl.drew | apply Bl.alloc | (refine Bl.dr ?_ (by assumption)) | (refine Bl.trans ?_ (by assumption))))⟩
      have HRP := Lib.hid hrp
      obtain ⟨c1, x0, x1, x2, hb⟩ := hrp
      clear hb1
      go_wp2_with fail
      refine (HX.out _).mono ?_; rintro e w2 ⟨rfl, hb2⟩
      have hrp := HRP.out.bl hb2
      clear HRP c1 x0 x1 x2 hb hb2
      have HRP := Lib.hid hrp
      obtain ⟨c1, x0, x1, x2, hb⟩ := hrp
      go_wp2_with fail
      go_ret3
      exact rb_tuple3' rfl rfl rfl (by repeat (first | assumption | exact Bl.refl _ | apply Bl.drewN | apply Bl.drew | apply Bl.alloc | (refine Bl.dr ?_ (by assumption)) | (refine Bl.trans ?_ (by assumption))))
  · have hres : rpart r x = (0, 0, (rck r).2) := by unfold rpart; rw [if_pos e]
    rw [hres]
    have e' : ((rck r).2 != 0) = true := by simp [e]
    generalize (rck r).2 = q at *
    clear hres e
    generalize hp : (rck r).1 = p1 at *
    have HC := Lib.hid hC
    have HO := Lib.hid h
    have HX := Lib.hid hX
    obtain ⟨id, l⟩ := r
    obtain ⟨lo, hi, bd⟩ := x
    unfold Rn.v Rng.v
    simp only at *
    clear hC h hX hx
    go_enter Tryd.func8, Tryd.ntmps8
    go_wp2_with fail
    refine (HC.out _ (HO.out.bl (by repeat (first | assumption | exact Bl.refl _ | apply Bl.drewN | apply Bl.drew | apply Bl.alloc | (refine Bl.dr ?_ (by assumption)) | (refine Bl.trans ?_ (by assumption)))))).mono ?_; rintro e w1 ⟨rfl, hb1⟩
    have hrp : RP w w1 a l.length c ⟨lo, hi, bd⟩ := ⟨hb1.cell (by simp [go_sem]), hb1.cell (by simp [go_sem]), hb1.cell (by simp [go_sem]), hb1.cell (by simp [go_sem]), (by repeat (first | assumption | exact Bl.refl _ | apply Bl.drewN | apply Bl.drew | apply Bl.alloc | (refine Bl.dr ?_ (by assumption)) | (refine Bl.trans ?_ (by assumption))))⟩
    have HRP := Lib.hid hrp
    obtain ⟨c1, x0, x1, x2, hb⟩ := hrp
    clear hb1
    go_wp2_with fail
    go_ret3
    exact rb_tuple3' rfl rfl rfl (by repeat (first | assumption | exact Bl.refl _ | apply Bl.drewN | apply Bl.drew | apply Bl.alloc | (refine Bl.dr ?_ (by assumption)) | (refine Bl.trans ?_ (by assumption))))

end Go.Proofs.YtndcjgkgkpkklaaDoor
