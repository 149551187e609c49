/-
  Own texts laid together: RnE.
-/
import Derived.Test.YtinbdppekhcekaaZn
import Derived.IntWalk
/-
  Contracts of Part, of both.
-/
namespace Go.Proofs.Ytinbdppekhcekaa
open Go.RowKit
set_option linter.unusedSimpArgs false
set_option linter.unusedVariables false
set_option maxRecDepth 100000

/-- A run's own cells and a range's, in a loop. -/
structure RP (w wr : World) (a : Option Addr) (n c : Nat) (x : Rng) : Prop where
  c1 : wr.cell? ⟨w.heap.size, 1, none⟩ = some (.slice a n c)
  x0 : wr.cell? ⟨w.heap.size + 1, 0, none⟩ = some (.string x.lo)
  x1 : wr.cell? ⟨w.heap.size + 1, 1, none⟩ = some (.string x.hi)
  x2 : wr.cell? ⟨w.heap.size + 1, 2, none⟩ = some (.bool x.bd)
  hb : Bl w wr
theorem RP.bl {w wr wq : World} {a : Option Addr} {n c : Nat} {x : Rng} (h : RP w wr a n c x) (k : Bl wr wq) : RP w wq a n c x :=
  ⟨k.cell h.c1, k.cell h.x0, k.cell h.x1, k.cell h.x2, h.hb.trans k⟩
theorem rb_tuple3' {w w' : World} {a b c a' b' c' : Value} (h : a' = a) (k : b' = b) (j : c' = c) (hd : Bl w w') : RB w (.tuple #[a, b, c]) (.returned (.tuple #[a', b', c'])) w' := by subst h k j; exact ⟨rfl, hd⟩

theorem min_in {n q m : Nat} (h : min n q = m) (k : n < q) : m + 1 = min (n + 1) q := by omega
theorem min_out {n q m : Nat} (h : min n q = m) (k : q ≤ n) : m = min (n + 1) q := by omega


set_option maxHeartbeats 4000000 in
theorem runPart (a : Option Addr) (c : Nat) (r : Rn) (x : Rng) (w : World) (h : ROk w a c r) (hx : x.ok) :
    Calls Try.prog 38 #[r.v a c, x.v] w (RB w (.tuple #[.int .i64 (rpart r x).1, .int .i64 (rpart r x).2.1, .int .i64 (rpart r x).2.2])) := by
  have hC := fun w h => runCheck a c r w h
  have hX := fun w => keysCheckRange x w hx
  by_cases e : (rck r).2 = 0
  · by_cases f : rchk x = 0
    · obtain ⟨-, -, o3, o4, -, o5⟩ := rck_ok e
      have o6 : x.lo.size ≤ 32 ∧ x.hi.size ≤ 32 := by
        unfold rchk at f
        rcases ktwo_cases x.lo x.hi with g | g
        · rw [g] at f; simp at f
        · unfold ktwo at g
          split at g
          · cases g
          · omega
      have hS := fun w hh => runSearched a c r.es w hh h.len h.cap o3
      have hP := fun k w hh => plainBelow a c r.es k w hh (Nat.le_trans h.len h.cap) o5
      have hF := fun k a2 c2 w hh hks hm h8 => fencedBelow a c a2 c2 r.es k w hh h.len h.cap o3 hks hm h8
      have hres : rpart r x = ((cntLtE r.es x.lo : Int), (pTo r.es x : Int), 0) := by
        unfold rpart; rw [if_neg (by simp [e]), if_neg (by simp [f])]
      rw [hres]
      have hpt : pTo r.es x = if x.bd = true then max (cntLtE r.es x.hi) (cntLtE r.es x.lo) else r.es.length := rfl
      have hq1 := cntLtE_le r.es x.lo
      have hq2 := cntLtE_le r.es x.hi
      have hP1 := hP x.lo
      have hP2 := hP x.hi
      have hF1 := fun a2 c2 w hh hm h8 => hF x.lo a2 c2 w hh o6.1 hm h8
      have hF2 := fun a2 c2 w hh hm h8 => hF x.hi a2 c2 w hh o6.2 hm h8
      rw [f] at hX
      rw [e] at hC
      generalize pTo r.es x = pt at *
      generalize cntLtE r.es x.lo = q1 at *
      generalize cntLtE r.es x.hi = q2 at *
      clear hP hF e f o3 o5 hres
      have HS := Lib.hid hS
      have HP1 := Lib.hid hP1
      have HP2 := Lib.hid hP2
      have HF1 := Lib.hid hF1
      have HF2 := Lib.hid hF2
      have HPT := Lib.hid hpt
      clear hS hP1 hP2 hF1 hF2 hpt o6
      generalize hp : (rck r).1 = p1 at *
      have HC := Lib.hid hC
      have HO := Lib.hid h
      have HX := Lib.hid hX
      obtain ⟨id, l⟩ := r
      obtain ⟨lo, hi, bd⟩ := x
      unfold Rn.v Rng.v
      simp only at *
      clear hC h hX hx
      go_enter Try.func38, Try.ntmps38
      go_wp2_with fail
      refine (HC.out _ (HO.out.bl (by repeat (first | assumption | exact Bl.refl _ | apply Bl.drewN | apply Bl.drew | apply Bl.alloc | (refine Bl.dr ?_ (by assumption)) | (refine Bl.trans ?_ (by assumption)))))).mono ?_; rintro e w1 ⟨rfl, hb1⟩
      have hrp : RP w w1 a l.length c ⟨lo, hi, bd⟩ := ⟨hb1.cell (by simp [go_sem]), hb1.cell (by simp [go_sem]), hb1.cell (by simp [go_sem]), hb1.cell (by simp [go_sem]), (by repeat (first | assumption | exact Bl.refl _ | apply Bl.drewN | apply Bl.drew | apply Bl.alloc | (refine Bl.dr ?_ (by assumption)) | (refine Bl.trans ?_ (by assumption))))⟩
      have HRP := Lib.hid hrp
      obtain ⟨c1, x0, x1, x2, hb⟩ := hrp
      clear hb1
      go_wp2_with fail
      refine (HX.out _).mono ?_; rintro e w2 ⟨rfl, hb2⟩
      have hrp := HRP.out.bl hb2
      clear HRP c1 x0 x1 x2 hb hb2
      have HRP := Lib.hid hrp
      obtain ⟨c1, x0, x1, x2, hb⟩ := hrp
      go_wp2_with fail
      refine (HS.out _ (HO.out.ents.bl (by repeat (first | assumption | exact Bl.refl _ | apply Bl.drewN | apply Bl.drew | apply Bl.alloc | (refine Bl.dr ?_ (by assumption)) | (refine Bl.trans ?_ (by assumption)))))).mono ?_; rintro e w3 ⟨v, rfl, hs, hb3⟩
      have hrp := HRP.out.bl hb3
      clear HRP c1 x0 x1 x2 hb hb3
      have HRP := Lib.hid hrp
      obtain ⟨c1, x0, x1, x2, hb⟩ := hrp
      have c1' : ∀ z : BW w3, z.w.cell? ⟨w.heap.size, 1, none⟩ = some (.slice a l.length c) := BW.cell c1
      have x0' : ∀ z : BW w3, z.w.cell? ⟨w.heap.size + 1, 0, none⟩ = some (.string lo) := BW.cell x0
      rcases hs with rfl | ⟨h8, a2, c2, rfl, hm⟩
      · unfold plainV
        have hme := fun w => meth_plain a l.length c w
        go_wp2_with fail
        
        refine wp_region_quiet_bw w3 (by kernel_rfl) (by kernel_rfl) (Bl.refl w3) ?_
        repeat (go_big_quiet_step ((go_at_call 80; exact quietB (HP1.out _ (HO.out.ents.bl (hb.trans (BW.h _)))))))
        refine wpQuiet_nil ?_
        intro wq hw'
        have hwq : Bl w3 wq := by obtain ⟨x, hx⟩ := hw'; rw [hx]; exact x.h
        clear hw'
        have hrp := HRP.out.bl hwq
        clear HRP c1 x0 x1 x2 hb hwq c1' x0'
        obtain ⟨c1, x0, x1, x2, hb⟩ := hrp
        cases bd
        · go_wp2_with fail
          go_ret3
          exact rb_tuple3' rfl (ival (by rw [HPT.out]; rfl)) rfl (by repeat (first | assumption | exact Bl.refl _ | apply Bl.drewN | apply Bl.drew | apply Bl.alloc | (refine Bl.dr ?_ (by assumption)) | (refine Bl.trans ?_ (by assumption))))
        · go_wp2_with fail
          refine (HP2.out _ (HO.out.ents.bl (by repeat (first | assumption | exact Bl.refl _ | apply Bl.drewN | apply Bl.drew | apply Bl.alloc | (refine Bl.dr ?_ (by assumption)) | (refine Bl.trans ?_ (by assumption)))))).mono ?_; rintro e w4 ⟨rfl, hb4⟩
          go_wp2_with fail
          all_goals
            go_ret3
            exact rb_tuple3' rfl (ival (by rw [HPT.out]; simp only [if_true]; omega)) rfl (by repeat (first | assumption | exact Bl.refl _ | apply Bl.drewN | apply Bl.drew | apply Bl.alloc | (refine Bl.dr ?_ (by assumption)) | (refine Bl.trans ?_ (by assumption))))
      · unfold fencedV
        have hme := fun w => meth_fenced a l.length c a2 (f8 l).marks.length c2 w
        go_wp2_with fail
        
        refine wp_region_quiet_bw w3 (by kernel_rfl) (by kernel_rfl) (Bl.refl w3) ?_
        repeat (go_big_quiet_step ((go_at_call 81; exact quietB (HF1.out _ _ _ (HO.out.ents.bl (hb.trans (BW.h _))) (hm.bl (BW.h _)) h8))))
        refine wpQuiet_nil ?_
        intro wq hw'
        have hwq : Bl w3 wq := by obtain ⟨x, hx⟩ := hw'; rw [hx]; exact x.h
        clear hw'
        have hm := hm.bl hwq
        have hrp := HRP.out.bl hwq
        clear HRP c1 x0 x1 x2 hb hwq c1' x0'
        obtain ⟨c1, x0, x1, x2, hb⟩ := hrp
        cases bd
        · go_wp2_with fail
          go_ret3
          exact rb_tuple3' rfl (ival (by rw [HPT.out]; rfl)) rfl (by repeat (first | assumption | exact Bl.refl _ | apply Bl.drewN | apply Bl.drew | apply Bl.alloc | (refine Bl.dr ?_ (by assumption)) | (refine Bl.trans ?_ (by assumption))))
        · go_wp2_with fail
          refine (HF2.out _ _ _ (HO.out.ents.bl (by repeat (first | assumption | exact Bl.refl _ | apply Bl.drewN | apply Bl.drew | apply Bl.alloc | (refine Bl.dr ?_ (by assumption)) | (refine Bl.trans ?_ (by assumption))))) (hm.bl (by repeat (first | assumption | exact Bl.refl _ | apply Bl.drewN | apply Bl.drew | apply Bl.alloc | (refine Bl.dr ?_ (by assumption)) | (refine Bl.trans ?_ (by assumption))))) h8).mono ?_; rintro e w4 ⟨rfl, hb4⟩
          go_wp2_with fail
          all_goals
            go_ret3
            exact rb_tuple3' rfl (ival (by rw [HPT.out]; simp only [if_true]; omega)) rfl (by repeat (first | assumption | exact Bl.refl _ | apply Bl.drewN | apply Bl.drew | apply Bl.alloc | (refine Bl.dr ?_ (by assumption)) | (refine Bl.trans ?_ (by assumption))))
    · have hres : rpart r x = (0, 0, rchk x) := by unfold rpart; rw [if_neg (by simp [e]), if_pos f]
      rw [hres]
      rw [e] at hC
      have f' : (rchk x != 0) = true := by simp [f]
      generalize rchk x = q at *
      clear hres f e
      generalize hp : (rck r).1 = p1 at *
      have HC := Lib.hid hC
      have HO := Lib.hid h
      have HX := Lib.hid hX
      obtain ⟨id, l⟩ := r
      obtain ⟨lo, hi, bd⟩ := x
      unfold Rn.v Rng.v
      simp only at *
      clear hC h hX hx
      go_enter Try.func38, Try.ntmps38
      go_wp2_with fail
      refine (HC.out _ (HO.out.bl (by repeat (first | assumption | exact Bl.refl _ | apply Bl.drewN | apply Bl.drew | apply Bl.alloc | (refine Bl.dr ?_ (by assumption)) | (refine Bl.trans ?_ (by assumption)))))).mono ?_; rintro e w1 ⟨rfl, hb1⟩
      have hrp : RP w w1 a l.length c ⟨lo, hi, bd⟩ := ⟨hb1.cell (by simp [go_sem]), hb1.cell (by simp [go_sem]), hb1.cell (by simp [go_sem]), hb1.cell (by simp [go_sem]), (by repeat (first | assumption | exact Bl.refl _ | apply Bl.drewN | apply Bl.drew | apply Bl.alloc | (refine Bl.dr ?_ (by assumption)) | (refine Bl.trans ?_ (by assumption))))⟩
      have HRP := Lib.hid hrp
      obtain ⟨c1, x0, x1, x2, hb⟩ := hrp
      clear hb1
      go_wp2_with fail
      refine (HX.out _).mono ?_; rintro e w2 ⟨rfl, hb2⟩
      have hrp := HRP.out.bl hb2
      clear HRP c1 x0 x1 x2 hb hb2
      have HRP := Lib.hid hrp
      obtain ⟨c1, x0, x1, x2, hb⟩ := hrp
      go_wp2_with fail
      go_ret3
      exact rb_tuple3' rfl rfl rfl (by repeat (first | assumption | exact Bl.refl _ | apply Bl.drewN | apply Bl.drew | apply Bl.alloc | (refine Bl.dr ?_ (by assumption)) | (refine Bl.trans ?_ (by assumption))))
  · have hres : rpart r x = (0, 0, (rck r).2) := by unfold rpart; rw [if_pos e]
    rw [hres]
    have e' : ((rck r).2 != 0) = true := by simp [e]
    generalize (rck r).2 = q at *
    clear hres e
    generalize hp : (rck r).1 = p1 at *
    have HC := Lib.hid hC
    have HO := Lib.hid h
    have HX := Lib.hid hX
    obtain ⟨id, l⟩ := r
    obtain ⟨lo, hi, bd⟩ := x
    unfold Rn.v Rng.v
    simp only at *
    clear hC h hX hx
    go_enter Try.func38, Try.ntmps38
    go_wp2_with fail
    refine (HC.out _ (HO.out.bl (by repeat (first | assumption | exact Bl.refl _ | apply Bl.drewN | apply Bl.drew | apply Bl.alloc | (refine Bl.dr ?_ (by assumption)) | (refine Bl.trans ?_ (by assumption)))))).mono ?_; rintro e w1 ⟨rfl, hb1⟩
    have hrp : RP w w1 a l.length c ⟨lo, hi, bd⟩ := ⟨hb1.cell (by simp [go_sem]), hb1.cell (by simp [go_sem]), hb1.cell (by simp [go_sem]), hb1.cell (by simp [go_sem]), (by repeat (first | assumption | exact Bl.refl _ | apply Bl.drewN | apply Bl.drew | apply Bl.alloc | (refine Bl.dr ?_ (by assumption)) | (refine Bl.trans ?_ (by assumption))))⟩
    have HRP := Lib.hid hrp
    obtain ⟨c1, x0, x1, x2, hb⟩ := hrp
    clear hb1
    go_wp2_with fail
    go_ret3
    exact rb_tuple3' rfl rfl rfl (by repeat (first | assumption | exact Bl.refl _ | apply Bl.drewN | apply Bl.drew | apply Bl.alloc | (refine Bl.dr ?_ (by assumption)) | (refine Bl.trans ?_ (by assumption))))

set_option maxHeartbeats 4000000 in
theorem refRunPart (a : Option Addr) (c : Nat) (r : Rn) (x : Rng) (w : World) (h : ROk w a c r) (hx : x.ok) :
    Calls Try.prog 46 #[r.v a c, x.v] w (RB w (.tuple #[.int .i64 (rpart r x).1, .int .i64 (rpart r x).2.1, .int .i64 (rpart r x).2.2])) := by
  have hC := fun w h => refRunCheck a c r w h
  have hX := fun w => refCheckRange x w hx
  by_cases e : (rck r).2 = 0
  · by_cases f : rchk x = 0
    · obtain ⟨-, -, o3, o4, -, o5⟩ := rck_ok e
      have hres : rpart r x = ((cntLtE r.es x.lo : Int), (pTo r.es x : Int), 0) := by
        unfold rpart; rw [if_neg (by simp [e]), if_neg (by simp [f])]
      rw [hres]
      have hpt : pTo r.es x = if x.bd = true then max (cntLtE r.es x.hi) (cntLtE r.es x.lo) else r.es.length := rfl
      have hq1 := cntLtE_le r.es x.lo
      have hq2 := cntLtE_le r.es x.hi
      have hk1 := fun (j : Nat) y (hy : r.es[j]? = some y) => key_lt o5 (k := x.lo) hy
      have hk2 := fun (j : Nat) y (hy : r.es[j]? = some y) => key_lt o5 (k := x.hi) hy
      have hO1 := fun (t : ByteArray) w (ht : t.size ≤ maxLen) => refOrder t x.lo w ht hx.1
      have hO2 := fun (t : ByteArray) w (ht : t.size ≤ maxLen) => refOrder t x.hi w ht hx.2
      rw [f] at hX
      rw [e] at hC
      generalize pTo r.es x = pt at *
      generalize cntLtE r.es x.lo = q1 at *
      generalize cntLtE r.es x.hi = q2 at *
      clear e f o3 o5 hres
      have HK1 := Lib.hid hk1
      have HK2 := Lib.hid hk2
      have HO1 := Lib.hid hO1
      have HO2 := Lib.hid hO2
      have HPT := Lib.hid hpt
      clear hk1 hk2 hO1 hO2 hpt
      generalize hp : (rck r).1 = p1 at *
      have HC := Lib.hid hC
      have HO := Lib.hid h
      have HX := Lib.hid hX
      obtain ⟨id, l⟩ := r
      obtain ⟨lo, hi, bd⟩ := x
      unfold Rn.v Rng.v
      simp only at *
      clear hC h hX hx
      go_enter Try.func46, Try.ntmps46
      go_wp2_with fail
      refine (HC.out _ (HO.out.bl (by repeat (first | assumption | exact Bl.refl _ | apply Bl.drewN | apply Bl.drew | apply Bl.alloc | (refine Bl.dr ?_ (by assumption)) | (refine Bl.trans ?_ (by assumption)))))).mono ?_; rintro e w1 ⟨rfl, hb1⟩
      have hrp : RP w w1 a l.length c ⟨lo, hi, bd⟩ := ⟨hb1.cell (by simp [go_sem]), hb1.cell (by simp [go_sem]), hb1.cell (by simp [go_sem]), hb1.cell (by simp [go_sem]), (by repeat (first | assumption | exact Bl.refl _ | apply Bl.drewN | apply Bl.drew | apply Bl.alloc | (refine Bl.dr ?_ (by assumption)) | (refine Bl.trans ?_ (by assumption))))⟩
      have HRP := Lib.hid hrp
      obtain ⟨c1, x0, x1, x2, hb⟩ := hrp
      clear hb1
      go_wp2_with fail
      refine (HX.out _).mono ?_; rintro e w2 ⟨rfl, hb2⟩
      have hrp := HRP.out.bl hb2
      clear HRP c1 x0 x1 x2 hb hb2
      have HRP := Lib.hid hrp
      obtain ⟨c1, x0, x1, x2, hb⟩ := hrp
      go_wp2_with fail
      go_loopg [9, 10, 11, 12] l.length (fun g p q i z wr => ∃ n : Nat, n ≤ l.length ∧ i = .int .i64 n ∧ p = .int .i64 ((min n q1 : Nat) : Int) ∧ q = .int .i64 ((if bd = true then min n q2 else n : Nat) : Int) ∧ RP w wr a l.length c ⟨lo, hi, bd⟩ ∧ g = l.length - n)
      case atStart => exact ⟨0, by omega, rfl, by simp, by simp, HRP.out, rfl⟩
      case round =>
        clear c1 x0 x1 x2 hb HRP
        obtain ⟨n, hn1, rfl, rfl, rfl, hrp, hg⟩ := hrel
        have HRP := Lib.hid hrp
        obtain ⟨c1, x0, x1, x2, hb⟩ := hrp
        have G := Lib.hid hg
        clear hg
        obtain ⟨m1, hm1⟩ : ∃ m1, min n q1 = m1 := ⟨_, rfl⟩
        obtain ⟨m2, hm2⟩ : ∃ m2, (if bd = true then min n q2 else n : Nat) = m2 := ⟨_, rfl⟩
        rw [hm1, hm2]
        have b1 : m1 ≤ n := by omega
        have b2 : m2 ≤ n := by rw [← hm2]; split <;> omega
        have HM1 := Lib.hid hm1
        have HM2 := Lib.hid hm2
        clear hm1 hm2
        by_cases h1 : n < l.length
        · obtain ⟨b, off, rfl, hat⟩ := HO.out.ents.get h1
          obtain ⟨y, hy⟩ : ∃ y, l[n]? = some y := ⟨_, List.getElem?_eq_getElem h1⟩
          have d0 := ((hat n y hy).bl hb).key
          have hyk := (HO.out.ents.ok y (List.mem_of_getElem? hy)).1
          have k1 := HK1.out n y hy
          have k2 := HK2.out n y hy
          rw [← cmpS_lss] at k1 k2
          have A1 := Lib.hid (fun w => HO1.out y.key w hyk)
          have A2 := Lib.hid (fun w => HO2.out y.key w hyk)
          clear hat hy hyk
          generalize cmpS y.key lo = v1 at *
          generalize cmpS y.key hi = v2 at *
          have fin : ∀ (p' q' : Nat) (W : World), RP w W (some ⟨b, off, none⟩) l.length c ⟨lo, hi, bd⟩ → p' = min (n + 1) q1 → q' = (if bd = true then min (n + 1) q2 else n + 1) → (∃ n' : Nat, n' ≤ l.length ∧ Value.int .i64 ((n : Int) + 1) = .int .i64 n' ∧ Value.int .i64 (p' : Int) = .int .i64 ((min n' q1 : Nat) : Int) ∧ Value.int .i64 (q' : Int) = .int .i64 ((if bd = true then min n' q2 else n' : Nat) : Int) ∧ RP w W (some ⟨b, off, none⟩) l.length c ⟨lo, hi, bd⟩ ∧ l.length - (n + 1) = l.length - n') :=
            fun p' q' W hr hp hq => ⟨n + 1, by omega, by go_num, by rw [hp], by rw [hq], hr, rfl⟩
          have FIN := Lib.hid fin
          clear fin
          have K1 := Lib.hid k1
          have K2 := Lib.hid k2
          clear k1 k2
          cases u1 : decide (v1 < 0)
          all_goals
            have v1' := u1
            have k1 := K1.out.symm.trans u1
            clear u1
            go_wp2_with fail
            refine (A1.out _).mono ?_; rintro e w' ⟨rfl, n1, rfl⟩
            have hrp := HRP.out.bl (Bl.of_dr ⟨n1, rfl⟩)
            clear HRP c1 x0 x1 x2 hb
            have HRP := Lib.hid hrp
            obtain ⟨c1, x0, x1, x2, hb⟩ := hrp
            cases bd
            · go_wp2_with fail
              go_roundg (l.length - (n + 1))
              case rel =>
                refine FIN.out _ _ _ (by first | exact HRP.out | (rw [← World.drewN_drewN]; exact HRP.out)) ?_ ?_
                · simp at k1; have := HM1.out; first | exact min_in this k1 | exact min_out this k1
                · have := HM2.out; simp at this; simp; omega
              case measure => rw [G.out]; omega
            · cases u2 : decide (v2 < 0)
              all_goals
                have v2' := u2
                have k2 := K2.out.symm.trans u2
                clear u2
                go_wp2_with fail
                refine (A2.out _).mono ?_; rintro e w' ⟨rfl, n2, rfl⟩
                have hrp := HRP.out.bl (Bl.of_dr ⟨n2, rfl⟩)
                have HRP := Lib.hid hrp
                clear hrp
                go_wp2_with fail
                go_roundg (l.length - (n + 1))
                case rel =>
                  refine FIN.out _ _ _ (by first | exact HRP.out | (rw [← World.drewN_drewN]; exact HRP.out)) ?_ ?_
                  · simp at k1; have := HM1.out; first | exact min_in this k1 | exact min_out this k1
                  · simp at k2; have := HM2.out; simp at this; simp only [if_true]; first | exact min_in this k2 | exact min_out this k2
                case measure => rw [G.out]; omega
        · go_wp2_with fail
          all_goals
            go_ret3
            refine rb_tuple3' (ival ?_) (ival ?_) rfl (by repeat (first | assumption | exact Bl.refl _ | apply Bl.drewN | apply Bl.drew | apply Bl.alloc | (refine Bl.dr ?_ (by assumption)) | (refine Bl.trans ?_ (by assumption))))
            · rw [← HM1.out]; omega
            · rw [HPT.out, ← HM2.out, ← HM1.out] at *
              cases bd
              · simp only [Bool.false_eq_true, if_false] at *; omega
              · simp only [if_true] at *; omega
    · have hres : rpart r x = (0, 0, rchk x) := by unfold rpart; rw [if_neg (by simp [e]), if_pos f]
      rw [hres]
      rw [e] at hC
      have f' : (rchk x != 0) = true := by simp [f]
      generalize rchk x = q at *
      clear hres f e
      generalize hp : (rck r).1 = p1 at *
      have HC := Lib.hid hC
      have HO := Lib.hid h
      have HX := Lib.hid hX
      obtain ⟨id, l⟩ := r
      obtain ⟨lo, hi, bd⟩ := x
      unfold Rn.v Rng.v
      simp only at *
      clear hC h hX hx
      go_enter Try.func46, Try.ntmps46
      go_wp2_with fail
      refine (HC.out _ (HO.out.bl (by repeat (first | assumption | exact Bl.refl _ | apply Bl.drewN | apply Bl.drew | apply Bl.alloc | (refine Bl.dr ?_ (by assumption)) | (refine Bl.trans ?_ (by assumption)))))).mono ?_; rintro e w1 ⟨rfl, hb1⟩
      have hrp : RP w w1 a l.length c ⟨lo, hi, bd⟩ := ⟨hb1.cell (by simp [go_sem]), hb1.cell (by simp [go_sem]), hb1.cell (by simp [go_sem]), hb1.cell (by simp [go_sem]), (by repeat (first | assumption | exact Bl.refl _ | apply Bl.drewN | apply Bl.drew | apply Bl.alloc | (refine Bl.dr ?_ (by assumption)) | (refine Bl.trans ?_ (by assumption))))⟩
      have HRP := Lib.hid hrp
      obtain ⟨c1, x0, x1, x2, hb⟩ := hrp
      clear hb1
      go_wp2_with fail
      refine (HX.out _).mono ?_; rintro e w2 ⟨rfl, hb2⟩
      have hrp := HRP.out.bl hb2
      clear HRP c1 x0 x1 x2 hb hb2
      have HRP := Lib.hid hrp
      obtain ⟨c1, x0, x1, x2, hb⟩ := hrp
      go_wp2_with fail
      go_ret3
      exact rb_tuple3' rfl rfl rfl (by repeat (first | assumption | exact Bl.refl _ | apply Bl.drewN | apply Bl.drew | apply Bl.alloc | (refine Bl.dr ?_ (by assumption)) | (refine Bl.trans ?_ (by assumption))))
  · have hres : rpart r x = (0, 0, (rck r).2) := by unfold rpart; rw [if_pos e]
    rw [hres]
    have e' : ((rck r).2 != 0) = true := by simp [e]
    have e2 : ((rck r).2 == 0) = false := by simp [e]
    generalize (rck r).2 = q at *
    clear hres e
    generalize hp : (rck r).1 = p1 at *
    have HC := Lib.hid hC
    have HO := Lib.hid h
    have HX := Lib.hid hX
    obtain ⟨id, l⟩ := r
    obtain ⟨lo, hi, bd⟩ := x
    unfold Rn.v Rng.v
    simp only at *
    clear hC h hX hx
    go_enter Try.func46, Try.ntmps46
    go_wp2_with fail
    refine (HC.out _ (HO.out.bl (by repeat (first | assumption | exact Bl.refl _ | apply Bl.drewN | apply Bl.drew | apply Bl.alloc | (refine Bl.dr ?_ (by assumption)) | (refine Bl.trans ?_ (by assumption)))))).mono ?_; rintro e w1 ⟨rfl, hb1⟩
    have hrp : RP w w1 a l.length c ⟨lo, hi, bd⟩ := ⟨hb1.cell (by simp [go_sem]), hb1.cell (by simp [go_sem]), hb1.cell (by simp [go_sem]), hb1.cell (by simp [go_sem]), (by repeat (first | assumption | exact Bl.refl _ | apply Bl.drewN | apply Bl.drew | apply Bl.alloc | (refine Bl.dr ?_ (by assumption)) | (refine Bl.trans ?_ (by assumption))))⟩
    have HRP := Lib.hid hrp
    obtain ⟨c1, x0, x1, x2, hb⟩ := hrp
    clear hb1
    go_wp2_with fail
    go_ret3
    exact rb_tuple3' rfl rfl rfl (by repeat (first | assumption | exact Bl.refl _ | apply Bl.drewN | apply Bl.drew | apply Bl.alloc | (refine Bl.dr ?_ (by assumption)) | (refine Bl.trans ?_ (by assumption))))
end Go.Proofs.Ytinbdppekhcekaa
