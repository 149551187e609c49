/-
  The law KeysSorted, walked.
-/
import Derived.Test.YtldccffbjohokaaDoorLkB
namespace Go.Proofs.YtldccffbjohokaaDoor
open Go.RowKit
set_option linter.unusedSimpArgs false
set_option linter.unusedVariables false


theorem cmpV {x y : ByteArray} {q : Int} (h : cmpS x y = q) (hx : x.size ≤ 32) (hy : y.size ≤ 32) (w : World) : Calls Tryd.prog 19 #[.string x, .string y] w (RB w (.tuple #[.int .i64 q, .int .i64 0])) := by
  have := keysCompare x y w (by unfold maxLen; omega) (by unfold maxLen; omega)
  unfold kcmp at this
  rw [ktwo_ok (by omega), if_neg (by simp), h] at this; exact this
theorem cmnV {x y : ByteArray} {q : Nat} (h : cmn x.data.toList y.data.toList = q) (hx : x.size ≤ 32) (hy : y.size ≤ 32) (w : World) : Calls Tryd.prog 21 #[.string x, .string y] w (RB w (.tuple #[.int .i64 (q : Int), .int .i64 0])) := by
  have := keysCommonX x y w (by unfold maxLen; omega) (by unfold maxLen; omega)
  unfold kcmn at this
  rw [ktwo_ok (by omega), if_neg (by simp), h] at this; exact this

set_option maxRecDepth 100000 in
set_option maxHeartbeats 4000000 in
theorem lawSorted (a b t : ByteArray) (w : World) (ha : a.size ≤ maxLen) (hb : b.size ≤ maxLen) (ht : t.size ≤ maxLen) (hT : Tabs w) :
    Calls Tryd.prog 6 #[.string a, .string b, .string t] w (RB w (.bool true)) := by
  have HA := Lib.hid (fun w h => lawAwake w h)
  have HT := Lib.hid (fun W (h : Bl w W) => tabs_bl hT h)
  have hb' := hb
  clear hT hb
  have hb : Bl w w := Bl.refl w
  go_enter Tryd.func6, Tryd.ntmps6
  by_cases a1 : 200 < a.size
  · go_wp2_with fail
    refine (farT a1 ha _).mono ?_; rintro e w1 ⟨rfl, hdf⟩
    have hb : Bl w w1 := (by repeat (first | assumption | exact Bl.refl _ | apply Bl.drewN | apply Bl.drew | apply Bl.alloc | (refine Bl.dr ?_ (by assumption)) | (refine Bl.trans ?_ (by assumption))))
    clear hdf
    go_wp2_with fail
    refine (HA.out _ (HT.out _ (by repeat (first | assumption | exact Bl.refl _ | apply Bl.drewN | apply Bl.drew | apply Bl.alloc | (refine Bl.dr ?_ (by assumption)) | (refine Bl.trans ?_ (by assumption)))))).mono ?_; rintro e w8 ⟨rfl, hb8⟩
    go_wp2_with fail
    go_ret
    exact RB.mk rfl (by repeat (first | assumption | exact Bl.refl _ | apply Bl.drewN | apply Bl.drew | apply Bl.alloc | (refine Bl.dr ?_ (by assumption)) | (refine Bl.trans ?_ (by assumption))))
  by_cases b1 : 200 < b.size
  · go_wp2_with fail
    refine (farF a1 _).mono ?_; rintro e w1 ⟨rfl, hdf⟩
    have hb : Bl w w1 := (by repeat (first | assumption | exact Bl.refl _ | apply Bl.drewN | apply Bl.drew | apply Bl.alloc | (refine Bl.dr ?_ (by assumption)) | (refine Bl.trans ?_ (by assumption))))
    clear hdf
    go_wp2_with fail
    refine (farT b1 hb' _).mono ?_; rintro e w2 ⟨rfl, hdf⟩
    have hb : Bl w w2 := (by repeat (first | assumption | exact Bl.refl _ | apply Bl.drewN | apply Bl.drew | apply Bl.alloc | (refine Bl.dr ?_ (by assumption)) | (refine Bl.trans ?_ (by assumption))))
    clear hdf
    go_wp2_with fail
    refine (HA.out _ (HT.out _ (by repeat (first | assumption | exact Bl.refl _ | apply Bl.drewN | apply Bl.drew | apply Bl.alloc | (refine Bl.dr ?_ (by assumption)) | (refine Bl.trans ?_ (by assumption)))))).mono ?_; rintro e w8 ⟨rfl, hb8⟩
    go_wp2_with fail
    go_ret
    exact RB.mk rfl (by repeat (first | assumption | exact Bl.refl _ | apply Bl.drewN | apply Bl.drew | apply Bl.alloc | (refine Bl.dr ?_ (by assumption)) | (refine Bl.trans ?_ (by assumption))))
  by_cases t1 : 200 < t.size
  · go_wp2_with fail
    refine (farF a1 _).mono ?_; rintro e w1 ⟨rfl, hdf⟩
    have hb : Bl w w1 := (by repeat (first | assumption | exact Bl.refl _ | apply Bl.drewN | apply Bl.drew | apply Bl.alloc | (refine Bl.dr ?_ (by assumption)) | (refine Bl.trans ?_ (by assumption))))
    clear hdf
    go_wp2_with fail
    refine (farF b1 _).mono ?_; rintro e w2 ⟨rfl, hdf⟩
    have hb : Bl w w2 := (by repeat (first | assumption | exact Bl.refl _ | apply Bl.drewN | apply Bl.drew | apply Bl.alloc | (refine Bl.dr ?_ (by assumption)) | (refine Bl.trans ?_ (by assumption))))
    clear hdf
    go_wp2_with fail
    refine (farT t1 ht _).mono ?_; rintro e w3 ⟨rfl, hdf⟩
    have hb : Bl w w3 := (by repeat (first | assumption | exact Bl.refl _ | apply Bl.drewN | apply Bl.drew | apply Bl.alloc | (refine Bl.dr ?_ (by assumption)) | (refine Bl.trans ?_ (by assumption))))
    clear hdf
    go_wp2_with fail
    refine (HA.out _ (HT.out _ (by repeat (first | assumption | exact Bl.refl _ | apply Bl.drewN | apply Bl.drew | apply Bl.alloc | (refine Bl.dr ?_ (by assumption)) | (refine Bl.trans ?_ (by assumption)))))).mono ?_; rintro e w8 ⟨rfl, hb8⟩
    go_wp2_with fail
    go_ret
    exact RB.mk rfl (by repeat (first | assumption | exact Bl.refl _ | apply Bl.drewN | apply Bl.drew | apply Bl.alloc | (refine Bl.dr ?_ (by assumption)) | (refine Bl.trans ?_ (by assumption))))
  by_cases a2 : 32 < a.size
  · go_wp2_with fail
    refine (farF a1 _).mono ?_; rintro e w1 ⟨rfl, hdf⟩
    have hb : Bl w w1 := (by repeat (first | assumption | exact Bl.refl _ | apply Bl.drewN | apply Bl.drew | apply Bl.alloc | (refine Bl.dr ?_ (by assumption)) | (refine Bl.trans ?_ (by assumption))))
    clear hdf
    go_wp2_with fail
    refine (farF b1 _).mono ?_; rintro e w2 ⟨rfl, hdf⟩
    have hb : Bl w w2 := (by repeat (first | assumption | exact Bl.refl _ | apply Bl.drewN | apply Bl.drew | apply Bl.alloc | (refine Bl.dr ?_ (by assumption)) | (refine Bl.trans ?_ (by assumption))))
    clear hdf
    go_wp2_with fail
    refine (farF t1 _).mono ?_; rintro e w3 ⟨rfl, hdf⟩
    have hb : Bl w w3 := (by repeat (first | assumption | exact Bl.refl _ | apply Bl.drewN | apply Bl.drew | apply Bl.alloc | (refine Bl.dr ?_ (by assumption)) | (refine Bl.trans ?_ (by assumption))))
    clear hdf
    go_wp2_with fail
    refine (chkT a2 ha _).mono ?_; rintro e w4 ⟨rfl, hdf⟩
    have hb : Bl w w4 := (by repeat (first | assumption | exact Bl.refl _ | apply Bl.drewN | apply Bl.drew | apply Bl.alloc | (refine Bl.dr ?_ (by assumption)) | (refine Bl.trans ?_ (by assumption))))
    clear hdf
    go_wp2_with fail
    refine (HA.out _ (HT.out _ (by repeat (first | assumption | exact Bl.refl _ | apply Bl.drewN | apply Bl.drew | apply Bl.alloc | (refine Bl.dr ?_ (by assumption)) | (refine Bl.trans ?_ (by assumption)))))).mono ?_; rintro e w8 ⟨rfl, hb8⟩
    go_wp2_with fail
    go_ret
    exact RB.mk rfl (by repeat (first | assumption | exact Bl.refl _ | apply Bl.drewN | apply Bl.drew | apply Bl.alloc | (refine Bl.dr ?_ (by assumption)) | (refine Bl.trans ?_ (by assumption))))
  by_cases b2 : 32 < b.size
  · go_wp2_with fail
    refine (farF a1 _).mono ?_; rintro e w1 ⟨rfl, hdf⟩
    have hb : Bl w w1 := (by repeat (first | assumption | exact Bl.refl _ | apply Bl.drewN | apply Bl.drew | apply Bl.alloc | (refine Bl.dr ?_ (by assumption)) | (refine Bl.trans ?_ (by assumption))))
    clear hdf
    go_wp2_with fail
    refine (farF b1 _).mono ?_; rintro e w2 ⟨rfl, hdf⟩
    have hb : Bl w w2 := (by repeat (first | assumption | exact Bl.refl _ | apply Bl.drewN | apply Bl.drew | apply Bl.alloc | (refine Bl.dr ?_ (by assumption)) | (refine Bl.trans ?_ (by assumption))))
    clear hdf
    go_wp2_with fail
    refine (farF t1 _).mono ?_; rintro e w3 ⟨rfl, hdf⟩
    have hb : Bl w w3 := (by repeat (first | assumption | exact Bl.refl _ | apply Bl.drewN | apply Bl.drew | apply Bl.alloc | (refine Bl.dr ?_ (by assumption)) | (refine Bl.trans ?_ (by assumption))))
    clear hdf
    go_wp2_with fail
    refine (chkF a2 _).mono ?_; rintro e w4 ⟨rfl, hdf⟩
    have hb : Bl w w4 := (by repeat (first | assumption | exact Bl.refl _ | apply Bl.drewN | apply Bl.drew | apply Bl.alloc | (refine Bl.dr ?_ (by assumption)) | (refine Bl.trans ?_ (by assumption))))
    clear hdf
    go_wp2_with fail
    refine (chkT b2 hb' _).mono ?_; rintro e w5 ⟨rfl, hdf⟩
    have hb : Bl w w5 := (by repeat (first | assumption | exact Bl.refl _ | apply Bl.drewN | apply Bl.drew | apply Bl.alloc | (refine Bl.dr ?_ (by assumption)) | (refine Bl.trans ?_ (by assumption))))
    clear hdf
    go_wp2_with fail
    refine (HA.out _ (HT.out _ (by repeat (first | assumption | exact Bl.refl _ | apply Bl.drewN | apply Bl.drew | apply Bl.alloc | (refine Bl.dr ?_ (by assumption)) | (refine Bl.trans ?_ (by assumption)))))).mono ?_; rintro e w8 ⟨rfl, hb8⟩
    go_wp2_with fail
    go_ret
    exact RB.mk rfl (by repeat (first | assumption | exact Bl.refl _ | apply Bl.drewN | apply Bl.drew | apply Bl.alloc | (refine Bl.dr ?_ (by assumption)) | (refine Bl.trans ?_ (by assumption))))
  by_cases t2 : 32 < t.size
  · go_wp2_with fail
    refine (farF a1 _).mono ?_; rintro e w1 ⟨rfl, hdf⟩
    have hb : Bl w w1 := (by repeat (first | assumption | exact Bl.refl _ | apply Bl.drewN | apply Bl.drew | apply Bl.alloc | (refine Bl.dr ?_ (by assumption)) | (refine Bl.trans ?_ (by assumption))))
    clear hdf
    go_wp2_with fail
    refine (farF b1 _).mono ?_; rintro e w2 ⟨rfl, hdf⟩
    have hb : Bl w w2 := (by repeat (first | assumption | exact Bl.refl _ | apply Bl.drewN | apply Bl.drew | apply Bl.alloc | (refine Bl.dr ?_ (by assumption)) | (refine Bl.trans ?_ (by assumption))))
    clear hdf
    go_wp2_with fail
    refine (farF t1 _).mono ?_; rintro e w3 ⟨rfl, hdf⟩
    have hb : Bl w w3 := (by repeat (first | assumption | exact Bl.refl _ | apply Bl.drewN | apply Bl.drew | apply Bl.alloc | (refine Bl.dr ?_ (by assumption)) | (refine Bl.trans ?_ (by assumption))))
    clear hdf
    go_wp2_with fail
    refine (chkF a2 _).mono ?_; rintro e w4 ⟨rfl, hdf⟩
    have hb : Bl w w4 := (by repeat (first | assumption | exact Bl.refl _ | apply Bl.drewN | apply Bl.drew | apply Bl.alloc | (refine Bl.dr ?_ (by assumption)) | (refine Bl.trans ?_ (by assumption))))
    clear hdf
    go_wp2_with fail
    refine (chkF b2 _).mono ?_; rintro e w5 ⟨rfl, hdf⟩
    have hb : Bl w w5 := (by repeat (first | assumption | exact Bl.refl _ | apply Bl.drewN | apply Bl.drew | apply Bl.alloc | (refine Bl.dr ?_ (by assumption)) | (refine Bl.trans ?_ (by assumption))))
    clear hdf
    go_wp2_with fail
    refine (chkT t2 ht _).mono ?_; rintro e w6 ⟨rfl, hdf⟩
    have hb : Bl w w6 := (by repeat (first | assumption | exact Bl.refl _ | apply Bl.drewN | apply Bl.drew | apply Bl.alloc | (refine Bl.dr ?_ (by assumption)) | (refine Bl.trans ?_ (by assumption))))
    clear hdf
    go_wp2_with fail
    refine (HA.out _ (HT.out _ (by repeat (first | assumption | exact Bl.refl _ | apply Bl.drewN | apply Bl.drew | apply Bl.alloc | (refine Bl.dr ?_ (by assumption)) | (refine Bl.trans ?_ (by assumption)))))).mono ?_; rintro e w8 ⟨rfl, hb8⟩
    go_wp2_with fail
    go_ret
    exact RB.mk rfl (by repeat (first | assumption | exact Bl.refl _ | apply Bl.drewN | apply Bl.drew | apply Bl.alloc | (refine Bl.dr ?_ (by assumption)) | (refine Bl.trans ?_ (by assumption))))
  go_wp2_with fail
  refine (farF a1 _).mono ?_; rintro e w1 ⟨rfl, hdf⟩
  have hb : Bl w w1 := (by repeat (first | assumption | exact Bl.refl _ | apply Bl.drewN | apply Bl.drew | apply Bl.alloc | (refine Bl.dr ?_ (by assumption)) | (refine Bl.trans ?_ (by assumption))))
  clear hdf
  go_wp2_with fail
  refine (farF b1 _).mono ?_; rintro e w2 ⟨rfl, hdf⟩
  have hb : Bl w w2 := (by repeat (first | assumption | exact Bl.refl _ | apply Bl.drewN | apply Bl.drew | apply Bl.alloc | (refine Bl.dr ?_ (by assumption)) | (refine Bl.trans ?_ (by assumption))))
  clear hdf
  go_wp2_with fail
  refine (farF t1 _).mono ?_; rintro e w3 ⟨rfl, hdf⟩
  have hb : Bl w w3 := (by repeat (first | assumption | exact Bl.refl _ | apply Bl.drewN | apply Bl.drew | apply Bl.alloc | (refine Bl.dr ?_ (by assumption)) | (refine Bl.trans ?_ (by assumption))))
  clear hdf
  go_wp2_with fail
  refine (chkF a2 _).mono ?_; rintro e w4 ⟨rfl, hdf⟩
  have hb : Bl w w4 := (by repeat (first | assumption | exact Bl.refl _ | apply Bl.drewN | apply Bl.drew | apply Bl.alloc | (refine Bl.dr ?_ (by assumption)) | (refine Bl.trans ?_ (by assumption))))
  clear hdf
  go_wp2_with fail
  refine (chkF b2 _).mono ?_; rintro e w5 ⟨rfl, hdf⟩
  have hb : Bl w w5 := (by repeat (first | assumption | exact Bl.refl _ | apply Bl.drewN | apply Bl.drew | apply Bl.alloc | (refine Bl.dr ?_ (by assumption)) | (refine Bl.trans ?_ (by assumption))))
  clear hdf
  go_wp2_with fail
  refine (chkF t2 _).mono ?_; rintro e w6 ⟨rfl, hdf⟩
  have hb : Bl w w6 := (by repeat (first | assumption | exact Bl.refl _ | apply Bl.drewN | apply Bl.drew | apply Bl.alloc | (refine Bl.dr ?_ (by assumption)) | (refine Bl.trans ?_ (by assumption))))
  clear hdf
  have ha3 : a.size ≤ 32 := by omega
  have hb3 : b.size ≤ 32 := by omega
  have ht3 : t.size ≤ 32 := by omega
  clear a1 b1 t1 a2 b2 t2
  obtain ⟨q, hq⟩ : ∃ q, cmpS b a = q := ⟨_, rfl⟩
  have hq2 : cmpS a b = -q := by rw [cmp_anti, hq]
  have qz : (-q == 0) = (a.toList == b.toList) := by rw [← hq2]; exact cmp_zero a b
  have bd := cmpS_bd b a
  rw [hq] at bd
  obtain ⟨bd1, bd2⟩ := bd
  have q1 : ¬ (-q < -1) := by omega
  have q2 : ¬ (1 < -q) := by omega
  have q3 : IntKind.i64.wrap (-q) = -q := IntWalk.i64_in _ (by omega)
  have q4 : (-q != -q) = false := by simp
  have HQ := Lib.hid hq
  have HQ2 := Lib.hid hq2
  clear hq hq2
  go_wp2_with fail
  refine (cmpV HQ2.out ha3 hb3 _).mono ?_; rintro e w9 ⟨rfl, hbf⟩
  have hb : Bl w w9 := Bl.trans hb hbf
  clear hbf
  go_wp2_with fail
  refine (cmpV HQ.out hb3 ha3 _).mono ?_; rintro e w10 ⟨rfl, hbf⟩
  have hb : Bl w w10 := Bl.trans hb hbf
  clear hbf
  go_wp2_with fail
  refine (cmpV (cmp_self a) ha3 ha3 _).mono ?_; rintro e w11 ⟨rfl, hbf⟩
  have hb : Bl w w11 := Bl.trans hb hbf
  clear hbf
  go_upto_region 6 with fail
  go_cut [95] (fun s95 wx => s95 = .bool false ∧ Bl w wx)
  case first =>
    generalize hz : (a.toList == b.toList) = z at *
    cases z
    · go_wp2_with fail
      go_meet
      exact ⟨bval (by simp; omega), hb⟩
    · go_wp2_with fail
      go_meet
      exact ⟨bval (by simp; omega), hb⟩
  case rest =>
    clear hb qz
    obtain ⟨rfl, hb⟩ := hcut
    cases k1 : slt b a
    · cases k2 : slt t b
      · have k3 := le_trans3 k1 k2
        have hc := cmn_sorted k1 k2
        obtain ⟨x, hx⟩ : ∃ x, cmn a.data.toList b.data.toList = x := ⟨_, rfl⟩
        obtain ⟨y, hy⟩ : ∃ y, cmn b.data.toList t.data.toList = y := ⟨_, rfl⟩
        rw [hx, hy] at hc
        have HX := Lib.hid hx
        have HY := Lib.hid hy
        have HZ := Lib.hid hc
        clear hx hy hc
        have m1 : (((min x y : Nat) : Int) == min (x : Int) (y : Int)) = true := by rw [beq_iff_eq]; omega
        go_wp2_with fail
        refine (lessV k1 hb3 ha3 _).mono ?_; rintro e w12 ⟨rfl, hbf⟩
        have hb : Bl w w12 := Bl.trans hb hbf
        clear hbf
        go_wp2_with fail
        refine (lessV k2 ht3 hb3 _).mono ?_; rintro e w13 ⟨rfl, hbf⟩
        have hb : Bl w w13 := Bl.trans hb hbf
        clear hbf
        go_wp2_with fail
        refine (lessV k3 ht3 ha3 _).mono ?_; rintro e w14 ⟨rfl, hbf⟩
        have hb : Bl w w14 := Bl.trans hb hbf
        clear hbf
        go_wp2_with fail
        refine (cmnV HX.out ha3 hb3 _).mono ?_; rintro e w15 ⟨rfl, hbf⟩
        have hb : Bl w w15 := Bl.trans hb hbf
        clear hbf
        go_wp2_with fail
        refine (cmnV HY.out hb3 ht3 _).mono ?_; rintro e w16 ⟨rfl, hbf⟩
        have hb : Bl w w16 := Bl.trans hb hbf
        clear hbf
        go_wp2_with fail
        refine (cmnV HZ.out ha3 ht3 _).mono ?_; rintro e w17 ⟨rfl, hbf⟩
        have hb : Bl w w17 := Bl.trans hb hbf
        clear hbf
        go_wp2_with fail
        refine (HA.out _ (HT.out _ (by repeat (first | assumption | exact Bl.refl _ | apply Bl.drewN | apply Bl.drew | apply Bl.alloc | (refine Bl.dr ?_ (by assumption)) | (refine Bl.trans ?_ (by assumption)))))).mono ?_; rintro e w8 ⟨rfl, hb8⟩
        go_wp2_with fail
        go_ret
        exact RB.mk rfl (by repeat (first | assumption | exact Bl.refl _ | apply Bl.drewN | apply Bl.drew | apply Bl.alloc | (refine Bl.dr ?_ (by assumption)) | (refine Bl.trans ?_ (by assumption))))
      · go_wp2_with fail
        refine (lessV k1 hb3 ha3 _).mono ?_; rintro e w12 ⟨rfl, hbf⟩
        have hb : Bl w w12 := Bl.trans hb hbf
        clear hbf
        go_wp2_with fail
        refine (lessV k2 ht3 hb3 _).mono ?_; rintro e w13 ⟨rfl, hbf⟩
        have hb : Bl w w13 := Bl.trans hb hbf
        clear hbf
        go_wp2_with fail
        refine (HA.out _ (HT.out _ (by repeat (first | assumption | exact Bl.refl _ | apply Bl.drewN | apply Bl.drew | apply Bl.alloc | (refine Bl.dr ?_ (by assumption)) | (refine Bl.trans ?_ (by assumption)))))).mono ?_; rintro e w8 ⟨rfl, hb8⟩
        go_wp2_with fail
        go_ret
        exact RB.mk rfl (by repeat (first | assumption | exact Bl.refl _ | apply Bl.drewN | apply Bl.drew | apply Bl.alloc | (refine Bl.dr ?_ (by assumption)) | (refine Bl.trans ?_ (by assumption))))
    · go_wp2_with fail
      refine (lessV k1 hb3 ha3 _).mono ?_; rintro e w12 ⟨rfl, hbf⟩
      have hb : Bl w w12 := Bl.trans hb hbf
      clear hbf
      go_wp2_with fail
      refine (HA.out _ (HT.out _ (by repeat (first | assumption | exact Bl.refl _ | apply Bl.drewN | apply Bl.drew | apply Bl.alloc | (refine Bl.dr ?_ (by assumption)) | (refine Bl.trans ?_ (by assumption)))))).mono ?_; rintro e w8 ⟨rfl, hb8⟩
      go_wp2_with fail
      go_ret
      exact RB.mk rfl (by repeat (first | assumption | exact Bl.refl _ | apply Bl.drewN | apply Bl.drew | apply Bl.alloc | (refine Bl.dr ?_ (by assumption)) | (refine Bl.trans ?_ (by assumption))))
end Go.Proofs.YtldccffbjohokaaDoor
