/-
  The law KeysLeast, walked.
-/
import Derived.Test.YtldccffbjohokaaDoorKyQ
import Derived.Deep.DeepCutAuto
namespace Go.Proofs.YtldccffbjohokaaDoor
open Go.RowKit
set_option linter.unusedSimpArgs false
set_option linter.unusedVariables false


set_option maxRecDepth 100000 in
set_option maxHeartbeats 4000000 in
theorem lessV {x y : ByteArray} {v : Bool} (h : slt x y = v) (hx : x.size ≤ 32) (hy : y.size ≤ 32) (w : World) : Calls Tryd.prog 25 #[.string x, .string y] w (RB w (.bool v)) := by
  have := lawLess x y w (by unfold maxLen; omega) (by unfold maxLen; omega)
  rw [lessB_ok hx hy, h] at this; exact this
theorem farT {s : ByteArray} (h : 200 < s.size) (hs : s.size ≤ maxLen) (w : World) : Calls Tryd.prog 11 #[.string s] w (RD w (.bool true)) := by
  have := lawFar s w hs
  rw [show decide (200 < s.size) = true by simpa using h] at this; exact this
theorem farF {s : ByteArray} (h : ¬ 200 < s.size) (w : World) : Calls Tryd.prog 11 #[.string s] w (RD w (.bool false)) := by
  have := lawFar s w (by unfold maxLen; omega)
  rw [show decide (200 < s.size) = false by simpa using h] at this; exact this
theorem chkT {s : ByteArray} (h : 32 < s.size) (hs : s.size ≤ maxLen) (w : World) : Calls Tryd.prog 23 #[.string s] w (RD w (.int .i64 3)) := by
  have := keysCheck s w hs
  rw [show kchk s = 3 by simp [kchk, h]] at this; exact this
theorem chkF {s : ByteArray} (h : ¬ 32 < s.size) (w : World) : Calls Tryd.prog 23 #[.string s] w (RD w (.int .i64 0)) := by
  have := keysCheck s w (by unfold maxLen; omega)
  rw [show kchk s = 0 by simp [kchk, h]] at this; exact this


set_option maxRecDepth 100000 in
set_option maxHeartbeats 4000000 in
theorem lawLeast (a b t : ByteArray) (w : World) (ha : a.size ≤ maxLen) (hb : b.size ≤ maxLen) (ht : t.size ≤ maxLen) (hT : Tabs w) :
    Calls Tryd.prog 5 #[.string a, .string b, .string t] w (RB w (.bool true)) := by
  have HA := Lib.hid (fun w h => lawAwake w h)
  have HT := Lib.hid (fun W (h : Bl w W) => tabs_bl hT h)
  have hb' := hb
  clear hT hb
  have hb : Bl w w := Bl.refl w
  go_enter Tryd.func5, Tryd.ntmps5
  by_cases a1 : 200 < a.size
  · go_wp2_with fail
    refine (farT a1 ha _).mono ?_; rintro e w1 ⟨rfl, hdf⟩
    have hb : Bl w w1 := (by repeat (first | assumption | exact Bl.refl _ | apply Bl.drewN | apply Bl.drew | apply Bl.alloc | (refine Bl.dr ?_ (by assumption)) | (refine Bl.trans ?_ (by assumption))))
    clear hdf
    go_wp2_with fail
    refine (HA.out _ (HT.out _ (by repeat (first | assumption | exact Bl.refl _ | apply Bl.drewN | apply Bl.drew | apply Bl.alloc | (refine Bl.dr ?_ (by assumption)) | (refine Bl.trans ?_ (by assumption)))))).mono ?_; rintro e w8 ⟨rfl, hb8⟩
    go_wp2_with fail
    go_ret
    exact RB.mk rfl (by repeat (first | assumption | exact Bl.refl _ | apply Bl.drewN | apply Bl.drew | apply Bl.alloc | (refine Bl.dr ?_ (by assumption)) | (refine Bl.trans ?_ (by assumption))))
  by_cases b1 : 200 < b.size
  · go_wp2_with fail
    refine (farF a1 _).mono ?_; rintro e w1 ⟨rfl, hdf⟩
    have hb : Bl w w1 := (by repeat (first | assumption | exact Bl.refl _ | apply Bl.drewN | apply Bl.drew | apply Bl.alloc | (refine Bl.dr ?_ (by assumption)) | (refine Bl.trans ?_ (by assumption))))
    clear hdf
    go_wp2_with fail
    refine (farT b1 hb' _).mono ?_; rintro e w2 ⟨rfl, hdf⟩
    have hb : Bl w w2 := (by repeat (first | assumption | exact Bl.refl _ | apply Bl.drewN | apply Bl.drew | apply Bl.alloc | (refine Bl.dr ?_ (by assumption)) | (refine Bl.trans ?_ (by assumption))))
    clear hdf
    go_wp2_with fail
    refine (HA.out _ (HT.out _ (by repeat (first | assumption | exact Bl.refl _ | apply Bl.drewN | apply Bl.drew | apply Bl.alloc | (refine Bl.dr ?_ (by assumption)) | (refine Bl.trans ?_ (by assumption)))))).mono ?_; rintro e w8 ⟨rfl, hb8⟩
    go_wp2_with fail
    go_ret
    exact RB.mk rfl (by repeat (first | assumption | exact Bl.refl _ | apply Bl.drewN | apply Bl.drew | apply Bl.alloc | (refine Bl.dr ?_ (by assumption)) | (refine Bl.trans ?_ (by assumption))))
  by_cases t1 : 200 < t.size
  · go_wp2_with fail
    refine (farF a1 _).mono ?_; rintro e w1 ⟨rfl, hdf⟩
    have hb : Bl w w1 := (by repeat (first | assumption | exact Bl.refl _ | apply Bl.drewN | apply Bl.drew | apply Bl.alloc | (refine Bl.dr ?_ (by assumption)) | (refine Bl.trans ?_ (by assumption))))
    clear hdf
    go_wp2_with fail
    refine (farF b1 _).mono ?_; rintro e w2 ⟨rfl, hdf⟩
    have hb : Bl w w2 := (by repeat (first | assumption | exact Bl.refl _ | apply Bl.drewN | apply Bl.drew | apply Bl.alloc | (refine Bl.dr ?_ (by assumption)) | (refine Bl.trans ?_ (by assumption))))
    clear hdf
    go_wp2_with fail
    refine (farT t1 ht _).mono ?_; rintro e w3 ⟨rfl, hdf⟩
    have hb : Bl w w3 := (by repeat (first | assumption | exact Bl.refl _ | apply Bl.drewN | apply Bl.drew | apply Bl.alloc | (refine Bl.dr ?_ (by assumption)) | (refine Bl.trans ?_ (by assumption))))
    clear hdf
    go_wp2_with fail
    refine (HA.out _ (HT.out _ (by repeat (first | assumption | exact Bl.refl _ | apply Bl.drewN | apply Bl.drew | apply Bl.alloc | (refine Bl.dr ?_ (by assumption)) | (refine Bl.trans ?_ (by assumption)))))).mono ?_; rintro e w8 ⟨rfl, hb8⟩
    go_wp2_with fail
    go_ret
    exact RB.mk rfl (by repeat (first | assumption | exact Bl.refl _ | apply Bl.drewN | apply Bl.drew | apply Bl.alloc | (refine Bl.dr ?_ (by assumption)) | (refine Bl.trans ?_ (by assumption))))
  by_cases a2 : 32 < a.size
  · go_wp2_with fail
    refine (farF a1 _).mono ?_; rintro e w1 ⟨rfl, hdf⟩
    have hb : Bl w w1 := (by repeat (first | assumption | exact Bl.refl _ | apply Bl.drewN | apply Bl.drew | apply Bl.alloc | (refine Bl.dr ?_ (by assumption)) | (refine Bl.trans ?_ (by assumption))))
    clear hdf
    go_wp2_with fail
    refine (farF b1 _).mono ?_; rintro e w2 ⟨rfl, hdf⟩
    have hb : Bl w w2 := (by repeat (first | assumption | exact Bl.refl _ | apply Bl.drewN | apply Bl.drew | apply Bl.alloc | (refine Bl.dr ?_ (by assumption)) | (refine Bl.trans ?_ (by assumption))))
    clear hdf
    go_wp2_with fail
    refine (farF t1 _).mono ?_; rintro e w3 ⟨rfl, hdf⟩
    have hb : Bl w w3 := (by repeat (first | assumption | exact Bl.refl _ | apply Bl.drewN | apply Bl.drew | apply Bl.alloc | (refine Bl.dr ?_ (by assumption)) | (refine Bl.trans ?_ (by assumption))))
    clear hdf
    go_wp2_with fail
    refine (chkT a2 ha _).mono ?_; rintro e w4 ⟨rfl, hdf⟩
    have hb : Bl w w4 := (by repeat (first | assumption | exact Bl.refl _ | apply Bl.drewN | apply Bl.drew | apply Bl.alloc | (refine Bl.dr ?_ (by assumption)) | (refine Bl.trans ?_ (by assumption))))
    clear hdf
    go_wp2_with fail
    refine (HA.out _ (HT.out _ (by repeat (first | assumption | exact Bl.refl _ | apply Bl.drewN | apply Bl.drew | apply Bl.alloc | (refine Bl.dr ?_ (by assumption)) | (refine Bl.trans ?_ (by assumption)))))).mono ?_; rintro e w8 ⟨rfl, hb8⟩
    go_wp2_with fail
    go_ret
    exact RB.mk rfl (by repeat (first | assumption | exact Bl.refl _ | apply Bl.drewN | apply Bl.drew | apply Bl.alloc | (refine Bl.dr ?_ (by assumption)) | (refine Bl.trans ?_ (by assumption))))
  by_cases b2 : 32 < b.size
  · go_wp2_with fail
    refine (farF a1 _).mono ?_; rintro e w1 ⟨rfl, hdf⟩
    have hb : Bl w w1 := (by repeat (first | assumption | exact Bl.refl _ | apply Bl.drewN | apply Bl.drew | apply Bl.alloc | (refine Bl.dr ?_ (by assumption)) | (refine Bl.trans ?_ (by assumption))))
    clear hdf
    go_wp2_with fail
    refine (farF b1 _).mono ?_; rintro e w2 ⟨rfl, hdf⟩
    have hb : Bl w w2 := (by repeat (first | assumption | exact Bl.refl _ | apply Bl.drewN | apply Bl.drew | apply Bl.alloc | (refine Bl.dr ?_ (by assumption)) | (refine Bl.trans ?_ (by assumption))))
    clear hdf
    go_wp2_with fail
    refine (farF t1 _).mono ?_; rintro e w3 ⟨rfl, hdf⟩
    have hb : Bl w w3 := (by repeat (first | assumption | exact Bl.refl _ | apply Bl.drewN | apply Bl.drew | apply Bl.alloc | (refine Bl.dr ?_ (by assumption)) | (refine Bl.trans ?_ (by assumption))))
    clear hdf
    go_wp2_with fail
    refine (chkF a2 _).mono ?_; rintro e w4 ⟨rfl, hdf⟩
    have hb : Bl w w4 := (by repeat (first | assumption | exact Bl.refl _ | apply Bl.drewN | apply Bl.drew | apply Bl.alloc | (refine Bl.dr ?_ (by assumption)) | (refine Bl.trans ?_ (by assumption))))
    clear hdf
    go_wp2_with fail
    refine (chkT b2 hb' _).mono ?_; rintro e w5 ⟨rfl, hdf⟩
    have hb : Bl w w5 := (by repeat (first | assumption | exact Bl.refl _ | apply Bl.drewN | apply Bl.drew | apply Bl.alloc | (refine Bl.dr ?_ (by assumption)) | (refine Bl.trans ?_ (by assumption))))
    clear hdf
    go_wp2_with fail
    refine (HA.out _ (HT.out _ (by repeat (first | assumption | exact Bl.refl _ | apply Bl.drewN | apply Bl.drew | apply Bl.alloc | (refine Bl.dr ?_ (by assumption)) | (refine Bl.trans ?_ (by assumption)))))).mono ?_; rintro e w8 ⟨rfl, hb8⟩
    go_wp2_with fail
    go_ret
    exact RB.mk rfl (by repeat (first | assumption | exact Bl.refl _ | apply Bl.drewN | apply Bl.drew | apply Bl.alloc | (refine Bl.dr ?_ (by assumption)) | (refine Bl.trans ?_ (by assumption))))
  by_cases t2 : 32 < t.size
  · go_wp2_with fail
    refine (farF a1 _).mono ?_; rintro e w1 ⟨rfl, hdf⟩
    have hb : Bl w w1 := (by repeat (first | assumption | exact Bl.refl _ | apply Bl.drewN | apply Bl.drew | apply Bl.alloc | (refine Bl.dr ?_ (by assumption)) | (refine Bl.trans ?_ (by assumption))))
    clear hdf
    go_wp2_with fail
    refine (farF b1 _).mono ?_; rintro e w2 ⟨rfl, hdf⟩
    have hb : Bl w w2 := (by repeat (first | assumption | exact Bl.refl _ | apply Bl.drewN | apply Bl.drew | apply Bl.alloc | (refine Bl.dr ?_ (by assumption)) | (refine Bl.trans ?_ (by assumption))))
    clear hdf
    go_wp2_with fail
    refine (farF t1 _).mono ?_; rintro e w3 ⟨rfl, hdf⟩
    have hb : Bl w w3 := (by repeat (first | assumption | exact Bl.refl _ | apply Bl.drewN | apply Bl.drew | apply Bl.alloc | (refine Bl.dr ?_ (by assumption)) | (refine Bl.trans ?_ (by assumption))))
    clear hdf
    go_wp2_with fail
    refine (chkF a2 _).mono ?_; rintro e w4 ⟨rfl, hdf⟩
    have hb : Bl w w4 := (by repeat (first | assumption | exact Bl.refl _ | apply Bl.drewN | apply Bl.drew | apply Bl.alloc | (refine Bl.dr ?_ (by assumption)) | (refine Bl.trans ?_ (by assumption))))
    clear hdf
    go_wp2_with fail
    refine (chkF b2 _).mono ?_; rintro e w5 ⟨rfl, hdf⟩
    have hb : Bl w w5 := (by repeat (first | assumption | exact Bl.refl _ | apply Bl.drewN | apply Bl.drew | apply Bl.alloc | (refine Bl.dr ?_ (by assumption)) | (refine Bl.trans ?_ (by assumption))))
    clear hdf
    go_wp2_with fail
    refine (chkT t2 ht _).mono ?_; rintro e w6 ⟨rfl, hdf⟩
    have hb : Bl w w6 := (by repeat (first | assumption | exact Bl.refl _ | apply Bl.drewN | apply Bl.drew | apply Bl.alloc | (refine Bl.dr ?_ (by assumption)) | (refine Bl.trans ?_ (by assumption))))
    clear hdf
    go_wp2_with fail
    refine (HA.out _ (HT.out _ (by repeat (first | assumption | exact Bl.refl _ | apply Bl.drewN | apply Bl.drew | apply Bl.alloc | (refine Bl.dr ?_ (by assumption)) | (refine Bl.trans ?_ (by assumption)))))).mono ?_; rintro e w8 ⟨rfl, hb8⟩
    go_wp2_with fail
    go_ret
    exact RB.mk rfl (by repeat (first | assumption | exact Bl.refl _ | apply Bl.drewN | apply Bl.drew | apply Bl.alloc | (refine Bl.dr ?_ (by assumption)) | (refine Bl.trans ?_ (by assumption))))
  go_wp2_with fail
  refine (farF a1 _).mono ?_; rintro e w1 ⟨rfl, hdf⟩
  have hb : Bl w w1 := (by repeat (first | assumption | exact Bl.refl _ | apply Bl.drewN | apply Bl.drew | apply Bl.alloc | (refine Bl.dr ?_ (by assumption)) | (refine Bl.trans ?_ (by assumption))))
  clear hdf
  go_wp2_with fail
  refine (farF b1 _).mono ?_; rintro e w2 ⟨rfl, hdf⟩
  have hb : Bl w w2 := (by repeat (first | assumption | exact Bl.refl _ | apply Bl.drewN | apply Bl.drew | apply Bl.alloc | (refine Bl.dr ?_ (by assumption)) | (refine Bl.trans ?_ (by assumption))))
  clear hdf
  go_wp2_with fail
  refine (farF t1 _).mono ?_; rintro e w3 ⟨rfl, hdf⟩
  have hb : Bl w w3 := (by repeat (first | assumption | exact Bl.refl _ | apply Bl.drewN | apply Bl.drew | apply Bl.alloc | (refine Bl.dr ?_ (by assumption)) | (refine Bl.trans ?_ (by assumption))))
  clear hdf
  go_wp2_with fail
  refine (chkF a2 _).mono ?_; rintro e w4 ⟨rfl, hdf⟩
  have hb : Bl w w4 := (by repeat (first | assumption | exact Bl.refl _ | apply Bl.drewN | apply Bl.drew | apply Bl.alloc | (refine Bl.dr ?_ (by assumption)) | (refine Bl.trans ?_ (by assumption))))
  clear hdf
  go_wp2_with fail
  refine (chkF b2 _).mono ?_; rintro e w5 ⟨rfl, hdf⟩
  have hb : Bl w w5 := (by repeat (first | assumption | exact Bl.refl _ | apply Bl.drewN | apply Bl.drew | apply Bl.alloc | (refine Bl.dr ?_ (by assumption)) | (refine Bl.trans ?_ (by assumption))))
  clear hdf
  go_wp2_with fail
  refine (chkF t2 _).mono ?_; rintro e w6 ⟨rfl, hdf⟩
  have hb : Bl w w6 := (by repeat (first | assumption | exact Bl.refl _ | apply Bl.drewN | apply Bl.drew | apply Bl.alloc | (refine Bl.dr ?_ (by assumption)) | (refine Bl.trans ?_ (by assumption))))
  clear hdf
  have ha3 : a.size ≤ 32 := by omega
  have hb3 : b.size ≤ 32 := by omega
  have ht3 : t.size ≤ 32 := by omega
  clear a1 b1 t1 a2 b2 t2
  go_upto_if 46 with (go_at_call 13; refine (keysNext a _ ha).mono ?_; rintro e w7 ⟨rfl, hb7⟩)
  go_cut [7, 8] (fun _ _ wx => Bl w wx)
  case first =>
    have hb : Bl w w7 := Bl.trans hb hb7
    clear hb7
    rcases next_facts a t ha3 ht3 with ⟨e0, n1, n2, n3⟩ | ⟨e0, n2⟩
    · rw [e0]
      generalize (nxt a).1 = n at *
      clear e0
      cases k : slt a t
      · go_wp2_with fail
        refine (chkF (by omega) _).mono ?_; rintro e w8 ⟨rfl, hdf⟩
        have hb : Bl w w8 := (by repeat (first | assumption | exact Bl.refl _ | apply Bl.drewN | apply Bl.drew | apply Bl.alloc | (refine Bl.dr ?_ (by assumption)) | (refine Bl.trans ?_ (by assumption))))
        clear hdf
        go_wp2_with fail
        refine (lessV n2 ha3 n1 _).mono ?_; rintro e w9 ⟨rfl, hbf⟩
        have hb : Bl w w9 := Bl.trans hb hbf
        clear hbf
        go_wp2_with fail
        refine (lessV k ha3 ht3 _).mono ?_; rintro e w10 ⟨rfl, hbf⟩
        have hb : Bl w w10 := Bl.trans hb hbf
        clear hbf
        go_wp2_with fail
        go_meet
        exact hb
      · go_wp2_with fail
        refine (chkF (by omega) _).mono ?_; rintro e w8 ⟨rfl, hdf⟩
        have hb : Bl w w8 := (by repeat (first | assumption | exact Bl.refl _ | apply Bl.drewN | apply Bl.drew | apply Bl.alloc | (refine Bl.dr ?_ (by assumption)) | (refine Bl.trans ?_ (by assumption))))
        clear hdf
        go_wp2_with fail
        refine (lessV n2 ha3 n1 _).mono ?_; rintro e w9 ⟨rfl, hbf⟩
        have hb : Bl w w9 := Bl.trans hb hbf
        clear hbf
        go_wp2_with fail
        refine (lessV k ha3 ht3 _).mono ?_; rintro e w10 ⟨rfl, hbf⟩
        have hb : Bl w w10 := Bl.trans hb hbf
        clear hbf
        go_wp2_with fail
        refine (lessV (n3 k) ht3 n1 _).mono ?_; rintro e w11 ⟨rfl, hbf⟩
        have hb : Bl w w11 := Bl.trans hb hbf
        clear hbf
        go_wp2_with fail
        go_meet
        exact hb
    · rw [e0]
      clear e0
      go_wp2_with fail
      refine (lessV n2 ha3 ht3 _).mono ?_; rintro e w10 ⟨rfl, hbf⟩
      have hb : Bl w w10 := Bl.trans hb hbf
      clear hbf
      go_wp2_with fail
      go_meet
      exact hb
  case rest =>
    clear hb
    have hb : Bl w _ := hcut
    obtain ⟨v, hv⟩ : ∃ v, v = begS a t := ⟨_, rfl⟩
    have hpf := past_facts a t ha3
    rw [← hv] at hpf
    have HPF := Lib.hid hpf
    clear hpf
    have HV := Lib.hid hv
    clear hv
    go_upto_region 9 with fail
    go_cut [9] (fun s9 wx => s9 = .bool v ∧ Bl w wx)
    case first =>
      by_cases hl : a.size ≤ t.size
      · have l1 : (a.size : Int) ≤ (t.size : Int) := by omega
        have l2 : ((t.extract 0 a.size).toList == a.toList) = v := by rw [HV.out]; exact begS_take hl
        have l3 : min (a.size : Int) (t.size : Int) = (a.size : Int) := by omega
        go_wp2_with fail
        go_meet
        exact ⟨rfl, hb⟩
      · have l1 : ¬ (a.size : Int) ≤ (t.size : Int) := by omega
        have l2 : v = false := by rw [HV.out]; exact begS_long (by omega)
        go_wp2_with fail
        go_meet
        exact ⟨by rw [l2], hb⟩
    case rest =>
      clear hb
      obtain ⟨rfl, hb⟩ := hcut
      go_upto_if 95 with (go_at_call 15; refine (keysPast a _ ha).mono ?_; rintro e w7 ⟨rfl, hb7⟩)
      go_cut [8, 9, 10] (fun _ _ _ wx => Bl w wx)
      case first =>
        have hb : Bl w w7 := Bl.trans hb hb7
        clear hb7
        rcases HPF.out with ⟨e0, n1, n2⟩ | ⟨e0, n2⟩
        · rw [e0]
          generalize (past a).1 = n at *
          clear e0
          cases k : slt t a
          · cases k2 : slt t n
            · have n3 : v = false := n2.trans (by simp only [k, k2]; rfl)
              clear n2 HPF
              first | subst n3 | cases n3
              all_goals
                go_wp2_with fail
                refine (lessV k ht3 ha3 _).mono ?_; rintro e w9 ⟨rfl, hbf⟩
                have hb : Bl w w9 := Bl.trans hb hbf
                clear hbf
                go_wp2_with fail
                refine (lessV k2 ht3 n1 _).mono ?_; rintro e w10 ⟨rfl, hbf⟩
                have hb : Bl w w10 := Bl.trans hb hbf
                clear hbf
                go_wp2_with fail
                go_meet
                exact hb
            · have n3 : v = true := n2.trans (by simp only [k, k2]; rfl)
              clear n2 HPF
              first | subst n3 | cases n3
              all_goals
                go_wp2_with fail
                refine (lessV k ht3 ha3 _).mono ?_; rintro e w9 ⟨rfl, hbf⟩
                have hb : Bl w w9 := Bl.trans hb hbf
                clear hbf
                go_wp2_with fail
                refine (lessV k2 ht3 n1 _).mono ?_; rintro e w10 ⟨rfl, hbf⟩
                have hb : Bl w w10 := Bl.trans hb hbf
                clear hbf
                go_wp2_with fail
                go_meet
                exact hb
          · have n3 : v = false := n2.trans (by simp only [k]; rfl)
            clear n2 HPF
            first | subst n3 | cases n3
            all_goals
              go_wp2_with fail
              refine (lessV k ht3 ha3 _).mono ?_; rintro e w9 ⟨rfl, hbf⟩
              have hb : Bl w w9 := Bl.trans hb hbf
              clear hbf
              go_wp2_with fail
              go_meet
              exact hb
        · rw [e0]
          clear e0
          cases k : slt t a
          · have n3 : v = true := n2.trans (by simp only [k]; rfl)
            clear n2 HPF
            first | subst n3 | cases n3
            all_goals
              go_wp2_with fail
              refine (lessV k ht3 ha3 _).mono ?_; rintro e w9 ⟨rfl, hbf⟩
              have hb : Bl w w9 := Bl.trans hb hbf
              clear hbf
              go_wp2_with fail
              go_meet
              exact hb
          · have n3 : v = false := n2.trans (by simp only [k]; rfl)
            clear n2 HPF
            first | subst n3 | cases n3
            all_goals
              go_wp2_with fail
              refine (lessV k ht3 ha3 _).mono ?_; rintro e w9 ⟨rfl, hbf⟩
              have hb : Bl w w9 := Bl.trans hb hbf
              clear hbf
              go_wp2_with fail
              go_meet
              exact hb
      case rest =>
        clear hb
        have hb : Bl w _ := hcut
        clear hcut
        cases k : slt a b
        · go_wp2_with fail
          refine (bet_no ha3 hb3 k ▸ keysBetween a b _ ha hb').mono ?_; rintro e w9 ⟨rfl, hbf⟩
          have hb : Bl w w9 := Bl.trans hb hbf
          clear hbf
          go_wp2_with fail
          refine (lessV k ha3 hb3 _).mono ?_; rintro e w10 ⟨rfl, hbf⟩
          have hb : Bl w w10 := Bl.trans hb hbf
          clear hbf
          go_wp2_with fail
          refine (HA.out _ (HT.out _ (by repeat (first | assumption | exact Bl.refl _ | apply Bl.drewN | apply Bl.drew | apply Bl.alloc | (refine Bl.dr ?_ (by assumption)) | (refine Bl.trans ?_ (by assumption)))))).mono ?_; rintro e w8 ⟨rfl, hb8⟩
          go_wp2_with fail
          go_ret
          exact RB.mk rfl (by repeat (first | assumption | exact Bl.refl _ | apply Bl.drewN | apply Bl.drew | apply Bl.alloc | (refine Bl.dr ?_ (by assumption)) | (refine Bl.trans ?_ (by assumption))))
        · obtain ⟨s, c, s1, s2, s3, s4, s5, s6, s7, s8, s9⟩ := bet_facts t ha3 hb3 k
          go_wp2_with fail
          refine (s1 ▸ keysBetween a b _ ha hb').mono ?_; rintro e w9 ⟨rfl, hbf⟩
          have hb : Bl w w9 := Bl.trans hb hbf
          clear hbf
          go_wp2_with fail
          refine (lessV k ha3 hb3 _).mono ?_; rintro e w10 ⟨rfl, hbf⟩
          have hb : Bl w w10 := Bl.trans hb hbf
          clear hbf
          go_wp2_with fail
          refine (s2 ▸ keysCommonX a b _ ha hb').mono ?_; rintro e w11 ⟨rfl, hbf⟩
          have hb : Bl w w11 := Bl.trans hb hbf
          clear hbf
          have S9 := Lib.hid s9
          have z1 : IntKind.i64.wrap ((c : Int) + 1) = (c : Int) + 1 := IntWalk.i64_in _ (by omega)
          have z2 : ((s.size : Int) != (c : Int) + 1) = false := by rw [bne_eq_false_iff_eq]; omega
          have z3 : (c : Int) ≤ (s.size : Int) := by omega
          have z4 : (c : Int) ≤ (b.size : Int) := by omega
          have z5 : (0 : Int) ≤ (c : Int) := by omega
          have z6 : ((c : Int)).toNat = c := by omega
          clear s1 s2 s3 s5 s9
          go_wp2_with fail
          
          refine wp_region_quiet_bw w11 (by kernel_rfl) (by kernel_rfl) (Bl.refl w11) ?_
          repeat (go_big_quiet_step ((first | (go_at_call_of 25 (Value.string a); exact quietB (lessV s6 ha3 s4 _)) | (go_at_call_of 25 (Value.string b); exact quietB (lessV s7 hb3 s4 _)))))
          refine wpQuiet_nil ?_
          intro wq hw'
          have hwq : Bl w11 wq := by obtain ⟨x, hx⟩ := hw'; rw [hx]; exact x.h
          clear hw'
          have hb : Bl w wq := Bl.trans hb hwq
          clear hwq z1 z2 z3 z4 z5 z6 s8
          cases q1 : slt a t
          · go_wp2_with fail
            refine (lessV q1 ha3 ht3 _).mono ?_; rintro e w12 ⟨rfl, hbf⟩
            have hb : Bl w w12 := Bl.trans hb hbf
            clear hbf
            go_wp2_with fail
            refine (HA.out _ (HT.out _ (by repeat (first | assumption | exact Bl.refl _ | apply Bl.drewN | apply Bl.drew | apply Bl.alloc | (refine Bl.dr ?_ (by assumption)) | (refine Bl.trans ?_ (by assumption)))))).mono ?_; rintro e w8 ⟨rfl, hb8⟩
            go_wp2_with fail
            go_ret
            exact RB.mk rfl (by repeat (first | assumption | exact Bl.refl _ | apply Bl.drewN | apply Bl.drew | apply Bl.alloc | (refine Bl.dr ?_ (by assumption)) | (refine Bl.trans ?_ (by assumption))))
          · cases q2 : slt b t
            · by_cases q3 : t.size ≤ s.size
              · have q4 : ¬ ((s.size : Int) < (t.size : Int)) := by omega
                go_wp2_with fail
                refine (lessV q1 ha3 ht3 _).mono ?_; rintro e w12 ⟨rfl, hbf⟩
                have hb : Bl w w12 := Bl.trans hb hbf
                clear hbf
                go_wp2_with fail
                refine (lessV q2 hb3 ht3 _).mono ?_; rintro e w13 ⟨rfl, hbf⟩
                have hb : Bl w w13 := Bl.trans hb hbf
                clear hbf
                go_wp2_with fail
                refine (lessV (S9.out q1 q2 q3) ht3 s4 _).mono ?_; rintro e w14 ⟨rfl, hbf⟩
                have hb : Bl w w14 := Bl.trans hb hbf
                clear hbf
                go_wp2_with fail
                refine (HA.out _ (HT.out _ (by repeat (first | assumption | exact Bl.refl _ | apply Bl.drewN | apply Bl.drew | apply Bl.alloc | (refine Bl.dr ?_ (by assumption)) | (refine Bl.trans ?_ (by assumption)))))).mono ?_; rintro e w8 ⟨rfl, hb8⟩
                go_wp2_with fail
                go_ret
                exact RB.mk rfl (by repeat (first | assumption | exact Bl.refl _ | apply Bl.drewN | apply Bl.drew | apply Bl.alloc | (refine Bl.dr ?_ (by assumption)) | (refine Bl.trans ?_ (by assumption))))
              · have q4 : (s.size : Int) < (t.size : Int) := by omega
                go_wp2_with fail
                refine (lessV q1 ha3 ht3 _).mono ?_; rintro e w12 ⟨rfl, hbf⟩
                have hb : Bl w w12 := Bl.trans hb hbf
                clear hbf
                go_wp2_with fail
                refine (lessV q2 hb3 ht3 _).mono ?_; rintro e w13 ⟨rfl, hbf⟩
                have hb : Bl w w13 := Bl.trans hb hbf
                clear hbf
                go_wp2_with fail
                refine (HA.out _ (HT.out _ (by repeat (first | assumption | exact Bl.refl _ | apply Bl.drewN | apply Bl.drew | apply Bl.alloc | (refine Bl.dr ?_ (by assumption)) | (refine Bl.trans ?_ (by assumption)))))).mono ?_; rintro e w8 ⟨rfl, hb8⟩
                go_wp2_with fail
                go_ret
                exact RB.mk rfl (by repeat (first | assumption | exact Bl.refl _ | apply Bl.drewN | apply Bl.drew | apply Bl.alloc | (refine Bl.dr ?_ (by assumption)) | (refine Bl.trans ?_ (by assumption))))
            · go_wp2_with fail
              refine (lessV q1 ha3 ht3 _).mono ?_; rintro e w12 ⟨rfl, hbf⟩
              have hb : Bl w w12 := Bl.trans hb hbf
              clear hbf
              go_wp2_with fail
              refine (lessV q2 hb3 ht3 _).mono ?_; rintro e w13 ⟨rfl, hbf⟩
              have hb : Bl w w13 := Bl.trans hb hbf
              clear hbf
              go_wp2_with fail
              refine (HA.out _ (HT.out _ (by repeat (first | assumption | exact Bl.refl _ | apply Bl.drewN | apply Bl.drew | apply Bl.alloc | (refine Bl.dr ?_ (by assumption)) | (refine Bl.trans ?_ (by assumption)))))).mono ?_; rintro e w8 ⟨rfl, hb8⟩
              go_wp2_with fail
              go_ret
              exact RB.mk rfl (by repeat (first | assumption | exact Bl.refl _ | apply Bl.drewN | apply Bl.drew | apply Bl.alloc | (refine Bl.dr ?_ (by assumption)) | (refine Bl.trans ?_ (by assumption))))
end Go.Proofs.YtldccffbjohokaaDoor
