
/-
  Contracts of words (over 01.ZD): the reference's List.
-/
import Derived.Test.YtfjdcfmoodlnaaaGreatDoorWoR
import Derived.Test.YtfjdcfmoodlnaaaGreatDoorWoN
import Derived.Test.YtfjdcfmoodlnaaaGreatDoorWoI
import Derived.Deep.LoopGhost
namespace Go.Proofs.YtfjdcfmoodlnaaaGreatDoor
open Go.RowKit
set_option linter.unusedSimpArgs false
set_option linter.unusedVariables false
set_option maxRecDepth 100000

theorem refDigitsR (n : Int) (h0 : -9223372036854775808 ≤ n) (h1 : n ≤ 9223372036854775807) (w : World) : Calls Tryz.prog 26 #[.int .i64 n] w (RB w (.string ⟨(Lib.itoa n).toArray⟩)) := refDigits _ n rfl h0 h1 w
theorem asc_bad {l : List Int} {k : Nat} (h : k < l.length) (hk : k ≠ 0) (h2 : ¬ l.getD (k - 1) 0 < l.getD k 0) : ascK l l.length = false := by
  unfold ascK
  rw [List.all_eq_false]
  refine ⟨k, by simpa using h, ?_⟩
  simp [hk]
  simpa using h2
theorem asc_all {l : List Int} (h : ∀ k, k ≠ 0 → k < l.length → l.getD (k - 1) 0 < l.getD k 0) : ascK l l.length = true := by
  unfold ascK
  rw [List.all_eq_true]
  intro k hk
  have hk : k < l.length := by simpa using hk
  by_cases e : k = 0
  · simp [e]
  · have := h k e hk
    simp [e]
    simpa using this
theorem getD_is {l : List Int} {k : Nat} {x : Int} (h : l[k]? = some x) : l.getD k 0 = x := by rw [List.getD_eq_getElem?_getD, h]; rfl
theorem numB_mk {x : Int} (h : 0 ≤ x) (h2 : x ≤ 1000000000) : numB x = true := by unfold numB; simp only [Bool.and_eq_true, decide_eq_true_eq]; exact ⟨h, h2⟩
set_option maxHeartbeats 8000000 in
theorem refList (a : Option Addr) (c : Nat) (l : List Int) (w : World) (hN : Nums w a l) (hb64 : ∀ (j : Nat) x, l[j]? = some x → -9223372036854775808 ≤ x ∧ x ≤ 9223372036854775807) (hln : l.length ≤ 100000) : Calls Tryz.prog 8 #[.slice a l.length c] w (RB w (.tuple #[.string ⟨(wlist l).1.toArray⟩, .int .i64 (wlist l).2])) := by
  obtain ⟨res, hres⟩ : ∃ r, wlist l = r := ⟨_, rfl⟩
  rw [hres]
  unfold wlist at hres
  by_cases h5 : 500 < l.length
  · rw [if_pos h5] at hres
    subst hres
    have i1 : (500 : Int) < (l.length : Int) := by omega
    clear hN hb64 h5
    go_enter Tryz.func8, Tryz.ntmps8
    go_wp2_with fail
    go_ret2
    exact rb_tuple rfl rfl (by repeat (first | assumption | exact Bl.refl _ | apply Bl.drewN | apply Bl.drew | apply Bl.alloc | (refine Bl.dr ?_ (by assumption)) | (refine Bl.trans ?_ (by assumption))))
  · rw [if_neg h5] at hres
    have i1 : ¬ (500 : Int) < (l.length : Int) := by omega
    have HR := Lib.hid hres
    have HN := Lib.hid hN
    have HB := Lib.hid hb64
    clear hres hN hb64
    go_enter Tryz.func8, Tryz.ntmps8
    go_wp2_with fail
    go_loopg [4] l.length (fun g i wr => ∃ k : Nat, k ≤ l.length ∧ i = .int .i64 k ∧ Bl w wr ∧ (∀ (j : Nat) x, j < k → l[j]? = some x → numB x = true) ∧ g = l.length - k)
    case atStart => exact ⟨0, by omega, rfl, Bl.refl _, by intro j x hj; omega, by omega⟩
    case round =>
      obtain ⟨k, hk, rfl, hbw, hno, hg⟩ := hrel
      have G := Lib.hid hg
      have HNo := Lib.hid hno
      clear hg hno
      by_cases hkl : k < l.length
      · obtain ⟨b, off, rfl, hat⟩ := (HN.out.bl hbw).get hkl
        obtain ⟨x, hx⟩ : ∃ x, l[k]? = some x := ⟨_, List.getElem?_eq_getElem hkl⟩
        have d0 := hat k x hx
        have j0 : (0 : Int) ≤ (k : Int) := by omega
        have j1 : (k : Int) < (l.length : Int) := by omega
        by_cases hx0 : x < 0
        · have hr := HR.out
          rw [if_pos (all_bad hx (by unfold numB; rw [decide_eq_false (by omega)]; rfl))] at hr
          subst hr
          have t1 : decide (x < 0) = true := by rw [decide_eq_true_eq]; omega
          clear hat hx hx0
          go_wp2_with fail
          go_ret2
          exact rb_tuple rfl rfl hbw
        · have t1 : decide (x < 0) = false := by rw [decide_eq_false_iff_not]; omega
          by_cases hx1 : 1000000000 < x
          · have hr := HR.out
            rw [if_pos (all_bad hx (by unfold numB; rw [decide_eq_false (show ¬ x ≤ 1000000000 by omega), Bool.and_false]))] at hr
            subst hr
            have t2 : decide ((1000000000 : Int) < x) = true := by rw [decide_eq_true_eq]; omega
            clear hat hx hx0 hx1
            go_wp2_with fail
            go_ret2
            exact rb_tuple rfl rfl hbw
          · have t2 : decide ((1000000000 : Int) < x) = false := by rw [decide_eq_false_iff_not]; omega
            have hno2 : ∀ (j : Nat) y, j < k + 1 → l[j]? = some y → numB y = true := by
              intro j y hj hy
              by_cases e : j = k
              · subst e; rw [hx] at hy; injection hy with hy; subst hy; exact numB_mk (by omega) (by omega)
              · exact HNo.out j y (by omega) hy
            have HN2 := Lib.hid hno2
            clear hat hx hx0 hx1 hno2
            go_wp2_with fail
            go_roundg (l.length - (k + 1))
            case rel => exact ⟨k + 1, by omega, by go_num, hbw, HN2.out, rfl⟩
            case measure => rw [G.out]; omega
      · obtain rfl : k = l.length := by omega
        have hall := all_good (fun j x hx => HNo.out j x (List.getElem?_eq_some_iff.1 hx).1 hx)
        have hr := HR.out
        rw [if_neg (by rw [hall]; simp)] at hr
        have HR2 := Lib.hid hr
        clear hall hr HR G hk
        go_wp2_with fail
        go_loopg [5] l.length (fun g i wr => ∃ k : Nat, 1 ≤ k ∧ i = .int .i64 k ∧ (k = 1 ∨ k ≤ l.length) ∧ Bl w wr ∧ (∀ j, j ≠ 0 → j < k → l.getD (j - 1) 0 < l.getD j 0) ∧ g = l.length + 1 - k)
        case atStart => exact ⟨1, by omega, rfl, .inl rfl, hbw, by intro j hj hj2; omega, by omega⟩
        case round =>
          clear hbw
          obtain ⟨k, hk1, rfl, hk, hbw, hno, hg⟩ := hrel
          have G := Lib.hid hg
          have HNa := Lib.hid hno
          have HK := Lib.hid hk
          clear hg hno hk
          by_cases hkl : k < l.length
          · obtain ⟨b, off, rfl, hat⟩ := (HN.out.bl hbw).get hkl
            obtain ⟨x, hx⟩ : ∃ x, l[k]? = some x := ⟨_, List.getElem?_eq_getElem hkl⟩
            obtain ⟨y, hy⟩ : ∃ y, l[k - 1]? = some y := ⟨_, List.getElem?_eq_getElem (by omega)⟩
            have d0 := hat k x hx
            have d1 := hat (k - 1) y hy
            have j0 : (0 : Int) ≤ (k : Int) := by omega
            have j1 : (k : Int) < (l.length : Int) := by omega
            have t4 : (0 : Int) ≤ (k : Int) - 1 := by omega
            have t5 : (k : Int) - 1 < (l.length : Int) := by omega
            have t6 : (((k : Int) - 1).toNat) = k - 1 := by omega
            have v1 : IntKind.i64.wrap ((k : Int) - 1) = (k : Int) - 1 := IntWalk.i64_in _ (by omega)
            by_cases hxy : y < x
            · have t7 : decide (x ≤ y) = false := by rw [decide_eq_false_iff_not]; omega
              have hno2 : ∀ j, j ≠ 0 → j < k + 1 → l.getD (j - 1) 0 < l.getD j 0 := by
                intro j hj hj2
                by_cases e : j = k
                · subst e; rw [getD_is hx, getD_is hy]; exact hxy
                · exact HNa.out j hj (by omega)
              have HN2 := Lib.hid hno2
              clear hat hx hy hxy hno2
              go_wp2_with fail
              go_quiet (fail)
              go_wp2_with fail
              go_roundg (l.length + 1 - (k + 1))
              case rel => exact ⟨k + 1, by omega, by go_num, .inr (by omega), (by repeat (first | assumption | exact Bl.refl _ | apply Bl.drewN | apply Bl.drew | apply Bl.alloc | (refine Bl.dr ?_ (by assumption)) | (refine Bl.trans ?_ (by assumption)))), HN2.out, rfl⟩
              case measure => rw [G.out]; omega
            · have t7 : decide (x ≤ y) = true := by rw [decide_eq_true_eq]; omega
              have hr := HR2.out
              rw [if_pos (asc_bad hkl (by omega) (by rw [getD_is hx, getD_is hy]; exact hxy))] at hr
              subst hr
              clear hat hx hy hxy
              go_wp2_with fail
              go_quiet (fail)
              go_wp2_with fail
              go_ret2
              exact rb_tuple rfl rfl (by repeat (first | assumption | exact Bl.refl _ | apply Bl.drewN | apply Bl.drew | apply Bl.alloc | (refine Bl.dr ?_ (by assumption)) | (refine Bl.trans ?_ (by assumption))))
          · have hasc := asc_all (l := l) (fun j hj hj2 => HNa.out j hj (by have := HK.out; omega))
            have hr := HR2.out
            rw [if_neg (by rw [hasc]; simp)] at hr
            have HR3 := Lib.hid hr
            have n1 : decide (k < l.length) = false := by rw [decide_eq_false_iff_not]; exact hkl
            have n2 : ¬ (k : Int) < (l.length : Int) := by omega
            clear hr hasc HNa G HR2
            by_cases hl0 : l = []
            · have hr := HR3.out
              rw [if_pos hl0] at hr
              subst hr
              have hlz : l.length = 0 := by rw [hl0]; rfl
              have z1 : ((l.length : Int) == 0) = true := by rw [hlz]; rfl
              clear hl0 hlz
              go_wp2_with fail
              go_ret2
              exact rb_tuple rfl rfl hbw
            · have hr := HR3.out
              rw [if_neg hl0] at hr
              have hlz : l.length ≠ 0 := fun h => hl0 (List.length_eq_zero_iff.1 h)
              have z1 : ((l.length : Int) == 0) = false := by rw [beq_eq_false_iff_ne]; omega
              have HR4 := Lib.hid hr
              clear hl0 hlz hr HR3
              go_wp2_with fail
              clear n1 n2 hkl HK hk1
              go_loopg [6, 7] l.length (fun g ov i wr2 => ∃ (k : Nat) (o : ByteArray) (acc : List UInt8), k ≤ l.length ∧ i = .int .i64 k ∧ ov = .string o ∧ o.data.toList = acc ∧ txtG false (runsL l) = acc ++ txtG (!acc.isEmpty) (runsL (l.drop k)) ∧ acc.length ≤ 70 * k ∧ Bl w wr2 ∧ g = l.length - k)
              case atStart => exact ⟨0, ⟨#[]⟩, [], by omega, rfl, rfl, rfl, by simp, by simp, hbw, by omega⟩
              case round =>
                clear hbw
                obtain ⟨k, o, acc, hk, rfl, rfl, hoa, htx, hal, hbw, hg⟩ := hrel
                have G2 := Lib.hid hg
                have HT := Lib.hid htx
                have HOA := Lib.hid hoa
                clear hg htx hoa
                by_cases hkl : k < l.length
                · obtain ⟨b, off, rfl, hat⟩ := HN.out.get hkl
                  obtain ⟨x, hx⟩ : ∃ x, l[k]? = some x := ⟨_, List.getElem?_eq_getElem hkl⟩
                  have d0 := hbw.cell (hat k x hx)
                  have hxb := numB_iff (HNo.out k x hkl hx)
                  have j0 : (0 : Int) ≤ (k : Int) := by omega
                  have j1 : (k : Int) < (l.length : Int) := by omega
                  have hrs : runsL (l.drop k) = runsF x x (l.drop (k + 1)) := by
                    obtain ⟨h1, h2⟩ := List.getElem?_eq_some_iff.1 hx
                    rw [List.drop_eq_getElem_cons h1, h2]; rfl
                  have HRS := Lib.hid hrs
                  have HAT := Lib.hid hat
                  have HX := Lib.hid hx
                  clear hrs hat hx d0
                  go_wp2_with fail
                  go_loopg [8] (l.length - k) (fun g i wr3 => ∃ (m : Nat) (z : Int), k ≤ m ∧ m < l.length ∧ i = .int .i64 m ∧ l[m]? = some z ∧ z = x + ((m : Int) - (k : Int)) ∧ runsL (l.drop k) = runsF x z (l.drop (m + 1)) ∧ Bl w wr3 ∧ g = l.length - m)
                  case atStart => exact ⟨k, x, Nat.le_refl _, hkl, rfl, HX.out, by omega, HRS.out, hbw, rfl⟩
                  case round =>
                    clear hbw
                    obtain ⟨m, z, hkm, hml, rfl, hz, hzk, hrm, hbw, hg3⟩ := hrel
                    have G3 := Lib.hid hg3
                    have HZ := Lib.hid hz
                    have HZK := Lib.hid hzk
                    have HRM := Lib.hid hrm
                    have m0 : (0 : Int) ≤ (m : Int) := by omega
                    have m1 : (m : Int) < (l.length : Int) := by omega
                    have e1 := hbw.cell (HAT.out m z hz)
                    have hzb := numB_iff (HNo.out m z hml hz)
                    have v1 : IntKind.i64.wrap ((m : Int) + 1) = (m : Int) + 1 := IntWalk.i64_in _ (by omega)
                    have v2 : IntKind.i64.wrap (z + 1) = z + 1 := IntWalk.i64_in _ (by omega)
                    have v3 : (0 : Int) ≤ (m : Int) + 1 := by omega
                    have v4 : ((m : Int) + 1).toNat = m + 1 := by omega
                    clear hg3 hz hrm hzk
                    by_cases hm1 : m + 1 < l.length
                    · obtain ⟨y, hy⟩ : ∃ y, l[m + 1]? = some y := ⟨_, List.getElem?_eq_getElem hm1⟩
                      have e2 := hbw.cell (HAT.out (m + 1) y hy)
                      have u1 : decide ((m : Int) + 1 < (l.length : Int)) = true := by rw [decide_eq_true_eq]; omega
                      have u2 : (m : Int) + 1 < (l.length : Int) := by omega
                      have hdr : l.drop (m + 1) = y :: l.drop (m + 1 + 1) := by
                        obtain ⟨h1, h2⟩ := List.getElem?_eq_some_iff.1 hy
                        rw [List.drop_eq_getElem_cons h1, h2]
                      have HY := Lib.hid hy
                      have HM1 := Lib.hid hm1
                      by_cases hyz : y = z + 1
                      · have u3 : (y == z + 1) = true := by rw [beq_iff_eq]; exact hyz
                        have hrm2 : runsL (l.drop k) = runsF x y (l.drop (m + 1 + 1)) := by rw [HRM.out, hdr, hyz, runsF_go]
                        have HRM2 := Lib.hid hrm2
                        have HYZ := Lib.hid hyz
                        clear hy hm1 hdr hyz hrm2
                        go_wp2_with fail
                        go_quiet (fail)
                        go_wp2_with fail
                        go_roundg (l.length - (m + 1))
                        case rel => exact ⟨m + 1, y, by omega, HM1.out, by go_num, HY.out, by have h1 := HYZ.out; have h2 := HZK.out; omega, HRM2.out, (by repeat (first | assumption | exact Bl.refl _ | apply Bl.drewN | apply Bl.drew | apply Bl.alloc | (refine Bl.dr ?_ (by assumption)) | (refine Bl.trans ?_ (by assumption)))), rfl⟩
                        case measure => rw [G3.out]; omega
                      · have u3 : (y == z + 1) = false := by rw [beq_eq_false_iff_ne]; exact hyz
                        have hend : runsF x z (l.drop (m + 1)) = (x, z) :: runsL (l.drop (m + 1)) := by rw [hdr, runsF_stop _ _ _ _ hyz]
                        have HEnd := Lib.hid hend
                        clear hy hm1 hdr hyz hend
                        go_wp2_with fail
                        go_quiet (fail)
                        obtain ⟨q, hq⟩ : ∃ q : ByteArray, (⟨(Lib.itoa x).toArray⟩ : ByteArray) = q := ⟨_, rfl⟩
                        have HD1 := Lib.hid (fun w => refDigitsR x (by omega) (by omega) w)
                        rw [hq] at HD1
                        have hqs : q.size = (Lib.itoa x).length := by rw [← hq]; rfl
                        have hql := Lib.itoa_length_le x (by omega) (by omega)
                        rw [← hqs] at hql
                        have HQ := Lib.hid (show q.data.toList = Lib.itoa x by rw [← hq])
                        have HQz := Lib.hid hqs
                        clear hq hqs
                        have hbc : Bl w (wr.drewN nq) := (by repeat (first | assumption | exact Bl.refl _ | apply Bl.drewN | apply Bl.drew | apply Bl.alloc | (refine Bl.dr ?_ (by assumption)) | (refine Bl.trans ?_ (by assumption))))
                        have ek := hbw.cell (HAT.out k x HX.out)
                        have e3 := hbc.cell (HAT.out m z HZ.out)
                        cases hae : acc.isEmpty with
                        | true =>
                          have hac : acc = [] := by simpa using hae
                          have HAc := Lib.hid hac
                          have ho1 : o.toList.isEmpty = true := by rw [toL, HOA.out]; exact hae
                          have ho2 : (!o.toList.isEmpty) = false := by rw [ho1]; rfl
                          have hosz : o.size = acc.length := by rw [Lib.size_eq, HOA.out]
                          have HOc := Lib.hid hosz
                          have i5 : ¬ 9223372036854775807 < o.size + q.size := by omega
                          have hosb : o.size ≤ 70 * k := by omega
                          clear hae hac hosz
                          go_wp2_with fail
                          refine (HD1.out _).mono ?_; rintro e w6 ⟨rfl, hb6⟩
                          have hbw6 := hbc.trans hb6
                          have e3 := hb6.cell e3
                          clear hb6 ho1 ho2 hbc
                          by_cases hkm : k < m
                          · have x1 : decide (k < m) = true := by rw [decide_eq_true_eq]; exact hkm
                            have x2 : (k : Int) < (m : Int) := by omega
                            have hxz : x < z := by have := HZK.out; omega
                            have hst := txt_step HT.out HRM.out HEnd.out (acc ++ Lib.itoa x ++ (45 :: Lib.itoa z)) (by unfold runT; rw [if_pos hxz]; (rw [HAc.out]; simp))
                            have HD2 := Lib.hid (fun w => refDigitsR z (by omega) (by omega) w)
                            obtain ⟨q2, hq2⟩ : ∃ q : ByteArray, (⟨(Lib.itoa z).toArray⟩ : ByteArray) = q := ⟨_, rfl⟩
                            rw [hq2] at HD2
                            have hqs2 : q2.size = (Lib.itoa z).length := by rw [← hq2]; rfl
                            have hql2 := Lib.itoa_length_le z (by omega) (by omega)
                            rw [← hqs2] at hql2
                            have hoo : (o ++ q ++ ⟨#[45]⟩ ++ q2 : ByteArray).data.toList = acc ++ Lib.itoa x ++ (45 :: Lib.itoa z) := by
                              rw [apS, apS, apS, HOA.out, HQ.out, ← hq2]; simp
                            have i6 : ¬ 9223372036854775807 < (o).size + q.size + 1 := by omega
                            have i7 : ¬ 9223372036854775807 < (o).size + q.size + 1 + q2.size := by omega
                            have hll : (acc ++ Lib.itoa x ++ (45 :: Lib.itoa z)).length ≤ 70 * (m + 1) := by
                              rw [List.length_append, List.length_append, List.length_cons, ← hqs2, ← HQz.out, ← HOc.out]; omega
                            have HOO := Lib.hid hoo
                            have HS := Lib.hid hst
                            clear hoo hst hq2 hqs2 hkm hxz
                            go_wp2_with fail
                            refine (HD2.out _).mono ?_; rintro e w7 ⟨rfl, hb7⟩
                            have hbw7 := hbw6.trans hb7
                            clear hb7
                            go_wp2_with fail
                            go_roundg (l.length - (m + 1))
                            case rel => exact ⟨m + 1, _, _, by omega, by go_num, rfl, HOO.out, HS.out, hll, hbw7, rfl⟩
                            case measure => rw [G2.out]; omega
                          · have x1 : decide (k < m) = false := by rw [decide_eq_false_iff_not]; exact hkm
                            have x2 : ¬ (k : Int) < (m : Int) := by omega
                            have hxz : ¬ x < z := by have := HZK.out; omega
                            have hst := txt_step HT.out HRM.out HEnd.out (acc ++ Lib.itoa x) (by unfold runT; rw [if_neg hxz]; (rw [HAc.out]; simp))
                            have hoo : (o ++ q : ByteArray).data.toList = acc ++ Lib.itoa x := by rw [apS, HOA.out, HQ.out]
                            have hll : (acc ++ Lib.itoa x).length ≤ 70 * (m + 1) := by rw [List.length_append, ← HQz.out, ← HOc.out]; omega
                            have HOO := Lib.hid hoo
                            have HS := Lib.hid hst
                            clear hoo hst hkm hxz
                            go_wp2_with fail
                            go_roundg (l.length - (m + 1))
                            case rel => exact ⟨m + 1, _, _, by omega, by go_num, rfl, HOO.out, HS.out, hll, hbw6, rfl⟩
                            case measure => rw [G2.out]; omega
                        | false =>
                          have HAe := Lib.hid hae
                          have ho1 : o.toList.isEmpty = false := by rw [toL, HOA.out]; exact hae
                          have ho2 : (!o.toList.isEmpty) = true := by rw [ho1]; rfl
                          have hosz : o.size = acc.length := by rw [Lib.size_eq, HOA.out]
                          have hos1 : (o ++ ⟨#[44]⟩ : ByteArray).size = (acc ++ [44]).length := by rw [ByteArray.size_append, hosz, List.length_append]; rfl
                          have hoa1 : (o ++ ⟨#[44]⟩ : ByteArray).data.toList = acc ++ [44] := by rw [apS, HOA.out]
                          have hos2 : (o ++ ⟨#[44]⟩ : ByteArray).size = o.size + 1 := by rw [ByteArray.size_append]; rfl
                          have i4 : ¬ 9223372036854775807 < o.size + 1 := by omega
                          obtain ⟨o2, ho9⟩ : ∃ o2, (o ++ ⟨#[44]⟩ : ByteArray) = o2 := ⟨_, rfl⟩
                          rw [ho9] at hos1 hoa1 hos2
                          have HO9 := Lib.hid ho9
                          have HOc := Lib.hid hos1
                          have HOA2 := Lib.hid hoa1
                          have i5 : ¬ 9223372036854775807 < o2.size + q.size := by omega
                          have hosb : o2.size ≤ 70 * k + 1 := by omega
                          clear hae ho9 hos1 hoa1 hosz hos2
                          go_wp2_with fail
                          rw [HO9.out]
                          refine (HD1.out _).mono ?_; rintro e w6 ⟨rfl, hb6⟩
                          have hbw6 := hbc.trans hb6
                          have e3 := hb6.cell e3
                          clear hb6 ho1 ho2 hbc
                          by_cases hkm : k < m
                          · have x1 : decide (k < m) = true := by rw [decide_eq_true_eq]; exact hkm
                            have x2 : (k : Int) < (m : Int) := by omega
                            have hxz : x < z := by have := HZK.out; omega
                            have hst := txt_step HT.out HRM.out HEnd.out ((acc ++ [44]) ++ Lib.itoa x ++ (45 :: Lib.itoa z)) (by unfold runT; rw [if_pos hxz]; (rw [HAe.out]; simp))
                            have HD2 := Lib.hid (fun w => refDigitsR z (by omega) (by omega) w)
                            obtain ⟨q2, hq2⟩ : ∃ q : ByteArray, (⟨(Lib.itoa z).toArray⟩ : ByteArray) = q := ⟨_, rfl⟩
                            rw [hq2] at HD2
                            have hqs2 : q2.size = (Lib.itoa z).length := by rw [← hq2]; rfl
                            have hql2 := Lib.itoa_length_le z (by omega) (by omega)
                            rw [← hqs2] at hql2
                            have hoo : (o2 ++ q ++ ⟨#[45]⟩ ++ q2 : ByteArray).data.toList = (acc ++ [44]) ++ Lib.itoa x ++ (45 :: Lib.itoa z) := by
                              rw [apS, apS, apS, HOA2.out, HQ.out, ← hq2]; simp
                            have i6 : ¬ 9223372036854775807 < (o2).size + q.size + 1 := by omega
                            have i7 : ¬ 9223372036854775807 < (o2).size + q.size + 1 + q2.size := by omega
                            have hll : ((acc ++ [44]) ++ Lib.itoa x ++ (45 :: Lib.itoa z)).length ≤ 70 * (m + 1) := by
                              rw [List.length_append, List.length_append, List.length_cons, ← hqs2, ← HQz.out, ← HOc.out]; omega
                            have HOO := Lib.hid hoo
                            have HS := Lib.hid hst
                            clear hoo hst hq2 hqs2 hkm hxz
                            go_wp2_with fail
                            refine (HD2.out _).mono ?_; rintro e w7 ⟨rfl, hb7⟩
                            have hbw7 := hbw6.trans hb7
                            clear hb7
                            go_wp2_with fail
                            go_roundg (l.length - (m + 1))
                            case rel => exact ⟨m + 1, _, _, by omega, by go_num, rfl, HOO.out, HS.out, hll, hbw7, rfl⟩
                            case measure => rw [G2.out]; omega
                          · have x1 : decide (k < m) = false := by rw [decide_eq_false_iff_not]; exact hkm
                            have x2 : ¬ (k : Int) < (m : Int) := by omega
                            have hxz : ¬ x < z := by have := HZK.out; omega
                            have hst := txt_step HT.out HRM.out HEnd.out ((acc ++ [44]) ++ Lib.itoa x) (by unfold runT; rw [if_neg hxz]; (rw [HAe.out]; simp))
                            have hoo : (o2 ++ q : ByteArray).data.toList = (acc ++ [44]) ++ Lib.itoa x := by rw [apS, HOA2.out, HQ.out]
                            have hll : ((acc ++ [44]) ++ Lib.itoa x).length ≤ 70 * (m + 1) := by rw [List.length_append, ← HQz.out, ← HOc.out]; omega
                            have HOO := Lib.hid hoo
                            have HS := Lib.hid hst
                            clear hoo hst hkm hxz
                            go_wp2_with fail
                            go_roundg (l.length - (m + 1))
                            case rel => exact ⟨m + 1, _, _, by omega, by go_num, rfl, HOO.out, HS.out, hll, hbw6, rfl⟩
                            case measure => rw [G2.out]; omega
                    · have u1 : decide ((m : Int) + 1 < (l.length : Int)) = false := by rw [decide_eq_false_iff_not]; omega
                      have hend : runsF x z (l.drop (m + 1)) = (x, z) :: runsL (l.drop (m + 1)) := by rw [List.drop_eq_nil_of_le (by omega)]; rfl
                      have HEnd := Lib.hid hend
                      clear hend
                      go_wp2_with fail
                      go_quiet (fail)
                      obtain ⟨q, hq⟩ : ∃ q : ByteArray, (⟨(Lib.itoa x).toArray⟩ : ByteArray) = q := ⟨_, rfl⟩
                      have HD1 := Lib.hid (fun w => refDigitsR x (by omega) (by omega) w)
                      rw [hq] at HD1
                      have hqs : q.size = (Lib.itoa x).length := by rw [← hq]; rfl
                      have hql := Lib.itoa_length_le x (by omega) (by omega)
                      rw [← hqs] at hql
                      have HQ := Lib.hid (show q.data.toList = Lib.itoa x by rw [← hq])
                      have HQz := Lib.hid hqs
                      clear hq hqs
                      have hbc : Bl w (wr.drewN nq) := (by repeat (first | assumption | exact Bl.refl _ | apply Bl.drewN | apply Bl.drew | apply Bl.alloc | (refine Bl.dr ?_ (by assumption)) | (refine Bl.trans ?_ (by assumption))))
                      have ek := hbw.cell (HAT.out k x HX.out)
                      have e3 := hbc.cell (HAT.out m z HZ.out)
                      cases hae : acc.isEmpty with
                      | true =>
                        have hac : acc = [] := by simpa using hae
                        have HAc := Lib.hid hac
                        have ho1 : o.toList.isEmpty = true := by rw [toL, HOA.out]; exact hae
                        have ho2 : (!o.toList.isEmpty) = false := by rw [ho1]; rfl
                        have hosz : o.size = acc.length := by rw [Lib.size_eq, HOA.out]
                        have HOc := Lib.hid hosz
                        have i5 : ¬ 9223372036854775807 < o.size + q.size := by omega
                        have hosb : o.size ≤ 70 * k := by omega
                        clear hae hac hosz
                        go_wp2_with fail
                        refine (HD1.out _).mono ?_; rintro e w6 ⟨rfl, hb6⟩
                        have hbw6 := hbc.trans hb6
                        have e3 := hb6.cell e3
                        clear hb6 ho1 ho2 hbc
                        by_cases hkm : k < m
                        · have x1 : decide (k < m) = true := by rw [decide_eq_true_eq]; exact hkm
                          have x2 : (k : Int) < (m : Int) := by omega
                          have hxz : x < z := by have := HZK.out; omega
                          have hst := txt_step HT.out HRM.out HEnd.out (acc ++ Lib.itoa x ++ (45 :: Lib.itoa z)) (by unfold runT; rw [if_pos hxz]; (rw [HAc.out]; simp))
                          have HD2 := Lib.hid (fun w => refDigitsR z (by omega) (by omega) w)
                          obtain ⟨q2, hq2⟩ : ∃ q : ByteArray, (⟨(Lib.itoa z).toArray⟩ : ByteArray) = q := ⟨_, rfl⟩
                          rw [hq2] at HD2
                          have hqs2 : q2.size = (Lib.itoa z).length := by rw [← hq2]; rfl
                          have hql2 := Lib.itoa_length_le z (by omega) (by omega)
                          rw [← hqs2] at hql2
                          have hoo : (o ++ q ++ ⟨#[45]⟩ ++ q2 : ByteArray).data.toList = acc ++ Lib.itoa x ++ (45 :: Lib.itoa z) := by
                            rw [apS, apS, apS, HOA.out, HQ.out, ← hq2]; simp
                          have i6 : ¬ 9223372036854775807 < (o).size + q.size + 1 := by omega
                          have i7 : ¬ 9223372036854775807 < (o).size + q.size + 1 + q2.size := by omega
                          have hll : (acc ++ Lib.itoa x ++ (45 :: Lib.itoa z)).length ≤ 70 * (m + 1) := by
                            rw [List.length_append, List.length_append, List.length_cons, ← hqs2, ← HQz.out, ← HOc.out]; omega
                          have HOO := Lib.hid hoo
                          have HS := Lib.hid hst
                          clear hoo hst hq2 hqs2 hkm hxz
                          go_wp2_with fail
                          refine (HD2.out _).mono ?_; rintro e w7 ⟨rfl, hb7⟩
                          have hbw7 := hbw6.trans hb7
                          clear hb7
                          go_wp2_with fail
                          go_roundg (l.length - (m + 1))
                          case rel => exact ⟨m + 1, _, _, by omega, by go_num, rfl, HOO.out, HS.out, hll, hbw7, rfl⟩
                          case measure => rw [G2.out]; omega
                        · have x1 : decide (k < m) = false := by rw [decide_eq_false_iff_not]; exact hkm
                          have x2 : ¬ (k : Int) < (m : Int) := by omega
                          have hxz : ¬ x < z := by have := HZK.out; omega
                          have hst := txt_step HT.out HRM.out HEnd.out (acc ++ Lib.itoa x) (by unfold runT; rw [if_neg hxz]; (rw [HAc.out]; simp))
                          have hoo : (o ++ q : ByteArray).data.toList = acc ++ Lib.itoa x := by rw [apS, HOA.out, HQ.out]
                          have hll : (acc ++ Lib.itoa x).length ≤ 70 * (m + 1) := by rw [List.length_append, ← HQz.out, ← HOc.out]; omega
                          have HOO := Lib.hid hoo
                          have HS := Lib.hid hst
                          clear hoo hst hkm hxz
                          go_wp2_with fail
                          go_roundg (l.length - (m + 1))
                          case rel => exact ⟨m + 1, _, _, by omega, by go_num, rfl, HOO.out, HS.out, hll, hbw6, rfl⟩
                          case measure => rw [G2.out]; omega
                      | false =>
                        have HAe := Lib.hid hae
                        have ho1 : o.toList.isEmpty = false := by rw [toL, HOA.out]; exact hae
                        have ho2 : (!o.toList.isEmpty) = true := by rw [ho1]; rfl
                        have hosz : o.size = acc.length := by rw [Lib.size_eq, HOA.out]
                        have hos1 : (o ++ ⟨#[44]⟩ : ByteArray).size = (acc ++ [44]).length := by rw [ByteArray.size_append, hosz, List.length_append]; rfl
                        have hoa1 : (o ++ ⟨#[44]⟩ : ByteArray).data.toList = acc ++ [44] := by rw [apS, HOA.out]
                        have hos2 : (o ++ ⟨#[44]⟩ : ByteArray).size = o.size + 1 := by rw [ByteArray.size_append]; rfl
                        have i4 : ¬ 9223372036854775807 < o.size + 1 := by omega
                        obtain ⟨o2, ho9⟩ : ∃ o2, (o ++ ⟨#[44]⟩ : ByteArray) = o2 := ⟨_, rfl⟩
                        rw [ho9] at hos1 hoa1 hos2
                        have HO9 := Lib.hid ho9
                        have HOc := Lib.hid hos1
                        have HOA2 := Lib.hid hoa1
                        have i5 : ¬ 9223372036854775807 < o2.size + q.size := by omega
                        have hosb : o2.size ≤ 70 * k + 1 := by omega
                        clear hae ho9 hos1 hoa1 hosz hos2
                        go_wp2_with fail
                        rw [HO9.out]
                        refine (HD1.out _).mono ?_; rintro e w6 ⟨rfl, hb6⟩
                        have hbw6 := hbc.trans hb6
                        have e3 := hb6.cell e3
                        clear hb6 ho1 ho2 hbc
                        by_cases hkm : k < m
                        · have x1 : decide (k < m) = true := by rw [decide_eq_true_eq]; exact hkm
                          have x2 : (k : Int) < (m : Int) := by omega
                          have hxz : x < z := by have := HZK.out; omega
                          have hst := txt_step HT.out HRM.out HEnd.out ((acc ++ [44]) ++ Lib.itoa x ++ (45 :: Lib.itoa z)) (by unfold runT; rw [if_pos hxz]; (rw [HAe.out]; simp))
                          have HD2 := Lib.hid (fun w => refDigitsR z (by omega) (by omega) w)
                          obtain ⟨q2, hq2⟩ : ∃ q : ByteArray, (⟨(Lib.itoa z).toArray⟩ : ByteArray) = q := ⟨_, rfl⟩
                          rw [hq2] at HD2
                          have hqs2 : q2.size = (Lib.itoa z).length := by rw [← hq2]; rfl
                          have hql2 := Lib.itoa_length_le z (by omega) (by omega)
                          rw [← hqs2] at hql2
                          have hoo : (o2 ++ q ++ ⟨#[45]⟩ ++ q2 : ByteArray).data.toList = (acc ++ [44]) ++ Lib.itoa x ++ (45 :: Lib.itoa z) := by
                            rw [apS, apS, apS, HOA2.out, HQ.out, ← hq2]; simp
                          have i6 : ¬ 9223372036854775807 < (o2).size + q.size + 1 := by omega
                          have i7 : ¬ 9223372036854775807 < (o2).size + q.size + 1 + q2.size := by omega
                          have hll : ((acc ++ [44]) ++ Lib.itoa x ++ (45 :: Lib.itoa z)).length ≤ 70 * (m + 1) := by
                            rw [List.length_append, List.length_append, List.length_cons, ← hqs2, ← HQz.out, ← HOc.out]; omega
                          have HOO := Lib.hid hoo
                          have HS := Lib.hid hst
                          clear hoo hst hq2 hqs2 hkm hxz
                          go_wp2_with fail
                          refine (HD2.out _).mono ?_; rintro e w7 ⟨rfl, hb7⟩
                          have hbw7 := hbw6.trans hb7
                          clear hb7
                          go_wp2_with fail
                          go_roundg (l.length - (m + 1))
                          case rel => exact ⟨m + 1, _, _, by omega, by go_num, rfl, HOO.out, HS.out, hll, hbw7, rfl⟩
                          case measure => rw [G2.out]; omega
                        · have x1 : decide (k < m) = false := by rw [decide_eq_false_iff_not]; exact hkm
                          have x2 : ¬ (k : Int) < (m : Int) := by omega
                          have hxz : ¬ x < z := by have := HZK.out; omega
                          have hst := txt_step HT.out HRM.out HEnd.out ((acc ++ [44]) ++ Lib.itoa x) (by unfold runT; rw [if_neg hxz]; (rw [HAe.out]; simp))
                          have hoo : (o2 ++ q : ByteArray).data.toList = (acc ++ [44]) ++ Lib.itoa x := by rw [apS, HOA2.out, HQ.out]
                          have hll : ((acc ++ [44]) ++ Lib.itoa x).length ≤ 70 * (m + 1) := by rw [List.length_append, ← HQz.out, ← HOc.out]; omega
                          have HOO := Lib.hid hoo
                          have HS := Lib.hid hst
                          clear hoo hst hkm hxz
                          go_wp2_with fail
                          go_roundg (l.length - (m + 1))
                          case rel => exact ⟨m + 1, _, _, by omega, by go_num, rfl, HOO.out, HS.out, hll, hbw6, rfl⟩
                          case measure => rw [G2.out]; omega
                · obtain rfl : k = l.length := by omega
                  have hr := HR4.out
                  have hz : txtG false (runsL l) = acc := by rw [HT.out, List.drop_length]; simp [runsL, txtG]
                  rw [hz] at hr
                  subst hr
                  have ho : o = ⟨acc.toArray⟩ := by rw [← HOA.out]
                  have HO := Lib.hid ho
                  clear hz ho HT
                  go_wp2_with fail
                  go_ret2
                  exact rb_tuple (sval HO.out) rfl hbw
end Go.Proofs.YtfjdcfmoodlnaaaGreatDoor
