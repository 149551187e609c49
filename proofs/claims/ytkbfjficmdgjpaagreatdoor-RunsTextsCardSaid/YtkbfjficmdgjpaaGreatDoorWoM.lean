
/-
  Contracts of words: the reference's Name, decimal forms, Int, Digits.
-/
import Derived.Test.YtkbfjficmdgjpaaGreatDoorWoL
import Derived.Test.YtkbfjficmdgjpaaGreatDoorWoD
import Derived.Deep.RegionHeld3
namespace Go.Proofs.YtkbfjficmdgjpaaGreatDoor
open Go.RowKit
set_option linter.unusedSimpArgs false
set_option linter.unusedVariables false
set_option maxRecDepth 100000

set_option maxHeartbeats 1000000 in
theorem refDigit (c : UInt8) (w : World) : Calls Tryz.prog 77 #[.int .u8 (c.toNat : Nat)] w (RB w (.bool (digB c))) := by
  by_cases h1 : 48 ≤ c.toNat
  · have p1 : (48 : Int) ≤ (c.toNat : Int) := by omega
    by_cases h2 : c.toNat ≤ 57
    · have p2 : (c.toNat : Int) ≤ 57 := by omega
      rw [show digB c = true by unfold digB; rw [decide_eq_true h1, decide_eq_true h2]; rfl]
      clear h1 h2
      go_enter Tryz.func77, Tryz.ntmps77
      go_wp2_with fail
      go_ret
      exact RB.mk rfl (by repeat (first | assumption | exact Bl.refl _ | apply Bl.drewN | apply Bl.drew | apply Bl.alloc | (refine Bl.dr ?_ (by assumption)) | (refine Bl.trans ?_ (by assumption))))
    · have p2 : ¬ (c.toNat : Int) ≤ 57 := by omega
      rw [show digB c = false by unfold digB; rw [decide_eq_false h2, Bool.and_false]]
      clear h1 h2
      go_enter Tryz.func77, Tryz.ntmps77
      go_wp2_with fail
      go_ret
      exact RB.mk rfl (by repeat (first | assumption | exact Bl.refl _ | apply Bl.drewN | apply Bl.drew | apply Bl.alloc | (refine Bl.dr ?_ (by assumption)) | (refine Bl.trans ?_ (by assumption))))
  · have p1 : ¬ (48 : Int) ≤ (c.toNat : Int) := by omega
    rw [show digB c = false by unfold digB; rw [decide_eq_false h1, Bool.false_and]]
    clear h1
    go_enter Tryz.func77, Tryz.ntmps77
    go_wp2_with fail
    go_ret
    exact RB.mk rfl (by repeat (first | assumption | exact Bl.refl _ | apply Bl.drewN | apply Bl.drew | apply Bl.alloc | (refine Bl.dr ?_ (by assumption)) | (refine Bl.trans ?_ (by assumption))))
theorem all_stop {p : UInt8 → Bool} {l : List UInt8} {k : Nat} {c : UInt8} (h : l[k]? = some c) (hc : p c = false) : l.all p = false := by
  rw [List.all_eq_false]; exact ⟨c, List.mem_of_getElem? h, by simp [hc]⟩
theorem all_whole {p : UInt8 → Bool} {l : List UInt8} (h : ∀ (j : Nat) c, l[j]? = some c → p c = true) : l.all p = true := by
  rw [List.all_eq_true]
  intro c hc
  obtain ⟨j, hj, rfl⟩ := List.getElem_of_mem hc
  exact h j _ (List.getElem?_eq_getElem hj)
/-! ### decimal -/
theorem ext_dropM (r : ByteArray) (n : Nat) : (r.extract n r.size).data.toList = r.data.toList.drop n := by
  rw [ByteArray.data_extract]; simp
  rw [List.take_of_length_le (by simp)]
theorem dec_cut {l : List UInt8} {c : UInt8} (h0 : l[0]? = some 45) (h1 : l[1]? = some c) (hc : c ≠ 48) : isDec l = (l.drop 1).all digB := by
  match l, h0, h1 with
  | a :: b :: r, h0, h1 =>
    simp at h0 h1; subst h0 h1
    have e1 : (some b != some (48 : UInt8)) = true := by rw [bne_iff_ne]; intro h; injection h with h; exact hc h
    have e2 : (b :: r != [48]) = true := by rw [bne_iff_ne]; intro h; injection h with h _; exact hc h
    simp only [isDec, if_true, isNat, List.isEmpty_cons, Bool.not_false, Bool.true_and, List.head?_cons, e1, e2, Bool.true_or, Bool.and_true, List.drop_succ_cons, List.drop_zero]
theorem dec_48 {l : List UInt8} (h0 : l[0]? = some 48) (hl : 1 < l.length) : isDec l = false := by
  match l, h0, hl with
  | a :: b :: r, h0, _ =>
    simp at h0; subst h0
    simp [isDec, isNat]
theorem dec_else {l : List UInt8} {c : UInt8} (h0 : l[0]? = some c) (h1 : c = 45 → ∀ d, l[1]? = some d → d = 48) (h2 : c = 48 → l.length = 1) : isDec l = l.all digB := by
  match l, h0 with
  | a :: r, h0 =>
    simp at h0; subst h0
    by_cases e : a = 45
    · subst e
      have hd : digB 45 = false := by decide
      cases r with
      | nil => simp [isDec, isNat, hd]
      | cons b r =>
        obtain rfl : b = 48 := h1 rfl b rfl
        simp [isDec, isNat, hd]
    · simp only [isDec, if_neg e, isNat]
      by_cases e8 : a = 48
      · have := h2 e8
        have hr : r = [] := by simpa using this
        subst hr e8; rfl
      · simp [e8]
set_option maxHeartbeats 8000000 in
theorem refDec (s : ByteArray) (hs : s.size ≤ 100000) (w : World) : Calls Tryz.prog 51 #[.string s] w (RB w (.bool (isDec s.data.toList))) := by
  by_cases hz : s.size = 0
  · obtain rfl := str_empty hz
    rw [show isDec (⟨#[]⟩ : ByteArray).data.toList = false from rfl]
    clear hz
    go_enter Tryz.func51, Tryz.ntmps51
    go_wp2_with fail
    go_ret
    exact RB.mk rfl (by repeat (first | assumption | exact Bl.refl _ | apply Bl.drewN | apply Bl.drew | apply Bl.alloc | (refine Bl.dr ?_ (by assumption)) | (refine Bl.trans ?_ (by assumption))))
  · have h0 : 0 < s.size := by omega
    have hx0 := str_get h0
    have i0 : ((s.size : Int) == 0) = false := by rw [beq_eq_false_iff_ne]; omega
    have j0 : (0 : Int) < (s.size : Int) := by omega
    have hlen : s.data.toList.length = s.size := by simp
    by_cases h1 : 1 < s.size
    · have hx1 := str_get h1
      have j1 : (1 : Int) < (s.size : Int) := by omega
      have d1 : decide ((1 : Int) < (s.size : Int)) = true := by rw [decide_eq_true_eq]; omega
      by_cases h45 : (s[0]'h0) = 45
      · have e45 : (((s[0]'h0).toNat : Int) == 45) = true := by rw [h45]; rfl
        have e48 : (((s[0]'h0).toNat : Int) == 48) = false := by rw [h45]; rfl
        by_cases h48 : (s[1]'h1) = 48
        · have f48 : (((s[1]'h1).toNat : Int) != 48) = false := by rw [h48]; rfl
          rw [dec_else hx0 (fun _ d hd => by rw [hx1] at hd; injection hd with hd; rw [← hd, h48]) (fun e => by rw [h45] at e; cases e)]
          clear h45 h48 hx0 hx1 hlen hz
          have HR := Lib.hid (fun (k : Nat) c (h : (s).data.toList[k]? = some c) (hc : digB c = false) => all_stop h hc)
          have HA := Lib.hid (fun h => all_whole (p := digB) (l := (s).data.toList) h)
          generalize (s).data.toList.all digB = R at HR HA ⊢
          go_enter Tryz.func51, Tryz.ntmps51
          go_wp2_with fail
          go_loopg [3] (s).size (fun g i wr => ∃ k : Nat, k ≤ (s).size ∧ i = .int .i64 k ∧ Bl w wr ∧ (∀ (j : Nat) c, j < k → (s).data.toList[j]? = some c → digB c = true) ∧ g = (s).size - k)
          case atStart => exact ⟨0, by omega, rfl, (Bl.refl w), by intro j c hj; omega, rfl⟩
          case round =>
            obtain ⟨k, hk, rfl, hbw, hno, hg⟩ := hrel
            have G := Lib.hid hg
            have HN := Lib.hid hno
            clear hg hno
            by_cases hkl : k < (s).size
            · have hx := str_get hkl
              have h1 : (0 : Int) ≤ (k : Int) := by omega
              have h2 : (k : Int) < ((s).size : Int) := by omega
              generalize hc : (s)[k]'hkl = c at hx
              have HX := Lib.hid hx
              have hQ := fun w => refDigit c w
              clear hx
              cases hd : digB c with
              | true =>
                rw [hd] at hQ
                have HQ := Lib.hid hQ
                have HC := Lib.hid hd
                clear hQ hd
                go_wp2_with fail
                refine (HQ.out _).mono ?_; rintro e w3 ⟨rfl, hb3⟩
                go_wp2_with fail
                go_roundg ((s).size - (k + 1))
                case rel =>
                  refine ⟨k + 1, by omega, by go_num, (by repeat (first | assumption | exact Bl.refl _ | apply Bl.drewN | apply Bl.drew | apply Bl.alloc | (refine Bl.dr ?_ (by assumption)) | (refine Bl.trans ?_ (by assumption)))), fun j d hj hd => ?_, rfl⟩
                  by_cases e : j = k
                  · subst e; rw [HX.out] at hd; injection hd with hd; subst hd; exact HC.out
                  · exact HN.out j d (by omega) hd
                case measure => rw [G.out]; omega
              | false =>
                rw [hd] at hQ
                have HQ := Lib.hid hQ
                have hr := HR.out k c HX.out hd
                subst hr
                clear hQ hd
                go_wp2_with fail
                refine (HQ.out _).mono ?_; rintro e w3 ⟨rfl, hb3⟩
                go_wp2_with fail
                go_ret
                exact RB.mk rfl (by repeat (first | assumption | exact Bl.refl _ | apply Bl.drewN | apply Bl.drew | apply Bl.alloc | (refine Bl.dr ?_ (by assumption)) | (refine Bl.trans ?_ (by assumption))))
            · obtain rfl : k = (s).size := by omega
              have hr := HA.out (fun j d hd => HN.out j d (by have := (List.getElem?_eq_some_iff.1 hd).1; simpa using this) hd)
              subst hr
              go_wp2_with fail
              go_ret
              exact RB.mk rfl hbw
        · have f48 : (((s[1]'h1).toNat : Int) != 48) = true := u8_bne (d := 48) h48
          rw [h45] at hx0
          rw [dec_cut hx0 hx1 h48]
          obtain ⟨t, ht⟩ : ∃ t : ByteArray, s.extract 1 s.size = t := ⟨_, rfl⟩
          have hts : t.size = s.size - 1 := by rw [← ht]; simp
          have htl : t.data.toList = s.data.toList.drop 1 := by rw [← ht, ext_dropM]
          have ht0 : 0 < t.size := by omega
          have hy : t.data.toList[0]? = some (s[1]'h1) := by rw [htl]; simpa using hx1
          have hty : (t[0]'ht0) = (s[1]'h1) := by have := str_get ht0; rw [hy] at this; injection this with this; exact this.symm
          have g48 : (((t[0]'ht0).toNat : Int) == 48) = false := by rw [hty]; exact u8_ne (d := 48) h48
          have k0 : ((t.size : Int) == 0) = false := by rw [beq_eq_false_iff_ne]; omega
          have k1 : (0 : Int) < (t.size : Int) := by omega
          have htz : t.size ≤ 100000 := by omega
          rw [← htl]
          clear h45 h48 hx0 hx1 hlen hz hts htl hy hty
          have HR := Lib.hid (fun (k : Nat) c (h : (t).data.toList[k]? = some c) (hc : digB c = false) => all_stop h hc)
          have HA := Lib.hid (fun h => all_whole (p := digB) (l := (t).data.toList) h)
          generalize (t).data.toList.all digB = R at HR HA ⊢
          by_cases ht1 : 1 < t.size
          · have d2 : decide ((1 : Int) < (t.size : Int)) = true := by rw [decide_eq_true_eq]; omega
            go_enter Tryz.func51, Tryz.ntmps51
            go_wp2_with fail
            clear ht
            go_loopg [3] (t).size (fun g i wr => ∃ k : Nat, k ≤ (t).size ∧ i = .int .i64 k ∧ Bl w wr ∧ (∀ (j : Nat) c, j < k → (t).data.toList[j]? = some c → digB c = true) ∧ g = (t).size - k)
            case atStart => exact ⟨0, by omega, rfl, (Bl.refl w), by intro j c hj; omega, rfl⟩
            case round =>
              obtain ⟨k, hk, rfl, hbw, hno, hg⟩ := hrel
              have G := Lib.hid hg
              have HN := Lib.hid hno
              clear hg hno
              by_cases hkl : k < (t).size
              · have hx := str_get hkl
                have h1 : (0 : Int) ≤ (k : Int) := by omega
                have h2 : (k : Int) < ((t).size : Int) := by omega
                generalize hc : (t)[k]'hkl = c at hx
                have HX := Lib.hid hx
                have hQ := fun w => refDigit c w
                clear hx
                cases hd : digB c with
                | true =>
                  rw [hd] at hQ
                  have HQ := Lib.hid hQ
                  have HC := Lib.hid hd
                  clear hQ hd
                  go_wp2_with fail
                  refine (HQ.out _).mono ?_; rintro e w3 ⟨rfl, hb3⟩
                  go_wp2_with fail
                  go_roundg ((t).size - (k + 1))
                  case rel =>
                    refine ⟨k + 1, by omega, by go_num, (by repeat (first | assumption | exact Bl.refl _ | apply Bl.drewN | apply Bl.drew | apply Bl.alloc | (refine Bl.dr ?_ (by assumption)) | (refine Bl.trans ?_ (by assumption)))), fun j d hj hd => ?_, rfl⟩
                    by_cases e : j = k
                    · subst e; rw [HX.out] at hd; injection hd with hd; subst hd; exact HC.out
                    · exact HN.out j d (by omega) hd
                  case measure => rw [G.out]; omega
                | false =>
                  rw [hd] at hQ
                  have HQ := Lib.hid hQ
                  have hr := HR.out k c HX.out hd
                  subst hr
                  clear hQ hd
                  go_wp2_with fail
                  refine (HQ.out _).mono ?_; rintro e w3 ⟨rfl, hb3⟩
                  go_wp2_with fail
                  go_ret
                  exact RB.mk rfl (by repeat (first | assumption | exact Bl.refl _ | apply Bl.drewN | apply Bl.drew | apply Bl.alloc | (refine Bl.dr ?_ (by assumption)) | (refine Bl.trans ?_ (by assumption))))
              · obtain rfl : k = (t).size := by omega
                have hr := HA.out (fun j d hd => HN.out j d (by have := (List.getElem?_eq_some_iff.1 hd).1; simpa using this) hd)
                subst hr
                go_wp2_with fail
                go_ret
                exact RB.mk rfl hbw
          · have d2 : decide ((1 : Int) < (t.size : Int)) = false := by rw [decide_eq_false_iff_not]; omega
            go_enter Tryz.func51, Tryz.ntmps51
            go_wp2_with fail
            clear ht
            go_loopg [3] (t).size (fun g i wr => ∃ k : Nat, k ≤ (t).size ∧ i = .int .i64 k ∧ Bl w wr ∧ (∀ (j : Nat) c, j < k → (t).data.toList[j]? = some c → digB c = true) ∧ g = (t).size - k)
            case atStart => exact ⟨0, by omega, rfl, (Bl.refl w), by intro j c hj; omega, rfl⟩
            case round =>
              obtain ⟨k, hk, rfl, hbw, hno, hg⟩ := hrel
              have G := Lib.hid hg
              have HN := Lib.hid hno
              clear hg hno
              by_cases hkl : k < (t).size
              · have hx := str_get hkl
                have h1 : (0 : Int) ≤ (k : Int) := by omega
                have h2 : (k : Int) < ((t).size : Int) := by omega
                generalize hc : (t)[k]'hkl = c at hx
                have HX := Lib.hid hx
                have hQ := fun w => refDigit c w
                clear hx
                cases hd : digB c with
                | true =>
                  rw [hd] at hQ
                  have HQ := Lib.hid hQ
                  have HC := Lib.hid hd
                  clear hQ hd
                  go_wp2_with fail
                  refine (HQ.out _).mono ?_; rintro e w3 ⟨rfl, hb3⟩
                  go_wp2_with fail
                  go_roundg ((t).size - (k + 1))
                  case rel =>
                    refine ⟨k + 1, by omega, by go_num, (by repeat (first | assumption | exact Bl.refl _ | apply Bl.drewN | apply Bl.drew | apply Bl.alloc | (refine Bl.dr ?_ (by assumption)) | (refine Bl.trans ?_ (by assumption)))), fun j d hj hd => ?_, rfl⟩
                    by_cases e : j = k
                    · subst e; rw [HX.out] at hd; injection hd with hd; subst hd; exact HC.out
                    · exact HN.out j d (by omega) hd
                  case measure => rw [G.out]; omega
                | false =>
                  rw [hd] at hQ
                  have HQ := Lib.hid hQ
                  have hr := HR.out k c HX.out hd
                  subst hr
                  clear hQ hd
                  go_wp2_with fail
                  refine (HQ.out _).mono ?_; rintro e w3 ⟨rfl, hb3⟩
                  go_wp2_with fail
                  go_ret
                  exact RB.mk rfl (by repeat (first | assumption | exact Bl.refl _ | apply Bl.drewN | apply Bl.drew | apply Bl.alloc | (refine Bl.dr ?_ (by assumption)) | (refine Bl.trans ?_ (by assumption))))
              · obtain rfl : k = (t).size := by omega
                have hr := HA.out (fun j d hd => HN.out j d (by have := (List.getElem?_eq_some_iff.1 hd).1; simpa using this) hd)
                subst hr
                go_wp2_with fail
                go_ret
                exact RB.mk rfl hbw
      · have e45 : (((s[0]'h0).toNat : Int) == 45) = false := u8_ne (d := 45) h45
        by_cases h48 : (s[0]'h0) = 48
        · have e48 : (((s[0]'h0).toNat : Int) == 48) = true := by rw [h48]; rfl
          rw [h48] at hx0
          rw [dec_48 hx0 (by simpa using h1)]
          clear h45 h48 hx0 hx1 hlen hz
          go_enter Tryz.func51, Tryz.ntmps51
          go_wp2_with fail
          go_ret
          exact RB.mk rfl (by repeat (first | assumption | exact Bl.refl _ | apply Bl.drewN | apply Bl.drew | apply Bl.alloc | (refine Bl.dr ?_ (by assumption)) | (refine Bl.trans ?_ (by assumption))))
        · have e48 : (((s[0]'h0).toNat : Int) == 48) = false := u8_ne (d := 48) h48
          rw [dec_else hx0 (fun e => absurd e h45) (fun e => absurd e h48)]
          clear h45 h48 hx0 hx1 hlen hz
          have HR := Lib.hid (fun (k : Nat) c (h : (s).data.toList[k]? = some c) (hc : digB c = false) => all_stop h hc)
          have HA := Lib.hid (fun h => all_whole (p := digB) (l := (s).data.toList) h)
          generalize (s).data.toList.all digB = R at HR HA ⊢
          go_enter Tryz.func51, Tryz.ntmps51
          go_wp2_with fail
          go_loopg [3] (s).size (fun g i wr => ∃ k : Nat, k ≤ (s).size ∧ i = .int .i64 k ∧ Bl w wr ∧ (∀ (j : Nat) c, j < k → (s).data.toList[j]? = some c → digB c = true) ∧ g = (s).size - k)
          case atStart => exact ⟨0, by omega, rfl, (Bl.refl w), by intro j c hj; omega, rfl⟩
          case round =>
            obtain ⟨k, hk, rfl, hbw, hno, hg⟩ := hrel
            have G := Lib.hid hg
            have HN := Lib.hid hno
            clear hg hno
            by_cases hkl : k < (s).size
            · have hx := str_get hkl
              have h1 : (0 : Int) ≤ (k : Int) := by omega
              have h2 : (k : Int) < ((s).size : Int) := by omega
              generalize hc : (s)[k]'hkl = c at hx
              have HX := Lib.hid hx
              have hQ := fun w => refDigit c w
              clear hx
              cases hd : digB c with
              | true =>
                rw [hd] at hQ
                have HQ := Lib.hid hQ
                have HC := Lib.hid hd
                clear hQ hd
                go_wp2_with fail
                refine (HQ.out _).mono ?_; rintro e w3 ⟨rfl, hb3⟩
                go_wp2_with fail
                go_roundg ((s).size - (k + 1))
                case rel =>
                  refine ⟨k + 1, by omega, by go_num, (by repeat (first | assumption | exact Bl.refl _ | apply Bl.drewN | apply Bl.drew | apply Bl.alloc | (refine Bl.dr ?_ (by assumption)) | (refine Bl.trans ?_ (by assumption)))), fun j d hj hd => ?_, rfl⟩
                  by_cases e : j = k
                  · subst e; rw [HX.out] at hd; injection hd with hd; subst hd; exact HC.out
                  · exact HN.out j d (by omega) hd
                case measure => rw [G.out]; omega
              | false =>
                rw [hd] at hQ
                have HQ := Lib.hid hQ
                have hr := HR.out k c HX.out hd
                subst hr
                clear hQ hd
                go_wp2_with fail
                refine (HQ.out _).mono ?_; rintro e w3 ⟨rfl, hb3⟩
                go_wp2_with fail
                go_ret
                exact RB.mk rfl (by repeat (first | assumption | exact Bl.refl _ | apply Bl.drewN | apply Bl.drew | apply Bl.alloc | (refine Bl.dr ?_ (by assumption)) | (refine Bl.trans ?_ (by assumption))))
            · obtain rfl : k = (s).size := by omega
              have hr := HA.out (fun j d hd => HN.out j d (by have := (List.getElem?_eq_some_iff.1 hd).1; simpa using this) hd)
              subst hr
              go_wp2_with fail
              go_ret
              exact RB.mk rfl hbw
    · have d1 : decide ((1 : Int) < (s.size : Int)) = false := by rw [decide_eq_false_iff_not]; omega
      rw [dec_else hx0 (fun _ d hd => by have := (List.getElem?_eq_some_iff.1 hd).1; omega) (fun _ => by omega)]
      clear hx0 hlen hz
      have HR := Lib.hid (fun (k : Nat) c (h : (s).data.toList[k]? = some c) (hc : digB c = false) => all_stop h hc)
      have HA := Lib.hid (fun h => all_whole (p := digB) (l := (s).data.toList) h)
      generalize (s).data.toList.all digB = R at HR HA ⊢
      go_enter Tryz.func51, Tryz.ntmps51
      go_wp2_with fail
      go_loopg [3] (s).size (fun g i wr => ∃ k : Nat, k ≤ (s).size ∧ i = .int .i64 k ∧ Bl w wr ∧ (∀ (j : Nat) c, j < k → (s).data.toList[j]? = some c → digB c = true) ∧ g = (s).size - k)
      case atStart => exact ⟨0, by omega, rfl, (Bl.refl w), by intro j c hj; omega, rfl⟩
      case round =>
        obtain ⟨k, hk, rfl, hbw, hno, hg⟩ := hrel
        have G := Lib.hid hg
        have HN := Lib.hid hno
        clear hg hno
        by_cases hkl : k < (s).size
        · have hx := str_get hkl
          have h1 : (0 : Int) ≤ (k : Int) := by omega
          have h2 : (k : Int) < ((s).size : Int) := by omega
          generalize hc : (s)[k]'hkl = c at hx
          have HX := Lib.hid hx
          have hQ := fun w => refDigit c w
          clear hx
          cases hd : digB c with
          | true =>
            rw [hd] at hQ
            have HQ := Lib.hid hQ
            have HC := Lib.hid hd
            clear hQ hd
            go_wp2_with fail
            refine (HQ.out _).mono ?_; rintro e w3 ⟨rfl, hb3⟩
            go_wp2_with fail
            go_roundg ((s).size - (k + 1))
            case rel =>
              refine ⟨k + 1, by omega, by go_num, (by repeat (first | assumption | exact Bl.refl _ | apply Bl.drewN | apply Bl.drew | apply Bl.alloc | (refine Bl.dr ?_ (by assumption)) | (refine Bl.trans ?_ (by assumption)))), fun j d hj hd => ?_, rfl⟩
              by_cases e : j = k
              · subst e; rw [HX.out] at hd; injection hd with hd; subst hd; exact HC.out
              · exact HN.out j d (by omega) hd
            case measure => rw [G.out]; omega
          | false =>
            rw [hd] at hQ
            have HQ := Lib.hid hQ
            have hr := HR.out k c HX.out hd
            subst hr
            clear hQ hd
            go_wp2_with fail
            refine (HQ.out _).mono ?_; rintro e w3 ⟨rfl, hb3⟩
            go_wp2_with fail
            go_ret
            exact RB.mk rfl (by repeat (first | assumption | exact Bl.refl _ | apply Bl.drewN | apply Bl.drew | apply Bl.alloc | (refine Bl.dr ?_ (by assumption)) | (refine Bl.trans ?_ (by assumption))))
        · obtain rfl : k = (s).size := by omega
          have hr := HA.out (fun j d hd => HN.out j d (by have := (List.getElem?_eq_some_iff.1 hd).1; simpa using this) hd)
          subst hr
          go_wp2_with fail
          go_ret
          exact RB.mk rfl hbw
/-! ### Int -/
/-- The number that the digits up to a place make. -/
def numTo (l : List UInt8) (k : Nat) : Nat := natV 0 ((l.take k).filter (fun c => c != 45))
theorem isDec_dig {l : List UInt8} (h : isDec l = true) : ∀ (k : Nat) c, l[k]? = some c → c = 45 ∧ k = 0 ∨ c ≠ 45 ∧ digB c = true := by
  intro k c hc
  match l with
  | [] => cases h
  | a :: r =>
    simp only [isDec] at h
    by_cases e : a = 45
    · rw [if_pos e] at h
      simp only [Bool.and_eq_true] at h
      obtain ⟨-, h2, -⟩ := isNat_iff.1 h.1
      cases k with
      | zero => simp at hc; subst hc; exact .inl ⟨e, rfl⟩
      | succ k =>
        have hm := List.mem_of_getElem? (show r[k]? = some c by simpa using hc)
        have hd := h2 c hm
        refine .inr ⟨?_, hd⟩
        rintro rfl; simp [digB] at hd
    · rw [if_neg e] at h
      obtain ⟨-, h2, -⟩ := isNat_iff.1 h
      have hm := List.mem_of_getElem? hc
      have hd := h2 c hm
      refine .inr ⟨?_, hd⟩
      rintro rfl; simp [digB] at hd
theorem numTo_skip {l : List UInt8} {k : Nat} (h : l[k]? = some 45) : numTo l (k + 1) = numTo l k := by
  obtain ⟨hk, hz⟩ := List.getElem?_eq_some_iff.1 h
  unfold numTo
  rw [List.take_succ_eq_append_getElem hk, hz, List.filter_append]
  simp
theorem numTo_step {l : List UInt8} {k : Nat} {c : UInt8} (h : l[k]? = some c) (hc : c ≠ 45) : numTo l (k + 1) = numTo l k * 10 + (c.toNat - 48) := by
  obtain ⟨hk, hz⟩ := List.getElem?_eq_some_iff.1 h
  unfold numTo
  rw [List.take_succ_eq_append_getElem hk, hz, List.filter_append]
  have : List.filter (fun c => c != 45) [c] = [c] := by simp [hc]
  rw [this, natV_app]
  rfl
theorem numTo_le (l : List UInt8) (k : Nat) : numTo l k ≤ numTo l l.length := by
  unfold numTo
  rw [List.take_length]
  have : l = l.take k ++ l.drop k := (List.take_append_drop k l).symm
  rw [show l.filter (fun c => c != 45) = (l.take k).filter (fun c => c != 45) ++ (l.drop k).filter (fun c => c != 45) by rw [← List.filter_append, List.take_append_drop]]
  rw [natV_app]
  exact natV_ge _ _
theorem numTo_all {l : List UInt8} (h : isDec l = true) : intV l = if l.headD 0 = 45 then -(numTo l l.length : Int) else (numTo l l.length : Int) := by
  have hd := isDec_dig h
  match l with
  | [] => cases h
  | a :: r =>
    have hr : r.filter (fun c => c != 45) = r := by
      rw [List.filter_eq_self]
      intro c hc
      obtain ⟨j, hj, rfl⟩ := List.getElem_of_mem hc
      rcases hd (j + 1) r[j] (by simp [List.getElem?_eq_getElem hj]) with ⟨_, h2⟩ | ⟨h2, _⟩
      · omega
      · simpa using h2
    unfold numTo
    simp only [intV, List.headD_cons, List.take_length]
    by_cases e : a = 45
    · rw [if_pos e, if_pos e]; subst e; simp [hr]
    · rw [if_neg e, if_neg e]; simp [e, hr]
end Go.Proofs.YtkbfjficmdgjpaaGreatDoor
