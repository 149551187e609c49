
/-
  Contracts of words: the reference's Int and Digits.
-/
import Derived.Test.YtkbfjficmdgjpaaGreatDoorWoM
namespace Go.Proofs.YtkbfjficmdgjpaaGreatDoor
open Go.RowKit
set_option linter.unusedSimpArgs false
set_option linter.unusedVariables false
set_option maxRecDepth 100000

theorem quo_ok (x : Int) (h1 : 48 ≤ x) (h2 : x ≤ 57) : (-9223372036854775808 + (x - 48)).tdiv 10 = if x = 57 then -922337203685477579 else -922337203685477580 := by
  rcases (by omega : x = 48 ∨ x = 49 ∨ x = 50 ∨ x = 51 ∨ x = 52 ∨ x = 53 ∨ x = 54 ∨ x = 55 ∨ x = 56 ∨ x = 57) with rfl | rfl | rfl | rfl | rfl | rfl | rfl | rfl | rfl | rfl <;> rfl
theorem in_no {v : Int} (h : ¬ (-9223372036854775808 ≤ v ∧ v ≤ 9223372036854775807)) : inI64 v = false := by
  unfold inI64
  by_cases h1 : -9223372036854775808 ≤ v
  · rw [decide_eq_false (fun h2 => h ⟨h1, h2⟩), Bool.and_false]
  · rw [decide_eq_false h1, Bool.false_and]
theorem in_yes {v : Int} (h1 : -9223372036854775808 ≤ v) (h2 : v ≤ 9223372036854775807) : inI64 v = true := by
  unfold inI64; rw [decide_eq_true h1, decide_eq_true h2]; rfl
set_option maxHeartbeats 8000000 in
theorem refInt (s : ByteArray) (low high : Int) (hs : s.size ≤ 100000) (w : World) : Calls Tryz.prog 26 #[.string s, .int .i64 low, .int .i64 high] w (RB w (.tuple #[.int .i64 (wint s.data.toList low high).1, .int .i64 (wint s.data.toList low high).2])) := by
  have hD := fun w => refDec s hs w
  obtain ⟨res, hres⟩ : ∃ r, wint s.data.toList low high = r := ⟨_, rfl⟩
  rw [hres]
  unfold wint at hres
  cases hd : isDec s.data.toList with
  | false =>
    rw [hd] at hD hres
    rw [if_neg (by simp)] at hres
    subst hres
    have HD := Lib.hid hD
    clear hD hd
    go_enter Tryz.func26, Tryz.ntmps26
    go_wp2_with fail
    refine (HD.out _).mono ?_; rintro e w1 ⟨rfl, hb1⟩
    go_wp2_with fail
    go_ret2
    exact rb_tuple rfl rfl hb1
  | true =>
    rw [hd] at hD hres
    rw [if_pos rfl] at hres
    have h0 : 0 < s.size := by
      rcases Nat.eq_zero_or_pos s.size with h | h
      · obtain rfl := str_empty h; cases hd
      · exact h
    have hdig := isDec_dig hd
    have hall := numTo_all hd
    rw [headD_at h0] at hall
    have hle := fun k => numTo_le s.data.toList k
    have hsl : s.data.toList.length = s.size := by simp
    rw [hsl] at hall hle
    have i0 : (0 : Int) < (s.size : Int) := by omega
    obtain ⟨V, hV⟩ : ∃ V, numTo s.data.toList s.size = V := ⟨_, rfl⟩
    rw [hV] at hall hle
    have HD := Lib.hid hD
    have HR := Lib.hid hres
    have HG := Lib.hid hdig
    have HL := Lib.hid hle
    have HV := Lib.hid hV
    clear hD hd hres hdig hle hsl hV
    by_cases hm : (s[0]'h0) = 45
    · have e45 : (((s[0]'h0).toNat : Int) == 45) = true := by rw [hm]; rfl
      rw [if_pos hm] at hall
      have HA := Lib.hid hall
      clear hall hm
      go_enter Tryz.func26, Tryz.ntmps26
      go_wp2_with fail
      refine (HD.out _).mono ?_; rintro e w1 ⟨rfl, hb1⟩
      go_wp2_with fail
      go_loopg [9, 10] s.size (fun g n i wr => ∃ k : Nat, k ≤ s.size ∧ i = .int .i64 k ∧ n = .int .i64 (-(numTo s.data.toList k : Int)) ∧ numTo s.data.toList k ≤ 9223372036854775808 ∧ Bl w wr ∧ g = s.size - k)
      case atStart => exact ⟨0, by omega, rfl, rfl, by show (0 : Nat) ≤ _; omega, hb1, rfl⟩
      case round =>
        clear hb1
        obtain ⟨k, hk, rfl, rfl, hbig, hbw, hg⟩ := hrel
        have G := Lib.hid hg
        clear hg
        by_cases hkl : k < s.size
        · have hx := str_get hkl
          have h1 : (0 : Int) ≤ (k : Int) := by omega
          have h2 : (k : Int) < (s.size : Int) := by omega
          generalize hc : s[k]'hkl = c at hx
          obtain ⟨m, hm⟩ : ∃ m, numTo s.data.toList k = m := ⟨_, rfl⟩
          rcases HG.out k c hx with ⟨hc45, hk0⟩ | ⟨hc45, hdg⟩
          · subst hc45
            have hs1 := numTo_skip hx
            rw [hm] at hs1 hbig
            have HS := Lib.hid hs1
            have HM := Lib.hid hm
            rw [hm]
            clear hx hs1 hm
            go_wp2_with fail
            go_roundg (s.size - (k + 1))
            case rel => exact ⟨k + 1, by omega, by go_num, by rw [HS.out], by rw [HS.out]; exact hbig, hbw, rfl⟩
            case measure => rw [G.out]; omega
          · have c45 : ((c.toNat : Int) == 45) = false := u8_ne (d := 45) hc45
            have hs1 := numTo_step hx hc45
            have hl1 := HL.out (k + 1)
            rw [hm] at hs1 hbig
            rw [hs1] at hl1
            obtain ⟨hd1, hd2⟩ := digB_iff.1 hdg
            have p1 : (48 : Int) ≤ (c.toNat : Int) := by omega
            have p2 : (c.toNat : Int) ≤ 57 := by omega
            have HS := Lib.hid hs1
            have HM := Lib.hid hm
            have hq := quo_ok (c.toNat : Int) p1 p2
            rw [hm]
            clear hx hs1 hm hdg
            by_cases hov : m * 10 + (c.toNat - 48) ≤ 9223372036854775808
            · have t1 : decide (-(m : Int) < (-9223372036854775808 + ((c.toNat : Int) - 48)).tdiv 10) = false := by
                rw [decide_eq_false_iff_not, hq]; split <;> omega
              have w1 : wrap64 (10 * -(m : Int)) = 10 * -(m : Int) := by unfold wrap64; omega
              have w2 : wrap64 (10 * -(m : Int) - ((c.toNat : Int) - 48)) = 10 * -(m : Int) - ((c.toNat : Int) - 48) := by unfold wrap64; omega
              clear hq hl1
              go_wp2_with fail
              go_roundg (s.size - (k + 1))
              case rel => exact ⟨k + 1, by omega, by go_num, ival (by rw [HS.out]; omega), by rw [HS.out]; exact hov, hbw, rfl⟩
              case measure => rw [G.out]; omega
            · have t1 : decide (-(m : Int) < (-9223372036854775808 + ((c.toNat : Int) - 48)).tdiv 10) = true := by
                rw [decide_eq_true_eq, hq]; split <;> omega
              have hr := HR.out
              rw [HA.out, in_no (by omega), Bool.false_and, Bool.false_and, if_neg (by simp)] at hr
              subst hr
              clear hq hl1
              go_wp2_with fail
              go_ret2
              exact rb_tuple rfl rfl hbw
        · obtain rfl : k = s.size := by omega
          rw [HV.out] at hbig ⊢
          have hr := HR.out
          rw [HA.out] at hr
          rw [in_yes (by omega) (by omega)] at hr
          by_cases l1 : low ≤ (-(V : Int))
          · have e1 : decide (((-(V : Int))) < low) = false := by rw [decide_eq_false_iff_not]; omega
            by_cases l2 : (-(V : Int)) ≤ high
            · have e2 : decide (high < (-(V : Int))) = false := by rw [decide_eq_false_iff_not]; omega
              rw [decide_eq_true l1, decide_eq_true l2, Bool.and_self, Bool.and_self, if_pos (show true = true from rfl)] at hr
              subst hr
              clear l1 l2
              go_wp2_with fail
              go_ret2
              exact rb_tuple rfl rfl hbw
            · have e2 : decide (high < (-(V : Int))) = true := by rw [decide_eq_true_eq]; omega
              rw [decide_eq_false l2, Bool.and_false, if_neg (by simp)] at hr
              subst hr
              clear l1 l2
              go_wp2_with fail
              go_ret2
              exact rb_tuple rfl rfl hbw
          · have e1 : decide (((-(V : Int))) < low) = true := by rw [decide_eq_true_eq]; omega
            rw [decide_eq_false l1, Bool.and_false, Bool.false_and, if_neg (by simp)] at hr
            subst hr
            clear l1
            go_wp2_with fail
            go_ret2
            exact rb_tuple rfl rfl hbw
    · have e45 : (((s[0]'h0).toNat : Int) == 45) = false := u8_ne (d := 45) hm
      rw [if_neg hm] at hall
      have HM0 := Lib.hid hm
      have HA := Lib.hid hall
      clear hall hm
      go_enter Tryz.func26, Tryz.ntmps26
      go_wp2_with fail
      refine (HD.out _).mono ?_; rintro e w1 ⟨rfl, hb1⟩
      go_wp2_with fail
      go_loopg [9, 10] s.size (fun g n i wr => ∃ k : Nat, k ≤ s.size ∧ i = .int .i64 k ∧ n = .int .i64 (-(numTo s.data.toList k : Int)) ∧ numTo s.data.toList k ≤ 9223372036854775808 ∧ Bl w wr ∧ g = s.size - k)
      case atStart => exact ⟨0, by omega, rfl, rfl, by show (0 : Nat) ≤ _; omega, hb1, rfl⟩
      case round =>
        clear hb1
        obtain ⟨k, hk, rfl, rfl, hbig, hbw, hg⟩ := hrel
        have G := Lib.hid hg
        clear hg
        by_cases hkl : k < s.size
        · have hx := str_get hkl
          have h1 : (0 : Int) ≤ (k : Int) := by omega
          have h2 : (k : Int) < (s.size : Int) := by omega
          generalize hc : s[k]'hkl = c at hx
          obtain ⟨m, hm⟩ : ∃ m, numTo s.data.toList k = m := ⟨_, rfl⟩
          rcases HG.out k c hx with ⟨hc45, hk0⟩ | ⟨hc45, hdg⟩
          · exfalso
            subst hk0
            have hz := str_get h0
            rw [hx] at hz
            injection hz with hz
            exact HM0.out (by rw [← hz, hc45])
          · have c45 : ((c.toNat : Int) == 45) = false := u8_ne (d := 45) hc45
            have hs1 := numTo_step hx hc45
            have hl1 := HL.out (k + 1)
            rw [hm] at hs1 hbig
            rw [hs1] at hl1
            obtain ⟨hd1, hd2⟩ := digB_iff.1 hdg
            have p1 : (48 : Int) ≤ (c.toNat : Int) := by omega
            have p2 : (c.toNat : Int) ≤ 57 := by omega
            have HS := Lib.hid hs1
            have HM := Lib.hid hm
            have hq := quo_ok (c.toNat : Int) p1 p2
            rw [hm]
            clear hx hs1 hm hdg
            by_cases hov : m * 10 + (c.toNat - 48) ≤ 9223372036854775808
            · have t1 : decide (-(m : Int) < (-9223372036854775808 + ((c.toNat : Int) - 48)).tdiv 10) = false := by
                rw [decide_eq_false_iff_not, hq]; split <;> omega
              have w1 : wrap64 (10 * -(m : Int)) = 10 * -(m : Int) := by unfold wrap64; omega
              have w2 : wrap64 (10 * -(m : Int) - ((c.toNat : Int) - 48)) = 10 * -(m : Int) - ((c.toNat : Int) - 48) := by unfold wrap64; omega
              clear hq hl1
              go_wp2_with fail
              go_roundg (s.size - (k + 1))
              case rel => exact ⟨k + 1, by omega, by go_num, ival (by rw [HS.out]; omega), by rw [HS.out]; exact hov, hbw, rfl⟩
              case measure => rw [G.out]; omega
            · have t1 : decide (-(m : Int) < (-9223372036854775808 + ((c.toNat : Int) - 48)).tdiv 10) = true := by
                rw [decide_eq_true_eq, hq]; split <;> omega
              have hr := HR.out
              rw [HA.out, in_no (by omega), Bool.false_and, Bool.false_and, if_neg (by simp)] at hr
              subst hr
              clear hq hl1
              go_wp2_with fail
              go_ret2
              exact rb_tuple rfl rfl hbw
        · obtain rfl : k = s.size := by omega
          rw [HV.out] at hbig ⊢
          have hr := HR.out
          rw [HA.out] at hr
          by_cases hmax : V = 9223372036854775808
          · rw [in_no (by omega), Bool.false_and, Bool.false_and, if_neg (by simp)] at hr
            subst hr
            subst hmax
            go_wp2_with fail
            go_ret2
            exact rb_tuple rfl rfl hbw
          · rw [in_yes (by omega) (by omega)] at hr
            have e0 : ((-(V : Int)) == -9223372036854775808) = false := by rw [beq_eq_false_iff_ne]; omega
            have v1 : (V : Int) ≤ 9223372036854775807 := by omega
            have v2 : (0 : Int) ≤ (V : Int) := by omega
            by_cases l1 : low ≤ (V : Int)
            · have e1 : decide (((V : Int)) < low) = false := by rw [decide_eq_false_iff_not]; omega
              by_cases l2 : (V : Int) ≤ high
              · have e2 : decide (high < (V : Int)) = false := by rw [decide_eq_false_iff_not]; omega
                rw [decide_eq_true l1, decide_eq_true l2, Bool.and_self, Bool.and_self, if_pos (show true = true from rfl)] at hr
                subst hr
                clear l1 l2
                go_wp2_with fail
                go_ret2
                exact rb_tuple rfl rfl hbw
              · have e2 : decide (high < (V : Int)) = true := by rw [decide_eq_true_eq]; omega
                rw [decide_eq_false l2, Bool.and_false, if_neg (by simp)] at hr
                subst hr
                clear l1 l2
                go_wp2_with fail
                go_ret2
                exact rb_tuple rfl rfl hbw
            · have e1 : decide (((V : Int)) < low) = true := by rw [decide_eq_true_eq]; omega
              rw [decide_eq_false l1, Bool.and_false, Bool.false_and, if_neg (by simp)] at hr
              subst hr
              clear l1
              go_wp2_with fail
              go_ret2
              exact rb_tuple rfl rfl hbw
/-! ### Digits -/
theorem itoa_big (n : Int) (h : 9 < n ∨ n < -9) : Lib.itoa n = Lib.itoa (n.tdiv 10) ++ [UInt8.ofNat (48 + n.natAbs % 10)] := by
  unfold Lib.itoa
  rcases h with h | h
  · rw [if_neg (by omega), if_neg (by rw [Int.tdiv_eq_ediv_of_nonneg (by omega)]; omega), dd_step _ (by omega)]
    rw [show (n.tdiv 10).toNat = n.toNat / 10 by rw [Int.tdiv_eq_ediv_of_nonneg (by omega)]; omega, show n.toNat = n.natAbs by omega]
  · have e : n.tdiv 10 = -((-n) / 10) := by
      have := Int.neg_tdiv (a := -n) (b := 10)
      rw [Int.neg_neg] at this
      rw [this, Int.tdiv_eq_ediv_of_nonneg (by omega)]
    rw [e, if_pos (by omega), if_pos (by omega), dd_step _ (by omega)]
    rw [show (-((-n) / 10)).natAbs = n.natAbs / 10 by omega]
    rfl
theorem itoa_one (n : Nat) (h : n ≤ 9) : Lib.itoa (n : Int) = [UInt8.ofNat (48 + n)] := by
  unfold Lib.itoa
  rw [if_neg (by omega), Int.toNat_natCast, Lib.decDigits_one (by omega)]
theorem itoa_neg (n : Nat) (h : 1 ≤ n) (h9 : n ≤ 9) : Lib.itoa (-(n : Int)) = 45 :: Lib.itoa (n : Int) := by
  unfold Lib.itoa
  rw [if_pos (by omega), if_neg (by omega), Int.toNat_natCast, show (-(n : Int)).natAbs = n by omega]
theorem cnvD (W : World) (g : Nat) (n : Nat) (h : n ≤ 57) (hc : W.cell? ⟨g, 0, none⟩ = some (.int .u8 (n : Nat))) : (convert 66 9 (.slice (some ⟨g, 0, none⟩) 1 1)).run Tryz.prog W = .ok (.string ⟨#[UInt8.ofNat n]⟩) W := by
  have := conv1 (P := Tryz.prog) 66 9 5 Tryz.underlying66 Tryz.underlying5 Tryz.underlying9 W g 1 (n : Nat) hc
  simpa using this
set_option maxHeartbeats 4000000 in
theorem refDigits1 (n : Nat) (h : n ≤ 9) (w : World) : Calls Tryz.prog 21 #[.int .i64 (n : Nat)] w (RB w (.string ⟨(Lib.itoa (n : Int)).toArray⟩)) := by
  rw [itoa_one n h]
  have h1 : ¬ (9 : Int) < (n : Int) := by omega
  have h2 : ¬ (n : Int) < -9 := by omega
  have h3 : ¬ (n : Int) < 0 := by omega
  have h4 : (0 : Int) ≤ (n : Int) := by omega
  have h5 : (n : Int) ≤ 9 := by omega
  have hcv := cnvD (w.alloc (.cells #[.int .u8 ((48 + n : Nat) : Int)] 5)) w.heap.size (48 + n) (by omega) (by simp [go_sem])
  push_cast at hcv
  go_enter Tryz.func21, Tryz.ntmps21
  go_wp2_with fail
  go_ret
  exact RB.mk rfl (by repeat (first | assumption | exact Bl.refl _ | apply Bl.drewN | apply Bl.drew | apply Bl.alloc | (refine Bl.dr ?_ (by assumption)) | (refine Bl.trans ?_ (by assumption))))
theorem cutIt {P Q : Prop} (h : P) (k : P → Q) : Q := k h
theorem apS (a b : ByteArray) : a ++ b = ⟨(a.data.toList ++ b.data.toList).toArray⟩ := by
  apply ByteArray.ext
  rw [ByteArray.data_append]
  apply Array.ext'
  simp
theorem strcat (l : List UInt8) (c : UInt8) : (⟨l.toArray⟩ : ByteArray) ++ ⟨#[c]⟩ = ⟨(l ++ [c]).toArray⟩ := by rw [apS]
theorem itoa_len (n : Int) (h0 : -9223372036854775808 ≤ n) (h1 : n ≤ 9223372036854775807) : (Lib.itoa n).length ≤ 100 := by
  have hd : ∀ (f u : Nat), u < 10 ^ f → 1 ≤ f → (Lib.decDigits u).length ≤ f := by
    intro f
    induction f with
    | zero => intro u _ h; omega
    | succ f ih =>
      intro u hu _
      by_cases h : u < 10
      · rw [Lib.decDigits_one h]; simp
      · rw [dd_step u h, List.length_append, List.length_singleton]
        have hf : 1 ≤ f := by
          rcases Nat.eq_zero_or_pos f with e | e
          · subst e; simp at hu; omega
          · exact e
        have := ih (u / 10) (by rw [Nat.pow_succ] at hu; omega) hf
        omega
  unfold Lib.itoa
  split
  · have := hd 20 n.natAbs (by omega) (by omega)
    simp; omega
  · have := hd 20 n.toNat (by omega) (by omega)
    omega
set_option maxHeartbeats 4000000 in
theorem refDigitsN (m : Nat) (h1 : 1 ≤ m) (h9 : m ≤ 9) (w : World) : Calls Tryz.prog 21 #[.int .i64 (-(m : Int))] w (RB w (.string ⟨(Lib.itoa (-(m : Int))).toArray⟩)) := by
  rw [itoa_neg m h1 h9]
  have hD := fun w => refDigits1 m h9 w
  have hl : (⟨(Lib.itoa (m : Int)).toArray⟩ : ByteArray).size = 1 := by rw [itoa_one m h9]; rfl
  generalize Lib.itoa (m : Int) = l at hD hl ⊢
  have hz : (⟨(45 :: l).toArray⟩ : ByteArray) = ⟨#[45]⟩ ++ ⟨l.toArray⟩ := by rw [apS]; rfl
  rw [hz]
  generalize (⟨l.toArray⟩ : ByteArray) = t at hD hl ⊢
  have HD := Lib.hid hD
  have i1 : ¬ (9 : Int) < -(m : Int) := by omega
  have i2 : ¬ -(m : Int) < -9 := by omega
  have i3 : -(m : Int) < 0 := by omega
  have i4 : wrap64 (-(-(m : Int))) = (m : Int) := by unfold wrap64; omega
  have i5 : (m : Int) ≤ 9 := by omega
  have i6 : ¬ 9223372036854775807 < 1 + t.size := by omega
  clear hD hz
  go_enter Tryz.func21, Tryz.ntmps21
  go_wp2_with fail
  refine (HD.out _).mono ?_; rintro e w1 ⟨rfl, hb1⟩
  go_wp2_with fail
  go_ret
  exact RB.mk rfl hb1
set_option maxHeartbeats 4000000 in
theorem refDigits : ∀ (k : Nat) (n : Int), n.natAbs = k → -9223372036854775808 ≤ n → n ≤ 9223372036854775807 → ∀ w : World, Calls Tryz.prog 21 #[.int .i64 n] w (RB w (.string ⟨(Lib.itoa n).toArray⟩)) := by
  intro k
  induction k using Nat.strongRecOn with
  | _ k ih =>
    intro n hk h0 h1 w
    by_cases hb : 9 < n ∨ n < -9
    · obtain ⟨q, hq⟩ : ∃ q, n.tdiv 10 = q := ⟨_, rfl⟩
      obtain ⟨d, hd⟩ : ∃ d, n.natAbs % 10 = d := ⟨_, rfl⟩
      have hit := itoa_big n hb
      rw [hq, hd] at hit
      rw [hit]
      have hqa : q.natAbs = n.natAbs / 10 := by rw [← hq]; exact Int.natAbs_tdiv n 10
      have hqr : -9223372036854775808 ≤ q ∧ q ≤ 9223372036854775807 := by omega
      have hI := fun w => ih q.natAbs (by omega) q rfl hqr.1 hqr.2 w
      have hlen := itoa_len q hqr.1 hqr.2
      generalize Lib.itoa q = l at hI hlen hit ⊢
      have hdl : d < 10 := by omega
      rw [← strcat]
      have hls : (⟨l.toArray⟩ : ByteArray).size ≤ 100 := hlen
      generalize (⟨l.toArray⟩ : ByteArray) = t at hI hls ⊢
      have HI := Lib.hid hI
      have HT := Lib.hid ih
      clear hI ih hlen hit hqa
      rcases hb with hb | hb
      · have g1 : (n % 10) = (d : Int) := by omega
        have g2 : (n / 10) = q := by rw [← hq, Int.tdiv_eq_ediv_of_nonneg (by omega)]
        have g3 : ¬ (d : Int) < 0 := by omega
        have g4 : 0 ≤ n := by omega
        have g5 : (0 : Int) ≤ (d : Int) := by omega
        have g6 : (d : Int) ≤ 9 := by omega
        have v2 : IntKind.i64.wrap (48 + (d : Int)) = 48 + (d : Int) := IntWalk.i64_in _ (by omega)
        have v3 : IntKind.u8.wrap (48 + (d : Int)) = 48 + (d : Int) := by unfold IntKind.wrap; simp [IntKind.bits, IntKind.signed]; omega
        have hcv := fun W g hc => cnvD W g (48 + d) (by omega) hc
        push_cast at hcv
        clear hd hk
        generalize UInt8.ofNat (48 + d) = cc at hcv ⊢
        go_enter Tryz.func21, Tryz.ntmps21
        go_wp2_with fail
        have HCV := Lib.hid hcv
        have hA := HCV.out ((w.alloc (.cells #[.int .u8 (48 + (d : Int))] 5)).drew) w.heap.size (by simp [go_sem])
        clear hcv
        have hb0 := Bl.refl w
        have i6 : ¬ 9223372036854775807 < t.size + 1 := by omega
        have v1 : IntKind.i64.wrap q = q := IntWalk.i64_in _ (by omega)
        go_region_with ((go_at_call 21; (with_reducible refine (HI.out _).mono ?_); rintro e w8 ⟨rfl, hb8⟩; (have hb0 : Bl w w8 := (by repeat (first | assumption | exact Bl.refl _ | apply Bl.drewN | apply Bl.drew | apply Bl.alloc | (refine Bl.dr ?_ (by assumption)) | (refine Bl.trans ?_ (by assumption))))); (have hB := HCV.out (w8.alloc (.cells #[.int .u8 (48 + (d : Int))] 5)) w8.heap.size (by simp [go_sem])); (try (refine cutIt (P := w8.cell? ⟨w.heap.size, 0, none⟩ = some (.int .u8 (48 + (d : Int)))) ?_ ?_; (focus (refine hb8.cell ?_; simp [go_sem]; done)); intro hc8; have hC := HCV.out w8 w.heap.size hc8))))
        all_goals (go_wp2_with fail)
        all_goals go_ret
        all_goals exact RB.mk rfl (by repeat (first | assumption | exact Bl.refl _ | apply Bl.drewN | apply Bl.drew | apply Bl.alloc | (refine Bl.dr ?_ (by assumption)) | (refine Bl.trans ?_ (by assumption))))
      · have hm : n.tmod 10 = -(d : Int) := by
          have h1 := Int.neg_tmod (-n) 10
          rw [Int.neg_neg] at h1
          rw [h1, Int.tmod_eq_emod_of_nonneg (by omega)]; omega
        have g7 : ¬ 9 < n := by omega
        by_cases hd0 : d = 0
        · subst hd0
          rw [show -((0 : Nat) : Int) = 0 from rfl] at hm
          have hcv : ∀ (W : World) (g : Nat), W.cell? ⟨g, 0, none⟩ = some (.int .u8 48) → (convert 66 9 (.slice (some ⟨g, 0, none⟩) 1 1)).run Tryz.prog W = .ok (.string ⟨#[UInt8.ofNat (48 + 0)]⟩) W := fun W g hc => cnvD W g (48 + 0) (by omega) hc
          have v2 : IntKind.i64.wrap 48 = 48 := rfl
          have v3 : IntKind.u8.wrap 48 = 48 := rfl
          clear hd hk
          generalize UInt8.ofNat (48 + 0) = cc at hcv ⊢
          go_enter Tryz.func21, Tryz.ntmps21
          go_wp2_with fail
          have HCV := Lib.hid hcv
          have hA := HCV.out ((w.alloc (.cells #[.int .u8 (48)] 5)).drew) w.heap.size (by simp [go_sem])
          clear hcv
          have hb0 := Bl.refl w
          have i6 : ¬ 9223372036854775807 < t.size + 1 := by omega
          have v1 : IntKind.i64.wrap q = q := IntWalk.i64_in _ (by omega)
          go_region_with ((go_at_call 21; (with_reducible refine (HI.out _).mono ?_); rintro e w8 ⟨rfl, hb8⟩; (have hb0 : Bl w w8 := (by repeat (first | assumption | exact Bl.refl _ | apply Bl.drewN | apply Bl.drew | apply Bl.alloc | (refine Bl.dr ?_ (by assumption)) | (refine Bl.trans ?_ (by assumption))))); (have hB := HCV.out (w8.alloc (.cells #[.int .u8 (48)] 5)) w8.heap.size (by simp [go_sem])); (try (refine cutIt (P := w8.cell? ⟨w.heap.size, 0, none⟩ = some (.int .u8 (48))) ?_ ?_; (focus (refine hb8.cell ?_; simp [go_sem]; done)); intro hc8; have hC := HCV.out w8 w.heap.size hc8))))
          all_goals (go_wp2_with fail)
          all_goals go_ret
          all_goals exact RB.mk rfl (by repeat (first | assumption | exact Bl.refl _ | apply Bl.drewN | apply Bl.drew | apply Bl.alloc | (refine Bl.dr ?_ (by assumption)) | (refine Bl.trans ?_ (by assumption))))
        · have g3 : -(d : Int) < 0 := by omega
          have g5 : (0 : Int) ≤ (d : Int) := by omega
          have g6 : (d : Int) ≤ 9 := by omega
          have g8 : wrap64 (-(-(d : Int))) = (d : Int) := by unfold wrap64; omega
          have v2 : IntKind.i64.wrap (48 + (d : Int)) = 48 + (d : Int) := IntWalk.i64_in _ (by omega)
          have v3 : IntKind.u8.wrap (48 + (d : Int)) = 48 + (d : Int) := by unfold IntKind.wrap; simp [IntKind.bits, IntKind.signed]; omega
          have hcv := fun W g hc => cnvD W g (48 + d) (by omega) hc
          push_cast at hcv
          clear hd hk hd0
          generalize UInt8.ofNat (48 + d) = cc at hcv ⊢
          go_enter Tryz.func21, Tryz.ntmps21
          go_wp2_with fail
          have HCV := Lib.hid hcv
          have hA := HCV.out ((w.alloc (.cells #[.int .u8 (48 + (d : Int))] 5)).drew) w.heap.size (by simp [go_sem])
          clear hcv
          have hb0 := Bl.refl w
          have i6 : ¬ 9223372036854775807 < t.size + 1 := by omega
          have v1 : IntKind.i64.wrap q = q := IntWalk.i64_in _ (by omega)
          go_region_with ((go_at_call 21; (with_reducible refine (HI.out _).mono ?_); rintro e w8 ⟨rfl, hb8⟩; (have hb0 : Bl w w8 := (by repeat (first | assumption | exact Bl.refl _ | apply Bl.drewN | apply Bl.drew | apply Bl.alloc | (refine Bl.dr ?_ (by assumption)) | (refine Bl.trans ?_ (by assumption))))); (have hB := HCV.out (w8.alloc (.cells #[.int .u8 (48 + (d : Int))] 5)) w8.heap.size (by simp [go_sem])); (try (refine cutIt (P := w8.cell? ⟨w.heap.size, 0, none⟩ = some (.int .u8 (48 + (d : Int)))) ?_ ?_; (focus (refine hb8.cell ?_; simp [go_sem]; done)); intro hc8; have hC := HCV.out w8 w.heap.size hc8))))
          all_goals (go_wp2_with fail)
          all_goals go_ret
          all_goals exact RB.mk rfl (by repeat (first | assumption | exact Bl.refl _ | apply Bl.drewN | apply Bl.drew | apply Bl.alloc | (refine Bl.dr ?_ (by assumption)) | (refine Bl.trans ?_ (by assumption))))
    · by_cases hn : n < 0
      · obtain ⟨m, rfl⟩ : ∃ m : Nat, n = -(m : Int) := ⟨n.natAbs, by omega⟩
        exact refDigitsN m (by omega) (by omega) w
      · obtain ⟨m, rfl⟩ : ∃ m : Nat, n = (m : Int) := ⟨n.natAbs, by omega⟩
        exact refDigits1 m (by omega) w
end Go.Proofs.YtkbfjficmdgjpaaGreatDoor
