
/-
  Contracts of words (over 01.ZD): follows.
-/
import Derived.Test.YtfjdcfmoodlnaaaGreatDoorWpH
import Derived.Test.YtfjdcfmoodlnaaaGreatDoorWpB
import Derived.Lib.ParseIntBTie
namespace Go.Proofs.YtfjdcfmoodlnaaaGreatDoor
open Go.RowKit
set_option linter.unusedSimpArgs false
set_option linter.unusedVariables false
set_option maxRecDepth 100000

/-! ### Decimal forms compared by words -/
theorem cmpB_lt : ∀ a b : List UInt8, Lib.compareBytes a b < 0 ↔ Op.bytesLess a b = true
  | [], [] => by simp [Lib.compareBytes, Op.bytesLess]
  | [], _ :: _ => by simp [Lib.compareBytes, Op.bytesLess]
  | _ :: _, [] => by simp [Lib.compareBytes, Op.bytesLess]
  | a :: l, b :: r => by
    have ih := cmpB_lt l r
    simp only [Lib.compareBytes, Op.bytesLess, Bool.or_eq_true, Bool.and_eq_true, decide_eq_true_eq, beq_iff_eq]
    by_cases h : a < b
    · simp [h]
    · by_cases h2 : b < a
      · have : ¬ a = b := by rintro rfl; exact h h2
        simp [h, h2, this]
      · have e : a = b := UInt8.le_antisymm (UInt8.not_lt.1 h2) (UInt8.not_lt.1 h)
        subst e
        simp [h, ih]
theorem cmpB_gt : ∀ a b : List UInt8, 0 < Lib.compareBytes a b ↔ Op.bytesLess b a = true
  | [], [] => by simp [Lib.compareBytes, Op.bytesLess]
  | [], _ :: _ => by simp [Lib.compareBytes, Op.bytesLess]
  | _ :: _, [] => by simp [Lib.compareBytes, Op.bytesLess]
  | a :: l, b :: r => by
    have ih := cmpB_gt l r
    simp only [Lib.compareBytes, Op.bytesLess, Bool.or_eq_true, Bool.and_eq_true, decide_eq_true_eq, beq_iff_eq]
    by_cases h : a < b
    · have h2 : ¬ b < a := fun q => UInt8.lt_irrefl _ (UInt8.lt_trans h q)
      have h3 : ¬ b = a := by rintro rfl; exact h2 h
      simp [h, h2, h3]
    · by_cases h2 : b < a
      · simp [h, h2]
      · have e : a = b := UInt8.le_antisymm (UInt8.not_lt.1 h2) (UInt8.not_lt.1 h)
        subst e
        simp [h, ih]
theorem cmpD_lt {a b : ByteArray} (ha : isNat a.data.toList = true) (hb : isNat b.data.toList = true) : decide (cmpD a b < 0) = decide (natV 0 a.data.toList < natV 0 b.data.toList) := by
  rw [← lessD_is ha hb]
  unfold lessD cmpD
  rw [← Lib.size_eq, ← Lib.size_eq]
  by_cases h : a.size = b.size
  · rw [if_pos h, if_pos h, Bool.eq_iff_iff, decide_eq_true_eq]; exact cmpB_lt _ _
  · rw [if_neg h, if_neg h, Bool.eq_iff_iff, decide_eq_true_eq, decide_eq_true_eq]; omega
theorem cmpD_gt {a b : ByteArray} (ha : isNat a.data.toList = true) (hb : isNat b.data.toList = true) : decide (0 < cmpD a b) = decide (natV 0 b.data.toList < natV 0 a.data.toList) := by
  rw [← lessD_is hb ha]
  unfold lessD cmpD
  rw [← Lib.size_eq, ← Lib.size_eq]
  by_cases h : a.size = b.size
  · rw [if_pos h, if_pos h.symm, Bool.eq_iff_iff, decide_eq_true_eq]; exact cmpB_gt _ _
  · rw [if_neg h, if_neg (fun q => h q.symm), Bool.eq_iff_iff, decide_eq_true_eq, decide_eq_true_eq]; omega
theorem cmpB_small : ∀ a b : List UInt8, -1 ≤ Lib.compareBytes a b ∧ Lib.compareBytes a b ≤ 1
  | [], [] => by simp [Lib.compareBytes]
  | [], _ :: _ => by simp [Lib.compareBytes]
  | _ :: _, [] => by simp [Lib.compareBytes]
  | a :: l, b :: r => by
    simp only [Lib.compareBytes]
    split
    · omega
    · split
      · omega
      · exact cmpB_small l r

/-! ### The place of the last byte that is no 9 -/
set_option maxHeartbeats 1000000 in
theorem woNot9 (c : UInt8) (w : World) : Calls Tryz.prog 54 #[.int .i32 (c.toNat : Nat)] w (RD w (.bool (decide (c ≠ 57)))) := by
  by_cases h : c = 57
  · have e : ((c.toNat : Int) != 57) = false := by rw [h]; rfl
    rw [decide_eq_false (fun q => q h)]
    clear h
    go_enter Tryz.func54, Tryz.ntmps54
    go_wp2_with fail
    go_ret
    exact RD.mk rfl (Dr.refl _)
  · have e : ((c.toNat : Int) != 57) = true := u8_bne (d := 57) h
    rw [decide_eq_true h]
    clear h
    go_enter Tryz.func54, Tryz.ntmps54
    go_wp2_with fail
    go_ret
    exact RD.mk rfl (Dr.refl _)
set_option maxHeartbeats 1000000 in
theorem woDecLast (s : ByteArray) (hs : s.size ≤ 2000000) (m : Nat) (hm : s.size = m + 1) (c : UInt8) (hc : s.data.toList[m]? = some c) (h : c.toNat < 128) (w : World) : Calls Tryz.prog 90 #[.string s] w (RD w (.tuple #[.int .i32 (c.toNat : Nat), .int .i64 1])) := by
  have hlt : m < s.size := by omega
  have hx := str_get hlt
  rw [hc] at hx
  injection hx with hx
  subst hx
  have HM := Lib.hid hm
  have i1 : (s.size : Int) = (m : Int) + 1 := by omega
  have i0 : ((s.size : Int) == 0) = false := by rw [beq_eq_false_iff_ne]; omega
  have i2 : (s.size : Int) - 1 = (m : Int) := by omega
  have i3 : (0 : Int) ≤ (m : Int) := by omega
  have i4 : (m : Int) < (s.size : Int) := by omega
  have i5 : decide (((s[m]'hlt).toNat : Int) < 128) = true := by rw [decide_eq_true_eq]; omega
  have i6 : ((s[m]'hlt).toNat : Int) < 128 := by omega
  clear hm hc i1
  go_enter Tryz.func90, Tryz.ntmps90
  go_wp2_with fail
  go_ret2
  exact ⟨rfl, Dr.refl _⟩
/-- The place of the last byte that is no 9. -/
def LastR (s : ByteArray) (w : World) (e : Ending) (w' : World) : Prop := ∃ p : Nat, e = .returned (.int .i64 ((p : Int) - 1)) ∧ p ≤ s.size ∧ Nin s p ∧ (∀ m (hm : m < s.size), p = m + 1 → s[m]'hm ≠ 57) ∧ Dr w w'
set_option maxHeartbeats 4000000 in
theorem woLastF (s : ByteArray) (hs : s.size ≤ 2000000) (hd : ∀ c ∈ s.data.toList, digB c = true) (w : World) : Calls Tryz.prog 78 #[.string s, .func (.func 54) #[] #[], .bool true] w (LastR s w) := by
  have HD := Lib.hid hd
  clear hd
  go_enter Tryz.func78, Tryz.ntmps78
  go_wp2_with fail
  go_loopg [7, 8, 9] s.size (fun g v r z wr => ∃ p : Nat, v = .int .i64 (p : Nat) ∧ p ≤ s.size ∧ Nin s p ∧ Dr w wr ∧ g = p)
  case atStart => exact ⟨s.size, rfl, Nat.le_refl _, nin_all s, Dr.refl _, rfl⟩
  case round =>
    obtain ⟨p, rfl, hp, hN, hbw, hg⟩ := hrel
    have G := Lib.hid hg
    have HN := Lib.hid hN
    clear hg hN
    match p, hp, G, HN with
    | 0, hp, G, HN =>
      rw [show (((0 : Nat) : Int)) = 0 from rfl]
      clear hp
      go_wp2_with fail
      go_ret
      exact ⟨0, rfl, Nat.zero_le _, HN.out, fun m hm e => by omega, hbw⟩
    | m + 1, hp, G, HN =>
      have hm : m < s.size := by omega
      have hx := str_get hm
      have hdc := digB_iff.1 (HD.out _ (List.mem_of_getElem? hx))
      have j0 : (0 : Int) < ((m + 1 : Nat) : Int) := by omega
      have j1 : ((m + 1 : Nat) : Int) ≤ (s.size : Int) := by omega
      have j2 : ((m + 1 : Nat) : Int) - 1 = (m : Int) := by omega
      have j3 : decide (0 < m + 1) = true := by simp
      have hex : (s.extract 0 (m + 1)).size = m + 1 := by rw [ByteArray.size_extract]; omega
      have hc := fun w => woDecLast (s.extract 0 (m + 1)) (by omega) m hex (s[m]'hm) (by rw [Lib.extract_data]; simpa using hx) (by omega) w
      have hN9 := fun w => woNot9 (s[m]'hm) w
      have HC := Lib.hid hc
      clear hc hx hex hdc
      by_cases h9 : s[m]'hm = 57
      · rw [decide_eq_false (fun q => q h9)] at hN9
        have H9 := Lib.hid hN9
        have HN2 := Lib.hid (nin_down HN.out hm h9)
        clear h9 hN9
        go_wp2_with fail
        refine (HC.out _).mono ?_; rintro e w1 ⟨rfl, hd1⟩
        go_wp2_with fail
        refine (H9.out _).mono ?_; rintro e w2 ⟨rfl, hd2⟩
        go_wp2_with fail
        go_roundg m
        case rel => exact ⟨m, rfl, by omega, HN2.out, (hbw.trans hd1).trans hd2, rfl⟩
        case measure => rw [G.out]; omega
      · rw [decide_eq_true h9] at hN9
        have H9 := Lib.hid hN9
        have HQ := Lib.hid h9
        clear h9 hN9
        go_wp2_with fail
        refine (HC.out _).mono ?_; rintro e w1 ⟨rfl, hd1⟩
        go_wp2_with fail
        refine (H9.out _).mono ?_; rintro e w2 ⟨rfl, hd2⟩
        go_wp2_with fail
        go_ret
        exact ⟨m + 1, by rw [j2]; rfl, hp, HN.out, fun k hk e => by injection e with e; subst e; exact HQ.out, (hbw.trans hd1).trans hd2⟩
theorem woLast (s : ByteArray) (hs : s.size ≤ 2000000) (hd : ∀ c ∈ s.data.toList, digB c = true) (w : World) : Calls Tryz.prog 53 #[.string s, .func (.func 54) #[] #[]] w (LastR s w) := by
  have H := Lib.hid (fun w => woLastF s hs hd w)
  clear hd
  go_enter Tryz.func53, Tryz.ntmps53
  go_wp2_with fail
  refine (H.out _).mono ?_; rintro e w1 ⟨p, rfl, h1, h2, h3, h4⟩
  go_wp2_with fail
  go_ret
  exact ⟨p, rfl, h1, h2, h3, h4⟩
end Go.Proofs.YtfjdcfmoodlnaaaGreatDoor
