
/-
  Contracts of words (over 01.ZD): the reference's next.
-/
import Derived.Test.YtfjdcfmoodlnaaaGreatDoorWpE
import Derived.Test.YtfjdcfmoodlnaaaGreatDoorWoN
namespace Go.Proofs.YtfjdcfmoodlnaaaGreatDoor
open Go.RowKit
set_option linter.unusedSimpArgs false
set_option linter.unusedVariables false
set_option maxRecDepth 100000

/-- From a place on there are only digits 9. -/
def Nin (s : ByteArray) (p : Nat) : Prop := s.data.toList.drop p = List.replicate (s.size - p) 57
theorem nin_all (s : ByteArray) : Nin s s.size := by
  unfold Nin
  rw [Nat.sub_self, List.drop_of_length_le (by rw [← Lib.size_eq]; exact Nat.le_refl _)]; rfl
theorem nin_down {s : ByteArray} {m : Nat} (h : Nin s (m + 1)) (hm : m < s.size) (h9 : s[m]'hm = 57) : Nin s m := by
  unfold Nin at *
  have hx := str_get hm
  obtain ⟨h1, h2⟩ := List.getElem?_eq_some_iff.1 hx
  rw [List.drop_eq_getElem_cons h1, h, h2, h9, ← List.replicate_succ]
  congr 1; omega
/-- The decimal form of the next number. -/
def nextW (l : List UInt8) : List UInt8 := Lib.decDigits (natV 0 l + 1)
theorem next_str0 {s o : ByteArray} (hp : 0 < s.size) (h : Nin s 0) (ho : o.data.toList = List.replicate s.size 48) : (⟨#[49]⟩ : ByteArray) ++ o = ⟨(nextW s.data.toList).toArray⟩ := by
  unfold Nin at h
  rw [List.drop_zero, Nat.sub_zero] at h
  unfold nextW
  rw [apS, ho, h, ← next_all hp]
  rfl
theorem next_strM {s o : ByteArray} {m : Nat} (hn : isNat s.data.toList = true) (hm : m < s.size) (h9 : s[m]'hm ≠ 57) (h : Nin s (m + 1)) (ho : o.data.toList = List.replicate (s.size - (m + 1)) 48) {b : UInt8} (hb : b = UInt8.ofNat ((s[m]'hm).toNat + 1)) : s.extract 0 m ++ ⟨#[b]⟩ ++ o = ⟨(nextW s.data.toList).toArray⟩ := by
  unfold Nin at h
  have hx := str_get hm
  obtain ⟨h1, h2⟩ := List.getElem?_eq_some_iff.1 hx
  have hs : s.data.toList = s.data.toList.take m ++ s[m]'hm :: List.replicate (s.size - (m + 1)) 57 := by
    rw [← h, ← h2, ← List.drop_eq_getElem_cons h1, List.take_append_drop]
  have hk := next_at (p := s.data.toList.take m) (c := s[m]'hm) (k := s.size - (m + 1)) (by rw [← hs]; exact hn) h9
  rw [← hs] at hk
  unfold nextW
  rw [← hk, apS, apS, ho, hb]
  have e : (s.extract 0 m).data.toList = s.data.toList.take m := by rw [Lib.extract_data]; simp
  simp [e]
theorem zeros_snoc {o : ByteArray} {j : Nat} (h : o.data.toList = List.replicate j 48) : (o ++ ⟨#[48]⟩ : ByteArray).data.toList = List.replicate (j + 1) 48 := by
  rw [apS, h]; simp [List.replicate_succ']
theorem zeros_size {o : ByteArray} {j : Nat} (h : o.data.toList = List.replicate j 48) : o.size = j := by
  rw [Lib.size_eq, h]; simp
set_option maxHeartbeats 4000000 in
theorem refNext (s : ByteArray) (hs : s.size ≤ 2000000) (hn : isNat s.data.toList = true) (w : World) : Calls Tryz.prog 36 #[.string s] w (RB w (.string ⟨(nextW s.data.toList).toArray⟩)) := by
  have hpos : 0 < s.size := by
    rcases Nat.eq_zero_or_pos s.size with h | h
    · obtain rfl := str_empty h; cases hn
    · exact h
  have HNat := Lib.hid hn
  have hcv := fun (W : World) (n : Int) => conv1_new (P := Tryz.prog) 49 9 5 Tryz.underlying49 Tryz.underlying5 Tryz.underlying9 W n
  clear hn
  go_enter Tryz.func36, Tryz.ntmps36
  go_wp2_with fail
  go_loopg [3] s.size (fun g v wr => ∃ p : Nat, v = .int .i64 ((p : Int) - 1) ∧ p ≤ s.size ∧ Nin s p ∧ Bl w wr ∧ g = p)
  case atStart => exact ⟨s.size, rfl, Nat.le_refl _, nin_all s, Bl.refl _, rfl⟩
  case round =>
    obtain ⟨p, rfl, hp, hN, hbw, hg⟩ := hrel
    have G := Lib.hid hg
    have HN := Lib.hid hN
    clear hg hN
    match p, hp, G, HN with
    | 0, hp, G, HN =>
      rw [show (((0 : Nat) : Int) - 1) = -1 from rfl]
      clear hp
      go_wp2_with fail
      go_loopg [4, 5] (s.size - (0)) (fun g o k wr2 => ∃ (j : Nat) (z : ByteArray), k = .int .i64 (((0) + j : Nat) : Int) ∧ o = .string z ∧ (0) + j ≤ s.size ∧ z.data.toList = List.replicate j 48 ∧ Bl w wr2 ∧ g = s.size - ((0) + j))
      case atStart => exact ⟨0, ⟨#[]⟩, by first | rfl | exact ival (by omega), rfl, by omega, rfl, hbw, by omega⟩
      case round =>
        clear hbw
        obtain ⟨j, z, rfl, rfl, hj, hz, hbw, hg2⟩ := hrel
        have G2 := Lib.hid hg2
        have hzs := zeros_size hz
        have HZ := Lib.hid hz
        clear hg2 hz
        have i6 : ¬ 9223372036854775807 < z.size + 1 := by omega
        have i7 : ¬ 9223372036854775807 < 1 + z.size := by omega
        have i9 : z.size ≤ s.size := by omega
        clear hzs
        by_cases hlt : (0) + j < s.size
        · obtain ⟨K, hK⟩ : ∃ K, (0) + j = K := ⟨_, rfl⟩
          have HK := Lib.hid hK
          rw [hK] at hlt
          rw [hK]
          have q1 : decide (K < s.size) = true := by rw [decide_eq_true_eq]; exact hlt
          have q2 : decide ((K : Int) < (s.size : Int)) = true := by rw [decide_eq_true_eq]; omega
          clear hK hj
          go_wp2_with fail
          go_roundg (s.size - (K + 1))
          case rel => exact ⟨j + 1, z ++ ⟨#[48]⟩, by have := HK.out; exact ival (by omega), rfl, by have := HK.out; omega, zeros_snoc HZ.out, hbw, by have := HK.out; omega⟩
          case measure => have := HK.out; rw [G2.out]; omega
        · obtain ⟨K, hK⟩ : ∃ K, (0) + j = K := ⟨_, rfl⟩
          obtain rfl : K = s.size := by omega
          have HK := Lib.hid hK
          rw [hK]
          clear hK hlt hj
          have hr := next_str0 hpos HN.out (by rw [HZ.out]; have := HK.out; congr 1; omega)
          have HR := Lib.hid hr
          clear hr
          go_wp2_with fail
          go_ret
          exact RB.mk (sval HR.out) hbw
    | m + 1, hp, G, HN =>
      rw [show (((m + 1 : Nat) : Int) - 1) = (m : Int) by omega]
      have hm : m < s.size := by omega
      have j0 : (0 : Int) ≤ (m : Int) := by omega
      have j1 : (m : Int) < (s.size : Int) := by omega
      by_cases h9 : s[m]'hm = 57
      · have e9 : (((s[m]'hm).toNat : Int) == 57) = true := by rw [h9]; rfl
        have HN2 := Lib.hid (nin_down HN.out hm h9)
        clear h9
        go_wp2_with fail
        go_roundg m
        case rel => exact ⟨m, rfl, by omega, HN2.out, hbw, rfl⟩
        case measure => rw [G.out]; omega
      · have e9 : (((s[m]'hm).toNat : Int) == 57) = false := u8_ne (d := 57) h9
        have H9 := Lib.hid h9
        clear h9
        go_wp2_with fail
        go_loopg [4, 5] (s.size - (m + 1)) (fun g o k wr2 => ∃ (j : Nat) (z : ByteArray), k = .int .i64 (((m + 1) + j : Nat) : Int) ∧ o = .string z ∧ (m + 1) + j ≤ s.size ∧ z.data.toList = List.replicate j 48 ∧ Bl w wr2 ∧ g = s.size - ((m + 1) + j))
        case atStart => exact ⟨0, ⟨#[]⟩, by first | rfl | exact ival (by omega), rfl, by omega, rfl, hbw, by omega⟩
        case round =>
          clear hbw
          obtain ⟨j, z, rfl, rfl, hj, hz, hbw, hg2⟩ := hrel
          have G2 := Lib.hid hg2
          have hzs := zeros_size hz
          have HZ := Lib.hid hz
          clear hg2 hz
          have i6 : ¬ 9223372036854775807 < z.size + 1 := by omega
          have i7 : ¬ 9223372036854775807 < 1 + z.size := by omega
          have i9 : z.size ≤ s.size := by omega
          clear hzs
          by_cases hlt : (m + 1) + j < s.size
          · obtain ⟨K, hK⟩ : ∃ K, (m + 1) + j = K := ⟨_, rfl⟩
            have HK := Lib.hid hK
            rw [hK] at hlt
            rw [hK]
            have q1 : decide (K < s.size) = true := by rw [decide_eq_true_eq]; exact hlt
            have q2 : decide ((K : Int) < (s.size : Int)) = true := by rw [decide_eq_true_eq]; omega
            clear hK hj
            go_wp2_with fail
            go_roundg (s.size - (K + 1))
            case rel => exact ⟨j + 1, z ++ ⟨#[48]⟩, by have := HK.out; exact ival (by omega), rfl, by have := HK.out; omega, zeros_snoc HZ.out, hbw, by have := HK.out; omega⟩
            case measure => have := HK.out; rw [G2.out]; omega
          · obtain ⟨K, hK⟩ : ∃ K, (m + 1) + j = K := ⟨_, rfl⟩
            obtain rfl : K = s.size := by omega
            have HK := Lib.hid hK
            rw [hK]
            clear hK hlt hj
            have hzM : z.data.toList = List.replicate (s.size - (m + 1)) 48 := by rw [HZ.out]; have := HK.out; congr 1; omega
            have HR := Lib.hid hzM
            clear hzM
            have j2 : (m : Int) ≤ (s.size : Int) := by omega
            have hx0 : (s.extract 0 m).size = m := by rw [ByteArray.size_extract]; omega
            have j3 : ¬ 9223372036854775807 < (s.extract 0 m).size + 1 := by omega
            have j4 : ¬ 9223372036854775807 < (s.extract 0 m).size + 1 + z.size := by omega
            have j5 : ¬ 9223372036854775807 < min m s.size + 1 := by omega
            have j6 : ¬ 9223372036854775807 < min m s.size + 1 + z.size := by omega
            clear hx0
            go_wp2_with fail
            go_region
            go_wp2
            go_ret
            refine RB.mk (sval (next_strM HNat.out hm H9.out HN.out HR.out ?_)) (by repeat (first | assumption | exact Bl.refl _ | apply Bl.drewN | apply Bl.drew | apply Bl.alloc | (refine Bl.dr ?_ (by assumption)) | (refine Bl.trans ?_ (by assumption))))
            apply UInt8.toNat_inj.1
            simp
end Go.Proofs.YtfjdcfmoodlnaaaGreatDoor
