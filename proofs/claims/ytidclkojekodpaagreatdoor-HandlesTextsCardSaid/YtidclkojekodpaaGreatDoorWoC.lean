
/-
  Contracts of words: bare fields.
-/
import Derived.Test.YtidclkojekodpaaGreatDoorWoB
namespace Go.Proofs.YtidclkojekodpaaGreatDoor
open Go.RowKit
set_option linter.unusedSimpArgs false
set_option linter.unusedVariables false
set_option maxRecDepth 100000

theorem bare_stop {l : List UInt8} {k : Nat} {c : UInt8} (h : l[k]? = some c) (hc : plainB c = false ∨ c = 32) : bareW l = false := by
  have hm := List.mem_of_getElem? h
  unfold bareW
  rw [Bool.and_eq_false_iff]
  right
  rw [List.all_eq_false]
  refine ⟨c, hm, ?_⟩
  rcases hc with e | rfl
  · simp [e]
  · simp
theorem bare_all {l : List UInt8} (h : ∀ (j : Nat) c, l[j]? = some c → plainB c = true ∧ c ≠ 32) : bareW l = !l.isEmpty := by
  unfold bareW
  have : l.all (fun c => plainB c && c != 32) = true := by
    rw [List.all_eq_true]
    intro c hc
    obtain ⟨j, hj, rfl⟩ := List.getElem_of_mem hc
    have := h j _ (List.getElem?_eq_getElem hj)
    simp [this.1, this.2]
  rw [this, Bool.and_true]
theorem str_get {s : ByteArray} {k : Nat} (h : k < s.size) : s.data.toList[k]? = some (s[k]'h) := by
  rw [List.getElem?_eq_getElem (by simpa using h)]; simp [ByteArray.getElem_eq_getElem_data]
set_option maxHeartbeats 4000000 in
theorem woBare (s : ByteArray) (hs : s.size < 9223372036854775807) (w : World) : Calls Tryz.prog 57 #[.string s] w (RB w (.bool (bareW s.data.toList))) := by
  have hp := fun c w => woPlain c w
  have HP := Lib.hid hp
  obtain ⟨R, hR⟩ : ∃ R, bareW s.data.toList = R := ⟨_, rfl⟩
  rw [hR]
  have kb := fun (k : Nat) c (h : s.data.toList[k]? = some c) (hc : plainB c = false ∨ c = 32) => hR.symm.trans (bare_stop h hc)
  have ka := fun h => hR.symm.trans (bare_all h)
  have KB := Lib.hid kb
  have KA := Lib.hid ka
  clear hp hR kb ka
  go_enter Tryz.func57, Tryz.ntmps57
  go_wp2_with fail
  go_loopg [6] s.size (fun g i wr => ∃ k : Nat, k ≤ s.size ∧ i = .int .i64 k ∧ Bl w wr ∧ (∀ (j : Nat) c, j < k → s.data.toList[j]? = some c → plainB c = true ∧ c ≠ 32) ∧ g = s.size - k)
  case atStart => exact ⟨0, by omega, rfl, Bl.refl _, by intro j c hj; omega, rfl⟩
  case round =>
    obtain ⟨k, hk, rfl, hbw, hno, hg⟩ := hrel
    have G := Lib.hid hg
    have HN := Lib.hid hno
    clear hg hno
    by_cases hkl : k < s.size
    · have hx := str_get hkl
      have h1 : (0 : Int) ≤ (k : Int) := by omega
      have h2 : (k : Int) < (s.size : Int) := by omega
      generalize hc : s[k]'hkl = c at hx
      have HX := Lib.hid hx
      clear hx
      go_wp2_with fail
      refine (HP.out c _).mono ?_; rintro e w1 ⟨rfl, hb1⟩
      have hb2 : Bl w w1 := hbw.trans hb1
      clear hb1
      cases hpl : plainB c
      · have hr := KB.out k c HX.out (.inl hpl)
        subst hr
        clear hpl
        go_wp2_with fail
        go_ret
        exact RB.mk rfl hb2
      · by_cases h32 : c = 32
        · have hr := KB.out k c HX.out (.inr h32)
          subst hr
          subst h32
          clear hpl
          go_wp2_with fail
          go_ret
          exact RB.mk rfl hb2
        · have e1 : ((c.toNat : Int) == 32) = false := u8_ne (d := 32) h32
          have HPl := Lib.hid hpl
          have HNe := Lib.hid h32
          clear hpl h32
          go_wp2_with fail
          go_roundg (s.size - (k + 1))
          case rel =>
            refine ⟨k + 1, by omega, by go_num, hb2, fun j d hj hd => ?_, rfl⟩
            by_cases e : j = k
            · subst e; rw [HX.out] at hd; injection hd with hd; subst hd; exact ⟨HPl.out, HNe.out⟩
            · exact HN.out j d (by omega) hd
          case measure => rw [G.out]; omega
    · obtain rfl : k = s.size := by omega
      have hr := KA.out (fun j d hd => HN.out j d (by have := (List.getElem?_eq_some_iff.1 hd).1; simpa using this) hd)
      have HR := Lib.hid hr
      clear hr
      by_cases h0 : s.size = 0
      · obtain rfl : s = ⟨#[]⟩ := by
          apply ByteArray.ext
          exact Array.eq_empty_of_size_eq_zero h0
        clear h0
        go_wp2_with fail
        go_ret
        exact RB.mk (by rw [HR.out]; rfl) hbw
      · have h1 : s ≠ ⟨#[]⟩ := by rintro rfl; exact h0 rfl
        have h2 : (0 : Int) < (s.size : Int) := by omega
        have h3 : s.data.toList.isEmpty = false := by
          cases e : s.data.toList with
          | nil => exact absurd (by have := congrArg List.length e; simpa using this) h0
          | cons _ _ => rfl
        have HE := Lib.hid h3
        have h4 : (s.data.toList == []) = false := by cases e : s.data.toList with | nil => rw [e] at h3; cases h3 | cons _ _ => rfl
        have h5 : (s.toList == []) = false := by rw [toL]; exact h4
        clear h3 h0
        go_wp2_with fail
        go_ret
        exact RB.mk (by rw [HR.out, HE.out]; first | (simp [h1, h4, h5]; done) | (simp [h1, h4, h5]; omega)) hbw
set_option maxHeartbeats 4000000 in
theorem refBare (s : ByteArray) (hs : s.size < 9223372036854775807) (w : World) : Calls Tryz.prog 44 #[.string s] w (RB w (.bool (bareW s.data.toList))) := by
  have hp := fun c w => refPlain c w
  have HP := Lib.hid hp
  obtain ⟨R, hR⟩ : ∃ R, bareW s.data.toList = R := ⟨_, rfl⟩
  rw [hR]
  have kb := fun (k : Nat) c (h : s.data.toList[k]? = some c) (hc : plainB c = false ∨ c = 32) => hR.symm.trans (bare_stop h hc)
  have ka := fun h => hR.symm.trans (bare_all h)
  have KB := Lib.hid kb
  have KA := Lib.hid ka
  clear hp hR kb ka
  go_enter Tryz.func44, Tryz.ntmps44
  go_wp2_with fail
  go_loopg [3] s.size (fun g i wr => ∃ k : Nat, k ≤ s.size ∧ i = .int .i64 k ∧ Bl w wr ∧ (∀ (j : Nat) c, j < k → s.data.toList[j]? = some c → plainB c = true ∧ c ≠ 32) ∧ g = s.size - k)
  case atStart => exact ⟨0, by omega, rfl, Bl.refl _, by intro j c hj; omega, rfl⟩
  case round =>
    obtain ⟨k, hk, rfl, hbw, hno, hg⟩ := hrel
    have G := Lib.hid hg
    have HN := Lib.hid hno
    clear hg hno
    by_cases hkl : k < s.size
    · have hx := str_get hkl
      have h1 : (0 : Int) ≤ (k : Int) := by omega
      have h2 : (k : Int) < (s.size : Int) := by omega
      generalize hc : s[k]'hkl = c at hx
      have HX := Lib.hid hx
      clear hx
      go_wp2_with fail
      refine (HP.out c _).mono ?_; rintro e w1 ⟨rfl, hb1⟩
      have hb2 : Bl w w1 := hbw.trans hb1
      clear hb1
      cases hpl : plainB c
      · have hr := KB.out k c HX.out (.inl hpl)
        subst hr
        clear hpl
        go_wp2_with fail
        go_ret
        exact RB.mk rfl hb2
      · by_cases h32 : c = 32
        · have hr := KB.out k c HX.out (.inr h32)
          subst hr
          subst h32
          clear hpl
          go_wp2_with fail
          go_ret
          exact RB.mk rfl hb2
        · have e1 : ((c.toNat : Int) == 32) = false := u8_ne (d := 32) h32
          have HPl := Lib.hid hpl
          have HNe := Lib.hid h32
          clear hpl h32
          go_wp2_with fail
          go_roundg (s.size - (k + 1))
          case rel =>
            refine ⟨k + 1, by omega, by go_num, hb2, fun j d hj hd => ?_, rfl⟩
            by_cases e : j = k
            · subst e; rw [HX.out] at hd; injection hd with hd; subst hd; exact ⟨HPl.out, HNe.out⟩
            · exact HN.out j d (by omega) hd
          case measure => rw [G.out]; omega
    · obtain rfl : k = s.size := by omega
      have hr := KA.out (fun j d hd => HN.out j d (by have := (List.getElem?_eq_some_iff.1 hd).1; simpa using this) hd)
      have HR := Lib.hid hr
      clear hr
      by_cases h0 : s.size = 0
      · obtain rfl : s = ⟨#[]⟩ := by
          apply ByteArray.ext
          exact Array.eq_empty_of_size_eq_zero h0
        clear h0
        go_wp2_with fail
        go_ret
        exact RB.mk (by rw [HR.out]; rfl) hbw
      · have h1 : s ≠ ⟨#[]⟩ := by rintro rfl; exact h0 rfl
        have h2 : (0 : Int) < (s.size : Int) := by omega
        have h3 : s.data.toList.isEmpty = false := by
          cases e : s.data.toList with
          | nil => exact absurd (by have := congrArg List.length e; simpa using this) h0
          | cons _ _ => rfl
        have HE := Lib.hid h3
        have h4 : (s.data.toList == []) = false := by cases e : s.data.toList with | nil => rw [e] at h3; cases h3 | cons _ _ => rfl
        have h5 : (s.toList == []) = false := by rw [toL]; exact h4
        clear h3 h0
        go_wp2_with fail
        go_ret
        exact RB.mk (by rw [HR.out, HE.out]; first | (simp [h1, h4, h5]; done) | (simp [h1, h4, h5]; omega)) hbw
end Go.Proofs.YtidclkojekodpaaGreatDoor
