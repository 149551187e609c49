
/-
  Contracts of keys.all, keys.Between and of the reference's Order, Between.
-/
import Derived.Test.YtbdiiopmjaeaaaaDoorKeysA
namespace Go.Proofs.YtbdiiopmjaeaaaaDoor
open Go.RowKit
set_option linter.unusedSimpArgs false
set_option linter.unusedVariables false
set_option maxRecDepth 100000

/-- Is a key too long? -/
def kbad (l : List ByteArray) : Bool := l.any fun s => 32 < s.size
def kall (l : List ByteArray) : Int := if kbad l then 3 else 0
theorem kall_drop {l : List ByteArray} {k : Nat} {x : ByteArray} (h : l[k]? = some x) : kbad (l.drop k) = (decide (32 < x.size) || kbad (l.drop (k + 1))) := by
  obtain ⟨hk, rfl⟩ := List.getElem?_eq_some_iff.1 h
  rw [List.drop_eq_getElem_cons hk]; rfl

theorem cmpS_eq (s t : ByteArray) {n : Nat} (hn : cmn s.data.toList t.data.toList = n) : cmpS s t = if n = s.size ∧ n = t.size then 0
    else if n = s.size ∨ n < t.size ∧ s.data.toList.getD n 0 < t.data.toList.getD n 0 then -1 else 1 := by
  unfold cmpS slt
  have hle := cmn_le s.data.toList t.data.toList
  have h1 := eq_cmn s.data.toList t.data.toList
  rw [toL, toL, bl_cmn, hn]
  rw [hn] at hle h1
  simp only [Array.length_toList, ByteArray.size_data] at *
  by_cases ha : n = s.size <;> by_cases hb : n = t.size
  · have h2 := h1.2 ⟨ha, hb⟩
    have h3 : s.size = t.size := by omega
    simp [ha, h2, h3]
  · have h2 : ¬ s.data.toList = t.data.toList := fun h => hb (h1.1 h).2
    have h3 : n < t.size := by omega
    simp [ha, h2]; omega
  · have h2 : ¬ s.data.toList = t.data.toList := fun h => ha (h1.1 h).1
    have h3 : ¬ n < t.size := by omega
    simp [ha, h2, h3]
  · have h2 : ¬ s.data.toList = t.data.toList := fun h => ha (h1.1 h).1
    have h3 : n < t.size := by omega
    simp [ha, h2, h3]

set_option maxHeartbeats 400000 in
theorem refOrder (s t : ByteArray) (w : World) (hs : s.size ≤ maxLen) (ht : t.size ≤ maxLen) :
    Calls Tryd.prog 52 #[.string s, .string t] w (RD w (.int .i64 (cmpS s t))) := by
  have hle := cmn_le s.data.toList t.data.toList
  have hc := fun w => refCommon s t w hs ht
  simp only [Array.length_toList, ByteArray.size_data] at hle
  obtain ⟨hle1, hle2⟩ := hle
  unfold maxLen at hs ht
  generalize hn : cmn s.data.toList t.data.toList = n at *
  rw [cmpS_eq s t hn]
  have C := Lib.hid hc
  clear hc hn
  by_cases h1 : n = s.size
  · have b1 : ((n : Int) == (s.size : Int)) = true := by rw [h1]; simp
    by_cases h2 : n = t.size
    · have b2 : ((n : Int) == (t.size : Int)) = true := by rw [h2]; simp
      rw [if_pos ⟨h1, h2⟩]
      clear h1 h2
      go_enter Tryd.func52, Tryd.ntmps52
      go_wp2_with fail
      refine (C.out _).mono ?_
      rintro e w1 ⟨rfl, hd⟩
      go_wp2
      go_ret
      exact RD.mk rfl hd
    · have b2 : ((n : Int) == (t.size : Int)) = false := by simp; omega
      rw [if_neg (by omega), if_pos (.inl h1)]
      clear h1 h2
      go_enter Tryd.func52, Tryd.ntmps52
      go_wp2_with fail
      refine (C.out _).mono ?_
      rintro e w1 ⟨rfl, hd⟩
      go_wp2
      go_quiet (fail)
      go_wp2
      go_ret
      exact RD.mk rfl (hd.drewN _)
  · have b1 : ((n : Int) == (s.size : Int)) = false := by simp; omega
    have l1 : n < s.size := by omega
    rw [if_neg (by omega)]
    by_cases h2 : n < t.size
    · by_cases h3 : s[n] < t[n]
      · rw [if_pos (.inr ⟨h2, by simpa [List.getD, l1, h2, ByteArray.getElem_eq_getElem_data] using h3⟩)]
        have h3' : (s[n].toNat : Int) < (t[n].toNat : Int) := by have := UInt8.lt_iff_toNat_lt.1 h3; omega
        clear h1 h3
        go_enter Tryd.func52, Tryd.ntmps52
        go_wp2_with fail
        refine (C.out _).mono ?_
        rintro e w1 ⟨rfl, hd⟩
        go_wp2
        go_quiet (fail)
        go_wp2
        go_ret
        exact RD.mk rfl (hd.drewN _)
      · rw [if_neg (by rintro (h | ⟨_, h⟩); exact h1 h; exact h3 (by simpa [List.getD, l1, h2, ByteArray.getElem_eq_getElem_data] using h))]
        have h3' : ¬ (s[n].toNat : Int) < (t[n].toNat : Int) := by intro h; exact h3 (UInt8.lt_iff_toNat_lt.2 (by omega))
        clear h1 h3
        go_enter Tryd.func52, Tryd.ntmps52
        go_wp2_with fail
        refine (C.out _).mono ?_
        rintro e w1 ⟨rfl, hd⟩
        go_wp2
        go_quiet (fail)
        go_wp2
        go_ret
        exact RD.mk rfl (hd.drewN _)
    · rw [if_neg (by omega)]
      clear h1
      go_enter Tryd.func52, Tryd.ntmps52
      go_wp2_with fail
      refine (C.out _).mono ?_
      rintro e w1 ⟨rfl, hd⟩
      go_wp2
      go_quiet (fail)
      go_wp2
      go_ret
      exact RD.mk rfl (hd.drewN _)
end Go.Proofs.YtbdiiopmjaeaaaaDoor
