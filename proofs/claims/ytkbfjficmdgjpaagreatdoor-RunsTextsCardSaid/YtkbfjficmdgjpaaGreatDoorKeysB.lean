
/-
  Contracts of keys.all, keys.Between and of the reference's Order, Between.
-/
import Derived.Test.YtkbfjficmdgjpaaGreatDoorKeysA
namespace Go.Proofs.YtkbfjficmdgjpaaGreatDoor
open Go.RowKit
set_option linter.unusedSimpArgs false
set_option linter.unusedVariables false
set_option maxRecDepth 100000

/-- Is a key too long? -/
def kbad (l : List ByteArray) : Bool := l.any fun s => 32 < s.size
def kall (l : List ByteArray) : Int := if kbad l then 3 else 0
theorem kall_drop {l : List ByteArray} {k : Nat} {x : ByteArray} (h : l[k]? = some x) : kbad (l.drop k) = (decide (32 < x.size) || kbad (l.drop (k + 1))) := by
  obtain ⟨hk, rfl⟩ := List.getElem?_eq_some_iff.1 h
  rw [List.drop_eq_getElem_cons hk]; rfl

set_option maxHeartbeats 400000 in
theorem keysAll (a : Option Addr) (c : Nat) (l : List ByteArray) (w : World) (hl : Strs w a l) (hn : l.length ≤ maxLen) :
    Calls Tryz.prog 80 #[.slice a l.length c] w (RD w (.int .i64 (kall l))) := by
  unfold maxLen at hn
  go_enter Tryz.func80, Tryz.ntmps80
  go_wp2
  go_loopg [8] l.length (fun g i wr => ∃ k : Nat, k ≤ l.length ∧ i = .int .i64 k ∧ kbad l = kbad (l.drop k) ∧ Dr w wr ∧ g = l.length - k)
  case atStart => exact ⟨0, by omega, rfl, by simp, Dr.refl _, rfl⟩
  case round =>
    obtain ⟨k, hk1, rfl, hc, hd, hg⟩ := hrel
    have H := Lib.hid hc
    have G := Lib.hid hg
    clear hc hg
    by_cases h1 : k < l.length
    · obtain ⟨b, off, rfl, hat⟩ := hl.get h1
      obtain ⟨x, hx⟩ : ∃ x, l[k]? = some x := ⟨_, List.getElem?_eq_getElem h1⟩
      have hcell : wr.cell? ⟨b, off + k, none⟩ = some (.string x) := by rw [hd.cell]; exact hat k x hx
      have hxs : x.size ≤ maxLen := hl.ok x (List.mem_of_getElem? hx)
      have cs := fun w => keysCheck x w hxs
      unfold kchk at cs
      have X := Lib.hid hx
      have hl' := Lib.hid hl
      clear hx hat hl
      by_cases h2 : 32 < x.size
      · simp only [h2, if_true] at cs
        have Cs := Lib.hid cs
        clear cs
        go_wp2_with fail
        refine (Cs.out _).mono ?_
        rintro e w1 ⟨rfl, hd2⟩
        go_wp2_with fail
        go_ret
        refine RD.mk (ival ?_) (hd.trans hd2)
        rw [kall, H.out, kall_drop X.out]; simp [h2]
      · simp only [h2, if_false] at cs
        have Cs := Lib.hid cs
        clear cs
        go_wp2_with fail
        refine (Cs.out _).mono ?_
        rintro e w1 ⟨rfl, hd2⟩
        go_wp2_with fail
        go_roundg (l.length - (k + 1))
        case rel =>
          refine ⟨k + 1, by omega, by go_num, ?_, hd.trans hd2, rfl⟩
          rw [H.out, kall_drop X.out]; simp [h2]
        case measure => rw [G.out]; omega
    · go_wp2
      go_ret
      refine RD.mk (ival ?_) hd
      rw [kall, H.out, List.drop_of_length_le (by omega)]; rfl

theorem cmpS_eq (s t : ByteArray) {n : Nat} (hn : cmn s.data.toList t.data.toList = n) : cmpS s t = if n = s.size ∧ n = t.size then 0
    else if n = s.size ∨ n < t.size ∧ s.data.toList.getD n 0 < t.data.toList.getD n 0 then -1 else 1 := by
  unfold cmpS slt
  have hle := cmn_le s.data.toList t.data.toList
  have h1 := eq_cmn s.data.toList t.data.toList
  rw [toL, toL, bl_cmn, hn]
  rw [hn] at hle h1
  simp only [Array.length_toList, ByteArray.size_data] at *
  by_cases ha : n = s.size <;> by_cases hb : n = t.size
  · have h2 := h1.2 ⟨ha, hb⟩
    have h3 : s.size = t.size := by omega
    simp [ha, h2, h3]
  · have h2 : ¬ s.data.toList = t.data.toList := fun h => hb (h1.1 h).2
    have h3 : n < t.size := by omega
    simp [ha, h2]; omega
  · have h2 : ¬ s.data.toList = t.data.toList := fun h => ha (h1.1 h).1
    have h3 : ¬ n < t.size := by omega
    simp [ha, h2, h3]
  · have h2 : ¬ s.data.toList = t.data.toList := fun h => ha (h1.1 h).1
    have h3 : n < t.size := by omega
    simp [ha, h2, h3]

set_option maxHeartbeats 400000 in
theorem refOrder (s t : ByteArray) (w : World) (hs : s.size ≤ maxLen) (ht : t.size ≤ maxLen) :
    Calls Tryz.prog 62 #[.string s, .string t] w (RD w (.int .i64 (cmpS s t))) := by
  have hle := cmn_le s.data.toList t.data.toList
  have hc := fun w => refCommon s t w hs ht
  simp only [Array.length_toList, ByteArray.size_data] at hle
  obtain ⟨hle1, hle2⟩ := hle
  unfold maxLen at hs ht
  generalize hn : cmn s.data.toList t.data.toList = n at *
  rw [cmpS_eq s t hn]
  have C := Lib.hid hc
  clear hc hn
  by_cases h1 : n = s.size
  · have b1 : ((n : Int) == (s.size : Int)) = true := by rw [h1]; simp
    by_cases h2 : n = t.size
    · have b2 : ((n : Int) == (t.size : Int)) = true := by rw [h2]; simp
      rw [if_pos ⟨h1, h2⟩]
      clear h1 h2
      go_enter Tryz.func62, Tryz.ntmps62
      go_wp2_with fail
      refine (C.out _).mono ?_
      rintro e w1 ⟨rfl, hd⟩
      go_wp2
      go_ret
      exact RD.mk rfl hd
    · have b2 : ((n : Int) == (t.size : Int)) = false := by simp; omega
      rw [if_neg (by omega), if_pos (.inl h1)]
      clear h1 h2
      go_enter Tryz.func62, Tryz.ntmps62
      go_wp2_with fail
      refine (C.out _).mono ?_
      rintro e w1 ⟨rfl, hd⟩
      go_wp2
      go_quiet (fail)
      go_wp2
      go_ret
      exact RD.mk rfl (hd.drewN _)
  · have b1 : ((n : Int) == (s.size : Int)) = false := by simp; omega
    have l1 : n < s.size := by omega
    rw [if_neg (by omega)]
    by_cases h2 : n < t.size
    · by_cases h3 : s[n] < t[n]
      · rw [if_pos (.inr ⟨h2, by simpa [List.getD, l1, h2, ByteArray.getElem_eq_getElem_data] using h3⟩)]
        have h3' : (s[n].toNat : Int) < (t[n].toNat : Int) := by have := UInt8.lt_iff_toNat_lt.1 h3; omega
        clear h1 h3
        go_enter Tryz.func62, Tryz.ntmps62
        go_wp2_with fail
        refine (C.out _).mono ?_
        rintro e w1 ⟨rfl, hd⟩
        go_wp2
        go_quiet (fail)
        go_wp2
        go_ret
        exact RD.mk rfl (hd.drewN _)
      · rw [if_neg (by rintro (h | ⟨_, h⟩); exact h1 h; exact h3 (by simpa [List.getD, l1, h2, ByteArray.getElem_eq_getElem_data] using h))]
        have h3' : ¬ (s[n].toNat : Int) < (t[n].toNat : Int) := by intro h; exact h3 (UInt8.lt_iff_toNat_lt.2 (by omega))
        clear h1 h3
        go_enter Tryz.func62, Tryz.ntmps62
        go_wp2_with fail
        refine (C.out _).mono ?_
        rintro e w1 ⟨rfl, hd⟩
        go_wp2
        go_quiet (fail)
        go_wp2
        go_ret
        exact RD.mk rfl (hd.drewN _)
    · rw [if_neg (by omega)]
      clear h1
      go_enter Tryz.func62, Tryz.ntmps62
      go_wp2_with fail
      refine (C.out _).mono ?_
      rintro e w1 ⟨rfl, hd⟩
      go_wp2
      go_quiet (fail)
      go_wp2
      go_ret
      exact RD.mk rfl (hd.drewN _)
end Go.Proofs.YtkbfjficmdgjpaaGreatDoor
