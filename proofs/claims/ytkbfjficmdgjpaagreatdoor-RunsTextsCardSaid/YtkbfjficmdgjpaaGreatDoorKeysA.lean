
/-
  Contracts of keys.Check, keys.all, keys.common and of the reference's Check, two, common, Order.
-/
import Derived.Test.YtkbfjficmdgjpaaGreatDoorLib
import Derived.Deep.LoopGhost
namespace Go.Proofs.YtkbfjficmdgjpaaGreatDoor
open Go.RowKit
set_option linter.unusedSimpArgs false
set_option linter.unusedVariables false
set_option maxRecDepth 100000

def kchk (s : ByteArray) : Int := if 32 < s.size then 3 else 0

theorem keysCheck (s : ByteArray) (w : World) (hs : s.size ≤ maxLen) : Calls Tryz.prog 53 #[.string s] w (RD w (.int .i64 (kchk s))) := by
  unfold maxLen at hs
  unfold kchk
  by_cases h : 32 < s.size
  · rw [if_pos h]
    go_enter Tryz.func53, Tryz.ntmps53
    go_wp2
    go_ret
    exact RD.mk rfl (Dr.refl _)
  · rw [if_neg h]
    go_enter Tryz.func53, Tryz.ntmps53
    go_wp2
    go_ret
    exact RD.mk rfl (Dr.refl _)

/-- The first error of two keys. -/
def ktwo (s t : ByteArray) : Int := if 32 < s.size ∨ 32 < t.size then 3 else 0

set_option maxHeartbeats 400000 in
theorem refCommon (s t : ByteArray) (w : World) (hs : s.size ≤ maxLen) (ht : t.size ≤ maxLen) :
    Calls Tryz.prog 86 #[.string s, .string t] w (RD w (.int .i64 (cmn s.data.toList t.data.toList))) := by
  unfold maxLen at hs ht
  go_enter Tryz.func86, Tryz.ntmps86
  go_wp2
  go_loopw [5] (fun i wr => ∃ k : Nat, k ≤ s.size ∧ k ≤ t.size ∧ i = .int .i64 k ∧ cmn s.data.toList t.data.toList = k + cmn (s.data.toList.drop k) (t.data.toList.drop k) ∧ Dr w wr) (fun i _ => s.size - (intOf i).toNat)
  case atStart => exact ⟨0, by omega, by omega, rfl, by simp, Dr.refl _⟩
  case round =>
    obtain ⟨k, hk1, hk2, rfl, hc, hd⟩ := hrel
    have H := Lib.hid hc
    clear hc
    by_cases h1 : k < s.size
    · by_cases h2 : k < t.size
      · by_cases h3 : s[k] = t[k]
        · go_wp2
          go_quiet (fail)
          go_wp2
          go_roundw
          case rel =>
            refine ⟨k+1, by omega, by omega, by go_num, ?_, hd.drewN _⟩
            have h4 := cmn_step s.data.toList t.data.toList k h1 h2 h3
            rw [H.out, h4]; omega
          case measure => simp [intOf]; omega
        · have h3' : ((s[k].toNat : Int) == (t[k].toNat : Int)) = false := by
            rw [beq_eq_false_iff_ne]; intro h; exact h3 (UInt8.toNat.inj (by omega))
          go_wp2
          go_quiet (fail)
          go_wp2
          go_ret
          have h4 := cmn_stop s.data.toList t.data.toList k h1 h2 h3
          exact RD.mk (ival (by rw [H.out, h4]; simp)) (hd.drewN _)
      · go_wp2
        go_quiet (fail)
        go_wp2
        go_ret
        exact RD.mk (ival (by rw [H.out, List.drop_of_length_le (l := t.data.toList) (by simp at *; omega), cmn_nil2]; simp)) (hd.drewN _)
    · go_wp2
      go_quiet (fail)
      go_wp2
      go_ret
      exact RD.mk (ival (by rw [H.out, List.drop_of_length_le (l := s.data.toList) (by simp at *; omega), cmn_nil1]; simp)) (hd.drewN _)

set_option maxHeartbeats 400000 in
theorem keysCommon (s t : ByteArray) (w : World) (hs : s.size ≤ maxLen) (ht : t.size ≤ maxLen) :
    Calls Tryz.prog 132 #[.string s, .string t] w (RD w (.int .i64 (cmn s.data.toList t.data.toList))) := by
  unfold maxLen at hs ht
  go_enter Tryz.func132, Tryz.ntmps132
  go_wp2
  go_step3
  go_wp2
  go_step3
  go_wp2
  go_loopg [5] s.size (fun g i wr => ∃ k : Nat, k ≤ s.size ∧ k ≤ t.size ∧ i = .int .i64 k ∧ cmn s.data.toList t.data.toList = k + cmn (s.data.toList.drop k) (t.data.toList.drop k) ∧ Dr w wr ∧ g = s.size - k)
  case atStart => exact ⟨0, by omega, by omega, rfl, by simp, Dr.refl _, rfl⟩
  case round =>
    obtain ⟨k, hk1, hk2, rfl, hc, hd, hg⟩ := hrel
    have H := Lib.hid hc
    have G := Lib.hid hg
    clear hc hg
    by_cases h1 : k < s.size
    · by_cases h2 : k < t.size
      · have hm : (k : Int) < if t.size < s.size then (t.size : Int) else (s.size : Int) := by split <;> omega
        by_cases h3 : s[k] = t[k]
        · have h3' : ((s[k].toNat : Int) != (t[k].toNat : Int)) = false := by simp [h3]
          go_wp2
          all_goals
            go_quiet (fail)
            go_wp2
            go_roundg (s.size - (k + 1))
            case rel =>
              refine ⟨k+1, by omega, by omega, by go_num, ?_, hd.drewN _, rfl⟩
              have h4 := cmn_step s.data.toList t.data.toList k h1 h2 h3
              rw [H.out, h4]; omega
            case measure => rw [G.out]; omega
        · have h3' : ((s[k].toNat : Int) != (t[k].toNat : Int)) = true := by
            rw [bne_iff_ne]; intro h; exact h3 (UInt8.toNat.inj (by omega))
          go_wp2
          all_goals
            go_quiet (fail)
            go_wp2
            try rw [Exit.noGoto_ret]
            go_ret
            have h4 := cmn_stop s.data.toList t.data.toList k h1 h2 h3
            exact RD.mk (ival (by rw [H.out, h4]; simp)) (hd.drewN _)
      · have hm : ¬ (k : Int) < if t.size < s.size then (t.size : Int) else (s.size : Int) := by split <;> omega
        go_wp2
        try rw [Exit.noGoto_ret]
        go_ret
        exact RD.mk (ival (by rw [H.out, List.drop_of_length_le (l := t.data.toList) (by simp at *; omega), cmn_nil2]; simp)) hd
    · have hm : ¬ (k : Int) < if t.size < s.size then (t.size : Int) else (s.size : Int) := by split <;> omega
      go_wp2
      try rw [Exit.noGoto_ret]
      go_ret
      exact RD.mk (ival (by rw [H.out, List.drop_of_length_le (l := s.data.toList) (by simp at *; omega), cmn_nil1]; simp)) hd
end Go.Proofs.YtkbfjficmdgjpaaGreatDoor
