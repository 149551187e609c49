
/-
  Contracts of keys.Check, keys.all, keys.common and of the reference's Check, two, common, Order.
-/
import Derived.Test.YtbdiiopmjaeaaaaDoorLib
import Derived.Deep.LoopGhost
namespace Go.Proofs.YtbdiiopmjaeaaaaDoor
open Go.RowKit
set_option linter.unusedSimpArgs false
set_option linter.unusedVariables false
set_option maxRecDepth 100000

def kchk (s : ByteArray) : Int := if 32 < s.size then 3 else 0

theorem keysCheck (s : ByteArray) (w : World) (hs : s.size ≤ maxLen) : Calls Tryd.prog 40 #[.string s] w (RD w (.int .i64 (kchk s))) := by
  unfold maxLen at hs
  unfold kchk
  by_cases h : 32 < s.size
  · rw [if_pos h]
    go_enter Tryd.func40, Tryd.ntmps40
    go_wp2
    go_ret
    exact RD.mk rfl (Dr.refl _)
  · rw [if_neg h]
    go_enter Tryd.func40, Tryd.ntmps40
    go_wp2
    go_ret
    exact RD.mk rfl (Dr.refl _)

theorem refCheck (s : ByteArray) (w : World) (hs : s.size ≤ maxLen) : Calls Tryd.prog 55 #[.string s] w (RD w (.int .i64 (kchk s))) := by
  unfold maxLen at hs
  unfold kchk
  by_cases h : 32 < s.size
  · rw [if_pos h]
    go_enter Tryd.func55, Tryd.ntmps55
    go_wp2
    go_ret
    exact RD.mk rfl (Dr.refl _)
  · rw [if_neg h]
    go_enter Tryd.func55, Tryd.ntmps55
    go_wp2
    go_ret
    exact RD.mk rfl (Dr.refl _)

/-- The first error of two keys. -/
def ktwo (s t : ByteArray) : Int := if 32 < s.size ∨ 32 < t.size then 3 else 0

set_option maxHeartbeats 400000 in
theorem refCommon (s t : ByteArray) (w : World) (hs : s.size ≤ maxLen) (ht : t.size ≤ maxLen) :
    Calls Tryd.prog 66 #[.string s, .string t] w (RD w (.int .i64 (cmn s.data.toList t.data.toList))) := by
  unfold maxLen at hs ht
  go_enter Tryd.func66, Tryd.ntmps66
  go_wp2
  go_loopw [5] (fun i wr => ∃ k : Nat, k ≤ s.size ∧ k ≤ t.size ∧ i = .int .i64 k ∧ cmn s.data.toList t.data.toList = k + cmn (s.data.toList.drop k) (t.data.toList.drop k) ∧ Dr w wr) (fun i _ => s.size - (intOf i).toNat)
  case atStart => exact ⟨0, by omega, by omega, rfl, by simp, Dr.refl _⟩
  case round =>
    obtain ⟨k, hk1, hk2, rfl, hc, hd⟩ := hrel
    have H := Lib.hid hc
    clear hc
    by_cases h1 : k < s.size
    · by_cases h2 : k < t.size
      · by_cases h3 : s[k] = t[k]
        · go_wp2
          go_quiet (fail)
          go_wp2
          go_roundw
          case rel =>
            refine ⟨k+1, by omega, by omega, by go_num, ?_, hd.drewN _⟩
            have h4 := cmn_step s.data.toList t.data.toList k h1 h2 h3
            rw [H.out, h4]; omega
          case measure => simp [intOf]; omega
        · have h3' : ((s[k].toNat : Int) == (t[k].toNat : Int)) = false := by
            rw [beq_eq_false_iff_ne]; intro h; exact h3 (UInt8.toNat.inj (by omega))
          go_wp2
          go_quiet (fail)
          go_wp2
          go_ret
          have h4 := cmn_stop s.data.toList t.data.toList k h1 h2 h3
          exact RD.mk (ival (by rw [H.out, h4]; simp)) (hd.drewN _)
      · go_wp2
        go_quiet (fail)
        go_wp2
        go_ret
        exact RD.mk (ival (by rw [H.out, List.drop_of_length_le (l := t.data.toList) (by simp at *; omega), cmn_nil2]; simp)) (hd.drewN _)
    · go_wp2
      go_quiet (fail)
      go_wp2
      go_ret
      exact RD.mk (ival (by rw [H.out, List.drop_of_length_le (l := s.data.toList) (by simp at *; omega), cmn_nil1]; simp)) (hd.drewN _)

end Go.Proofs.YtbdiiopmjaeaaaaDoor
