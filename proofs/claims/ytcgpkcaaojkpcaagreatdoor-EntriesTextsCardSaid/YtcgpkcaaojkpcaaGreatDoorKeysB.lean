
/-
  Contracts of keys.all, keys.Between and of the reference's Order, Between.
-/
import Derived.Test.YtcgpkcaaojkpcaaGreatDoorKeysA
namespace Go.Proofs.YtcgpkcaaojkpcaaGreatDoor
open Go.RowKit
set_option linter.unusedSimpArgs false
set_option linter.unusedVariables false
set_option maxRecDepth 100000

/-- Is a key too long? -/
def kbad (l : List ByteArray) : Bool := l.any fun s => 32 < s.size
def kall (l : List ByteArray) : Int := if kbad l then 3 else 0
theorem kall_drop {l : List ByteArray} {k : Nat} {x : ByteArray} (h : l[k]? = some x) : kbad (l.drop k) = (decide (32 < x.size) || kbad (l.drop (k + 1))) := by
  obtain ⟨hk, rfl⟩ := List.getElem?_eq_some_iff.1 h
  rw [List.drop_eq_getElem_cons hk]; rfl

theorem cmpS_eq (s t : ByteArray) {n : Nat} (hn : cmn s.data.toList t.data.toList = n) : cmpS s t = if n = s.size ∧ n = t.size then 0
    else if n = s.size ∨ n < t.size ∧ s.data.toList.getD n 0 < t.data.toList.getD n 0 then -1 else 1 := by
  unfold cmpS slt
  have hle := cmn_le s.data.toList t.data.toList
  have h1 := eq_cmn s.data.toList t.data.toList
  rw [toL, toL, bl_cmn, hn]
  rw [hn] at hle h1
  simp only [Array.length_toList, ByteArray.size_data] at *
  by_cases ha : n = s.size <;> by_cases hb : n = t.size
  · have h2 := h1.2 ⟨ha, hb⟩
    have h3 : s.size = t.size := by omega
    simp [ha, h2, h3]
  · have h2 : ¬ s.data.toList = t.data.toList := fun h => hb (h1.1 h).2
    have h3 : n < t.size := by omega
    simp [ha, h2]; omega
  · have h2 : ¬ s.data.toList = t.data.toList := fun h => ha (h1.1 h).1
    have h3 : ¬ n < t.size := by omega
    simp [ha, h2, h3]
  · have h2 : ¬ s.data.toList = t.data.toList := fun h => ha (h1.1 h).1
    have h3 : n < t.size := by omega
    simp [ha, h2, h3]

end Go.Proofs.YtcgpkcaaojkpcaaGreatDoor
