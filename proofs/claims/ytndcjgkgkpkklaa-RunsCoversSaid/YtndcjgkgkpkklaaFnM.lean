
/-
  Contracts of fence.Make and of the reference's Make.
-/
import Derived.Test.YtndcjgkgkpkklaaFnL
namespace Go.Proofs.Ytndcjgkgkpkklaa
open Go.RowKit
set_option linter.unusedSimpArgs false
set_option linter.unusedVariables false
set_option maxRecDepth 100000

def mkM (l : List Ent) (s i : Nat) : ByteArray := match l[(i + 1) * s - 1]?, l[(i + 1) * s]? with
  | some x, some y => betS x.key y.key
  | _, _ => mt
def mkMs (l : List Ent) (s n : Nat) : List ByteArray := (List.range n).map (mkM l s)
def fmake (l : List Ent) (s : Int) : Fnc × Int := if (clchk l).2 ≠ 0 then (⟨0, []⟩, (clchk l).2) else if s < 1 ∨ 64 < s then (⟨0, []⟩, 7) else (⟨s, mkMs l s.toNat (cnt l.length s.toNat)⟩, 0)
theorem echk_key {x : Ent} (h : echk x = 0) : x.key.size ≤ 32 ∧ x.val.size ≤ 64 := by
  unfold echk at h
  split at h
  · simp at h
  · omega
theorem betS_size (s t : ByteArray) (hs : s.size ≤ 32) : (betS s t).size ≤ 33 := by
  have hle := (cmn_le s.data.toList t.data.toList).1
  simp only [Array.length_toList, ByteArray.size_data] at hle
  unfold betS
  rw [ByteArray.size_append, ByteArray.size_extract, show (⟨#[endB s (cmn s.data.toList t.data.toList)]⟩ : ByteArray).size = 1 from rfl]; omega
theorem betw_ok {s t : ByteArray} (hs : s.size ≤ 32) (ht : t.size ≤ 32) (h : slt s t = true) : betw s t = (betS s t, 0) := by
  unfold betw; rw [if_neg (by simp [ktwo]; omega), if_pos h]
def FOut (f : Fnc) (e : Int) (w : World) (v : Value) : Prop := ∃ a c, v = .tuple #[f.v a c, .int .i64 e] ∧ Strs w a f.marks ∧ f.marks.length ≤ c ∧ c ≤ maxLen
theorem mkMs_size {l : List Ent} (h : ∀ m, m ∈ l → echk m = 0) (s n : Nat) : ∀ x, x ∈ mkMs l s n → x.size ≤ 33 := by
  intro x hx
  obtain ⟨i, _, rfl⟩ := List.mem_map.1 hx
  unfold mkM
  split
  · rename_i x y h1 h2
    exact betS_size _ _ (echk_key (h _ (List.mem_of_getElem? h1))).1
  · show (0 : Nat) ≤ 33; omega
theorem mkMs_len (l : List Ent) (s n : Nat) : (mkMs l s n).length = n := by simp [mkMs]
theorem mkMs_succ (l : List Ent) (s n : Nat) : mkMs l s (n + 1) = mkMs l s n ++ [mkM l s n] := by simp [mkMs, List.range_succ]

theorem cnt_lt {n s k : Nat} (hs : 1 ≤ s) (h : (k + 1) * s < n) : k < cnt n s := by
  have h1 := (ceil_facts n s hs).1
  unfold cnt
  rcases Nat.lt_or_ge k ((n + s - 1) / s - 1) with h2 | h2
  · exact h2
  · have := Nat.mul_le_mul_right s (show (n + s - 1) / s ≤ k + 1 by omega); omega

end Go.Proofs.Ytndcjgkgkpkklaa
