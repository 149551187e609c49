
/-
  Contracts of words: lines. strings.Split at a newline; what the pieces are, plain.
-/
import Derived.Test.YtidclkojekodpaaGreatDoorShelf
import Derived.Test.YtidclkojekodpaaGreatDoorOwn
import Derived.Lib.SplitLaws
namespace Go.Proofs.YtidclkojekodpaaGreatDoor
open Go.RowKit
set_option linter.unusedSimpArgs false
set_option linter.unusedVariables false
set_option maxRecDepth 100000

/-! ### Plain: the pieces that end with a newline -/
def spl : List UInt8 → List UInt8 → List (List UInt8)
  | _, [] => []
  | cur, c :: r => if c = 10 then cur :: spl [] r else spl (cur ++ [c]) r
def onHead (cur : List UInt8) : List (List UInt8) → List (List UInt8)
  | [] => []
  | h :: t => (cur ++ h) :: t
theorem onHead_nil : ∀ X, onHead [] X = X
  | [] => rfl
  | _ :: _ => rfl
theorem onHead_app (a b : List UInt8) : ∀ X, onHead (a ++ b) X = onHead a (onHead b X)
  | [] => rfl
  | _ :: _ => by simp [onHead]
theorem splitK_ne {c : UInt8} (h : c ≠ 10) (k : Nat) (s : List UInt8) : Lib.splitK [10] 0 k (c :: s) = onHead [c] (Lib.splitK [10] 0 k s) := by
  match k with
  | 0 => rfl
  | k + 1 =>
    have hp : ([10] : List UInt8).isPrefixOf (c :: s) = false := by simp [List.isPrefixOf]; exact fun e => h e.symm
    have hix : Lib.index (c :: s) [10] = if Lib.index s [10] == -1 then -1 else Lib.index s [10] + 1 := by rw [Lib.index, hp]; simp
    have hge := Lib.index_ge s [10]
    unfold Lib.splitK
    rw [hix]
    by_cases hm : Lib.index s [10] = -1
    · simp [hm, onHead]
    · obtain ⟨j, hj⟩ : ∃ j : Nat, Lib.index s [10] = j := ⟨(Lib.index s [10]).toNat, by omega⟩
      rw [hj]
      have e1 : ((j : Int) == -1) = false := by rw [beq_eq_false_iff_ne]; omega
      have e2 : ((j : Int) + 1 == -1) = false := by rw [beq_eq_false_iff_ne]; omega
      have e3 : ((j : Int) + 1).toNat = j + 1 := by omega
      simp [e1, e2, e3, onHead]
theorem splitK_eq (k : Nat) (s : List UInt8) : Lib.splitK [10] 0 (k + 1) (10 :: s) = [] :: Lib.splitK [10] 0 k s := by
  have hix : Lib.index (10 :: s) [10] = ((0 : Nat) : Int) := by rw [Lib.index]; simp [List.isPrefixOf]
  rw [Lib.splitK, hix]
  simp
theorem spl_split : ∀ (s cur : List UInt8), spl cur (s ++ [10]) = onHead cur (Lib.splitK [10] 0 (s.count 10) s)
  | [], cur => by simp [spl, Lib.splitK, onHead]
  | c :: s, cur => by
    by_cases h : c = 10
    · subst h
      rw [List.count_cons_self, splitK_eq, List.cons_append, spl, if_pos rfl, spl_split s [], onHead_nil]
      simp [onHead]
    · rw [List.count_cons_of_ne (by simpa using h), splitK_ne h, List.cons_append, spl, if_neg h, spl_split s (cur ++ [c]), onHead_app]
theorem splitB_spl (t : ByteArray) : (Lib.splitB ⟨#[10]⟩ 0 (Lib.countB t ⟨#[10]⟩) t).map (·.data.toList) = spl [] (t.data.toList ++ [10]) := by
  rw [Lib.splitB_data, spl_split, onHead_nil]
  congr 1
  exact Lib.count_one 10 t.data.toList

/-! ### strings.Split at a newline -/
theorem woSplitN (s : ByteArray) (w : World) (hs : s.size < 4294967281) : Calls Tryz.prog 29 #[.string s, .string ⟨#[10]⟩] w fun e w' =>
    e = .returned (.slice (some ⟨w.heap.size, 0, none⟩) (Lib.countB s ⟨#[10]⟩ + 1) (Lib.countB s ⟨#[10]⟩ + 1)) ∧ w' = w.alloc (.cells ((Lib.splitB ⟨#[10]⟩ 0 (Lib.countB s ⟨#[10]⟩) s).map Value.string).toArray 9) := by
  have h1 : 1 ≤ (⟨#[10]⟩ : ByteArray).size := by decide
  have hle := Lib.countB_le ⟨#[10]⟩ h1 s.size s (Nat.le_refl _)
  have hlen := Lib.splitB_all ⟨#[10]⟩ h1 0 _ s rfl
  have c : Calls Tryz.prog 39 #[.string s, .string ⟨#[10]⟩, .int .i64 (0 : Nat), .int .i64 (-1)] w fun e w' =>
      e = .returned (.slice (some ⟨w.heap.size, 0, none⟩) (Lib.splitB ⟨#[10]⟩ 0 (Lib.countB s ⟨#[10]⟩ + 1 - 1) s).length (Lib.countB s ⟨#[10]⟩ + 1)) ∧ w' = w.alloc (.cells (Lib.cellsOf (Lib.splitB ⟨#[10]⟩ 0 (Lib.countB s ⟨#[10]⟩ + 1 - 1) s) (Lib.countB s ⟨#[10]⟩ + 1)) 9) :=
    Any.strings_genSplit_core Tryz.lays221 (by kernel_rfl) s ⟨#[10]⟩ 0 (-1) (Lib.countB s ⟨#[10]⟩ + 1) w hs h1 (Nat.zero_le _)
      (fun x c hx => (Tryz.strings_Index_one x 10 _).mono (fun e w' h => ⟨by rw [h.1]; show _ = Ending.returned (Value.int .i64 (Lib.index x.data.toList [10])); rw [Lib.index_one], h.2⟩))
      ((Tryz.strings_Count_one s 10 w).mono (fun e w' h => ⟨by rw [h.1]; show _ = Ending.returned (Value.int .i64 ((Lib.count s.data.toList [10] : Nat) : Int)); rw [Lib.count_one]; rfl, h.2⟩))
      (by decide) (by decide) (by rw [if_pos (by decide)]; omega)
  rw [Nat.add_sub_cancel, hlen] at c
  have e2 : Lib.cellsOf (Lib.splitB ⟨#[10]⟩ 0 (Lib.countB s ⟨#[10]⟩) s) (Lib.countB s ⟨#[10]⟩ + 1) = ((Lib.splitB ⟨#[10]⟩ 0 (Lib.countB s ⟨#[10]⟩) s).map Value.string).toArray := by rw [← hlen]; exact Lib.cellsOf_full _
  rw [e2] at c
  go_enter Tryz.func29, Tryz.ntmps29
  go_wp2_with fail
  refine c.mono ?_; rintro e w' ⟨rfl, hw⟩; rw [hw]
  go_wp2_with fail
  go_ret
  exact ⟨rfl, rfl⟩
end Go.Proofs.YtidclkojekodpaaGreatDoor
