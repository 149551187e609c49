
/-
  Contracts of words: strings.Split at any one byte (a list's ',').
-/
import Derived.Test.YtfjdcfmoodlnaaaGreatDoorShelf
import Derived.Test.YtfjdcfmoodlnaaaGreatDoorOwn
import Derived.Lib.SplitLaws
namespace Go.Proofs.YtfjdcfmoodlnaaaGreatDoor
open Go.RowKit
set_option linter.unusedSimpArgs false
set_option linter.unusedVariables false
set_option maxRecDepth 100000

/-! ### Plain: the pieces between the instances of a byte -/
def pcs (c : UInt8) : List UInt8 → List UInt8 → List (List UInt8)
  | cur, [] => [cur]
  | cur, d :: r => if d = c then cur :: pcs c [] r else pcs c (cur ++ [d]) r
def onHd (cur : List UInt8) : List (List UInt8) → List (List UInt8)
  | [] => []
  | h :: t => (cur ++ h) :: t
theorem onHd_nil : ∀ X, onHd [] X = X
  | [] => rfl
  | _ :: _ => rfl
theorem onHd_app (a b : List UInt8) : ∀ X, onHd (a ++ b) X = onHd a (onHd b X)
  | [] => rfl
  | _ :: _ => by simp [onHd]
theorem splitC_ne {b c : UInt8} (h : c ≠ b) (k : Nat) (s : List UInt8) : Lib.splitK [b] 0 k (c :: s) = onHd [c] (Lib.splitK [b] 0 k s) := by
  match k with
  | 0 => rfl
  | k + 1 =>
    have hp : ([b] : List UInt8).isPrefixOf (c :: s) = false := by simp [List.isPrefixOf]; exact fun e => h e.symm
    have hix : Lib.index (c :: s) [b] = if Lib.index s [b] == -1 then -1 else Lib.index s [b] + 1 := by rw [Lib.index, hp]; simp
    have hge := Lib.index_ge s [b]
    unfold Lib.splitK
    rw [hix]
    by_cases hm : Lib.index s [b] = -1
    · simp [hm, onHd]
    · obtain ⟨j, hj⟩ : ∃ j : Nat, Lib.index s [b] = j := ⟨(Lib.index s [b]).toNat, by omega⟩
      rw [hj]
      have e1 : ((j : Int) == -1) = false := by rw [beq_eq_false_iff_ne]; omega
      have e2 : ((j : Int) + 1 == -1) = false := by rw [beq_eq_false_iff_ne]; omega
      have e3 : ((j : Int) + 1).toNat = j + 1 := by omega
      simp [e1, e2, e3, onHd]
theorem splitC_eq (b : UInt8) (k : Nat) (s : List UInt8) : Lib.splitK [b] 0 (k + 1) (b :: s) = [] :: Lib.splitK [b] 0 k s := by
  have hix : Lib.index (b :: s) [b] = ((0 : Nat) : Int) := by rw [Lib.index]; simp [List.isPrefixOf]
  rw [Lib.splitK, hix]
  simp
theorem pcs_split (b : UInt8) : ∀ (s cur : List UInt8), pcs b cur s = onHd cur (Lib.splitK [b] 0 (s.count b) s)
  | [], cur => by simp [pcs, Lib.splitK, onHd]
  | c :: s, cur => by
    by_cases h : c = b
    · subst h
      rw [List.count_cons_self, splitC_eq, pcs, if_pos rfl, pcs_split c s [], onHd_nil]
      simp [onHd]
    · rw [List.count_cons_of_ne (by simpa using h), splitC_ne h, pcs, if_neg h, pcs_split b s (cur ++ [c]), onHd_app]
theorem splitB_pcs (b : UInt8) (t : ByteArray) : (Lib.splitB ⟨#[b]⟩ 0 (Lib.countB t ⟨#[b]⟩) t).map (·.data.toList) = pcs b [] t.data.toList := by
  rw [Lib.splitB_data, pcs_split, onHd_nil]
  congr 1
  exact Lib.count_one b t.data.toList

/-! ### strings.Split at a byte -/
theorem woSplitC (b : UInt8) (s : ByteArray) (w : World) (hs : s.size < 4294967281) : Calls Tryz.prog 27 #[.string s, .string ⟨#[b]⟩] w fun e w' =>
    e = .returned (.slice (some ⟨w.heap.size, 0, none⟩) (Lib.countB s ⟨#[b]⟩ + 1) (Lib.countB s ⟨#[b]⟩ + 1)) ∧ w' = w.alloc (.cells ((Lib.splitB ⟨#[b]⟩ 0 (Lib.countB s ⟨#[b]⟩) s).map Value.string).toArray 9) := by
  have h1 : 1 ≤ (⟨#[b]⟩ : ByteArray).size := Nat.le_refl 1
  have hle := Lib.countB_le ⟨#[b]⟩ h1 s.size s (Nat.le_refl _)
  have hlen := Lib.splitB_all ⟨#[b]⟩ h1 0 _ s rfl
  have c : Calls Tryz.prog 49 #[.string s, .string ⟨#[b]⟩, .int .i64 (0 : Nat), .int .i64 (-1)] w fun e w' =>
      e = .returned (.slice (some ⟨w.heap.size, 0, none⟩) (Lib.splitB ⟨#[b]⟩ 0 (Lib.countB s ⟨#[b]⟩ + 1 - 1) s).length (Lib.countB s ⟨#[b]⟩ + 1)) ∧ w' = w.alloc (.cells (Lib.cellsOf (Lib.splitB ⟨#[b]⟩ 0 (Lib.countB s ⟨#[b]⟩ + 1 - 1) s) (Lib.countB s ⟨#[b]⟩ + 1)) 9) :=
    Any.strings_genSplit_core Tryz.lays221 (by kernel_rfl) s ⟨#[b]⟩ 0 (-1) (Lib.countB s ⟨#[b]⟩ + 1) w hs h1 (Nat.zero_le _)
      (fun x c hx => (Tryz.strings_Index_one x b _).mono (fun e w' h => ⟨by rw [h.1]; show _ = Ending.returned (Value.int .i64 (Lib.index x.data.toList [b])); rw [Lib.index_one], h.2⟩))
      ((Tryz.strings_Count_one s b w).mono (fun e w' h => ⟨by rw [h.1]; show _ = Ending.returned (Value.int .i64 ((Lib.count s.data.toList [b] : Nat) : Int)); rw [Lib.count_one]; rfl, h.2⟩))
      (by decide) (by decide) (by rw [if_pos (by decide)]; omega)
  rw [Nat.add_sub_cancel, hlen] at c
  have e2 : Lib.cellsOf (Lib.splitB ⟨#[b]⟩ 0 (Lib.countB s ⟨#[b]⟩) s) (Lib.countB s ⟨#[b]⟩ + 1) = ((Lib.splitB ⟨#[b]⟩ 0 (Lib.countB s ⟨#[b]⟩) s).map Value.string).toArray := by rw [← hlen]; exact Lib.cellsOf_full _
  rw [e2] at c
  go_enter Tryz.func27, Tryz.ntmps27
  go_wp2_with fail
  refine c.mono ?_; rintro e w' ⟨rfl, hw⟩; rw [hw]
  go_wp2_with fail
  go_ret
  exact ⟨rfl, rfl⟩
end Go.Proofs.YtfjdcfmoodlnaaaGreatDoor
