/-
  Own texts laid together: WlA EsU RtP WlB EtE WlC EtF Two RtA RtB RtC RtD RtE WoU Open.
-/
import Derived.Test.YtkbfjficmdgjpaaGreatDoorShelf
import Derived.Test.YtkbfjficmdgjpaaGreatDoorOwn
import Derived.Lib.SplitLaws
import Derived.Test.YtkbfjficmdgjpaaGreatDoorEtL
import Derived.Test.YtkbfjficmdgjpaaGreatDoorEsT
import Derived.Test.YtkbfjficmdgjpaaGreatDoorWdQ
import Derived.Test.YtkbfjficmdgjpaaGreatDoorZB
import Derived.Test.YtkbfjficmdgjpaaGreatDoorWoI
import Derived.Test.YtkbfjficmdgjpaaGreatDoorEtD
import Derived.Maps.AppendAt
import Derived.Laws.AppendOwn
import Derived.Test.YtkbfjficmdgjpaaGreatDoorEtC
import Derived.Test.YtkbfjficmdgjpaaGreatDoorMem
import Derived.RangeFuncRecord
import Derived.Deep.DeepCutAuto
import Derived.Test.YtkbfjficmdgjpaaGreatDoorWoL
import Derived.Test.YtkbfjficmdgjpaaGreatDoorRows
import Derived.Lib.LaidU8
import Derived.Lay
import Derived.Test.YtkbfjficmdgjpaaGreatDoorLib
import Derived.ProofKit
import Derived.OpenShut
import Derived.ShutString
import Derived.ChangeOld
import Derived.Deep.Slices
import Derived.Deep.Fields
import Derived.Lib.SmallJoins
import Derived.SliceStrings
/-
  Contracts of words: lines. strings.Split at a newline; what the pieces are, plain.
-/
namespace Go.Proofs.YtkbfjficmdgjpaaGreatDoor
open Go.RowKit
set_option linter.unusedSimpArgs false
set_option linter.unusedVariables false
set_option maxRecDepth 100000

/-! ### Plain: the pieces that end with a newline -/
def spl : List UInt8 → List UInt8 → List (List UInt8)
  | _, [] => []
  | cur, c :: r => if c = 10 then cur :: spl [] r else spl (cur ++ [c]) r
def onHead (cur : List UInt8) : List (List UInt8) → List (List UInt8)
  | [] => []
  | h :: t => (cur ++ h) :: t
theorem onHead_nil : ∀ X, onHead [] X = X
  | [] => rfl
  | _ :: _ => rfl
theorem onHead_app (a b : List UInt8) : ∀ X, onHead (a ++ b) X = onHead a (onHead b X)
  | [] => rfl
  | _ :: _ => by simp [onHead]
theorem splitK_ne {c : UInt8} (h : c ≠ 10) (k : Nat) (s : List UInt8) : Lib.splitK [10] 0 k (c :: s) = onHead [c] (Lib.splitK [10] 0 k s) := by
  match k with
  | 0 => rfl
  | k + 1 =>
    have hp : ([10] : List UInt8).isPrefixOf (c :: s) = false := by simp [List.isPrefixOf]; exact fun e => h e.symm
    have hix : Lib.index (c :: s) [10] = if Lib.index s [10] == -1 then -1 else Lib.index s [10] + 1 := by rw [Lib.index, hp]; simp
    have hge := Lib.index_ge s [10]
    unfold Lib.splitK
    rw [hix]
    by_cases hm : Lib.index s [10] = -1
    · simp [hm, onHead]
    · obtain ⟨j, hj⟩ : ∃ j : Nat, Lib.index s [10] = j := ⟨(Lib.index s [10]).toNat, by omega⟩
      rw [hj]
      have e1 : ((j : Int) == -1) = false := by rw [beq_eq_false_iff_ne]; omega
      have e2 : ((j : Int) + 1 == -1) = false := by rw [beq_eq_false_iff_ne]; omega
      have e3 : ((j : Int) + 1).toNat = j + 1 := by omega
      simp [e1, e2, e3, onHead]
theorem splitK_eq (k : Nat) (s : List UInt8) : Lib.splitK [10] 0 (k + 1) (10 :: s) = [] :: Lib.splitK [10] 0 k s := by
  have hix : Lib.index (10 :: s) [10] = ((0 : Nat) : Int) := by rw [Lib.index]; simp [List.isPrefixOf]
  rw [Lib.splitK, hix]
  simp
theorem spl_split : ∀ (s cur : List UInt8), spl cur (s ++ [10]) = onHead cur (Lib.splitK [10] 0 (s.count 10) s)
  | [], cur => by simp [spl, Lib.splitK, onHead]
  | c :: s, cur => by
    by_cases h : c = 10
    · subst h
      rw [List.count_cons_self, splitK_eq, List.cons_append, spl, if_pos rfl, spl_split s [], onHead_nil]
      simp [onHead]
    · rw [List.count_cons_of_ne (by simpa using h), splitK_ne h, List.cons_append, spl, if_neg h, spl_split s (cur ++ [c]), onHead_app]
theorem splitB_spl (t : ByteArray) : (Lib.splitB ⟨#[10]⟩ 0 (Lib.countB t ⟨#[10]⟩) t).map (·.data.toList) = spl [] (t.data.toList ++ [10]) := by
  rw [Lib.splitB_data, spl_split, onHead_nil]
  congr 1
  exact Lib.count_one 10 t.data.toList

/-! ### strings.Split at a newline -/
theorem woSplitN (s : ByteArray) (w : World) (hs : s.size < 4294967281) : Calls Tryz.prog 49 #[.string s, .string ⟨#[10]⟩] w fun e w' =>
    e = .returned (.slice (some ⟨w.heap.size, 0, none⟩) (Lib.countB s ⟨#[10]⟩ + 1) (Lib.countB s ⟨#[10]⟩ + 1)) ∧ w' = w.alloc (.cells ((Lib.splitB ⟨#[10]⟩ 0 (Lib.countB s ⟨#[10]⟩) s).map Value.string).toArray 9) := by
  have h1 : 1 ≤ (⟨#[10]⟩ : ByteArray).size := by decide
  have hle := Lib.countB_le ⟨#[10]⟩ h1 s.size s (Nat.le_refl _)
  have hlen := Lib.splitB_all ⟨#[10]⟩ h1 0 _ s rfl
  have c : Calls Tryz.prog 74 #[.string s, .string ⟨#[10]⟩, .int .i64 (0 : Nat), .int .i64 (-1)] w fun e w' =>
      e = .returned (.slice (some ⟨w.heap.size, 0, none⟩) (Lib.splitB ⟨#[10]⟩ 0 (Lib.countB s ⟨#[10]⟩ + 1 - 1) s).length (Lib.countB s ⟨#[10]⟩ + 1)) ∧ w' = w.alloc (.cells (Lib.cellsOf (Lib.splitB ⟨#[10]⟩ 0 (Lib.countB s ⟨#[10]⟩ + 1 - 1) s) (Lib.countB s ⟨#[10]⟩ + 1)) 9) :=
    Any.strings_genSplit_core Tryz.lays221 (by kernel_rfl) s ⟨#[10]⟩ 0 (-1) (Lib.countB s ⟨#[10]⟩ + 1) w hs h1 (Nat.zero_le _)
      (fun x c hx => (Tryz.strings_Index_one x 10 _).mono (fun e w' h => ⟨by rw [h.1]; show _ = Ending.returned (Value.int .i64 (Lib.index x.data.toList [10])); rw [Lib.index_one], h.2⟩))
      ((Tryz.strings_Count_one s 10 w).mono (fun e w' h => ⟨by rw [h.1]; show _ = Ending.returned (Value.int .i64 ((Lib.count s.data.toList [10] : Nat) : Int)); rw [Lib.count_one]; rfl, h.2⟩))
      (by decide) (by decide) (by rw [if_pos (by decide)]; omega)
  rw [Nat.add_sub_cancel, hlen] at c
  have e2 : Lib.cellsOf (Lib.splitB ⟨#[10]⟩ 0 (Lib.countB s ⟨#[10]⟩) s) (Lib.countB s ⟨#[10]⟩ + 1) = ((Lib.splitB ⟨#[10]⟩ 0 (Lib.countB s ⟨#[10]⟩) s).map Value.string).toArray := by rw [← hlen]; exact Lib.cellsOf_full _
  rw [e2] at c
  go_enter Tryz.func49, Tryz.ntmps49
  go_wp2_with fail
  refine c.mono ?_; rintro e w' ⟨rfl, hw⟩; rw [hw]
  go_wp2_with fail
  go_ret
  exact ⟨rfl, rfl⟩
end Go.Proofs.YtkbfjficmdgjpaaGreatDoor
/-
  Plain facts of entries: texts of lists; Print and Parse are inverse tox each other.
-/
namespace Go.Proofs.YtkbfjficmdgjpaaGreatDoor
set_option linter.unusedSimpArgs false
set_option linter.unusedVariables false
open Lib

/-! ### Lines joined -/
def joinL (l : List (List UInt8)) : List UInt8 := l.flatMap (· ++ [10])
theorem spl_no : ∀ (s cur r : List UInt8), (∀ c ∈ s, c ≠ 10) → spl cur (s ++ 10 :: r) = (cur ++ s) :: spl [] r
  | [], cur, r, _ => by simp [spl]
  | c :: s, cur, r, h => by
    rw [List.cons_append, spl, if_neg (h c (by simp)), spl_no s _ r (fun d hd => h d (by simp [hd]))]; simp
theorem spl_joinL : ∀ (l : List (List UInt8)), (∀ x ∈ l, ∀ c ∈ x, c ≠ 10) → spl [] (joinL l) = l
  | [], _ => rfl
  | x :: l, h => by
    have ih := spl_joinL l (fun y hy => h y (by simp [hy]))
    have e : joinL (x :: l) = x ++ 10 :: joinL l := by simp [joinL]
    rw [e, spl_no _ _ _ (h x (by simp)), ih]; rfl
theorem joinL_spl : ∀ (s cur : List UInt8), joinL (spl cur (s ++ [10])) = cur ++ s ++ [10]
  | [], cur => by simp [spl, joinL]
  | c :: s, cur => by
    by_cases h : c = 10
    · subst h
      have ih := joinL_spl s []
      rw [List.cons_append, spl, if_pos rfl]
      unfold joinL at ih ⊢
      rw [List.flatMap_cons, ih]; simp
    · rw [List.cons_append, spl, if_neg h, joinL_spl s]; simp
theorem spl_cnt : ∀ (s cur : List UInt8), (spl cur s).length = s.count 10
  | [], cur => by simp [spl]
  | c :: s, cur => by
    by_cases h : c = 10
    · subst h
      rw [spl, if_pos rfl, List.length_cons, spl_cnt s, List.count_cons_self]
    · rw [spl, if_neg h, spl_cnt s, List.count_cons_of_ne (by simpa using h)]
/-! ### A line of an entry -/
def lineN (x : Ent) : List UInt8 := lhdE x ++ 32 :: itoa x.seq
theorem lineE_N (x : Ent) : lineE x = lineN x ++ [10] := by unfold lineE lineN ltlE; simp
theorem linesE_join (l : List Ent) : linesE l = joinL (l.map lineN) := by
  unfold linesE joinL
  rw [List.flatMap_map]
  congr 1
  funext x
  exact lineE_N x
theorem esc_no10 : ∀ c : UInt8, ∀ d ∈ escW c, d ≠ 10 := byte_all (by decide +kernel)
theorem quote_no10 (l : List UInt8) : ∀ d ∈ quoteW l, d ≠ 10 := by
  intro d hd
  unfold quoteW at hd
  rcases List.mem_cons.1 hd with rfl | hd
  · decide
  · rcases List.mem_append.1 hd with hd | hd
    · obtain ⟨c, _, hc⟩ := List.mem_flatMap.1 hd
      exact esc_no10 c d hc
    · rcases List.mem_singleton.1 hd with rfl; decide
theorem dec_no10 {l : List UInt8} (h : isDec l = true) : ∀ d ∈ l, d ≠ 10 := by
  intro d hd e
  subst e
  have := isDec_no (l := l) ⟨10, hd, by decide, by decide⟩
  rw [this] at h; cases h
theorem lhdE_no10 (x : Ent) : ∀ d ∈ lhdE x, d ≠ 10 := by
  intro d hd
  unfold lhdE at hd
  split at hd
  · rcases List.mem_append.1 hd with hd | hd
    · simp at hd; rcases hd with rfl | rfl | rfl | rfl <;> decide
    · exact quote_no10 _ d hd
  · rcases List.mem_append.1 hd with hd | hd
    · rcases List.mem_append.1 hd with hd | hd
      · rcases List.mem_append.1 hd with hd | hd
        · simp at hd; rcases hd with rfl | rfl | rfl | rfl <;> decide
        · exact quote_no10 _ d hd
      · rcases List.mem_singleton.1 hd with rfl; decide
    · exact quote_no10 _ d hd
theorem lineN_no10 (x : Ent) : ∀ d ∈ lineN x, d ≠ 10 := by
  intro d hd
  unfold lineN at hd
  rcases List.mem_append.1 hd with hd | hd
  · exact lhdE_no10 x d hd
  · rcases List.mem_cons.1 hd with rfl | hd
    · decide
    · exact dec_no10 (itoa_facts x.seq).1 d hd
theorem wint_itoa (n : Int) (h1 : 1 ≤ n) (h2 : n ≤ 1000000000) : wint (itoa n) 1 1000000000 = (n, 0) := by
  obtain ⟨a, b⟩ := itoa_facts n
  unfold wint
  rw [if_pos a, b, if_pos]
  unfold inI64
  simp only [Bool.and_eq_true, decide_eq_true_eq]; omega
theorem str_of (s : ByteArray) : (⟨s.data.toList.toArray⟩ : ByteArray) = s := by cases s; simp
theorem pfin_of {x : Ent} (h : echk x = 0) : pfin x.dead x.key.data.toList x.val.data.toList (itoa x.seq) = (x, 0) := by
  obtain ⟨_, _, _, h4, h5⟩ := echk_ok h
  have e : (⟨⟨x.key.data.toList.toArray⟩, ⟨x.val.data.toList.toArray⟩, x.dead, x.seq⟩ : Ent) = x := by rw [str_of, str_of]
  unfold pfin
  rw [wint_itoa _ h4 h5]
  simp only [e, h]
  simp
theorem pone_line {x : Ent} (h : echk x = 0) : pone (lineN x) = (x, 0) := by
  obtain ⟨_, _, h3, h4, h5⟩ := echk_ok h
  cases hd : x.dead with
  | true =>
    have hv : x.val.data.toList = [] := by
      have := h3 hd
      rw [Lib.size_eq] at this
      exact List.length_eq_zero_iff.1 this
    have e : lineN x = delW ++ [32] ++ (quoteW x.key.data.toList ++ 32 :: itoa x.seq) := by
      unfold lineN lhdE; rw [hd]; simp [delW]
    have t4 : (lineN x).take 4 = delW ++ [32] := by rw [e]; rfl
    have d4 : (lineN x).drop 4 = quoteW x.key.data.toList ++ 32 :: itoa x.seq := by rw [e]; rfl
    unfold pone
    rw [if_neg (by rw [t4]; decide), if_pos t4, d4, unq1_quote]
    simp only
    rw [List.drop_left, pnum_cons, if_pos rfl]
    have := pfin_of h
    rw [hd, hv] at this; exact this
  | false =>
    have e : lineN x = putW ++ [32] ++ (quoteW x.key.data.toList ++ 32 :: (quoteW x.val.data.toList ++ 32 :: itoa x.seq)) := by
      unfold lineN lhdE; rw [hd]; simp [putW]
    have t4 : (lineN x).take 4 = putW ++ [32] := by rw [e]; rfl
    have d4 : (lineN x).drop 4 = quoteW x.key.data.toList ++ 32 :: (quoteW x.val.data.toList ++ 32 :: itoa x.seq) := by rw [e]; rfl
    unfold pone
    rw [if_pos t4, d4, unq1_quote]
    simp only
    rw [List.drop_left, pval_cons, if_pos rfl, unq1_quote]
    simp only
    rw [List.drop_left, pnum_cons, if_pos rfl]
    have := pfin_of h
    rw [hd] at this; exact this
theorem pfin_back {dead : Bool} {key val num : List UInt8} {x : Ent} (h : pfin dead key val num = (x, 0)) : echk x = 0 ∧ x.dead = dead ∧ x.key.data.toList = key ∧ x.val.data.toList = val ∧ num = itoa x.seq := by
  unfold pfin at h
  split at h
  · injection h with _ h; cases h
  · rename_i h1
    split at h
    · rename_i h2; injection h with _ h; exact absurd h h2
    · rename_i h2
      injection h with h _
      have h2' : echk x = 0 := by rw [← h]; omega
      have hs := (echk_ok h2').2.2.2
      have hseq : x.seq = (wint num 1 1000000000).1 := by rw [← h]
      refine ⟨h2', by rw [← h], by rw [← h], by rw [← h], ?_⟩
      unfold wint at h1 hseq
      by_cases hd : isDec num = true
      · rw [if_pos hd] at hseq
        split at hseq
        · simp only at hseq
          rw [hseq, itoa_intV hd]
        · simp only at hseq; omega
      · rw [if_neg hd] at h1; exact absurd rfl h1
theorem pnum_back {dead : Bool} {key val r : List UInt8} {x : Ent} (h : pnum dead key val r = (x, 0)) : ∃ num, r = 32 :: num ∧ pfin dead key val num = (x, 0) := by
  match r with
  | [] => cases h
  | c :: r =>
    rw [pnum_cons] at h
    split at h
    · rename_i e; exact ⟨r, by rw [e], h⟩
    · cases h
theorem pone_back {s : List UInt8} {x : Ent} (h : pone s = (x, 0)) : s = lineN x ∧ echk x = 0 := by
  unfold pone at h
  split at h
  · rename_i t4
    have hs : s = putW ++ [32] ++ s.drop 4 := by rw [← t4, List.take_append_drop]
    split at h
    · rename_i k n hu
      obtain ⟨e1, _⟩ := unq1_inv hu
      generalize (s.drop 4).drop n = r at h e1
      match r with
      | [] => cases h
      | c :: r =>
        rw [pval_cons] at h
        split at h
        · rename_i ec
          split at h
          · rename_i v m hv
            obtain ⟨e2, _⟩ := unq1_inv hv
            obtain ⟨num, e3, e4⟩ := pnum_back h
            obtain ⟨a, b, c1, d, e⟩ := pfin_back e4
            refine ⟨?_, a⟩
            rw [hs, e1, ec, e2, e3]
            unfold lineN lhdE
            rw [b, c1, d, e]; simp [putW]
          · cases h
        · cases h
    · cases h
  · split at h
    · rename_i _ t4
      have hs : s = delW ++ [32] ++ s.drop 4 := by rw [← t4, List.take_append_drop]
      split at h
      · rename_i k n hu
        obtain ⟨e1, _⟩ := unq1_inv hu
        obtain ⟨num, e3, e4⟩ := pnum_back h
        obtain ⟨a, b, c1, d, e⟩ := pfin_back e4
        refine ⟨?_, a⟩
        rw [hs, e1, e3]
        unfold lineN lhdE
        rw [b, c1, e]; simp [delW]
      · cases h
    · cases h
/-! ### A text -/
def epgo : Nat → List Ent → List (List UInt8) → List Ent × Int × Int
  | _, acc, [] => (acc, 0, 0)
  | i, acc, s :: r => if (pone s).2 ≠ 0 then ([], ((i + 1 : Nat) : Int), (pone s).2) else epgo (i + 1) (acc ++ [(pone s).1]) r
def eparse (t : List UInt8) : List Ent × Int × Int :=
  if 1048576 < t.length ∨ 5000 < t.count 10 then ([], 0, 3) else if t = [] then ([], 0, 0) else if t.getLast? ≠ some 10 then ([], 0, 6) else epgo 0 [] (spl [] t)
theorem epgo_lines : ∀ (l : List Ent) (i : Nat) (acc : List Ent), (∀ x ∈ l, echk x = 0) → epgo i acc (l.map lineN) = (acc ++ l, 0, 0)
  | [], i, acc, _ => by simp [epgo]
  | x :: l, i, acc, h => by
    rw [List.map_cons]
    unfold epgo
    rw [pone_line (h x (by simp))]
    simp only [ne_eq, not_true, if_false]
    rw [epgo_lines l _ _ (fun y hy => h y (by simp [hy]))]; simp
theorem epgo_back : ∀ (ls : List (List UInt8)) (i : Nat) (acc l : List Ent), epgo i acc ls = (l, 0, 0) → ∃ m, l = acc ++ m ∧ ls = m.map lineN ∧ ∀ x ∈ m, echk x = 0
  | [], i, acc, l, h => by
    unfold epgo at h; injection h with h _
    exact ⟨[], by simp [h], rfl, by simp⟩
  | s :: r, i, acc, l, h => by
    unfold epgo at h
    split at h
    · rename_i e; injection h with _ h; injection h with _ h; exact absurd h e
    · rename_i e
      obtain ⟨m, h1, h2, h3⟩ := epgo_back r _ _ _ h
      have hp : pone s = ((pone s).1, 0) := by
        have : (pone s).2 = 0 := by omega
        rw [← this]
      obtain ⟨b1, b2⟩ := pone_back hp
      refine ⟨(pone s).1 :: m, by rw [h1]; simp, by rw [List.map_cons, ← b1, ← h2], fun x hx => ?_⟩
      rcases List.mem_cons.1 hx with rfl | hx
      · exact b2
      · exact h3 x hx
theorem joinL_last : ∀ (l : List (List UInt8)), l ≠ [] → (joinL l).getLast? = some 10
  | [], h => absurd rfl h
  | [x], _ => by simp [joinL]
  | x :: y :: l, _ => by
    have ih := joinL_last (y :: l) (by simp)
    have e : joinL (x :: y :: l) = x ++ [10] ++ joinL (y :: l) := by simp [joinL]
    rw [e, List.getLast?_append, ih]; rfl
theorem eparse_print {l : List Ent} (h : (eprint l).2 = 0) : eparse (eprint l).1 = (l, 0, 0) := by
  unfold eprint at h ⊢
  by_cases h1 : 5000 < l.length
  · rw [if_pos h1] at h; cases h
  · rw [if_neg h1] at h ⊢
    by_cases h2 : eall l ≠ 0
    · rw [if_pos h2] at h; exact absurd h h2
    · rw [if_neg h2] at h ⊢
      by_cases h3 : 1048576 < (linesE l).length
      · rw [if_pos h3] at h; cases h
      · rw [if_neg h3]
        have ok := eall_ok (l := l) (by omega)
        have no : ∀ x ∈ l.map lineN, ∀ c ∈ x, c ≠ 10 := by
          intro x hx c hc
          obtain ⟨y, _, rfl⟩ := List.mem_map.1 hx
          exact lineN_no10 y c hc
        have hsp : spl [] (linesE l) = l.map lineN := by rw [linesE_join, spl_joinL _ no]
        have hct : (linesE l).count 10 = l.length := by rw [← spl_cnt _ [], hsp]; simp
        unfold eparse
        simp only
        rw [if_neg (by omega)]
        cases l with
        | nil => rfl
        | cons x l =>
          have hl : (linesE (x :: l)).getLast? = some 10 := by rw [linesE_join]; exact joinL_last _ (by simp)
          rw [if_neg (by intro e; rw [e] at hl; cases hl), if_neg (by rw [hl]; simp), hsp, epgo_lines _ _ _ ok]; simp
theorem eprint_parse {t : List UInt8} (h : (eparse t).2.2 = 0) : eprint (eparse t).1 = (t, 0) := by
  unfold eparse at h ⊢
  by_cases h1 : 1048576 < t.length ∨ 5000 < t.count 10
  · rw [if_pos h1] at h; cases h
  · rw [if_neg h1] at h ⊢
    by_cases h2 : t = []
    · rw [if_pos h2]; subst h2; rfl
    · rw [if_neg h2] at h ⊢
      by_cases h3 : t.getLast? ≠ some 10
      · rw [if_pos h3] at h; cases h
      · rw [if_neg h3] at h ⊢
        have h3' : t.getLast? = some 10 := Decidable.byContradiction h3
        have ht : t = t.dropLast ++ [10] := by
          rcases List.eq_nil_or_concat t with e | ⟨a, b, e⟩
          · exact absurd e h2
          · rw [List.concat_eq_append] at e
            rw [e] at h3' ⊢
            simp at h3'; subst h3'; simp
        have hj : joinL (spl [] t) = t := by
          conv => lhs; rw [ht]
          rw [joinL_spl]; simp [← ht]
        have hlen := spl_cnt t []
        generalize hR : epgo 0 [] (spl [] t) = R at h ⊢
        obtain ⟨l, a, b⟩ := R
        have hz : ∀ (ls : List (List UInt8)) (i : Nat) (acc : List Ent) (l : List Ent) (a b : Int), epgo i acc ls = (l, a, b) → b = 0 → a = 0 := by
          intro ls
          induction ls with
          | nil => intro i acc l a b h _; unfold epgo at h; injection h with _ h; injection h with h _; exact h.symm
          | cons s r ih =>
            intro i acc l a b h hb
            unfold epgo at h
            split at h
            · rename_i e; injection h with _ h; injection h with _ h; omega
            · exact ih _ _ _ _ _ h hb
        have hb : b = 0 := h
        have ha := hz _ _ _ _ _ _ hR hb
        subst hb ha
        obtain ⟨m, e1, e2, e3⟩ := epgo_back _ _ _ _ hR
        rw [List.nil_append] at e1
        subst e1
        have hlt : linesE l = t := by rw [linesE_join, ← e2, hj]
        have hlm : l.length = t.count 10 := by rw [← hlen, e2]; simp
        unfold eprint
        simp only
        rw [if_neg (by omega), if_neg (by have := (eall_iff l).2 e3; omega), hlt, if_neg (by omega)]
end Go.Proofs.YtkbfjficmdgjpaaGreatDoor
/-
  Plain facts of runs: texts; Print and Parse are inverse tox each other.
-/
namespace Go.Proofs.YtkbfjficmdgjpaaGreatDoor
set_option linter.unusedSimpArgs false
set_option linter.unusedVariables false

def rnil : Rn := ⟨0, []⟩
def runW : List UInt8 := [114, 117, 110, 32]
def rline (n : Int) : Int := if 0 < n then n + 1 else n
def rparse (t : List UInt8) : Rn × Int × Int :=
  if 1048576 < t.length then (rnil, 0, 3)
  else if (cutL 10 t).2.2 = false ∨ (cutL 10 t).1.take 4 ≠ runW then (rnil, 1, 6)
  else if (wint ((cutL 10 t).1.drop 4) 1 1000000).2 ≠ 0 then (rnil, 1, (wint ((cutL 10 t).1.drop 4) 1 1000000).2)
  else if (eparse (cutL 10 t).2.1).2.2 ≠ 0 then (rnil, rline (eparse (cutL 10 t).2.1).2.1, (eparse (cutL 10 t).2.1).2.2)
  else if (rck ⟨(wint ((cutL 10 t).1.drop 4) 1 1000000).1, (eparse (cutL 10 t).2.1).1⟩).2 ≠ 0 then
    (rnil, (rck ⟨(wint ((cutL 10 t).1.drop 4) 1 1000000).1, (eparse (cutL 10 t).2.1).1⟩).1 + 2, (rck ⟨(wint ((cutL 10 t).1.drop 4) 1 1000000).1, (eparse (cutL 10 t).2.1).1⟩).2)
  else (⟨(wint ((cutL 10 t).1.drop 4) 1 1000000).1, (eparse (cutL 10 t).2.1).1⟩, 0, 0)
theorem cut_at {a b : List UInt8} (h : ∀ c ∈ a, c ≠ 10) : cutL 10 (a ++ 10 :: b) = (a, b, true) := by
  have h1 : (a ++ 10 :: b).takeWhile (fun x => x != 10) = a := by
    induction a with
    | nil => simp
    | cons c a ih =>
      rw [List.cons_append, List.takeWhile_cons, if_pos (by simpa using h c (by simp)), ih (fun d hd => h d (by simp [hd]))]
  have h2 : (a ++ 10 :: b).dropWhile (fun x => x != 10) = 10 :: b := by
    induction a with
    | nil => simp
    | cons c a ih =>
      rw [List.cons_append, List.dropWhile_cons, if_pos (by simpa using h c (by simp))]
      exact ih (fun d hd => h d (by simp [hd])) (by
        rw [List.cons_append, List.takeWhile_cons, if_pos (by simpa using h c (by simp))] at h1
        injection h1)
  unfold cutL
  rw [h1, h2]
  simp
theorem cut_whole {t : List UInt8} (h : (cutL 10 t).2.2 = true) : t = (cutL 10 t).1 ++ 10 :: (cutL 10 t).2.1 := by
  unfold cutL at h ⊢
  simp only at h ⊢
  have h1 := List.takeWhile_append_dropWhile (p := fun x => x != 10) (l := t)
  have h2 : t.dropWhile (fun x => x != 10) = 10 :: (t.dropWhile (fun x => x != 10)).drop 1 := by
    cases hd : t.dropWhile (fun x => x != 10) with
    | nil =>
      have := word_lt 10 t h
      have h3 := congrArg List.length h1
      rw [List.length_append, hd] at h3
      simp at h3; omega
    | cons c r =>
      have := dw_head (fun x => x != 10) t c r hd
      have hc : c = 10 := by simpa using this
      rw [hc]; rfl
  conv => lhs; rw [← h1, h2]
theorem head_no10 (n : Int) : ∀ c ∈ runW ++ Lib.itoa n, c ≠ 10 := by
  intro c hc
  rcases List.mem_append.1 hc with hc | hc
  · have h : ∀ d ∈ runW, d ≠ 10 := by decide
    exact h c hc
  · exact dec_no10 (itoa_facts n).1 c hc
theorem rhead_cut (n : Int) (t : List UInt8) : rheadB n ++ t = (runW ++ Lib.itoa n) ++ 10 :: t := by unfold rheadB runW; simp
theorem rprint_ok {r : Rn} {t : List UInt8} (h : rprint r = (t, 0)) : (rck r).2 = 0 ∧ (eprint r.es).2 = 0 ∧ t = rheadB r.id ++ (eprint r.es).1 ∧ t.length ≤ 1048576 := by
  unfold rprint at h
  split at h
  · rename_i e; simp only [Prod.mk.injEq] at h; exact absurd h.2 e
  · split at h
    · rename_i e; simp only [Prod.mk.injEq] at h; exact absurd h.2 e
    · split at h
      · simp at h
      · rename_i a b c
        simp only [Prod.mk.injEq] at h
        obtain ⟨rfl, _⟩ := h
        exact ⟨by omega, by omega, rfl, by omega⟩
theorem wint_run {n : Int} (h0 : 1 ≤ n) (h1 : n ≤ 1000000) : wint (Lib.itoa n) 1 1000000 = (n, 0) := by
  obtain ⟨i1, i2⟩ := itoa_facts n
  unfold wint inI64
  rw [if_pos i1, i2, decide_eq_true h0, decide_eq_true h1, decide_eq_true (show -9223372036854775808 ≤ n by omega), decide_eq_true (show n ≤ 9223372036854775807 by omega)]
  rfl
theorem rck_id {r : Rn} (h : (rck r).2 = 0) : 1 ≤ r.id ∧ r.id ≤ 1000000 := by
  unfold rck at h
  split at h
  · cases h
  · omega
theorem rparse_print {r : Rn} {t : List UInt8} (h : rprint r = (t, 0)) : rparse t = (r, 0, 0) := by
  obtain ⟨h1, h2, rfl, h4⟩ := rprint_ok h
  have hid := rck_id h1
  have hc : cutL 10 (rheadB r.id ++ (eprint r.es).1) = (runW ++ Lib.itoa r.id, (eprint r.es).1, true) := by
    rw [rhead_cut]; exact cut_at (head_no10 r.id)
  have ht : (runW ++ Lib.itoa r.id).take 4 = runW := by simp [runW]
  have hd : (runW ++ Lib.itoa r.id).drop 4 = Lib.itoa r.id := by simp [runW]
  unfold rparse
  rw [if_neg (by omega), hc]
  simp only
  rw [if_neg (by simp [ht]), hd, wint_run hid.1 hid.2, eparse_print h2]
  simp only [ne_eq, not_true, if_false]
  rw [if_neg (by simp [h1])]
theorem dig_run {s : List UInt8} {k : Int} (h : wint s 1 1000000 = (k, 0)) : Lib.itoa k = s := by
  unfold wint at h
  split at h
  · rename_i hd
    split at h
    · injection h with h _
      subst h
      exact itoa_intV hd
    · injection h with _ h; cases h
  · injection h with _ h; cases h
theorem rprint_parse {t : List UInt8} {r : Rn} {n : Int} (h : rparse t = (r, n, 0)) : rprint r = (t, 0) ∧ n = 0 := by
  unfold rparse at h
  split at h
  · simp at h
  · rename_i hl
    split at h
    · simp at h
    · rename_i hp
      rw [not_or, ne_eq, Decidable.not_not] at hp
      split at h
      · rename_i e; simp only [Prod.mk.injEq] at h; exact absurd h.2.2 e
      · rename_i hw
        split at h
        · rename_i e; simp only [Prod.mk.injEq] at h; exact absurd h.2.2 e
        · rename_i he
          split at h
          · rename_i e; simp only [Prod.mk.injEq] at h; exact absurd h.2.2 e
          · rename_i hr
            simp only [Prod.mk.injEq] at h
            obtain ⟨rfl, rfl, _⟩ := h
            refine ⟨?_, rfl⟩
            have hcw := cut_whole (t := t) (by simpa using hp.1)
            generalize cutL 10 t = q at hcw hp hw he hr ⊢
            obtain ⟨first, rest, is⟩ := q
            simp only at hcw hp hw he hr ⊢
            have hz : (wint (first.drop 4) 1 1000000).2 = 0 := by omega
            obtain ⟨⟨k, e⟩, hk⟩ : ∃ z, wint (first.drop 4) 1 1000000 = z := ⟨_, rfl⟩
            rw [hk] at hz hr ⊢
            simp only at hz hr ⊢
            subst hz
            have hi := dig_run hk
            have hf : first = runW ++ Lib.itoa k := by rw [hi, ← hp.2, List.take_append_drop]
            have hep := eprint_parse (t := rest) (by omega)
            have hlen : t.length ≤ 1048576 := by omega
            have hcat : rheadB k ++ rest = t := by rw [rhead_cut, ← hf]; exact hcw.symm
            unfold rprint
            simp only
            rw [if_neg hr, hep]
            simp only [ne_eq, not_true, if_false]
            rw [hcat, if_neg (by omega)]
theorem wint_err (s : List UInt8) (a b : Int) : (wint s a b).2 = 0 ∨ (wint s a b).2 = 6 ∨ (wint s a b).2 = 7 := by
  unfold wint
  split
  · split
    · exact .inl rfl
    · exact .inr (.inr rfl)
  · exact .inr (.inl rfl)
end Go.Proofs.YtkbfjficmdgjpaaGreatDoor
/-
  Contracts of words: Lines.
-/
namespace Go.Proofs.YtkbfjficmdgjpaaGreatDoor
open Go.RowKit
set_option linter.unusedSimpArgs false
set_option linter.unusedVariables false
set_option maxRecDepth 100000

theorem spl_len : ∀ (l cur : List UInt8), ∀ x ∈ spl cur l, x.length ≤ cur.length + l.length
  | [], cur, x, h => by simp [spl] at h
  | c :: l, cur, x, h => by
    rw [spl] at h
    split at h
    · rcases List.mem_cons.1 h with rfl | h
      · omega
      · have := spl_len l [] x h
        simp at this ⊢; omega
    · have := spl_len l _ x h
      simp at this ⊢; omega
def wlines (l : List UInt8) : List (List UInt8) × Int := if 1048576 < l.length then ([], 3) else if l = [] then ([], 0) else if Lib.hasSuffix l [10] = false then ([], 6) else if 5000 < (spl [] l).length then ([], 3) else (spl [] l, 0)
/-- Lines as a result. -/
def LinesIs (r : List (List UInt8) × Int) (w : World) (v : Value) : Prop := ∃ a c, ∃ L : List ByteArray, v = .tuple #[.slice a L.length c, .int .i64 r.2] ∧ Strs w a L ∧ L.map (·.data.toList) = r.1 ∧ L.length ≤ 5000
theorem lines_none (w : World) (k : Int) : LinesIs ([], k) w (.tuple #[.slice none 0 0, .int .i64 k]) := ⟨none, 0, [], rfl, ⟨by simp, fun h => absurd rfl h⟩, rfl, by simp⟩
theorem suffix_cut {s : ByteArray} (h : Lib.hasSuffix s.data.toList [10] = true) : 1 ≤ s.size ∧ (s.extract 0 (s.size - 1)).data.toList ++ [10] = s.data.toList := by
  unfold Lib.hasSuffix at h
  obtain ⟨t, ht⟩ := List.isSuffixOf_iff_suffix.1 h
  have hl : s.size = t.length + 1 := by
    rw [Lib.size_eq, ← ht, List.length_append]; rfl
  refine ⟨by omega, ?_⟩
  rw [Lib.extract_from_zero, ← ht, hl]
  simp
theorem strs_new (w : World) (L : List ByteArray) (ho : ∀ x, x ∈ L → x.size ≤ maxLen) : Strs (w.alloc (.cells (L.map Value.string).toArray 9)) (some ⟨w.heap.size, 0, none⟩) L := by
  refine ⟨ho, fun hn => ⟨w.heap.size, 0, rfl, fun i x hx => ?_⟩⟩
  rw [Nat.zero_add, new_cell]
  simp [hx]
end Go.Proofs.YtkbfjficmdgjpaaGreatDoor
/-
  The program's Parse of a list.
-/
namespace Go.Proofs.YtkbfjficmdgjpaaGreatDoor
open Go.RowKit
set_option linter.unusedSimpArgs false
set_option linter.unusedVariables false
set_option maxRecDepth 100000

theorem entParseP (s : ByteArray) (hs : s.size ≤ 100000) (w : World) (hE : WEnv w) : Calls Tryz.prog 50 #[.string s] w (RB w (.tuple #[(pone s.data.toList).1.v, .int .i64 (pone s.data.toList).2])) := by
  rw [← pparse_pone]; exact entParse s hs w hE
/-- A list, a line, an error as a result. -/
def EPaV (r : List Ent × Int × Int) (w : World) (v : Value) : Prop := ∃ a c, v = .tuple #[.slice a r.1.length c, .int .i64 r.2.1, .int .i64 r.2.2] ∧ Ents w a r.1 ∧ r.1.length ≤ c ∧ c ≤ maxLen
theorem epaV_nil (w : World) (i e : Int) : EPaV ([], i, e) w (.tuple #[.slice none 0 0, .int .i64 i, .int .i64 e]) := ⟨none, 0, rfl, ⟨by simp, fun h => absurd rfl h⟩, Nat.le_refl _, by unfold maxLen; omega⟩
theorem epgo_stop {k : Nat} {acc : List Ent} {Ls : List (List UInt8)} {q : List UInt8} (h : Ls[k]? = some q) (hp : (pone q).2 ≠ 0) : epgo k acc (Ls.drop k) = ([], ((k + 1 : Nat) : Int), (pone q).2) := by
  obtain ⟨h1, h2⟩ := List.getElem?_eq_some_iff.1 h
  rw [List.drop_eq_getElem_cons h1, h2]
  unfold epgo
  rw [if_pos hp]
theorem epgo_step {k : Nat} {acc : List Ent} {Ls : List (List UInt8)} {q : List UInt8} (h : Ls[k]? = some q) (hp : (pone q).2 = 0) : epgo k acc (Ls.drop k) = epgo (k + 1) (acc ++ [(pone q).1]) (Ls.drop (k + 1)) := by
  obtain ⟨h1, h2⟩ := List.getElem?_eq_some_iff.1 h
  rw [List.drop_eq_getElem_cons h1, h2]
  conv => lhs; unfold epgo
  rw [if_neg (by simp [hp])]
theorem pone_okE {q : List UInt8} (h : (pone q).2 = 0) : (pone q).1.ok := by
  have hp : pone q = ((pone q).1, 0) := by rw [← h]
  obtain ⟨_, h2⟩ := pone_back hp
  unfold echk at h2
  split at h2
  · cases h2
  · split at h2
    · cases h2
    · split at h2
      · cases h2
      · unfold Ent.ok maxLen; omega
theorem count_last {t : List UInt8} (h : t.count 10 = 0) : t.getLast? ≠ some 10 := by
  intro e
  have := List.mem_of_getLast? e
  exact absurd (List.count_pos_iff.2 this) (by omega)
theorem suf_last (l : List UInt8) : (l.getLast? = some 10) ↔ Lib.hasSuffix l [10] = true := by
  unfold Lib.hasSuffix
  rw [List.isSuffixOf_iff_suffix]
  constructor
  · intro h
    rcases List.eq_nil_or_concat l with e | ⟨a, b, e⟩
    · rw [e] at h; cases h
    · rw [List.concat_eq_append] at e
      rw [e] at h ⊢
      simp at h; subst h; exact ⟨a, rfl⟩
  · rintro ⟨a, rfl⟩; simp
set_option maxHeartbeats 8000000 in
theorem entParseT (s : ByteArray) (hs : s.size ≤ 100000) (w : World) (hE : WEnv w) : Calls Tryz.prog 25 #[.string s] w (RM w (EPaV (eparse s.data.toList))) := by
  obtain ⟨i0, hin, hz0, hz1, hz2⟩ := info_parts inf_ent
  obtain ⟨res, hres⟩ : ∃ r, eparse s.data.toList = r := ⟨_, rfl⟩
  rw [hres]
  unfold eparse at hres
  have hsz : s.data.toList.length = s.size := (Lib.size_eq s).symm
  rw [hsz] at hres
  have HC := Lib.hid (fun w => show Calls Tryz.prog 47 #[.string s, .string ⟨#[10]⟩] w (RB w (.int .i64 (s.data.toList.count 10 : Nat))) from (Tryz.strings_Count_one s 10 w).mono (fun e w' h => ⟨by rw [h.1]; rfl, by rw [h.2]; exact Bl.refl _⟩))
  have hc9 : s.data.toList.count 10 ≤ 100000 := by have := List.count_le_length (a := (10 : UInt8)) (l := s.data.toList); omega
  have HP := Lib.hid (fun x (hx : ByteArray.size x ≤ 100000) w h => entParseP x hx w h)
  have HE := Lib.hid hE
  have i1 : ¬ (1048576 : Int) < (s.size : Int) := by omega
  obtain ⟨n, hn⟩ : ∃ n, s.data.toList.count 10 = n := ⟨_, rfl⟩
  rw [hn] at HC hres hc9
  clear hE
  by_cases h5 : 5000 < n
  · rw [if_pos (.inr h5)] at hres
    subst hres
    have i5 : (5000 : Int) < (n : Int) := by omega
    clear hn hsz h5
    go_enter Tryz.func25, Tryz.ntmps25
    go_wp2_with fail
    refine (HC.out _).mono ?_; rintro e w1 ⟨rfl, hb1⟩
    go_wp2_with fail
    go_ret3
    exact RM.mk (epaV_nil _ _ _) ‹Bl w _›
  · have i5 : ¬ (5000 : Int) < (n : Int) := by omega
    rw [if_neg (by omega)] at hres
    by_cases h2 : s.data.toList = []
    · rw [if_pos h2] at hres
      subst hres
      have hem : s.toList.isEmpty = true := by rw [toL, h2]; rfl
      have hem2 : s.toList = [] := by rw [toL, h2]
      clear hn hsz h5 h2
      go_enter Tryz.func25, Tryz.ntmps25
      go_wp2_with fail
      refine (HC.out _).mono ?_; rintro e w1 ⟨rfl, hb1⟩
      go_wp2_with fail
      go_ret3
      exact RM.mk (epaV_nil _ _ _) ‹Bl w _›
    · rw [if_neg h2] at hres
      have hem : s.toList.isEmpty = false := by
        rw [toL]
        match s.data.toList, h2 with
        | [], h => exact absurd rfl h
        | _ :: _, _ => rfl
      have hH := fun w => Tryz.strings_HasSuffix s ⟨#[10]⟩ w (by omega)
      obtain ⟨b, hb⟩ : ∃ b, Lib.hasSuffix s.data.toList [10] = b := ⟨_, rfl⟩
      rw [show (⟨#[10]⟩ : ByteArray).data.toList = [10] from rfl, hb] at hH
      have HH := Lib.hid hH
      clear hH h2
      cases b
      · rw [if_pos (fun e => by rw [(suf_last _).1 e] at hb; cases hb)] at hres
        subst hres
        clear hb hsz h5 hn
        go_enter Tryz.func25, Tryz.ntmps25
        go_wp2_with fail
        refine (HC.out _).mono ?_; rintro e w1 ⟨rfl, hb1⟩
        go_wp2_with fail
        refine (HH.out _).mono ?_; rintro e w2 ⟨rfl, hw2⟩; rw [hw2]
        go_wp2_with fail
        go_ret3
        exact RM.mk (epaV_nil _ _ _) ‹Bl w _›
      · rw [if_neg (fun e => e ((suf_last _).2 hb))] at hres
        obtain ⟨hpos, hcat⟩ := suffix_cut hb
        obtain ⟨t, ht⟩ : ∃ t, s.extract 0 (s.size - 1) = t := ⟨_, rfl⟩
        rw [ht] at hcat
        have htl : t.size + 1 = s.size := by rw [← ht, ByteArray.size_extract]; omega
        have hS := fun w => woSplitN t w (by omega)
        have hlen := Lib.splitB_all ⟨#[10]⟩ (by decide) 0 _ t rfl
        have hmap := splitB_spl t
        generalize Lib.countB t ⟨#[10]⟩ = nn at hS hlen hmap
        generalize Lib.splitB ⟨#[10]⟩ 0 nn t = L at hS hlen hmap
        rw [hcat] at hmap
        have hok : ∀ x, x ∈ L → x.size ≤ 100000 := by
          intro x hx
          have := spl_len s.data.toList [] x.data.toList (by rw [← hmap]; exact List.mem_map_of_mem hx)
          rw [← Lib.size_eq, hsz] at this
          simp at this; omega
        have hln : L.length ≤ 5000 := by
          have h1 := spl_cnt s.data.toList []
          rw [← hmap, List.length_map, hn] at h1
          omega
        rw [← hmap] at hres
        have j1 : (0 : Int) ≤ (s.size : Int) - 1 := by omega
        have j2 : (s.size : Int) - 1 ≤ (s.size : Int) := by omega
        have j3 : ((s.size : Int) - 1).toNat = s.size - 1 := by omega
        have HS := Lib.hid hS
        have HT := Lib.hid ht
        have HK := Lib.hid hok
        have HRes := Lib.hid hres
        have HLn := Lib.hid hlen
        clear hS ht hok hmap hlen hb hsz h5 hcat htl hn hres
        go_enter Tryz.func25, Tryz.ntmps25
        go_wp2_with fail
        refine (HC.out _).mono ?_; rintro e w1 ⟨rfl, hb1⟩
        go_wp2_with fail
        refine (HH.out _).mono ?_; rintro e w2 ⟨rfl, hw2⟩; rw [hw2]
        go_wp2_with fail
        rw [HT.out]
        refine (HS.out _).mono ?_; rintro e w3 ⟨rfl, hw3⟩
        have hbL : Bl w w3 := hw3 ▸ (hb1.alloc _)
        have hSt : Strs w3 (some ⟨w1.heap.size, 0, none⟩) L := hw3 ▸ strs_new w1 L (fun x hx => by have := HK.out x hx; unfold maxLen; omega)
        have HSt := Lib.hid hSt
        have HBL := Lib.hid hbL
        rw [HLn.out] at hln
        clear hw3 hSt hbL hb1
        obtain ⟨B1, hB1⟩ : ∃ z, w1.heap.size = z := ⟨_, rfl⟩
        rw [hB1] at HSt ⊢
        clear hB1
        go_wp2_with fail
        go_loopg [2, 32] (nn + 1) (fun gg lv ix wr => ∃ (k : Nat) (acc : List Ent), ix = .int .i64 k ∧ k ≤ nn + 1 ∧ Hid (wr.ownsRow w3.heap.size 35 4 lv acc.length (entCells acc) ∧ epgo k acc ((L.map (·.data.toList)).drop k) = res ∧ acc.length ≤ k ∧ (∀ x ∈ acc, x.ok)) ∧ Bl w3 wr ∧ gg = nn + 1 - k)
        case atStart => exact ⟨0, [], rfl, Nat.zero_le _, Lib.hid ⟨own_nil _ _ _ _, HRes.out, Nat.le_refl _, by simp⟩, Bl.refl _, rfl⟩
        case round =>
          obtain ⟨k, acc, rfl, hk, H, hb, hg⟩ := hrel
          have G := Lib.hid hg
          clear hg
          by_cases hkl : k < nn + 1
          · have dk : decide ((k : Int) < (nn : Int) + 1) = true := by rw [decide_eq_true_eq]; omega
            obtain ⟨q, hq⟩ : ∃ q, L[k]? = some q := ⟨_, List.getElem?_eq_getElem (by rw [HLn.out]; exact hkl)⟩
            obtain ⟨b, off, hbo, hat⟩ := HSt.out.get (k := k) (by rw [HLn.out]; exact hkl)
            injection hbo with hbo; injection hbo with e1 e2
            subst e1 e2
            have d0 := hb.cell (hat k q hq)
            rw [Nat.zero_add] at d0
            have hqs := HK.out q (List.mem_of_getElem? hq)
            have hLs : (L.map (·.data.toList))[k]? = some q.data.toList := by rw [List.getElem?_map, hq]; rfl
            have hPq := fun w h => HP.out q hqs w h
            obtain ⟨⟨x, er⟩, hpo⟩ : ∃ z, pone q.data.toList = z := ⟨_, rfl⟩
            rw [hpo] at hPq
            unfold Ent.v at hPq
            simp only at hPq
            have HPq := Lib.hid hPq
            by_cases her : er = 0
            · have hst := epgo_step (acc := acc) hLs (by rw [hpo]; exact her)
              have hxo := pone_okE (q := q.data.toList) (by rw [hpo]; exact her)
              rw [hpo] at hst hxo
              have hnx : epgo (k + 1) (acc ++ [x]) ((L.map (·.data.toList)).drop (k + 1)) = res := by rw [← H.out.2.1, hst]
              have HNx := Lib.hid (And.intro hnx hxo)
              have hal : acc.length ≤ k := H.out.2.2.1
              subst her
              have j0 : (0 : Int) ≤ (k : Int) := by omega
              have j1 : (k : Int) < (nn : Int) + 1 := by omega
              clear hat hq hqs hLs hPq hpo hst hxo hnx
              go_wp2_with fail
              refine (HPq.out _ (HE.out.bl (HBL.out.trans hb))).mono ?_; rintro e w5 ⟨rfl, hb5⟩
              have hb35 := hb.trans hb5
              have hs5 := hb35.size
              have hown5 := own_bl H.out.1 hb5
              have HO5 := Lib.hid hown5
              clear d0 hown5 hb5
              go_wp2_with (at_builtin; refine wpList_append_own _ rfl _ _ 22 rfl w3.heap.size 35 i0 (.agg #[.string ⟨#[]⟩, .string ⟨#[]⟩, .bool false, .int .i64 0]) 4 48 Tryz.underlying22 hin hz0 hz1 hz2 rfl (by decide) _ _ _ rfl (World.ownsRow.alloc (World.ownsRow.alloc HO5.out _) _) ⟨w5.heap.size + 1, 0, none⟩ 1 1 [.string x.key, .string x.val, .bool x.dead, .int .i64 x.seq] rfl rfl ?c1 ?c2 ?c3 ?c4 ?c5 ?_)
              case c1 => exact fun j u h => by have := multi_new (w5.alloc (.cells #[.string x.key, .string x.val, .bool x.dead, .int .i64 x.seq] 35)) [.string x.key, .string x.val, .bool x.dead, .int .i64 x.seq] 35 j u h; simpa using this
              case c2 => intro u hu; simp at hu; rcases hu with rfl | rfl | rfl | rfl <;> rfl
              case c3 => unfold maxLen; omega
              case c4 => omega
              case c5 => simp; omega
              intro v' w6 hown6 hgrow _
              have hb6 := grown_bl ((hb35.alloc _).alloc _) (World.ownsRow.alloc (World.ownsRow.alloc HO5.out _) _) hgrow (Nat.le_refl _)
              have hown7 : w6.ownsRow w3.heap.size 35 4 v' (acc ++ [x]).length (entCells (acc ++ [x])) := by
                rw [entCells_snoc, List.length_append]; exact hown6
              have HO7 := Lib.hid hown7
              clear hown6 hown7 hgrow hb35 hs5
              go_wp2_with fail
              go_roundg (nn + 1 - (k + 1))
              case rel => exact ⟨k + 1, acc ++ [x], by go_num, by omega, Lib.hid ⟨HO7.out, HNx.out.1, by rw [List.length_append]; simp; omega, fun y hy => by
                rcases List.mem_append.1 hy with hy | hy
                · exact H.out.2.2.2 y hy
                · rcases List.mem_singleton.1 hy with rfl; exact HNx.out.2⟩, hb6, rfl⟩
              case measure => rw [G.out]; omega
            · have hst := epgo_stop (acc := acc) hLs (by rw [hpo]; exact her)
              rw [hpo, H.out.2.1] at hst
              simp only at hst
              subst hst
              have t1 : (er != 0) = true := by rw [bne_iff_ne]; exact her
              have j0 : (0 : Int) ≤ (k : Int) := by omega
              have j1 : (k : Int) < (nn : Int) + 1 := by omega
              clear hat hq hqs hLs hPq hpo her
              go_wp2_with fail
              refine (HPq.out _ (HE.out.bl (HBL.out.trans hb))).mono ?_; rintro e w5 ⟨rfl, hb5⟩
              have hbw := (HBL.out.trans hb).trans hb5
              go_wp2_with fail
              go_ret3
              exact RM.mk (epaV_nil _ _ _) (hbw.alloc _)
          · obtain rfl : k = nn + 1 := by omega
            have hr := H.out.2.1
            rw [List.drop_of_length_le (by rw [List.length_map, HLn.out]; exact Nat.le_refl _)] at hr
            unfold epgo at hr
            subst hr
            obtain ⟨a, c, rfl, hE, hc1, hc2⟩ := own_ents H.out.1 H.out.2.2.2
            have HF := Lib.hid (And.intro hE (And.intro hc1 hc2))
            have hbw := HBL.out.trans hb
            clear hE hc1 hc2 H
            go_wp2_with fail
            go_ret3
            exact RM.mk ⟨a, c, rfl, HF.out⟩ hbw
end Go.Proofs.YtkbfjficmdgjpaaGreatDoor
/-
  Contracts of words: the reference's Lines.
-/
namespace Go.Proofs.YtkbfjficmdgjpaaGreatDoor
open Go.RowKit
set_option linter.unusedSimpArgs false
set_option linter.unusedVariables false
set_option maxRecDepth 100000

/-- Between two rounds of the reference's loop: done are the pieces laid, fr where the next begins. -/
theorem spl_take {l : List UInt8} {fr i : Nat} {c : UInt8} (hf : fr ≤ i) (hc : l[i]? = some c) : spl ((l.take i).drop fr) (l.drop i) = if c = 10 then (l.take i).drop fr :: spl [] (l.drop (i + 1)) else spl ((l.take (i + 1)).drop fr) (l.drop (i + 1)) := by
  obtain ⟨hi, he⟩ := List.getElem?_eq_some_iff.1 hc
  rw [List.drop_eq_getElem_cons hi, he, spl]
  have e : (l.take (i + 1)).drop fr = (l.take i).drop fr ++ [c] := by
    rw [List.take_succ_eq_append_getElem hi, he, List.drop_append]
    rw [show fr - (l.take i).length = 0 by rw [List.length_take]; omega]
    simp
  rw [e]
theorem u8_no {c : UInt8} (h : ¬ c = 10) : ((c.toNat : Int) == 10) = false := by
  rw [beq_eq_false_iff_ne]
  intro e
  exact h (UInt8.toNat_inj.1 (show c.toNat = (10 : UInt8).toNat by rw [show (10 : UInt8).toNat = 10 from rfl]; omega))
theorem ext_list (s : ByteArray) (fr i : Nat) : (s.extract fr i).data.toList = (s.data.toList.take i).drop fr := by
  rw [Lib.extract_data, List.drop_take]
theorem last_suffix {s : ByteArray} {c : UInt8} (h : s.data.toList[s.size - 1]? = some c) (hp : 1 ≤ s.size) : Lib.hasSuffix s.data.toList [10] = decide (c = 10) := by
  have hl := Lib.size_eq s
  obtain ⟨hi, he⟩ := List.getElem?_eq_some_iff.1 h
  have hs : s.data.toList = s.data.toList.take (s.size - 1) ++ [c] := by
    have := List.take_succ_eq_append_getElem hi
    rw [he] at this
    rw [← this, List.take_of_length_le (by omega)]
  by_cases hc : c = 10
  · subst hc
    rw [decide_eq_true rfl]
    unfold Lib.hasSuffix
    exact List.isSuffixOf_iff_suffix.2 ⟨_, hs.symm⟩
  · rw [decide_eq_false hc]
    unfold Lib.hasSuffix
    rw [Bool.eq_false_iff]
    intro hh
    obtain ⟨t, ht⟩ := List.isSuffixOf_iff_suffix.1 hh
    rw [hs] at ht
    have := (List.append_inj' ht rfl).2
    simp at this
    exact hc this.symm
end Go.Proofs.YtkbfjficmdgjpaaGreatDoor
/-
  The reference's Parse of a list.
-/
namespace Go.Proofs.YtkbfjficmdgjpaaGreatDoor
open Go.RowKit
set_option linter.unusedSimpArgs false
set_option linter.unusedVariables false
set_option maxRecDepth 100000

theorem epgo_cons_stop {k : Nat} {acc : List Ent} {q : List UInt8} {r : List (List UInt8)} (hp : (pone q).2 ≠ 0) : epgo k acc (q :: r) = ([], ((k + 1 : Nat) : Int), (pone q).2) := by
  unfold epgo
  rw [if_pos hp]
theorem epgo_cons_step {k : Nat} {acc : List Ent} {q : List UInt8} {r : List (List UInt8)} (hp : (pone q).2 = 0) : epgo k acc (q :: r) = epgo (k + 1) (acc ++ [(pone q).1]) r := by
  conv => lhs; unfold epgo
  rw [if_neg (by simp [hp])]
theorem count_take {l : List UInt8} {k : Nat} {c : UInt8} (h : l[k]? = some c) : (l.take (k + 1)).count 10 = (l.take k).count 10 + if c = 10 then 1 else 0 := by
  obtain ⟨h1, h2⟩ := List.getElem?_eq_some_iff.1 h
  rw [List.take_succ_eq_append_getElem h1, h2, List.count_append]
  by_cases hc : c = 10
  · subst hc; simp
  · simp [hc]
set_option maxHeartbeats 8000000 in
theorem refParseT (s : ByteArray) (hs : s.size ≤ 100000) (w : World) : Calls Tryz.prog 27 #[.string s] w (RM w (EPaV (eparse s.data.toList))) := by
  obtain ⟨i0, hin, hz0, hz1, hz2⟩ := info_parts inf_ent
  obtain ⟨res, hres⟩ : ∃ r, eparse s.data.toList = r := ⟨_, rfl⟩
  rw [hres]
  unfold eparse at hres
  have hsz : s.data.toList.length = s.size := (Lib.size_eq s).symm
  rw [hsz] at hres
  have HRes0 := Lib.hid hres
  have HP := Lib.hid (fun x (hx : ByteArray.size x ≤ 100000) w => refOneE x hx w)
  have i1 : ¬ (1048576 : Int) < (s.size : Int) := by omega
  clear hres
  go_enter Tryz.func27, Tryz.ntmps27
  go_wp2_with fail
  go_loopg [5, 6] s.size (fun g c i wr => ∃ k : Nat, i = .int .i64 k ∧ k ≤ s.size ∧ c = .int .i64 ((s.data.toList.take k).count 10 : Nat) ∧ Bl w wr ∧ g = s.size - k)
  case atStart => exact ⟨0, rfl, Nat.zero_le _, rfl, Bl.refl _, rfl⟩
  case round =>
    obtain ⟨k, rfl, hks, rfl, hb, hg⟩ := hrel
    have G := Lib.hid hg
    clear hg
    have hcl : (s.data.toList.take k).count 10 ≤ 100000 := by
      have h1 := List.count_le_length (a := (10 : UInt8)) (l := s.data.toList.take k)
      rw [List.length_take] at h1; omega
    by_cases hkl : k < s.size
    · obtain ⟨d, hd⟩ : ∃ d, s[k]'hkl = d := ⟨_, rfl⟩
      have hd2 : s.data.toList[k]? = some d := by rw [← hd]; simp [ByteArray.getElem_eq_getElem_data]
      have hct := count_take hd2
      obtain ⟨n, hn⟩ : ∃ n, (s.data.toList.take k).count 10 = n := ⟨_, rfl⟩
      rw [hn] at hct hcl ⊢
      have j0 : (0 : Int) ≤ (k : Int) := by omega
      have j1 : (k : Int) < (s.size : Int) := by omega
      by_cases hd10 : d = 10
      · rw [if_pos hd10] at hct
        have t1 : (((s[k]'hkl).toNat : Int) == 10) = true := by rw [hd, hd10]; rfl
        have HCt := Lib.hid hct
        clear hd hd2 hct hd10 hn
        go_wp2_with fail
        go_roundg (s.size - (k + 1))
        case rel => exact ⟨k + 1, by go_num, by omega, by rw [HCt.out]; go_num, hb, rfl⟩
        case measure => rw [G.out]; omega
      · rw [if_neg hd10] at hct
        have t1 : (((s[k]'hkl).toNat : Int) == 10) = false := by rw [hd]; exact u8_no hd10
        have HCt := Lib.hid hct
        clear hd hd2 hct hd10 hn
        go_wp2_with fail
        go_roundg (s.size - (k + 1))
        case rel => exact ⟨k + 1, by go_num, by omega, by rw [HCt.out]; rfl, hb, rfl⟩
        case measure => rw [G.out]; omega
    · obtain rfl : k = s.size := by omega
      have htk : s.data.toList.take s.size = s.data.toList := List.take_of_length_le (by omega)
      rw [htk] at hcl ⊢
      have hres := HRes0.out
      obtain ⟨n, hn⟩ : ∃ n, s.data.toList.count 10 = n := ⟨_, rfl⟩
      rw [hn] at hres hcl ⊢
      clear htk G HRes0
      by_cases h5 : 5000 < n
      · rw [if_pos (.inr h5)] at hres
        subst hres
        have i5 : (5000 : Int) < (n : Int) := by omega
        clear hn hsz h5
        go_wp2_with fail
        go_ret3
        exact RM.mk (epaV_nil _ _ _) hb
      · have i5 : ¬ (5000 : Int) < (n : Int) := by omega
        rw [if_neg (by omega)] at hres
        by_cases h2 : s.data.toList = []
        · rw [if_pos h2] at hres
          have hgo : epgo 0 [] (spl [] s.data.toList) = res := by rw [h2]; exact hres
          have hem : s.toList.isEmpty = true := by rw [toL, h2]; rfl
          have hem2 : s.toList = [] := by rw [toL, h2]
          clear hn hsz h5 h2 hres
          have HRes := Lib.hid hgo
          clear hgo
          go_wp2_with fail
          go_loopg [7, 8, 9] s.size (fun gg o f i wz => ∃ (fr k : Nat) (acc : List Ent), f = .int .i64 fr ∧ i = .int .i64 k ∧ fr ≤ k ∧ k ≤ s.size ∧ Hid (wz.ownsRow w.heap.size 35 4 o acc.length (entCells acc) ∧ epgo acc.length acc (spl ((s.data.toList.take k).drop fr) (s.data.toList.drop k)) = res ∧ acc.length ≤ k ∧ (∀ x ∈ acc, x.ok)) ∧ Bl w wz ∧ gg = s.size - k)
          case atStart => exact ⟨0, 0, [], rfl, rfl, Nat.le_refl _, Nat.zero_le _, Lib.hid ⟨own_nil _ _ _ _, HRes.out, Nat.le_refl _, by simp⟩, hb, rfl⟩
          case round =>
            clear hb HRes
            obtain ⟨fr, k, acc, rfl, rfl, hfk, hks, H, hb, hg⟩ := hrel
            have G := Lib.hid hg
            clear hg
            by_cases hkl : k < s.size
            · obtain ⟨d, hd⟩ : ∃ d, s[k]'hkl = d := ⟨_, rfl⟩
              have hd2 : s.data.toList[k]? = some d := by rw [← hd]; simp [ByteArray.getElem_eq_getElem_data]
              have ht := spl_take hfk hd2
              have j0 : (0 : Int) ≤ (k : Int) := by omega
              have j1 : (k : Int) < (s.size : Int) := by omega
              by_cases hd10 : d = 10
              · rw [if_pos hd10] at ht
                have t1 : (((s[k]'hkl).toNat : Int) != 10) = false := by rw [hd, hd10]; rfl
                have j3 : (fr : Int) ≤ (k : Int) := by omega
                have j4 : (0 : Int) ≤ (fr : Int) := by omega
                have j5 : (k : Int) ≤ (s.size : Int) := by omega
                obtain ⟨q, hq⟩ : ∃ q, s.extract fr k = q := ⟨_, rfl⟩
                have hql : q.data.toList = (s.data.toList.take k).drop fr := by rw [← hq]; exact ext_list s fr k
                have hqs : q.size ≤ 100000 := by rw [← hq, ByteArray.size_extract]; omega
                have hPq := fun w => HP.out q hqs w
                obtain ⟨⟨x, er⟩, hpo⟩ : ∃ z, pone q.data.toList = z := ⟨_, rfl⟩
                rw [hpo] at hPq
                unfold Ent.v at hPq
                simp only at hPq
                have HPq := Lib.hid hPq
                have hH := H.out.2.1
                rw [ht, ← hql] at hH
                have hal : acc.length ≤ k := H.out.2.2.1
                have HQ := Lib.hid hq
                by_cases her : er = 0
                · rw [epgo_cons_step (by rw [hpo]; exact her)] at hH
                  have hxo := pone_okE (q := q.data.toList) (by rw [hpo]; exact her)
                  rw [hpo] at hH hxo
                  have HNx := Lib.hid (And.intro hH hxo)
                  subst her
                  clear hd hd2 ht hd10 hq hql hqs hPq hpo hH hxo
                  go_wp2_with fail
                  rw [HQ.out]
                  refine (HPq.out _).mono ?_; rintro e w5 ⟨rfl, hb5⟩
                  have hb35 := hb.trans hb5
                  have hs5 := hb35.size
                  have hown5 := own_bl H.out.1 hb5
                  have HO5 := Lib.hid hown5
                  clear hown5 hb5
                  go_wp2_with (at_builtin; refine wpList_append_own _ rfl _ _ 22 rfl w.heap.size 35 i0 (.agg #[.string ⟨#[]⟩, .string ⟨#[]⟩, .bool false, .int .i64 0]) 4 48 Tryz.underlying22 hin hz0 hz1 hz2 rfl (by decide) _ _ _ rfl (World.ownsRow.alloc (World.ownsRow.alloc HO5.out _) _) ⟨w5.heap.size + 1, 0, none⟩ 1 1 [.string x.key, .string x.val, .bool x.dead, .int .i64 x.seq] rfl rfl ?c1 ?c2 ?c3 ?c4 ?c5 ?_)
                  case c1 => exact fun j u h => by have := multi_new (w5.alloc (.cells #[.string x.key, .string x.val, .bool x.dead, .int .i64 x.seq] 35)) [.string x.key, .string x.val, .bool x.dead, .int .i64 x.seq] 35 j u h; simpa using this
                  case c2 => intro u hu; simp at hu; rcases hu with rfl | rfl | rfl | rfl <;> rfl
                  case c3 => unfold maxLen; omega
                  case c4 => omega
                  case c5 => simp; omega
                  intro v' w6 hown6 hgrow _
                  have hb6 := grown_bl ((hb35.alloc _).alloc _) (World.ownsRow.alloc (World.ownsRow.alloc HO5.out _) _) hgrow (Nat.le_refl _)
                  have hown7 : w6.ownsRow w.heap.size 35 4 v' (acc ++ [x]).length (entCells (acc ++ [x])) := by
                    rw [entCells_snoc, List.length_append]; exact hown6
                  have HO7 := Lib.hid hown7
                  have hcut : (s.data.toList.take (k + 1)).drop (k + 1) = [] := by rw [List.drop_take]; simp
                  have HCut := Lib.hid hcut
                  clear hown6 hown7 hgrow hb35 hs5 hcut
                  go_wp2_with fail
                  go_roundg (s.size - (k + 1))
                  case rel => exact ⟨k + 1, k + 1, acc ++ [x], by go_num, by go_num, Nat.le_refl _, by omega, Lib.hid ⟨HO7.out, by rw [HCut.out, List.length_append]; exact HNx.out.1, by rw [List.length_append]; simp; omega, fun y hy => by
                    rcases List.mem_append.1 hy with hy | hy
                    · exact H.out.2.2.2 y hy
                    · rcases List.mem_singleton.1 hy with rfl; exact HNx.out.2⟩, hb6, rfl⟩
                  case measure => rw [G.out]; omega
                · rw [epgo_cons_stop (by rw [hpo]; exact her), hpo] at hH
                  simp only at hH
                  subst hH
                  obtain ⟨oa, oc, rfl, hlc, hcm, -⟩ := own_form H.out.1
                  have t2 : (er != 0) = true := by rw [bne_iff_ne]; exact her
                  clear hd hd2 ht hd10 hq hql hqs hPq hpo her
                  go_wp2_with fail
                  rw [HQ.out]
                  refine (HPq.out _).mono ?_; rintro e w5 ⟨rfl, hb5⟩
                  have hbw := hb.trans hb5
                  go_wp2_with fail
                  go_ret3
                  exact RM.mk (epaV_nil _ _ _) (hbw.alloc _)
              · rw [if_neg hd10] at ht
                have t1 : (((s[k]'hkl).toNat : Int) != 10) = true := by rw [bne, hd, u8_no hd10]; rfl
                have HT := Lib.hid ht
                clear hd hd2 ht hd10
                go_wp2_with fail
                go_roundg (s.size - (k + 1))
                case rel => exact ⟨fr, k + 1, acc, rfl, by go_num, by omega, by omega, Lib.hid ⟨H.out.1, by rw [← HT.out]; exact H.out.2.1, by have := H.out.2.2.1; omega, H.out.2.2.2⟩, hb, rfl⟩
                case measure => rw [G.out]; omega
            · obtain rfl : k = s.size := by omega
              have hr := H.out.2.1
              rw [show s.data.toList.drop s.size = [] from List.drop_of_length_le (by rw [← Lib.size_eq]; exact Nat.le_refl _)] at hr
              unfold spl epgo at hr
              subst hr
              obtain ⟨a, c, rfl, hE, hc1, hc2⟩ := own_ents H.out.1 H.out.2.2.2
              have HF := Lib.hid (And.intro hE (And.intro hc1 hc2))
              clear hE hc1 hc2 H
              go_wp2_with fail
              go_ret3
              exact RM.mk ⟨a, c, rfl, HF.out⟩ hb
        · rw [if_neg h2] at hres
          have hem : s.toList.isEmpty = false := by
            rw [toL]
            match s.data.toList, h2 with
            | [], h => exact absurd rfl h
            | _ :: _, _ => rfl
          have hpos : 1 ≤ s.size := by
            rw [← hsz]
            match s.data.toList, h2 with
            | [], h => exact absurd rfl h
            | _ :: _, _ => simp
          have hk : s.size - 1 < s.size := by omega
          obtain ⟨c, hc⟩ : ∃ c, s[s.size - 1]'hk = c := ⟨_, rfl⟩
          have hc2 : s.data.toList[s.size - 1]? = some c := by rw [← hc]; simp [ByteArray.getElem_eq_getElem_data]
          have hsf := last_suffix hc2 hpos
          have q1 : (0 : Int) ≤ (s.size : Int) - 1 := by omega
          have q2 : (s.size : Int) - 1 < (s.size : Int) := by omega
          have q3 : ((s.size : Int) - 1).toNat = s.size - 1 := by omega
          have q4 : (1 : Int) ≤ (s.size : Int) := by omega
          by_cases h10 : c = 10
          · rw [if_neg (fun e => e ((suf_last _).2 (by rw [hsf, decide_eq_true h10])))] at hres
            have e10 : (((s[s.size - 1]'hk).toNat : Int) != 10) = false := by rw [hc, h10]; rfl
            have hgo : epgo 0 [] (spl [] s.data.toList) = res := hres
            clear hn hsz h5 h2 hres hc hc2 hsf h10
            have HRes := Lib.hid hgo
            clear hgo
            go_wp2_with fail
            go_loopg [7, 8, 9] s.size (fun gg o f i wz => ∃ (fr k : Nat) (acc : List Ent), f = .int .i64 fr ∧ i = .int .i64 k ∧ fr ≤ k ∧ k ≤ s.size ∧ Hid (wz.ownsRow w.heap.size 35 4 o acc.length (entCells acc) ∧ epgo acc.length acc (spl ((s.data.toList.take k).drop fr) (s.data.toList.drop k)) = res ∧ acc.length ≤ k ∧ (∀ x ∈ acc, x.ok)) ∧ Bl w wz ∧ gg = s.size - k)
            case atStart => exact ⟨0, 0, [], rfl, rfl, Nat.le_refl _, Nat.zero_le _, Lib.hid ⟨own_nil _ _ _ _, HRes.out, Nat.le_refl _, by simp⟩, hb, rfl⟩
            case round =>
              clear hb HRes
              obtain ⟨fr, k, acc, rfl, rfl, hfk, hks, H, hb, hg⟩ := hrel
              have G := Lib.hid hg
              clear hg
              by_cases hkl : k < s.size
              · obtain ⟨d, hd⟩ : ∃ d, s[k]'hkl = d := ⟨_, rfl⟩
                have hd2 : s.data.toList[k]? = some d := by rw [← hd]; simp [ByteArray.getElem_eq_getElem_data]
                have ht := spl_take hfk hd2
                have j0 : (0 : Int) ≤ (k : Int) := by omega
                have j1 : (k : Int) < (s.size : Int) := by omega
                by_cases hd10 : d = 10
                · rw [if_pos hd10] at ht
                  have t1 : (((s[k]'hkl).toNat : Int) != 10) = false := by rw [hd, hd10]; rfl
                  have j3 : (fr : Int) ≤ (k : Int) := by omega
                  have j4 : (0 : Int) ≤ (fr : Int) := by omega
                  have j5 : (k : Int) ≤ (s.size : Int) := by omega
                  obtain ⟨q, hq⟩ : ∃ q, s.extract fr k = q := ⟨_, rfl⟩
                  have hql : q.data.toList = (s.data.toList.take k).drop fr := by rw [← hq]; exact ext_list s fr k
                  have hqs : q.size ≤ 100000 := by rw [← hq, ByteArray.size_extract]; omega
                  have hPq := fun w => HP.out q hqs w
                  obtain ⟨⟨x, er⟩, hpo⟩ : ∃ z, pone q.data.toList = z := ⟨_, rfl⟩
                  rw [hpo] at hPq
                  unfold Ent.v at hPq
                  simp only at hPq
                  have HPq := Lib.hid hPq
                  have hH := H.out.2.1
                  rw [ht, ← hql] at hH
                  have hal : acc.length ≤ k := H.out.2.2.1
                  have HQ := Lib.hid hq
                  by_cases her : er = 0
                  · rw [epgo_cons_step (by rw [hpo]; exact her)] at hH
                    have hxo := pone_okE (q := q.data.toList) (by rw [hpo]; exact her)
                    rw [hpo] at hH hxo
                    have HNx := Lib.hid (And.intro hH hxo)
                    subst her
                    clear hd hd2 ht hd10 hq hql hqs hPq hpo hH hxo
                    go_wp2_with fail
                    rw [HQ.out]
                    refine (HPq.out _).mono ?_; rintro e w5 ⟨rfl, hb5⟩
                    have hb35 := hb.trans hb5
                    have hs5 := hb35.size
                    have hown5 := own_bl H.out.1 hb5
                    have HO5 := Lib.hid hown5
                    clear hown5 hb5
                    go_wp2_with (at_builtin; refine wpList_append_own _ rfl _ _ 22 rfl w.heap.size 35 i0 (.agg #[.string ⟨#[]⟩, .string ⟨#[]⟩, .bool false, .int .i64 0]) 4 48 Tryz.underlying22 hin hz0 hz1 hz2 rfl (by decide) _ _ _ rfl (World.ownsRow.alloc (World.ownsRow.alloc HO5.out _) _) ⟨w5.heap.size + 1, 0, none⟩ 1 1 [.string x.key, .string x.val, .bool x.dead, .int .i64 x.seq] rfl rfl ?c1 ?c2 ?c3 ?c4 ?c5 ?_)
                    case c1 => exact fun j u h => by have := multi_new (w5.alloc (.cells #[.string x.key, .string x.val, .bool x.dead, .int .i64 x.seq] 35)) [.string x.key, .string x.val, .bool x.dead, .int .i64 x.seq] 35 j u h; simpa using this
                    case c2 => intro u hu; simp at hu; rcases hu with rfl | rfl | rfl | rfl <;> rfl
                    case c3 => unfold maxLen; omega
                    case c4 => omega
                    case c5 => simp; omega
                    intro v' w6 hown6 hgrow _
                    have hb6 := grown_bl ((hb35.alloc _).alloc _) (World.ownsRow.alloc (World.ownsRow.alloc HO5.out _) _) hgrow (Nat.le_refl _)
                    have hown7 : w6.ownsRow w.heap.size 35 4 v' (acc ++ [x]).length (entCells (acc ++ [x])) := by
                      rw [entCells_snoc, List.length_append]; exact hown6
                    have HO7 := Lib.hid hown7
                    have hcut : (s.data.toList.take (k + 1)).drop (k + 1) = [] := by rw [List.drop_take]; simp
                    have HCut := Lib.hid hcut
                    clear hown6 hown7 hgrow hb35 hs5 hcut
                    go_wp2_with fail
                    go_roundg (s.size - (k + 1))
                    case rel => exact ⟨k + 1, k + 1, acc ++ [x], by go_num, by go_num, Nat.le_refl _, by omega, Lib.hid ⟨HO7.out, by rw [HCut.out, List.length_append]; exact HNx.out.1, by rw [List.length_append]; simp; omega, fun y hy => by
                      rcases List.mem_append.1 hy with hy | hy
                      · exact H.out.2.2.2 y hy
                      · rcases List.mem_singleton.1 hy with rfl; exact HNx.out.2⟩, hb6, rfl⟩
                    case measure => rw [G.out]; omega
                  · rw [epgo_cons_stop (by rw [hpo]; exact her), hpo] at hH
                    simp only at hH
                    subst hH
                    obtain ⟨oa, oc, rfl, hlc, hcm, -⟩ := own_form H.out.1
                    have t2 : (er != 0) = true := by rw [bne_iff_ne]; exact her
                    clear hd hd2 ht hd10 hq hql hqs hPq hpo her
                    go_wp2_with fail
                    rw [HQ.out]
                    refine (HPq.out _).mono ?_; rintro e w5 ⟨rfl, hb5⟩
                    have hbw := hb.trans hb5
                    go_wp2_with fail
                    go_ret3
                    exact RM.mk (epaV_nil _ _ _) (hbw.alloc _)
                · rw [if_neg hd10] at ht
                  have t1 : (((s[k]'hkl).toNat : Int) != 10) = true := by rw [bne, hd, u8_no hd10]; rfl
                  have HT := Lib.hid ht
                  clear hd hd2 ht hd10
                  go_wp2_with fail
                  go_roundg (s.size - (k + 1))
                  case rel => exact ⟨fr, k + 1, acc, rfl, by go_num, by omega, by omega, Lib.hid ⟨H.out.1, by rw [← HT.out]; exact H.out.2.1, by have := H.out.2.2.1; omega, H.out.2.2.2⟩, hb, rfl⟩
                  case measure => rw [G.out]; omega
              · obtain rfl : k = s.size := by omega
                have hr := H.out.2.1
                rw [show s.data.toList.drop s.size = [] from List.drop_of_length_le (by rw [← Lib.size_eq]; exact Nat.le_refl _)] at hr
                unfold spl epgo at hr
                subst hr
                obtain ⟨a, c, rfl, hE, hc1, hc2⟩ := own_ents H.out.1 H.out.2.2.2
                have HF := Lib.hid (And.intro hE (And.intro hc1 hc2))
                clear hE hc1 hc2 H
                go_wp2_with fail
                go_ret3
                exact RM.mk ⟨a, c, rfl, HF.out⟩ hb
          · rw [if_pos (fun e => by rw [(suf_last _).1 e] at hsf; exact h10 (of_decide_eq_true hsf.symm))] at hres
            subst hres
            have e10 : (((s[s.size - 1]'hk).toNat : Int) != 10) = true := by rw [hc, bne, u8_no h10]; rfl
            clear hn hsz h5 h2 hc hc2 hsf h10
            go_wp2_with fail
            go_ret3
            exact RM.mk (epaV_nil _ _ _) hb
end Go.Proofs.YtkbfjficmdgjpaaGreatDoor
/-
  A block of two cells, and what stays when it alone turns.
-/
namespace Go.Proofs.YtkbfjficmdgjpaaGreatDoor
open Go.RowKit
set_option linter.unusedSimpArgs false
set_option linter.unusedVariables false
set_option maxRecDepth 100000

/-! ### A block of two cells; what stays when it alone turns -/
def B2 (t : TypeId) (W : World) (B : Nat) (a b : Value) : Prop := W.heap[B]? = some (.cells #[a, b] t (0, 0))
theorem B2.bl {t : TypeId} {W W' : World} {B : Nat} {a b : Value} (h : B2 t W B a b) (k : Bl W W') : B2 t W' B a b := by
  unfold B2 at *
  rw [k.block B (Array.getElem?_eq_some_iff.1 h).1]; exact h
theorem B2.c0 {t : TypeId} {W : World} {B : Nat} {a b : Value} (h : B2 t W B a b) : W.cell? ⟨B, 0, none⟩ = some a := by rw [Lib.cell_of_heap h]; rfl
theorem B2.c1 {t : TypeId} {W : World} {B : Nat} {a b : Value} (h : B2 t W B a b) : W.cell? ⟨B, 1, none⟩ = some b := by rw [Lib.cell_of_heap h]; rfl
theorem B2.f {t : TypeId} {W : World} {B : Nat} {a b : Value} (h : B2 t W B a b) (i : Nat) : W.frozen? ⟨B, i, none⟩ = false := Lib.frozen_of_heap h i
theorem B2.new (t : TypeId) (W : World) (a b : Value) : B2 t (W.alloc (.cells #[a, b] t)) W.heap.size a b := World.alloc_heap_new W _
theorem B2.set0 {t : TypeId} {W : World} {B : Nat} {a b : Value} (h : B2 t W B a b) (u : Value) : B2 t (W.setCell ⟨B, 0, none⟩ u) B u b := by
  unfold B2 at *
  simp only [World.setCell, Array.getElem?_modify, if_true]
  rw [h]; rfl
theorem B2.set1 {t : TypeId} {W : World} {B : Nat} {a b : Value} (h : B2 t W B a b) (u : Value) : B2 t (W.setCell ⟨B, 1, none⟩ u) B a u := by
  unfold B2 at *
  simp only [World.setCell, Array.getElem?_modify, if_true]
  rw [h]; rfl
theorem B2.grown {t : TypeId} {W W' : World} {B : Nat} {a b v : Value} (h : B2 t W B a b) (hg : W.grownBy W' v.ownBlock) (hne : ∀ k, v.ownBlock = some k → k ≠ B) : B2 t W' B a b := by
  unfold B2 at *
  rw [hg.block B (Array.getElem?_eq_some_iff.1 h).1 (fun e => hne B e.symm rfl)]; exact h
theorem B2.lt {t : TypeId} {W : World} {B : Nat} {a b : Value} (h : B2 t W B a b) : B < W.heap.size := (Array.getElem?_eq_some_iff.1 h).1
theorem B2.other {t : TypeId} {W : World} {B b off : Nat} {x y u : Value} (h : B2 t W B x y) (hc : W.cell? ⟨b, off, none⟩ = some u) (h0 : u ≠ x) (h1 : u ≠ y) : b ≠ B := by
  rintro rfl
  match off, hc with
  | 0, hc => rw [h.c0] at hc; injection hc with hc; exact h0 hc.symm
  | 1, hc => rw [h.c1] at hc; injection hc with hc; exact h1 hc.symm
  | n + 2, hc => rw [Lib.cell_of_heap h] at hc; simp at hc
def KpT (T : Nat) (w0 w : World) : Prop := w0.heap.size ≤ w.heap.size ∧ ∀ k, k < w0.heap.size → k ≠ T → w.heap[k]? = w0.heap[k]?
theorem KpT.refl (T : Nat) (w : World) : KpT T w w := ⟨Nat.le_refl _, fun _ _ _ => rfl⟩
theorem KpT.bl {T : Nat} {w0 w w' : World} (h : KpT T w0 w) (k : Bl w w') : KpT T w0 w' := ⟨Nat.le_trans h.1 k.size, fun j hj hne => (k.block j (Nat.lt_of_lt_of_le hj h.1)).trans (h.2 j hj hne)⟩
theorem KpT.set {T : Nat} {w0 w : World} (h : KpT T w0 w) (i : Nat) (u : Value) : KpT T w0 (w.setCell ⟨T, i, none⟩ u) := ⟨by simpa [World.setCell] using h.1, fun j hj hne => (Below.heap_setCell w ⟨T, i, none⟩ u j hne).trans (h.2 j hj hne)⟩
theorem KpT.grown {T : Nat} {w0 w w' : World} {v : Value} (h : KpT T w0 w) (hg : w.grownBy w' v.ownBlock) (hb : ∀ k, v.ownBlock = some k → w0.heap.size ≤ k) : KpT T w0 w' :=
  ⟨Nat.le_trans h.1 hg.size, fun j hj hne => (hg.block j (Nat.lt_of_lt_of_le hj h.1) (fun e => by have := hb j e.symm; omega)).trans (h.2 j hj hne)⟩
theorem KpT.cell {T : Nat} {w0 w : World} (h : KpT T w0 w) {p : Addr} {u : Value} (hp : w0.cell? p = some u) (hne : p.block ≠ T) : w.cell? p = some u := by
  rw [World.cell?_of_block (h.2 p.block (lt_of_cell hp) hne)]; exact hp
end Go.Proofs.YtkbfjficmdgjpaaGreatDoor
/-
  Contracts of runs: Parse.
-/
namespace Go.Proofs.YtkbfjficmdgjpaaGreatDoor
open Go.RowKit
set_option linter.unusedSimpArgs false
set_option linter.unusedVariables false
set_option maxRecDepth 100000

theorem pfx_run (l p : List UInt8) : Lib.hasPrefix l p = decide (l.take p.length = p) := by
  unfold Lib.hasPrefix
  by_cases h : l.take p.length = p
  · rw [decide_eq_true h, List.isPrefixOf_iff_prefix, List.prefix_iff_eq_take]
    exact h.symm
  · rw [decide_eq_false h, Bool.eq_false_iff]
    intro e
    obtain ⟨t, rfl⟩ := List.isPrefixOf_iff_prefix.1 e
    exact h (by simp)
set_option maxHeartbeats 1000000 in
theorem litePreT (s p : ByteArray) (h : s.data.toList.take p.size = p.data.toList) (hs : s.size ≤ 100000) (w : World) : Calls Tryz.prog 44 #[.string s, .string p] w (RB w (.tuple #[.string (s.extract p.size s.size), .bool true])) := by
  have hH := fun w => show Calls Tryz.prog 65 #[.string s, .string p] w (RB w (.bool true)) from (Tryz.stringslite_HasPrefix s p w).mono (fun e w' h' => ⟨by rw [h'.1, pfx_run, decide_eq_true (by rw [← Lib.size_eq]; exact h)], by rw [h'.2]; exact Bl.refl _⟩)
  have hp : (p.size : Int) ≤ (s.size : Int) := by
    have := congrArg List.length h
    rw [List.length_take, ← Lib.size_eq, ← Lib.size_eq] at this; omega
  have HH := Lib.hid hH
  clear hH h
  go_enter Tryz.func44, Tryz.ntmps44
  go_wp2_with fail
  refine (HH.out _).mono ?_; rintro e w1 ⟨rfl, hb1⟩
  go_wp2_with fail
  go_ret2
  exact rb_tuple rfl rfl hb1
set_option maxHeartbeats 1000000 in
theorem litePreF (s p : ByteArray) (h : ¬ s.data.toList.take p.size = p.data.toList) (w : World) : Calls Tryz.prog 44 #[.string s, .string p] w (RB w (.tuple #[.string s, .bool false])) := by
  have hH := fun w => show Calls Tryz.prog 65 #[.string s, .string p] w (RB w (.bool false)) from (Tryz.stringslite_HasPrefix s p w).mono (fun e w' h' => ⟨by rw [h'.1, pfx_run, decide_eq_false (by rw [← Lib.size_eq]; exact h)], by rw [h'.2]; exact Bl.refl _⟩)
  have HH := Lib.hid hH
  clear hH h
  go_enter Tryz.func44, Tryz.ntmps44
  go_wp2_with fail
  refine (HH.out _).mono ?_; rintro e w1 ⟨rfl, hb1⟩
  go_wp2_with fail
  go_ret2
  exact rb_tuple rfl rfl hb1
set_option maxHeartbeats 1000000 in
theorem woPreT (s p : ByteArray) (h : s.data.toList.take p.size = p.data.toList) (hs : s.size ≤ 100000) (w : World) : Calls Tryz.prog 23 #[.string s, .string p] w (RB w (.tuple #[.string (s.extract p.size s.size), .bool true])) := by
  have HH := Lib.hid (fun w => litePreT s p h hs w)
  go_enter Tryz.func23, Tryz.ntmps23
  go_wp2_with fail
  refine (HH.out _).mono ?_; rintro e w1 ⟨rfl, hb1⟩
  go_wp2_with fail
  go_ret2
  exact rb_tuple rfl rfl hb1
set_option maxHeartbeats 1000000 in
theorem woPreF (s p : ByteArray) (h : ¬ s.data.toList.take p.size = p.data.toList) (w : World) : Calls Tryz.prog 23 #[.string s, .string p] w (RB w (.tuple #[.string s, .bool false])) := by
  have HH := Lib.hid (fun w => litePreF s p h w)
  go_enter Tryz.func23, Tryz.ntmps23
  go_wp2_with fail
  refine (HH.out _).mono ?_; rintro e w1 ⟨rfl, hb1⟩
  go_wp2_with fail
  go_ret2
  exact rb_tuple rfl rfl hb1
/-- A run, a line, an error as a result. -/
def RPaV (r : Rn × Int × Int) (w : World) (v : Value) : Prop := ∃ a c, v = .tuple #[r.1.v a c, .int .i64 r.2.1, .int .i64 r.2.2] ∧ ROk w a c r.1
theorem rnil_ok (w : World) : ROk w none 0 rnil := ⟨⟨by simp [rnil], fun h => absurd rfl h⟩, by simp [rnil], by unfold maxLen; omega, by simp [rnil], by simp [rnil]⟩
theorem epgo_line : ∀ (ls : List (List UInt8)) (i : Nat) (acc : List Ent), 0 ≤ (epgo i acc ls).2.1 ∧ (epgo i acc ls).2.1 ≤ ((i + ls.length : Nat) : Int)
  | [], i, acc => by unfold epgo; simp
  | s :: r, i, acc => by
    unfold epgo
    split
    · simp only [List.length_cons]; omega
    · have := epgo_line r (i + 1) (acc ++ [(pone s).1])
      rw [List.length_cons]
      omega
theorem eparse_linb (t : List UInt8) : 0 ≤ (eparse t).2.1 ∧ (eparse t).2.1 ≤ (t.length : Int) := by
  unfold eparse
  split
  · simp
  · split
    · simp
    · split
      · simp
      · have := epgo_line (spl [] t) 0 []
        rw [spl_cnt] at this
        have h2 := List.count_le_length (a := (10 : UInt8)) (l := t)
        omega
theorem clGo_at : ∀ (l : List Ent) (i : Nat) (p : Option ByteArray), 0 ≤ (clGo i p l).1 ∧ (clGo i p l).1 ≤ ((i + l.length : Nat) : Int)
  | [], i, p => by unfold clGo; simp
  | x :: r, i, p => by
    unfold clGo
    split
    · simp only [List.length_cons]; omega
    · split
      · simp only [List.length_cons]; omega
      · have := clGo_at r (i + 1) (some x.key)
        rw [List.length_cons]
        omega
theorem rck_at (r : Rn) : -1 ≤ (rck r).1 ∧ (rck r).1 ≤ 5000 := by
  unfold rck
  split
  · simp
  · unfold clchk
    split
    · simp
    · have := clGo_at r.es 0 none
      omega
end Go.Proofs.YtkbfjficmdgjpaaGreatDoor
/-
  Contracts of runs: the program's Parse.
-/
namespace Go.Proofs.YtkbfjficmdgjpaaGreatDoor
open Go.RowKit
set_option linter.unusedSimpArgs false
set_option linter.unusedVariables false
set_option maxRecDepth 100000

theorem ents_off {w : World} {a : Option Addr} {l : List Ent} (h : Ents w a l) {B : Nat} (hne : l ≠ [] → ∀ b off, a = some ⟨b, off, none⟩ → b ≠ B) (i : Nat) (u : Value) : Ents (w.setCell ⟨B, i, none⟩ u) a l := by
  refine ⟨h.ok, fun hn => ?_⟩
  obtain ⟨b, off, e, hat⟩ := h.at_ hn
  have hb := hne hn b off e
  have key : ∀ j, (w.setCell ⟨B, i, none⟩ u).cell? ⟨b, j, none⟩ = w.cell? ⟨b, j, none⟩ := fun j => World.cell?_setCell_other w ⟨B, i, none⟩ ⟨b, j, none⟩ u (by intro e; injection e with e; exact hb e.symm)
  exact ⟨b, off, e, fun k x hx => let t := hat k x hx; ⟨(key _).trans t.1, (key _).trans t.2, (key _).trans t.3, (key _).trans t.4⟩⟩
theorem ents_ne {w : World} {a : Option Addr} {l : List Ent} (h : Ents w a l) {t : TypeId} {B : Nat} {n : Int} {b : Option Addr} {k c : Nat} (hB : B2 t w B (.int .i64 n) (.slice b k c)) : l ≠ [] → ∀ b off, a = some ⟨b, off, none⟩ → b ≠ B := by
  intro hn b off e
  obtain ⟨b', off', e', hat⟩ := h.at_ hn
  rw [e] at e'
  injection e' with e'; injection e' with e1 e2
  subst e1 e2
  obtain ⟨x, m, rfl⟩ : ∃ x m, l = x :: m := by
    cases l with
    | nil => exact absurd rfl hn
    | cons x m => exact ⟨x, m, rfl⟩
  exact hB.other (hat 0 x rfl).key (by simp) (by simp)
set_option maxHeartbeats 8000000 in
theorem runParseT (s : ByteArray) (hs : s.size ≤ 100000) (w : World) (hE : WEnv w) : Calls Tryz.prog 8 #[.string s] w (RM w (RPaV (rparse s.data.toList))) := by
  obtain ⟨res, hres⟩ : ∃ r, rparse s.data.toList = r := ⟨_, rfl⟩
  rw [hres]
  unfold rparse at hres
  have hsz : s.data.toList.length = s.size := (Lib.size_eq s).symm
  rw [hsz, if_neg (by omega)] at hres
  have i1 : ¬ (1048576 : Int) < (s.size : Int) := by omega
  have hC := fun w => woCut s 10 (by omega) w
  have hl1 : (cutL 10 s.data.toList).1.length ≤ s.size ∧ (cutL 10 s.data.toList).2.1.length ≤ s.size := by
    unfold cutL
    have h1 := congrArg List.length (List.takeWhile_append_dropWhile (p := fun x => x != 10) (l := s.data.toList))
    rw [List.length_append, hsz] at h1
    simp only [List.length_drop]
    omega
  obtain ⟨⟨fl, rl, is⟩, hq⟩ : ∃ q, cutL 10 s.data.toList = q := ⟨_, rfl⟩
  rw [hq] at hC hl1 hres
  simp only at hC hl1 hres
  obtain ⟨f, hf⟩ : ∃ b : ByteArray, (⟨fl.toArray⟩ : ByteArray) = b := ⟨_, rfl⟩
  obtain ⟨r, hr⟩ : ∃ b : ByteArray, (⟨rl.toArray⟩ : ByteArray) = b := ⟨_, rfl⟩
  have hfl : fl = f.data.toList := by rw [← hf]
  have hrl : rl = r.data.toList := by rw [← hr]
  rw [hf, hr] at hC
  subst hfl hrl
  rw [← Lib.size_eq, ← Lib.size_eq] at hl1
  have HC := Lib.hid hC
  have HE := Lib.hid hE
  have hB0 : B2 24 (w.alloc (.cells #[.int .i64 0, .slice none 0 0] 24)) w.heap.size (.int .i64 0) (.slice none 0 0) := B2.new _ _ _ _
  have hb0 : Bl w (w.alloc (.cells #[.int .i64 0, .slice none 0 0] 24)) := (Bl.refl w).alloc _
  have HB0 := Lib.hid (And.intro hB0 hb0)
  clear hC hE hq hf hr hB0 hb0 hsz
  by_cases hp : f.data.toList.take 4 = runW
  · have HP := Lib.hid (fun w => woPreT f ⟨#[114, 117, 110, 32]⟩ hp (by omega) w)
    cases is with
    | false =>
      rw [if_pos (.inl rfl)] at hres
      subst hres
      go_enter Tryz.func8, Tryz.ntmps8
      go_wp2_with fail
      refine (HC.out _).mono ?_; rintro e w1 ⟨rfl, hd1⟩
      have hb1 := Bl.of_dr hd1
      go_wp2_with fail
      refine (HP.out _).mono ?_; rintro e w2 ⟨rfl, hb2⟩
      have hB := HB0.out.1.bl (hb1.trans hb2)
      have hb := HB0.out.2.trans (hb1.trans hb2)
      have c0 := B2.c0 hB
      have c1 := B2.c1 hB
      have f0 := B2.f hB 0
      have f1 := B2.f hB 1
      go_wp2_with fail
      have g2 := (B2.set1 (B2.set0 hB (.int .i64 0)) (.slice none 0 0))
      have r0 := g2.c0
      have r1 := g2.c1
      refine bodyPost_ret (v := .tuple #[.agg #[.int .i64 0, .slice none 0 0], .int .i64 (1), .int .i64 (6)]) (by simp [results, Tryz.results8, go_sem, r0, r1]) rfl ?_
      exact RM.mk ⟨none, 0, rfl, rnil_ok _⟩ (((hb).setCell _ (Nat.le_refl _) _).setCell _ (Nat.le_refl _) _)
    | true =>
      rw [if_neg (by simp [hp])] at hres
      obtain ⟨nb, hnb⟩ : ∃ z, f.extract 4 f.size = z := ⟨_, rfl⟩
      have hnl : nb.data.toList = f.data.toList.drop 4 := by rw [← hnb]; exact ext_dropW f 4
      have hns : nb.size ≤ 100000 := by rw [← hnb, ByteArray.size_extract]; omega
      have hI := fun w h => woInt nb 1 1000000 hns w h
      rw [hnl] at hI
      obtain ⟨⟨id, ie⟩, hw⟩ : ∃ z, wint (f.data.toList.drop 4) 1 1000000 = z := ⟨_, rfl⟩
      rw [hw] at hI hres
      simp only at hI hres
      have HI := Lib.hid hI
      have HNb := Lib.hid hnb
      clear hI hnb hnl hns
      by_cases hie : ie = 0
      · rw [if_neg (by simp [hie])] at hres
        subst hie
        have hidr : 1 ≤ id ∧ id ≤ 1000000 := by
          have := dig_run hw
          unfold wint at hw
          split at hw
          · split at hw
            · rename_i hb
              injection hw with hw _
              subst hw
              simp only [inI64, Bool.and_eq_true, decide_eq_true_eq] at hb
              exact ⟨hb.1.2, hb.2⟩
            · injection hw with _ hw; cases hw
          · injection hw with _ hw; cases hw
        have hEp := fun w h => entParseT r (by omega) w h
        have hlb := eparse_linb r.data.toList
        obtain ⟨⟨L, ln, le⟩, hep⟩ : ∃ z, eparse r.data.toList = z := ⟨_, rfl⟩
        rw [hep] at hEp hres hlb
        simp only at hres hlb
        rw [← Lib.size_eq] at hlb
        have HEp := Lib.hid hEp
        clear hw hep hEp
        by_cases hle : le = 0
        · rw [if_neg (by simp [hle])] at hres
          subst hle
          have hra := rck_at ⟨id, L⟩
          go_enter Tryz.func8, Tryz.ntmps8
          go_wp2_with fail
          refine (HC.out _).mono ?_; rintro e w1 ⟨rfl, hd1⟩
          have hb1 := Bl.of_dr hd1
          go_wp2_with fail
          refine (HP.out _).mono ?_; rintro e w2 ⟨rfl, hb2⟩
          have hb2 := hb1.trans hb2
          clear hd1 hb1
          go_wp2_with fail
          rw [HNb.out]
          refine (HI.out _ (HE.out.bl (HB0.out.2.trans hb2))).mono ?_; rintro e w3 ⟨rfl, hb3⟩
          have hb3 := hb2.trans hb3
          clear hb2
          go_wp2_with fail
          refine (HEp.out _ (HE.out.bl (HB0.out.2.trans hb3))).mono ?_; rintro e w4 ⟨v, rfl, ⟨ta, tc, rfl, hO, hlc, hcm⟩, hb4⟩
          have hB := HB0.out.1.bl (hb3.trans hb4)
          have hb := HB0.out.2.trans (hb3.trans hb4)
          simp only at hO hlc hcm ⊢
          have hB5 := B2.set1 (B2.set0 hB (.int .i64 id)) (.slice ta L.length tc)
          have hb5 : Bl w ((w4.setCell ⟨w.heap.size, 0, none⟩ (.int .i64 id)).setCell ⟨w.heap.size, 1, none⟩ (.slice ta L.length tc)) := (hb.setCell _ (Nat.le_refl _) _).setCell _ (Nat.le_refl _) _
          have hne := ents_ne hO hB
          have hO5 := ents_off (ents_off hO hne 0 (.int .i64 id)) hne 1 (.slice ta L.length tc)
          have hR5 : ROk ((w4.setCell ⟨w.heap.size, 0, none⟩ (.int .i64 id)).setCell ⟨w.heap.size, 1, none⟩ (.slice ta L.length tc)) ta tc ⟨id, L⟩ := ⟨hO5, hlc, hcm, by simp only; omega, by simp only; omega⟩
          have HR5 := Lib.hid hR5
          have hck := runCheck ta tc ⟨id, L⟩ _ hR5
          obtain ⟨⟨ci, ce⟩, hce⟩ : ∃ z, rck ⟨id, L⟩ = z := ⟨_, rfl⟩
          rw [hce] at hck hres hra
          unfold Rn.v at hck
          simp only at hck hres hra
          have HCk := Lib.hid hck
          have HBB := Lib.hid (And.intro hB5 hb5)
          have c0 := B2.c0 hB
          have c1 := B2.c1 hB
          have f0 := B2.f hB 0
          have f1 := B2.f hB 1
          have d0 := hB5.c0
          have d1 := hB5.c1
          have d2 := hB5.f 0
          have d3 := hB5.f 1
          clear hb4 hb3 hO hO5 hR5 hck hB5 hb5 hne hlc hcm hce
          go_wp2_with fail
          refine HCk.out.mono ?_; rintro e w6 ⟨rfl, hb6⟩
          have hB6 := HBB.out.1.bl hb6
          have hbw6 := HBB.out.2.trans hb6
          have HR6 := Lib.hid (HR5.out.bl hb6)
          clear c0 c1 f0 f1 d0 d1 d2 d3 hB hb
          by_cases hc0 : ce = 0
          · rw [if_neg (by simp [hc0])] at hres
            subst hres
            subst hc0
            have c0 := B2.c0 hB6
            have c1 := B2.c1 hB6
            have f0 := B2.f hB6 0
            have f1 := B2.f hB6 1
            go_wp2_with fail
            have g2 := (B2.set1 (B2.set0 hB6 (.int .i64 id)) (.slice ta L.length tc))
            have r0 := g2.c0
            have r1 := g2.c1
            refine bodyPost_ret (v := .tuple #[.agg #[.int .i64 id, .slice ta L.length tc], .int .i64 0, .int .i64 0]) (by simp [results, Tryz.results8, go_sem, r0, r1]) rfl ?_
            have hne := ents_ne HR6.out.ents hB6
            exact RM.mk ⟨ta, tc, rfl, ⟨ents_off (ents_off HR6.out.ents hne 0 _) hne 1 _, HR6.out.len, HR6.out.cap, HR6.out.lo, HR6.out.hi⟩⟩ ((hbw6.setCell _ (Nat.le_refl _) _).setCell _ (Nat.le_refl _) _)
          · rw [if_pos hc0] at hres
            subst hres
            have t1 : (ce != 0) = true := by rw [bne_iff_ne]; exact hc0
            clear hc0
            have c0 := B2.c0 hB6
            have c1 := B2.c1 hB6
            have f0 := B2.f hB6 0
            have f1 := B2.f hB6 1
            go_wp2_with fail
            have g2 := (B2.set1 (B2.set0 hB6 (.int .i64 0)) (.slice none 0 0))
            have r0 := g2.c0
            have r1 := g2.c1
            refine bodyPost_ret (v := .tuple #[.agg #[.int .i64 0, .slice none 0 0], .int .i64 ((ci + 2)), .int .i64 (ce)]) (by simp [results, Tryz.results8, go_sem, r0, r1]) rfl ?_
            exact RM.mk ⟨none, 0, rfl, rnil_ok _⟩ (((hbw6).setCell _ (Nat.le_refl _) _).setCell _ (Nat.le_refl _) _)
        · rw [if_pos hle] at hres
          subst hres
          have t1 : (le != 0) = true := by rw [bne_iff_ne]; exact hle
          clear hle
          by_cases hln : 0 < ln
          · have hrl : rline ln = ln + 1 := by unfold rline; rw [if_pos hln]
            rw [hrl]
            clear hrl
            go_enter Tryz.func8, Tryz.ntmps8
            go_wp2_with fail
            refine (HC.out _).mono ?_; rintro e w1 ⟨rfl, hd1⟩
            have hb1 := Bl.of_dr hd1
            go_wp2_with fail
            refine (HP.out _).mono ?_; rintro e w2 ⟨rfl, hb2⟩
            have hb2 := hb1.trans hb2
            clear hd1 hb1
            go_wp2_with fail
            rw [HNb.out]
            refine (HI.out _ (HE.out.bl (HB0.out.2.trans hb2))).mono ?_; rintro e w3 ⟨rfl, hb3⟩
            have hb3 := hb2.trans hb3
            clear hb2
            go_wp2_with fail
            refine (HEp.out _ (HE.out.bl (HB0.out.2.trans hb3))).mono ?_; rintro e w4 ⟨v, rfl, ⟨ta, tc, rfl, -, -, -⟩, hb4⟩
            have hB := HB0.out.1.bl (hb3.trans hb4)
            have hb := HB0.out.2.trans (hb3.trans hb4)
            simp only
            have c0 := B2.c0 hB
            have c1 := B2.c1 hB
            have f0 := B2.f hB 0
            have f1 := B2.f hB 1
            go_wp2_with fail
            have g2 := (B2.set1 (B2.set0 hB (.int .i64 0)) (.slice none 0 0))
            have r0 := g2.c0
            have r1 := g2.c1
            refine bodyPost_ret (v := .tuple #[.agg #[.int .i64 0, .slice none 0 0], .int .i64 ((ln + 1)), .int .i64 (le)]) (by simp [results, Tryz.results8, go_sem, r0, r1]) rfl ?_
            exact RM.mk ⟨none, 0, rfl, rnil_ok _⟩ (((hb).setCell _ (Nat.le_refl _) _).setCell _ (Nat.le_refl _) _)
          · have hrl : rline ln = ln := by unfold rline; rw [if_neg hln]
            rw [hrl]
            clear hrl
            go_enter Tryz.func8, Tryz.ntmps8
            go_wp2_with fail
            refine (HC.out _).mono ?_; rintro e w1 ⟨rfl, hd1⟩
            have hb1 := Bl.of_dr hd1
            go_wp2_with fail
            refine (HP.out _).mono ?_; rintro e w2 ⟨rfl, hb2⟩
            have hb2 := hb1.trans hb2
            clear hd1 hb1
            go_wp2_with fail
            rw [HNb.out]
            refine (HI.out _ (HE.out.bl (HB0.out.2.trans hb2))).mono ?_; rintro e w3 ⟨rfl, hb3⟩
            have hb3 := hb2.trans hb3
            clear hb2
            go_wp2_with fail
            refine (HEp.out _ (HE.out.bl (HB0.out.2.trans hb3))).mono ?_; rintro e w4 ⟨v, rfl, ⟨ta, tc, rfl, -, -, -⟩, hb4⟩
            have hB := HB0.out.1.bl (hb3.trans hb4)
            have hb := HB0.out.2.trans (hb3.trans hb4)
            simp only
            have c0 := B2.c0 hB
            have c1 := B2.c1 hB
            have f0 := B2.f hB 0
            have f1 := B2.f hB 1
            go_wp2_with fail
            have g2 := (B2.set1 (B2.set0 hB (.int .i64 0)) (.slice none 0 0))
            have r0 := g2.c0
            have r1 := g2.c1
            refine bodyPost_ret (v := .tuple #[.agg #[.int .i64 0, .slice none 0 0], .int .i64 (ln), .int .i64 (le)]) (by simp [results, Tryz.results8, go_sem, r0, r1]) rfl ?_
            exact RM.mk ⟨none, 0, rfl, rnil_ok _⟩ (((hb).setCell _ (Nat.le_refl _) _).setCell _ (Nat.le_refl _) _)
      · rw [if_pos hie] at hres
        subst hres
        have t1 : (ie != 0) = true := by rw [bne_iff_ne]; exact hie
        clear hie hw
        go_enter Tryz.func8, Tryz.ntmps8
        go_wp2_with fail
        refine (HC.out _).mono ?_; rintro e w1 ⟨rfl, hd1⟩
        have hb1 := Bl.of_dr hd1
        go_wp2_with fail
        refine (HP.out _).mono ?_; rintro e w2 ⟨rfl, hb2⟩
        have hb2 := hb1.trans hb2
        clear hd1 hb1
        go_wp2_with fail
        rw [HNb.out]
        refine (HI.out _ (HE.out.bl (HB0.out.2.trans hb2))).mono ?_; rintro e w3 ⟨rfl, hb3⟩
        have hB := HB0.out.1.bl (hb2.trans hb3)
        have hb := HB0.out.2.trans (hb2.trans hb3)
        have c0 := B2.c0 hB
        have c1 := B2.c1 hB
        have f0 := B2.f hB 0
        have f1 := B2.f hB 1
        go_wp2_with fail
        have g2 := (B2.set1 (B2.set0 hB (.int .i64 0)) (.slice none 0 0))
        have r0 := g2.c0
        have r1 := g2.c1
        refine bodyPost_ret (v := .tuple #[.agg #[.int .i64 0, .slice none 0 0], .int .i64 (1), .int .i64 (ie)]) (by simp [results, Tryz.results8, go_sem, r0, r1]) rfl ?_
        exact RM.mk ⟨none, 0, rfl, rnil_ok _⟩ (((hb).setCell _ (Nat.le_refl _) _).setCell _ (Nat.le_refl _) _)
  · have HP := Lib.hid (fun w => woPreF f ⟨#[114, 117, 110, 32]⟩ hp w)
    rw [if_pos (.inr hp)] at hres
    subst hres
    cases is with
    | false =>
      go_enter Tryz.func8, Tryz.ntmps8
      go_wp2_with fail
      refine (HC.out _).mono ?_; rintro e w1 ⟨rfl, hd1⟩
      have hb1 := Bl.of_dr hd1
      go_wp2_with fail
      refine (HP.out _).mono ?_; rintro e w2 ⟨rfl, hb2⟩
      have hB := HB0.out.1.bl (hb1.trans hb2)
      have hb := HB0.out.2.trans (hb1.trans hb2)
      have c0 := B2.c0 hB
      have c1 := B2.c1 hB
      have f0 := B2.f hB 0
      have f1 := B2.f hB 1
      go_wp2_with fail
      have g2 := (B2.set1 (B2.set0 hB (.int .i64 0)) (.slice none 0 0))
      have r0 := g2.c0
      have r1 := g2.c1
      refine bodyPost_ret (v := .tuple #[.agg #[.int .i64 0, .slice none 0 0], .int .i64 (1), .int .i64 (6)]) (by simp [results, Tryz.results8, go_sem, r0, r1]) rfl ?_
      exact RM.mk ⟨none, 0, rfl, rnil_ok _⟩ (((hb).setCell _ (Nat.le_refl _) _).setCell _ (Nat.le_refl _) _)
    | true =>
      go_enter Tryz.func8, Tryz.ntmps8
      go_wp2_with fail
      refine (HC.out _).mono ?_; rintro e w1 ⟨rfl, hd1⟩
      have hb1 := Bl.of_dr hd1
      go_wp2_with fail
      refine (HP.out _).mono ?_; rintro e w2 ⟨rfl, hb2⟩
      have hB := HB0.out.1.bl (hb1.trans hb2)
      have hb := HB0.out.2.trans (hb1.trans hb2)
      have c0 := B2.c0 hB
      have c1 := B2.c1 hB
      have f0 := B2.f hB 0
      have f1 := B2.f hB 1
      go_wp2_with fail
      have g2 := (B2.set1 (B2.set0 hB (.int .i64 0)) (.slice none 0 0))
      have r0 := g2.c0
      have r1 := g2.c1
      refine bodyPost_ret (v := .tuple #[.agg #[.int .i64 0, .slice none 0 0], .int .i64 (1), .int .i64 (6)]) (by simp [results, Tryz.results8, go_sem, r0, r1]) rfl ?_
      exact RM.mk ⟨none, 0, rfl, rnil_ok _⟩ (((hb).setCell _ (Nat.le_refl _) _).setCell _ (Nat.le_refl _) _)
end Go.Proofs.YtkbfjficmdgjpaaGreatDoor
/-
  Contracts of runs: the reference's Print, Same.
-/
namespace Go.Proofs.YtkbfjficmdgjpaaGreatDoor
open Go.RowKit
set_option linter.unusedSimpArgs false
set_option linter.unusedVariables false
set_option maxRecDepth 100000

set_option maxHeartbeats 4000000 in
theorem refRunPrint (a : Option Addr) (c : Nat) (r : Rn) (w : World) (h : ROk w a c r) : Calls Tryz.prog 7 #[r.v a c] w (RB w (.tuple #[.string ⟨(rprint r).1.toArray⟩, .int .i64 (rprint r).2])) := by
  obtain ⟨res, hres⟩ : ∃ x, rprint r = x := ⟨_, rfl⟩
  rw [hres]
  unfold rprint at hres
  have hC := fun w h => refRunCheck a c r w h
  have hP := fun w h => refPrintE a c r.es w h (Nat.le_trans (ROk.len (by assumption : ROk _ a c r)) (ROk.cap (by assumption : ROk _ a c r)))
  have hel := eprint_len r.es
  have HO := Lib.hid h
  obtain ⟨ck, hck⟩ : ∃ x, (rck r).2 = x := ⟨_, rfl⟩
  rw [hck] at hC hres
  have hD := fun (h1 : (rck r).2 = 0) w => refDigits _ r.id rfl (by have := rck_ok h1; omega) (by have := rck_ok h1; omega) w
  have him := fun (h1 : (rck r).2 = 0) => Lib.itoa_length_le r.id (by have := rck_ok h1; omega) (by have := rck_ok h1; omega)
  unfold Rn.v at hC ⊢
  generalize eprint r.es = ep at hP hres hel
  obtain ⟨el, en⟩ := ep
  simp only at hP hres hel
  obtain ⟨es, hes⟩ : ∃ q : ByteArray, (⟨el.toArray⟩ : ByteArray) = q := ⟨_, rfl⟩
  have hed : el = es.data.toList := by rw [← hes]
  subst hed
  rw [hes] at hP
  rw [← Lib.size_eq] at hel
  have HC := Lib.hid hC
  have HP := Lib.hid hP
  clear hC hP h hes
  have hb0 : Bl w (w.alloc (.cells #[.int .i64 r.id, .slice a r.es.length c] 24)) := (by repeat (first | assumption | exact Bl.refl _ | apply Bl.drewN | apply Bl.drew | apply Bl.alloc | (refine Bl.dr ?_ (by assumption)) | (refine Bl.trans ?_ (by assumption))))
  by_cases hc0 : ck = 0
  · subst hc0
    rw [if_neg (by simp)] at hres
    have hD := hD hck
    have him := him hck
    clear hck
    by_cases hen : en = 0
    · subst hen
      rw [if_neg (by simp)] at hres
      obtain ⟨q, hq⟩ : ∃ q : ByteArray, (⟨(Lib.itoa r.id).toArray⟩ : ByteArray) = q := ⟨_, rfl⟩
      have hqd : q.data.toList = Lib.itoa r.id := by rw [← hq]
      have hqs : q.size ≤ 21 := by rw [Lib.size_eq, hqd]; exact him
      rw [hq] at hD
      have HD := Lib.hid hD
      have HQ := Lib.hid hqd
      have i4 : ¬ 9223372036854775807 < 4 + q.size := by omega
      have i5 : ¬ 9223372036854775807 < 4 + q.size + 1 := by omega
      have i6 : ¬ 9223372036854775807 < 4 + q.size + 1 + es.size := by omega
      obtain ⟨T, hT⟩ : ∃ T : ByteArray, (⟨#[114, 117, 110, 32]⟩ : ByteArray) ++ q ++ ⟨#[10]⟩ ++ es = T := ⟨_, rfl⟩
      have hTd : T.data.toList = rheadB r.id ++ es.data.toList := by rw [← hT, catB, catR, hqd]; rfl
      have hTs : T.size = 4 + q.size + 1 + es.size := by rw [← hT, ByteArray.size_append, ByteArray.size_append, ByteArray.size_append]; rfl
      rw [← hTd, ← Lib.size_eq] at hres
      have HT := Lib.hid hT
      have HTl := Lib.hid (show T = ⟨T.data.toList.toArray⟩ from rfl)
      clear hD hq hqd hT him hTd
      by_cases hbig : 1048576 < T.size
      · rw [if_pos hbig] at hres
        subst hres
        have n1 : decide (1048576 < 4 + q.size + 1 + es.size) = true := by rw [decide_eq_true_eq, ← hTs]; exact hbig
        have n2 : decide ((1048576 : Int) < 4 + (q.size : Int) + 1 + (es.size : Int)) = true := by rw [decide_eq_true_eq]; omega
        have n3 : (1048576 : Int) < 4 + (q.size : Int) + 1 + (es.size : Int) := by omega
        clear hbig hTs
        go_enter Tryz.func7, Tryz.ntmps7
        go_wp2_with fail
        refine (HC.out _ (HO.out.bl hb0)).mono ?_; rintro e w1 ⟨rfl, hb1⟩
        have c0 : w1.cell? ⟨w.heap.size, 0, none⟩ = some (.int .i64 r.id) := hb1.cell (by simp [go_sem])
        have c1 : w1.cell? ⟨w.heap.size, 1, none⟩ = some (.slice a r.es.length c) := hb1.cell (by simp [go_sem])
        have hbw := hb0.trans hb1
        go_wp2_with fail
        refine (HP.out _ (HO.out.bl hbw).ents).mono ?_; rintro e w2 ⟨rfl, hb2⟩
        have c0 := hb2.cell c0
        have hbw2 := hbw.trans hb2
        go_wp2_with fail
        refine (HD.out _).mono ?_; rintro e w3 ⟨rfl, hb3⟩
        have hbF := hbw2.trans hb3
        go_wp2_with fail
        go_ret2
        exact rb_tuple rfl rfl hbF
      · rw [if_neg hbig] at hres
        subst hres
        have n1 : decide (1048576 < 4 + q.size + 1 + es.size) = false := by rw [decide_eq_false_iff_not, ← hTs]; exact hbig
        have n2 : decide ((1048576 : Int) < 4 + (q.size : Int) + 1 + (es.size : Int)) = false := by rw [decide_eq_false_iff_not]; omega
        have n3 : ¬ (1048576 : Int) < 4 + (q.size : Int) + 1 + (es.size : Int) := by omega
        clear hbig hTs
        go_enter Tryz.func7, Tryz.ntmps7
        go_wp2_with fail
        refine (HC.out _ (HO.out.bl hb0)).mono ?_; rintro e w1 ⟨rfl, hb1⟩
        have c0 : w1.cell? ⟨w.heap.size, 0, none⟩ = some (.int .i64 r.id) := hb1.cell (by simp [go_sem])
        have c1 : w1.cell? ⟨w.heap.size, 1, none⟩ = some (.slice a r.es.length c) := hb1.cell (by simp [go_sem])
        have hbw := hb0.trans hb1
        go_wp2_with fail
        refine (HP.out _ (HO.out.bl hbw).ents).mono ?_; rintro e w2 ⟨rfl, hb2⟩
        have c0 := hb2.cell c0
        have hbw2 := hbw.trans hb2
        go_wp2_with fail
        refine (HD.out _).mono ?_; rintro e w3 ⟨rfl, hb3⟩
        have hbF := hbw2.trans hb3
        go_wp2_with fail
        go_ret2
        exact rb_tuple (sval HT.out) rfl hbF
    · rw [if_pos hen] at hres
      subst hres
      have t1 : (en != 0) = true := by rw [bne_iff_ne]; exact hen
      clear hen hD him
      go_enter Tryz.func7, Tryz.ntmps7
      go_wp2_with fail
      refine (HC.out _ (HO.out.bl hb0)).mono ?_; rintro e w1 ⟨rfl, hb1⟩
      have c1 : w1.cell? ⟨w.heap.size, 1, none⟩ = some (.slice a r.es.length c) := hb1.cell (by simp [go_sem])
      have hbw := hb0.trans hb1
      go_wp2_with fail
      refine (HP.out _ (HO.out.bl hbw).ents).mono ?_; rintro e w2 ⟨rfl, hb2⟩
      go_wp2_with fail
      go_ret2
      exact rb_tuple rfl rfl (hbw.trans hb2)
  · rw [if_pos hc0] at hres
    subst hres
    have t1 : (ck != 0) = true := by rw [bne_iff_ne]; exact hc0
    clear hc0 hD him hck
    go_enter Tryz.func7, Tryz.ntmps7
    go_wp2_with fail
    refine (HC.out _ (HO.out.bl hb0)).mono ?_; rintro e w1 ⟨rfl, hb1⟩
    go_wp2_with fail
    go_ret2
    exact rb_tuple rfl rfl (hb0.trans hb1)

set_option maxHeartbeats 2000000 in
theorem refRunSame (a b : Option Addr) (c d : Nat) (r : Rn) (w : World) (ha : ROk w a c r) (hb : ROk w b d r) : Calls Tryz.prog 10 #[r.v a c, r.v b d] w (RB w (.bool true)) := by
  have hS := fun w h1 h2 => (refSameE a b c d r.es r.es w h1 h2 (Nat.le_trans ha.len ha.cap) (Nat.le_trans ha.len ha.cap)).mono (fun e w' h => (show RB w (.bool true) e w' by simpa using h))
  have HS := Lib.hid hS
  have HA := Lib.hid ha.ents
  have HB := Lib.hid hb.ents
  unfold Rn.v
  clear ha hb hS
  go_enter Tryz.func10, Tryz.ntmps10
  go_wp2_with fail
  refine (HS.out _ (HA.out.bl (((Bl.refl w).alloc _).alloc _)) (HB.out.bl (((Bl.refl w).alloc _).alloc _))).mono ?_; rintro e w1 ⟨rfl, hb1⟩
  go_wp2_with fail
  go_ret
  exact RB.mk rfl ((((Bl.refl w).alloc _).alloc _).trans hb1)
end Go.Proofs.YtkbfjficmdgjpaaGreatDoor
/-
  Contracts of runs: the reference's Parse.
-/
namespace Go.Proofs.YtkbfjficmdgjpaaGreatDoor
open Go.RowKit
set_option linter.unusedSimpArgs false
set_option linter.unusedVariables false
set_option maxRecDepth 100000

theorem cut_none {l : List UInt8} (h : ∀ j : Nat, j < l.length → l[j]? ≠ some 10) : (cutL 10 l).2.2 = false := by
  unfold cutL
  simp only
  cases e : l.contains 10
  · rfl
  · exfalso
    have hm : (10 : UInt8) ∈ l := by simpa using e
    obtain ⟨j, hj, he⟩ := List.getElem_of_mem hm
    exact h j hj (by rw [List.getElem?_eq_getElem hj, he])
theorem cut_some {l : List UInt8} {k : Nat} (h : ∀ j : Nat, j < k → l[j]? ≠ some 10) (hk : l[k]? = some 10) : cutL 10 l = (l.take k, l.drop (k + 1), true) := by
  obtain ⟨h1, h2⟩ := List.getElem?_eq_some_iff.1 hk
  have e : l = l.take k ++ 10 :: l.drop (k + 1) := by
    conv => lhs; rw [← List.take_append_drop k l, List.drop_eq_getElem_cons h1, h2]
  conv => lhs; rw [e]
  exact cut_at (fun c hc e => by
    subst e
    obtain ⟨j, hj, he⟩ := List.getElem_of_mem hc
    rw [List.length_take] at hj
    rw [List.getElem_take] at he
    exact h j (by omega) (by rw [List.getElem?_eq_getElem (by omega), he]))
set_option maxHeartbeats 8000000 in
theorem refRunParseT (s : ByteArray) (hs : s.size ≤ 100000) (w : World) : Calls Tryz.prog 9 #[.string s] w (RM w (RPaV (rparse s.data.toList))) := by
  obtain ⟨res, hres⟩ : ∃ r, rparse s.data.toList = r := ⟨_, rfl⟩
  rw [hres]
  unfold rparse at hres
  have hsz : s.data.toList.length = s.size := (Lib.size_eq s).symm
  rw [hsz, if_neg (by omega)] at hres
  have i1 : ¬ (1048576 : Int) < (s.size : Int) := by omega
  have hB0 : B2 24 (w.alloc (.cells #[.int .i64 0, .slice none 0 0] 24)) w.heap.size (.int .i64 0) (.slice none 0 0) := B2.new _ _ _ _
  have hb0 : Bl w (w.alloc (.cells #[.int .i64 0, .slice none 0 0] 24)) := (Bl.refl w).alloc _
  have HRes := Lib.hid hres
  have HSz := Lib.hid hsz
  clear hres hsz
  go_enter Tryz.func9, Tryz.ntmps9
  go_wp2_with fail
  obtain ⟨wB, hwB⟩ : ∃ z, w.alloc (.cells #[.int .i64 0, .slice none 0 0] 24) = z := ⟨_, rfl⟩
  rw [hwB] at hB0 hb0 ⊢
  have HB0 := Lib.hid (And.intro hB0 hb0)
  clear hwB hB0 hb0
  go_loopg [5] s.size (fun g v wr => ∃ k : Nat, v = .int .i64 k ∧ k ≤ s.size ∧ Hid (∀ j : Nat, j < k → s.data.toList[j]? ≠ some 10) ∧ Bl wB wr ∧ g = s.size - k)
  case atStart => exact ⟨0, rfl, Nat.zero_le _, Lib.hid (fun j h => absurd h (Nat.not_lt_zero _)), Bl.refl _, rfl⟩
  case round =>
    obtain ⟨k, rfl, hks, HNo, hb, hg⟩ := hrel
    have G := Lib.hid hg
    clear hg
    have hB := HB0.out.1.bl hb
    have hbw := HB0.out.2.trans hb
    by_cases hkl : k < s.size
    · obtain ⟨d, hd⟩ : ∃ d, s[k]'hkl = d := ⟨_, rfl⟩
      have hd2 : s.data.toList[k]? = some d := by rw [← hd]; simp [ByteArray.getElem_eq_getElem_data]
      have j0 : (0 : Int) ≤ (k : Int) := by omega
      have j1 : (k : Int) < (s.size : Int) := by omega
      by_cases hd10 : d = 10
      · have t1 : (((s[k]'hkl).toNat : Int) != 10) = false := by rw [hd, hd10]; rfl
        have hcs := cut_some HNo.out (by rw [hd2, hd10])
        have hres := HRes.out
        rw [hcs] at hres
        simp only at hres
        have j2 : ((k : Int) == (s.size : Int)) = false := by rw [beq_eq_false_iff_ne]; omega
        clear hd hd2 hd10 hcs HRes
        by_cases h4 : k < 4
        · have hr0 : res = (rnil, 1, 6) := by
            rw [if_pos (.inr (fun e => by
              have := congrArg List.length e
              rw [List.length_take, List.length_take] at this
              simp [runW] at this; omega))] at hres
            exact hres.symm
          subst hr0
          have j3 : decide ((k : Int) < 4) = true := by rw [decide_eq_true_eq]; omega
          have c0 := B2.c0 hB
          have c1 := B2.c1 hB
          have f0 := B2.f hB 0
          have f1 := B2.f hB 1
          go_wp2_with fail
          have g2 := (B2.set1 (B2.set0 hB (.int .i64 0)) (.slice none 0 0))
          have r0 := g2.c0
          have r1 := g2.c1
          refine bodyPost_ret (v := .tuple #[.agg #[.int .i64 0, .slice none 0 0], .int .i64 (1), .int .i64 (6)]) (by simp [results, Tryz.results9, go_sem, r0, r1]) rfl ?_
          exact RM.mk ⟨none, 0, rfl, rnil_ok _⟩ (((hbw).setCell _ (Nat.le_refl _) _).setCell _ (Nat.le_refl _) _)
        · have j3 : decide ((k : Int) < 4) = false := by rw [decide_eq_false_iff_not]; omega
          have j4 : (4 : Int) ≤ (s.size : Int) := by omega
          have j5 : (4 : Int) ≤ (k : Int) := by omega
          have hx4 : (s.extract 0 4).data.toList = s.data.toList.take 4 := ext_takeW s 4 (by omega)
          have htt : (s.data.toList.take k).take 4 = s.data.toList.take 4 := by rw [List.take_take, Nat.min_eq_left (by omega)]
          rw [htt] at hres
          by_cases hp : s.data.toList.take 4 = runW
          · have p1 : ((s.extract 0 4).toList == [114, 117, 110, 32]) = true := by rw [toL, hx4, hp]; rfl
            rw [if_neg (by simp [hp])] at hres
            obtain ⟨q, hq⟩ : ∃ q, s.extract 4 k = q := ⟨_, rfl⟩
            have hql : q.data.toList = (s.data.toList.take k).drop 4 := by rw [← hq]; exact ext_list s 4 k
            have hqs : q.size ≤ 100000 := by rw [← hq, ByteArray.size_extract]; omega
            have hI := fun w => refInt q 1 1000000 hqs w
            rw [hql] at hI
            have hwe := wint_err ((s.data.toList.take k).drop 4) 1 1000000
            obtain ⟨⟨id, ie⟩, hw⟩ : ∃ z, wint ((s.data.toList.take k).drop 4) 1 1000000 = z := ⟨_, rfl⟩
            rw [hw] at hI hres hwe
            simp only at hI hres hwe
            have HI := Lib.hid hI
            have HQ := Lib.hid hq
            have j6 : (k : Int) ≤ (s.size : Int) := by omega
            clear hq hql hqs hI hx4 htt hp
            rcases hwe with rfl | rfl | rfl
            · rw [if_neg (by simp)] at hres
              have hidr : 1 ≤ id ∧ id ≤ 1000000 := by
                unfold wint at hw
                split at hw
                · split at hw
                  · rename_i hb
                    injection hw with hw _
                    subst hw
                    simp only [inI64, Bool.and_eq_true, decide_eq_true_eq] at hb
                    exact ⟨hb.1.2, hb.2⟩
                  · injection hw with _ hw; cases hw
                · injection hw with _ hw; cases hw
              obtain ⟨r, hr⟩ : ∃ q, s.extract (k + 1) s.size = q := ⟨_, rfl⟩
              have hrl : r.data.toList = s.data.toList.drop (k + 1) := by rw [← hr]; exact ext_dropW s (k + 1)
              have hrs : r.size ≤ 100000 := by rw [← hr, ByteArray.size_extract]; omega
              have hEp := fun w => refParseT r hrs w
              rw [← hrl] at hres
              have hlb := eparse_linb r.data.toList
              obtain ⟨⟨L, ln, le⟩, hep⟩ : ∃ z, eparse r.data.toList = z := ⟨_, rfl⟩
              rw [hep] at hEp hres hlb
              simp only at hres hlb
              rw [← Lib.size_eq] at hlb
              have HEp := Lib.hid hEp
              have HR := Lib.hid hr
              have j7 : ((k : Int) + 1).toNat = k + 1 := by omega
              have j8 : (k : Int) + 1 ≤ (s.size : Int) := by omega
              have j9 : (0 : Int) ≤ (k : Int) + 1 := by omega
              clear hw hep hEp hr hrl
              have c0 := B2.c0 hB
              have c1 := B2.c1 hB
              have f0 := B2.f hB 0
              have f1 := B2.f hB 1
              go_wp2_with fail
              rw [HQ.out]
              refine (HI.out _).mono ?_; rintro e w3 ⟨rfl, hb3⟩
              have hB3 := hB.bl hb3
              have hb3w := hbw.trans hb3
              clear c0 c1 f0 f1
              have c0 := B2.c0 hB3
              have c1 := B2.c1 hB3
              have f0 := B2.f hB3 0
              have f1 := B2.f hB3 1
              go_wp2_with fail
              rw [HR.out]
              refine (HEp.out _).mono ?_; rintro e w4 ⟨v, rfl, ⟨ta, tc, rfl, hO, hlc, hcm⟩, hb4⟩
              have hB4 := hB3.bl hb4
              have hb4w := hb3w.trans hb4
              simp only at hO hlc hcm ⊢
              clear c0 c1 f0 f1 hB hB3 hb3 hb4 hb3w
              by_cases hle : le = 0
              · rw [if_neg (by simp [hle])] at hres
                subst hle
                have hra := rck_at ⟨id, L⟩
                have hbA : Bl w4 (w4.alloc (.cells #[.int .i64 id, .slice ta L.length tc] 24)) := (Bl.refl _).alloc _
                have hR5 : ROk (w4.alloc (.cells #[.int .i64 id, .slice ta L.length tc] 24)) ta tc ⟨id, L⟩ := ⟨hO.bl hbA, hlc, hcm, by simp only; omega, by simp only; omega⟩
                have hV5 : B2 24 (w4.alloc (.cells #[.int .i64 id, .slice ta L.length tc] 24)) w4.heap.size (.int .i64 id) (.slice ta L.length tc) := B2.new _ _ _ _
                have HR5 := Lib.hid hR5
                have hck := refRunCheck ta tc ⟨id, L⟩ _ hR5
                obtain ⟨⟨ci, ce⟩, hce⟩ : ∃ z, rck ⟨id, L⟩ = z := ⟨_, rfl⟩
                rw [hce] at hck hres hra
                unfold Rn.v at hck
                simp only at hck hres hra
                have HCk := Lib.hid hck
                have HBB := Lib.hid (And.intro (hB4.bl hbA) (And.intro hV5 (hb4w.trans hbA)))
                have hlt4 := hB4.lt
                clear hO hR5 hck hV5 hlc hcm hce hbA hb4w hB4
                go_wp2_with fail
                refine HCk.out.mono ?_; rintro e w6 ⟨rfl, hb6⟩
                have hB6 := HBB.out.1.bl hb6
                have hV6 := HBB.out.2.1.bl hb6
                have hbw6 := HBB.out.2.2.trans hb6
                have HR6 := Lib.hid (HR5.out.bl hb6)
                by_cases hc0 : ce = 0
                · rw [if_neg (by simp [hc0])] at hres
                  subst hres
                  subst hc0
                  have c0 := B2.c0 hB6
                  have c1 := B2.c1 hB6
                  have f0 := B2.f hB6 0
                  have f1 := B2.f hB6 1
                  have v0 := hV6.c0
                  have v1 := hV6.c1
                  go_wp2_with fail
                  have g2 := (B2.set1 (B2.set0 hB6 (.int .i64 id)) (.slice ta L.length tc))
                  have r0 := g2.c0
                  have r1 := g2.c1
                  refine bodyPost_ret (v := .tuple #[.agg #[.int .i64 id, .slice ta L.length tc], .int .i64 0, .int .i64 0]) (by simp [results, Tryz.results9, go_sem, r0, r1]) rfl ?_
                  have hne := ents_ne HR6.out.ents hB6
                  exact RM.mk ⟨ta, tc, rfl, ⟨ents_off (ents_off HR6.out.ents hne 0 _) hne 1 _, HR6.out.len, HR6.out.cap, HR6.out.lo, HR6.out.hi⟩⟩ ((hbw6.setCell _ (Nat.le_refl _) _).setCell _ (Nat.le_refl _) _)
                · rw [if_pos hc0] at hres
                  subst hres
                  have t2 : (ce != 0) = true := by rw [bne_iff_ne]; exact hc0
                  clear hc0
                  have c0 := B2.c0 hB6
                  have c1 := B2.c1 hB6
                  have f0 := B2.f hB6 0
                  have f1 := B2.f hB6 1
                  go_wp2_with fail
                  have g2 := (B2.set1 (B2.set0 hB6 (.int .i64 0)) (.slice none 0 0))
                  have r0 := g2.c0
                  have r1 := g2.c1
                  refine bodyPost_ret (v := .tuple #[.agg #[.int .i64 0, .slice none 0 0], .int .i64 ((ci + 2)), .int .i64 (ce)]) (by simp [results, Tryz.results9, go_sem, r0, r1]) rfl ?_
                  exact RM.mk ⟨none, 0, rfl, rnil_ok _⟩ (((hbw6).setCell _ (Nat.le_refl _) _).setCell _ (Nat.le_refl _) _)
              · rw [if_pos hle] at hres
                have t2 : (le != 0) = true := by rw [bne_iff_ne]; exact hle
                clear hle
                have c0 := B2.c0 hB4
                have c1 := B2.c1 hB4
                have f0 := B2.f hB4 0
                have f1 := B2.f hB4 1
                by_cases hln : 0 < ln
                · have hrl : rline ln = ln + 1 := by unfold rline; rw [if_pos hln]
                  rw [hrl] at hres
                  subst hres
                  clear hrl
                  go_wp2_with fail
                  have g2 := (B2.set1 (B2.set0 hB4 (.int .i64 0)) (.slice none 0 0))
                  have r0 := g2.c0
                  have r1 := g2.c1
                  refine bodyPost_ret (v := .tuple #[.agg #[.int .i64 0, .slice none 0 0], .int .i64 ((ln + 1)), .int .i64 (le)]) (by simp [results, Tryz.results9, go_sem, r0, r1]) rfl ?_
                  exact RM.mk ⟨none, 0, rfl, rnil_ok _⟩ (((hb4w).setCell _ (Nat.le_refl _) _).setCell _ (Nat.le_refl _) _)
                · have hrl : rline ln = ln := by unfold rline; rw [if_neg hln]
                  rw [hrl] at hres
                  subst hres
                  clear hrl
                  go_wp2_with fail
                  have g2 := (B2.set1 (B2.set0 hB4 (.int .i64 0)) (.slice none 0 0))
                  have r0 := g2.c0
                  have r1 := g2.c1
                  refine bodyPost_ret (v := .tuple #[.agg #[.int .i64 0, .slice none 0 0], .int .i64 (ln), .int .i64 (le)]) (by simp [results, Tryz.results9, go_sem, r0, r1]) rfl ?_
                  exact RM.mk ⟨none, 0, rfl, rnil_ok _⟩ (((hb4w).setCell _ (Nat.le_refl _) _).setCell _ (Nat.le_refl _) _)
            · rw [if_pos (by decide)] at hres
              subst hres
              clear hw
              have c0 := B2.c0 hB
              have c1 := B2.c1 hB
              have f0 := B2.f hB 0
              have f1 := B2.f hB 1
              go_wp2_with fail
              rw [HQ.out]
              refine (HI.out _).mono ?_; rintro e w3 ⟨rfl, hb3⟩
              have hB3 := hB.bl hb3
              have hb3w := hbw.trans hb3
              clear c0 c1 f0 f1
              have c0 := B2.c0 hB3
              have c1 := B2.c1 hB3
              have f0 := B2.f hB3 0
              have f1 := B2.f hB3 1
              go_wp2_with fail
              have g2 := (B2.set1 (B2.set0 hB3 (.int .i64 0)) (.slice none 0 0))
              have r0 := g2.c0
              have r1 := g2.c1
              refine bodyPost_ret (v := .tuple #[.agg #[.int .i64 0, .slice none 0 0], .int .i64 (1), .int .i64 (6)]) (by simp [results, Tryz.results9, go_sem, r0, r1]) rfl ?_
              exact RM.mk ⟨none, 0, rfl, rnil_ok _⟩ (((hb3w).setCell _ (Nat.le_refl _) _).setCell _ (Nat.le_refl _) _)
            · rw [if_pos (by decide)] at hres
              subst hres
              clear hw
              have c0 := B2.c0 hB
              have c1 := B2.c1 hB
              have f0 := B2.f hB 0
              have f1 := B2.f hB 1
              go_wp2_with fail
              rw [HQ.out]
              refine (HI.out _).mono ?_; rintro e w3 ⟨rfl, hb3⟩
              have hB3 := hB.bl hb3
              have hb3w := hbw.trans hb3
              clear c0 c1 f0 f1
              have c0 := B2.c0 hB3
              have c1 := B2.c1 hB3
              have f0 := B2.f hB3 0
              have f1 := B2.f hB3 1
              go_wp2_with fail
              have g2 := (B2.set1 (B2.set0 hB3 (.int .i64 0)) (.slice none 0 0))
              have r0 := g2.c0
              have r1 := g2.c1
              refine bodyPost_ret (v := .tuple #[.agg #[.int .i64 0, .slice none 0 0], .int .i64 (1), .int .i64 (7)]) (by simp [results, Tryz.results9, go_sem, r0, r1]) rfl ?_
              exact RM.mk ⟨none, 0, rfl, rnil_ok _⟩ (((hb3w).setCell _ (Nat.le_refl _) _).setCell _ (Nat.le_refl _) _)
          · have p1 : ((s.extract 0 4).toList == [114, 117, 110, 32]) = false := by rw [toL, hx4, beq_eq_false_iff_ne]; exact hp
            rw [if_pos (.inr hp)] at hres
            subst hres
            clear hx4 htt hp
            have c0 := B2.c0 hB
            have c1 := B2.c1 hB
            have f0 := B2.f hB 0
            have f1 := B2.f hB 1
            go_wp2_with fail
            have g2 := (B2.set1 (B2.set0 hB (.int .i64 0)) (.slice none 0 0))
            have r0 := g2.c0
            have r1 := g2.c1
            refine bodyPost_ret (v := .tuple #[.agg #[.int .i64 0, .slice none 0 0], .int .i64 (1), .int .i64 (6)]) (by simp [results, Tryz.results9, go_sem, r0, r1]) rfl ?_
            exact RM.mk ⟨none, 0, rfl, rnil_ok _⟩ (((hbw).setCell _ (Nat.le_refl _) _).setCell _ (Nat.le_refl _) _)
      · have t1 : (((s[k]'hkl).toNat : Int) != 10) = true := by rw [bne, hd, u8_no hd10]; rfl
        have hno : ∀ j : Nat, j < k + 1 → s.data.toList[j]? ≠ some 10 := by
          intro j h e
          rcases (by omega : j < k ∨ j = k) with h | rfl
          · exact HNo.out j h e
          · rw [hd2] at e; injection e with e; exact hd10 e
        have HN2 := Lib.hid hno
        clear hd hd2 hd10 hno hB
        go_wp2_with fail
        go_roundg (s.size - (k + 1))
        case rel => exact ⟨k + 1, by go_num, by omega, HN2, hb, rfl⟩
        case measure => rw [G.out]; omega
    · obtain rfl : k = s.size := by omega
      have hcn := cut_none (l := s.data.toList) (fun j h => HNo.out j (by rw [HSz.out] at h; exact h))
      have hres := HRes.out
      rw [if_pos (.inl hcn)] at hres
      subst hres
      clear hcn HRes
      have c0 := B2.c0 hB
      have c1 := B2.c1 hB
      have f0 := B2.f hB 0
      have f1 := B2.f hB 1
      go_wp2_with fail
      have g2 := (B2.set1 (B2.set0 hB (.int .i64 0)) (.slice none 0 0))
      have r0 := g2.c0
      have r1 := g2.c1
      refine bodyPost_ret (v := .tuple #[.agg #[.int .i64 0, .slice none 0 0], .int .i64 (1), .int .i64 (6)]) (by simp [results, Tryz.results9, go_sem, r0, r1]) rfl ?_
      exact RM.mk ⟨none, 0, rfl, rnil_ok _⟩ (((hbw).setCell _ (Nat.le_refl _) _).setCell _ (Nat.le_refl _) _)
end Go.Proofs.YtkbfjficmdgjpaaGreatDoor
/-
  The law RunsTexts walked.
-/
namespace Go.Proofs.YtkbfjficmdgjpaaGreatDoor
open Go.RowKit
set_option linter.unusedSimpArgs false
set_option linter.unusedVariables false
set_option maxRecDepth 100000

theorem WEnv.p {w : World} (h : WEnv w) : PEnv w := ⟨h.esc, h.pow⟩
def FarB (n : Nat) (w : World) (e : Ending) (w' : World) : Prop := ∃ b, e = .returned (.bool b) ∧ (b = false → n ≤ 80 ∨ 5000 < n) ∧ Bl w w'
set_option maxHeartbeats 1000000 in
theorem lawRunFarB (a : Option Addr) (c : Nat) (r : Rn) (w : World) (h : ROk w a c r) :
    Calls Tryz.prog 4 #[r.v a c] w (FarB r.es.length w) := by
  have hn := Nat.le_trans h.len h.cap
  have HO := Lib.hid h
  unfold maxLen at hn
  obtain ⟨id, l⟩ := r
  unfold Rn.v
  simp only at *
  clear h
  by_cases h : 80 < l.length
  · by_cases h1 : l.length ≤ 5000
    · go_enter Tryz.func4, Tryz.ntmps4
      go_wp2_with fail
      all_goals
        go_ret
        exact ⟨_, rfl, fun hf => by first | (exfalso; simp at hf; done) | (left; omega) | (right; omega), (by repeat (first | assumption | exact Bl.refl _ | apply Bl.drewN | apply Bl.drew | apply Bl.alloc | (refine Bl.dr ?_ (by assumption)) | (refine Bl.trans ?_ (by assumption))))⟩
    · go_enter Tryz.func4, Tryz.ntmps4
      go_wp2_with fail
      all_goals
        go_ret
        exact ⟨_, rfl, fun hf => by first | (exfalso; simp at hf; done) | (left; omega) | (right; omega), (by repeat (first | assumption | exact Bl.refl _ | apply Bl.drewN | apply Bl.drew | apply Bl.alloc | (refine Bl.dr ?_ (by assumption)) | (refine Bl.trans ?_ (by assumption))))⟩
  · go_enter Tryz.func4, Tryz.ntmps4
    go_wp2_with fail
    go_loopg [3] l.length (fun g i wr => ∃ k : Nat, k ≤ l.length ∧ i = .int .i64 k ∧ Dr (w.alloc (Obj.cells #[Value.int IntKind.i64 id, Value.slice a l.length c] 24)) wr ∧ g = l.length - k)
    case atStart => exact ⟨0, by omega, rfl, Dr.refl _, rfl⟩
    case round =>
      obtain ⟨k, hk1, rfl, hd, hg⟩ := hrel
      have G := Lib.hid hg
      have cb : wr.cell? ⟨w.heap.size, 1, none⟩ = some (.slice a l.length c) := by rw [hd.cell]; simp [go_sem]
      have hb : Bl w wr := ((Bl.refl w).alloc _).dr hd
      clear hg
      by_cases h2 : k < l.length
      · obtain ⟨b, off, rfl, hat⟩ := HO.out.ents.get h2
        obtain ⟨x, hx⟩ : ∃ x, l[k]? = some x := ⟨_, List.getElem?_eq_getElem h2⟩
        obtain ⟨c0, c1, -, -⟩ := (hat k x hx).bl hb
        obtain ⟨o1, o2, -, -⟩ := HO.out.ents.ok x (List.mem_of_getElem? hx)
        unfold maxLen at o1 o2
        clear hat hx
        by_cases p1 : 100 < x.key.size
        · go_wp2_with fail
          go_ret
          exact ⟨_, rfl, fun hf => by first | (exfalso; simp at hf; done) | (left; omega) | (right; omega), (by repeat (first | assumption | exact Bl.refl _ | apply Bl.drewN | apply Bl.drew | apply Bl.alloc | (refine Bl.dr ?_ (by assumption)) | (refine Bl.trans ?_ (by assumption))))⟩
        · by_cases p2 : 100 < x.val.size
          · go_wp2_with fail
            go_ret
            exact ⟨_, rfl, fun hf => by first | (exfalso; simp at hf; done) | (left; omega) | (right; omega), (by repeat (first | assumption | exact Bl.refl _ | apply Bl.drewN | apply Bl.drew | apply Bl.alloc | (refine Bl.dr ?_ (by assumption)) | (refine Bl.trans ?_ (by assumption))))⟩
          · go_wp2_with fail
            go_roundg (l.length - (k + 1))
            case rel => exact ⟨k + 1, by omega, by go_num, hd, rfl⟩
            case measure => rw [G.out]; omega
      · go_wp2_with fail
        go_ret
        exact ⟨_, rfl, fun hf => by first | (exfalso; simp at hf; done) | (left; omega) | (right; omega), (by repeat (first | assumption | exact Bl.refl _ | apply Bl.drewN | apply Bl.drew | apply Bl.alloc | (refine Bl.dr ?_ (by assumption)) | (refine Bl.trans ?_ (by assumption))))⟩

theorem eprint_smallR {l : List Ent} (h : l.length ≤ 80 ∨ 5000 < l.length) : (eprint l).1.length ≤ 36000 := by
  unfold eprint
  split
  · simp
  · split
    · simp
    · rename_i h1 h2
      split
      · simp
      · have ok := eall_ok (l := l) (by omega)
        have := linesE_len ok
        simp only
        omega
theorem rprint_smallR {r : Rn} (h : r.es.length ≤ 80 ∨ 5000 < r.es.length) : (rprint r).1.length ≤ 50000 := by
  have he := eprint_smallR h
  unfold rprint
  split
  · simp
  · rename_i h1
    split
    · simp
    · split
      · simp
      · have hid := rck_id (r := r) (by omega)
        have := Lib.itoa_length_le r.id (by omega) (by omega)
        simp only [rheadB, List.length_append, List.length_cons, List.length_nil]
        omega
set_option maxHeartbeats 8000000 in
theorem lawTextsR (a : Option Addr) (c : Nat) (r : Rn) (s : ByteArray) (w : World) (h : ROk w a c r) (hE : WEnv w) : Calls Tryz.prog 3 #[r.v a c, .string s] w (RB w (.bool true)) := by
  have HE := Lib.hid hE
  have HR := Lib.hid h
  have HF := Lib.hid (fun w h => lawRunFarB a c r w h)
  have H1 := Lib.hid (fun w h hE => runPrint a c r w h hE)
  have H2 := Lib.hid (fun w h => refRunPrint a c r w h)
  have HSl := Lib.hid (fun a b c d w h1 h2 => refRunSame a b c d r w h1 h2)
  have hB0 : B2 24 (w.alloc (.cells #[.int .i64 r.id, .slice a r.es.length c] 24)) w.heap.size (.int .i64 r.id) (.slice a r.es.length c) := B2.new _ _ _ _
  have hb0 : Bl w (w.alloc (.cells #[.int .i64 r.id, .slice a r.es.length c] 24)) := (Bl.refl w).alloc _
  clear hE h
  unfold Rn.v at HF H1 H2 HSl ⊢
  go_enter Tryz.func3, Tryz.ntmps3
  go_wp2_with fail
  refine (HF.out _ (HR.out.bl hb0)).mono ?_; rintro e w1 ⟨fb, rfl, hfb, hb1⟩
  have hB := hB0.bl hb1
  have hb01 := hb0.trans hb1
  have HR1 := Lib.hid (HR.out.bl hb01)
  clear hb1 hb0 hB0 HF HR
  cases fb with
  | true =>
    clear hfb H1 H2
    go_wp2_with fail
    refine (lawRunAwake _).mono ?_; rintro e w9 ⟨rfl, hb9⟩
    go_wp2_with fail
    go_ret
    exact RB.mk rfl (Bl.trans hb01 hb9)
  | false =>
    by_cases h3 : 3000 < s.size
    · have i1 : decide ((3000 : Int) < (s.size : Int)) = true := by rw [decide_eq_true_eq]; omega
      clear h3 hfb H1 H2
      go_wp2_with fail
      refine (lawRunAwake _).mono ?_; rintro e w9 ⟨rfl, hb9⟩
      go_wp2_with fail
      go_ret
      exact RB.mk rfl (Bl.trans hb01 hb9)
    · have i1 : decide ((3000 : Int) < (s.size : Int)) = false := by rw [decide_eq_false_iff_not]; omega
      have hpl := rprint_smallR (hfb rfl)
      have HBack := Lib.hid (fun (h : (rprint r).2 = 0) => rparse_print (r := r) (t := (rprint r).1) (by rw [← h]))
      obtain ⟨⟨pl, pe⟩, hpr⟩ : ∃ z, rprint r = z := ⟨_, rfl⟩
      rw [hpr] at H1 H2 hpl HBack
      simp only at hpl
      obtain ⟨q, hq⟩ : ∃ q : ByteArray, (⟨pl.toArray⟩ : ByteArray) = q := ⟨_, rfl⟩
      have hql : q.data.toList = pl := by rw [← hq]
      have hqs : q.size ≤ 100000 := by rw [Lib.size_eq, hql]; omega
      simp only at H1 H2
      rw [hq] at H1 H2
      rw [← hql] at HBack
      have H3 := Lib.hid (fun w h => runParseT s (by omega) w h)
      have H4 := Lib.hid (fun w => refRunParseT s (by omega) w)
      have H7 := Lib.hid (fun w h => runParseT q hqs w h)
      have HFw := Lib.hid (fun m n (h : rparse s.data.toList = (m, n, 0)) => rprint_parse h)
      obtain ⟨⟨m, ln, er⟩, hps⟩ : ∃ z, rparse s.data.toList = z := ⟨_, rfl⟩
      rw [hps] at H3 H4 HFw
      have HSm := Lib.hid (fun a b c d w h1 h2 => refRunSame a b c d m w h1 h2)
      have HPr := Lib.hid (fun a c w h hE => runPrint a c m w h hE)
      unfold Rn.v at HSm HPr
      clear hfb h3 hpl hpr hq hql hqs hps
      have c0 := hB.c0
      have c1 := hB.c1
      go_wp2_with fail
      refine (H1.out _ HR1.out (HE.out.bl hb01).p).mono ?_; rintro e w2 ⟨rfl, hb2⟩
      have hB := hB.bl hb2
      have hb02 := hb01.trans hb2
      have HR2 := Lib.hid (HR1.out.bl hb2)
      have c0 := hB.c0
      have c1 := hB.c1
      clear hb2 HR1 hb01 H1
      go_wp2_with fail
      refine (H2.out _ HR2.out).mono ?_; rintro e w3 ⟨rfl, hb3⟩
      have hB := hB.bl hb3
      have hb03 := hb02.trans hb3
      have HR3 := Lib.hid (HR2.out.bl hb3)
      clear hb3 HR2 hb02 H2 c0 c1
      go_wp2_with fail
      refine (H3.out _ (HE.out.bl hb03)).mono ?_; rintro e w4 ⟨v, rfl, ⟨a1, c1, rfl, htp⟩, hb4⟩
      unfold Rn.v
      simp only at htp ⊢
      have hb4' : Bl w3 (w4.alloc (.cells #[.int .i64 m.id, .slice a1 m.es.length c1] 24)) := hb4.alloc _
      have hX : B2 24 (w4.alloc (.cells #[.int .i64 m.id, .slice a1 m.es.length c1] 24)) w4.heap.size (.int .i64 m.id) (.slice a1 m.es.length c1) := B2.new _ _ _ _
      have HTp := Lib.hid (htp.bl ((Bl.refl w4).alloc (.cells #[.int .i64 m.id, .slice a1 m.es.length c1] 24)))
      obtain ⟨wx, hwx⟩ : ∃ x, w4.alloc (.cells #[.int .i64 m.id, .slice a1 m.es.length c1] 24) = x := ⟨_, rfl⟩
      obtain ⟨X, hXe⟩ : ∃ x, w4.heap.size = x := ⟨_, rfl⟩
      have HWx := Lib.hid (And.intro hwx hXe)
      rw [hwx, hXe] at hX
      rw [hwx] at hb4' HTp
      have hB := hB.bl hb4'
      have hb04 := hb03.trans hb4'
      have HR4 := Lib.hid (HR3.out.bl hb4')
      clear hb4 hb4' htp HR3 hb03 H3 hwx hXe
      go_wp2_with fail
      rw [HWx.out.1, HWx.out.2]
      refine (H4.out _).mono ?_; rintro e w5 ⟨v, rfl, ⟨a2, c2, rfl, htp⟩, hb5⟩
      unfold Rn.v
      simp only at htp ⊢
      have hb5' : Bl wx (w5.alloc (.cells #[.int .i64 m.id, .slice a2 m.es.length c2] 24)) := hb5.alloc _
      have hY : B2 24 (w5.alloc (.cells #[.int .i64 m.id, .slice a2 m.es.length c2] 24)) w5.heap.size (.int .i64 m.id) (.slice a2 m.es.length c2) := B2.new _ _ _ _
      have HTq := Lib.hid (htp.bl ((Bl.refl w5).alloc (.cells #[.int .i64 m.id, .slice a2 m.es.length c2] 24)))
      obtain ⟨wy, hwy⟩ : ∃ x, w5.alloc (.cells #[.int .i64 m.id, .slice a2 m.es.length c2] 24) = x := ⟨_, rfl⟩
      obtain ⟨Y, hYe⟩ : ∃ x, w5.heap.size = x := ⟨_, rfl⟩
      have HWy := Lib.hid (And.intro hwy hYe)
      rw [hwy, hYe] at hY
      rw [hwy] at hb5' HTq
      have hB := hB.bl hb5'
      have hX := hX.bl hb5'
      have hb05 := hb04.trans hb5'
      have HR5 := Lib.hid (HR4.out.bl hb5')
      have HTp5 := Lib.hid (HTp.out.bl hb5')
      have e1 : (q.toList != q.toList) = false := by simp
      have x0 : (w5.alloc (.cells #[.int .i64 m.id, .slice a2 m.es.length c2] 24)).cell? ⟨X, 0, none⟩ = some (.int .i64 m.id) := hwy ▸ hX.c0
      have x1 : (w5.alloc (.cells #[.int .i64 m.id, .slice a2 m.es.length c2] 24)).cell? ⟨X, 1, none⟩ = some (.slice a1 m.es.length c1) := hwy ▸ hX.c1
      have y0 : (w5.alloc (.cells #[.int .i64 m.id, .slice a2 m.es.length c2] 24)).cell? ⟨w5.heap.size, 0, none⟩ = some (.int .i64 m.id) := by simp [go_sem]
      have y1 : (w5.alloc (.cells #[.int .i64 m.id, .slice a2 m.es.length c2] 24)).cell? ⟨w5.heap.size, 1, none⟩ = some (.slice a2 m.es.length c2) := by simp [go_sem]
      clear hb5 hb5' htp HR4 hb04 H4 hwy hYe HTp
      go_wp2_with fail
      first
        | refine (HSm.out _ _ _ _ _ HTp5.out HTq.out).mono ?_
        | (simp only [HWy.out.1, HWy.out.2]; refine (HSm.out _ _ _ _ _ HTp5.out HTq.out).mono ?_)
      rintro e w6 ⟨rfl, hb6⟩
      have hB := hB.bl hb6
      have hX := hX.bl hb6
      have hb06 := hb05.trans hb6
      have HR6 := Lib.hid (HR5.out.bl hb6)
      have HTp6 := Lib.hid (HTp5.out.bl hb6)
      have H0 := Lib.hid (And.intro hB hX)
      clear hb6 HR5 HTp5 HTq hb05 HSm hY x0 x1 y0 y1 hB hX
      go_upto_if 75 with fail
      go_cut [] (fun wz => Bl w6 wz)
      case first =>
        by_cases hpe : pe = 0
        · subst hpe
          have h7 := H7.out
          rw [HBack.out rfl] at h7
          have H7 := Lib.hid h7
          have c0 := H0.out.1.c0
          have c1 := H0.out.1.c1
          clear h7
          go_wp2_with fail
          refine (H7.out _ (HE.out.bl hb06)).mono ?_; rintro e w7 ⟨v, rfl, ⟨a3, c3, rfl, ht3⟩, hb7⟩
          unfold Rn.v
          simp only at ht3 ⊢
          have hb7' : Bl w6 (w7.alloc (.cells #[.int .i64 r.id, .slice a3 r.es.length c3] 24)) := hb7.alloc _
          have ht3' := ht3.bl ((Bl.refl w7).alloc (.cells #[.int .i64 r.id, .slice a3 r.es.length c3] 24))
          have HT3 := Lib.hid ht3'
          have HR7 := Lib.hid (HR6.out.bl hb7')
          have c0 := (H0.out.1.bl hb7').c0
          have c1 := (H0.out.1.bl hb7').c1
          clear ht3 ht3'
          go_wp2_with fail
          refine (HSl.out _ _ _ _ _ HT3.out HR7.out).mono ?_; rintro e w8 ⟨rfl, hb8⟩
          go_wp2_with fail
          go_meet
          exact hb7'.trans hb8
        · have e9 : (pe == 0) = false := by rw [beq_eq_false_iff_ne]; exact hpe
          clear hpe
          go_wp2_with fail
          go_meet
          exact Bl.refl _
      case rest =>
        have hb07 := hb06.trans hcut
        have hX := H0.out.2.bl hcut
        have HTp7 := Lib.hid (HTp6.out.bl hcut)
        have x0 := hX.c0
        have x1 := hX.c1
        clear hcut
        by_cases her : er = 0
        · subst her
          obtain ⟨h1, h2⟩ := HFw.out m ln rfl
          subst h2
          have hP := fun w h hE => HPr.out a1 c1 w h hE
          rw [h1] at hP
          simp only at hP
          rw [show (⟨s.data.toList.toArray⟩ : ByteArray) = s from (str_list s).symm] at hP
          have HP := Lib.hid hP
          have e8 : (s.toList != s.toList) = false := by simp
          clear h1 hP hX
          go_wp2_with fail
          refine (HP.out _ HTp7.out (HE.out.bl hb07).p).mono ?_; rintro e w8 ⟨rfl, hb8⟩
          have hb08 := hb07.trans hb8
          clear hb8
          go_wp2_with fail
          go_wp2_with fail
          refine (lawRunAwake _).mono ?_; rintro e w9 ⟨rfl, hb9⟩
          go_wp2_with fail
          go_ret
          exact RB.mk rfl (Bl.trans hb08 hb9)
        · have e9 : (er == 0) = false := by rw [beq_eq_false_iff_ne]; exact her
          clear her hX
          go_wp2_with fail
          go_wp2_with fail
          refine (lawRunAwake _).mono ?_; rintro e w9 ⟨rfl, hb9⟩
          go_wp2_with fail
          go_ret
          exact RB.mk rfl (Bl.trans hb07 hb9)
end Go.Proofs.YtkbfjficmdgjpaaGreatDoor
/-
  What words asks of the world, from what the card lays.
-/
namespace Go.Proofs.YtkbfjficmdgjpaaGreatDoor
open Go.RowKit
set_option linter.unusedSimpArgs false
set_option linter.unusedVariables false
set_option maxRecDepth 100000

theorem pow_eq : (Rows.laid_internal_strconv_uint64pow10 : DataW Unit) = Lib.tabData .u64 Lib.pow10Tab := by kernel_rfl
theorem tab_of_reads {P : Program} {W : World} {name : String} {k : IntKind} {zs : List Int} {g : Nat} {t e : TypeId} {n : Nat}
    (hg : P.globalNamed name = some g) (hty : (P.globals[g]?).map (·.type) = some t) (ht : P.underlying t = some (.array n e)) (he : P.underlying e = some (.int k)) (hce : P.cellsOf e = 1) (hct : P.cellsOf t = n)
    (h : Lib.VarReads P W name (Lib.tabData k zs)) : Lib.TabIs P W name k zs := by
  obtain ⟨g', t', cs, fuel, p, hg', ht', hvar, hd⟩ := h
  obtain rfl := Option.some.inj (hg.symm.trans hg')
  obtain rfl := Option.some.inj (hty.symm.trans ht')
  unfold Lib.TabIs
  rw [hvar, ← Lib.cells_of_tab ht he hce hct hd]
theorem pow_of_reads {W : World} (h : Lib.VarReads Tryz.prog W "internal/strconv.uint64pow10" Rows.laid_internal_strconv_uint64pow10) : Lib.TabIs Tryz.prog W "internal/strconv.uint64pow10" .u64 Lib.pow10Tab :=
  tab_of_reads (g := 2) (t := 154) (e := 128) (n := 20) (by kernel_rfl) (by kernel_rfl) Tryz.underlying154 Tryz.underlying128 (by kernel_rfl) (by kernel_rfl) (pow_eq ▸ h)
theorem err_of_reads {W : World} (h : Lib.VarReads Tryz.prog W "strconv.ErrRange" Rows.laid_strconv_ErrRange) : ∃ te pe, W.cell? ⟨4, 0, none⟩ = some (.iface te pe) := by
  obtain ⟨g, t, cs, fuel, p, hg, hty, hvar, hd⟩ := h
  obtain rfl := Option.some.inj ((show Tryz.prog.globalNamed "strconv.ErrRange" = some 4 by kernel_rfl).symm.trans hg)
  obtain rfl := Option.some.inj ((show (Tryz.prog.globals[4]?).map (·.type) = some 70 by kernel_rfl).symm.trans hty)
  obtain ⟨f1, u, v, hcs, -, -⟩ := iface_of_trod Tryz.underlying70 hd
  refine ⟨u, v, ?_⟩
  rw [World.var?_cell hg hvar 0, ← Array.getElem?_toList, hcs]; rfl
theorem esc_of_reads {W : World} (h : Lib.VarReads Tryz.prog W "bookend/words.escapes" Rows.laid_bookend_words_escapes) : EscTab W := by
  obtain ⟨g, t, cs, fuel, p, hg, hty, hvar, hd⟩ := h
  obtain rfl := Option.some.inj ((show Tryz.prog.globalNamed "bookend/words.escapes" = some 0 by kernel_rfl).symm.trans hg)
  obtain rfl := Option.some.inj ((show (Tryz.prog.globals[0]?).map (·.type) = some 125 by kernel_rfl).symm.trans hty)
  have hc2 : Tryz.prog.cellsOf 124 = 2 := by kernel_rfl
  have hc1 : Tryz.prog.cellsOf 5 = 1 := by kernel_rfl
  have key : ∀ i, i < 5 → W.cell? ⟨0, 2 * i, none⟩ = some (.int .u8 ((escL.getD (2 * i) 0 : Nat) : Int)) ∧ W.cell? ⟨0, 2 * i + 1, none⟩ = some (.int .u8 ((escL.getD (2 * i + 1) 0 : Nat) : Int)) := by
    intro i hi
    obtain ⟨fuel', d, q, hdi, he⟩ := Lib.array_elem Tryz.underlying125 hd i hi
    have hd2 : d = .agg ([((escL.getD (2 * i) 0 : Nat) : Int), ((escL.getD (2 * i + 1) 0 : Nat) : Int)].map fun z => .lit (.int .u8 z)) := by
      match i, hi, hdi with
      | 0, _, hdi => exact (Option.some.inj hdi).symm
      | 1, _, hdi => exact (Option.some.inj hdi).symm
      | 2, _, hdi => exact (Option.some.inj hdi).symm
      | 3, _, hdi => exact (Option.some.inj hdi).symm
      | 4, _, hdi => exact (Option.some.inj hdi).symm
    subst hd2
    rw [hc2] at he
    have hcs := Lib.ints_of_struct Tryz.underlying124 (fun j f hj => by
      match j, hj with
      | 0, hj => simp at hj; subst hj; exact ⟨Tryz.underlying5, rfl, hc1⟩
      | 1, hj => simp at hj; subst hj; exact ⟨Tryz.underlying5, rfl, hc1⟩
      | j + 2, hj => simp at hj) (by rw [hc2]; rfl) he
    have e0 := congrArg (·[0]?) hcs
    have e1 := congrArg (·[1]?) hcs
    simp only [List.getElem?_take, List.getElem?_drop] at e0 e1
    constructor
    · rw [World.var?_cell hg hvar (2 * i), ← Array.getElem?_toList]
      simpa [Nat.mul_comm] using e0
    · rw [World.var?_cell hg hvar (2 * i + 1), ← Array.getElem?_toList]
      simpa [Nat.mul_comm] using e1
  refine ⟨fun i hi => ?_⟩
  obtain ⟨h1, h2⟩ := key (i / 2) (by omega)
  rcases (by omega : i = 2 * (i / 2) ∨ i = 2 * (i / 2) + 1) with e | e
  · rw [e]; exact h1
  · rw [e]; exact h2
end Go.Proofs.YtkbfjficmdgjpaaGreatDoor
/-
  Arguments opened: a list of entries, a list of strings, a fence, a range.
-/
namespace Go.Proofs.YtkbfjficmdgjpaaGreatDoor
open Go.RowKit Go.ChangeShapes Go.WideShapes Go.Deep Go.Joins
set_option linter.unusedSimpArgs false
set_option linter.unusedVariables false
set_option maxRecDepth 100000

theorem list_of {α : Type} (Q : Nat → α → Prop) : ∀ (n : Nat), (∀ i, i < n → ∃ x, Q i x) → ∃ l : List α, l.length = n ∧ ∀ i x, l[i]? = some x → Q i x
  | 0, _ => ⟨[], rfl, by simp⟩
  | n + 1, h => by
    obtain ⟨l, hl, hq⟩ := list_of Q n (fun i hi => h i (by omega))
    obtain ⟨x, hx⟩ := h n (by omega)
    refine ⟨l ++ [x], by simp [hl], fun i y hy => ?_⟩
    rcases Nat.lt_or_ge i n with hi | hi
    · rw [List.getElem?_append_left (by omega)] at hy; exact hq i y hy
    · have : i = n := by
        have := (List.getElem?_eq_some_iff.1 hy).1; simp at this; omega
      subst this
      rw [List.getElem?_append_right (by omega)] at hy
      simp [hl] at hy; subst hy; exact hx
theorem addr_add (b off i : Nat) : ({ block := b, off := off, spot := none } : Addr).add i = ⟨b, off + i, none⟩ := by
  unfold Addr.add; split <;> simp_all

section
variable {H : Type} {enc : TypeId × Value → H} {w : World}
theorem ent_fields : ∃ f0 f1 f2 f3 : Field, Tryz.prog.underlying 35 = some (.struct #[f0, f1, f2, f3]) ∧ oneCellFields Tryz.prog #[f0, f1, f2, f3] = true ∧ f0.type = 9 ∧ f1.type = 9 ∧ f2.type = 4 ∧ f3.type = 2 :=
  ⟨_, _, _, _, Tryz.underlying35, by kernel_rfl, rfl, rfl, rfl, rfl⟩
/-- A list of entries that came in. -/
theorem open_ents {fuel : Nat} {cs : List Value} {x : DataW H × List MemPlace} (h : DataW.trod enc Tryz.prog w 0 (fun _ => true) true fuel 22 cs = some x) :
    ∃ a c l, cs = [.slice a l.length c] ∧ Ents w a l ∧ l.length ≤ c ∧ c ≤ maxLen := by
  rcases open_slice Tryz.underlying22 h with ⟨rfl, _⟩ | ⟨a, len, cap, m, n, D, Pl, rfl, _, hl, hm, hmm, _, hi⟩
  · exact ⟨none, 0, [], rfl, ⟨by simp, fun h => absurd rfl h⟩, Nat.le_refl _, by unfold maxLen; omega⟩
  · have hm' : m = cap := by simpa using hmm
    rw [show Tryz.prog.cellsOf 35 = 4 by kernel_rfl] at hi
    have each : ∀ i, i < len → ∃ y : Ent, y.ok ∧ w.cell? (a.add (i * 4)) = some (.string y.key) ∧ w.cell? (a.add (i * 4 + 1)) = some (.string y.val) ∧ w.cell? (a.add (i * 4 + 2)) = some (.bool y.dead) ∧ w.cell? (a.add (i * 4 + 3)) = some (.int .i64 y.seq) := by
      intro i hlt
      obtain ⟨cs', hc, ht⟩ := hi i (by omega)
      obtain ⟨_, hcl, hat⟩ := World.cells?_some hc
      obtain ⟨F0, F1, F2, F3, hund, hone, t0, t1, t2, t3⟩ := ent_fields
      obtain ⟨ys, n', _, _, _, hyl, hf⟩ := DataW.trod_struct hund ht
      match cs', hcl with
      | [v0, v1, v2, v3], _ =>
        match ys, hyl with
        | [y0, y1, y2, y3], _ =>
          have f0 := hf 0 F0 rfl
          have f1 := hf 1 F1 rfl
          have f2 := hf 2 F2 rfl
          have f3 := hf 3 F3 rfl
          have hone := hone_of hone
          obtain ⟨o0, k0⟩ := hone 0 F0 rfl
          obtain ⟨o1, k1⟩ := hone 1 F1 rfl
          obtain ⟨o2, k2⟩ := hone 2 F2 rfl
          obtain ⟨o3, k3⟩ := hone 3 F3 rfl
          rw [o0, k0, t0] at f0
          rw [o1, k1, t1] at f1
          rw [o2, k2, t2] at f2
          rw [o3, k3, t3] at f3
          obtain ⟨s0, e0, _, h0⟩ := DataW.trod_string Tryz.underlying9 f0
          obtain ⟨s1, e1, _, h1⟩ := DataW.trod_string Tryz.underlying9 f1
          obtain ⟨s2, e2, _⟩ := DataW.trod_bool Tryz.underlying4 f2
          obtain ⟨s3, e3, _, h3⟩ := DataW.trod_int Tryz.underlying2 f3
          simp at e0 e1 e2 e3
          subst e0 e1 e2 e3
          simp [Lit.wf, IntKind.min, IntKind.max, IntKind.signed, IntKind.bits] at h3
          have g0 := hat 0 (by omega)
          have g1 := hat 1 (by omega)
          have g2 := hat 2 (by omega)
          have g3 := hat 3 (by omega)
          rw [Go.Deep.add_add] at g0 g1 g2 g3
          exact ⟨⟨s0, s1, s2, s3⟩, ⟨h0, h1, (show -9223372036854775808 ≤ s3 by omega), (show s3 ≤ 9223372036854775807 by omega)⟩, g0, g1, g2, g3⟩
    rcases Nat.eq_zero_or_pos len with hz | hpos
    · subst hz
      exact ⟨some a, cap, [], rfl, ⟨by simp, fun h => absurd rfl h⟩, by simp, hm⟩
    have hs : a.spot = none := by
      obtain ⟨y, _, g, _⟩ := each 0 hpos
      have := World.cell?_spot g
      simpa [Addr.add] using this
    obtain ⟨b, o, s⟩ := a
    simp only at hs; subst hs
    simp only [addr_add] at each
    obtain ⟨l, hll, hlq⟩ := list_of _ len each
    refine ⟨some ⟨b, o, none⟩, cap, l, by rw [hll], ⟨fun y hy => ?_, fun hn => ?_⟩, by omega, hm⟩
    · obtain ⟨i, hi, rfl⟩ := List.getElem_of_mem hy
      exact (hlq i _ (List.getElem?_eq_getElem hi)).1
    · refine ⟨b, o, rfl, fun i y hy => ?_⟩
      obtain ⟨_, g0, g1, g2, g3⟩ := hlq i y hy
      exact ⟨g0, by rw [Nat.add_assoc]; exact g1, by rw [Nat.add_assoc]; exact g2, by rw [Nat.add_assoc]; exact g3⟩

/-- A list of strings that came in. -/
theorem open_strs' {fuel : Nat} {cs : List Value} {x : DataW H × List MemPlace} (h : DataW.trod enc Tryz.prog w 0 (fun _ => true) true fuel 84 cs = some x) :
    ∃ a c l, cs = [.slice a l.length c] ∧ Strs w a l ∧ l.length ≤ c ∧ c ≤ maxLen := by
  rcases open_strings Tryz.underlying84 Tryz.underlying9 (by kernel_rfl) h with ⟨rfl, _⟩ | ⟨a, len, cap, ss, rfl, _, hl, hm, hss, _, hcell, hws⟩
  · exact ⟨none, 0, [], rfl, ⟨by simp, fun h => absurd rfl h⟩, Nat.le_refl _, by unfold maxLen; omega⟩
  · have hss' : ss.length = cap := by simpa using hss
    rcases Nat.eq_zero_or_pos len with hz | hpos
    · subst hz
      exact ⟨some a, cap, [], rfl, ⟨by simp, fun h => absurd rfl h⟩, by simp, hm⟩
    have hs : a.spot = none := by
      have := World.cell?_spot (hcell 0 (by omega))
      simpa [Addr.add] using this
    obtain ⟨b, o, s⟩ := a
    simp only at hs; subst hs
    simp only [addr_add] at hcell
    refine ⟨some ⟨b, o, none⟩, cap, ss.take len, by rw [List.length_take, Nat.min_eq_left (by omega)], ⟨fun y hy => hws y (List.mem_of_mem_take hy), fun hn => ?_⟩, by simp; omega, hm⟩
    refine ⟨b, o, rfl, fun i y hy => ?_⟩
    have hi : i < len := by have := (List.getElem?_eq_some_iff.1 hy).1; simp at this; omega
    rw [List.getElem?_take_of_lt hi] at hy
    have := hcell i (by omega)
    rw [this]; simp [List.getD, hy]

/-- What a list of entries is behind its opening, as the row gives it. -/
theorem arg_ents {base : Nat} {v : Value} {d : DataW H} {p : List MemPlace} (hv : Value.okWide Tryz.prog w .any base 22 v) (h : DataW.Trod enc Tryz.prog w 0 (fun _ => true) true 22 v d p) :
    ∃ a c l, v = .slice a l.length c ∧ Ents w a l ∧ l.length ≤ c ∧ c ≤ maxLen := by
  obtain ⟨a, n, c, rfl⟩ := okWide_slice Tryz.underlying22 hv
  obtain ⟨fuel, hf⟩ := h
  obtain ⟨a', c', l, h1, h2, h3, h4⟩ := open_ents hf
  simp [Value.cells] at h1
  obtain ⟨rfl, rfl, rfl⟩ := h1
  exact ⟨_, _, l, rfl, h2, h3, h4⟩
/-- A fence. -/
theorem arg_fence {base : Nat} {v : Value} {d : DataW H} {p : List MemPlace} (hv : Value.okWide Tryz.prog w .any base 94 v) (h : DataW.Trod enc Tryz.prog w 0 (fun _ => true) true 94 v d p) :
    ∃ a c s, ∃ l : List ByteArray, v = .agg #[.int .i64 s, .slice a l.length c] ∧ -9223372036854775808 ≤ s ∧ s ≤ 9223372036854775807 ∧ Strs w a l ∧ l.length ≤ c ∧ c ≤ maxLen := by
  have ff : ∃ f0 f1 : Field, Tryz.prog.underlying 94 = some (.struct #[f0, f1]) ∧ oneCellFields Tryz.prog #[f0, f1] = true ∧ f0.type = 3 ∧ f1.type = 84 := ⟨_, _, Tryz.underlying94, by kernel_rfl, rfl, rfl⟩
  obtain ⟨F0, F1, hund, hone, t0, t1⟩ := ff
  obtain ⟨v0, v1, y0, y1, n, rfl, _, _, h0, h1⟩ := open_agg2 hund hone (by kernel_rfl) hv h
  rw [t0] at h0; rw [t1] at h1
  obtain ⟨s, e0, _, b⟩ := DataW.trod_int Tryz.underlying3 h0
  simp at e0; subst e0
  obtain ⟨a, c, l, e1, g⟩ := open_strs' h1
  simp at e1; subst e1
  simp [Lit.wf, IntKind.min, IntKind.max, IntKind.signed, IntKind.bits] at b
  exact ⟨a, c, s, l, rfl, by omega, by omega, g⟩
/-- A run. -/
theorem arg_run {base : Nat} {v : Value} {d : DataW H} {p : List MemPlace} (hv : Value.okWide Tryz.prog w .any base 24 v) (h : DataW.Trod enc Tryz.prog w 0 (fun _ => true) true 24 v d p) :
    ∃ a c s, ∃ l : List Ent, v = .agg #[.int .i64 s, .slice a l.length c] ∧ -9223372036854775808 ≤ s ∧ s ≤ 9223372036854775807 ∧ Ents w a l ∧ l.length ≤ c ∧ c ≤ maxLen := by
  have ff : ∃ f0 f1 : Field, Tryz.prog.underlying 24 = some (.struct #[f0, f1]) ∧ oneCellFields Tryz.prog #[f0, f1] = true ∧ f0.type = 3 ∧ f1.type = 22 := ⟨_, _, Tryz.underlying24, by kernel_rfl, rfl, rfl⟩
  obtain ⟨F0, F1, hund, hone, t0, t1⟩ := ff
  obtain ⟨v0, v1, y0, y1, n, rfl, _, _, h0, h1⟩ := open_agg2 hund hone (by kernel_rfl) hv h
  rw [t0] at h0; rw [t1] at h1
  obtain ⟨s, e0, _, b⟩ := DataW.trod_int Tryz.underlying3 h0
  simp at e0; subst e0
  obtain ⟨a, c, l, e1, g⟩ := open_ents h1
  simp at e1; subst e1
  simp [Lit.wf, IntKind.min, IntKind.max, IntKind.signed, IntKind.bits] at b
  exact ⟨a, c, s, l, rfl, by omega, by omega, g⟩
/-- A range of keys. -/
theorem arg_range {base : Nat} {v : Value} {d : DataW H} {p : List MemPlace} (hv : Value.okWide Tryz.prog w .any base 43 v) (h : DataW.Trod enc Tryz.prog w 0 (fun _ => true) true 43 v d p) :
    ∃ lo hi b, v = .agg #[.string lo, .string hi, .bool b] ∧ lo.size ≤ maxLen ∧ hi.size ≤ maxLen := by
  have ff : ∃ f0 f1 f2 : Field, Tryz.prog.underlying 43 = some (.struct #[f0, f1, f2]) ∧ oneCellFields Tryz.prog #[f0, f1, f2] = true ∧ f0.type = 9 ∧ f1.type = 9 ∧ f2.type = 4 := ⟨_, _, _, Tryz.underlying43, by kernel_rfl, rfl, rfl, rfl⟩
  obtain ⟨F0, F1, F2, hund, hone, t0, t1, t2⟩ := ff
  obtain ⟨v0, v1, v2, y0, y1, y2, n, rfl, _, _, h0, h1, h2⟩ := open_agg3 hund hone (by kernel_rfl) hv h
  rw [t0] at h0; rw [t1] at h1; rw [t2] at h2
  obtain ⟨s0, e0, _, b0⟩ := DataW.trod_string Tryz.underlying9 h0
  obtain ⟨s1, e1, _, b1⟩ := DataW.trod_string Tryz.underlying9 h1
  obtain ⟨s2, e2, _⟩ := DataW.trod_bool Tryz.underlying4 h2
  simp at e0 e1 e2; subst e0 e1 e2
  exact ⟨s0, s1, s2, rfl, b0, b1⟩
/-- A string. -/
theorem arg_string {base : Nat} {v : Value} {d : DataW H} {p : List MemPlace} (hv : Value.okWide Tryz.prog w .any base 9 v) (h : DataW.Trod enc Tryz.prog w 0 (fun _ => true) true 9 v d p) :
    ∃ s, v = .string s ∧ s.size ≤ maxLen := by
  obtain ⟨s, e, _, _, b⟩ := Go.ChangeMaps.open_string Tryz.underlying9 hv h
  exact ⟨s, e, b⟩
/-- An int. -/
theorem arg_int {base : Nat} {v : Value} {d : DataW H} {p : List MemPlace} (hv : Value.okWide Tryz.prog w .any base 3 v) (h : DataW.Trod enc Tryz.prog w 0 (fun _ => true) true 3 v d p) :
    ∃ s, v = .int .i64 s ∧ -9223372036854775808 ≤ s ∧ s ≤ 9223372036854775807 := by
  obtain ⟨s, e, _, _, b⟩ := open_int Tryz.underlying3 hv h
  simp [Lit.wf, IntKind.min, IntKind.max, IntKind.signed, IntKind.bits] at b
  exact ⟨s, e, by omega, by omega⟩
/-- A bool. -/
theorem arg_bool {base : Nat} {v : Value} {d : DataW H} {p : List MemPlace} (hv : Value.okWide Tryz.prog w .any base 4 v) (h : DataW.Trod enc Tryz.prog w 0 (fun _ => true) true 4 v d p) :
    ∃ b, v = .bool b := by
  obtain ⟨b, e, _⟩ := open_bool Tryz.underlying4 hv h
  exact ⟨b, e⟩
theorem lt_of_trod {d : DataW H} {t : TypeId} {v : Value} {p : List MemPlace} (h : DataW.Trod enc Tryz.prog w 0 (fun _ => true) true t v d p) : ∀ x ∈ p, x.block < w.heap.size := by
  obtain ⟨m, hm⟩ := h; exact DataW.trod_lt m _ _ _ hm
theorem own : ownKnob Tryz.prog.godebug = none := by kernel_rfl
theorem laidOut : laidOutB Tryz.prog = true := by kernel_rfl
end
end Go.Proofs.YtkbfjficmdgjpaaGreatDoor
