/-
  Own texts laid together: WlA EsU WlB EtE WlC EtF EsO LeA EqB LeH WoU Open.
-/
import Derived.Test.YtcgpkcaaojkpcaaGreatDoorShelf
import Derived.Test.YtcgpkcaaojkpcaaGreatDoorOwn
import Derived.Lib.SplitLaws
import Derived.Test.YtcgpkcaaojkpcaaGreatDoorEsS
import Derived.Test.YtcgpkcaaojkpcaaGreatDoorEsT
import Derived.Test.YtcgpkcaaojkpcaaGreatDoorWdQ
import Derived.Test.YtcgpkcaaojkpcaaGreatDoorEtD
import Derived.Maps.AppendAt
import Derived.Laws.AppendOwn
import Derived.Test.YtcgpkcaaojkpcaaGreatDoorEtC
import Derived.Test.YtcgpkcaaojkpcaaGreatDoorEsN
import Derived.Deep.RegionHeld3
import Derived.Deep.DeepCutAuto
import Derived.Test.YtcgpkcaaojkpcaaGreatDoorWoL
import Derived.Test.YtcgpkcaaojkpcaaGreatDoorRows
import Derived.Lib.LaidU8
import Derived.Lay
import Derived.Test.YtcgpkcaaojkpcaaGreatDoorLib
import Derived.ProofKit
import Derived.OpenShut
import Derived.ShutString
import Derived.ChangeOld
import Derived.Deep.Slices
import Derived.Deep.Fields
import Derived.Lib.SmallJoins
import Derived.SliceStrings
/-
  Contracts of words: lines. strings.Split at a newline; what the pieces are, plain.
-/
namespace Go.Proofs.YtcgpkcaaojkpcaaGreatDoor
open Go.RowKit
set_option linter.unusedSimpArgs false
set_option linter.unusedVariables false
set_option maxRecDepth 100000

/-! ### Plain: the pieces that end with a newline -/
def spl : List UInt8 → List UInt8 → List (List UInt8)
  | _, [] => []
  | cur, c :: r => if c = 10 then cur :: spl [] r else spl (cur ++ [c]) r
def onHead (cur : List UInt8) : List (List UInt8) → List (List UInt8)
  | [] => []
  | h :: t => (cur ++ h) :: t
theorem onHead_nil : ∀ X, onHead [] X = X
  | [] => rfl
  | _ :: _ => rfl
theorem onHead_app (a b : List UInt8) : ∀ X, onHead (a ++ b) X = onHead a (onHead b X)
  | [] => rfl
  | _ :: _ => by simp [onHead]
theorem splitK_ne {c : UInt8} (h : c ≠ 10) (k : Nat) (s : List UInt8) : Lib.splitK [10] 0 k (c :: s) = onHead [c] (Lib.splitK [10] 0 k s) := by
  match k with
  | 0 => rfl
  | k + 1 =>
    have hp : ([10] : List UInt8).isPrefixOf (c :: s) = false := by simp [List.isPrefixOf]; exact fun e => h e.symm
    have hix : Lib.index (c :: s) [10] = if Lib.index s [10] == -1 then -1 else Lib.index s [10] + 1 := by rw [Lib.index, hp]; simp
    have hge := Lib.index_ge s [10]
    unfold Lib.splitK
    rw [hix]
    by_cases hm : Lib.index s [10] = -1
    · simp [hm, onHead]
    · obtain ⟨j, hj⟩ : ∃ j : Nat, Lib.index s [10] = j := ⟨(Lib.index s [10]).toNat, by omega⟩
      rw [hj]
      have e1 : ((j : Int) == -1) = false := by rw [beq_eq_false_iff_ne]; omega
      have e2 : ((j : Int) + 1 == -1) = false := by rw [beq_eq_false_iff_ne]; omega
      have e3 : ((j : Int) + 1).toNat = j + 1 := by omega
      simp [e1, e2, e3, onHead]
theorem splitK_eq (k : Nat) (s : List UInt8) : Lib.splitK [10] 0 (k + 1) (10 :: s) = [] :: Lib.splitK [10] 0 k s := by
  have hix : Lib.index (10 :: s) [10] = ((0 : Nat) : Int) := by rw [Lib.index]; simp [List.isPrefixOf]
  rw [Lib.splitK, hix]
  simp
theorem spl_split : ∀ (s cur : List UInt8), spl cur (s ++ [10]) = onHead cur (Lib.splitK [10] 0 (s.count 10) s)
  | [], cur => by simp [spl, Lib.splitK, onHead]
  | c :: s, cur => by
    by_cases h : c = 10
    · subst h
      rw [List.count_cons_self, splitK_eq, List.cons_append, spl, if_pos rfl, spl_split s [], onHead_nil]
      simp [onHead]
    · rw [List.count_cons_of_ne (by simpa using h), splitK_ne h, List.cons_append, spl, if_neg h, spl_split s (cur ++ [c]), onHead_app]
theorem splitB_spl (t : ByteArray) : (Lib.splitB ⟨#[10]⟩ 0 (Lib.countB t ⟨#[10]⟩) t).map (·.data.toList) = spl [] (t.data.toList ++ [10]) := by
  rw [Lib.splitB_data, spl_split, onHead_nil]
  congr 1
  exact Lib.count_one 10 t.data.toList

/-! ### strings.Split at a newline -/
theorem woSplitN (s : ByteArray) (w : World) (hs : s.size < 4294967281) : Calls Tryz.prog 28 #[.string s, .string ⟨#[10]⟩] w fun e w' =>
    e = .returned (.slice (some ⟨w.heap.size, 0, none⟩) (Lib.countB s ⟨#[10]⟩ + 1) (Lib.countB s ⟨#[10]⟩ + 1)) ∧ w' = w.alloc (.cells ((Lib.splitB ⟨#[10]⟩ 0 (Lib.countB s ⟨#[10]⟩) s).map Value.string).toArray 9) := by
  have h1 : 1 ≤ (⟨#[10]⟩ : ByteArray).size := by decide
  have hle := Lib.countB_le ⟨#[10]⟩ h1 s.size s (Nat.le_refl _)
  have hlen := Lib.splitB_all ⟨#[10]⟩ h1 0 _ s rfl
  have c : Calls Tryz.prog 47 #[.string s, .string ⟨#[10]⟩, .int .i64 (0 : Nat), .int .i64 (-1)] w fun e w' =>
      e = .returned (.slice (some ⟨w.heap.size, 0, none⟩) (Lib.splitB ⟨#[10]⟩ 0 (Lib.countB s ⟨#[10]⟩ + 1 - 1) s).length (Lib.countB s ⟨#[10]⟩ + 1)) ∧ w' = w.alloc (.cells (Lib.cellsOf (Lib.splitB ⟨#[10]⟩ 0 (Lib.countB s ⟨#[10]⟩ + 1 - 1) s) (Lib.countB s ⟨#[10]⟩ + 1)) 9) :=
    Any.strings_genSplit_core Tryz.lays221 (by kernel_rfl) s ⟨#[10]⟩ 0 (-1) (Lib.countB s ⟨#[10]⟩ + 1) w hs h1 (Nat.zero_le _)
      (fun x c hx => (Tryz.strings_Index_one x 10 _).mono (fun e w' h => ⟨by rw [h.1]; show _ = Ending.returned (Value.int .i64 (Lib.index x.data.toList [10])); rw [Lib.index_one], h.2⟩))
      ((Tryz.strings_Count_one s 10 w).mono (fun e w' h => ⟨by rw [h.1]; show _ = Ending.returned (Value.int .i64 ((Lib.count s.data.toList [10] : Nat) : Int)); rw [Lib.count_one]; rfl, h.2⟩))
      (by decide) (by decide) (by rw [if_pos (by decide)]; omega)
  rw [Nat.add_sub_cancel, hlen] at c
  have e2 : Lib.cellsOf (Lib.splitB ⟨#[10]⟩ 0 (Lib.countB s ⟨#[10]⟩) s) (Lib.countB s ⟨#[10]⟩ + 1) = ((Lib.splitB ⟨#[10]⟩ 0 (Lib.countB s ⟨#[10]⟩) s).map Value.string).toArray := by rw [← hlen]; exact Lib.cellsOf_full _
  rw [e2] at c
  go_enter Tryz.func28, Tryz.ntmps28
  go_wp2_with fail
  refine c.mono ?_; rintro e w' ⟨rfl, hw⟩; rw [hw]
  go_wp2_with fail
  go_ret
  exact ⟨rfl, rfl⟩
end Go.Proofs.YtcgpkcaaojkpcaaGreatDoor
/-
  Plain facts of entries: texts of lists; Print and Parse are inverse to each other.
-/
namespace Go.Proofs.YtcgpkcaaojkpcaaGreatDoor
set_option linter.unusedSimpArgs false
set_option linter.unusedVariables false
open Lib

/-! ### Lines joined -/
def joinL (l : List (List UInt8)) : List UInt8 := l.flatMap (· ++ [10])
theorem spl_no : ∀ (s cur r : List UInt8), (∀ c ∈ s, c ≠ 10) → spl cur (s ++ 10 :: r) = (cur ++ s) :: spl [] r
  | [], cur, r, _ => by simp [spl]
  | c :: s, cur, r, h => by
    rw [List.cons_append, spl, if_neg (h c (by simp)), spl_no s _ r (fun d hd => h d (by simp [hd]))]; simp
theorem spl_joinL : ∀ (l : List (List UInt8)), (∀ x ∈ l, ∀ c ∈ x, c ≠ 10) → spl [] (joinL l) = l
  | [], _ => rfl
  | x :: l, h => by
    have ih := spl_joinL l (fun y hy => h y (by simp [hy]))
    have e : joinL (x :: l) = x ++ 10 :: joinL l := by simp [joinL]
    rw [e, spl_no _ _ _ (h x (by simp)), ih]; rfl
theorem joinL_spl : ∀ (s cur : List UInt8), joinL (spl cur (s ++ [10])) = cur ++ s ++ [10]
  | [], cur => by simp [spl, joinL]
  | c :: s, cur => by
    by_cases h : c = 10
    · subst h
      have ih := joinL_spl s []
      rw [List.cons_append, spl, if_pos rfl]
      unfold joinL at ih ⊢
      rw [List.flatMap_cons, ih]; simp
    · rw [List.cons_append, spl, if_neg h, joinL_spl s]; simp
theorem spl_cnt : ∀ (s cur : List UInt8), (spl cur s).length = s.count 10
  | [], cur => by simp [spl]
  | c :: s, cur => by
    by_cases h : c = 10
    · subst h
      rw [spl, if_pos rfl, List.length_cons, spl_cnt s, List.count_cons_self]
    · rw [spl, if_neg h, spl_cnt s, List.count_cons_of_ne (by simpa using h)]
/-! ### A line of an entry -/
def lineN (x : Ent) : List UInt8 := lhdE x ++ 32 :: itoa x.seq
theorem lineE_N (x : Ent) : lineE x = lineN x ++ [10] := by unfold lineE lineN ltlE; simp
theorem linesE_join (l : List Ent) : linesE l = joinL (l.map lineN) := by
  unfold linesE joinL
  rw [List.flatMap_map]
  congr 1
  funext x
  exact lineE_N x
theorem esc_no10 : ∀ c : UInt8, ∀ d ∈ escW c, d ≠ 10 := byte_all (by decide +kernel)
theorem quote_no10 (l : List UInt8) : ∀ d ∈ quoteW l, d ≠ 10 := by
  intro d hd
  unfold quoteW at hd
  rcases List.mem_cons.1 hd with rfl | hd
  · decide
  · rcases List.mem_append.1 hd with hd | hd
    · obtain ⟨c, _, hc⟩ := List.mem_flatMap.1 hd
      exact esc_no10 c d hc
    · rcases List.mem_singleton.1 hd with rfl; decide
theorem dec_no10 {l : List UInt8} (h : isDec l = true) : ∀ d ∈ l, d ≠ 10 := by
  intro d hd e
  subst e
  have := isDec_no (l := l) ⟨10, hd, by decide, by decide⟩
  rw [this] at h; cases h
theorem lhdE_no10 (x : Ent) : ∀ d ∈ lhdE x, d ≠ 10 := by
  intro d hd
  unfold lhdE at hd
  split at hd
  · rcases List.mem_append.1 hd with hd | hd
    · simp at hd; rcases hd with rfl | rfl | rfl | rfl <;> decide
    · exact quote_no10 _ d hd
  · rcases List.mem_append.1 hd with hd | hd
    · rcases List.mem_append.1 hd with hd | hd
      · rcases List.mem_append.1 hd with hd | hd
        · simp at hd; rcases hd with rfl | rfl | rfl | rfl <;> decide
        · exact quote_no10 _ d hd
      · rcases List.mem_singleton.1 hd with rfl; decide
    · exact quote_no10 _ d hd
theorem lineN_no10 (x : Ent) : ∀ d ∈ lineN x, d ≠ 10 := by
  intro d hd
  unfold lineN at hd
  rcases List.mem_append.1 hd with hd | hd
  · exact lhdE_no10 x d hd
  · rcases List.mem_cons.1 hd with rfl | hd
    · decide
    · exact dec_no10 (itoa_facts x.seq).1 d hd
theorem wint_itoa (n : Int) (h1 : 1 ≤ n) (h2 : n ≤ 1000000000) : wint (itoa n) 1 1000000000 = (n, 0) := by
  obtain ⟨a, b⟩ := itoa_facts n
  unfold wint
  rw [if_pos a, b, if_pos]
  unfold inI64
  simp only [Bool.and_eq_true, decide_eq_true_eq]; omega
theorem str_of (s : ByteArray) : (⟨s.data.toList.toArray⟩ : ByteArray) = s := by cases s; simp
theorem pfin_of {x : Ent} (h : echk x = 0) : pfin x.dead x.key.data.toList x.val.data.toList (itoa x.seq) = (x, 0) := by
  obtain ⟨_, _, _, h4, h5⟩ := echk_ok h
  have e : (⟨⟨x.key.data.toList.toArray⟩, ⟨x.val.data.toList.toArray⟩, x.dead, x.seq⟩ : Ent) = x := by rw [str_of, str_of]
  unfold pfin
  rw [wint_itoa _ h4 h5]
  simp only [e, h]
  simp
theorem pone_line {x : Ent} (h : echk x = 0) : pone (lineN x) = (x, 0) := by
  obtain ⟨_, _, h3, h4, h5⟩ := echk_ok h
  cases hd : x.dead with
  | true =>
    have hv : x.val.data.toList = [] := by
      have := h3 hd
      rw [Lib.size_eq] at this
      exact List.length_eq_zero_iff.1 this
    have e : lineN x = delW ++ [32] ++ (quoteW x.key.data.toList ++ 32 :: itoa x.seq) := by
      unfold lineN lhdE; rw [hd]; simp [delW]
    have t4 : (lineN x).take 4 = delW ++ [32] := by rw [e]; rfl
    have d4 : (lineN x).drop 4 = quoteW x.key.data.toList ++ 32 :: itoa x.seq := by rw [e]; rfl
    unfold pone
    rw [if_neg (by rw [t4]; decide), if_pos t4, d4, unq1_quote]
    simp only
    rw [List.drop_left, pnum_cons, if_pos rfl]
    have := pfin_of h
    rw [hd, hv] at this; exact this
  | false =>
    have e : lineN x = putW ++ [32] ++ (quoteW x.key.data.toList ++ 32 :: (quoteW x.val.data.toList ++ 32 :: itoa x.seq)) := by
      unfold lineN lhdE; rw [hd]; simp [putW]
    have t4 : (lineN x).take 4 = putW ++ [32] := by rw [e]; rfl
    have d4 : (lineN x).drop 4 = quoteW x.key.data.toList ++ 32 :: (quoteW x.val.data.toList ++ 32 :: itoa x.seq) := by rw [e]; rfl
    unfold pone
    rw [if_pos t4, d4, unq1_quote]
    simp only
    rw [List.drop_left, pval_cons, if_pos rfl, unq1_quote]
    simp only
    rw [List.drop_left, pnum_cons, if_pos rfl]
    have := pfin_of h
    rw [hd] at this; exact this
theorem pfin_back {dead : Bool} {key val num : List UInt8} {x : Ent} (h : pfin dead key val num = (x, 0)) : echk x = 0 ∧ x.dead = dead ∧ x.key.data.toList = key ∧ x.val.data.toList = val ∧ num = itoa x.seq := by
  unfold pfin at h
  split at h
  · injection h with _ h; cases h
  · rename_i h1
    split at h
    · rename_i h2; injection h with _ h; exact absurd h h2
    · rename_i h2
      injection h with h _
      have h2' : echk x = 0 := by rw [← h]; omega
      have hs := (echk_ok h2').2.2.2
      have hseq : x.seq = (wint num 1 1000000000).1 := by rw [← h]
      refine ⟨h2', by rw [← h], by rw [← h], by rw [← h], ?_⟩
      unfold wint at h1 hseq
      by_cases hd : isDec num = true
      · rw [if_pos hd] at hseq
        split at hseq
        · simp only at hseq
          rw [hseq, itoa_intV hd]
        · simp only at hseq; omega
      · rw [if_neg hd] at h1; exact absurd rfl h1
theorem pnum_back {dead : Bool} {key val r : List UInt8} {x : Ent} (h : pnum dead key val r = (x, 0)) : ∃ num, r = 32 :: num ∧ pfin dead key val num = (x, 0) := by
  match r with
  | [] => cases h
  | c :: r =>
    rw [pnum_cons] at h
    split at h
    · rename_i e; exact ⟨r, by rw [e], h⟩
    · cases h
theorem pone_back {s : List UInt8} {x : Ent} (h : pone s = (x, 0)) : s = lineN x ∧ echk x = 0 := by
  unfold pone at h
  split at h
  · rename_i t4
    have hs : s = putW ++ [32] ++ s.drop 4 := by rw [← t4, List.take_append_drop]
    split at h
    · rename_i k n hu
      obtain ⟨e1, _⟩ := unq1_inv hu
      generalize (s.drop 4).drop n = r at h e1
      match r with
      | [] => cases h
      | c :: r =>
        rw [pval_cons] at h
        split at h
        · rename_i ec
          split at h
          · rename_i v m hv
            obtain ⟨e2, _⟩ := unq1_inv hv
            obtain ⟨num, e3, e4⟩ := pnum_back h
            obtain ⟨a, b, c1, d, e⟩ := pfin_back e4
            refine ⟨?_, a⟩
            rw [hs, e1, ec, e2, e3]
            unfold lineN lhdE
            rw [b, c1, d, e]; simp [putW]
          · cases h
        · cases h
    · cases h
  · split at h
    · rename_i _ t4
      have hs : s = delW ++ [32] ++ s.drop 4 := by rw [← t4, List.take_append_drop]
      split at h
      · rename_i k n hu
        obtain ⟨e1, _⟩ := unq1_inv hu
        obtain ⟨num, e3, e4⟩ := pnum_back h
        obtain ⟨a, b, c1, d, e⟩ := pfin_back e4
        refine ⟨?_, a⟩
        rw [hs, e1, e3]
        unfold lineN lhdE
        rw [b, c1, e]; simp [delW]
      · cases h
    · cases h
/-! ### A text -/
def epgo : Nat → List Ent → List (List UInt8) → List Ent × Int × Int
  | _, acc, [] => (acc, 0, 0)
  | i, acc, s :: r => if (pone s).2 ≠ 0 then ([], ((i + 1 : Nat) : Int), (pone s).2) else epgo (i + 1) (acc ++ [(pone s).1]) r
def eparse (t : List UInt8) : List Ent × Int × Int :=
  if 1048576 < t.length ∨ 5000 < t.count 10 then ([], 0, 3) else if t = [] then ([], 0, 0) else if t.getLast? ≠ some 10 then ([], 0, 6) else epgo 0 [] (spl [] t)
theorem epgo_lines : ∀ (l : List Ent) (i : Nat) (acc : List Ent), (∀ x ∈ l, echk x = 0) → epgo i acc (l.map lineN) = (acc ++ l, 0, 0)
  | [], i, acc, _ => by simp [epgo]
  | x :: l, i, acc, h => by
    rw [List.map_cons]
    unfold epgo
    rw [pone_line (h x (by simp))]
    simp only [ne_eq, not_true, if_false]
    rw [epgo_lines l _ _ (fun y hy => h y (by simp [hy]))]; simp
theorem epgo_back : ∀ (ls : List (List UInt8)) (i : Nat) (acc l : List Ent), epgo i acc ls = (l, 0, 0) → ∃ m, l = acc ++ m ∧ ls = m.map lineN ∧ ∀ x ∈ m, echk x = 0
  | [], i, acc, l, h => by
    unfold epgo at h; injection h with h _
    exact ⟨[], by simp [h], rfl, by simp⟩
  | s :: r, i, acc, l, h => by
    unfold epgo at h
    split at h
    · rename_i e; injection h with _ h; injection h with _ h; exact absurd h e
    · rename_i e
      obtain ⟨m, h1, h2, h3⟩ := epgo_back r _ _ _ h
      have hp : pone s = ((pone s).1, 0) := by
        have : (pone s).2 = 0 := by omega
        rw [← this]
      obtain ⟨b1, b2⟩ := pone_back hp
      refine ⟨(pone s).1 :: m, by rw [h1]; simp, by rw [List.map_cons, ← b1, ← h2], fun x hx => ?_⟩
      rcases List.mem_cons.1 hx with rfl | hx
      · exact b2
      · exact h3 x hx
theorem joinL_last : ∀ (l : List (List UInt8)), l ≠ [] → (joinL l).getLast? = some 10
  | [], h => absurd rfl h
  | [x], _ => by simp [joinL]
  | x :: y :: l, _ => by
    have ih := joinL_last (y :: l) (by simp)
    have e : joinL (x :: y :: l) = x ++ [10] ++ joinL (y :: l) := by simp [joinL]
    rw [e, List.getLast?_append, ih]; rfl
theorem eparse_print {l : List Ent} (h : (eprint l).2 = 0) : eparse (eprint l).1 = (l, 0, 0) := by
  unfold eprint at h ⊢
  by_cases h1 : 5000 < l.length
  · rw [if_pos h1] at h; cases h
  · rw [if_neg h1] at h ⊢
    by_cases h2 : eall l ≠ 0
    · rw [if_pos h2] at h; exact absurd h h2
    · rw [if_neg h2] at h ⊢
      by_cases h3 : 1048576 < (linesE l).length
      · rw [if_pos h3] at h; cases h
      · rw [if_neg h3]
        have ok := eall_ok (l := l) (by omega)
        have no : ∀ x ∈ l.map lineN, ∀ c ∈ x, c ≠ 10 := by
          intro x hx c hc
          obtain ⟨y, _, rfl⟩ := List.mem_map.1 hx
          exact lineN_no10 y c hc
        have hsp : spl [] (linesE l) = l.map lineN := by rw [linesE_join, spl_joinL _ no]
        have hct : (linesE l).count 10 = l.length := by rw [← spl_cnt _ [], hsp]; simp
        unfold eparse
        simp only
        rw [if_neg (by omega)]
        cases l with
        | nil => rfl
        | cons x l =>
          have hl : (linesE (x :: l)).getLast? = some 10 := by rw [linesE_join]; exact joinL_last _ (by simp)
          rw [if_neg (by intro e; rw [e] at hl; cases hl), if_neg (by rw [hl]; simp), hsp, epgo_lines _ _ _ ok]; simp
theorem eprint_parse {t : List UInt8} (h : (eparse t).2.2 = 0) : eprint (eparse t).1 = (t, 0) := by
  unfold eparse at h ⊢
  by_cases h1 : 1048576 < t.length ∨ 5000 < t.count 10
  · rw [if_pos h1] at h; cases h
  · rw [if_neg h1] at h ⊢
    by_cases h2 : t = []
    · rw [if_pos h2]; subst h2; rfl
    · rw [if_neg h2] at h ⊢
      by_cases h3 : t.getLast? ≠ some 10
      · rw [if_pos h3] at h; cases h
      · rw [if_neg h3] at h ⊢
        have h3' : t.getLast? = some 10 := Decidable.byContradiction h3
        have ht : t = t.dropLast ++ [10] := by
          rcases List.eq_nil_or_concat t with e | ⟨a, b, e⟩
          · exact absurd e h2
          · rw [List.concat_eq_append] at e
            rw [e] at h3' ⊢
            simp at h3'; subst h3'; simp
        have hj : joinL (spl [] t) = t := by
          conv => lhs; rw [ht]
          rw [joinL_spl]; simp [← ht]
        have hlen := spl_cnt t []
        generalize hR : epgo 0 [] (spl [] t) = R at h ⊢
        obtain ⟨l, a, b⟩ := R
        have hz : ∀ (ls : List (List UInt8)) (i : Nat) (acc : List Ent) (l : List Ent) (a b : Int), epgo i acc ls = (l, a, b) → b = 0 → a = 0 := by
          intro ls
          induction ls with
          | nil => intro i acc l a b h _; unfold epgo at h; injection h with _ h; injection h with h _; exact h.symm
          | cons s r ih =>
            intro i acc l a b h hb
            unfold epgo at h
            split at h
            · rename_i e; injection h with _ h; injection h with _ h; omega
            · exact ih _ _ _ _ _ h hb
        have hb : b = 0 := h
        have ha := hz _ _ _ _ _ _ hR hb
        subst hb ha
        obtain ⟨m, e1, e2, e3⟩ := epgo_back _ _ _ _ hR
        rw [List.nil_append] at e1
        subst e1
        have hlt : linesE l = t := by rw [linesE_join, ← e2, hj]
        have hlm : l.length = t.count 10 := by rw [← hlen, e2]; simp
        unfold eprint
        simp only
        rw [if_neg (by omega), if_neg (by have := (eall_iff l).2 e3; omega), hlt, if_neg (by omega)]
end Go.Proofs.YtcgpkcaaojkpcaaGreatDoor
/-
  Contracts of words: Lines.
-/
namespace Go.Proofs.YtcgpkcaaojkpcaaGreatDoor
open Go.RowKit
set_option linter.unusedSimpArgs false
set_option linter.unusedVariables false
set_option maxRecDepth 100000

theorem spl_len : ∀ (l cur : List UInt8), ∀ x ∈ spl cur l, x.length ≤ cur.length + l.length
  | [], cur, x, h => by simp [spl] at h
  | c :: l, cur, x, h => by
    rw [spl] at h
    split at h
    · rcases List.mem_cons.1 h with rfl | h
      · omega
      · have := spl_len l [] x h
        simp at this ⊢; omega
    · have := spl_len l _ x h
      simp at this ⊢; omega
def wlines (l : List UInt8) : List (List UInt8) × Int := if 1048576 < l.length then ([], 3) else if l = [] then ([], 0) else if Lib.hasSuffix l [10] = false then ([], 6) else if 5000 < (spl [] l).length then ([], 3) else (spl [] l, 0)
/-- Lines as a result. -/
def LinesIs (r : List (List UInt8) × Int) (w : World) (v : Value) : Prop := ∃ a c, ∃ L : List ByteArray, v = .tuple #[.slice a L.length c, .int .i64 r.2] ∧ Strs w a L ∧ L.map (·.data.toList) = r.1 ∧ L.length ≤ 5000
theorem lines_none (w : World) (k : Int) : LinesIs ([], k) w (.tuple #[.slice none 0 0, .int .i64 k]) := ⟨none, 0, [], rfl, ⟨by simp, fun h => absurd rfl h⟩, rfl, by simp⟩
theorem suffix_cut {s : ByteArray} (h : Lib.hasSuffix s.data.toList [10] = true) : 1 ≤ s.size ∧ (s.extract 0 (s.size - 1)).data.toList ++ [10] = s.data.toList := by
  unfold Lib.hasSuffix at h
  obtain ⟨t, ht⟩ := List.isSuffixOf_iff_suffix.1 h
  have hl : s.size = t.length + 1 := by
    rw [Lib.size_eq, ← ht, List.length_append]; rfl
  refine ⟨by omega, ?_⟩
  rw [Lib.extract_from_zero, ← ht, hl]
  simp
theorem strs_new (w : World) (L : List ByteArray) (ho : ∀ x, x ∈ L → x.size ≤ maxLen) : Strs (w.alloc (.cells (L.map Value.string).toArray 9)) (some ⟨w.heap.size, 0, none⟩) L := by
  refine ⟨ho, fun hn => ⟨w.heap.size, 0, rfl, fun i x hx => ?_⟩⟩
  rw [Nat.zero_add, new_cell]
  simp [hx]
end Go.Proofs.YtcgpkcaaojkpcaaGreatDoor
/-
  The program's Parse of a list.
-/
namespace Go.Proofs.YtcgpkcaaojkpcaaGreatDoor
open Go.RowKit
set_option linter.unusedSimpArgs false
set_option linter.unusedVariables false
set_option maxRecDepth 100000

theorem entParseP (s : ByteArray) (hs : s.size ≤ 100000) (w : World) (hE : WEnv w) : Calls Tryz.prog 29 #[.string s] w (RB w (.tuple #[(pone s.data.toList).1.v, .int .i64 (pone s.data.toList).2])) := by
  rw [← pparse_pone]; exact entParse s hs w hE
/-- A list, a line, an error as a result. -/
def EPaV (r : List Ent × Int × Int) (w : World) (v : Value) : Prop := ∃ a c, v = .tuple #[.slice a r.1.length c, .int .i64 r.2.1, .int .i64 r.2.2] ∧ Ents w a r.1 ∧ r.1.length ≤ c ∧ c ≤ maxLen
theorem epaV_nil (w : World) (i e : Int) : EPaV ([], i, e) w (.tuple #[.slice none 0 0, .int .i64 i, .int .i64 e]) := ⟨none, 0, rfl, ⟨by simp, fun h => absurd rfl h⟩, Nat.le_refl _, by unfold maxLen; omega⟩
theorem epgo_stop {k : Nat} {acc : List Ent} {Ls : List (List UInt8)} {q : List UInt8} (h : Ls[k]? = some q) (hp : (pone q).2 ≠ 0) : epgo k acc (Ls.drop k) = ([], ((k + 1 : Nat) : Int), (pone q).2) := by
  obtain ⟨h1, h2⟩ := List.getElem?_eq_some_iff.1 h
  rw [List.drop_eq_getElem_cons h1, h2]
  unfold epgo
  rw [if_pos hp]
theorem epgo_step {k : Nat} {acc : List Ent} {Ls : List (List UInt8)} {q : List UInt8} (h : Ls[k]? = some q) (hp : (pone q).2 = 0) : epgo k acc (Ls.drop k) = epgo (k + 1) (acc ++ [(pone q).1]) (Ls.drop (k + 1)) := by
  obtain ⟨h1, h2⟩ := List.getElem?_eq_some_iff.1 h
  rw [List.drop_eq_getElem_cons h1, h2]
  conv => lhs; unfold epgo
  rw [if_neg (by simp [hp])]
theorem pone_okE {q : List UInt8} (h : (pone q).2 = 0) : (pone q).1.ok := by
  have hp : pone q = ((pone q).1, 0) := by rw [← h]
  obtain ⟨_, h2⟩ := pone_back hp
  unfold echk at h2
  split at h2
  · cases h2
  · split at h2
    · cases h2
    · split at h2
      · cases h2
      · unfold Ent.ok maxLen; omega
theorem count_last {t : List UInt8} (h : t.count 10 = 0) : t.getLast? ≠ some 10 := by
  intro e
  have := List.mem_of_getLast? e
  exact absurd (List.count_pos_iff.2 this) (by omega)
theorem suf_last (l : List UInt8) : (l.getLast? = some 10) ↔ Lib.hasSuffix l [10] = true := by
  unfold Lib.hasSuffix
  rw [List.isSuffixOf_iff_suffix]
  constructor
  · intro h
    rcases List.eq_nil_or_concat l with e | ⟨a, b, e⟩
    · rw [e] at h; cases h
    · rw [List.concat_eq_append] at e
      rw [e] at h ⊢
      simp at h; subst h; exact ⟨a, rfl⟩
  · rintro ⟨a, rfl⟩; simp
set_option maxHeartbeats 8000000 in
theorem entParseT (s : ByteArray) (hs : s.size ≤ 100000) (w : World) (hE : WEnv w) : Calls Tryz.prog 8 #[.string s] w (RM w (EPaV (eparse s.data.toList))) := by
  obtain ⟨i0, hin, hz0, hz1, hz2⟩ := info_parts inf_ent
  obtain ⟨res, hres⟩ : ∃ r, eparse s.data.toList = r := ⟨_, rfl⟩
  rw [hres]
  unfold eparse at hres
  have hsz : s.data.toList.length = s.size := (Lib.size_eq s).symm
  rw [hsz] at hres
  have HC := Lib.hid (fun w => show Calls Tryz.prog 26 #[.string s, .string ⟨#[10]⟩] w (RB w (.int .i64 (s.data.toList.count 10 : Nat))) from (Tryz.strings_Count_one s 10 w).mono (fun e w' h => ⟨by rw [h.1]; rfl, by rw [h.2]; exact Bl.refl _⟩))
  have hc9 : s.data.toList.count 10 ≤ 100000 := by have := List.count_le_length (a := (10 : UInt8)) (l := s.data.toList); omega
  have HP := Lib.hid (fun x (hx : ByteArray.size x ≤ 100000) w h => entParseP x hx w h)
  have HE := Lib.hid hE
  have i1 : ¬ (1048576 : Int) < (s.size : Int) := by omega
  obtain ⟨n, hn⟩ : ∃ n, s.data.toList.count 10 = n := ⟨_, rfl⟩
  rw [hn] at HC hres hc9
  clear hE
  by_cases h5 : 5000 < n
  · rw [if_pos (.inr h5)] at hres
    subst hres
    have i5 : (5000 : Int) < (n : Int) := by omega
    clear hn hsz h5
    go_enter Tryz.func8, Tryz.ntmps8
    go_wp2_with fail
    refine (HC.out _).mono ?_; rintro e w1 ⟨rfl, hb1⟩
    go_wp2_with fail
    go_ret3
    exact RM.mk (epaV_nil _ _ _) ‹Bl w _›
  · have i5 : ¬ (5000 : Int) < (n : Int) := by omega
    rw [if_neg (by omega)] at hres
    by_cases h2 : s.data.toList = []
    · rw [if_pos h2] at hres
      subst hres
      have hem : s.toList.isEmpty = true := by rw [toL, h2]; rfl
      have hem2 : s.toList = [] := by rw [toL, h2]
      clear hn hsz h5 h2
      go_enter Tryz.func8, Tryz.ntmps8
      go_wp2_with fail
      refine (HC.out _).mono ?_; rintro e w1 ⟨rfl, hb1⟩
      go_wp2_with fail
      go_ret3
      exact RM.mk (epaV_nil _ _ _) ‹Bl w _›
    · rw [if_neg h2] at hres
      have hem : s.toList.isEmpty = false := by
        rw [toL]
        match s.data.toList, h2 with
        | [], h => exact absurd rfl h
        | _ :: _, _ => rfl
      have hH := fun w => Tryz.strings_HasSuffix s ⟨#[10]⟩ w (by omega)
      obtain ⟨b, hb⟩ : ∃ b, Lib.hasSuffix s.data.toList [10] = b := ⟨_, rfl⟩
      rw [show (⟨#[10]⟩ : ByteArray).data.toList = [10] from rfl, hb] at hH
      have HH := Lib.hid hH
      clear hH h2
      cases b
      · rw [if_pos (fun e => by rw [(suf_last _).1 e] at hb; cases hb)] at hres
        subst hres
        clear hb hsz h5 hn
        go_enter Tryz.func8, Tryz.ntmps8
        go_wp2_with fail
        refine (HC.out _).mono ?_; rintro e w1 ⟨rfl, hb1⟩
        go_wp2_with fail
        refine (HH.out _).mono ?_; rintro e w2 ⟨rfl, hw2⟩; rw [hw2]
        go_wp2_with fail
        go_ret3
        exact RM.mk (epaV_nil _ _ _) ‹Bl w _›
      · rw [if_neg (fun e => e ((suf_last _).2 hb))] at hres
        obtain ⟨hpos, hcat⟩ := suffix_cut hb
        obtain ⟨t, ht⟩ : ∃ t, s.extract 0 (s.size - 1) = t := ⟨_, rfl⟩
        rw [ht] at hcat
        have htl : t.size + 1 = s.size := by rw [← ht, ByteArray.size_extract]; omega
        have hS := fun w => woSplitN t w (by omega)
        have hlen := Lib.splitB_all ⟨#[10]⟩ (by decide) 0 _ t rfl
        have hmap := splitB_spl t
        generalize Lib.countB t ⟨#[10]⟩ = nn at hS hlen hmap
        generalize Lib.splitB ⟨#[10]⟩ 0 nn t = L at hS hlen hmap
        rw [hcat] at hmap
        have hok : ∀ x, x ∈ L → x.size ≤ 100000 := by
          intro x hx
          have := spl_len s.data.toList [] x.data.toList (by rw [← hmap]; exact List.mem_map_of_mem hx)
          rw [← Lib.size_eq, hsz] at this
          simp at this; omega
        have hln : L.length ≤ 5000 := by
          have h1 := spl_cnt s.data.toList []
          rw [← hmap, List.length_map, hn] at h1
          omega
        rw [← hmap] at hres
        have j1 : (0 : Int) ≤ (s.size : Int) - 1 := by omega
        have j2 : (s.size : Int) - 1 ≤ (s.size : Int) := by omega
        have j3 : ((s.size : Int) - 1).toNat = s.size - 1 := by omega
        have HS := Lib.hid hS
        have HT := Lib.hid ht
        have HK := Lib.hid hok
        have HRes := Lib.hid hres
        have HLn := Lib.hid hlen
        clear hS ht hok hmap hlen hb hsz h5 hcat htl hn hres
        go_enter Tryz.func8, Tryz.ntmps8
        go_wp2_with fail
        refine (HC.out _).mono ?_; rintro e w1 ⟨rfl, hb1⟩
        go_wp2_with fail
        refine (HH.out _).mono ?_; rintro e w2 ⟨rfl, hw2⟩; rw [hw2]
        go_wp2_with fail
        rw [HT.out]
        refine (HS.out _).mono ?_; rintro e w3 ⟨rfl, hw3⟩
        have hbL : Bl w w3 := hw3 ▸ (hb1.alloc _)
        have hSt : Strs w3 (some ⟨w1.heap.size, 0, none⟩) L := hw3 ▸ strs_new w1 L (fun x hx => by have := HK.out x hx; unfold maxLen; omega)
        have HSt := Lib.hid hSt
        have HBL := Lib.hid hbL
        rw [HLn.out] at hln
        clear hw3 hSt hbL hb1
        obtain ⟨B1, hB1⟩ : ∃ z, w1.heap.size = z := ⟨_, rfl⟩
        rw [hB1] at HSt ⊢
        clear hB1
        go_wp2_with fail
        go_loopg [2, 32] (nn + 1) (fun gg lv ix wr => ∃ (k : Nat) (acc : List Ent), ix = .int .i64 k ∧ k ≤ nn + 1 ∧ Hid (wr.ownsRow w3.heap.size 34 4 lv acc.length (entCells acc) ∧ epgo k acc ((L.map (·.data.toList)).drop k) = res ∧ acc.length ≤ k ∧ (∀ x ∈ acc, x.ok)) ∧ Bl w3 wr ∧ gg = nn + 1 - k)
        case atStart => exact ⟨0, [], rfl, Nat.zero_le _, Lib.hid ⟨own_nil _ _ _ _, HRes.out, Nat.le_refl _, by simp⟩, Bl.refl _, rfl⟩
        case round =>
          obtain ⟨k, acc, rfl, hk, H, hb, hg⟩ := hrel
          have G := Lib.hid hg
          clear hg
          by_cases hkl : k < nn + 1
          · have dk : decide ((k : Int) < (nn : Int) + 1) = true := by rw [decide_eq_true_eq]; omega
            obtain ⟨q, hq⟩ : ∃ q, L[k]? = some q := ⟨_, List.getElem?_eq_getElem (by rw [HLn.out]; exact hkl)⟩
            obtain ⟨b, off, hbo, hat⟩ := HSt.out.get (k := k) (by rw [HLn.out]; exact hkl)
            injection hbo with hbo; injection hbo with e1 e2
            subst e1 e2
            have d0 := hb.cell (hat k q hq)
            rw [Nat.zero_add] at d0
            have hqs := HK.out q (List.mem_of_getElem? hq)
            have hLs : (L.map (·.data.toList))[k]? = some q.data.toList := by rw [List.getElem?_map, hq]; rfl
            have hPq := fun w h => HP.out q hqs w h
            obtain ⟨⟨x, er⟩, hpo⟩ : ∃ z, pone q.data.toList = z := ⟨_, rfl⟩
            rw [hpo] at hPq
            unfold Ent.v at hPq
            simp only at hPq
            have HPq := Lib.hid hPq
            by_cases her : er = 0
            · have hst := epgo_step (acc := acc) hLs (by rw [hpo]; exact her)
              have hxo := pone_okE (q := q.data.toList) (by rw [hpo]; exact her)
              rw [hpo] at hst hxo
              have hnx : epgo (k + 1) (acc ++ [x]) ((L.map (·.data.toList)).drop (k + 1)) = res := by rw [← H.out.2.1, hst]
              have HNx := Lib.hid (And.intro hnx hxo)
              have hal : acc.length ≤ k := H.out.2.2.1
              subst her
              have j0 : (0 : Int) ≤ (k : Int) := by omega
              have j1 : (k : Int) < (nn : Int) + 1 := by omega
              clear hat hq hqs hLs hPq hpo hst hxo hnx
              go_wp2_with fail
              refine (HPq.out _ (HE.out.bl (HBL.out.trans hb))).mono ?_; rintro e w5 ⟨rfl, hb5⟩
              have hb35 := hb.trans hb5
              have hs5 := hb35.size
              have hown5 := own_bl H.out.1 hb5
              have HO5 := Lib.hid hown5
              clear d0 hown5 hb5
              go_wp2_with (at_builtin; refine wpList_append_own _ rfl _ _ 22 rfl w3.heap.size 34 i0 (.agg #[.string ⟨#[]⟩, .string ⟨#[]⟩, .bool false, .int .i64 0]) 4 48 Tryz.underlying22 hin hz0 hz1 hz2 rfl (by decide) _ _ _ rfl (World.ownsRow.alloc (World.ownsRow.alloc HO5.out _) _) ⟨w5.heap.size + 1, 0, none⟩ 1 1 [.string x.key, .string x.val, .bool x.dead, .int .i64 x.seq] rfl rfl ?c1 ?c2 ?c3 ?c4 ?c5 ?_)
              case c1 => exact fun j u h => by have := multi_new (w5.alloc (.cells #[.string x.key, .string x.val, .bool x.dead, .int .i64 x.seq] 34)) [.string x.key, .string x.val, .bool x.dead, .int .i64 x.seq] 34 j u h; simpa using this
              case c2 => intro u hu; simp at hu; rcases hu with rfl | rfl | rfl | rfl <;> rfl
              case c3 => unfold maxLen; omega
              case c4 => omega
              case c5 => simp; omega
              intro v' w6 hown6 hgrow _
              have hb6 := grown_bl ((hb35.alloc _).alloc _) (World.ownsRow.alloc (World.ownsRow.alloc HO5.out _) _) hgrow (Nat.le_refl _)
              have hown7 : w6.ownsRow w3.heap.size 34 4 v' (acc ++ [x]).length (entCells (acc ++ [x])) := by
                rw [entCells_snoc, List.length_append]; exact hown6
              have HO7 := Lib.hid hown7
              clear hown6 hown7 hgrow hb35 hs5
              go_wp2_with fail
              go_roundg (nn + 1 - (k + 1))
              case rel => exact ⟨k + 1, acc ++ [x], by go_num, by omega, Lib.hid ⟨HO7.out, HNx.out.1, by rw [List.length_append]; simp; omega, fun y hy => by
                rcases List.mem_append.1 hy with hy | hy
                · exact H.out.2.2.2 y hy
                · rcases List.mem_singleton.1 hy with rfl; exact HNx.out.2⟩, hb6, rfl⟩
              case measure => rw [G.out]; omega
            · have hst := epgo_stop (acc := acc) hLs (by rw [hpo]; exact her)
              rw [hpo, H.out.2.1] at hst
              simp only at hst
              subst hst
              have t1 : (er != 0) = true := by rw [bne_iff_ne]; exact her
              have j0 : (0 : Int) ≤ (k : Int) := by omega
              have j1 : (k : Int) < (nn : Int) + 1 := by omega
              clear hat hq hqs hLs hPq hpo her
              go_wp2_with fail
              refine (HPq.out _ (HE.out.bl (HBL.out.trans hb))).mono ?_; rintro e w5 ⟨rfl, hb5⟩
              have hbw := (HBL.out.trans hb).trans hb5
              go_wp2_with fail
              go_ret3
              exact RM.mk (epaV_nil _ _ _) (hbw.alloc _)
          · obtain rfl : k = nn + 1 := by omega
            have hr := H.out.2.1
            rw [List.drop_of_length_le (by rw [List.length_map, HLn.out]; exact Nat.le_refl _)] at hr
            unfold epgo at hr
            subst hr
            obtain ⟨a, c, rfl, hE, hc1, hc2⟩ := own_ents H.out.1 H.out.2.2.2
            have HF := Lib.hid (And.intro hE (And.intro hc1 hc2))
            have hbw := HBL.out.trans hb
            clear hE hc1 hc2 H
            go_wp2_with fail
            go_ret3
            exact RM.mk ⟨a, c, rfl, HF.out⟩ hbw
end Go.Proofs.YtcgpkcaaojkpcaaGreatDoor
/-
  Contracts of words: the reference's Lines.
-/
namespace Go.Proofs.YtcgpkcaaojkpcaaGreatDoor
open Go.RowKit
set_option linter.unusedSimpArgs false
set_option linter.unusedVariables false
set_option maxRecDepth 100000

/-- Between two rounds of the reference's loop: done are the pieces laid, fr where the next begins. -/
theorem spl_take {l : List UInt8} {fr i : Nat} {c : UInt8} (hf : fr ≤ i) (hc : l[i]? = some c) : spl ((l.take i).drop fr) (l.drop i) = if c = 10 then (l.take i).drop fr :: spl [] (l.drop (i + 1)) else spl ((l.take (i + 1)).drop fr) (l.drop (i + 1)) := by
  obtain ⟨hi, he⟩ := List.getElem?_eq_some_iff.1 hc
  rw [List.drop_eq_getElem_cons hi, he, spl]
  have e : (l.take (i + 1)).drop fr = (l.take i).drop fr ++ [c] := by
    rw [List.take_succ_eq_append_getElem hi, he, List.drop_append]
    rw [show fr - (l.take i).length = 0 by rw [List.length_take]; omega]
    simp
  rw [e]
theorem u8_no {c : UInt8} (h : ¬ c = 10) : ((c.toNat : Int) == 10) = false := by
  rw [beq_eq_false_iff_ne]
  intro e
  exact h (UInt8.toNat_inj.1 (show c.toNat = (10 : UInt8).toNat by rw [show (10 : UInt8).toNat = 10 from rfl]; omega))
theorem ext_list (s : ByteArray) (fr i : Nat) : (s.extract fr i).data.toList = (s.data.toList.take i).drop fr := by
  rw [Lib.extract_data, List.drop_take]
theorem last_suffix {s : ByteArray} {c : UInt8} (h : s.data.toList[s.size - 1]? = some c) (hp : 1 ≤ s.size) : Lib.hasSuffix s.data.toList [10] = decide (c = 10) := by
  have hl := Lib.size_eq s
  obtain ⟨hi, he⟩ := List.getElem?_eq_some_iff.1 h
  have hs : s.data.toList = s.data.toList.take (s.size - 1) ++ [c] := by
    have := List.take_succ_eq_append_getElem hi
    rw [he] at this
    rw [← this, List.take_of_length_le (by omega)]
  by_cases hc : c = 10
  · subst hc
    rw [decide_eq_true rfl]
    unfold Lib.hasSuffix
    exact List.isSuffixOf_iff_suffix.2 ⟨_, hs.symm⟩
  · rw [decide_eq_false hc]
    unfold Lib.hasSuffix
    rw [Bool.eq_false_iff]
    intro hh
    obtain ⟨t, ht⟩ := List.isSuffixOf_iff_suffix.1 hh
    rw [hs] at ht
    have := (List.append_inj' ht rfl).2
    simp at this
    exact hc this.symm
end Go.Proofs.YtcgpkcaaojkpcaaGreatDoor
/-
  The reference's Parse of a list.
-/
namespace Go.Proofs.YtcgpkcaaojkpcaaGreatDoor
open Go.RowKit
set_option linter.unusedSimpArgs false
set_option linter.unusedVariables false
set_option maxRecDepth 100000

theorem epgo_cons_stop {k : Nat} {acc : List Ent} {q : List UInt8} {r : List (List UInt8)} (hp : (pone q).2 ≠ 0) : epgo k acc (q :: r) = ([], ((k + 1 : Nat) : Int), (pone q).2) := by
  unfold epgo
  rw [if_pos hp]
theorem epgo_cons_step {k : Nat} {acc : List Ent} {q : List UInt8} {r : List (List UInt8)} (hp : (pone q).2 = 0) : epgo k acc (q :: r) = epgo (k + 1) (acc ++ [(pone q).1]) r := by
  conv => lhs; unfold epgo
  rw [if_neg (by simp [hp])]
theorem count_take {l : List UInt8} {k : Nat} {c : UInt8} (h : l[k]? = some c) : (l.take (k + 1)).count 10 = (l.take k).count 10 + if c = 10 then 1 else 0 := by
  obtain ⟨h1, h2⟩ := List.getElem?_eq_some_iff.1 h
  rw [List.take_succ_eq_append_getElem h1, h2, List.count_append]
  by_cases hc : c = 10
  · subst hc; simp
  · simp [hc]
set_option maxHeartbeats 8000000 in
theorem refParseT (s : ByteArray) (hs : s.size ≤ 100000) (w : World) : Calls Tryz.prog 9 #[.string s] w (RM w (EPaV (eparse s.data.toList))) := by
  obtain ⟨i0, hin, hz0, hz1, hz2⟩ := info_parts inf_ent
  obtain ⟨res, hres⟩ : ∃ r, eparse s.data.toList = r := ⟨_, rfl⟩
  rw [hres]
  unfold eparse at hres
  have hsz : s.data.toList.length = s.size := (Lib.size_eq s).symm
  rw [hsz] at hres
  have HRes0 := Lib.hid hres
  have HP := Lib.hid (fun x (hx : ByteArray.size x ≤ 100000) w => refOneE x hx w)
  have i1 : ¬ (1048576 : Int) < (s.size : Int) := by omega
  clear hres
  go_enter Tryz.func9, Tryz.ntmps9
  go_wp2_with fail
  go_loopg [5, 6] s.size (fun g c i wr => ∃ k : Nat, i = .int .i64 k ∧ k ≤ s.size ∧ c = .int .i64 ((s.data.toList.take k).count 10 : Nat) ∧ Bl w wr ∧ g = s.size - k)
  case atStart => exact ⟨0, rfl, Nat.zero_le _, rfl, Bl.refl _, rfl⟩
  case round =>
    obtain ⟨k, rfl, hks, rfl, hb, hg⟩ := hrel
    have G := Lib.hid hg
    clear hg
    have hcl : (s.data.toList.take k).count 10 ≤ 100000 := by
      have h1 := List.count_le_length (a := (10 : UInt8)) (l := s.data.toList.take k)
      rw [List.length_take] at h1; omega
    by_cases hkl : k < s.size
    · obtain ⟨d, hd⟩ : ∃ d, s[k]'hkl = d := ⟨_, rfl⟩
      have hd2 : s.data.toList[k]? = some d := by rw [← hd]; simp [ByteArray.getElem_eq_getElem_data]
      have hct := count_take hd2
      obtain ⟨n, hn⟩ : ∃ n, (s.data.toList.take k).count 10 = n := ⟨_, rfl⟩
      rw [hn] at hct hcl ⊢
      have j0 : (0 : Int) ≤ (k : Int) := by omega
      have j1 : (k : Int) < (s.size : Int) := by omega
      by_cases hd10 : d = 10
      · rw [if_pos hd10] at hct
        have t1 : (((s[k]'hkl).toNat : Int) == 10) = true := by rw [hd, hd10]; rfl
        have HCt := Lib.hid hct
        clear hd hd2 hct hd10 hn
        go_wp2_with fail
        go_roundg (s.size - (k + 1))
        case rel => exact ⟨k + 1, by go_num, by omega, by rw [HCt.out]; go_num, hb, rfl⟩
        case measure => rw [G.out]; omega
      · rw [if_neg hd10] at hct
        have t1 : (((s[k]'hkl).toNat : Int) == 10) = false := by rw [hd]; exact u8_no hd10
        have HCt := Lib.hid hct
        clear hd hd2 hct hd10 hn
        go_wp2_with fail
        go_roundg (s.size - (k + 1))
        case rel => exact ⟨k + 1, by go_num, by omega, by rw [HCt.out]; rfl, hb, rfl⟩
        case measure => rw [G.out]; omega
    · obtain rfl : k = s.size := by omega
      have htk : s.data.toList.take s.size = s.data.toList := List.take_of_length_le (by omega)
      rw [htk] at hcl ⊢
      have hres := HRes0.out
      obtain ⟨n, hn⟩ : ∃ n, s.data.toList.count 10 = n := ⟨_, rfl⟩
      rw [hn] at hres hcl ⊢
      clear htk G HRes0
      by_cases h5 : 5000 < n
      · rw [if_pos (.inr h5)] at hres
        subst hres
        have i5 : (5000 : Int) < (n : Int) := by omega
        clear hn hsz h5
        go_wp2_with fail
        go_ret3
        exact RM.mk (epaV_nil _ _ _) hb
      · have i5 : ¬ (5000 : Int) < (n : Int) := by omega
        rw [if_neg (by omega)] at hres
        by_cases h2 : s.data.toList = []
        · rw [if_pos h2] at hres
          have hgo : epgo 0 [] (spl [] s.data.toList) = res := by rw [h2]; exact hres
          have hem : s.toList.isEmpty = true := by rw [toL, h2]; rfl
          have hem2 : s.toList = [] := by rw [toL, h2]
          clear hn hsz h5 h2 hres
          have HRes := Lib.hid hgo
          clear hgo
          go_wp2_with fail
          go_loopg [7, 8, 9] s.size (fun gg o f i wz => ∃ (fr k : Nat) (acc : List Ent), f = .int .i64 fr ∧ i = .int .i64 k ∧ fr ≤ k ∧ k ≤ s.size ∧ Hid (wz.ownsRow w.heap.size 34 4 o acc.length (entCells acc) ∧ epgo acc.length acc (spl ((s.data.toList.take k).drop fr) (s.data.toList.drop k)) = res ∧ acc.length ≤ k ∧ (∀ x ∈ acc, x.ok)) ∧ Bl w wz ∧ gg = s.size - k)
          case atStart => exact ⟨0, 0, [], rfl, rfl, Nat.le_refl _, Nat.zero_le _, Lib.hid ⟨own_nil _ _ _ _, HRes.out, Nat.le_refl _, by simp⟩, hb, rfl⟩
          case round =>
            clear hb HRes
            obtain ⟨fr, k, acc, rfl, rfl, hfk, hks, H, hb, hg⟩ := hrel
            have G := Lib.hid hg
            clear hg
            by_cases hkl : k < s.size
            · obtain ⟨d, hd⟩ : ∃ d, s[k]'hkl = d := ⟨_, rfl⟩
              have hd2 : s.data.toList[k]? = some d := by rw [← hd]; simp [ByteArray.getElem_eq_getElem_data]
              have ht := spl_take hfk hd2
              have j0 : (0 : Int) ≤ (k : Int) := by omega
              have j1 : (k : Int) < (s.size : Int) := by omega
              by_cases hd10 : d = 10
              · rw [if_pos hd10] at ht
                have t1 : (((s[k]'hkl).toNat : Int) != 10) = false := by rw [hd, hd10]; rfl
                have j3 : (fr : Int) ≤ (k : Int) := by omega
                have j4 : (0 : Int) ≤ (fr : Int) := by omega
                have j5 : (k : Int) ≤ (s.size : Int) := by omega
                obtain ⟨q, hq⟩ : ∃ q, s.extract fr k = q := ⟨_, rfl⟩
                have hql : q.data.toList = (s.data.toList.take k).drop fr := by rw [← hq]; exact ext_list s fr k
                have hqs : q.size ≤ 100000 := by rw [← hq, ByteArray.size_extract]; omega
                have hPq := fun w => HP.out q hqs w
                obtain ⟨⟨x, er⟩, hpo⟩ : ∃ z, pone q.data.toList = z := ⟨_, rfl⟩
                rw [hpo] at hPq
                unfold Ent.v at hPq
                simp only at hPq
                have HPq := Lib.hid hPq
                have hH := H.out.2.1
                rw [ht, ← hql] at hH
                have hal : acc.length ≤ k := H.out.2.2.1
                have HQ := Lib.hid hq
                by_cases her : er = 0
                · rw [epgo_cons_step (by rw [hpo]; exact her)] at hH
                  have hxo := pone_okE (q := q.data.toList) (by rw [hpo]; exact her)
                  rw [hpo] at hH hxo
                  have HNx := Lib.hid (And.intro hH hxo)
                  subst her
                  clear hd hd2 ht hd10 hq hql hqs hPq hpo hH hxo
                  go_wp2_with fail
                  rw [HQ.out]
                  refine (HPq.out _).mono ?_; rintro e w5 ⟨rfl, hb5⟩
                  have hb35 := hb.trans hb5
                  have hs5 := hb35.size
                  have hown5 := own_bl H.out.1 hb5
                  have HO5 := Lib.hid hown5
                  clear hown5 hb5
                  go_wp2_with (at_builtin; refine wpList_append_own _ rfl _ _ 22 rfl w.heap.size 34 i0 (.agg #[.string ⟨#[]⟩, .string ⟨#[]⟩, .bool false, .int .i64 0]) 4 48 Tryz.underlying22 hin hz0 hz1 hz2 rfl (by decide) _ _ _ rfl (World.ownsRow.alloc (World.ownsRow.alloc HO5.out _) _) ⟨w5.heap.size + 1, 0, none⟩ 1 1 [.string x.key, .string x.val, .bool x.dead, .int .i64 x.seq] rfl rfl ?c1 ?c2 ?c3 ?c4 ?c5 ?_)
                  case c1 => exact fun j u h => by have := multi_new (w5.alloc (.cells #[.string x.key, .string x.val, .bool x.dead, .int .i64 x.seq] 34)) [.string x.key, .string x.val, .bool x.dead, .int .i64 x.seq] 34 j u h; simpa using this
                  case c2 => intro u hu; simp at hu; rcases hu with rfl | rfl | rfl | rfl <;> rfl
                  case c3 => unfold maxLen; omega
                  case c4 => omega
                  case c5 => simp; omega
                  intro v' w6 hown6 hgrow _
                  have hb6 := grown_bl ((hb35.alloc _).alloc _) (World.ownsRow.alloc (World.ownsRow.alloc HO5.out _) _) hgrow (Nat.le_refl _)
                  have hown7 : w6.ownsRow w.heap.size 34 4 v' (acc ++ [x]).length (entCells (acc ++ [x])) := by
                    rw [entCells_snoc, List.length_append]; exact hown6
                  have HO7 := Lib.hid hown7
                  have hcut : (s.data.toList.take (k + 1)).drop (k + 1) = [] := by rw [List.drop_take]; simp
                  have HCut := Lib.hid hcut
                  clear hown6 hown7 hgrow hb35 hs5 hcut
                  go_wp2_with fail
                  go_roundg (s.size - (k + 1))
                  case rel => exact ⟨k + 1, k + 1, acc ++ [x], by go_num, by go_num, Nat.le_refl _, by omega, Lib.hid ⟨HO7.out, by rw [HCut.out, List.length_append]; exact HNx.out.1, by rw [List.length_append]; simp; omega, fun y hy => by
                    rcases List.mem_append.1 hy with hy | hy
                    · exact H.out.2.2.2 y hy
                    · rcases List.mem_singleton.1 hy with rfl; exact HNx.out.2⟩, hb6, rfl⟩
                  case measure => rw [G.out]; omega
                · rw [epgo_cons_stop (by rw [hpo]; exact her), hpo] at hH
                  simp only at hH
                  subst hH
                  obtain ⟨oa, oc, rfl, hlc, hcm, -⟩ := own_form H.out.1
                  have t2 : (er != 0) = true := by rw [bne_iff_ne]; exact her
                  clear hd hd2 ht hd10 hq hql hqs hPq hpo her
                  go_wp2_with fail
                  rw [HQ.out]
                  refine (HPq.out _).mono ?_; rintro e w5 ⟨rfl, hb5⟩
                  have hbw := hb.trans hb5
                  go_wp2_with fail
                  go_ret3
                  exact RM.mk (epaV_nil _ _ _) (hbw.alloc _)
              · rw [if_neg hd10] at ht
                have t1 : (((s[k]'hkl).toNat : Int) != 10) = true := by rw [bne, hd, u8_no hd10]; rfl
                have HT := Lib.hid ht
                clear hd hd2 ht hd10
                go_wp2_with fail
                go_roundg (s.size - (k + 1))
                case rel => exact ⟨fr, k + 1, acc, rfl, by go_num, by omega, by omega, Lib.hid ⟨H.out.1, by rw [← HT.out]; exact H.out.2.1, by have := H.out.2.2.1; omega, H.out.2.2.2⟩, hb, rfl⟩
                case measure => rw [G.out]; omega
            · obtain rfl : k = s.size := by omega
              have hr := H.out.2.1
              rw [show s.data.toList.drop s.size = [] from List.drop_of_length_le (by rw [← Lib.size_eq]; exact Nat.le_refl _)] at hr
              unfold spl epgo at hr
              subst hr
              obtain ⟨a, c, rfl, hE, hc1, hc2⟩ := own_ents H.out.1 H.out.2.2.2
              have HF := Lib.hid (And.intro hE (And.intro hc1 hc2))
              clear hE hc1 hc2 H
              go_wp2_with fail
              go_ret3
              exact RM.mk ⟨a, c, rfl, HF.out⟩ hb
        · rw [if_neg h2] at hres
          have hem : s.toList.isEmpty = false := by
            rw [toL]
            match s.data.toList, h2 with
            | [], h => exact absurd rfl h
            | _ :: _, _ => rfl
          have hpos : 1 ≤ s.size := by
            rw [← hsz]
            match s.data.toList, h2 with
            | [], h => exact absurd rfl h
            | _ :: _, _ => simp
          have hk : s.size - 1 < s.size := by omega
          obtain ⟨c, hc⟩ : ∃ c, s[s.size - 1]'hk = c := ⟨_, rfl⟩
          have hc2 : s.data.toList[s.size - 1]? = some c := by rw [← hc]; simp [ByteArray.getElem_eq_getElem_data]
          have hsf := last_suffix hc2 hpos
          have q1 : (0 : Int) ≤ (s.size : Int) - 1 := by omega
          have q2 : (s.size : Int) - 1 < (s.size : Int) := by omega
          have q3 : ((s.size : Int) - 1).toNat = s.size - 1 := by omega
          have q4 : (1 : Int) ≤ (s.size : Int) := by omega
          by_cases h10 : c = 10
          · rw [if_neg (fun e => e ((suf_last _).2 (by rw [hsf, decide_eq_true h10])))] at hres
            have e10 : (((s[s.size - 1]'hk).toNat : Int) != 10) = false := by rw [hc, h10]; rfl
            have hgo : epgo 0 [] (spl [] s.data.toList) = res := hres
            clear hn hsz h5 h2 hres hc hc2 hsf h10
            have HRes := Lib.hid hgo
            clear hgo
            go_wp2_with fail
            go_loopg [7, 8, 9] s.size (fun gg o f i wz => ∃ (fr k : Nat) (acc : List Ent), f = .int .i64 fr ∧ i = .int .i64 k ∧ fr ≤ k ∧ k ≤ s.size ∧ Hid (wz.ownsRow w.heap.size 34 4 o acc.length (entCells acc) ∧ epgo acc.length acc (spl ((s.data.toList.take k).drop fr) (s.data.toList.drop k)) = res ∧ acc.length ≤ k ∧ (∀ x ∈ acc, x.ok)) ∧ Bl w wz ∧ gg = s.size - k)
            case atStart => exact ⟨0, 0, [], rfl, rfl, Nat.le_refl _, Nat.zero_le _, Lib.hid ⟨own_nil _ _ _ _, HRes.out, Nat.le_refl _, by simp⟩, hb, rfl⟩
            case round =>
              clear hb HRes
              obtain ⟨fr, k, acc, rfl, rfl, hfk, hks, H, hb, hg⟩ := hrel
              have G := Lib.hid hg
              clear hg
              by_cases hkl : k < s.size
              · obtain ⟨d, hd⟩ : ∃ d, s[k]'hkl = d := ⟨_, rfl⟩
                have hd2 : s.data.toList[k]? = some d := by rw [← hd]; simp [ByteArray.getElem_eq_getElem_data]
                have ht := spl_take hfk hd2
                have j0 : (0 : Int) ≤ (k : Int) := by omega
                have j1 : (k : Int) < (s.size : Int) := by omega
                by_cases hd10 : d = 10
                · rw [if_pos hd10] at ht
                  have t1 : (((s[k]'hkl).toNat : Int) != 10) = false := by rw [hd, hd10]; rfl
                  have j3 : (fr : Int) ≤ (k : Int) := by omega
                  have j4 : (0 : Int) ≤ (fr : Int) := by omega
                  have j5 : (k : Int) ≤ (s.size : Int) := by omega
                  obtain ⟨q, hq⟩ : ∃ q, s.extract fr k = q := ⟨_, rfl⟩
                  have hql : q.data.toList = (s.data.toList.take k).drop fr := by rw [← hq]; exact ext_list s fr k
                  have hqs : q.size ≤ 100000 := by rw [← hq, ByteArray.size_extract]; omega
                  have hPq := fun w => HP.out q hqs w
                  obtain ⟨⟨x, er⟩, hpo⟩ : ∃ z, pone q.data.toList = z := ⟨_, rfl⟩
                  rw [hpo] at hPq
                  unfold Ent.v at hPq
                  simp only at hPq
                  have HPq := Lib.hid hPq
                  have hH := H.out.2.1
                  rw [ht, ← hql] at hH
                  have hal : acc.length ≤ k := H.out.2.2.1
                  have HQ := Lib.hid hq
                  by_cases her : er = 0
                  · rw [epgo_cons_step (by rw [hpo]; exact her)] at hH
                    have hxo := pone_okE (q := q.data.toList) (by rw [hpo]; exact her)
                    rw [hpo] at hH hxo
                    have HNx := Lib.hid (And.intro hH hxo)
                    subst her
                    clear hd hd2 ht hd10 hq hql hqs hPq hpo hH hxo
                    go_wp2_with fail
                    rw [HQ.out]
                    refine (HPq.out _).mono ?_; rintro e w5 ⟨rfl, hb5⟩
                    have hb35 := hb.trans hb5
                    have hs5 := hb35.size
                    have hown5 := own_bl H.out.1 hb5
                    have HO5 := Lib.hid hown5
                    clear hown5 hb5
                    go_wp2_with (at_builtin; refine wpList_append_own _ rfl _ _ 22 rfl w.heap.size 34 i0 (.agg #[.string ⟨#[]⟩, .string ⟨#[]⟩, .bool false, .int .i64 0]) 4 48 Tryz.underlying22 hin hz0 hz1 hz2 rfl (by decide) _ _ _ rfl (World.ownsRow.alloc (World.ownsRow.alloc HO5.out _) _) ⟨w5.heap.size + 1, 0, none⟩ 1 1 [.string x.key, .string x.val, .bool x.dead, .int .i64 x.seq] rfl rfl ?c1 ?c2 ?c3 ?c4 ?c5 ?_)
                    case c1 => exact fun j u h => by have := multi_new (w5.alloc (.cells #[.string x.key, .string x.val, .bool x.dead, .int .i64 x.seq] 34)) [.string x.key, .string x.val, .bool x.dead, .int .i64 x.seq] 34 j u h; simpa using this
                    case c2 => intro u hu; simp at hu; rcases hu with rfl | rfl | rfl | rfl <;> rfl
                    case c3 => unfold maxLen; omega
                    case c4 => omega
                    case c5 => simp; omega
                    intro v' w6 hown6 hgrow _
                    have hb6 := grown_bl ((hb35.alloc _).alloc _) (World.ownsRow.alloc (World.ownsRow.alloc HO5.out _) _) hgrow (Nat.le_refl _)
                    have hown7 : w6.ownsRow w.heap.size 34 4 v' (acc ++ [x]).length (entCells (acc ++ [x])) := by
                      rw [entCells_snoc, List.length_append]; exact hown6
                    have HO7 := Lib.hid hown7
                    have hcut : (s.data.toList.take (k + 1)).drop (k + 1) = [] := by rw [List.drop_take]; simp
                    have HCut := Lib.hid hcut
                    clear hown6 hown7 hgrow hb35 hs5 hcut
                    go_wp2_with fail
                    go_roundg (s.size - (k + 1))
                    case rel => exact ⟨k + 1, k + 1, acc ++ [x], by go_num, by go_num, Nat.le_refl _, by omega, Lib.hid ⟨HO7.out, by rw [HCut.out, List.length_append]; exact HNx.out.1, by rw [List.length_append]; simp; omega, fun y hy => by
                      rcases List.mem_append.1 hy with hy | hy
                      · exact H.out.2.2.2 y hy
                      · rcases List.mem_singleton.1 hy with rfl; exact HNx.out.2⟩, hb6, rfl⟩
                    case measure => rw [G.out]; omega
                  · rw [epgo_cons_stop (by rw [hpo]; exact her), hpo] at hH
                    simp only at hH
                    subst hH
                    obtain ⟨oa, oc, rfl, hlc, hcm, -⟩ := own_form H.out.1
                    have t2 : (er != 0) = true := by rw [bne_iff_ne]; exact her
                    clear hd hd2 ht hd10 hq hql hqs hPq hpo her
                    go_wp2_with fail
                    rw [HQ.out]
                    refine (HPq.out _).mono ?_; rintro e w5 ⟨rfl, hb5⟩
                    have hbw := hb.trans hb5
                    go_wp2_with fail
                    go_ret3
                    exact RM.mk (epaV_nil _ _ _) (hbw.alloc _)
                · rw [if_neg hd10] at ht
                  have t1 : (((s[k]'hkl).toNat : Int) != 10) = true := by rw [bne, hd, u8_no hd10]; rfl
                  have HT := Lib.hid ht
                  clear hd hd2 ht hd10
                  go_wp2_with fail
                  go_roundg (s.size - (k + 1))
                  case rel => exact ⟨fr, k + 1, acc, rfl, by go_num, by omega, by omega, Lib.hid ⟨H.out.1, by rw [← HT.out]; exact H.out.2.1, by have := H.out.2.2.1; omega, H.out.2.2.2⟩, hb, rfl⟩
                  case measure => rw [G.out]; omega
              · obtain rfl : k = s.size := by omega
                have hr := H.out.2.1
                rw [show s.data.toList.drop s.size = [] from List.drop_of_length_le (by rw [← Lib.size_eq]; exact Nat.le_refl _)] at hr
                unfold spl epgo at hr
                subst hr
                obtain ⟨a, c, rfl, hE, hc1, hc2⟩ := own_ents H.out.1 H.out.2.2.2
                have HF := Lib.hid (And.intro hE (And.intro hc1 hc2))
                clear hE hc1 hc2 H
                go_wp2_with fail
                go_ret3
                exact RM.mk ⟨a, c, rfl, HF.out⟩ hb
          · rw [if_pos (fun e => by rw [(suf_last _).1 e] at hsf; exact h10 (of_decide_eq_true hsf.symm))] at hres
            subst hres
            have e10 : (((s[s.size - 1]'hk).toNat : Int) != 10) = true := by rw [hc, bne, u8_no h10]; rfl
            clear hn hsz h5 h2 hc hc2 hsf h10
            go_wp2_with fail
            go_ret3
            exact RM.mk (epaV_nil _ _ _) hb
end Go.Proofs.YtcgpkcaaojkpcaaGreatDoor
/-
  awake of the entries' laws.
-/
namespace Go.Proofs.YtcgpkcaaojkpcaaGreatDoor
open Go.RowKit Go.Sort
set_option linter.unusedSimpArgs false
set_option linter.unusedVariables false
set_option maxRecDepth 100000

theorem small_s {n : Nat} (s : ByteArray) (h : s.size ≤ n) (hn : n ≤ 1000) : s.size ≤ maxLen := Nat.le_trans h (by unfold maxLen; omega)
theorem xA_ok : xA.ok := ⟨small_s (n := 3) _ (by decide) (by omega), small_s (n := 3) _ (by decide) (by omega), by decide, by decide⟩
theorem xB_ok : xB.ok := ⟨small_s (n := 3) _ (by decide) (by omega), small_s (n := 3) _ (by decide) (by omega), by decide, by decide⟩
theorem xC_ok : xC.ok := ⟨small_s (n := 3) _ (by decide) (by omega), small_s (n := 3) _ (by decide) (by omega), by decide, by decide⟩
theorem ev_cmp : ecmp xA xB = (1, 0) := by kernel_rfl
theorem ev_wins : ewins xA xB = (xB, 0) := by kernel_rfl
theorem ev_new : enewest [xA, xB, xC] = ([xB, xC], 0) := by kernel_rfl
def txtBC : ByteArray := ⟨#[100, 101, 108, 32, 34, 97, 34, 32, 55, 10, 112, 117, 116, 32, 34, 98, 34, 32, 34, 50, 34, 32, 54, 10]⟩
theorem ev_print : (eprint [xB, xC]).1.toArray = txtBC.data ∧ (eprint [xB, xC]).2 = 0 := ⟨by kernel_rfl, by kernel_rfl⟩
theorem ents3 (W : World) (n : Nat) (hn : W.heap.size = n) (x y z : Ent) (hx : x.ok) (hy : y.ok) (hz : z.ok) : Ents (W.alloc (.cells #[.string x.key, .string x.val, .bool x.dead, .int .i64 x.seq, .string y.key, .string y.val, .bool y.dead, .int .i64 y.seq, .string z.key, .string z.val, .bool z.dead, .int .i64 z.seq] 34)) (some ⟨n, 0, none⟩) [x, y, z] := by
  subst hn
  refine ⟨by intro z hz; simp at hz; rcases hz with rfl | rfl | rfl <;> assumption, fun _ => ⟨_, 0, rfl, fun i u hu => ?_⟩⟩
  match i, hu with
  | 0, hz => simp at hz; subst hz; constructor <;> simp [go_sem]
  | 1, hz => simp at hz; subst hz; constructor <;> simp [go_sem]
  | 2, hz => simp at hz; subst hz; constructor <;> simp [go_sem]
set_option maxHeartbeats 8000000 in
theorem awakeE (w : World) (hE : PEnv w) : Calls Tryz.prog 5 #[] w (RB w (.bool true)) := by
  have hA := fun w => lawA w
  have hB := fun w => lawB w
  have hC := fun w => lawC w
  have hCmp := fun w => entCompare xA xB w xA_ok xB_ok
  have hWin := fun w => entWins xA xB w xA_ok xB_ok
  have hNew := fun a w h => entNewest a 3 [xA, xB, xC] w h (by unfold maxLen; simp)
  have hPr := fun a w h hP => entPrint a 2 [xB, xC] w h (by unfold maxLen; simp) hP
  have hE3 := fun W n hn => ents3 W n hn xA xB xC xA_ok xB_ok xC_ok
  have hE2 := fun W n hn => ents2 W n hn xB xC xB_ok xC_ok
  have hSm : ∀ a c b w, Ents w a [xB, xC] → Ents w b [xB, xC] → Calls Tryz.prog 10 #[.slice a 2 c, .slice b 2 2] w (RB w (.bool true)) := fun a c b w h k => by
    have := refSameE a b c 2 [xB, xC] [xB, xC] w h k (by unfold maxLen; simp) (by unfold maxLen; simp)
    rw [decide_eq_true rfl] at this; exact this
  have hTx : ((⟨#[100, 101, 108, 32, 34, 97, 34, 32, 55, 10, 112, 117, 116, 32, 34, 98, 34, 32, 34, 50, 34, 32, 54, 10]⟩ : ByteArray).toList == (⟨#[100, 101, 108, 32, 34, 97, 34, 32, 55, 10, 112, 117, 116, 32, 34, 98, 34, 32, 34, 50, 34, 32, 54, 10]⟩ : ByteArray).toList) = true := by rw [beq_iff_eq]
  have hT1 : ((⟨#[97]⟩ : ByteArray).toList == (⟨#[97]⟩ : ByteArray).toList) = true := by rw [beq_iff_eq]
  have hT2 : ((⟨#[]⟩ : ByteArray).toList == (⟨#[]⟩ : ByteArray).toList) = true := by rw [beq_iff_eq]
  rw [ev_cmp] at hCmp
  rw [ev_wins] at hWin
  rw [ev_new] at hNew
  rw [ev_print.1, ev_print.2] at hPr
  unfold txtBC at hPr
  have HNew := Lib.hid hNew
  have HSm := Lib.hid hSm
  have HPr := Lib.hid hPr
  have HP := Lib.hid hE
  have hB0 := Lib.hid hE3
  have hB1 := Lib.hid hE2
  simp only [xA, xB, xC, Ent.v] at hA hB hC hCmp hWin hE3 hE2
  have HA := Lib.hid hA
  have HB := Lib.hid hB
  have HC := Lib.hid hC
  have HCm := Lib.hid hCmp
  have HWi := Lib.hid hWin
  have HE3 := Lib.hid hE3
  have HE2 := Lib.hid hE2
  clear hA hB hC hCmp hWin hNew hPr hE3 hE2 hSm hE
  go_enter Tryz.func5, Tryz.ntmps5
  go_wp2_with fail
  refine (HA.out _).mono ?_; rintro e w1 ⟨rfl, hb1⟩
  go_wp2_with fail
  refine (HB.out _).mono ?_; rintro e w2 ⟨rfl, hb2⟩
  go_wp2_with fail
  refine (HCm.out _).mono ?_; rintro e w3 ⟨rfl, hb3⟩
  have hb := (hb1.trans hb2).trans hb3
  clear hb1 hb2 hb3
  go_wp2_with fail
  refine (HA.out _).mono ?_; rintro e w4 ⟨rfl, hb4⟩
  go_wp2_with fail
  refine (HB.out _).mono ?_; rintro e w5 ⟨rfl, hb5⟩
  go_wp2_with fail
  refine (HWi.out _).mono ?_; rintro e w6 ⟨rfl, hb6⟩
  have hb := ((hb.trans hb4).trans hb5).trans hb6
  clear hb4 hb5 hb6
  obtain ⟨W0, hW0⟩ : ∃ z, w6.alloc (.cells #[.string ⟨#[97]⟩, .string ⟨#[]⟩, .bool true, .int .i64 7] 34) = z := ⟨_, rfl⟩
  obtain ⟨G, hG⟩ : ∃ z, w6.heap.size = z := ⟨_, rfl⟩
  have hbW : Bl w W0 := hW0 ▸ hb.alloc _
  have m0 : W0.cell? ⟨G, 0, none⟩ = some (.string ⟨#[97]⟩) := by rw [← hW0, ← hG]; simp [go_sem]
  have m1 : W0.cell? ⟨G, 1, none⟩ = some (.string ⟨#[]⟩) := by rw [← hW0, ← hG]; simp [go_sem]
  have m2 : W0.cell? ⟨G, 2, none⟩ = some (.bool true) := by rw [← hW0, ← hG]; simp [go_sem]
  have m3 : W0.cell? ⟨G, 3, none⟩ = some (.int .i64 7) := by rw [← hW0, ← hG]; simp [go_sem]
  have HM := Lib.hid (And.intro m0 (And.intro m1 (And.intro m2 m3)))
  have HWG := Lib.hid (And.intro hW0 hG)
  clear m0 m1 m2 m3 hb hW0 hG
  go_wp2_with fail
  rw [HWG.out.1, HWG.out.2]
  refine (HA.out _).mono ?_; rintro e w7 ⟨rfl, hb7⟩
  go_wp2_with fail
  refine (HB.out _).mono ?_; rintro e w8 ⟨rfl, hb8⟩
  go_wp2_with fail
  refine (HC.out _).mono ?_; rintro e w9 ⟨rfl, hb9⟩
  have hb9 := (hb7.trans hb8).trans hb9
  clear hb7 hb8
  go_wp2_with fail
  refine (HNew.out _ _ (HE3.out _ _ rfl)).mono ?_; rintro e w10 ⟨v, rfl, ⟨s, rfl, hO⟩, hb10⟩
  obtain ⟨a, c, rfl, hS, hc1, hc2⟩ := hO.ents (by intro z hz; simp at hz; rcases hz with rfl | rfl; exact xB_ok; exact xC_ok)
  have hb10 : Bl W0 w10 := (hb9.alloc _).trans hb10
  have HS := Lib.hid hS
  clear hS hb9 hO
  go_wp2_with fail
  refine (HB.out _).mono ?_; rintro e w11 ⟨rfl, hb11⟩
  go_wp2_with fail
  refine (HC.out _).mono ?_; rintro e w12 ⟨rfl, hb12⟩
  go_wp2_with fail
  refine (HPr.out _ _ (HE2.out _ _ rfl) (HP.out.bl (hbW.trans ((hb10.trans (hb11.trans hb12)).alloc _)))).mono ?_; rintro e w13 ⟨rfl, hb13⟩
  have hq : Bl w10 w13 := ((hb11.trans hb12).alloc _).trans hb13
  have hS2 := HS.out.bl hq
  have hbq : Bl W0 w13 := hb10.trans hq
  obtain ⟨m0, m1, m2, m3⟩ := HM.out
  have n0 := hbq.cell m0
  have n1 := hbq.cell m1
  have n2 := hbq.cell m2
  have n3 := hbq.cell m3
  have HKF := Lib.hid (fun W (h : Bl w13 W) => (show Bl w13 W ∧ W.cell? ⟨G, 0, none⟩ = some (.string ⟨#[97]⟩) ∧ W.cell? ⟨G, 1, none⟩ = some (.string ⟨#[]⟩) ∧ W.cell? ⟨G, 2, none⟩ = some (.bool true) ∧ W.cell? ⟨G, 3, none⟩ = some (.int .i64 7) from ⟨h, h.cell n0, h.cell n1, h.cell n2, h.cell n3⟩))
  have HS3 := Lib.hid hS2
  have hbw : Bl w w13 := hbW.trans hbq
  clear hS2 hbW hbq hq hb10 hb11 hb12 hb13 n0 n1 n2 n3 m0 m1 m2 m3
  go_wp2_with fail
  go_region_held3 (fun w' => (Bl w13 w' ∧ w'.cell? ⟨G, 0, none⟩ = some (.string ⟨#[97]⟩) ∧ w'.cell? ⟨G, 1, none⟩ = some (.string ⟨#[]⟩) ∧ w'.cell? ⟨G, 2, none⟩ = some (.bool true) ∧ w'.cell? ⟨G, 3, none⟩ = some (.int .i64 7))) (exact HKF.out _ (by repeat (first | assumption | exact Bl.refl _ | apply Bl.drewN | apply Bl.drew | apply Bl.alloc | (refine Bl.dr ?_ (by assumption)) | (refine Bl.trans ?_ (by assumption)))))
    (first
    | (go_at_call 14; refine (HB.out _).mono ?_; rintro e w21 ⟨rfl, hb21⟩)
    | (go_at_call 17; refine (HC.out _).mono ?_; rintro e w22 ⟨rfl, hb22⟩)
    | (go_at_call 10; refine (HSm.out _ _ _ _ (HS3.out.bl (by repeat (first | assumption | exact Bl.refl _ | apply Bl.drewN | apply Bl.drew | apply Bl.alloc | (refine Bl.dr ?_ (by assumption)) | (refine Bl.trans ?_ (by assumption))))) (HE2.out _ _ (by first | rfl | simp))).mono ?_; rintro e w23 ⟨rfl, hb23⟩))
  all_goals go_wp2_with fail
  all_goals go_ret
  all_goals exact RB.mk rfl (Bl.trans hbw (by repeat (first | assumption | exact Bl.refl _ | apply Bl.drewN | apply Bl.drew | apply Bl.alloc | (refine Bl.dr ?_ (by assumption)) | (refine Bl.trans ?_ (by assumption)))))
end Go.Proofs.YtcgpkcaaojkpcaaGreatDoor
/-
  The law EntriesPairs walked.
-/
namespace Go.Proofs.YtcgpkcaaojkpcaaGreatDoor
open Go.RowKit Go.Sort
set_option linter.unusedSimpArgs false
set_option linter.unusedVariables false
set_option maxRecDepth 100000

def elarge (x : Ent) : Bool := decide (100 < x.key.size) || decide (100 < x.val.size)
set_option maxHeartbeats 1000000 in
theorem lawLarge (x : Ent) (w : World) : Calls Tryz.prog 11 #[x.v] w (RB w (.bool (elarge x))) := by
  unfold elarge Ent.v
  by_cases h1 : 100 < x.key.size
  · rw [decide_eq_true h1, Bool.true_or]
    have i1 : (100 : Int) < (x.key.size : Int) := by omega
    clear h1
    go_enter Tryz.func11, Tryz.ntmps11
    go_wp2_with fail
    go_ret
    exact RB.mk rfl (by repeat (first | assumption | exact Bl.refl _ | apply Bl.drewN | apply Bl.drew | apply Bl.alloc | (refine Bl.dr ?_ (by assumption)) | (refine Bl.trans ?_ (by assumption))))
  · rw [decide_eq_false h1, Bool.false_or]
    have i1 : ¬ (100 : Int) < (x.key.size : Int) := by omega
    clear h1
    by_cases h2 : 100 < x.val.size
    · rw [decide_eq_true h2]
      have i2 : (100 : Int) < (x.val.size : Int) := by omega
      clear h2
      go_enter Tryz.func11, Tryz.ntmps11
      go_wp2_with fail
      go_ret
      exact RB.mk rfl (by repeat (first | assumption | exact Bl.refl _ | apply Bl.drewN | apply Bl.drew | apply Bl.alloc | (refine Bl.dr ?_ (by assumption)) | (refine Bl.trans ?_ (by assumption))))
    · rw [decide_eq_false h2]
      have i2 : ¬ (100 : Int) < (x.val.size : Int) := by omega
      clear h2
      go_enter Tryz.func11, Tryz.ntmps11
      go_wp2_with fail
      go_ret
      exact RB.mk rfl (by repeat (first | assumption | exact Bl.refl _ | apply Bl.drewN | apply Bl.drew | apply Bl.alloc | (refine Bl.dr ?_ (by assumption)) | (refine Bl.trans ?_ (by assumption))))
end Go.Proofs.YtcgpkcaaojkpcaaGreatDoor
/-
  The law's far, of lists of entries.
-/
namespace Go.Proofs.YtcgpkcaaojkpcaaGreatDoor
open Go.RowKit Go.Sort
set_option linter.unusedSimpArgs false
set_option linter.unusedVariables false
set_option maxRecDepth 100000

def efar (l : List Ent) : Bool := if 60 < l.length then (decide (l.length ≤ 5000) || decide (5010 < l.length)) else l.any elarge
theorem any_drop {l : List Ent} {k : Nat} {x : Ent} (h : l[k]? = some x) : (l.drop k).any elarge = (elarge x || (l.drop (k + 1)).any elarge) := by
  obtain ⟨hk, rfl⟩ := List.getElem?_eq_some_iff.1 h
  rw [List.drop_eq_getElem_cons hk, List.any_cons]
set_option maxHeartbeats 2000000 in
theorem lawFarE (a : Option Addr) (c : Nat) (l : List Ent) (w : World) (hl : Ents w a l) (hn : l.length ≤ maxLen) : Calls Tryz.prog 4 #[.slice a l.length c] w (RB w (.bool (efar l))) := by
  unfold maxLen at hn
  unfold efar
  by_cases h6 : 60 < l.length
  · rw [if_pos h6]
    have i0 : (60 : Int) < (l.length : Int) := by omega
    clear h6 hl
    by_cases h5 : l.length ≤ 5000
    · rw [decide_eq_true h5, Bool.true_or]
      have i1 : (l.length : Int) ≤ 5000 := by omega
      clear h5
      go_enter Tryz.func4, Tryz.ntmps4
      go_wp2_with fail
      go_ret
      exact RB.mk rfl (by repeat (first | assumption | exact Bl.refl _ | apply Bl.drewN | apply Bl.drew | apply Bl.alloc | (refine Bl.dr ?_ (by assumption)) | (refine Bl.trans ?_ (by assumption))))
    · rw [decide_eq_false h5, Bool.false_or]
      have i1 : ¬ (l.length : Int) ≤ 5000 := by omega
      clear h5
      by_cases h7 : 5010 < l.length
      · rw [decide_eq_true h7]
        have i2 : (5010 : Int) < (l.length : Int) := by omega
        clear h7
        go_enter Tryz.func4, Tryz.ntmps4
        go_wp2_with fail
        go_ret
        exact RB.mk rfl (by repeat (first | assumption | exact Bl.refl _ | apply Bl.drewN | apply Bl.drew | apply Bl.alloc | (refine Bl.dr ?_ (by assumption)) | (refine Bl.trans ?_ (by assumption))))
      · rw [decide_eq_false h7]
        have i2 : ¬ (5010 : Int) < (l.length : Int) := by omega
        clear h7
        go_enter Tryz.func4, Tryz.ntmps4
        go_wp2_with fail
        go_ret
        exact RB.mk rfl (by repeat (first | assumption | exact Bl.refl _ | apply Bl.drewN | apply Bl.drew | apply Bl.alloc | (refine Bl.dr ?_ (by assumption)) | (refine Bl.trans ?_ (by assumption))))
  · rw [if_neg h6]
    have i0 : ¬ (60 : Int) < (l.length : Int) := by omega
    have HL := Lib.hid hl
    have HG := Lib.hid (fun x w => lawLarge x w)
    obtain ⟨R, hR⟩ : ∃ R, l.any elarge = R := ⟨_, rfl⟩
    rw [hR]
    have HR := Lib.hid hR
    clear hl hR h6
    go_enter Tryz.func4, Tryz.ntmps4
    go_wp2_with fail
    go_loopg [3] l.length (fun g i wr => ∃ k : Nat, i = .int .i64 k ∧ Hid (R = (l.drop k).any elarge ∧ k ≤ l.length ∧ g = l.length - k) ∧ Bl w wr)
    case atStart => exact ⟨0, rfl, Lib.hid ⟨by rw [List.drop_zero]; exact HR.out.symm, by omega, rfl⟩, Bl.refl _⟩
    case round =>
      obtain ⟨k, rfl, H, hb⟩ := hrel
      by_cases hk : k < l.length
      · obtain ⟨g1, o1, rfl, hat⟩ := HL.out.get hk
        obtain ⟨x, hx⟩ : ∃ x, l[k]? = some x := ⟨_, List.getElem?_eq_getElem hk⟩
        obtain ⟨x0, x1, x2, x3⟩ := (hat k x hx).bl hb
        have hG := HG.out x
        unfold Ent.v at hG
        obtain ⟨b, hbx⟩ : ∃ b, elarge x = b := ⟨_, rfl⟩
        rw [hbx] at hG
        have HGx := Lib.hid hG
        have HX := Lib.hid (And.intro hx hbx)
        have HMs := Lib.hid (show l.length - (k + 1) < gk by have := H.out; omega)
        clear hat hx hbx hG
        cases b with
        | true =>
          go_wp2_with fail
          refine (HGx.out _).mono ?_; rintro e w1 ⟨rfl, hb1⟩
          go_wp2_with fail
          go_ret
          exact RB.mk (bval (by rw [H.out.1, any_drop HX.out.1, HX.out.2]; rfl)) (hb.trans hb1)
        | false =>
          go_wp2_with fail
          refine (HGx.out _).mono ?_; rintro e w1 ⟨rfl, hb1⟩
          go_wp2_with fail
          go_roundg (l.length - (k + 1))
          case rel => exact ⟨k + 1, by go_num, Lib.hid ⟨by rw [H.out.1, any_drop HX.out.1, HX.out.2]; rfl, by omega, rfl⟩, hb.trans hb1⟩
          case measure => exact HMs.out
      · have hk' : ¬ (k : Int) < (l.length : Int) := by omega
        have hR : R = false := by rw [H.out.1, List.drop_of_length_le (by omega)]; rfl
        subst hR
        clear H
        go_wp2_with fail
        go_ret
        exact RB.mk rfl hb
end Go.Proofs.YtcgpkcaaojkpcaaGreatDoor
/-
  The law EntriesTexts walked.
-/
namespace Go.Proofs.YtcgpkcaaojkpcaaGreatDoor
open Go.RowKit Go.Sort
set_option linter.unusedSimpArgs false
set_option linter.unusedVariables false
set_option maxRecDepth 100000

theorem WEnv.p {w : World} (h : WEnv w) : PEnv w := ⟨h.esc, h.pow⟩
theorem eprint_small {l : List Ent} (h : l.length ≤ 60 ∨ 5000 < l.length) : (eprint l).1.length ≤ 27000 := by
  unfold eprint
  split
  · simp
  · split
    · simp
    · rename_i h1 h2
      split
      · simp
      · have ok := eall_ok (l := l) (by omega)
        have := linesE_len ok
        simp only
        omega
theorem efar_len {l : List Ent} (h : efar l = false) : l.length ≤ 60 ∨ 5000 < l.length := by
  unfold efar at h
  split at h
  · rw [Bool.or_eq_false_iff] at h
    have := of_decide_eq_false h.1
    omega
  · omega
theorem eparse_line {t : List UInt8} {l : List Ent} {n : Int} (h : eparse t = (l, n, 0)) : n = 0 := by
  unfold eparse at h
  split at h
  · simp at h
  · split at h
    · simp only [Prod.mk.injEq] at h; exact h.2.1.symm
    · split at h
      · simp at h
      · have key : ∀ (ls : List (List UInt8)) (i : Nat) (acc l : List Ent) (n : Int), epgo i acc ls = (l, n, 0) → n = 0 := by
          intro ls
          induction ls with
          | nil => intro i acc l n h; unfold epgo at h; simp only [Prod.mk.injEq] at h; exact h.2.1.symm
          | cons s r ih =>
            intro i acc l n h
            unfold epgo at h
            split at h
            · rename_i e; simp only [Prod.mk.injEq] at h; exact absurd h.2.2 e
            · exact ih _ _ _ _ h
        exact key _ _ _ _ _ h
theorem eparse_len {t : List UInt8} : (eparse t).1.length ≤ maxLen ∨ 5000 < t.count 10 := by
  by_cases h5 : 5000 < t.count 10
  · exact .inr h5
  · left
    unfold eparse
    split
    · simp
    · split
      · simp
      · split
        · simp
        · have key : ∀ (ls : List (List UInt8)) (i : Nat) (acc : List Ent), (epgo i acc ls).1.length ≤ acc.length + ls.length := by
            intro ls
            induction ls with
            | nil => intro i acc; unfold epgo; simp
            | cons s r ih =>
              intro i acc
              unfold epgo
              split
              · simp
              · have := ih (i + 1) (acc ++ [(pone s).1])
                simp only [List.length_append, List.length_cons, List.length_nil] at this ⊢
                omega
          have h1 := key (spl [] t) 0 []
          rw [spl_cnt] at h1
          unfold maxLen
          simp at h1; omega
set_option maxHeartbeats 8000000 in
theorem lawTextsE (a : Option Addr) (c : Nat) (l : List Ent) (s : ByteArray) (w : World) (hl : Ents w a l) (hn : l.length ≤ maxLen) (hE : WEnv w) : Calls Tryz.prog 3 #[.slice a l.length c, .string s] w (RB w (.bool true)) := by
  have HE := Lib.hid hE
  have HL := Lib.hid hl
  have HF := Lib.hid (fun w h => lawFarE a c l w h hn)
  have HAw := Lib.hid (fun w h => awakeE w h)
  have H1 := Lib.hid (fun w h hE => entPrint a c l w h hn hE)
  have H2 := Lib.hid (fun w h => refPrintE a c l w h hn)
  obtain ⟨f, hf⟩ : ∃ f, efar l = f := ⟨_, rfl⟩
  rw [hf] at HF
  clear hE hl
  cases f with
  | true =>
    clear hf H1 H2
    go_enter Tryz.func3, Tryz.ntmps3
    go_wp2_with fail
    refine (HF.out _ HL.out).mono ?_; rintro e w1 ⟨rfl, hb1⟩
    go_wp2_with fail
    refine (HAw.out _ (HE.out.bl hb1).p).mono ?_; rintro e w9 ⟨rfl, hb9⟩
    go_wp2_with fail
    go_ret
    exact RB.mk rfl (Bl.trans hb1 hb9)
  | false =>
    by_cases h3 : 3000 < s.size
    · have i1 : (3000 : Int) < (s.size : Int) := by omega
      clear h3 hf H1 H2
      go_enter Tryz.func3, Tryz.ntmps3
      go_wp2_with fail
      refine (HF.out _ HL.out).mono ?_; rintro e w1 ⟨rfl, hb1⟩
      go_wp2_with fail
      refine (HAw.out _ (HE.out.bl hb1).p).mono ?_; rintro e w9 ⟨rfl, hb9⟩
      go_wp2_with fail
      go_ret
      exact RB.mk rfl (Bl.trans hb1 hb9)
    · have i1 : ¬ (3000 : Int) < (s.size : Int) := by omega
      have hpl := eprint_small (efar_len hf)
      have HBack := Lib.hid (fun (h : (eprint l).2 = 0) => eparse_print h)
      obtain ⟨⟨pl, pe⟩, hpr⟩ : ∃ z, eprint l = z := ⟨_, rfl⟩
      rw [hpr] at H1 H2 hpl HBack
      simp only at hpl
      obtain ⟨q, hq⟩ : ∃ q : ByteArray, (⟨pl.toArray⟩ : ByteArray) = q := ⟨_, rfl⟩
      have hql : q.data.toList = pl := by rw [← hq]
      have hqs : q.size ≤ 100000 := by rw [Lib.size_eq, hql]; omega
      simp only at H1 H2 HBack
      rw [hq] at H1 H2
      rw [← hql] at HBack
      have H3 := Lib.hid (fun w h => entParseT s (by omega) w h)
      have H4 := Lib.hid (fun w => refParseT s (by omega) w)
      have H7 := Lib.hid (fun w h => entParseT q hqs w h)
      have hml : (eparse s.data.toList).1.length ≤ maxLen := by
        rcases eparse_len (t := s.data.toList) with h | h
        · exact h
        · have := List.count_le_length (a := (10 : UInt8)) (l := s.data.toList)
          rw [← Lib.size_eq] at this; omega
      have HFw := Lib.hid (fun (h : (eparse s.data.toList).2.2 = 0) => eprint_parse h)
      obtain ⟨⟨m, ln, er⟩, hps⟩ : ∃ z, eparse s.data.toList = z := ⟨_, rfl⟩
      rw [hps] at H3 H4 hml HFw
      simp only at hml HFw
      have HLn := Lib.hid (fun (h : er = 0) => eparse_line (by rw [hps, h]) : er = 0 → ln = 0)
      have HSm := Lib.hid (fun a b c d w h1 h2 => (refSameE a b c d m m w h1 h2 hml hml).mono (fun e w' h => (show RB w (.bool true) e w' by simpa using h)))
      have HSl := Lib.hid (fun a b c d w h1 h2 => (refSameE a b c d l l w h1 h2 hn hn).mono (fun e w' h => (show RB w (.bool true) e w' by simpa using h)))
      have HPr := Lib.hid (fun a c w h hE => entPrint a c m w h hml hE)
      clear hf h3 hpl hpr hq hql hqs hps hn hml
      go_enter Tryz.func3, Tryz.ntmps3
      go_wp2_with fail
      refine (HF.out _ HL.out).mono ?_; rintro e w1 ⟨rfl, hb1⟩
      go_wp2_with fail
      refine (H1.out _ (HL.out.bl hb1) (HE.out.bl hb1).p).mono ?_; rintro e w2 ⟨rfl, hb2⟩
      have hb2 := hb1.trans hb2
      clear hb1
      go_wp2_with fail
      refine (H2.out _ (HL.out.bl hb2)).mono ?_; rintro e w3 ⟨rfl, hb3⟩
      have hb3 := hb2.trans hb3
      clear hb2
      go_wp2_with fail
      refine (H3.out _ (HE.out.bl hb3)).mono ?_; rintro e w4 ⟨v, rfl, ⟨a1, c1, rfl, hO1, -, -⟩, hb4⟩
      have HO1 := Lib.hid hO1
      have hb4 := hb3.trans hb4
      clear hb3 hO1
      go_wp2_with fail
      refine (H4.out _).mono ?_; rintro e w5 ⟨v, rfl, ⟨a2, c2, rfl, hO2, -, -⟩, hb5⟩
      have HO2 := Lib.hid hO2
      have HO1 := Lib.hid (HO1.out.bl hb5)
      have hb5 := hb4.trans hb5
      have e1 : (q.toList != q.toList) = false := by simp
      clear hb4 hO2
      go_wp2_with fail
      refine (HSm.out _ _ _ _ _ HO1.out HO2.out).mono ?_; rintro e w6 ⟨rfl, hb6⟩
      have HO1 := Lib.hid (HO1.out.bl hb6)
      have hb6 := hb5.trans hb6
      clear hb5 HO2
      go_upto_if 75 with fail
      go_cut [] (fun wz => Bl w6 wz)
      case first =>
        by_cases hpe : pe = 0
        · subst hpe
          have hbk := HBack.out rfl
          have h7 := H7.out
          rw [hbk] at h7
          have H7 := Lib.hid h7
          clear hbk h7
          go_wp2_with fail
          refine (H7.out _ (HE.out.bl hb6)).mono ?_; rintro e w7 ⟨v, rfl, ⟨a3, c3, rfl, hO3, -, -⟩, hb7⟩
          have HO3 := Lib.hid hO3
          clear hO3
          go_wp2_with fail
          refine (HSl.out _ _ _ _ _ HO3.out (HL.out.bl (hb6.trans hb7))).mono ?_; rintro e w8 ⟨rfl, hb8⟩
          go_wp2_with fail
          go_meet
          exact hb7.trans hb8
        · have e9 : (pe == 0) = false := by rw [beq_eq_false_iff_ne]; exact hpe
          clear hpe
          go_wp2_with fail
          go_meet
          exact Bl.refl _
      case rest =>
        have hb7 := hb6.trans hcut
        have HO7 := Lib.hid (HO1.out.bl hcut)
        clear hcut hb6
        by_cases her : er = 0
        · have hln := HLn.out her
          have hfw := HFw.out her
          subst her
          subst hln
          have hP := fun w h hE => HPr.out a1 c1 w h hE
          rw [hfw] at hP
          simp only at hP
          rw [show (⟨s.data.toList.toArray⟩ : ByteArray) = s from (str_list s).symm] at hP
          have HP := Lib.hid hP
          have e8 : (s.toList != s.toList) = false := by simp
          clear hfw hP
          go_wp2_with fail
          refine (HP.out _ HO7.out (HE.out.bl hb7).p).mono ?_; rintro e w8 ⟨rfl, hb8⟩
          have hb8 := hb7.trans hb8
          clear hb7
          go_wp2_with fail
          go_wp2_with fail
          refine (HAw.out _ (HE.out.bl hb8).p).mono ?_; rintro e w9 ⟨rfl, hb9⟩
          go_wp2_with fail
          go_ret
          exact RB.mk rfl (Bl.trans hb8 hb9)
        · have e9 : (er == 0) = false := by rw [beq_eq_false_iff_ne]; exact her
          clear her
          go_wp2_with fail
          go_wp2_with fail
          refine (HAw.out _ (HE.out.bl hb7).p).mono ?_; rintro e w9 ⟨rfl, hb9⟩
          go_wp2_with fail
          go_ret
          exact RB.mk rfl (Bl.trans hb7 hb9)
end Go.Proofs.YtcgpkcaaojkpcaaGreatDoor
/-
  What words asks of the world, from what the card lays.
-/
namespace Go.Proofs.YtcgpkcaaojkpcaaGreatDoor
open Go.RowKit
set_option linter.unusedSimpArgs false
set_option linter.unusedVariables false
set_option maxRecDepth 100000

theorem pow_eq : (Rows.laid_internal_strconv_uint64pow10 : DataW Unit) = Lib.tabData .u64 Lib.pow10Tab := by kernel_rfl
theorem tab_of_reads {P : Program} {W : World} {name : String} {k : IntKind} {zs : List Int} {g : Nat} {t e : TypeId} {n : Nat}
    (hg : P.globalNamed name = some g) (hty : (P.globals[g]?).map (·.type) = some t) (ht : P.underlying t = some (.array n e)) (he : P.underlying e = some (.int k)) (hce : P.cellsOf e = 1) (hct : P.cellsOf t = n)
    (h : Lib.VarReads P W name (Lib.tabData k zs)) : Lib.TabIs P W name k zs := by
  obtain ⟨g', t', cs, fuel, p, hg', ht', hvar, hd⟩ := h
  obtain rfl := Option.some.inj (hg.symm.trans hg')
  obtain rfl := Option.some.inj (hty.symm.trans ht')
  unfold Lib.TabIs
  rw [hvar, ← Lib.cells_of_tab ht he hce hct hd]
theorem pow_of_reads {W : World} (h : Lib.VarReads Tryz.prog W "internal/strconv.uint64pow10" Rows.laid_internal_strconv_uint64pow10) : Lib.TabIs Tryz.prog W "internal/strconv.uint64pow10" .u64 Lib.pow10Tab :=
  tab_of_reads (g := 2) (t := 124) (e := 109) (n := 20) (by kernel_rfl) (by kernel_rfl) Tryz.underlying124 Tryz.underlying109 (by kernel_rfl) (by kernel_rfl) (pow_eq ▸ h)
theorem err_of_reads {W : World} (h : Lib.VarReads Tryz.prog W "strconv.ErrRange" Rows.laid_strconv_ErrRange) : ∃ te pe, W.cell? ⟨6, 0, none⟩ = some (.iface te pe) := by
  obtain ⟨g, t, cs, fuel, p, hg, hty, hvar, hd⟩ := h
  obtain rfl := Option.some.inj ((show Tryz.prog.globalNamed "strconv.ErrRange" = some 6 by kernel_rfl).symm.trans hg)
  obtain rfl := Option.some.inj ((show (Tryz.prog.globals[6]?).map (·.type) = some 48 by kernel_rfl).symm.trans hty)
  obtain ⟨f1, u, v, hcs, -, -⟩ := iface_of_trod Tryz.underlying48 hd
  refine ⟨u, v, ?_⟩
  rw [World.var?_cell hg hvar 0, ← Array.getElem?_toList, hcs]; rfl
theorem esc_of_reads {W : World} (h : Lib.VarReads Tryz.prog W "bookend/words.escapes" Rows.laid_bookend_words_escapes) : EscTab W := by
  obtain ⟨g, t, cs, fuel, p, hg, hty, hvar, hd⟩ := h
  obtain rfl := Option.some.inj ((show Tryz.prog.globalNamed "bookend/words.escapes" = some 0 by kernel_rfl).symm.trans hg)
  obtain rfl := Option.some.inj ((show (Tryz.prog.globals[0]?).map (·.type) = some 97 by kernel_rfl).symm.trans hty)
  have hc2 : Tryz.prog.cellsOf 96 = 2 := by kernel_rfl
  have hc1 : Tryz.prog.cellsOf 5 = 1 := by kernel_rfl
  have key : ∀ i, i < 5 → W.cell? ⟨0, 2 * i, none⟩ = some (.int .u8 ((escL.getD (2 * i) 0 : Nat) : Int)) ∧ W.cell? ⟨0, 2 * i + 1, none⟩ = some (.int .u8 ((escL.getD (2 * i + 1) 0 : Nat) : Int)) := by
    intro i hi
    obtain ⟨fuel', d, q, hdi, he⟩ := Lib.array_elem Tryz.underlying97 hd i hi
    have hd2 : d = .agg ([((escL.getD (2 * i) 0 : Nat) : Int), ((escL.getD (2 * i + 1) 0 : Nat) : Int)].map fun z => .lit (.int .u8 z)) := by
      match i, hi, hdi with
      | 0, _, hdi => exact (Option.some.inj hdi).symm
      | 1, _, hdi => exact (Option.some.inj hdi).symm
      | 2, _, hdi => exact (Option.some.inj hdi).symm
      | 3, _, hdi => exact (Option.some.inj hdi).symm
      | 4, _, hdi => exact (Option.some.inj hdi).symm
    subst hd2
    rw [hc2] at he
    have hcs := Lib.ints_of_struct Tryz.underlying96 (fun j f hj => by
      match j, hj with
      | 0, hj => simp at hj; subst hj; exact ⟨Tryz.underlying5, rfl, hc1⟩
      | 1, hj => simp at hj; subst hj; exact ⟨Tryz.underlying5, rfl, hc1⟩
      | j + 2, hj => simp at hj) (by rw [hc2]; rfl) he
    have e0 := congrArg (·[0]?) hcs
    have e1 := congrArg (·[1]?) hcs
    simp only [List.getElem?_take, List.getElem?_drop] at e0 e1
    constructor
    · rw [World.var?_cell hg hvar (2 * i), ← Array.getElem?_toList]
      simpa [Nat.mul_comm] using e0
    · rw [World.var?_cell hg hvar (2 * i + 1), ← Array.getElem?_toList]
      simpa [Nat.mul_comm] using e1
  refine ⟨fun i hi => ?_⟩
  obtain ⟨h1, h2⟩ := key (i / 2) (by omega)
  rcases (by omega : i = 2 * (i / 2) ∨ i = 2 * (i / 2) + 1) with e | e
  · rw [e]; exact h1
  · rw [e]; exact h2
end Go.Proofs.YtcgpkcaaojkpcaaGreatDoor
/-
  Arguments opened: a list of entries, a list of strings, a fence, a range.
-/
namespace Go.Proofs.YtcgpkcaaojkpcaaGreatDoor
open Go.RowKit Go.ChangeShapes Go.WideShapes Go.Deep Go.Joins
set_option linter.unusedSimpArgs false
set_option linter.unusedVariables false
set_option maxRecDepth 100000

theorem list_of {α : Type} (Q : Nat → α → Prop) : ∀ (n : Nat), (∀ i, i < n → ∃ x, Q i x) → ∃ l : List α, l.length = n ∧ ∀ i x, l[i]? = some x → Q i x
  | 0, _ => ⟨[], rfl, by simp⟩
  | n + 1, h => by
    obtain ⟨l, hl, hq⟩ := list_of Q n (fun i hi => h i (by omega))
    obtain ⟨x, hx⟩ := h n (by omega)
    refine ⟨l ++ [x], by simp [hl], fun i y hy => ?_⟩
    rcases Nat.lt_or_ge i n with hi | hi
    · rw [List.getElem?_append_left (by omega)] at hy; exact hq i y hy
    · have : i = n := by
        have := (List.getElem?_eq_some_iff.1 hy).1; simp at this; omega
      subst this
      rw [List.getElem?_append_right (by omega)] at hy
      simp [hl] at hy; subst hy; exact hx
theorem addr_add (b off i : Nat) : ({ block := b, off := off, spot := none } : Addr).add i = ⟨b, off + i, none⟩ := by
  unfold Addr.add; split <;> simp_all

section
variable {H : Type} {enc : TypeId × Value → H} {w : World}
theorem ent_fields : ∃ f0 f1 f2 f3 : Field, Tryz.prog.underlying 34 = some (.struct #[f0, f1, f2, f3]) ∧ oneCellFields Tryz.prog #[f0, f1, f2, f3] = true ∧ f0.type = 9 ∧ f1.type = 9 ∧ f2.type = 4 ∧ f3.type = 2 :=
  ⟨_, _, _, _, Tryz.underlying34, by kernel_rfl, rfl, rfl, rfl, rfl⟩
/-- A list of entries that came in. -/
theorem open_ents {fuel : Nat} {cs : List Value} {x : DataW H × List MemPlace} (h : DataW.trod enc Tryz.prog w 0 (fun _ => true) true fuel 22 cs = some x) :
    ∃ a c l, cs = [.slice a l.length c] ∧ Ents w a l ∧ l.length ≤ c ∧ c ≤ maxLen := by
  rcases open_slice Tryz.underlying22 h with ⟨rfl, _⟩ | ⟨a, len, cap, m, n, D, Pl, rfl, _, hl, hm, hmm, _, hi⟩
  · exact ⟨none, 0, [], rfl, ⟨by simp, fun h => absurd rfl h⟩, Nat.le_refl _, by unfold maxLen; omega⟩
  · have hm' : m = cap := by simpa using hmm
    rw [show Tryz.prog.cellsOf 34 = 4 by kernel_rfl] at hi
    have each : ∀ i, i < len → ∃ y : Ent, y.ok ∧ w.cell? (a.add (i * 4)) = some (.string y.key) ∧ w.cell? (a.add (i * 4 + 1)) = some (.string y.val) ∧ w.cell? (a.add (i * 4 + 2)) = some (.bool y.dead) ∧ w.cell? (a.add (i * 4 + 3)) = some (.int .i64 y.seq) := by
      intro i hlt
      obtain ⟨cs', hc, ht⟩ := hi i (by omega)
      obtain ⟨_, hcl, hat⟩ := World.cells?_some hc
      obtain ⟨F0, F1, F2, F3, hund, hone, t0, t1, t2, t3⟩ := ent_fields
      obtain ⟨ys, n', _, _, _, hyl, hf⟩ := DataW.trod_struct hund ht
      match cs', hcl with
      | [v0, v1, v2, v3], _ =>
        match ys, hyl with
        | [y0, y1, y2, y3], _ =>
          have f0 := hf 0 F0 rfl
          have f1 := hf 1 F1 rfl
          have f2 := hf 2 F2 rfl
          have f3 := hf 3 F3 rfl
          have hone := hone_of hone
          obtain ⟨o0, k0⟩ := hone 0 F0 rfl
          obtain ⟨o1, k1⟩ := hone 1 F1 rfl
          obtain ⟨o2, k2⟩ := hone 2 F2 rfl
          obtain ⟨o3, k3⟩ := hone 3 F3 rfl
          rw [o0, k0, t0] at f0
          rw [o1, k1, t1] at f1
          rw [o2, k2, t2] at f2
          rw [o3, k3, t3] at f3
          obtain ⟨s0, e0, _, h0⟩ := DataW.trod_string Tryz.underlying9 f0
          obtain ⟨s1, e1, _, h1⟩ := DataW.trod_string Tryz.underlying9 f1
          obtain ⟨s2, e2, _⟩ := DataW.trod_bool Tryz.underlying4 f2
          obtain ⟨s3, e3, _, h3⟩ := DataW.trod_int Tryz.underlying2 f3
          simp at e0 e1 e2 e3
          subst e0 e1 e2 e3
          simp [Lit.wf, IntKind.min, IntKind.max, IntKind.signed, IntKind.bits] at h3
          have g0 := hat 0 (by omega)
          have g1 := hat 1 (by omega)
          have g2 := hat 2 (by omega)
          have g3 := hat 3 (by omega)
          rw [Go.Deep.add_add] at g0 g1 g2 g3
          exact ⟨⟨s0, s1, s2, s3⟩, ⟨h0, h1, (show -9223372036854775808 ≤ s3 by omega), (show s3 ≤ 9223372036854775807 by omega)⟩, g0, g1, g2, g3⟩
    rcases Nat.eq_zero_or_pos len with hz | hpos
    · subst hz
      exact ⟨some a, cap, [], rfl, ⟨by simp, fun h => absurd rfl h⟩, by simp, hm⟩
    have hs : a.spot = none := by
      obtain ⟨y, _, g, _⟩ := each 0 hpos
      have := World.cell?_spot g
      simpa [Addr.add] using this
    obtain ⟨b, o, s⟩ := a
    simp only at hs; subst hs
    simp only [addr_add] at each
    obtain ⟨l, hll, hlq⟩ := list_of _ len each
    refine ⟨some ⟨b, o, none⟩, cap, l, by rw [hll], ⟨fun y hy => ?_, fun hn => ?_⟩, by omega, hm⟩
    · obtain ⟨i, hi, rfl⟩ := List.getElem_of_mem hy
      exact (hlq i _ (List.getElem?_eq_getElem hi)).1
    · refine ⟨b, o, rfl, fun i y hy => ?_⟩
      obtain ⟨_, g0, g1, g2, g3⟩ := hlq i y hy
      exact ⟨g0, by rw [Nat.add_assoc]; exact g1, by rw [Nat.add_assoc]; exact g2, by rw [Nat.add_assoc]; exact g3⟩

/-- A list of strings that came in. -/
theorem open_strs' {fuel : Nat} {cs : List Value} {x : DataW H × List MemPlace} (h : DataW.trod enc Tryz.prog w 0 (fun _ => true) true fuel 59 cs = some x) :
    ∃ a c l, cs = [.slice a l.length c] ∧ Strs w a l ∧ l.length ≤ c ∧ c ≤ maxLen := by
  rcases open_strings Tryz.underlying59 Tryz.underlying9 (by kernel_rfl) h with ⟨rfl, _⟩ | ⟨a, len, cap, ss, rfl, _, hl, hm, hss, _, hcell, hws⟩
  · exact ⟨none, 0, [], rfl, ⟨by simp, fun h => absurd rfl h⟩, Nat.le_refl _, by unfold maxLen; omega⟩
  · have hss' : ss.length = cap := by simpa using hss
    rcases Nat.eq_zero_or_pos len with hz | hpos
    · subst hz
      exact ⟨some a, cap, [], rfl, ⟨by simp, fun h => absurd rfl h⟩, by simp, hm⟩
    have hs : a.spot = none := by
      have := World.cell?_spot (hcell 0 (by omega))
      simpa [Addr.add] using this
    obtain ⟨b, o, s⟩ := a
    simp only at hs; subst hs
    simp only [addr_add] at hcell
    refine ⟨some ⟨b, o, none⟩, cap, ss.take len, by rw [List.length_take, Nat.min_eq_left (by omega)], ⟨fun y hy => hws y (List.mem_of_mem_take hy), fun hn => ?_⟩, by simp; omega, hm⟩
    refine ⟨b, o, rfl, fun i y hy => ?_⟩
    have hi : i < len := by have := (List.getElem?_eq_some_iff.1 hy).1; simp at this; omega
    rw [List.getElem?_take_of_lt hi] at hy
    have := hcell i (by omega)
    rw [this]; simp [List.getD, hy]

/-- What a list of entries is behind its opening, as the row gives it. -/
theorem arg_ents {base : Nat} {v : Value} {d : DataW H} {p : List MemPlace} (hv : Value.okWide Tryz.prog w .any base 22 v) (h : DataW.Trod enc Tryz.prog w 0 (fun _ => true) true 22 v d p) :
    ∃ a c l, v = .slice a l.length c ∧ Ents w a l ∧ l.length ≤ c ∧ c ≤ maxLen := by
  obtain ⟨a, n, c, rfl⟩ := okWide_slice Tryz.underlying22 hv
  obtain ⟨fuel, hf⟩ := h
  obtain ⟨a', c', l, h1, h2, h3, h4⟩ := open_ents hf
  simp [Value.cells] at h1
  obtain ⟨rfl, rfl, rfl⟩ := h1
  exact ⟨_, _, l, rfl, h2, h3, h4⟩
/-- A string. -/
theorem arg_string {base : Nat} {v : Value} {d : DataW H} {p : List MemPlace} (hv : Value.okWide Tryz.prog w .any base 9 v) (h : DataW.Trod enc Tryz.prog w 0 (fun _ => true) true 9 v d p) :
    ∃ s, v = .string s ∧ s.size ≤ maxLen := by
  obtain ⟨s, e, _, _, b⟩ := Go.ChangeMaps.open_string Tryz.underlying9 hv h
  exact ⟨s, e, b⟩
/-- An int. -/
theorem arg_int {base : Nat} {v : Value} {d : DataW H} {p : List MemPlace} (hv : Value.okWide Tryz.prog w .any base 3 v) (h : DataW.Trod enc Tryz.prog w 0 (fun _ => true) true 3 v d p) :
    ∃ s, v = .int .i64 s ∧ -9223372036854775808 ≤ s ∧ s ≤ 9223372036854775807 := by
  obtain ⟨s, e, _, _, b⟩ := open_int Tryz.underlying3 hv h
  simp [Lit.wf, IntKind.min, IntKind.max, IntKind.signed, IntKind.bits] at b
  exact ⟨s, e, by omega, by omega⟩
/-- A bool. -/
theorem arg_bool {base : Nat} {v : Value} {d : DataW H} {p : List MemPlace} (hv : Value.okWide Tryz.prog w .any base 4 v) (h : DataW.Trod enc Tryz.prog w 0 (fun _ => true) true 4 v d p) :
    ∃ b, v = .bool b := by
  obtain ⟨b, e, _⟩ := open_bool Tryz.underlying4 hv h
  exact ⟨b, e⟩
theorem lt_of_trod {d : DataW H} {t : TypeId} {v : Value} {p : List MemPlace} (h : DataW.Trod enc Tryz.prog w 0 (fun _ => true) true t v d p) : ∀ x ∈ p, x.block < w.heap.size := by
  obtain ⟨m, hm⟩ := h; exact DataW.trod_lt m _ _ _ hm
theorem own : ownKnob Tryz.prog.godebug = none := by kernel_rfl
theorem laidOut : laidOutB Tryz.prog = true := by kernel_rfl
end
end Go.Proofs.YtcgpkcaaojkpcaaGreatDoor
