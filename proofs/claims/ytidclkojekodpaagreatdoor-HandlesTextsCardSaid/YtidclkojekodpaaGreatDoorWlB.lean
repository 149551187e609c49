
/-
  Contracts of words: Lines.
-/
import Derived.Test.YtidclkojekodpaaGreatDoorWlA
namespace Go.Proofs.YtidclkojekodpaaGreatDoor
open Go.RowKit
set_option linter.unusedSimpArgs false
set_option linter.unusedVariables false
set_option maxRecDepth 100000

theorem spl_len : ∀ (l cur : List UInt8), ∀ x ∈ spl cur l, x.length ≤ cur.length + l.length
  | [], cur, x, h => by simp [spl] at h
  | c :: l, cur, x, h => by
    rw [spl] at h
    split at h
    · rcases List.mem_cons.1 h with rfl | h
      · omega
      · have := spl_len l [] x h
        simp at this ⊢; omega
    · have := spl_len l _ x h
      simp at this ⊢; omega
def wlines (l : List UInt8) : List (List UInt8) × Int := if 1048576 < l.length then ([], 3) else if l = [] then ([], 0) else if Lib.hasSuffix l [10] = false then ([], 6) else if 5000 < (spl [] l).length then ([], 3) else (spl [] l, 0)
/-- Lines as a result. -/
def LinesIs (r : List (List UInt8) × Int) (w : World) (v : Value) : Prop := ∃ a c, ∃ L : List ByteArray, v = .tuple #[.slice a L.length c, .int .i64 r.2] ∧ Strs w a L ∧ L.map (·.data.toList) = r.1 ∧ L.length ≤ 5000
theorem lines_none (w : World) (k : Int) : LinesIs ([], k) w (.tuple #[.slice none 0 0, .int .i64 k]) := ⟨none, 0, [], rfl, ⟨by simp, fun h => absurd rfl h⟩, rfl, by simp⟩
theorem suffix_cut {s : ByteArray} (h : Lib.hasSuffix s.data.toList [10] = true) : 1 ≤ s.size ∧ (s.extract 0 (s.size - 1)).data.toList ++ [10] = s.data.toList := by
  unfold Lib.hasSuffix at h
  obtain ⟨t, ht⟩ := List.isSuffixOf_iff_suffix.1 h
  have hl : s.size = t.length + 1 := by
    rw [Lib.size_eq, ← ht, List.length_append]; rfl
  refine ⟨by omega, ?_⟩
  rw [Lib.extract_from_zero, ← ht, hl]
  simp
theorem strs_new (w : World) (L : List ByteArray) (ho : ∀ x, x ∈ L → x.size ≤ maxLen) : Strs (w.alloc (.cells (L.map Value.string).toArray 9)) (some ⟨w.heap.size, 0, none⟩) L := by
  refine ⟨ho, fun hn => ⟨w.heap.size, 0, rfl, fun i x hx => ?_⟩⟩
  rw [Nat.zero_add, new_cell]
  simp [hx]
set_option maxHeartbeats 4000000 in
theorem woLines (s : ByteArray) (w : World) (hs : s.size ≤ 2000000) : Calls Tryz.prog 19 #[.string s] w (RM w (LinesIs (wlines s.data.toList))) := by
  obtain ⟨res, hres⟩ : ∃ r, wlines s.data.toList = r := ⟨_, rfl⟩
  rw [hres]
  unfold wlines at hres
  have hsz : s.data.toList.length = s.size := (Lib.size_eq s).symm
  rw [hsz] at hres
  by_cases h1 : 1048576 < s.size
  · rw [if_pos h1] at hres
    subst hres
    have i1 : (1048576 : Int) < (s.size : Int) := by omega
    clear h1 hsz
    go_enter Tryz.func19, Tryz.ntmps19
    go_wp2_with fail
    go_ret2
    exact RM.mk (lines_none _ _) (by repeat (first | assumption | exact Bl.refl _ | apply Bl.drewN | apply Bl.drew | apply Bl.alloc | (refine Bl.dr ?_ (by assumption)) | (refine Bl.trans ?_ (by assumption))))
  · rw [if_neg h1] at hres
    have i1 : ¬ (1048576 : Int) < (s.size : Int) := by omega
    by_cases h2 : s.data.toList = []
    · rw [if_pos h2] at hres
      subst hres
      obtain rfl : s = ⟨#[]⟩ := by apply ByteArray.ext; apply Array.ext'; simpa using h2
      clear h1 h2 hsz i1 hs
      go_enter Tryz.func19, Tryz.ntmps19
      go_wp2_with fail
      go_ret2
      exact RM.mk (lines_none _ _) (by repeat (first | assumption | exact Bl.refl _ | apply Bl.drewN | apply Bl.drew | apply Bl.alloc | (refine Bl.dr ?_ (by assumption)) | (refine Bl.trans ?_ (by assumption))))
    · rw [if_neg h2] at hres
      have hne : s.toList.isEmpty = false := by
        rw [Lib.toList_data]
        match s.data.toList, h2 with
        | [], h => exact absurd rfl h
        | _ :: _, _ => rfl
      have hH := fun w => Tryz.strings_HasSuffix s ⟨#[10]⟩ w (by omega)
      obtain ⟨b, hb⟩ : ∃ b, Lib.hasSuffix s.data.toList [10] = b := ⟨_, rfl⟩
      rw [show (⟨#[10]⟩ : ByteArray).data.toList = [10] from rfl, hb] at hH
      rw [hb] at hres
      have HH := Lib.hid hH
      clear hH h2
      cases b
      · rw [if_pos rfl] at hres
        subst hres
        clear hb hsz h1
        go_enter Tryz.func19, Tryz.ntmps19
        go_wp2_with fail
        refine (HH.out _).mono ?_; rintro e w1 ⟨rfl, hw1⟩; rw [hw1]
        go_wp2_with fail
        go_ret2
        exact RM.mk (lines_none _ _) (by repeat (first | assumption | exact Bl.refl _ | apply Bl.drewN | apply Bl.drew | apply Bl.alloc | (refine Bl.dr ?_ (by assumption)) | (refine Bl.trans ?_ (by assumption))))
      · rw [if_neg (by simp)] at hres
        obtain ⟨hpos, hcat⟩ := suffix_cut hb
        obtain ⟨t, ht⟩ : ∃ t, s.extract 0 (s.size - 1) = t := ⟨_, rfl⟩
        rw [ht] at hcat
        have htl : t.size + 1 = s.size := by rw [← ht, ByteArray.size_extract]; omega
        have hC := fun w => woSplitN t w (by omega)
        have hlen := Lib.splitB_all ⟨#[10]⟩ (by decide) 0 _ t rfl
        have hmap := splitB_spl t
        generalize Lib.countB t ⟨#[10]⟩ = n at hC hlen hmap
        generalize Lib.splitB ⟨#[10]⟩ 0 n t = L at hC hlen hmap
        rw [hcat] at hmap
        have hll : (spl [] s.data.toList).length = n + 1 := by rw [← hmap, List.length_map, hlen]
        have hok : ∀ x, x ∈ L → x.size ≤ maxLen := by
          intro x hx
          have := spl_len s.data.toList [] x.data.toList (by rw [← hmap]; exact List.mem_map_of_mem hx)
          rw [← Lib.size_eq, hsz] at this
          simp at this; unfold maxLen; omega
        rw [hll] at hres
        have j1 : (0 : Int) ≤ (s.size : Int) - 1 := by omega
        have j2 : (s.size : Int) - 1 ≤ (s.size : Int) := by omega
        have j3 : ((s.size : Int) - 1).toNat = s.size - 1 := by omega
        have HC := Lib.hid hC
        have HT := Lib.hid ht
        have HK := Lib.hid hok
        have HM := Lib.hid hmap
        have HLn := Lib.hid hlen
        clear hC ht hok hmap hlen hb hsz h1 hll hcat htl
        by_cases h5 : 5000 < n + 1
        · rw [if_pos h5] at hres
          subst hres
          have i5 : (5000 : Int) < (n : Int) + 1 := by omega
          clear h5
          go_enter Tryz.func19, Tryz.ntmps19
          go_wp2_with fail
          refine (HH.out _).mono ?_; rintro e w1 ⟨rfl, hw1⟩; rw [hw1]
          go_wp2_with fail
          rw [HT.out]
          refine (HC.out _).mono ?_; rintro e w2 ⟨rfl, hw2⟩; rw [hw2]
          go_wp2_with fail
          go_ret2
          exact RM.mk (lines_none _ _) (by repeat (first | assumption | exact Bl.refl _ | apply Bl.drewN | apply Bl.drew | apply Bl.alloc | (refine Bl.dr ?_ (by assumption)) | (refine Bl.trans ?_ (by assumption))))
        · rw [if_neg h5] at hres
          subst hres
          have i5 : ¬ (5000 : Int) < (n : Int) + 1 := by omega
          have hn5 : n + 1 ≤ 5000 := by omega
          clear h5
          go_enter Tryz.func19, Tryz.ntmps19
          go_wp2_with fail
          refine (HH.out _).mono ?_; rintro e w1 ⟨rfl, hw1⟩; rw [hw1]
          go_wp2_with fail
          rw [HT.out]
          refine (HC.out _).mono ?_; rintro e w2 ⟨rfl, hw2⟩; rw [hw2]
          go_wp2_with fail
          go_ret2
          refine RM.mk ⟨some ⟨w.heap.size, 0, none⟩, n + 1, L, by rw [HLn.out]; rfl, strs_new w L HK.out, HM.out, by rw [HLn.out]; exact hn5⟩ (by repeat (first | assumption | exact Bl.refl _ | apply Bl.drewN | apply Bl.drew | apply Bl.alloc | (refine Bl.dr ?_ (by assumption)) | (refine Bl.trans ?_ (by assumption))))
end Go.Proofs.YtidclkojekodpaaGreatDoor
