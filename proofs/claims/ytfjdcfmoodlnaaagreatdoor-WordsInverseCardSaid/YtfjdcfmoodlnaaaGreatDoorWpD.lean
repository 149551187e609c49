
/-
  Contracts of words (over 01.ZD): the reference's parts.
-/
import Derived.Test.YtfjdcfmoodlnaaaGreatDoorWpA
import Derived.Laws.AppendOwn
namespace Go.Proofs.YtfjdcfmoodlnaaaGreatDoor
open Go.RowKit
set_option linter.unusedSimpArgs false
set_option linter.unusedVariables false
set_option maxRecDepth 100000

theorem pcs_take {b : UInt8} {l : List UInt8} {fr i : Nat} {c : UInt8} (hf : fr ≤ i) (hc : l[i]? = some c) : pcs b ((l.take i).drop fr) (l.drop i) = if c = b then (l.take i).drop fr :: pcs b [] (l.drop (i + 1)) else pcs b ((l.take (i + 1)).drop fr) (l.drop (i + 1)) := by
  obtain ⟨hi, he⟩ := List.getElem?_eq_some_iff.1 hc
  rw [List.drop_eq_getElem_cons hi, he, pcs]
  have e : (l.take (i + 1)).drop fr = (l.take i).drop fr ++ [c] := by
    rw [List.take_succ_eq_append_getElem hi, he, List.drop_append]
    rw [show fr - (l.take i).length = 0 by rw [List.length_take]; omega]
    simp
  rw [e]
theorem ext_list2 (s : ByteArray) (fr i : Nat) : (s.extract fr i).data.toList = (s.data.toList.take i).drop fr := by
  rw [Lib.extract_data, List.drop_take]
theorem u8_eqd {c d : UInt8} : ((c.toNat : Int) == (d.toNat : Int)) = decide (c = d) := by
  by_cases h : c = d
  · subst h; simp
  · rw [decide_eq_false h, beq_eq_false_iff_ne]
    intro e
    exact h (UInt8.toNat_inj.1 (by omega))
/-- Pieces of a string in memory. -/
def PcsIs (r : List (List UInt8)) (w : World) (v : Value) : Prop := ∃ a c, ∃ L : List ByteArray, v = .slice a L.length c ∧ Strs w a L ∧ L.map (·.data.toList) = r
set_option maxHeartbeats 4000000 in
theorem refParts (s : ByteArray) (c : UInt8) (w : World) (hs : s.size ≤ 2000000) : Calls Tryz.prog 33 #[.string s, .int .u8 (c.toNat : Nat)] w (RM w (PcsIs (pcs c [] s.data.toList))) := by
  obtain ⟨i0, hi, hz0, hz1, hz2⟩ := info_parts inf_string
  obtain ⟨res, hres⟩ : ∃ r, pcs c [] s.data.toList = r := ⟨_, rfl⟩
  rw [hres]
  have HRes := Lib.hid hres
  have hsz : s.data.toList.length = s.size := (Lib.size_eq s).symm
  clear hres
  go_enter Tryz.func33, Tryz.ntmps33
  go_wp2_with fail
  go_loopg [5, 6, 7] s.size (fun g o f i wr => ∃ (fr k : Nat) (D : List ByteArray), f = .int .i64 fr ∧ i = .int .i64 k ∧ fr ≤ k ∧ k ≤ s.size ∧ wr.ownsRow w.heap.size 9 1 o D.length (D.map Value.string) ∧ D.map (·.data.toList) ++ pcs c ((s.data.toList.take k).drop fr) (s.data.toList.drop k) = res ∧ D.length ≤ k ∧ (∀ x ∈ D, x.size ≤ s.size) ∧ Bl w wr ∧ g = s.size - k)
  case atStart => exact ⟨0, 0, [], rfl, rfl, Nat.le_refl _, Nat.zero_le _, own_nil _ _ _ _, by simpa using HRes.out, Nat.le_refl _, by simp, Bl.refl _, rfl⟩
  case round =>
    obtain ⟨fr, k, D, rfl, rfl, hfk, hks, hown, hsp, hDl, hD, hbw, hg⟩ := hrel
    have G := Lib.hid hg
    have HSp := Lib.hid hsp
    have HD := Lib.hid hD
    clear hg hsp hD
    by_cases hkl : k < s.size
    · obtain ⟨d, hd⟩ : ∃ d, s[k]'hkl = d := ⟨_, rfl⟩
      have hd2 : s.data.toList[k]? = some d := by rw [← hd]; simp [ByteArray.getElem_eq_getElem_data]
      have ht := pcs_take (b := c) hfk hd2
      have hq := u8_eqd (c := s[k]'hkl) (d := c)
      have j0 : (0 : Int) ≤ (k : Int) := by omega
      have j1 : (k : Int) < (s.size : Int) := by omega
      by_cases hdc : d = c
      · rw [if_pos hdc] at ht
        have t1 : (((s[k]'hkl).toNat : Int) == (c.toNat : Int)) = true := by rw [hq, hd]; exact decide_eq_true hdc
        have j3 : (fr : Int) ≤ (k : Int) := by omega
        have HT := Lib.hid ht
        have HO := Lib.hid hown
        clear hd hd2 ht hdc hown hq
        obtain ⟨q, hq⟩ : ∃ q, s.extract fr k = q := ⟨_, rfl⟩
        have hql : q.data.toList = (s.data.toList.take k).drop fr := by rw [← hq]; exact ext_list2 s fr k
        have hqs : q.size ≤ s.size := by rw [← hq, ByteArray.size_extract]; omega
        have HQ := Lib.hid hq
        have HQL := Lib.hid hql
        have HQS := Lib.hid hqs
        have hsz := hbw.size
        have hown := HO.out
        clear hq hql hqs
        go_wp2_with (at_builtin; refine wpList_append_own _ rfl _ _ 61 rfl w.heap.size 9 i0 (.string ⟨#[]⟩) 1 16 Tryz.underlying61 hi hz0 hz1 hz2 rfl (by decide) _ _ _ rfl (hown.alloc _) ⟨wr.heap.size, 0, none⟩ 1 1 [.string q] rfl rfl ?c1a ?c2a ?c3a ?c4a ?c5a ?_)
        case c1a => rw [HQ.out]; exact one_new _ _ _
        case c2a => intro u hu; simp at hu; subst hu; rfl
        case c3a => unfold maxLen; omega
        case c4a => omega
        case c5a => simp; omega
        intro v' w3 hown2 hgrow _
        rw [HQ.out] at hgrow
        have hb3 := grown_bl (hbw.alloc _) (hown.alloc _) hgrow (Nat.le_refl _)
        have hown3 : w3.ownsRow w.heap.size 9 1 v' (D ++ [q]).length ((D ++ [q]).map Value.string) := by
          rw [List.length_append, List.map_append]; exact hown2
        have hsp2 : (D ++ [q]).map (·.data.toList) ++ pcs c ((s.data.toList.take (k + 1)).drop (k + 1)) (s.data.toList.drop (k + 1)) = res := by
          rw [← HSp.out, HT.out, List.map_append, List.append_assoc]
          rw [show (s.data.toList.take (k + 1)).drop (k + 1) = [] by rw [List.drop_take]; simp]
          simp only [List.map_cons, List.map_nil, HQL.out, List.singleton_append]
        have hD2 : ∀ x ∈ D ++ [q], x.size ≤ s.size := by
          intro x hx
          rcases List.mem_append.1 hx with hx | hx
          · exact HD.out x hx
          · simp at hx; subst hx; exact HQS.out
        have HW := Lib.hid hown3
        have HS2 := Lib.hid hsp2
        have HD2 := Lib.hid hD2
        clear hown hown2 hown3 hgrow hsp2 hD2
        go_wp2_with fail
        go_roundg (s.size - (k + 1))
        case rel => exact ⟨k + 1, k + 1, D ++ [q], by go_num, by go_num, by omega, by omega, HW.out, HS2.out, by simp; omega, HD2.out, hb3, rfl⟩
        case measure => rw [G.out]; omega
      · rw [if_neg hdc] at ht
        have t1 : (((s[k]'hkl).toNat : Int) == (c.toNat : Int)) = false := by rw [hq, hd]; exact decide_eq_false hdc
        have HT := Lib.hid ht
        have HO := Lib.hid hown
        clear hd hd2 ht hdc hown hq
        go_wp2_with fail
        go_roundg (s.size - (k + 1))
        case rel => exact ⟨fr, k + 1, D, rfl, by go_num, by omega, by omega, HO.out, by rw [← HT.out]; exact HSp.out, by omega, HD.out, hbw, rfl⟩
        case measure => rw [G.out]; omega
    · obtain rfl : k = s.size := by omega
      obtain ⟨q, hq⟩ : ∃ q, s.extract fr s.size = q := ⟨_, rfl⟩
      have hql : q.data.toList = (s.data.toList.take s.size).drop fr := by rw [← hq]; exact ext_list2 s fr s.size
      have hqs : q.size ≤ s.size := by rw [← hq, ByteArray.size_extract]; omega
      have j3 : (fr : Int) ≤ (s.size : Int) := by omega
      have hfin : (D ++ [q]).map (·.data.toList) = res := by
        rw [← HSp.out, show s.data.toList.drop s.size = [] from List.drop_of_length_le (by rw [← Lib.size_eq]; exact Nat.le_refl _), pcs, List.map_append, ← hql]; rfl
      have HQ := Lib.hid hq
      have HF := Lib.hid hfin
      have HQS := Lib.hid hqs
      have hsz2 := hbw.size
      clear hq hql hqs hfin HSp hsz
      go_wp2_with (at_builtin; refine wpList_append_own _ rfl _ _ 61 rfl w.heap.size 9 i0 (.string ⟨#[]⟩) 1 16 Tryz.underlying61 hi hz0 hz1 hz2 rfl (by decide) _ _ _ rfl (hown.alloc _) ⟨wr.heap.size, 0, none⟩ 1 1 [.string q] rfl rfl ?c1b ?c2b ?c3b ?c4b ?c5b ?_)
      case c1b => rw [HQ.out]; exact one_new _ _ _
      case c2b => intro u hu; simp at hu; subst hu; rfl
      case c3b => unfold maxLen; omega
      case c4b => omega
      case c5b => simp; omega
      intro v' w3 hown2 hgrow _
      rw [HQ.out] at hgrow
      have hb3 := grown_bl (hbw.alloc _) (hown.alloc _) hgrow (Nat.le_refl _)
      have hown3 : w3.ownsRow w.heap.size 9 1 v' (D ++ [q]).length ((D ++ [q]).map Value.string) := by
        rw [List.length_append, List.map_append]; exact hown2
      obtain ⟨a, c9, rfl, hS, hc1, hc2⟩ := own_strs hown3 (fun x hx => by
        rcases List.mem_append.1 hx with hx | hx
        · have := HD.out x hx; unfold maxLen; omega
        · simp at hx; subst hx; have := HQS.out; unfold maxLen; omega)
      have HS := Lib.hid hS
      obtain ⟨L, hL⟩ : ∃ L, D ++ [q] = L := ⟨_, rfl⟩
      rw [hL] at HS HF ⊢
      clear hown hown2 hown3 hgrow hS hL
      go_wp2_with fail
      go_ret
      exact RM.mk ⟨a, c9, L, rfl, HS.out, HF.out⟩ hb3
end Go.Proofs.YtfjdcfmoodlnaaaGreatDoor
